/- The walk of the law BestCosts. -/
import Derived.Test.YtlcpkngbpjfnjaaMono
import Derived.Test.YtlcpkngbpjfnjaaCost
import Derived.Test.YtlcpkngbpjfnjaaRefCost
import Derived.Test.YtlcpkngbpjfnjaaBad
import Derived.Test.YtlcpkngbpjfnjaaOpenTable
namespace Go.Proofs.Ytlcpkngbpjfnjaa
set_option linter.unusedVariables false
set_option linter.unusedSimpArgs false
open Go.RowKit
theorem costZ_bad : costZ (List.replicate 16 0) [1] [] = (0, 4) := by
  have h : checkZ (List.replicate 16 0) [1] = 4 := by decide
  unfold costZ
  rw [if_neg (by rw [h]; decide), h]
/-- the bad table, whatever it is: Cost says no -/
theorem bad_absC (w : World) : Calls Try.prog 8 #[] w fun e w' => ∃ tv, e = .returned (.agg tv) ∧ Hid (∀ W, Ext w' W → Calls Try.prog 6 #[.agg tv, .slice none 0 0] W fun e W' => e = .returned (.tuple #[.int .i64 0, .int .i64 4]) ∧ Ext W W') ∧ Ext w w' :=
  (bad_any w).mono fun _ _ ⟨g, he, hs, hx⟩ => ⟨_, he, hid_ (fun W hW => by
    have := cost_any (List.replicate 16 0) [1] [] (.slice (some ⟨g, 0, none⟩) 1 1) (.slice none 0 0) W (by simp) (hs.ext hW) (SL.nil _ _)
    rwa [costZ_bad] at this), hx⟩
end Go.Proofs.Ytlcpkngbpjfnjaa
namespace Go.Proofs.Ytlcpkngbpjfnjaa.bestCosts
open Go.RowKit
set_option maxRecDepth 20000 in
set_option maxHeartbeats 1000000 in
theorem walk (cs xs : List Int) (sl : Value) (hl : cs.length = 16) (_ : ∀ z ∈ cs, inI64 z) (_ : ∀ z ∈ xs, inI64 z) (sv : Value) (counts : List Int) (_ : ∀ z ∈ counts, inI64 z) (w : World) (hs : SL w 1 sl xs.length (ints xs)) (hv : SL w 1 sv counts.length (ints counts)) :
    Calls Try.prog 3 #[.agg (tblv cs sl), sv] w fun e w' => e = .returned (.bool true) ∧ Ext w w' := by
  have H1 := hid_ (fun W h h2 => cost_any cs xs counts sl sv W hl h h2)
  have H2 := hid_ (fun W h h2 => rcost_any cs xs counts sl sv W hl h h2)
  have H3 := hid_ (fun W => bad_absC W)
  have hts := hid_ (tblv_size cs sl hl)
  generalize tblv cs sl = tv at *
  generalize costZ cs xs counts = z at *
  obtain ⟨out, er⟩ := z
  simp only at H1 H2
  have e1 : (er == er) = true := by simp
  have e2 : (out == out) = true := by simp
  go_enter Try.func3, Try.ntmps3
  go_wp2_with (first
    | (refine wpList_box_abs rfl 25 (.tmp 0) rfl tv rfl ?_; intro w1 g hb1 hx1 hg; have hs1 := hs.ext hx1; have hv1 := hv.ext hx1)
    | (refine wpList_load_blk rfl 25 (.tmp 2) rfl _ rfl hb1 _ Try.underlying25 rfl 17 sizeTbl hts.out ?_)
    | (go_at_call 6; (with_reducible refine (H1.out _ hs1 hv1).mono ?_); rintro e w2 ⟨rfl, hx2⟩; have hb2 := hb1.ext hx2; have hst2 := hs1.ext hx2; have hsv2 := hv1.ext hx2)
    | (refine wpList_load_blk rfl 25 (.tmp 2) rfl _ rfl hb2 _ Try.underlying25 rfl 17 sizeTbl hts.out ?_)
    | (go_at_call 7; (with_reducible refine (H2.out _ hst2 hsv2).mono ?_); rintro e w3 ⟨rfl, hx3⟩)
    | (go_at_call 8; (with_reducible refine (H3.out _).mono ?_); rintro e w6 ⟨tb, rfl, hck, hx6⟩)
    | (go_at_call 6; (with_reducible refine (hck.out _ (Ext.refl _)).mono ?_); rintro e w7 ⟨rfl, hx7⟩))
  go_ret
  exact ⟨rfl, (((hx1.trans hx2).trans hx3).trans hx6).trans hx7⟩
end Go.Proofs.Ytlcpkngbpjfnjaa.bestCosts
