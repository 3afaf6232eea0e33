/- The walk of the law RunTokens. -/
import Derived.Test.YthnchhkiidlpkaaRunTokens
namespace Go.Proofs.Ythnchhkiidlpkaa.runTokens
open Go.RowKit
theorem zto_first (zs : List Int) (hz : zs.length = 64) (hal : allIn zs (-2047) 2047 = true) : -2047 ≤ (zto zs).getD 0 0 ∧ (zto zs).getD 0 0 ≤ 2047 := by
  have e : (zto zs).getD 0 0 = zs[0] := by
    have e0 : (zigAt 0).toNat = 0 := by decide
    simp [zto, e0, hz]
  rw [e]
  exact allIn_iff.1 hal _ (List.getElem_mem _)
set_option maxHeartbeats 400000 in
theorem walk (before : Int) (_ : (Lit.int .i64 before).wf = true) (zs : List Int) (hz : zs.length = 64) (_ : ∀ z ∈ zs, inI64 z) (w : World) :
    Calls Try.prog 10 #[.int .i64 before, .agg (bv zs)] w fun e w' => e = .returned (.bool true) ∧ Ext w w' := by
  have H3 := hid_ (fun W => rtok_bad 2048 zeros64 W rfl (.inl (by decide)))
  have hsz := hid_ ((bv_size zs).trans hz)
  have hbt := hid_ built48
  by_cases hok : inB before (-2047) 2047 = true ∧ allIn zs (-2047) 2047 = true
  · obtain ⟨h1, h2⟩ := hok
    obtain ⟨hb1, hb2⟩ := inB_iff.1 h1
    obtain ⟨h01, h02⟩ := zto_first zs hz h2
    have H1 := hid_ (fun W => rtok_good before zs W hz hb1 hb2 h2 h01 h02)
    have H2 := hid_ (fun W => rtokens_in before zs W hz hb1 hb2 h2 h01 h02)
    have HE := hid_ (fun W u v (a : SL W 3 u (tokensZ before (zto zs)).length (toks (tokensZ before (zto zs)))) (b : SL W 3 v (tokensZ before (zto zs)).length (toks (tokensZ before (zto zs)))) => eqTok_same u v _ W a b)
    generalize tokensZ before (zto zs) = T at *
    generalize bv zs = cz at *
    generalize bv zeros64 = c0 at *
    clear hz h1 h2 h01 h02 hb1 hb2
    go_enter Try.func10, Try.ntmps10
    go_wp2_with (first
      | (refine wpList_box_abs rfl 59 (.tmp 1) rfl cz rfl ?_; intro w1 gz hbz1 hx1 hgz)
      | (refine wpList_load_blk rfl 59 (.tmp 3) rfl _ rfl hbz1 _ Try.underlying59 rfl 64 size48 hsz.out ?_)
      | (go_at_call 34; (with_reducible refine (H1.out _).mono ?_); rintro e w2 ⟨A, c, rfl, hs2, hx2⟩; have hbz2 := hbz1.ext hx2)
      | (refine wpList_load_blk rfl 59 (.tmp 3) rfl _ rfl hbz2 _ Try.underlying59 rfl 64 size48 hsz.out ?_)
      | (go_at_call 35; (with_reducible refine (H2.out _).mono ?_); rintro e w3 ⟨B, d, rfl, hs3, hx3⟩)
      | (refine wpList_build0 rfl 59 rfl _ hbt.out ?_)
      | (go_at_call 34; (with_reducible refine (H3.out _).mono ?_); rintro e w4 ⟨rfl, hx4⟩; have hs24 := (hs2.ext hx3).ext hx4; have hs34 := hs3.ext hx4)
      | (go_at_call 36; (with_reducible refine (HE.out _ _ _ hs24 hs34).mono ?_); rintro e w5 ⟨rfl, hx5⟩))
    go_ret
    exact ⟨rfl, (((hx1.trans hx2).trans hx3).trans hx4).trans hx5⟩
  · have hbad : inB before (-2047) 2047 = false ∨ (inB before (-2047) 2047 = true ∧ allIn zs (-2047) 2047 = false) := by
      cases h1 : inB before (-2047) 2047 <;> cases h2 : allIn zs (-2047) 2047 <;> simp_all
    have H1 := hid_ (fun W => rtok_bad before zs W hz hbad)
    have H2 := hid_ (fun W => rtokens_out before zs W hz hbad)
    have HE := hid_ (fun W => eqTok_same (.slice none 0 0) (.slice none 0 0) [] W (SL.nil W 3) (SL.nil W 3))
    generalize bv zs = cz at *
    generalize bv zeros64 = c0 at *
    clear hz hok hbad
    go_enter Try.func10, Try.ntmps10
    go_wp2_with (first
      | (refine wpList_box_abs rfl 59 (.tmp 1) rfl cz rfl ?_; intro w1 gz hbz1 hx1 hgz)
      | (refine wpList_load_blk rfl 59 (.tmp 3) rfl _ rfl hbz1 _ Try.underlying59 rfl 64 size48 hsz.out ?_)
      | (go_at_call 34; (with_reducible refine (H1.out _).mono ?_); rintro e w2 ⟨rfl, hx2⟩; have hbz2 := hbz1.ext hx2)
      | (refine wpList_load_blk rfl 59 (.tmp 3) rfl _ rfl hbz2 _ Try.underlying59 rfl 64 size48 hsz.out ?_)
      | (go_at_call 35; (with_reducible refine (H2.out _).mono ?_); rintro e w3 ⟨rfl, hx3⟩)
      | (refine wpList_build0 rfl 59 rfl _ hbt.out ?_)
      | (go_at_call 34; (with_reducible refine (H3.out _).mono ?_); rintro e w4 ⟨rfl, hx4⟩)
      | (go_at_call 36; (with_reducible refine (HE.out _).mono ?_); rintro e w5 ⟨rfl, hx5⟩))
    go_ret
    exact ⟨rfl, (((hx1.trans hx2).trans hx3).trans hx4).trans hx5⟩
end Go.Proofs.Ythnchhkiidlpkaa.runTokens
