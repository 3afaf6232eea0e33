/- The walk of the law TableChecks. -/
import Derived.Test.YtdldkmplgfhnkaaMono
import Derived.Test.YtdldkmplgfhnkaaCheck
import Derived.Test.YtdldkmplgfhnkaaRefCheck
import Derived.Test.YtdldkmplgfhnkaaBad
import Derived.Test.YtdldkmplgfhnkaaOpenTable
namespace Go.Proofs.Ytdldkmplgfhnkaa
set_option linter.unusedVariables false
set_option linter.unusedSimpArgs false
open Go.RowKit
theorem checkZ_bad : checkZ (List.replicate 16 0) [1] = 4 := by decide
theorem check_bad (w : World) (g : Nat) (hs : SL w 1 (.slice (some ⟨g, 0, none⟩) 1 1) 1 (ints [1])) :
    Calls Try.prog 9 #[.agg (tblv (List.replicate 16 0) (.slice (some ⟨g, 0, none⟩) 1 1))] w fun e w' => e = .returned (.int .i64 4) ∧ Ext w w' := by
  have := check_any (List.replicate 16 0) [1] (.slice (some ⟨g, 0, none⟩) 1 1) w (by simp) hs
  rwa [checkZ_bad] at this
/-- the bad table, whatever it is: Check says no -/
theorem bad_abs (w : World) : Calls Try.prog 11 #[] w fun e w' => ∃ tv, e = .returned (.agg tv) ∧ Hid (∀ W, Ext w' W → Calls Try.prog 9 #[.agg tv] W fun e W' => e = .returned (.int .i64 4) ∧ Ext W W') ∧ Ext w w' :=
  (bad_any w).mono fun _ _ ⟨g, he, hs, hx⟩ => ⟨_, he, hid_ (fun W hW => check_bad W g (hs.ext hW)), hx⟩
end Go.Proofs.Ytdldkmplgfhnkaa
namespace Go.Proofs.Ytdldkmplgfhnkaa.tableChecks
open Go.RowKit
set_option maxRecDepth 20000 in
set_option maxHeartbeats 1000000 in
theorem walk (cs xs : List Int) (sl : Value) (hl : cs.length = 16) (_ : ∀ z ∈ cs, inI64 z) (_ : ∀ z ∈ xs, inI64 z) (w : World) (hs : SL w 1 sl xs.length (ints xs)) :
    Calls Try.prog 3 #[.agg (tblv cs sl)] w fun e w' => e = .returned (.bool true) ∧ Ext w w' := by
  have H1 := hid_ (fun W h => check_any cs xs sl W hl h)
  have H2 := hid_ (fun W h => rcheck_any cs xs sl W hl h)
  have H3 := hid_ (fun W => bad_any W)
  have H4 := hid_ (fun W g h => check_bad W g h)
  have hts := hid_ (tblv_size cs sl hl)
  generalize tblv cs sl = tv at *
  generalize checkZ cs xs = z at *
  have e1 : (z == z) = true := by simp
  go_enter Try.func3, Try.ntmps3
  go_wp2_with (refine wpList_box_abs rfl 25 (.tmp 0) rfl tv rfl ?_; intro w1 g hb1 hx1 hg)
  have hs1 := (hs.ext hx1).drew
  have hb1' := hb1.drew
  refine wp_region_lx later_ext (by kernel_rfl) (by kernel_rfl) ?_
  refine lx_load_blk (by rfl) 25 (.tmp 1) rfl g rfl (fun w h => hb1'.ext h) _ Try.underlying25 rfl 17 sizeTbl hts.out ?_
  simp only [Act.put, List.setIfInBounds_toArray, List.set_cons_succ, List.set_cons_zero]
  refine lx_callF (by rfl) 9 Try.func9 rfl rfl _ _ rfl #[.agg tv] (by simp [Act.eval]) (.int .i64 z) (fun W h => H1.out W (hs1.ext h)) ?_
  simp only [Act.put, List.setIfInBounds_toArray, List.set_cons_succ, List.set_cons_zero]
  refine lx_load_blk (by rfl) 25 (.tmp 1) rfl g rfl (fun w h => hb1'.ext h) _ Try.underlying25 rfl 17 sizeTbl hts.out ?_
  simp only [Act.put, List.setIfInBounds_toArray, List.set_cons_succ, List.set_cons_zero]
  refine lx_callF (by rfl) 10 Try.func10 rfl rfl _ _ rfl #[.agg tv] (by simp [Act.eval]) (.int .i64 z) (fun W h => H2.out W (hs1.ext h)) ?_
  simp only [Act.put, List.setIfInBounds_toArray, List.set_cons_succ, List.set_cons_zero]
  repeat (refine lx_ex (by rfl) ?_; apply Exists.intro; refine ⟨fun w hw => ?_, ?_⟩; · (go_simp; with_reducible rfl)
          simp only [Act.put, List.setIfInBounds_toArray, List.set_cons_succ, List.set_cons_zero])
  refine lx_callF_alone later_ext (by kernel_rfl) rfl (by rfl) 11 Try.func11 rfl rfl _ _ rfl #[] (by simp) (fun W hW => (H3.out W).mono ?_)
  rintro e w2 ⟨gb, rfl, hsb, hx2⟩
  refine ⟨_, rfl, hx2, ?_⟩
  simp only [Act.put, List.setIfInBounds_toArray, List.set_cons_succ, List.set_cons_zero]
  refine lx_callF (by rfl) 9 Try.func9 rfl rfl _ _ rfl #[.agg (tblv (List.replicate 16 0) (.slice (some ⟨gb, 0, none⟩) 1 1))] (by simp [Act.eval]) (.int .i64 4) (fun W h => H4.out W _ (hsb.ext h)) ?_
  simp only [Act.put, List.setIfInBounds_toArray, List.set_cons_succ, List.set_cons_zero]
  repeat (refine lx_ex (by rfl) ?_; apply Exists.intro; refine ⟨fun w hw => ?_, ?_⟩; · (go_simp; with_reducible rfl)
          simp only [Act.put, List.setIfInBounds_toArray, List.set_cons_succ, List.set_cons_zero])
  refine lx_nil ?_
  intro w3 hx3
  go_wp2_with fail
  go_ret
  exact ⟨rfl, (((hx1.drew).trans hW).trans hx2).trans hx3⟩
end Go.Proofs.Ytdldkmplgfhnkaa.tableChecks
