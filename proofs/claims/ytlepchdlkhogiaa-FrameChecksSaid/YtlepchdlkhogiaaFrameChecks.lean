/- The law FrameChecks, walked. -/
import Derived.Test.YtlepchdlkhogiaaFrameCheck
import Derived.Test.YtlepchdlkhogiaaPicCheck
import Derived.Test.YtlepchdlkhogiaaOpenPicture
import Derived.Test.YtlepchdlkhogiaaDraw
namespace Go.Proofs.Ytlepchdlkhogiaa
set_option linter.unusedVariables false
set_option linter.unusedSimpArgs false
open Go.RowKit
theorem builtPic : Try.prog.built 40 [] = some (picV 0 0 (.slice none 0 0)) := by kernel_rfl
theorem fchk_zero (w : World) : Calls Try.prog 18 #[.agg (picV 0 0 (.slice none 0 0))] w fun e w' => e = .returned (.int .i64 1) ∧ Ext w w' := by
  have := fchk_any 0 0 [] none 0 0 w (RowsS.nil w)
  have e : picE 0 0 [] = 1 := by decide
  rwa [e] at this
end Go.Proofs.Ytlepchdlkhogiaa
namespace Go.Proofs.Ytlepchdlkhogiaa.frameChecks
open Go.RowKit
set_option maxRecDepth 20000 in
set_option maxHeartbeats 1000000 in
theorem walk (wd hi : Int) (A : Option Addr) (n c : Nat) (L : List (List Int)) (_ : inI64 wd) (_ : inI64 hi) (w : World) (hr : RowsS w A n c L) :
    Calls Try.prog 5 #[.agg (picV wd hi (.slice A n c))] w fun e w' => e = .returned (.bool true) ∧ Ext w w' := by
  have H1 := hid_ (fun W h => fchk_any wd hi L A n c W h)
  have H2 := hid_ (fun W h => pchk_any wd hi L A n c W h)
  have H3 := hid_ (fun W => fchk_zero W)
  have hbt := hid_ builtPic
  have hsz := hid_ (picV_size wd hi (.slice A n c))
  generalize picV wd hi (.slice A n c) = pv at *
  generalize picV 0 0 (.slice none 0 0) = p0 at *
  generalize picE wd hi L = z at *
  have e1 : (z == z) = true := by simp
  go_enter Try.func5, Try.ntmps5
  go_wp2_with (refine wpList_box_abs rfl 40 (.tmp 0) rfl pv rfl ?_; intro w1 g hb1 hx1 hg)
  have hr1 : RowsS w1.drew A n c L := (hr.ext hx1).ext (Ext.refl w1).drew
  have hb1' := hb1.drew
  refine wp_region_lx later_ext (by kernel_rfl) (by kernel_rfl) ?_
  refine lx_load_blk (by rfl) 40 (.tmp 1) rfl g rfl (fun w h => hb1'.ext h) _ Try.underlying40 rfl 3 sizePic hsz.out ?_
  simp only [Act.put, List.setIfInBounds_toArray, List.set_cons_succ, List.set_cons_zero]
  refine lx_callF (by rfl) 18 Try.func18 rfl rfl _ _ rfl #[.agg pv] (by simp [Act.eval]) (.int .i64 z) (fun W h => H1.out W (hr1.ext h)) ?_
  simp only [Act.put, List.setIfInBounds_toArray, List.set_cons_succ, List.set_cons_zero]
  refine lx_load_blk (by rfl) 40 (.tmp 1) rfl g rfl (fun w h => hb1'.ext h) _ Try.underlying40 rfl 3 sizePic hsz.out ?_
  simp only [Act.put, List.setIfInBounds_toArray, List.set_cons_succ, List.set_cons_zero]
  refine lx_callF (by rfl) 19 Try.func19 rfl rfl _ _ rfl #[.agg pv] (by simp [Act.eval]) (.int .i64 z) (fun W h => H2.out W (hr1.ext h)) ?_
  simp only [Act.put, List.setIfInBounds_toArray, List.set_cons_succ, List.set_cons_zero]
  iterate 2 (refine lx_ex (by rfl) ?_; apply Exists.intro; refine ⟨fun w hw => ?_, ?_⟩; · (go_simp; with_reducible rfl)
             simp only [Act.put, List.setIfInBounds_toArray, List.set_cons_succ, List.set_cons_zero])
  refine lx_run (by rfl) (.agg p0) (ex_build0 (t := 40) rfl hbt.out) ?_
  simp only [Act.put, List.setIfInBounds_toArray, List.set_cons_succ, List.set_cons_zero]
  refine lx_callF (by rfl) 18 Try.func18 rfl rfl _ _ rfl #[.agg p0] (by simp [Act.eval]) (.int .i64 1) (fun W h => H3.out W) ?_
  simp only [Act.put, List.setIfInBounds_toArray, List.set_cons_succ, List.set_cons_zero]
  repeat (refine lx_ex (by rfl) ?_; apply Exists.intro; refine ⟨fun w hw => ?_, ?_⟩; · (go_simp; with_reducible rfl)
          simp only [Act.put, List.setIfInBounds_toArray, List.set_cons_succ, List.set_cons_zero])
  refine lx_nil ?_
  intro w3 hx3
  go_wp2_with fail
  go_ret
  exact ⟨rfl, hx1.drew.trans hx3⟩
end Go.Proofs.Ytlepchdlkhogiaa.frameChecks
