/- Contracts for the law ScanEncodesCard, part 31: what the functions that it reaches answer, for all arguments that the theorems name. -/
import Derived.Test.YtgmddhljgfbibaaDoorMScanEncodesCard18
/- scan.Mark; scan.Encode with a range that may not be. -/
namespace Go.Proofs.YtgmddhljgfbibaaDoor
set_option linter.unusedVariables false
set_option linter.unusedSimpArgs false
open Go.RowKit
set_option maxRecDepth 20000 in
theorem mark_any (p : Nat) (hp : p ≤ 100000000) (w : World) : Calls Tryd.prog 51 #[.int .i64 (p : Int)] w fun e w' => e = .returned (.int .i64 ((208 + p % 8 : Nat) : Int)) ∧ w = w' := by
  obtain ⟨m, hm⟩ : ∃ m, p % 8 = m := ⟨_, rfl⟩
  rw [hm]
  have HM := hid_ hm
  have hm8 : m < 8 := by omega
  clear hm
  obtain ⟨q, hq⟩ : ∃ q, 208 + m = q := ⟨_, rfl⟩
  have HQ := hid_ hq
  rw [hq]
  clear hq
  go_enter Tryd.func51, Tryd.ntmps51
  go_wp2_with (first
    | (show wpList _ _ _ (⟨some 4, _, _, _, _, _⟩ :: _) _ _; refine wl_run rfl (.int .i64 (m : Int)) (by rw [← HM.out]; exact ex_remN (i := p) (d := 8) rfl rfl rfl (by omega) (by omega)) ?_)
    | (show wpList _ _ _ (⟨some 5, _, _, _, _, _⟩ :: _) _ _; refine wl_run rfl (.int .i64 (q : Int)) (by rw [← HQ.out]; exact ex_addN (i := 208) (d := m) rfl rfl rfl (by omega)) ?_))
  go_ret
  exact ⟨rfl, rfl⟩
set_option maxRecDepth 20000 in
theorem scanEnc_range (tt : Array Value) (v : Value) (nn : Int) (w : World) (h : nn < 0 ∨ 100 < nn) : Calls Tryd.prog 18 #[.agg tt, v, .int .i64 nn] w (SegIs (1, []) w) := by
  by_cases h0 : nn < 0
  · clear h
    go_enter Tryd.func18, Tryd.ntmps18
    go_wp2_with (first
      | (show wpList _ _ _ (⟨some 3, _, _, _, _, _⟩ :: _) _ _; refine wpList_box_abs rfl 34 (.tmp 0) rfl tt rfl ?_; intro w1 g hb1 hx1 hg))
    refine bodyPost_ret (results_tmp2 rfl _ _ _) rfl ?_
    refine ⟨hx1, ?_⟩
    rw [if_neg (show ¬ (1 : Int) = 0 by decide)]
    rfl
  · have h4 : 100 < nn := h.resolve_left h0
    clear h
    go_enter Tryd.func18, Tryd.ntmps18
    go_wp2_with (first
      | (show wpList _ _ _ (⟨some 3, _, _, _, _, _⟩ :: _) _ _; refine wpList_box_abs rfl 34 (.tmp 0) rfl tt rfl ?_; intro w1 g hb1 hx1 hg))
    refine bodyPost_ret (results_tmp2 rfl _ _ _) rfl ?_
    refine ⟨hx1, ?_⟩
    rw [if_neg (show ¬ (1 : Int) = 0 by decide)]
    rfl
end Go.Proofs.YtgmddhljgfbibaaDoor
