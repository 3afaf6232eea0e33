/- The walk of the law TintBacks. -/
import Derived.Test.YtpkaimpidhcoiaaTintRef
import Derived.Test.YtpkaimpidhcoiaaOpen
namespace Go.Proofs.Ytpkaimpidhcoiaa.tintBacks
set_option linter.unusedVariables false
set_option linter.unusedSimpArgs false
open Go.RowKit
set_option maxHeartbeats 400000 in
theorem walk (r : Int) (_ : (Lit.int .i64 r).wf = true) (g : Int) (_ : (Lit.int .i64 g).wf = true) (b : Int) (_ : (Lit.int .i64 b).wf = true) (w : World) :
    Calls Try.prog 4 #[.int .i64 r, .int .i64 g, .int .i64 b] w fun e w' => e = .returned (.bool true) ∧ Ext w w' := by
  have H1 := hid_ (fun W => tintFrom_any r g b W)
  have H2 := hid_ (fun W => rtintFrom_any r g b W)
  have H3 := hid_ (fun W => tintTo_any 256 0 0 W)
  have h3 : threeZ toM [256, 0, 0] = (0, 0, 0, 1) := by decide
  rw [h3] at H3
  clear h3
  generalize threeZ frM [r, g, b] = t at *
  obtain ⟨t1, t2, t3, t4⟩ := t
  have e1 : (t1 == t1) = true := by simp
  have e2 : (t2 == t2) = true := by simp
  have e3 : (t3 == t3) = true := by simp
  have e4 : (t4 == t4) = true := by simp
  go_enter Try.func4, Try.ntmps4
  go_wp2_with (first
    | (go_at_call 10; (with_reducible refine (H1.out _).mono ?_); rintro e w1 ⟨rfl, hx1⟩)
    | (go_at_call 11; (with_reducible refine (H2.out _).mono ?_); rintro e w2 ⟨rfl, hx2⟩)
    | (go_at_call 8; (with_reducible refine (H3.out _).mono ?_); rintro e w3 ⟨rfl, hx3⟩))
  go_ret
  exact ⟨rfl, (hx1.trans hx2).trans hx3⟩
end Go.Proofs.Ytpkaimpidhcoiaa.tintBacks
