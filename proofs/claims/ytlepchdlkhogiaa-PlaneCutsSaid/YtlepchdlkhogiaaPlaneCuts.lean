/- The law PlaneCuts, walked. -/
import Derived.Test.YtlepchdlkhogiaaCutAny
import Derived.Test.YtlepchdlkhogiaaEqBlocks
import Derived.Test.YtlepchdlkhogiaaOpenSlices
namespace Go.Proofs.Ytlepchdlkhogiaa.planeCuts
set_option linter.unusedVariables false
set_option linter.unusedSimpArgs false
open Go.RowKit
set_option maxRecDepth 20000 in
set_option maxHeartbeats 1000000 in
theorem walk (v : Value) (xs : List Int) (_ : ∀ z ∈ xs, inI64 z) (wd : Int) (_ : (Lit.int .i64 wd).wf = true) (hi : Int) (_ : (Lit.int .i64 hi).wf = true) (w : World) (hv : SL w 1 v xs.length (ints xs)) :
    Calls Try.prog 3 #[v, .int .i64 wd, .int .i64 hi] w fun e w' => e = .returned (.bool true) ∧ Ext w w' := by
  have H1 := hid_ (fun W (h : SL W 1 v xs.length (ints xs)) => cut_any xs v wd hi W h)
  have H2 := hid_ (fun W (h : SL W 1 v xs.length (ints xs)) => rcut_any xs v wd hi W h)
  have H3 := hid_ (fun W => Many_any 0 1 W)
  have HE := hid_ (fun W u v (a : SL W 64 u (cutRN xs wd hi) (ints (cutRZ xs wd hi))) (b : SL W 64 v (cutRN xs wd hi) (ints (cutRZ xs wd hi))) => eqBlocks_same u v (cutRN xs wd hi) (cutRZ xs wd hi) W (cutRZ_len xs wd hi) a b)
  have e01 : manyZ 0 1 = 0 := by decide
  have e02 : sidesZ 0 1 = 1 := by decide
  rw [e01, e02] at H3
  clear e01 e02
  unfold CutIs at H1 H2
  generalize cutRN xs wd hi = n at *
  generalize cutRZ xs wd hi = Z at *
  generalize cutE xs wd hi = E at *
  go_enter Try.func3, Try.ntmps3
  go_wp2_with (first
    | (go_at_call 10; (with_reducible refine (H1.out _ hv).mono ?_); rintro e w2 ⟨A, c, rfl, hs2, hx2⟩)
    | (go_at_call 11; (with_reducible refine (H2.out _ (hv.ext hx2)).mono ?_); rintro e w3 ⟨B, d, rfl, hs3, hx3⟩)
    | (go_at_call 12; (with_reducible refine (H3.out _).mono ?_); rintro e w4 ⟨rfl, hx4⟩; have hs24 := (hs2.ext hx3).ext hx4; have hs34 := hs3.ext hx4)
    | (go_at_call 13; (with_reducible refine (HE.out _ _ _ hs24 hs34).mono ?_); rintro e w5 ⟨rfl, hx5⟩))
  go_ret
  exact ⟨rfl, ((hx2.trans hx3).trans hx4).trans hx5⟩
end Go.Proofs.Ytlepchdlkhogiaa.planeCuts
