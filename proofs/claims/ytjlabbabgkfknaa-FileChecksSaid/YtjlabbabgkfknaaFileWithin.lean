/- file.within. -/
import Derived.Test.YtjlabbabgkfknaaFile
namespace Go.Proofs.Ytjlabbabgkfknaa
set_option linter.unusedVariables false
set_option linter.unusedSimpArgs false
open Go.RowKit
theorem fwithin_any (n lo hi : Int) (w : World) :
    Calls Try.prog 30 #[.int .i64 n, .int .i64 lo, .int .i64 hi] w fun e w' => e = .returned (.bool (inB n lo hi)) ∧ w = w' := by
  by_cases h : lo ≤ n
  · have h' : decide (lo ≤ n) = true := by simpa using h
    have e : inB n lo hi = decide (n ≤ hi) := by rw [Bool.eq_iff_iff, inB_iff]; simp; omega
    rw [e]; clear e
    go_enter Try.func30, Try.ntmps30
    go_wp2
    go_ret
    exact ⟨rfl, rfl⟩
  · have h' : decide (lo ≤ n) = false := by simpa using h
    have e : inB n lo hi = false := inB_not.2 (by omega)
    rw [e]; clear e
    go_enter Try.func30, Try.ntmps30
    go_wp2
    go_ret
    exact ⟨rfl, rfl⟩
end Go.Proofs.Ytjlabbabgkfknaa
