/- Runs of single operations: rest, quotient, places of a table of 8 by 8. -/
import Derived.Test.YtlepchdlkhogiaaRunOps
namespace Go.Proofs.Ytlepchdlkhogiaa
set_option linter.unusedVariables false
set_option linter.unusedSimpArgs false
open Go.RowKit
theorem run_remI (i : Nat) (h : i < 1000) (W : World) : (binOp .rem 3 (.int .i64 (i : Int)) (.int .i64 8)).run Try.prog W = .ok (.int .i64 ((i % 8 : Nat) : Int)) W := by
  have h0 : (0 : Int) ≤ (i : Int) := by omega
  have h1 : (i : Int) < 1000 := by omega
  go_simp
  exact Int.tmod_eq_emod_of_nonneg h0
theorem run_quoI (i : Nat) (h : i < 1000) (W : World) : (binOp .quo 3 (.int .i64 (i : Int)) (.int .i64 8)).run Try.prog W = .ok (.int .i64 ((i / 8 : Nat) : Int)) W := by
  have h0 : (0 : Int) ≤ (i : Int) := by omega
  have h1 : (i : Int) < 1000 := by omega
  go_simp
  exact IntWalk.i64_in _ (by omega)
theorem run_index88 (g n : Nat) (h : n < 8) (W : World) : (Instr.indexAt 121 (.pointer (some ⟨g, 0, none⟩)) (.int .i64 (n : Int))).run Try.prog W = .ok (.pointer (some ⟨g, 8 * n, none⟩)) W := by
  have h0 : (0 : Int) ≤ (n : Int) := by omega
  have h1 : (n : Int) < 8 := by omega
  go_simp
theorem run_index8 (g m n : Nat) (h : n < 8) (W : World) : (Instr.indexAt 120 (.pointer (some ⟨g, m, none⟩)) (.int .i64 (n : Int))).run Try.prog W = .ok (.pointer (some ⟨g, m + n, none⟩)) W := by
  have h0 : (0 : Int) ≤ (n : Int) := by omega
  have h1 : (n : Int) < 8 := by omega
  go_simp
theorem size88 : (Try.prog.info? 121).map (·.size) = some 64 := by kernel_rfl
theorem zero88 : (Try.prog.info? 121).bind (·.zero) = some (.agg (bv (List.replicate 64 0))) := by kernel_rfl
end Go.Proofs.Ytlepchdlkhogiaa
