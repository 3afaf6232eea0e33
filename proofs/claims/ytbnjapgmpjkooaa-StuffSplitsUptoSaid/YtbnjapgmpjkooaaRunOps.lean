/- Runs of single operations on integers, said once. -/
import Derived.Deep.QuietTactic
import Derived.Test.YtbnjapgmpjkooaaBlocks
namespace Go.Proofs.Ytbnjapgmpjkooaa
set_option linter.unusedVariables false
set_option linter.unusedSimpArgs false
open Go.RowKit
theorem run_mulI (x y z : Int) (h : IntKind.i64.wrap (x * y) = z) (W : World) : (binOp .mul 3 (.int .i64 x) (.int .i64 y)).run Try.prog W = .ok (.int .i64 z) W := by
  subst h; go_simp
theorem run_addI (x y z : Int) (h : IntKind.i64.wrap (x + y) = z) (W : World) : (binOp .add 3 (.int .i64 x) (.int .i64 y)).run Try.prog W = .ok (.int .i64 z) W := by
  subst h; go_simp
theorem run_indexI (g n : Nat) (h : n < 64) (W : World) : (Instr.indexAt 49 (.pointer (some ⟨g, 0, none⟩)) (.int .i64 (n : Int))).run Try.prog W = .ok (.pointer (some ⟨g, n, none⟩)) W := by
  have h0 : (0 : Int) ≤ (n : Int) := by omega
  have h1 : (n : Int) < 64 := by omega
  go_simp
theorem run_loadI (W : World) (p : Addr) (z : Int) (h : W.cell? p = some (.int .i64 z)) : (Instr.loadAt 3 (.pointer (some p))).run Try.prog W = .ok (.int .i64 z) W := by
  go_simp
theorem guardI (op : BinOp) (x y : Operand) (v w : Int) (W : World) : (eqGuard op 3 x y (.int .i64 v) (.int .i64 w)).run Try.prog W = .ok () W := by
  cases op <;> go_simp
theorem wp_storeI {o : Oper} {a : Act} {w : World} {K : Act → World → Prop} {Q : Exit → Act → World → Prop} (x y : Operand) (ho : o.op = .store 3 x y) (p : Addr) (z : Int) (hx : a.eval x = .pointer (some p)) (hy : a.eval y = .int .i64 z)
    (u : Value) (hc : w.cell? p = some u) (hf : w.frozen? p = false) (h : K (a.put o.dst undef) (w.setCell p (.int .i64 z))) : o.wp Try.prog a w K Q := by
  unfold Oper.wp execOp
  simp only [ho, hx, hy]
  go_simp
  exact h
end Go.Proofs.Ytbnjapgmpjkooaa
