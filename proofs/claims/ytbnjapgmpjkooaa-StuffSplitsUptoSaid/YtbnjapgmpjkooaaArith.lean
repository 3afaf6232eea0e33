/- Arithmetic on casts of natural numbers, run; binOp in drawn regions. -/
import Derived.Test.YtbnjapgmpjkooaaMono
namespace Go.Proofs.Ytbnjapgmpjkooaa
set_option linter.unusedVariables false
set_option linter.unusedSimpArgs false
open Go.RowKit
theorem guardN (op : BinOp) (x y : Operand) (v w : Int) (W : World) : (eqGuard op 3 x y (.int .i64 v) (.int .i64 w)).run Try.prog W = .ok () W := by
  cases op <;> go_simp
theorem run_quoN (i d : Nat) (h : i < 1000000000000) (hd : 0 < d) (W : World) : (binOp .quo 3 (.int .i64 (i : Int)) (.int .i64 (d : Int))).run Try.prog W = .ok (.int .i64 ((i / d : Nat) : Int)) W := by
  have h0 : (0 : Int) ≤ (i : Int) := by omega
  have h1 : ¬ d = 0 := by omega
  have h2 : (i / d : Nat) ≤ i := Nat.div_le_self _ _
  have h5 : ∀ q : Nat, q ≤ i → IntKind.i64.wrap (q : Int) = (q : Int) := fun q hq => IntWalk.i64_in _ (by omega)
  have h4 : IntKind.i64.wrap ((i : Int) / (d : Int)) = (i : Int) / (d : Int) := by rw [← Int.natCast_ediv]; exact h5 _ h2
  have h3 : (Int.tdiv (i : Int) (d : Int)) = (i : Int) / (d : Int) := Int.tdiv_eq_ediv_of_nonneg h0
  go_simp
theorem run_remN (i d : Nat) (h : i < 1000000000000) (hd : 0 < d) (W : World) : (binOp .rem 3 (.int .i64 (i : Int)) (.int .i64 (d : Int))).run Try.prog W = .ok (.int .i64 ((i % d : Nat) : Int)) W := by
  have h0 : (0 : Int) ≤ (i : Int) := by omega
  have h1 : ¬ d = 0 := by omega
  have h3 : (Int.tmod (i : Int) (d : Int)) = (i : Int) % (d : Int) := Int.tmod_eq_emod_of_nonneg h0
  go_simp
theorem run_mulN (i d k : Nat) (h : i * d = k) (hk : k < 1000000000000) (W : World) : (binOp .mul 3 (.int .i64 (i : Int)) (.int .i64 (d : Int))).run Try.prog W = .ok (.int .i64 (k : Int)) W := by
  have h4 : IntKind.i64.wrap ((i : Int) * (d : Int)) = (k : Int) := by rw [← Int.natCast_mul, h]; exact IntWalk.i64_in _ (by omega)
  go_simp
theorem run_addN (i d : Nat) (h : i + d < 1000000000000) (W : World) : (binOp .add 3 (.int .i64 (i : Int)) (.int .i64 (d : Int))).run Try.prog W = .ok (.int .i64 ((i + d : Nat) : Int)) W := by
  have h4 : IntKind.i64.wrap ((i : Int) + (d : Int)) = ((i + d : Nat) : Int) := by rw [← Int.natCast_add]; exact IntWalk.i64_in _ (by omega)
  go_simp
theorem run_subN (i d : Nat) (h : i < 1000000000000) (h2 : d ≤ i) (W : World) : (binOp .sub 3 (.int .i64 (i : Int)) (.int .i64 (d : Int))).run Try.prog W = .ok (.int .i64 ((i - d : Nat) : Int)) W := by
  have h4 : IntKind.i64.wrap ((i : Int) - (d : Int)) = ((i - d : Nat) : Int) := by rw [← Int.natCast_sub h2]; exact IntWalk.i64_in _ (by omega)
  go_simp
section
variable {P : Program} {md : Region.Mode} {ops : Array Oper} {R : World → World → Prop} {Q : Exit → Act → World → Prop} {rest : List Oper} {o : Oper} {k : Nat} {listed : Array Bool} {a : Act} {wc : World}
theorem lx_binOp (hw : Region.wanted o (yielded ops a.tmps) = true) (op : BinOp) (t : TypeId) (x y : Operand) (t2 : TypeId) (ho : o.op = .binOp op t x y t2) (vx vy : Value) (hx : a.eval x = vx) (hy : a.eval y = vy) (v : Value)
    (hg : ∀ w, (eqGuard op t x y vx vy).run P w = .ok () w) (hr : ∀ w, (binOp op t vx vy).run P w = .ok v w) (h : wpLx P md ops R Q rest (k + 1) (listed.setIfInBounds k true) (a.put o.dst v) wc) : wpLx P md ops R Q (o :: rest) k listed a wc :=
  lx_run hw v (fun w => by simp [execOp, ho, hx, hy, hg, hr]) h
end
theorem run_loadN (W : World) (p : Addr) (z : Int) (h : W.cell? p = some (.int .i64 z)) : (Instr.loadAt 3 (.pointer (some p))).run Try.prog W = .ok (.int .i64 z) W := by
  go_simp
end Go.Proofs.Ytbnjapgmpjkooaa
