/- make([]int, n): a block of noughts. -/
import Derived.Test.YtlepchdlkhogiaaMakeBlocks
namespace Go.Proofs.Ytlepchdlkhogiaa
set_option linter.unusedVariables false
set_option linter.unusedSimpArgs false
open Go.RowKit
theorem infoInt : ∃ i, Try.prog.info? 3 = some i ∧ i.zero = some (.int .i64 0) ∧ i.size = 1 ∧ i.bytes = 8 := by
  have h1 : (Try.prog.info? 3).map (fun i => (i.zero, i.size, i.bytes)) = some (some (.int .i64 0), 1, 8) := by kernel_rfl
  cases hq : Try.prog.info? 3 with
  | none => rw [hq] at h1; cases h1
  | some i =>
    rw [hq] at h1
    simp at h1
    exact ⟨i, rfl, h1.1, h1.2.1, h1.2.2⟩
theorem wpList_makeInts {ops : Array Oper} {rest : List Oper} {o : Oper} {a : Act} {w : World} {Q : Exit → Act → World → Prop} (hg : o.guard = none) (dst : Option Tmp) (hdst : o.dst = dst) (x y : Operand) (ho : o.op = .makeSlice 22 x y) (n : Nat) (hn : n ≤ 1000000)
    (hx : a.eval x = .int .i64 (n : Int)) (hy : a.eval y = .int .i64 (n : Int))
    (h : ∀ w1 g, Blk w1 g 3 (bv (List.replicate n 0)) → Ext w w1 → w.heap.size ≤ g → wpList Try.prog ops Q rest (a.put dst (.slice (some ⟨g, 0, none⟩) n n)) w1) : wpList Try.prog ops Q (o :: rest) a w := by
  subst hdst
  obtain ⟨i, hi, hz, hs, hb⟩ := infoInt
  have hr := run_makeSlice (P := Try.prog) w 22 3 i (.int .i64 0) Try.underlying22 hi hz .i64 .i64 (n : Int) (n : Int) (by omega) (Int.le_refl _) (by rw [hs]; omega) (by rw [hb]; omega) (by omega)
  rw [Int.toNat_natCast, hs, show (Value.int .i64 0).cells = bv (List.replicate 1 0) from rfl, madeCells_rep 1 _ (by omega), Nat.mul_one] at hr
  refine wpList_plain hg fun _ hK => ?_
  unfold Oper.wp execOp
  simp only [ho, hx, hy, Sem.run_bind, hr, Result.andThen_ok, Sem.run_pure]
  exact hK _ _ (h _ _ (Blk.new w _ _) ((Ext.refl w).alloc _) (Nat.le_refl _))
end Go.Proofs.Ytlepchdlkhogiaa
