/- make([]api.Block, n): a block of noughts. -/
import Derived.Laws.MakeOwn
import Derived.Test.YtlepchdlkhogiaaZeros
namespace Go.Proofs.Ytlepchdlkhogiaa
set_option linter.unusedVariables false
set_option linter.unusedSimpArgs false
open Go.RowKit
theorem madeCells_rep (k m : Nat) (hk : 0 < k) : madeCells (bv (List.replicate k 0)) m = bv (List.replicate m 0) := by
  apply Array.ext
  · rw [size_madeCells, bv_size, List.length_replicate]
  · intro i h1 h2
    have hm : i < m := by simpa [size_madeCells] using h1
    have h64 : i % k < k := Nat.mod_lt _ hk
    simp [madeCells, bv, ints, h64]
theorem infoBlk : ∃ i, Try.prog.info? 31 = some i ∧ i.zero = some (.agg (bv zeros64)) ∧ i.size = 64 ∧ i.bytes = 512 := by
  have h1 := size48
  have h2 := zero48
  have h3 : (Try.prog.info? 31).map (·.bytes) = some 512 := by kernel_rfl
  cases hq : Try.prog.info? 31 with
  | none => rw [hq] at h1; cases h1
  | some i =>
    rw [hq] at h1 h2 h3
    exact ⟨i, rfl, by simpa using h2, by simpa using h1, by simpa using h3⟩
theorem wpList_makeBlocks {ops : Array Oper} {rest : List Oper} {o : Oper} {a : Act} {w : World} {Q : Exit → Act → World → Prop} (hg : o.guard = none) (dst : Option Tmp) (hdst : o.dst = dst) (x y : Operand) (ho : o.op = .makeSlice 23 x y) (n : Nat) (hn : n ≤ 100000)
    (hx : a.eval x = .int .i64 (n : Int)) (hy : a.eval y = .int .i64 (n : Int))
    (h : ∀ w1 g, Blk w1 g 31 (bv (List.replicate (n * 64) 0)) → Ext w w1 → w.heap.size ≤ g → wpList Try.prog ops Q rest (a.put dst (.slice (some ⟨g, 0, none⟩) n n)) w1) : wpList Try.prog ops Q (o :: rest) a w := by
  subst hdst
  obtain ⟨i, hi, hz, hs, hb⟩ := infoBlk
  have hr := run_makeSlice (P := Try.prog) w 23 31 i (.agg (bv zeros64)) Try.underlying23 hi hz .i64 .i64 (n : Int) (n : Int) (by omega) (Int.le_refl _) (by rw [hs]; omega) (by rw [hb]; omega) (by omega)
  rw [Int.toNat_natCast, hs, show (Value.agg (bv zeros64)).cells = bv (List.replicate 64 0) from rfl, madeCells_rep 64 _ (by omega)] at hr
  refine wpList_plain hg fun _ hK => ?_
  unfold Oper.wp execOp
  simp only [ho, hx, hy, Sem.run_bind, hr, Result.andThen_ok, Sem.run_pure]
  exact hK _ _ (h _ _ (Blk.new w _ _) ((Ext.refl w).alloc _) (Nat.le_refl _))
end Go.Proofs.Ytlepchdlkhogiaa
