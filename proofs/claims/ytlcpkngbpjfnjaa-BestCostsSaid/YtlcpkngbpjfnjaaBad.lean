/- bad of the law's package: a table that may not be. -/
import Derived.Test.YtlcpkngbpjfnjaaTable
namespace Go.Proofs.Ytlcpkngbpjfnjaa
set_option linter.unusedVariables false
set_option linter.unusedSimpArgs false
open Go.RowKit
theorem size_tbl_row (sl : Value) : (tblv (List.replicate 16 0) sl).size = 17 := by simp [tblv, ints]
set_option maxRecDepth 20000 in
set_option maxHeartbeats 400000 in
theorem bad_any (w : World) : Calls Try.prog 8 #[] w fun e w' => ∃ g, e = .returned (.agg (tblv (List.replicate 16 0) (.slice (some ⟨g, 0, none⟩) 1 1))) ∧ SL w' 1 (.slice (some ⟨g, 0, none⟩) 1 1) 1 (ints [1]) ∧ Ext w w' := by
  go_enter Try.func8, Try.ntmps8
  go_wp2_with fail
  refine ret_cell rfl rfl _ rfl ((Blk.new w 25 _).alloc _) _ Try.underlying25 rfl 17 sizeTbl rfl ⟨w.heap.size + 1, rfl, ?_, ((Ext.refl w).alloc _).alloc _⟩
  have h := (Blk.new (w.alloc (.cells (tblv (List.replicate 16 0) (.slice (some ⟨w.heap.size + 1, 0, none⟩) 1 1)) 25)) 3 #[.int .i64 1]).sl (size := 1) (n := 1) (c := 1) rfl (by omega) (by omega)
  rw [World.size_alloc] at h
  exact h
end Go.Proofs.Ytlcpkngbpjfnjaa
