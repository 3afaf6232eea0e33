/- plane.area: many, place; plane.Many. -/
import Derived.Test.YtlepchdlkhogiaaPlane
namespace Go.Proofs.Ytlepchdlkhogiaa
set_option linter.unusedVariables false
set_option linter.unusedSimpArgs false
open Go.RowKit
theorem guardN (op : BinOp) (x y : Operand) (v w : Int) (W : World) : (eqGuard op 3 x y (.int .i64 v) (.int .i64 w)).run Try.prog W = .ok () W := by
  cases op <;> go_simp
theorem run_quoN (i d : Nat) (h : i < 100000) (hd : 0 < d) (W : World) : (binOp .quo 3 (.int .i64 (i : Int)) (.int .i64 (d : Int))).run Try.prog W = .ok (.int .i64 ((i / d : Nat) : Int)) W := by
  have h0 : (0 : Int) ≤ (i : Int) := by omega
  have h1 : ¬ d = 0 := by omega
  have h2 : (i / d : Nat) ≤ i := Nat.div_le_self _ _
  have h5 : ∀ q : Nat, q ≤ i → IntKind.i64.wrap (q : Int) = (q : Int) := fun q hq => IntWalk.i64_in _ (by omega)
  have h4 : IntKind.i64.wrap ((i : Int) / (d : Int)) = (i : Int) / (d : Int) := by rw [← Int.natCast_ediv]; exact h5 _ h2
  have h3 : (Int.tdiv (i : Int) (d : Int)) = (i : Int) / (d : Int) := Int.tdiv_eq_ediv_of_nonneg h0
  go_simp
theorem run_remN (i d : Nat) (h : i < 100000) (hd : 0 < d) (W : World) : (binOp .rem 3 (.int .i64 (i : Int)) (.int .i64 (d : Int))).run Try.prog W = .ok (.int .i64 ((i % d : Nat) : Int)) W := by
  have h0 : (0 : Int) ≤ (i : Int) := by omega
  have h1 : ¬ d = 0 := by omega
  have h3 : (Int.tmod (i : Int) (d : Int)) = (i : Int) % (d : Int) := Int.tmod_eq_emod_of_nonneg h0
  go_simp
theorem run_mulN (i d k : Nat) (h : i * d = k) (hk : k < 1000000) (W : World) : (binOp .mul 3 (.int .i64 (i : Int)) (.int .i64 (d : Int))).run Try.prog W = .ok (.int .i64 (k : Int)) W := by
  have h4 : IntKind.i64.wrap ((i : Int) * (d : Int)) = (k : Int) := by rw [← Int.natCast_mul, h]; exact IntWalk.i64_in _ (by omega)
  go_simp
theorem run_addN (i d : Nat) (h : i + d < 1000000) (W : World) : (binOp .add 3 (.int .i64 (i : Int)) (.int .i64 (d : Int))).run Try.prog W = .ok (.int .i64 ((i + d : Nat) : Int)) W := by
  have h4 : IntKind.i64.wrap ((i : Int) + (d : Int)) = ((i + d : Nat) : Int) := by rw [← Int.natCast_add]; exact IntWalk.i64_in _ (by omega)
  go_simp
theorem run_subN (i d : Nat) (h : i < 1000000) (h2 : d ≤ i) (W : World) : (binOp .sub 3 (.int .i64 (i : Int)) (.int .i64 (d : Int))).run Try.prog W = .ok (.int .i64 ((i - d : Nat) : Int)) W := by
  have h4 : IntKind.i64.wrap ((i : Int) - (d : Int)) = ((i - d : Nat) : Int) := by rw [← Int.natCast_sub h2]; exact IntWalk.i64_in _ (by omega)
  go_simp
section
variable {P : Program} {md : Region.Mode} {ops : Array Oper} {R : World → World → Prop} {Q : Exit → Act → World → Prop} {rest : List Oper} {o : Oper} {k : Nat} {listed : Array Bool} {a : Act} {wc : World}
theorem lx_binOp (hw : Region.wanted o (yielded ops a.tmps) = true) (op : BinOp) (t : TypeId) (x y : Operand) (t2 : TypeId) (ho : o.op = .binOp op t x y t2) (vx vy : Value) (hx : a.eval x = vx) (hy : a.eval y = vy) (v : Value)
    (hg : ∀ w, (eqGuard op t x y vx vy).run P w = .ok () w) (hr : ∀ w, (binOp op t vx vy).run P w = .ok v w) (h : wpLx P md ops R Q rest (k + 1) (listed.setIfInBounds k true) (a.put o.dst v) wc) : wpLx P md ops R Q (o :: rest) k listed a wc :=
  lx_run hw v (fun w => by simp [execOp, ho, hx, hy, hg, hr]) h
end
theorem run_loadN (W : World) (p : Addr) (z : Int) (h : W.cell? p = some (.int .i64 z)) : (Instr.loadAt 3 (.pointer (some p))).run Try.prog W = .ok (.int .i64 z) W := by
  go_simp
theorem areaV_size (wd hi : Int) : (areaV wd hi).size = 2 := rfl
set_option maxRecDepth 20000 in
set_option maxHeartbeats 1000000 in
theorem many_any (wd hi : Nat) (w : World) (h1 : 1 ≤ wd) (h2 : wd ≤ 64) (h3 : 1 ≤ hi) (h4 : hi ≤ 64) :
    Calls Try.prog 34 #[.agg (areaV wd hi)] w fun e w' => e = .returned (.int .i64 (((wd + 7) / 8 * ((hi + 7) / 8) : Nat) : Int)) ∧ Ext w w' := by
  have HC := hid_ (fun W g (h : Blk W g 69 (areaV wd hi)) => area_cells h)
  have HA := hid_ (fun W => across_any wd hi W h1 h2)
  have hts := hid_ (areaV_size wd hi)
  have hm : (wd + 7) / 8 * ((hi + 7) / 8) ≤ 8 * 8 := Nat.mul_le_mul (by omega) (by omega)
  generalize areaV wd hi = av at *
  go_enter Try.func34, Try.ntmps34
  go_wp2_with (refine wpList_box_abs rfl 69 (.tmp 0) rfl av rfl ?_; intro w1 g hb1 hx1 hg)
  have hx1' := hx1.drew
  have hb1' := hb1.drew
  refine wp_region_lx later_ext (by kernel_rfl) (by kernel_rfl) ?_
  refine lx_load_blk (by rfl) 69 (.tmp 1) rfl g rfl (fun w h => hb1'.ext h) _ Try.underlying69 rfl 2 sizeArea hts.out ?_
  simp only [Act.put, List.setIfInBounds_toArray, List.set_cons_succ, List.set_cons_zero]
  refine lx_callF (by rfl) 64 Try.func64 rfl rfl _ _ rfl #[.agg av] (by simp [Act.eval]) (.int .i64 (((wd + 7) / 8 : Nat) : Int)) (fun W h => HA.out W) ?_
  simp only [Act.put, List.setIfInBounds_toArray, List.set_cons_succ, List.set_cons_zero]
  refine lx_ex (by rfl) ?_; apply Exists.intro; refine ⟨fun w hw => ?_, ?_⟩; · (go_simp; with_reducible rfl)
  simp only [Act.put, List.setIfInBounds_toArray, List.set_cons_succ, List.set_cons_zero]
  refine lx_ex (by rfl) ?_; apply Exists.intro; refine ⟨fun w hw => ?_, ?_⟩; · (obtain ⟨c0, c1⟩ := HC.out _ _ (hb1'.ext hw); go_simp; with_reducible rfl)
  simp only [Act.put, List.setIfInBounds_toArray, List.set_cons_succ, List.set_cons_zero]
  refine lx_binOp (by rfl) .add 3 _ _ _ rfl (.int .i64 (hi : Int)) (.int .i64 ((8 : Nat) : Int)) rfl rfl (.int .i64 ((hi + 8 : Nat) : Int)) (guardN _ _ _ _ _) (run_addN _ _ (by omega)) ?_
  simp only [Act.put, List.setIfInBounds_toArray, List.set_cons_succ, List.set_cons_zero]
  refine lx_binOp (by rfl) .sub 3 _ _ _ rfl (.int .i64 ((hi + 8 : Nat) : Int)) (.int .i64 ((1 : Nat) : Int)) rfl rfl (.int .i64 ((hi + 7 : Nat) : Int)) (guardN _ _ _ _ _) (run_subN (hi + 8) 1 (by omega) (by omega)) ?_
  simp only [Act.put, List.setIfInBounds_toArray, List.set_cons_succ, List.set_cons_zero]
  refine lx_binOp (by rfl) .quo 3 _ _ _ rfl (.int .i64 ((hi + 7 : Nat) : Int)) (.int .i64 ((8 : Nat) : Int)) rfl rfl (.int .i64 (((hi + 7) / 8 : Nat) : Int)) (guardN _ _ _ _ _) (run_quoN _ _ (by omega) (by omega)) ?_
  simp only [Act.put, List.setIfInBounds_toArray, List.set_cons_succ, List.set_cons_zero]
  refine lx_binOp (by rfl) .mul 3 _ _ _ rfl (.int .i64 (((wd + 7) / 8 : Nat) : Int)) (.int .i64 (((hi + 7) / 8 : Nat) : Int)) rfl rfl (.int .i64 (((wd + 7) / 8 * ((hi + 7) / 8) : Nat) : Int)) (guardN _ _ _ _ _) (run_mulN _ _ _ rfl (by omega)) ?_
  simp only [Act.put, List.setIfInBounds_toArray, List.set_cons_succ, List.set_cons_zero]
  generalize hmm : (wd + 7) / 8 * ((hi + 7) / 8) = m at *
  have HMM := hid_ hmm
  clear hmm
  repeat (refine lx_ex (by rfl) ?_; apply Exists.intro; refine ⟨fun w hw => ?_, ?_⟩; · (go_simp; with_reducible rfl)
          simp only [Act.put, List.setIfInBounds_toArray, List.set_cons_succ, List.set_cons_zero])
  refine lx_nil ?_
  intro w3 hx3
  go_wp2_with fail
  go_ret
  rw [HMM.out]
  exact ⟨rfl, hx1'.trans hx3⟩
end Go.Proofs.Ytlepchdlkhogiaa
