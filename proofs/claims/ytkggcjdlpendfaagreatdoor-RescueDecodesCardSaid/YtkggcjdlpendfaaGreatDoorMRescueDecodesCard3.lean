/- Contracts for the law RescueDecodesCard, part 3: what the functions that it reaches answer, for all arguments that the theorems name. -/
import Derived.Test.YtkggcjdlpendfaaGreatDoorMRescueDecodesCard2
import Derived.Deep.MidRow
import Derived.Deep.QuietTactic
import Derived.Test.YtkggcjdlpendfaaGreatDoorMRescueDecodesCard1
namespace Go.Proofs.YtkggcjdlpendfaaGreatDoor
set_option linter.unusedVariables false
set_option linter.unusedSimpArgs false
open Go.RowKit
theorem guardN (op : BinOp) (x y : Operand) (v w : Int) (W : World) : (eqGuard op 3 x y (.int .i64 v) (.int .i64 w)).run Tryz.prog W = .ok () W := by
 cases op <;> go_simp
theorem run_quoN (i d : Nat) (h : i < 1000000000000) (hd : 0 < d) (W : World) : (binOp .quo 3 (.int .i64 (i : Int)) (.int .i64 (d : Int))).run Tryz.prog W = .ok (.int .i64 ((i / d : Nat) : Int)) W := by
 have h0 : (0 : Int) ≤ (i : Int) := by omega
 have h1 : ¬ d = 0 := by omega
 have h2 : (i / d : Nat) ≤ i := Nat.div_le_self _ _
 have h5 : ∀ q : Nat, q ≤ i → IntKind.i64.wrap (q : Int) = (q : Int) := fun q hq => IntWalk.i64_in _ (by omega)
 have h4 : IntKind.i64.wrap ((i : Int) / (d : Int)) = (i : Int) / (d : Int) := by rw [← Int.natCast_ediv]; exact h5 _ h2
 have h3 : (Int.tdiv (i : Int) (d : Int)) = (i : Int) / (d : Int) := Int.tdiv_eq_ediv_of_nonneg h0
 go_simp
theorem run_remN (i d : Nat) (h : i < 1000000000000) (hd : 0 < d) (W : World) : (binOp .rem 3 (.int .i64 (i : Int)) (.int .i64 (d : Int))).run Tryz.prog W = .ok (.int .i64 ((i % d : Nat) : Int)) W := by
 have h0 : (0 : Int) ≤ (i : Int) := by omega
 have h1 : ¬ d = 0 := by omega
 have h3 : (Int.tmod (i : Int) (d : Int)) = (i : Int) % (d : Int) := Int.tmod_eq_emod_of_nonneg h0
 go_simp
theorem run_mulN (i d k : Nat) (h : i * d = k) (hk : k < 1000000000000) (W : World) : (binOp .mul 3 (.int .i64 (i : Int)) (.int .i64 (d : Int))).run Tryz.prog W = .ok (.int .i64 (k : Int)) W := by
 have h4 : IntKind.i64.wrap ((i : Int) * (d : Int)) = (k : Int) := by rw [← Int.natCast_mul, h]; exact IntWalk.i64_in _ (by omega)
 go_simp
theorem run_addN (i d : Nat) (h : i + d < 1000000000000) (W : World) : (binOp .add 3 (.int .i64 (i : Int)) (.int .i64 (d : Int))).run Tryz.prog W = .ok (.int .i64 ((i + d : Nat) : Int)) W := by
 have h4 : IntKind.i64.wrap ((i : Int) + (d : Int)) = ((i + d : Nat) : Int) := by rw [← Int.natCast_add]; exact IntWalk.i64_in _ (by omega)
 go_simp
theorem run_subN (i d : Nat) (h : i < 1000000000000) (h2 : d ≤ i) (W : World) : (binOp .sub 3 (.int .i64 (i : Int)) (.int .i64 (d : Int))).run Tryz.prog W = .ok (.int .i64 ((i - d : Nat) : Int)) W := by
 have h4 : IntKind.i64.wrap ((i : Int) - (d : Int)) = ((i - d : Nat) : Int) := by rw [← Int.natCast_sub h2]; exact IntWalk.i64_in _ (by omega)
 go_simp
section
variable {P : Program} {md : Region.Mode} {ops : Array Oper} {R : World → World → Prop} {Q : Exit → Act → World → Prop} {rest : List Oper} {o : Oper} {k : Nat} {listed : Array Bool} {a : Act} {wc : World}
theorem lx_binOp (hw : Region.wanted o (yielded ops a.tmps) = true) (op : BinOp) (t : TypeId) (x y : Operand) (t2 : TypeId) (ho : o.op = .binOp op t x y t2) (vx vy : Value) (hx : a.eval x = vx) (hy : a.eval y = vy) (v : Value)
 (hg : ∀ w, (eqGuard op t x y vx vy).run P w = .ok () w) (hr : ∀ w, (binOp op t vx vy).run P w = .ok v w) (h : wpLx P md ops R Q rest (k + 1) (listed.setIfInBounds k true) (a.put o.dst v) wc) : wpLx P md ops R Q (o :: rest) k listed a wc :=
 lx_run hw v (fun w => by simp [execOp, ho, hx, hy, hg, hr]) h
end
def CellsAt (w : World) (p : Addr) (cs : List Value) : Prop := ∀ j v, cs[j]? = some v → w.cell? (p.add j) = some v
section
variable {P : Program}
theorem run_loadVar_any (w : World) (p : Addr) (ty : TypeId) (cs : List Value) (d : TypeDesc) (hc : CellsAt w p cs) (hu : P.underlying ty = some d) (hd : d.isRow = true) (hi : (P.info? ty).map (·.size) = some cs.length) :
 (loadVar ty p).run P w = .ok (.agg cs.toArray) w := by
 have hl : (loadCells p cs.length).run P w = .ok cs.toArray w := run_loadCells_list (P := P) w p cs hc
 cases hq : P.info? ty with
 | none => simp [hq] at hi
 | some i =>
   have hs : i.size = cs.length := by simpa [hq] using hi
   have hagg : (isAgg ty).run P w = .ok true w := by
    unfold isAgg
    rw [Sem.run_bind, run_underlying hu w]
    cases d <;> simp_all
   simp [loadVar, Sem.run_bind, hagg, sizeOf, typeInfo, hq, hs, hl]
theorem wpList_load_any {ops : Array Oper} {rest : List Oper} {op : Oper} {a : Act} {w : World} {Q : Exit → Act → World → Prop} (hw : Region.wanted op (yielded ops a.tmps) = true) (ty : TypeId) (x : Operand) (ho : op.op = .load ty x)
 (p : Addr) (hx : a.eval x = .pointer (some p)) (cs : List Value) (d : TypeDesc) (hc : CellsAt w p cs) (hu : P.underlying ty = some d) (hd : d.isRow = true) (hi : (P.info? ty).map (·.size) = some cs.length)
 (h : wpList P ops Q rest (a.put op.dst (.agg cs.toArray)) w) : wpList P ops Q (op :: rest) a w :=
 wpList_wanted hw fun _ hK => by
  unfold Oper.wp execOp
  simp only [ho, hx, Instr.loadAt, Instr.sureAddr, Sem.run_bind, Sem.run_pure, Result.andThen_ok, run_loadVar_any w p ty cs d hc hu hd hi]
  exact hK _ _ h
theorem lx_load_any {md : Region.Mode} {ops : Array Oper} {R : World → World → Prop} {Q : Exit → Act → World → Prop} {rest : List Oper} {o : Oper} {k : Nat} {listed : Array Bool} {a : Act} {wc : World} (hw : Region.wanted o (yielded ops a.tmps) = true) (ty : TypeId) (x : Operand) (ho : o.op = .load ty x)
 (p : Addr) (hx : a.eval x = .pointer (some p)) (cs : List Value) (d : TypeDesc) (hc : ∀ w, R wc w → CellsAt w p cs) (hu : P.underlying ty = some d) (hd : d.isRow = true) (hi : (P.info? ty).map (·.size) = some cs.length)
 (h : wpLx P md ops R Q rest (k + 1) (listed.setIfInBounds k true) (a.put o.dst (.agg cs.toArray)) wc) : wpLx P md ops R Q (o :: rest) k listed a wc := by
 refine lx_read hw _ (fun w hC => ?_) h
 unfold execOp
 simp only [ho, hx, Instr.loadAt, Instr.sureAddr, Sem.run_bind, Sem.run_pure, Result.andThen_ok, run_loadVar_any w p ty cs d (hc w hC) hu hd hi]
end
theorem SL.part {w : World} {sz n c : Nat} {A : Option Addr} {xs : List Value} (h : SL w sz (.slice A n c) n xs) {k : Nat} (hk : k < n) : ∃ ad, A = some ad ∧ ad.block < w.heap.size ∧ CellsAt w (ad.add (k * sz)) ((xs.drop (k * sz)).take sz) := by
 obtain ⟨A', c', he, -, -, hl, hf⟩ := h
 injection he with e1 e2 e3
 subst e1
 obtain ⟨ad, rfl, hb, hcell⟩ := hf (by omega)
 refine ⟨ad, rfl, hb, fun j v hv => ?_⟩
 rw [add_of_add]
 have hj : j < sz := by have := (List.getElem?_eq_some_iff.1 hv).1; simp at this; omega
 rw [List.getElem?_take_of_lt hj, List.getElem?_drop] at hv
 exact hcell _ _ hv
theorem run_mulI (x y z : Int) (h : IntKind.i64.wrap (x * y) = z) (W : World) : (binOp .mul 3 (.int .i64 x) (.int .i64 y)).run Tryz.prog W = .ok (.int .i64 z) W := by
 subst h; go_simp
theorem run_addI (x y z : Int) (h : IntKind.i64.wrap (x + y) = z) (W : World) : (binOp .add 3 (.int .i64 x) (.int .i64 y)).run Tryz.prog W = .ok (.int .i64 z) W := by
 subst h; go_simp
theorem run_indexI (g n : Nat) (h : n < 64) (W : World) : (Instr.indexAt 33 (.pointer (some ⟨g, 0, none⟩)) (.int .i64 (n : Int))).run Tryz.prog W = .ok (.pointer (some ⟨g, n, none⟩)) W := by
 have h0 : (0 : Int) ≤ (n : Int) := by omega
 have h1 : (n : Int) < 64 := by omega
 go_simp
theorem run_loadI (W : World) (p : Addr) (z : Int) (h : W.cell? p = some (.int .i64 z)) : (Instr.loadAt 3 (.pointer (some p))).run Tryz.prog W = .ok (.int .i64 z) W := by
 go_simp
theorem guardI (op : BinOp) (x y : Operand) (v w : Int) (W : World) : (eqGuard op 3 x y (.int .i64 v) (.int .i64 w)).run Tryz.prog W = .ok () W := by
 cases op <;> go_simp
theorem wp_storeI {o : Oper} {a : Act} {w : World} {K : Act → World → Prop} {Q : Exit → Act → World → Prop} (x y : Operand) (ho : o.op = .store 3 x y) (p : Addr) (z : Int) (hx : a.eval x = .pointer (some p)) (hy : a.eval y = .int .i64 z)
 (u : Value) (hc : w.cell? p = some u) (hf : w.frozen? p = false) (h : K (a.put o.dst undef) (w.setCell p (.int .i64 z))) : o.wp Tryz.prog a w K Q := by
 unfold Oper.wp execOp
 simp only [ho, hx, hy]
 go_simp
 exact h
section
variable {o : Oper} {a : Act}
theorem ex_move {P : Program} {x : Operand} (ho : o.op = .move x) {v : Value} (hx : a.eval x = v) (w : World) : (execOp a.eval o).run P w = .ok (.value v) w := by simp [execOp, ho, hx]
theorem ex_assign {P : Program} {x : Operand} (ho : o.op = .assign x) {v : Value} (hx : a.eval x = v) (w : World) : (execOp a.eval o).run P w = .ok (.value v) w := by simp [execOp, ho, hx]
theorem ex_bin {op : BinOp} {x y : Operand} {t2 : TypeId} (ho : o.op = .binOp op 3 x y t2) {m n : Int} (hx : a.eval x = .int .i64 m) (hy : a.eval y = .int .i64 n) {v : Value}
 (hr : ∀ w, (binOp op 3 (.int .i64 m) (.int .i64 n)).run Tryz.prog w = .ok v w) (w : World) : (execOp a.eval o).run Tryz.prog w = .ok (.value v) w := by
 simp [execOp, ho, hx, hy, guardN, hr]
theorem ex_addN {x y : Operand} {t2 : TypeId} (ho : o.op = .binOp .add 3 x y t2) {i d : Nat} (hx : a.eval x = .int .i64 (i : Int)) (hy : a.eval y = .int .i64 (d : Int)) (h : i + d < 1000000000000) (w : World) :
 (execOp a.eval o).run Tryz.prog w = .ok (.value (.int .i64 ((i + d : Nat) : Int))) w := ex_bin ho hx hy (run_addN i d h) w
theorem ex_subN {x y : Operand} {t2 : TypeId} (ho : o.op = .binOp .sub 3 x y t2) {i d : Nat} (hx : a.eval x = .int .i64 (i : Int)) (hy : a.eval y = .int .i64 (d : Int)) (h : i < 1000000000000) (h2 : d ≤ i) (w : World) :
 (execOp a.eval o).run Tryz.prog w = .ok (.value (.int .i64 ((i - d : Nat) : Int))) w := ex_bin ho hx hy (run_subN i d h h2) w
theorem ex_mulN {x y : Operand} {t2 : TypeId} (ho : o.op = .binOp .mul 3 x y t2) {i d : Nat} (hx : a.eval x = .int .i64 (i : Int)) (hy : a.eval y = .int .i64 (d : Int)) (h : i * d < 1000000000000) (w : World) :
 (execOp a.eval o).run Tryz.prog w = .ok (.value (.int .i64 ((i * d : Nat) : Int))) w := ex_bin ho hx hy (run_mulN i d _ rfl h) w
theorem ex_quoN {x y : Operand} {t2 : TypeId} (ho : o.op = .binOp .quo 3 x y t2) {i d : Nat} (hx : a.eval x = .int .i64 (i : Int)) (hy : a.eval y = .int .i64 (d : Int)) (h : i < 1000000000000) (h2 : 0 < d) (w : World) :
 (execOp a.eval o).run Tryz.prog w = .ok (.value (.int .i64 ((i / d : Nat) : Int))) w := ex_bin ho hx hy (run_quoN i d h h2) w
theorem ex_remN {x y : Operand} {t2 : TypeId} (ho : o.op = .binOp .rem 3 x y t2) {i d : Nat} (hx : a.eval x = .int .i64 (i : Int)) (hy : a.eval y = .int .i64 (d : Int)) (h : i < 1000000000000) (h2 : 0 < d) (w : World) :
 (execOp a.eval o).run Tryz.prog w = .ok (.value (.int .i64 ((i % d : Nat) : Int))) w := ex_bin ho hx hy (run_remN i d h h2) w
theorem ex_addI {x y : Operand} {t2 : TypeId} (ho : o.op = .binOp .add 3 x y t2) {i d : Int} (hx : a.eval x = .int .i64 i) (hy : a.eval y = .int .i64 d) (h : -9223372036854775808 ≤ i + d ∧ i + d ≤ 9223372036854775807) (w : World) :
 (execOp a.eval o).run Tryz.prog w = .ok (.value (.int .i64 (i + d))) w := ex_bin ho hx hy (run_addI i d _ (IntWalk.i64_in _ h)) w
theorem run_subI (x y z : Int) (h : IntKind.i64.wrap (x - y) = z) (W : World) : (binOp .sub 3 (.int .i64 x) (.int .i64 y)).run Tryz.prog W = .ok (.int .i64 z) W := by
 subst h; go_simp
theorem ex_subI {x y : Operand} {t2 : TypeId} (ho : o.op = .binOp .sub 3 x y t2) {i d : Int} (hx : a.eval x = .int .i64 i) (hy : a.eval y = .int .i64 d) (h : -9223372036854775808 ≤ i - d ∧ i - d ≤ 9223372036854775807) (w : World) :
 (execOp a.eval o).run Tryz.prog w = .ok (.value (.int .i64 (i - d))) w := ex_bin ho hx hy (run_subI i d _ (IntWalk.i64_in _ h)) w
theorem ex_minN {x y : Operand} {ats : Array TypeId} (ho : o.op = .call { callee := .builtin .min, args := #[x, y], argTypes := ats }) {i d : Nat} (hx : a.eval x = .int .i64 (i : Int)) (hy : a.eval y = .int .i64 (d : Int)) (w : World) :
 (execOp a.eval o).run Tryz.prog w = .ok (.value (.int .i64 ((min i d : Nat) : Int))) w := by
 simp [execOp, ho, hx, hy, resolve, invoke, builtin, Builtin.min_, Builtin.min2]
 split <;> omega
theorem ex_maxI {x y : Operand} {ats : Array TypeId} (ho : o.op = .call { callee := .builtin .max, args := #[x, y], argTypes := ats }) {i d : Int} (hx : a.eval x = .int .i64 i) (hy : a.eval y = .int .i64 d) (w : World) :
 (execOp a.eval o).run Tryz.prog w = .ok (.value (.int .i64 (max i d))) w := by
 have e : (if i < d then d else i) = max i d := by split <;> omega
 simp [execOp, ho, hx, hy, resolve, invoke, builtin, Builtin.max_, Builtin.max2, e]
theorem ex_minI {x y : Operand} {ats : Array TypeId} (ho : o.op = .call { callee := .builtin .min, args := #[x, y], argTypes := ats }) {i d : Int} (hx : a.eval x = .int .i64 i) (hy : a.eval y = .int .i64 d) (w : World) :
 (execOp a.eval o).run Tryz.prog w = .ok (.value (.int .i64 (min i d))) w := by
 have e : (if d < i then d else i) = min i d := by split <;> omega
 simp [execOp, ho, hx, hy, resolve, invoke, builtin, Builtin.min_, Builtin.min2, e]
theorem ex_extract {P : Program} {x : Operand} {n : Nat} (ho : o.op = .extract x n) {vs : Array Value} (hx : a.eval x = .tuple vs) {v : Value} (hv : vs[n]? = some v) (w : World) : (execOp a.eval o).run P w = .ok (.value v) w := by
 simp [execOp, ho, hx, Instr.extract, hv]
theorem guardG (op : BinOp) (t : TypeId) (x y : Operand) (k k' : IntKind) (v w : Int) {P : Program} (W : World) : (eqGuard op t x y (.int k v) (.int k' w)).run P W = .ok () W := by
 cases op <;> simp [eqGuard]
theorem ex_cmp {P : Program} {op : BinOp} {t : TypeId} {x y : Operand} {t2 : TypeId} (ho : o.op = .binOp op t x y t2) {m n : Int} (hx : a.eval x = .int .i64 m) (hy : a.eval y = .int .i64 n) {b : Bool}
 (hr : ∀ w, (binOp op t (.int .i64 m) (.int .i64 n)).run P w = .ok (.bool b) w) (w : World) : (execOp a.eval o).run P w = .ok (.value (.bool b)) w := by
 simp [execOp, ho, hx, hy, guardG, hr]
theorem ex_lss {P : Program} {t : TypeId} {x y : Operand} {t2 : TypeId} (ho : o.op = .binOp .lss t x y t2) {m n : Int} (hx : a.eval x = .int .i64 m) (hy : a.eval y = .int .i64 n) {b : Bool} (h : decide (m < n) = b) (w : World) :
 (execOp a.eval o).run P w = .ok (.value (.bool b)) w := ex_cmp ho hx hy (fun w => by subst h; simp [binOp, Op.intCmp]) w
theorem ex_gtr {P : Program} {t : TypeId} {x y : Operand} {t2 : TypeId} (ho : o.op = .binOp .gtr t x y t2) {m n : Int} (hx : a.eval x = .int .i64 m) (hy : a.eval y = .int .i64 n) {b : Bool} (h : decide (n < m) = b) (w : World) :
 (execOp a.eval o).run P w = .ok (.value (.bool b)) w := ex_cmp ho hx hy (fun w => by subst h; simp [binOp, Op.intCmp]) w
theorem ex_eql {P : Program} {t : TypeId} {x y : Operand} {t2 : TypeId} (ho : o.op = .binOp .eql t x y t2) {m n : Int} (hx : a.eval x = .int .i64 m) (hy : a.eval y = .int .i64 n) {b : Bool} (h : decide (m = n) = b) (w : World) :
 (execOp a.eval o).run P w = .ok (.value (.bool b)) w := ex_cmp ho hx hy (fun w => by subst h; by_cases e : m = n <;> simp [binOp, Op.intCmp, e]) w
theorem ex_neq {P : Program} {t : TypeId} {x y : Operand} {t2 : TypeId} (ho : o.op = .binOp .neq t x y t2) {m n : Int} (hx : a.eval x = .int .i64 m) (hy : a.eval y = .int .i64 n) {b : Bool} (h : decide (m ≠ n) = b) (w : World) :
 (execOp a.eval o).run P w = .ok (.value (.bool b)) w := ex_cmp ho hx hy (fun w => by subst h; by_cases e : m = n <;> simp [binOp, Op.intCmp, e]) w
theorem ex_not {P : Program} {t : TypeId} {x : Operand} (ho : o.op = .unOp .not t x) {b : Bool} (hx : a.eval x = .bool b) (w : World) : (execOp a.eval o).run P w = .ok (.value (.bool (!b))) w := by
 simp [execOp, ho, hx, Op.unary]
theorem sizeOf_of {P : Program} {e : TypeId} {sz : Nat} (hs : (P.info? e).map (·.size) = some sz) (w : World) : (sizeOf e).run P w = .ok sz w := by
 cases hq : P.info? e with
 | none => simp [hq] at hs
 | some i => have hz : i.size = sz := by simpa [hq] using hs
             simp [sizeOf, typeInfo, hq, hz]
theorem ex_ixSl {P : Program} {t e : TypeId} {sz : Nat} (ht : P.underlying t = some (.slice e)) (hs : (P.info? e).map (·.size) = some sz) {x ix : Operand} (ho : o.op = .indexAddr t x ix) {ad : Addr} {n c i : Nat} {k : IntKind} (hx : a.eval x = .slice (some ad) n c) (hi : a.eval ix = .int k (i : Int)) (h : i < n) (w : World) :
 (execOp a.eval o).run P w = .ok (.value (.pointer (some (ad.add (i * sz))))) w := by
 have hc : ((0 : Int) ≤ (i : Int) ∧ (i : Int) < (n : Int)) = True := by simp; omega
 simp only [execOp, ho, hx, hi, Instr.indexAt, Sem.run_bind, run_underlying ht, Result.andThen_ok, asIntOf, Sem.run_pure, hc, if_true, sizeOf_of hs, Int.toNat_natCast]
theorem ex_ixArr {P : Program} {t e : TypeId} {sz m : Nat} (ht : P.underlying t = some (.array m e)) (hs : (P.info? e).map (·.size) = some sz) {x ix : Operand} (ho : o.op = .indexAddr t x ix) {ad : Addr} {i : Nat} {k : IntKind} (hx : a.eval x = .pointer (some ad)) (hi : a.eval ix = .int k (i : Int)) (h : i < m) (w : World) :
 (execOp a.eval o).run P w = .ok (.value (.pointer (some (ad.add (i * sz))))) w := by
 have hc : ((0 : Int) ≤ (i : Int) ∧ (i : Int) < (m : Int)) = True := by simp; omega
 simp only [execOp, ho, hx, hi, Instr.indexAt, Instr.sureAddr, Sem.run_bind, run_underlying ht, Result.andThen_ok, asIntOf, Sem.run_pure, hc, if_true, sizeOf_of hs, Int.toNat_natCast]
theorem addr_add (g m n : Nat) : (⟨g, m, none⟩ : Addr).add n = ⟨g, m + n, none⟩ := by
 unfold Addr.add
 by_cases hn : n = 0
 ·subst hn; rfl
 ·rw [if_neg hn]
theorem ex_ixSlG {P : Program} {t e : TypeId} {sz : Nat} (ht : P.underlying t = some (.slice e)) (hs : (P.info? e).map (·.size) = some sz) {x ix : Operand} (ho : o.op = .indexAddr t x ix) {g m n c i : Nat} {k : IntKind} (hx : a.eval x = .slice (some ⟨g, m, none⟩) n c) (hi : a.eval ix = .int k (i : Int)) (h : i < n) (w : World) :
 (execOp a.eval o).run P w = .ok (.value (.pointer (some ⟨g, m + i * sz, none⟩))) w := by
 rw [← addr_add]; exact ex_ixSl ht hs ho hx hi h w
theorem ex_ixArrG {P : Program} {t e : TypeId} {sz m : Nat} (ht : P.underlying t = some (.array m e)) (hs : (P.info? e).map (·.size) = some sz) {x ix : Operand} (ho : o.op = .indexAddr t x ix) {g b i : Nat} {k : IntKind} (hx : a.eval x = .pointer (some ⟨g, b, none⟩)) (hi : a.eval ix = .int k (i : Int)) (h : i < m) (w : World) :
 (execOp a.eval o).run P w = .ok (.value (.pointer (some ⟨g, b + i * sz, none⟩))) w := by
 rw [← addr_add]; exact ex_ixArr ht hs ho hx hi h w
theorem ex_ixSl1 {P : Program} {t e : TypeId} (ht : P.underlying t = some (.slice e)) (hs : (P.info? e).map (·.size) = some 1) {x ix : Operand} (ho : o.op = .indexAddr t x ix) {g m n c i : Nat} {k : IntKind} (hx : a.eval x = .slice (some ⟨g, m, none⟩) n c) (hi : a.eval ix = .int k (i : Int)) (h : i < n) (w : World) :
 (execOp a.eval o).run P w = .ok (.value (.pointer (some ⟨g, m + i, none⟩))) w := by
 have := ex_ixSlG ht hs ho hx hi h w
 rwa [Nat.mul_one] at this
theorem ex_ixSl0 {P : Program} {t e : TypeId} (ht : P.underlying t = some (.slice e)) (hs : (P.info? e).map (·.size) = some 1) {x ix : Operand} (ho : o.op = .indexAddr t x ix) {g n c i : Nat} {k : IntKind} (hx : a.eval x = .slice (some ⟨g, 0, none⟩) n c) (hi : a.eval ix = .int k (i : Int)) (h : i < n) (w : World) :
 (execOp a.eval o).run P w = .ok (.value (.pointer (some ⟨g, i, none⟩))) w := by
 have := ex_ixSl1 ht hs ho hx hi h w
 rwa [Nat.zero_add] at this
theorem ex_ixArr1 {P : Program} {t e : TypeId} {m : Nat} (ht : P.underlying t = some (.array m e)) (hs : (P.info? e).map (·.size) = some 1) {x ix : Operand} (ho : o.op = .indexAddr t x ix) {g b i : Nat} {k : IntKind} (hx : a.eval x = .pointer (some ⟨g, b, none⟩)) (hi : a.eval ix = .int k (i : Int)) (h : i < m) (w : World) :
 (execOp a.eval o).run P w = .ok (.value (.pointer (some ⟨g, b + i, none⟩))) w := by
 have := ex_ixArrG ht hs ho hx hi h w
 rwa [Nat.mul_one] at this
theorem ex_ixArr0 {P : Program} {t e : TypeId} {m : Nat} (ht : P.underlying t = some (.array m e)) (hs : (P.info? e).map (·.size) = some 1) {x ix : Operand} (ho : o.op = .indexAddr t x ix) {g i : Nat} {k : IntKind} (hx : a.eval x = .pointer (some ⟨g, 0, none⟩)) (hi : a.eval ix = .int k (i : Int)) (h : i < m) (w : World) :
 (execOp a.eval o).run P w = .ok (.value (.pointer (some ⟨g, i, none⟩))) w := by
 have := ex_ixArr1 ht hs ho hx hi h w
 rwa [Nat.zero_add] at this
theorem ex_loadI {x : Operand} (ho : o.op = .load 3 x) {p : Addr} (hx : a.eval x = .pointer (some p)) {z : Int} {w : World} (h : w.cell? p = some (.int .i64 z)) : (execOp a.eval o).run Tryz.prog w = .ok (.value (.int .i64 z)) w := by
 simp [execOp, ho, hx, run_loadI w p z h]
end
theorem sizeI : (Tryz.prog.info? 3).map (·.size) = some 1 := by kernel_rfl
section
variable {P : Program} {ops : Array Oper} {Q : Exit → Act → World → Prop} {rest : List Oper} {o : Oper} {a : Act} {w : World}
theorem wl_run (hg : o.guard = none) (v : Value) (h1 : ∀ w, (execOp a.eval o).run P w = .ok (.value v) w) (h : wpList P ops Q rest (a.put o.dst v) w) : wpList P ops Q (o :: rest) a w :=
 wpList_plain hg fun _ hK => by unfold Oper.wp; rw [h1]; exact hK _ _ h
theorem wl_run_g (hw : Region.wanted o (yielded ops a.tmps) = true) (v : Value) (h1 : ∀ w, (execOp a.eval o).run P w = .ok (.value v) w) (h : wpList P ops Q rest (a.put o.dst v) w) : wpList P ops Q (o :: rest) a w :=
 wpList_wanted hw fun _ hK => by unfold Oper.wp; rw [h1]; exact hK _ _ h
theorem wl_read_g (hw : Region.wanted o (yielded ops a.tmps) = true) (v : Value) (h1 : (execOp a.eval o).run P w = .ok (.value v) w) (h : wpList P ops Q rest (a.put o.dst v) w) : wpList P ops Q (o :: rest) a w :=
 wpList_wanted hw fun _ hK => by unfold Oper.wp; rw [h1]; exact hK _ _ h
theorem wl_read (hg : o.guard = none) (v : Value) (h1 : (execOp a.eval o).run P w = .ok (.value v) w) (h : wpList P ops Q rest (a.put o.dst v) w) : wpList P ops Q (o :: rest) a w :=
 wpList_plain hg fun _ hK => by unfold Oper.wp; rw [h1]; exact hK _ _ h
end
theorem wl_storeI {ops : Array Oper} {Q : Exit → Act → World → Prop} {rest : List Oper} {o : Oper} {a : Act} {w : World} (hg : o.guard = none) (x y : Operand) (ho : o.op = .store 3 x y) (g i : Nat) (z : Int) (hx : a.eval x = .pointer (some ⟨g, i, none⟩)) (hy : a.eval y = .int .i64 z)
 {t : TypeId} {cs : Array Value} (hB : Blk w g t cs) (hi : i < cs.size) (h : wpList Tryz.prog ops Q rest (a.put o.dst undef) (w.setCell ⟨g, i, none⟩ (.int .i64 z))) : wpList Tryz.prog ops Q (o :: rest) a w :=
 wpList_plain hg fun _ hK => wp_storeI x y ho ⟨g, i, none⟩ z hx hy _ ((hB.cell i).trans (Array.getElem?_eq_getElem hi)) (hB.frozen i) (hK _ _ h)
theorem own_upd2 {S : Nat → Prop} {w w' : World} {base : Nat} {e : TypeId} {size n : Nat} {v : Value} {xs : List Value} (h : w.ownsRow base e size v n xs) (hu : Upd S w w') (hS : ∀ x, v.ownBlock = some x → ¬ S x) : w'.ownsRow base e size v n xs := by
 obtain ⟨hl, hh⟩ := h
 refine ⟨hl, ?_⟩
 rcases hh with ⟨rfl, rfl⟩ | ⟨g, cap, cur, rfl, h1, hg, h2⟩
 ·exact .inl ⟨rfl, rfl⟩
 ·exact .inr ⟨g, cap, cur, rfl, h1, (hu.block g (Blk.lt (w := w) (t := e) (cs := cur) hg) (hS g rfl)).trans hg, h2⟩
theorem upd_grown {w w' : World} {row : Option Nat} (hg : w.grownBy w' row) : Upd (fun b => row = some b) w w' :=
 (Upd.refl (fun b => row = some b) w).grown hg (fun b hb => .inl hb)
def Apart (w : World) (e : TypeId) (v : Value) (g : Nat) (r1 r2 : Option Nat) : Prop := Blk w g e #[v] ∧ r1 ≠ some g ∧ r2 ≠ some g
structure Two (w0 w : World) (B : Nat) (e1 e2 : TypeId) (v1 v2 : Value) (n1 n2 : Nat) (xs1 xs2 : List Value) (t1 t2 : Option (Value × Nat)) : Prop where
 ext : Ext w0 w
 base : w0.heap.size ≤ B ∧ B ≤ w.heap.size
 p : w.ownsRow B e1 1 v1 n1 xs1
 m : w.ownsRow B e2 1 v2 n2 xs2
 d : ∀ b, v1.ownBlock = some b → v2.ownBlock ≠ some b
 a1 : ∀ v g, t1 = some (v, g) → Apart w e1 v g v1.ownBlock v2.ownBlock
 a2 : ∀ v g, t2 = some (v, g) → Apart w e2 v g v1.ownBlock v2.ownBlock
section
variable {w0 w w' : World} {B : Nat} {e1 e2 : TypeId} {v1 v2 v1' v2' : Value} {n1 n2 m1 m2 : Nat} {xs1 xs2 ys1 ys2 : List Value} {t1 t2 : Option (Value × Nat)}
theorem Two.later (h : Two w0 w B e1 e2 v1 v2 n1 n2 xs1 xs2 t1 t2) (hx : Ext w w') : Two w0 w' B e1 e2 v1 v2 n1 n2 xs1 xs2 t1 t2 :=
 ⟨h.ext.trans hx, ⟨h.base.1, Nat.le_trans h.base.2 hx.size⟩, own_keep h.p hx, own_keep h.m hx, h.d, fun v g e => by obtain ⟨a, b, c⟩ := h.a1 v g e; exact ⟨a.ext hx, b, c⟩, fun v g e => by obtain ⟨a, b, c⟩ := h.a2 v g e; exact ⟨a.ext hx, b, c⟩⟩
theorem Two.fresh (h : Two w0 w B e1 e2 v1 v2 n1 n2 xs1 xs2 t1 t2) {g : Nat} (hg : w.heap.size ≤ g) : v1.ownBlock ≠ some g ∧ v2.ownBlock ≠ some g :=
 ⟨fun e => by have := (h.p.lt g e).2; omega, fun e => by have := (h.m.lt g e).2; omega⟩
theorem Two.lit1 (h : Two w0 w B e1 e2 v1 v2 n1 n2 xs1 xs2 t1 t2) {v : Value} {g : Nat} (hb : Blk w' g e1 #[v]) (hx : Ext w w') (hg : w.heap.size ≤ g) : Two w0 w' B e1 e2 v1 v2 n1 n2 xs1 xs2 (some (v, g)) t2 := by
 have k := h.later hx
 obtain ⟨f1, f2⟩ := h.fresh hg
 exact ⟨k.ext, k.base, k.p, k.m, k.d, fun u g' e => by injection e with e; injection e with e e'; subst e e'; exact ⟨hb, f1, f2⟩, k.a2⟩
theorem Two.lit2 (h : Two w0 w B e1 e2 v1 v2 n1 n2 xs1 xs2 t1 t2) {v : Value} {g : Nat} (hb : Blk w' g e2 #[v]) (hx : Ext w w') (hg : w.heap.size ≤ g) : Two w0 w' B e1 e2 v1 v2 n1 n2 xs1 xs2 t1 (some (v, g)) := by
 have k := h.later hx
 obtain ⟨f1, f2⟩ := h.fresh hg
 exact ⟨k.ext, k.base, k.p, k.m, k.d, k.a1, fun u g' e => by injection e with e; injection e with e e'; subst e e'; exact ⟨hb, f1, f2⟩⟩
theorem Apart.grown {e : TypeId} {v : Value} {g : Nat} {r r' r2 : Option Nat} (h : Apart w e v g r r2) (hg : w.grownBy w' r) (hr : r' = r ∨ r' = some w.heap.size) : Apart w' e v g r' r2 := by
 obtain ⟨hb, h1, h2⟩ := h
 refine ⟨(upd_grown hg).blk hb h1, ?_, h2⟩
 rcases hr with rfl | rfl
 ·exact h1
 ·intro e; injection e with e; have := hb.lt; omega
theorem Apart.swap {e : TypeId} {v : Value} {g : Nat} {r r2 : Option Nat} (h : Apart w e v g r r2) : Apart w e v g r2 r := ⟨h.1, h.2.2, h.2.1⟩
theorem Two.app1 (h : Two w0 w B e1 e2 v1 v2 n1 n2 xs1 xs2 t1 t2) (ho : w'.ownsRow B e1 1 v1' m1 ys1) (hg : w.grownBy w' v1.ownBlock) (hr : v1'.ownBlock = v1.ownBlock ∨ v1'.ownBlock = some w.heap.size) : Two w0 w' B e1 e2 v1' v2 m1 n2 ys1 xs2 none t2 := by
 have hu := upd_grown hg
 refine ⟨hu.ext h.ext (fun x hx => by have := (h.p.lt x hx).1; have := h.base.1; omega), ⟨h.base.1, Nat.le_trans h.base.2 hu.size⟩, ho, own_upd2 h.m hu (fun x hx e => h.d x e hx), fun b hb => ?_, fun _ _ e => (by cases e), fun v g e => (h.a2 v g e).grown hg hr⟩
 rcases hr with e | e
 ·exact h.d b (e ▸ hb)
 ·rw [e] at hb
  injection hb with hb
  intro e2
  have := (h.m.lt b e2).2
  omega
theorem Two.app2 (h : Two w0 w B e1 e2 v1 v2 n1 n2 xs1 xs2 t1 t2) (ho : w'.ownsRow B e2 1 v2' m2 ys2) (hg : w.grownBy w' v2.ownBlock) (hr : v2'.ownBlock = v2.ownBlock ∨ v2'.ownBlock = some w.heap.size) : Two w0 w' B e1 e2 v1 v2' n1 m2 xs1 ys2 t1 none := by
 have hu := upd_grown hg
 refine ⟨hu.ext h.ext (fun x hx => by have := (h.m.lt x hx).1; have := h.base.1; omega), ⟨h.base.1, Nat.le_trans h.base.2 hu.size⟩, own_upd2 h.p hu (fun x hx e => h.d x hx e), ho, fun b hb => ?_, fun v g e => ((h.a1 v g e).swap.grown hg hr).swap, fun _ _ e => (by cases e)⟩
 rcases hr with e | e
 ·rw [e]; exact h.d b hb
 ·rw [e]
  intro e2
  injection e2 with e2
  have := (h.p.lt b hb).2
  omega
theorem own_map2 (A : Option Addr) (n c : Nat) : (Value.slice A n c).ownBlock = A.map (·.block) := by cases A <;> rfl
theorem one_of {v : Value} (h : v.oneCell' = true) : ∀ u ∈ [v], u.oneCell' = true := by
 intro u hu
 simp at hu
 subst hu
 exact h
theorem oi_end {P : Program} {ops : Array Oper} {K : Act → World → Prop} {a : Act} {w : World} (h : K a w) : wpList P ops (onlyN K) [] a w := h
theorem Two.app1' {A : Option Addr} {c : Nat} (h : Two w0 w B e1 e2 v1 v2 n1 n2 xs1 xs2 t1 t2) (ho : w'.ownsRow B e1 1 (.slice A m1 c) m1 ys1) (hg : w.grownBy w' v1.ownBlock) (hr : A.map (·.block) = v1.ownBlock ∨ A.map (·.block) = some w.heap.size) : Two w0 w' B e1 e2 (.slice A m1 c) v2 m1 n2 ys1 xs2 none t2 :=
 h.app1 ho hg (by rw [own_map2]; exact hr)
theorem Two.app2' {A : Option Addr} {c : Nat} (h : Two w0 w B e1 e2 v1 v2 n1 n2 xs1 xs2 t1 t2) (ho : w'.ownsRow B e2 1 (.slice A m2 c) m2 ys2) (hg : w.grownBy w' v2.ownBlock) (hr : A.map (·.block) = v2.ownBlock ∨ A.map (·.block) = some w.heap.size) : Two w0 w' B e1 e2 v1 (.slice A m2 c) n1 m2 xs1 ys2 t1 none :=
 h.app2 ho hg (by rw [own_map2]; exact hr)
theorem blk_one {g : Nat} {e : TypeId} {v : Value} (h : Blk w g e #[v]) : SL w 1 (.slice (some ⟨g, 0, none⟩) 1 1) 1 [v] :=
 ⟨_, _, rfl, by omega, by omega, rfl, fun _ => ⟨_, rfl, h.lt, fun j u hu => by
  have hc := h.cell j
  rw [addr_add]
  simp only [Nat.zero_add]
  rw [hc, ← hu]
  simp⟩⟩
end
def RowsS (w : World) (A : Option Addr) (n c : Nat) (L : List (List Int)) : Prop :=
 ∃ vs : List Value, SL w 1 (.slice A n c) n vs ∧ L.length = n ∧ ∀ (k : Nat) (l : List Int), L[k]? = some l → ∃ (B : Option Addr) (d : Nat), vs[k]? = some (Value.slice B l.length d) ∧ SL w 1 (.slice B l.length d) l.length (ints l)
theorem RowsS.ext {w w' : World} {A : Option Addr} {n c : Nat} {L : List (List Int)} (h : RowsS w A n c L) (hx : Ext w w') : RowsS w' A n c L := by
 obtain ⟨vs, h1, h2, h3⟩ := h
 refine ⟨vs, h1.ext hx, h2, fun k l hl => ?_⟩
 obtain ⟨B, d, e, hs⟩ := h3 k l hl
 exact ⟨B, d, e, hs.ext hx⟩
theorem RowsS.len {w : World} {A : Option Addr} {n c : Nat} {L : List (List Int)} (h : RowsS w A n c L) : L.length = n := h.choose_spec.2.1
theorem RowsS.cap {w : World} {A : Option Addr} {n c : Nat} {L : List (List Int)} (h : RowsS w A n c L) : n ≤ c ∧ c ≤ 9223372036854775807 := by
 obtain ⟨vs, ⟨A', c', e, h1, h2, -⟩, -⟩ := h
 injection e with e1 e2 e3
 subst e3
 exact ⟨h1, h2⟩
theorem RowsS.get {w : World} {A : Option Addr} {n c k : Nat} {L : List (List Int)} (h : RowsS w A n c L) (hk : k < n) :
 ∃ ad l B d, A = some ad ∧ L[k]? = some l ∧ ad.block < w.heap.size ∧ w.cell? (ad.add k) = some (.slice B l.length d) ∧ SL w 1 (.slice B l.length d) l.length (ints l) := by
 obtain ⟨vs, h1, h2, h3⟩ := h
 obtain ⟨ad, u, ha, hb, hu, hc⟩ := h1.at1 hk
 have hl : L[k]? = some (L[k]'(by omega)) := List.getElem?_eq_getElem (by omega)
 obtain ⟨B, d, e, hs⟩ := h3 k _ hl
 rw [e] at hu
 injection hu with hu
 subst hu
 exact ⟨ad, _, B, d, ha, hl, hb, hc, hs⟩
theorem RowsS.nil (w : World) : RowsS w none 0 0 [] := ⟨[], SL.nil w 1, rfl, by simp⟩
section
variable {P : Program} {ops : Array Oper} {md : Region.Mode} {F : Nat → Bool} {I : World → Prop}
def wpAnyF (P : Program) (md : Region.Mode) (ops : Array Oper) (F : Nat → Bool) (I : World → Prop) (QN : Act → World → Prop) : Nat → Array Bool → Act → World → Prop
 | 0, listed, a, w => Region.ready md ops listed = [] ∧ QN a w
 | f + 1, listed, a, w => (Region.ready md ops listed = [] → QN a w) ∧
   ∀ i ∈ Region.ready md ops listed, wpOp P ops (onlyN QN) i (fun a' w' => (F i = true → I w') ∧ wpAnyF P md ops F I QN f (listed.setIfInBounds i true) a' w') a w
variable {QN : Act → World → Prop}
theorem wpAny_of_F : ∀ (f : Nat) (listed : Array Bool) (a : Act) (w : World), wpAnyF P md ops F I QN f listed a w → wpAny P md ops (onlyN QN) f listed a w
 | 0, _, _, _, h => ⟨h.1, h.2⟩
 | f + 1, _, _, _, h => ⟨fun h0 => h.1 h0, fun i hi => wpOp_mono (fun a' w' h' => wpAny_of_F f _ a' w' h'.2) (h.2 i hi)⟩
theorem of_loud0 {k f : Nat} {o : Oper} {listed : Array Bool} {a : Act} {w : World} (hone : Region.ready md ops listed = [k]) (ho : ops[k]? = some o)
 (h : wpList P ops (onlyN fun a' w' => (F k = true → I w') ∧ wpAnyF P md ops F I QN f (listed.setIfInBounds k true) a' w') [o] a w) : wpAnyF P md ops F I QN (f + 1) listed a w :=
 ⟨fun h0 => (by rw [h0] at hone; cases hone), fun i hi => by
  rw [hone] at hi
  have hik : i = k := by simpa using hi
  subst hik
  exact wpOp_of_list ho h⟩
theorem of_two0 {k l f : Nat} {o o2 : Oper} {listed : Array Bool} {a : Act} {w : World} (hone : Region.ready md ops listed = [k, l]) (ho : ops[k]? = some o) (ho2 : ops[l]? = some o2)
 (h : wpList P ops (onlyN fun a' w' => (F k = true → I w') ∧ wpAnyF P md ops F I QN f (listed.setIfInBounds k true) a' w') [o] a w)
 (h2 : wpList P ops (onlyN fun a' w' => (F l = true → I w') ∧ wpAnyF P md ops F I QN f (listed.setIfInBounds l true) a' w') [o2] a w) : wpAnyF P md ops F I QN (f + 1) listed a w :=
 ⟨fun h0 => (by rw [h0] at hone; cases hone), fun i hi => by
  rw [hone] at hi
  have hik : i = k ∨ i = l := by simpa using hi
  rcases hik with rfl | rfl
  ·exact wpOp_of_list ho h
  ·exact wpOp_of_list ho2 h2⟩
section
variable {l0 : List Oper}
theorem of_loud {k f : Nat} {o : Oper} {listed : Array Bool} {a : Act} {w : World} (hone : Region.ready md l0.toArray listed = [k]) (ho : l0[k]? = some o)
 (h : wpList P l0.toArray (onlyN fun a' w' => (F k = true → I w') ∧ wpAnyF P md l0.toArray F I QN f (listed.setIfInBounds k true) a' w') [o] a w) : wpAnyF P md l0.toArray F I QN (f + 1) listed a w := of_loud0 hone (by simpa using ho) h
theorem of_two {k l f : Nat} {o o2 : Oper} {listed : Array Bool} {a : Act} {w : World} (hone : Region.ready md l0.toArray listed = [k, l]) (ho : l0[k]? = some o) (ho2 : l0[l]? = some o2)
 (h : wpList P l0.toArray (onlyN fun a' w' => (F k = true → I w') ∧ wpAnyF P md l0.toArray F I QN f (listed.setIfInBounds k true) a' w') [o] a w)
 (h2 : wpList P l0.toArray (onlyN fun a' w' => (F l = true → I w') ∧ wpAnyF P md l0.toArray F I QN f (listed.setIfInBounds l true) a' w') [o2] a w) : wpAnyF P md l0.toArray F I QN (f + 1) listed a w := of_two0 hone (by simpa using ho) (by simpa using ho2) h h2
end
theorem wp_region_of (F : Nat → Bool) (I : World → Prop) {id : Nat} {a : Act} {w : World} {l : List Oper} {Q : Exit → Act → World → Prop} (hm : P.follows .mixedOrders = true)
 (h : wpAnyF P .any l.toArray F I (fun a w => Q .normal a w) l.length (Array.replicate l.length false) a w.drew) : (Code.region id l.toArray true).wp P Q a w := by
 refine Code.wp_mono (Q := onlyN (fun a w => Q .normal a w)) (fun e a w h => ?_) (wp_region_any hm (wpAny_of_F _ _ _ _ (by simpa using h)))
 cases e <;> first | exact h | exact (h : False).elim
theorem of_done {listed : Array Bool} {a : Act} {w : World} (hone : Region.ready md ops listed = []) (h : QN a w) : wpAnyF P md ops F I QN 0 listed a w := ⟨hone, h⟩
end
section
variable {P : Program} {ops : Array Oper} {md : Region.Mode} {F : Nat → Bool} {I : World → Prop} {QN : Act → World → Prop}
theorem wpAnyG_first {J : World → Prop} {i : Nat} {oi : Oper} {v : Value} (Wt : Nat → Bool) (hWt : ∀ j oj, ops[j]? = some oj → Wt j = true → ∃ e ∈ oj.after, Region.binds md e = true ∧ (e.on = i ∨ Wt e.on = true)) (hi : ops[i]? = some oi) (hsel : ∀ (j : Nat) (o : Oper) cs b, ops[j]? = some o → o.op ≠ .select cs b) :
 ∀ (fuel : Nat) (listed : Array Bool) (a : Act) (w : World),
  (∀ j, Wt j = true → listed.getD j true = false) →
  (∀ w, J w → F i = true → I w) → (∀ w, (∀ j oj, ops[j]? = some oj → listed.getD j true = false → j ≠ i → Wt j = true ∨ ∀ w', (F j = true → I w') → J w → J w')) →
  (∀ j oj, ops[j]? = some oj → j ≠ i → listed.getD j true = false → (∀ e ∈ oj.after, Region.binds md e = true → e.on ≠ i) → oi.apart ops oj = true) →
  i ∈ Region.ready md ops listed → Fixed P ops J oi v a → J w →
  wpAnyF P md ops F I QN fuel (listed.setIfInBounds i true) (a.put oi.dst v) w → wpAnyF P md ops F I QN (fuel + 1) listed a w := by
 intro fuel
 induction fuel with
 | zero =>
   intro listed a w hL hJI _ _ hr hy hI H
   refine ⟨fun h => (by rw [h] at hr; cases hr), fun j hj => ?_⟩
   by_cases hji : j = i
   ·subst hji; exact hy.wpOp hi hI ⟨hJI w hI, H⟩
   ·have := ready_mono hj hji
    rw [H.1] at this
    cases this
 | succ fuel ih =>
   intro listed a w hL hJI hK hfree hr hy hI H
   refine ⟨fun h => (by rw [h] at hr; cases hr), fun j hj => ?_⟩
   by_cases hji : j = i
   ·subst hji; exact hy.wpOp hi hI ⟨hJI w hI, H⟩
   ·have h1 := H.2 j (ready_mono hj hji)
    obtain ⟨hjun, oj, hoj, hall⟩ := mem_ready.1 hj
    have hnot : ∀ e ∈ oj.after, Region.binds md e = true → e.on ≠ i := fun e he hb heq => by
     have h1 := hall e he hb
     have h0 := (mem_ready.1 hr).1
     rw [heq] at h1
     rcases Nat.lt_or_ge i listed.size with h' | h'
     ·simp [h'] at h0 h1; rw [h0] at h1; cases h1
     ·simp [Array.getElem?_eq_none h'] at h1
    have hjW : Wt j ≠ true := fun hW => by
     obtain ⟨e, he, hb, h⟩ := hWt j oj hoj hW
     rcases h with heq | h
     ·exact hnot e he hb heq
     ·have h1 := hall e he hb
      have h2 := hL e.on h
      rcases Nat.lt_or_ge e.on listed.size with h' | h'
      ·simp [h'] at h1 h2; rw [h2] at h1; cases h1
      ·simp [Array.getElem?_eq_none h'] at h2
    have hstep : ∀ w', (F j = true → I w') → J w → J w' := by
     rcases hK w j oj hoj hjun hji with h | h
     ·exact absurd h hjW
     ·exact h
    have h2 := wpOp_putI hoj (hfree j oj hoj hji hjun hnot) (fun cs b => hsel i oi cs b hi) (fun cs b => hsel j oj cs b hoj) (fun _ _ _ h => h) hy h1
    have hun' : ∀ k, (listed.setIfInBounds j true).getD k true = false → listed.getD k true = false := fun k hun => by
     by_cases hjk : j = k
     ·subst hjk; exact hjun
     ·rwa [getD_set_ne true hjk] at hun
    have hfree' : ∀ k ok, ops[k]? = some ok → k ≠ i → (listed.setIfInBounds j true).getD k true = false →
     (∀ e ∈ ok.after, Region.binds md e = true → e.on ≠ i) → oi.apart ops ok = true := fun k ok hk hki hun hno => hfree k ok hk hki (hun' k hun) hno
    refine wpOp_mono (fun a' w' h3 => ⟨h3.2.1, ih (listed.setIfInBounds j true) a' w' (fun k hk => by
     have hkj : j ≠ k := fun h => hjW (h ▸ hk)
     rw [getD_set_ne true hkj]; exact hL k hk) hJI (fun w2 k ok hk hun hki => hK w2 k ok hk (hun' k hun) hki) hfree' (ready_mono hr (Ne.symm hji)) h3.1 (hstep w' h3.2.1 hI) ?_⟩) h2
    rw [Array.setIfInBounds_comm _ _ hji]
    exact h3.2.2
def roads (md : Region.Mode) (ops : Array Oper) (k : Nat) : List Nat :=
 (List.range ops.size).foldl (fun L j => match ops[j]? with | some oj => if oj.after.any (fun e => Region.binds md e && (e.on == k || L.contains e.on)) then j :: L else L | none => L) []
def roadsOK (md : Region.Mode) (ops : Array Oper) (listed : Array Bool) (k : Nat) (L : List Nat) : Bool :=
 L.all fun j => !(listed.getD j true) && match ops[j]? with | some oj => oj.after.any (fun e => Region.binds md e && (e.on == k || L.contains e.on)) | none => false
def keepsL (md : Region.Mode) (ops : Array Oper) (F : Nat → Bool) (listed : Array Bool) (k : Nat) : Bool :=
 roadsOK md ops listed k (roads md ops k) && (List.range ops.size).all fun j => F j || listed.getD j true || j == k || (roads md ops k).contains j
theorem roadsOK_spec {listed : Array Bool} {k : Nat} {L : List Nat} (h : roadsOK md ops listed k L = true) : (∀ j oj, ops[j]? = some oj → L.contains j = true → ∃ e ∈ oj.after, Region.binds md e = true ∧ (e.on = k ∨ L.contains e.on = true)) ∧ ∀ j, L.contains j = true → listed.getD j true = false := by
 unfold roadsOK at h
 rw [List.all_eq_true] at h
 refine ⟨fun j oj hj hc => ?_, fun j hc => ?_⟩
 ·have := h j (by simpa using hc)
  rw [hj] at this
  simp only [Bool.and_eq_true, Array.any_eq_true] at this
  obtain ⟨-, x, hx, h2⟩ := this
  simp only [Bool.or_eq_true, beq_iff_eq] at h2
  exact ⟨oj.after[x], Array.getElem_mem hx, h2.1, h2.2⟩
 ·have := h j (by simpa using hc)
  rw [Bool.and_eq_true] at this
  simpa using this.1
theorem keepsL_spec {listed : Array Bool} {k : Nat} (h : keepsL md ops F listed k = true) : ∀ j oj, ops[j]? = some oj → listed.getD j true = false → j ≠ k → F j = false → (roads md ops k).contains j = true := by
 intro j oj hj hl hjk hF
 unfold keepsL at h
 rw [Bool.and_eq_true, List.all_eq_true] at h
 have hjs : j < ops.size := (Array.getElem?_eq_some_iff.1 hj).1
 have := h.2 j (List.mem_range.2 hjs)
 rw [hF, hl, Bool.false_or, Bool.false_or, show (j == k) = false by simpa using hjk, Bool.false_or] at this
 exact this
section
variable {l0 : List Oper}
theorem og_fix {k f : Nat} {o : Oper} {listed : Array Bool} {a : Act} {w : World} (hB : ((Region.ready md l0.toArray listed).contains k && Region.free md l0.toArray listed k && Region.noSelect l0.toArray && keepsL md l0.toArray F listed k) = true) (ho : l0[k]? = some o)
 (hw : Region.wanted o (yielded l0.toArray a.tmps) = true) (v : Value) (h1 : ∀ w, I w → (execOp a.eval o).run P w = .ok (.value v) w) (hI : I w)
 (h : wpAnyF P md l0.toArray F I QN f (listed.setIfInBounds k true) (a.put o.dst v) w) : wpAnyF P md l0.toArray F I QN (f + 1) listed a w := by
 simp only [Bool.and_eq_true] at hB
 have hR : roadsOK md l0.toArray listed k (roads md l0.toArray k) = true := by
  have := hB.2
  unfold keepsL at this
  rw [Bool.and_eq_true] at this
  exact this.1
 have hK : ∀ w j oj, l0.toArray[j]? = some oj → listed.getD j true = false → j ≠ k → (roads md l0.toArray k).contains j = true ∨ ∀ w', (F j = true → I w') → I w → I w' := fun w j oj hj hl hjk => by
  cases hF : F j with
  | true => exact .inr fun w' h _ => h rfl
  | false => exact .inl (keepsL_spec hB.2 j oj hj hl hjk hF)
 have ho' : l0.toArray[k]? = some o := by simpa using ho
 exact wpAnyG_first (J := I) (fun j => (roads md l0.toArray k).contains j) (roadsOK_spec hR).1 ho' (Region.noSelect_spec hB.1.2) f listed a w (roadsOK_spec hR).2 (fun _ h _ => h) hK (Region.free_spec ho' hB.1.1.2) (by simpa using hB.1.1.1) (.inl ⟨hw, h1⟩) hI h
theorem og_pure {k f : Nat} {o : Oper} {listed : Array Bool} {a : Act} {w : World} (hB : ((Region.ready md l0.toArray listed).contains k && Region.free md l0.toArray listed k && Region.noSelect l0.toArray && !F k) = true) (ho : l0[k]? = some o)
 (hw : Region.wanted o (yielded l0.toArray a.tmps) = true) (v : Value) (h1 : ∀ w, (execOp a.eval o).run P w = .ok (.value v) w)
 (h : wpAnyF P md l0.toArray F I QN f (listed.setIfInBounds k true) (a.put o.dst v) w) : wpAnyF P md l0.toArray F I QN (f + 1) listed a w := by
 simp only [Bool.and_eq_true] at hB
 have hF : F k = false := by simpa using hB.2
 have ho' : l0.toArray[k]? = some o := by simpa using ho
 exact wpAnyG_first (J := fun _ => True) (fun _ => false) (fun _ _ _ h => by cases h) ho' (Region.noSelect_spec hB.1.2) f listed a w (fun _ h => by cases h) (fun _ _ h => by rw [hF] at h; cases h) (fun _ _ _ _ _ _ => .inr fun _ _ _ => trivial) (Region.free_spec ho' hB.1.1.2) (by simpa using hB.1.1.1) (.inl ⟨hw, fun w _ => h1 w⟩) trivial h
theorem og_run {k f : Nat} {o : Oper} {listed : Array Bool} {a : Act} {w : World} (hB : ((Region.ready md l0.toArray listed).contains k && Region.free md l0.toArray listed k && Region.noSelect l0.toArray && keepsL md l0.toArray F listed k) = true) (ho : l0[k]? = some o)
 (hw : Region.wanted o (yielded l0.toArray a.tmps) = true) (v : Value) (h1 : ∀ w, (execOp a.eval o).run P w = .ok (.value v) w) (hI : I w)
 (h : wpAnyF P md l0.toArray F I QN f (listed.setIfInBounds k true) (a.put o.dst v) w) : wpAnyF P md l0.toArray F I QN (f + 1) listed a w := og_fix hB ho hw v (fun w _ => h1 w) hI h
theorem og_three {k l m f : Nat} {o o2 o3 : Oper} {listed : Array Bool} {a : Act} {w : World} (hone : Region.ready md l0.toArray listed = [k, l, m]) (ho : l0[k]? = some o) (ho2 : l0[l]? = some o2) (ho3 : l0[m]? = some o3)
 (h : wpList P l0.toArray (onlyN fun a' w' => (F k = true → I w') ∧ wpAnyF P md l0.toArray F I QN f (listed.setIfInBounds k true) a' w') [o] a w)
 (h2 : wpList P l0.toArray (onlyN fun a' w' => (F l = true → I w') ∧ wpAnyF P md l0.toArray F I QN f (listed.setIfInBounds l true) a' w') [o2] a w)
 (h3 : wpList P l0.toArray (onlyN fun a' w' => (F m = true → I w') ∧ wpAnyF P md l0.toArray F I QN f (listed.setIfInBounds m true) a' w') [o3] a w) : wpAnyF P md l0.toArray F I QN (f + 1) listed a w :=
 ⟨fun h0 => (by rw [h0] at hone; cases hone), fun i hi => by
  rw [hone] at hi
  have hik : i = k ∨ i = l ∨ i = m := by simpa using hi
  rcases hik with rfl | rfl | rfl
  ·exact wpOp_of_list (by simpa using ho) h
  ·exact wpOp_of_list (by simpa using ho2) h2
  ·exact wpOp_of_list (by simpa using ho3) h3⟩
end
end
def Apart3 (w : World) (e : TypeId) (v : Value) (g : Nat) (r0 r1 r2 : Option Nat) : Prop := Blk w g e #[v] ∧ r0 ≠ some g ∧ r1 ≠ some g ∧ r2 ≠ some g
structure Three (w0 w : World) (B : Nat) (e : TypeId) (v0 v1 v2 : Value) (n0 n1 n2 : Nat) (x0 x1 x2 : List Value) (t0 t1 t2 : Option (Value × Nat)) : Prop where
 ext : Ext w0 w
 base : w0.heap.size ≤ B ∧ B ≤ w.heap.size
 p0 : w.ownsRow B e 1 v0 n0 x0
 p1 : w.ownsRow B e 1 v1 n1 x1
 p2 : w.ownsRow B e 1 v2 n2 x2
 d01 : ∀ b, v0.ownBlock = some b → v1.ownBlock ≠ some b
 d12 : ∀ b, v1.ownBlock = some b → v2.ownBlock ≠ some b
 d20 : ∀ b, v2.ownBlock = some b → v0.ownBlock ≠ some b
 a0 : ∀ v g, t0 = some (v, g) → Apart3 w e v g v0.ownBlock v1.ownBlock v2.ownBlock
 a1 : ∀ v g, t1 = some (v, g) → Apart3 w e v g v0.ownBlock v1.ownBlock v2.ownBlock
 a2 : ∀ v g, t2 = some (v, g) → Apart3 w e v g v0.ownBlock v1.ownBlock v2.ownBlock
section
variable {w0 w w' : World} {B : Nat} {e : TypeId} {v0 v1 v2 v' : Value} {n0 n1 n2 m : Nat} {x0 x1 x2 ys : List Value} {t0 t1 t2 : Option (Value × Nat)}
theorem Three.rot (h : Three w0 w B e v0 v1 v2 n0 n1 n2 x0 x1 x2 t0 t1 t2) : Three w0 w B e v1 v2 v0 n1 n2 n0 x1 x2 x0 t1 t2 t0 :=
 ⟨h.ext, h.base, h.p1, h.p2, h.p0, h.d12, h.d20, h.d01, fun v g q => by obtain ⟨a, b, c, d⟩ := h.a1 v g q; exact ⟨a, c, d, b⟩, fun v g q => by obtain ⟨a, b, c, d⟩ := h.a2 v g q; exact ⟨a, c, d, b⟩, fun v g q => by obtain ⟨a, b, c, d⟩ := h.a0 v g q; exact ⟨a, c, d, b⟩⟩
theorem Three.later (h : Three w0 w B e v0 v1 v2 n0 n1 n2 x0 x1 x2 t0 t1 t2) (hx : Ext w w') : Three w0 w' B e v0 v1 v2 n0 n1 n2 x0 x1 x2 t0 t1 t2 :=
 ⟨h.ext.trans hx, ⟨h.base.1, Nat.le_trans h.base.2 hx.size⟩, own_keep h.p0 hx, own_keep h.p1 hx, own_keep h.p2 hx, h.d01, h.d12, h.d20,
  fun v g q => by obtain ⟨a, b⟩ := h.a0 v g q; exact ⟨a.ext hx, b⟩, fun v g q => by obtain ⟨a, b⟩ := h.a1 v g q; exact ⟨a.ext hx, b⟩, fun v g q => by obtain ⟨a, b⟩ := h.a2 v g q; exact ⟨a.ext hx, b⟩⟩
theorem Three.lit0 (h : Three w0 w B e v0 v1 v2 n0 n1 n2 x0 x1 x2 t0 t1 t2) {v : Value} {g : Nat} (hb : Blk w' g e #[v]) (hx : Ext w w') (hg : w.heap.size ≤ g) : Three w0 w' B e v0 v1 v2 n0 n1 n2 x0 x1 x2 (some (v, g)) t1 t2 := by
 have k := h.later hx
 refine ⟨k.ext, k.base, k.p0, k.p1, k.p2, k.d01, k.d12, k.d20, fun u g' q => ?_, k.a1, k.a2⟩
 injection q with q
 injection q with q q'
 subst q q'
 exact ⟨hb, fun q => by have := (h.p0.lt g q).2; omega, fun q => by have := (h.p1.lt g q).2; omega, fun q => by have := (h.p2.lt g q).2; omega⟩
theorem Three.lit1 (h : Three w0 w B e v0 v1 v2 n0 n1 n2 x0 x1 x2 t0 t1 t2) {v : Value} {g : Nat} (hb : Blk w' g e #[v]) (hx : Ext w w') (hg : w.heap.size ≤ g) : Three w0 w' B e v0 v1 v2 n0 n1 n2 x0 x1 x2 t0 (some (v, g)) t2 := (h.rot.lit0 hb hx hg).rot.rot
theorem Three.lit2 (h : Three w0 w B e v0 v1 v2 n0 n1 n2 x0 x1 x2 t0 t1 t2) {v : Value} {g : Nat} (hb : Blk w' g e #[v]) (hx : Ext w w') (hg : w.heap.size ≤ g) : Three w0 w' B e v0 v1 v2 n0 n1 n2 x0 x1 x2 t0 t1 (some (v, g)) := (h.rot.rot.lit0 hb hx hg).rot
theorem Apart3.grown {v : Value} {g : Nat} {r r' r1 r2 : Option Nat} (h : Apart3 w e v g r r1 r2) (hg : w.grownBy w' r) (hr : r' = r ∨ r' = some w.heap.size) : Apart3 w' e v g r' r1 r2 := by
 obtain ⟨hb, h0, h1, h2⟩ := h
 refine ⟨(upd_grown hg).blk hb h0, ?_, h1, h2⟩
 rcases hr with rfl | rfl
 ·exact h0
 ·intro q; injection q with q; have := hb.lt; omega
theorem Three.app0 {A : Option Addr} {c : Nat} (h : Three w0 w B e v0 v1 v2 n0 n1 n2 x0 x1 x2 t0 t1 t2) (ho : w'.ownsRow B e 1 (.slice A m c) m ys) (hg : w.grownBy w' v0.ownBlock) (hr : A.map (·.block) = v0.ownBlock ∨ A.map (·.block) = some w.heap.size) :
 Three w0 w' B e (.slice A m c) v1 v2 m n1 n2 ys x1 x2 none t1 t2 := by
 rw [← own_map2 A m c] at hr
 have hu := upd_grown hg
 refine ⟨hu.ext h.ext (fun x hx => by have := (h.p0.lt x hx).1; have := h.base.1; omega), ⟨h.base.1, Nat.le_trans h.base.2 hu.size⟩, ho, own_upd2 h.p1 hu (fun x hx q => h.d01 x q hx), own_upd2 h.p2 hu (fun x hx q => h.d20 x hx q), fun b hb => ?_, h.d12, fun b hb => ?_, fun _ _ q => (by cases q), fun v g q => (h.a1 v g q).grown hg hr, fun v g q => (h.a2 v g q).grown hg hr⟩
 ·rcases hr with q | q
  ·exact h.d01 b (q ▸ hb)
  ·rw [q] at hb
   injection hb with hb
   exact fun q2 => by have := (h.p1.lt b q2).2; omega
 ·rcases hr with q | q
  ·rw [q]; exact h.d20 b hb
  ·rw [q]
   intro q2
   injection q2 with q2
   have := (h.p2.lt b hb).2
   omega
theorem Three.app1 {A : Option Addr} {c : Nat} (h : Three w0 w B e v0 v1 v2 n0 n1 n2 x0 x1 x2 t0 t1 t2) (ho : w'.ownsRow B e 1 (.slice A m c) m ys) (hg : w.grownBy w' v1.ownBlock) (hr : A.map (·.block) = v1.ownBlock ∨ A.map (·.block) = some w.heap.size) :
 Three w0 w' B e v0 (.slice A m c) v2 n0 m n2 x0 ys x2 t0 none t2 := (h.rot.app0 ho hg hr).rot.rot
theorem Three.app2 {A : Option Addr} {c : Nat} (h : Three w0 w B e v0 v1 v2 n0 n1 n2 x0 x1 x2 t0 t1 t2) (ho : w'.ownsRow B e 1 (.slice A m c) m ys) (hg : w.grownBy w' v2.ownBlock) (hr : A.map (·.block) = v2.ownBlock ∨ A.map (·.block) = some w.heap.size) :
 Three w0 w' B e v0 v1 (.slice A m c) n0 n1 m x0 x1 ys t0 t1 none := (h.rot.rot.app0 ho hg hr).rot
theorem Three.nil (w : World) (e : TypeId) : Three w w w.heap.size e (.slice none 0 0) (.slice none 0 0) (.slice none 0 0) 0 0 0 [] [] [] none none none :=
 ⟨Ext.refl w, ⟨Nat.le_refl _, Nat.le_refl _⟩, World.ownsRow_nil _ _ _ _, World.ownsRow_nil _ _ _ _, World.ownsRow_nil _ _ _ _, fun _ q => (by cases q), fun _ q => (by cases q), fun _ q => (by cases q), fun _ _ q => (by cases q), fun _ _ q => (by cases q), fun _ _ q => (by cases q)⟩
end
theorem own_typed {w : World} {base size n : Nat} {e : TypeId} {v : Value} {xs : List Value} (h : w.ownsRow base e size v n xs) : ∀ g, v.ownBlock = some g → ∃ cs, w.heap[g]? = some (.cells cs e (0, 0)) := by
 obtain ⟨-, hh⟩ := h
 intro g hg
 rcases hh with ⟨rfl, -⟩ | ⟨k, cap, cur, rfl, -, hk, -⟩
 ·simp [Value.ownBlock] at hg
 ·have : k = g := by simpa [Value.ownBlock] using hg
  subst this
  exact ⟨_, hk⟩
theorem own_apart {w : World} {B1 B2 s1 s2 n1 n2 : Nat} {e1 e2 : TypeId} {v1 v2 : Value} {x1 x2 : List Value} (h1 : w.ownsRow B1 e1 s1 v1 n1 x1) (h2 : w.ownsRow B2 e2 s2 v2 n2 x2) (hne : e1 ≠ e2) : ∀ x, v1.ownBlock = some x → v2.ownBlock ≠ some x := by
 intro x hx hy
 obtain ⟨cs, h3⟩ := own_typed h1 x hx
 obtain ⟨ds, h4⟩ := own_typed h2 x hy
 rw [h3] at h4
 injection h4 with h4
 injection h4 with _ h4
 exact hne h4
theorem own_blk_ne {w : World} {B s n g : Nat} {e t : TypeId} {v : Value} {xs : List Value} {cs : Array Value} (h : w.ownsRow B e s v n xs) (hb : Blk w g t cs) (hne : e ≠ t) : some g ≠ v.ownBlock := by
 intro hx
 obtain ⟨ds, h3⟩ := own_typed h g hx.symm
 unfold Blk at hb
 rw [h3] at hb
 injection hb with hb
 injection hb with _ hb
 exact hne hb
def Meth (P : Program) (ty : TypeId) (v : Value) (name : String) (f : FuncId) (recv : Value) : Prop :=
 (∀ w, (method (P.types.size + Made.depth) ty v name).run P w = .ok (f, recv) w) ∧ ∃ fn, P.funcs[f]? = some fn ∧ (fn.name == "runtime.NumGoroutine") = false ∧ fn.body.isSome = true
def Goes (P : Program) (f : FuncId) : Prop := ∃ fn, P.funcs[f]? = some fn ∧ (fn.name == "runtime.NumGoroutine") = false ∧ fn.body.isSome = true
section
variable {P : Program} {ops : Array Oper} {rest : List Oper} {o : Oper} {a : Act} {Q : Exit → Act → World → Prop}
theorem run_invoke (r : Operand) (name : String) (xs : Array Operand) (ts : Array TypeId) (ho : o.op = .call { callee := .invoke r name, args := xs, argTypes := ts }) {ty : TypeId} {v : Value}
 (hr : a.eval r = .iface ty v) {f : FuncId} {recv : Value} (hm : Meth P ty v name f recv) (args : Array Value) (hx : #[recv] ++ xs.map a.eval = args) (w : World) : (execOp a.eval o).run P w = .ok (.enter f args) w := by
 obtain ⟨h1, fn, hf, hname, hb⟩ := hm
 obtain ⟨c, hb⟩ := Option.isSome_iff_exists.1 hb
 have hn : ¬ fn.name = "runtime.NumGoroutine" := by simpa using hname
 subst hx
 have e0 : (#[Value.iface ty v] ++ Array.map a.eval xs)[0]? = some (.iface ty v) := by simp [Array.getElem?_append]
 have e1 : (#[Value.iface ty v] ++ Array.map a.eval xs).extract 1 (#[Value.iface ty v] ++ Array.map a.eval xs).size = xs.map a.eval := by simp
 simp only [execOp, ho, resolve, hr, invoke, Sem.run_bind, Sem.run_pure, Result.andThen_ok, e0, e1]
 simp [callMethod, callFunc, hf, hb, hn, h1, run_program]
theorem run_callv (x : Operand) (xs : Array Operand) (ts : Array TypeId) (ho : o.op = .call { callee := .value x, args := xs, argTypes := ts }) {f : FuncId} {cap : Array Value} (hr : a.eval x = .func (.func f) #[] cap)
 (hm : Goes P f) (args : Array Value) (hx : xs.map a.eval ++ cap = args) (w : World) : (execOp a.eval o).run P w = .ok (.enter f args) w := by
 obtain ⟨fn, hf, hname, hb⟩ := hm
 obtain ⟨c, hb⟩ := Option.isSome_iff_exists.1 hb
 have hn : ¬ fn.name = "runtime.NumGoroutine" := by simpa using hname
 subst hx
 simp [execOp, ho, resolve, hr, Deferred.ofValue, invoke, callFunc, hf, hb, hn, run_program]
theorem wl_enter {w : World} (hw : Region.wanted o (yielded ops a.tmps) = true) {f : FuncId} {args : Array Value} (hrun : ∀ w, (execOp a.eval o).run P w = .ok (.enter f args) w)
 (h : Calls P f args w fun e w' => ∃ v, e = .returned v ∧ wpList P ops Q rest (a.put o.dst v) w') : wpList P ops Q (o :: rest) a w :=
 wpList_wanted hw fun K hK => by
  unfold Oper.wp
  rw [hrun]
  refine h.mono fun e w' ⟨v, e1, h2⟩ => ?_
  subst e1
  exact hK _ _ h2
end
theorem ex_loadL {o : Oper} {a : Act} {x : Operand} (ho : o.op = .load 22 x) {p : Addr} (hx : a.eval x = .pointer (some p)) {A : Option Addr} {n c : Nat} {w : World} (h : w.cell? p = some (.slice A n c)) : (execOp a.eval o).run Tryz.prog w = .ok (.value (.slice A n c)) w := by
 have hr : (loadVar 22 p).run Tryz.prog w = .ok (.slice A n c) w := by
  have hi : (Tryz.prog.info? 22).map (·.size) = some 1 := by kernel_rfl
  simp [loadVar, Sem.run_bind, isAgg, run_underlying Tryz.underlying22, run_load, h]
 simp [execOp, ho, hx, Instr.loadAt, Instr.sureAddr, Sem.run_bind, hr]
theorem wl_storeL {ops : Array Oper} {Q : Exit → Act → World → Prop} {rest : List Oper} {o : Oper} {a : Act} {w : World} (hg : o.guard = none) (x y : Operand) (ho : o.op = .store 22 x y) (g i : Nat) (A : Option Addr) (n c : Nat) (hx : a.eval x = .pointer (some ⟨g, i, none⟩)) (hy : a.eval y = .slice A n c)
 {t : TypeId} {cs : Array Value} (hB : Blk w g t cs) (hi : i < cs.size) (h : wpList Tryz.prog ops Q rest (a.put o.dst undef) (w.setCell ⟨g, i, none⟩ (.slice A n c))) : wpList Tryz.prog ops Q (o :: rest) a w :=
 wpList_plain hg fun _ hK => by
  have hc := (hB.cell i).trans (Array.getElem?_eq_getElem hi)
  have hf := hB.frozen i
  unfold Oper.wp execOp
  simp only [ho, hx, hy]
  go_simp
  exact hK _ _ h
end Go.Proofs.YtkggcjdlpendfaaGreatDoor
