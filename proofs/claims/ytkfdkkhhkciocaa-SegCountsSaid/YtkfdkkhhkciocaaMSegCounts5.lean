/- Contracts for the law SegCounts, part 5: what the functions that it reaches answer, for all arguments that the theorems name. -/
import Derived.Test.YtkfdkkhhkciocaaMSegCounts4
import Derived.Test.YtkfdkkhhkciocaaMSegCounts3
import Derived.Test.YtkfdkkhhkciocaaMSegCounts1
import Derived.Test.YtkfdkkhhkciocaaMSegCounts2
/- Runs of single operations as facts (ex_..): for drawn regions (lx_run, lx_read) and for others (wl_run). -/
namespace Go.Proofs.Ytkfdkkhhkciocaa
set_option linter.unusedVariables false
set_option linter.unusedSimpArgs false
open Go.RowKit
section
variable {o : Oper} {a : Act}
theorem ex_move {P : Program} {x : Operand} (ho : o.op = .move x) {v : Value} (hx : a.eval x = v) (w : World) : (execOp a.eval o).run P w = .ok (.value v) w := by simp [execOp, ho, hx]
theorem ex_assign {P : Program} {x : Operand} (ho : o.op = .assign x) {v : Value} (hx : a.eval x = v) (w : World) : (execOp a.eval o).run P w = .ok (.value v) w := by simp [execOp, ho, hx]
theorem ex_bin {op : BinOp} {x y : Operand} {t2 : TypeId} (ho : o.op = .binOp op 3 x y t2) {m n : Int} (hx : a.eval x = .int .i64 m) (hy : a.eval y = .int .i64 n) {v : Value}
    (hr : ∀ w, (binOp op 3 (.int .i64 m) (.int .i64 n)).run Try.prog w = .ok v w) (w : World) : (execOp a.eval o).run Try.prog w = .ok (.value v) w := by
  simp [execOp, ho, hx, hy, guardN, hr]
theorem ex_addN {x y : Operand} {t2 : TypeId} (ho : o.op = .binOp .add 3 x y t2) {i d : Nat} (hx : a.eval x = .int .i64 (i : Int)) (hy : a.eval y = .int .i64 (d : Int)) (h : i + d < 1000000000000) (w : World) :
    (execOp a.eval o).run Try.prog w = .ok (.value (.int .i64 ((i + d : Nat) : Int))) w := ex_bin ho hx hy (run_addN i d h) w
theorem ex_subN {x y : Operand} {t2 : TypeId} (ho : o.op = .binOp .sub 3 x y t2) {i d : Nat} (hx : a.eval x = .int .i64 (i : Int)) (hy : a.eval y = .int .i64 (d : Int)) (h : i < 1000000000000) (h2 : d ≤ i) (w : World) :
    (execOp a.eval o).run Try.prog w = .ok (.value (.int .i64 ((i - d : Nat) : Int))) w := ex_bin ho hx hy (run_subN i d h h2) w
theorem ex_mulN {x y : Operand} {t2 : TypeId} (ho : o.op = .binOp .mul 3 x y t2) {i d : Nat} (hx : a.eval x = .int .i64 (i : Int)) (hy : a.eval y = .int .i64 (d : Int)) (h : i * d < 1000000000000) (w : World) :
    (execOp a.eval o).run Try.prog w = .ok (.value (.int .i64 ((i * d : Nat) : Int))) w := ex_bin ho hx hy (run_mulN i d _ rfl h) w
theorem ex_quoN {x y : Operand} {t2 : TypeId} (ho : o.op = .binOp .quo 3 x y t2) {i d : Nat} (hx : a.eval x = .int .i64 (i : Int)) (hy : a.eval y = .int .i64 (d : Int)) (h : i < 1000000000000) (h2 : 0 < d) (w : World) :
    (execOp a.eval o).run Try.prog w = .ok (.value (.int .i64 ((i / d : Nat) : Int))) w := ex_bin ho hx hy (run_quoN i d h h2) w
theorem ex_remN {x y : Operand} {t2 : TypeId} (ho : o.op = .binOp .rem 3 x y t2) {i d : Nat} (hx : a.eval x = .int .i64 (i : Int)) (hy : a.eval y = .int .i64 (d : Int)) (h : i < 1000000000000) (h2 : 0 < d) (w : World) :
    (execOp a.eval o).run Try.prog w = .ok (.value (.int .i64 ((i % d : Nat) : Int))) w := ex_bin ho hx hy (run_remN i d h h2) w
theorem ex_addI {x y : Operand} {t2 : TypeId} (ho : o.op = .binOp .add 3 x y t2) {i d : Int} (hx : a.eval x = .int .i64 i) (hy : a.eval y = .int .i64 d) (h : -9223372036854775808 ≤ i + d ∧ i + d ≤ 9223372036854775807) (w : World) :
    (execOp a.eval o).run Try.prog w = .ok (.value (.int .i64 (i + d))) w := ex_bin ho hx hy (run_addI i d _ (IntWalk.i64_in _ h)) w
theorem run_subI (x y z : Int) (h : IntKind.i64.wrap (x - y) = z) (W : World) : (binOp .sub 3 (.int .i64 x) (.int .i64 y)).run Try.prog W = .ok (.int .i64 z) W := by
  subst h; go_simp
theorem ex_subI {x y : Operand} {t2 : TypeId} (ho : o.op = .binOp .sub 3 x y t2) {i d : Int} (hx : a.eval x = .int .i64 i) (hy : a.eval y = .int .i64 d) (h : -9223372036854775808 ≤ i - d ∧ i - d ≤ 9223372036854775807) (w : World) :
    (execOp a.eval o).run Try.prog w = .ok (.value (.int .i64 (i - d))) w := ex_bin ho hx hy (run_subI i d _ (IntWalk.i64_in _ h)) w
theorem ex_mulI {x y : Operand} {t2 : TypeId} (ho : o.op = .binOp .mul 3 x y t2) {i d : Int} (hx : a.eval x = .int .i64 i) (hy : a.eval y = .int .i64 d) (h : -9223372036854775808 ≤ i * d ∧ i * d ≤ 9223372036854775807) (w : World) :
    (execOp a.eval o).run Try.prog w = .ok (.value (.int .i64 (i * d))) w := ex_bin ho hx hy (run_mulI i d _ (IntWalk.i64_in _ h)) w
theorem ex_minN {x y : Operand} {ats : Array TypeId} (ho : o.op = .call { callee := .builtin .min, args := #[x, y], argTypes := ats }) {i d : Nat} (hx : a.eval x = .int .i64 (i : Int)) (hy : a.eval y = .int .i64 (d : Int)) (w : World) :
    (execOp a.eval o).run Try.prog w = .ok (.value (.int .i64 ((min i d : Nat) : Int))) w := by
  simp [execOp, ho, hx, hy, resolve, invoke, builtin, Builtin.min_, Builtin.min2]
  split <;> omega
theorem ex_maxI {x y : Operand} {ats : Array TypeId} (ho : o.op = .call { callee := .builtin .max, args := #[x, y], argTypes := ats }) {i d : Int} (hx : a.eval x = .int .i64 i) (hy : a.eval y = .int .i64 d) (w : World) :
    (execOp a.eval o).run Try.prog w = .ok (.value (.int .i64 (max i d))) w := by
  have e : (if i < d then d else i) = max i d := by split <;> omega
  simp [execOp, ho, hx, hy, resolve, invoke, builtin, Builtin.max_, Builtin.max2, e]
theorem ex_minI {x y : Operand} {ats : Array TypeId} (ho : o.op = .call { callee := .builtin .min, args := #[x, y], argTypes := ats }) {i d : Int} (hx : a.eval x = .int .i64 i) (hy : a.eval y = .int .i64 d) (w : World) :
    (execOp a.eval o).run Try.prog w = .ok (.value (.int .i64 (min i d))) w := by
  have e : (if d < i then d else i) = min i d := by split <;> omega
  simp [execOp, ho, hx, hy, resolve, invoke, builtin, Builtin.min_, Builtin.min2, e]
theorem ex_extract {P : Program} {x : Operand} {n : Nat} (ho : o.op = .extract x n) {vs : Array Value} (hx : a.eval x = .tuple vs) {v : Value} (hv : vs[n]? = some v) (w : World) : (execOp a.eval o).run P w = .ok (.value v) w := by
  simp [execOp, ho, hx, Instr.extract, hv]
theorem guardG (op : BinOp) (t : TypeId) (x y : Operand) (k k' : IntKind) (v w : Int) {P : Program} (W : World) : (eqGuard op t x y (.int k v) (.int k' w)).run P W = .ok () W := by
  cases op <;> simp [eqGuard]
theorem ex_cmp {P : Program} {op : BinOp} {t : TypeId} {x y : Operand} {t2 : TypeId} (ho : o.op = .binOp op t x y t2) {m n : Int} (hx : a.eval x = .int .i64 m) (hy : a.eval y = .int .i64 n) {b : Bool}
    (hr : ∀ w, (binOp op t (.int .i64 m) (.int .i64 n)).run P w = .ok (.bool b) w) (w : World) : (execOp a.eval o).run P w = .ok (.value (.bool b)) w := by
  simp [execOp, ho, hx, hy, guardG, hr]
theorem ex_lss {P : Program} {t : TypeId} {x y : Operand} {t2 : TypeId} (ho : o.op = .binOp .lss t x y t2) {m n : Int} (hx : a.eval x = .int .i64 m) (hy : a.eval y = .int .i64 n) {b : Bool} (h : decide (m < n) = b) (w : World) :
    (execOp a.eval o).run P w = .ok (.value (.bool b)) w := ex_cmp ho hx hy (fun w => by subst h; simp [binOp, Op.intCmp]) w
theorem ex_gtr {P : Program} {t : TypeId} {x y : Operand} {t2 : TypeId} (ho : o.op = .binOp .gtr t x y t2) {m n : Int} (hx : a.eval x = .int .i64 m) (hy : a.eval y = .int .i64 n) {b : Bool} (h : decide (n < m) = b) (w : World) :
    (execOp a.eval o).run P w = .ok (.value (.bool b)) w := ex_cmp ho hx hy (fun w => by subst h; simp [binOp, Op.intCmp]) w
theorem ex_leq {P : Program} {t : TypeId} {x y : Operand} {t2 : TypeId} (ho : o.op = .binOp .leq t x y t2) {m n : Int} (hx : a.eval x = .int .i64 m) (hy : a.eval y = .int .i64 n) {b : Bool} (h : decide (m ≤ n) = b) (w : World) :
    (execOp a.eval o).run P w = .ok (.value (.bool b)) w := ex_cmp ho hx hy (fun w => by subst h; simp [binOp, Op.intCmp]) w
theorem ex_geq {P : Program} {t : TypeId} {x y : Operand} {t2 : TypeId} (ho : o.op = .binOp .geq t x y t2) {m n : Int} (hx : a.eval x = .int .i64 m) (hy : a.eval y = .int .i64 n) {b : Bool} (h : decide (n ≤ m) = b) (w : World) :
    (execOp a.eval o).run P w = .ok (.value (.bool b)) w := ex_cmp ho hx hy (fun w => by subst h; simp [binOp, Op.intCmp]) w
theorem ex_eql {P : Program} {t : TypeId} {x y : Operand} {t2 : TypeId} (ho : o.op = .binOp .eql t x y t2) {m n : Int} (hx : a.eval x = .int .i64 m) (hy : a.eval y = .int .i64 n) {b : Bool} (h : decide (m = n) = b) (w : World) :
    (execOp a.eval o).run P w = .ok (.value (.bool b)) w := ex_cmp ho hx hy (fun w => by subst h; by_cases e : m = n <;> simp [binOp, Op.intCmp, e]) w
theorem ex_neq {P : Program} {t : TypeId} {x y : Operand} {t2 : TypeId} (ho : o.op = .binOp .neq t x y t2) {m n : Int} (hx : a.eval x = .int .i64 m) (hy : a.eval y = .int .i64 n) {b : Bool} (h : decide (m ≠ n) = b) (w : World) :
    (execOp a.eval o).run P w = .ok (.value (.bool b)) w := ex_cmp ho hx hy (fun w => by subst h; by_cases e : m = n <;> simp [binOp, Op.intCmp, e]) w
theorem ex_not {P : Program} {t : TypeId} {x : Operand} (ho : o.op = .unOp .not t x) {b : Bool} (hx : a.eval x = .bool b) (w : World) : (execOp a.eval o).run P w = .ok (.value (.bool (!b))) w := by
  simp [execOp, ho, hx, Op.unary]
theorem ex_pick {P : Program} {c x y : Operand} (ho : o.op = .pick c x y) {b : Bool} (hb : a.eval c = .bool b) {v : Value} (hv : (if b then a.eval x else a.eval y) = v) (w : World) : (execOp a.eval o).run P w = .ok (.value v) w := by
  subst hv; simp [execOp, ho, hb, asBool]
theorem ex_build0 {P : Program} {t : TypeId} (ho : o.op = .build t #[]) {cs : Array Value} (hf : P.built t [] = some cs) (w : World) : (execOp a.eval o).run P w = .ok (.value (.agg cs)) w := by
  simp only [execOp, ho, Sem.run_bind, run_build w t (#[].map fun (i, x) => (i, a.eval x)) cs (by simpa using hf), Result.andThen_ok, Sem.run_pure]
theorem sizeOf_of {P : Program} {e : TypeId} {sz : Nat} (hs : (P.info? e).map (·.size) = some sz) (w : World) : (sizeOf e).run P w = .ok sz w := by
  cases hq : P.info? e with
  | none => simp [hq] at hs
  | some i => have hz : i.size = sz := by simpa [hq] using hs
              simp [sizeOf, typeInfo, hq, hz]
theorem ex_ixSl {P : Program} {t e : TypeId} {sz : Nat} (ht : P.underlying t = some (.slice e)) (hs : (P.info? e).map (·.size) = some sz) {x ix : Operand} (ho : o.op = .indexAddr t x ix) {ad : Addr} {n c i : Nat} {k : IntKind} (hx : a.eval x = .slice (some ad) n c) (hi : a.eval ix = .int k (i : Int)) (h : i < n) (w : World) :
    (execOp a.eval o).run P w = .ok (.value (.pointer (some (ad.add (i * sz))))) w := by
  have hc : ((0 : Int) ≤ (i : Int) ∧ (i : Int) < (n : Int)) = True := by simp; omega
  simp only [execOp, ho, hx, hi, Instr.indexAt, Sem.run_bind, run_underlying ht, Result.andThen_ok, asIntOf, Sem.run_pure, hc, if_true, sizeOf_of hs, Int.toNat_natCast]
theorem ex_ixArr {P : Program} {t e : TypeId} {sz m : Nat} (ht : P.underlying t = some (.array m e)) (hs : (P.info? e).map (·.size) = some sz) {x ix : Operand} (ho : o.op = .indexAddr t x ix) {ad : Addr} {i : Nat} {k : IntKind} (hx : a.eval x = .pointer (some ad)) (hi : a.eval ix = .int k (i : Int)) (h : i < m) (w : World) :
    (execOp a.eval o).run P w = .ok (.value (.pointer (some (ad.add (i * sz))))) w := by
  have hc : ((0 : Int) ≤ (i : Int) ∧ (i : Int) < (m : Int)) = True := by simp; omega
  simp only [execOp, ho, hx, hi, Instr.indexAt, Instr.sureAddr, Sem.run_bind, run_underlying ht, Result.andThen_ok, asIntOf, Sem.run_pure, hc, if_true, sizeOf_of hs, Int.toNat_natCast]
theorem addr_add (g m n : Nat) : (⟨g, m, none⟩ : Addr).add n = ⟨g, m + n, none⟩ := by
  unfold Addr.add
  by_cases hn : n = 0
  · subst hn; rfl
  · rw [if_neg hn]
theorem ex_ixSlG {P : Program} {t e : TypeId} {sz : Nat} (ht : P.underlying t = some (.slice e)) (hs : (P.info? e).map (·.size) = some sz) {x ix : Operand} (ho : o.op = .indexAddr t x ix) {g m n c i : Nat} {k : IntKind} (hx : a.eval x = .slice (some ⟨g, m, none⟩) n c) (hi : a.eval ix = .int k (i : Int)) (h : i < n) (w : World) :
    (execOp a.eval o).run P w = .ok (.value (.pointer (some ⟨g, m + i * sz, none⟩))) w := by
  rw [← addr_add]; exact ex_ixSl ht hs ho hx hi h w
theorem ex_ixArrG {P : Program} {t e : TypeId} {sz m : Nat} (ht : P.underlying t = some (.array m e)) (hs : (P.info? e).map (·.size) = some sz) {x ix : Operand} (ho : o.op = .indexAddr t x ix) {g b i : Nat} {k : IntKind} (hx : a.eval x = .pointer (some ⟨g, b, none⟩)) (hi : a.eval ix = .int k (i : Int)) (h : i < m) (w : World) :
    (execOp a.eval o).run P w = .ok (.value (.pointer (some ⟨g, b + i * sz, none⟩))) w := by
  rw [← addr_add]; exact ex_ixArr ht hs ho hx hi h w
theorem ex_ixSl1 {P : Program} {t e : TypeId} (ht : P.underlying t = some (.slice e)) (hs : (P.info? e).map (·.size) = some 1) {x ix : Operand} (ho : o.op = .indexAddr t x ix) {g m n c i : Nat} {k : IntKind} (hx : a.eval x = .slice (some ⟨g, m, none⟩) n c) (hi : a.eval ix = .int k (i : Int)) (h : i < n) (w : World) :
    (execOp a.eval o).run P w = .ok (.value (.pointer (some ⟨g, m + i, none⟩))) w := by
  have := ex_ixSlG ht hs ho hx hi h w
  rwa [Nat.mul_one] at this
theorem ex_ixSl0 {P : Program} {t e : TypeId} (ht : P.underlying t = some (.slice e)) (hs : (P.info? e).map (·.size) = some 1) {x ix : Operand} (ho : o.op = .indexAddr t x ix) {g n c i : Nat} {k : IntKind} (hx : a.eval x = .slice (some ⟨g, 0, none⟩) n c) (hi : a.eval ix = .int k (i : Int)) (h : i < n) (w : World) :
    (execOp a.eval o).run P w = .ok (.value (.pointer (some ⟨g, i, none⟩))) w := by
  have := ex_ixSl1 ht hs ho hx hi h w
  rwa [Nat.zero_add] at this
theorem ex_ixArr1 {P : Program} {t e : TypeId} {m : Nat} (ht : P.underlying t = some (.array m e)) (hs : (P.info? e).map (·.size) = some 1) {x ix : Operand} (ho : o.op = .indexAddr t x ix) {g b i : Nat} {k : IntKind} (hx : a.eval x = .pointer (some ⟨g, b, none⟩)) (hi : a.eval ix = .int k (i : Int)) (h : i < m) (w : World) :
    (execOp a.eval o).run P w = .ok (.value (.pointer (some ⟨g, b + i, none⟩))) w := by
  have := ex_ixArrG ht hs ho hx hi h w
  rwa [Nat.mul_one] at this
theorem ex_ixArr0 {P : Program} {t e : TypeId} {m : Nat} (ht : P.underlying t = some (.array m e)) (hs : (P.info? e).map (·.size) = some 1) {x ix : Operand} (ho : o.op = .indexAddr t x ix) {g i : Nat} {k : IntKind} (hx : a.eval x = .pointer (some ⟨g, 0, none⟩)) (hi : a.eval ix = .int k (i : Int)) (h : i < m) (w : World) :
    (execOp a.eval o).run P w = .ok (.value (.pointer (some ⟨g, i, none⟩))) w := by
  have := ex_ixArr1 ht hs ho hx hi h w
  rwa [Nat.zero_add] at this
theorem ex_loadI {x : Operand} (ho : o.op = .load 3 x) {p : Addr} (hx : a.eval x = .pointer (some p)) {z : Int} {w : World} (h : w.cell? p = some (.int .i64 z)) : (execOp a.eval o).run Try.prog w = .ok (.value (.int .i64 z)) w := by
  simp [execOp, ho, hx, run_loadI w p z h]
end
theorem sizeI : (Try.prog.info? 3).map (·.size) = some 1 := by kernel_rfl
section
variable {P : Program} {ops : Array Oper} {Q : Exit → Act → World → Prop} {rest : List Oper} {o : Oper} {a : Act} {w : World}
theorem wl_run (hg : o.guard = none) (v : Value) (h1 : ∀ w, (execOp a.eval o).run P w = .ok (.value v) w) (h : wpList P ops Q rest (a.put o.dst v) w) : wpList P ops Q (o :: rest) a w :=
  wpList_plain hg fun _ hK => by unfold Oper.wp; rw [h1]; exact hK _ _ h
theorem wl_run_g (hw : Region.wanted o (yielded ops a.tmps) = true) (v : Value) (h1 : ∀ w, (execOp a.eval o).run P w = .ok (.value v) w) (h : wpList P ops Q rest (a.put o.dst v) w) : wpList P ops Q (o :: rest) a w :=
  wpList_wanted hw fun _ hK => by unfold Oper.wp; rw [h1]; exact hK _ _ h
theorem wl_read_g (hw : Region.wanted o (yielded ops a.tmps) = true) (v : Value) (h1 : (execOp a.eval o).run P w = .ok (.value v) w) (h : wpList P ops Q rest (a.put o.dst v) w) : wpList P ops Q (o :: rest) a w :=
  wpList_wanted hw fun _ hK => by unfold Oper.wp; rw [h1]; exact hK _ _ h
theorem wl_skip (hw : Region.wanted o (yielded ops a.tmps) = false) (h : wpList P ops Q rest (a.put o.dst undef) w) : wpList P ops Q (o :: rest) a w :=
  wpList_step fun K hK => by rw [if_neg (by rw [hw]; simp)]; exact hK _ _ h
theorem wl_read (hg : o.guard = none) (v : Value) (h1 : (execOp a.eval o).run P w = .ok (.value v) w) (h : wpList P ops Q rest (a.put o.dst v) w) : wpList P ops Q (o :: rest) a w :=
  wpList_plain hg fun _ hK => by unfold Oper.wp; rw [h1]; exact hK _ _ h
end
theorem wl_storeI {ops : Array Oper} {Q : Exit → Act → World → Prop} {rest : List Oper} {o : Oper} {a : Act} {w : World} (hg : o.guard = none) (x y : Operand) (ho : o.op = .store 3 x y) (g i : Nat) (z : Int) (hx : a.eval x = .pointer (some ⟨g, i, none⟩)) (hy : a.eval y = .int .i64 z)
    {t : TypeId} {cs : Array Value} (hB : Blk w g t cs) (hi : i < cs.size) (h : wpList Try.prog ops Q rest (a.put o.dst undef) (w.setCell ⟨g, i, none⟩ (.int .i64 z))) : wpList Try.prog ops Q (o :: rest) a w :=
  wpList_plain hg fun _ hK => wp_storeI x y ho ⟨g, i, none⟩ z hx hy _ ((hB.cell i).trans (Array.getElem?_eq_getElem hi)) (hB.frozen i) (hK _ _ h)
end Go.Proofs.Ytkfdkkhhkciocaa
/- plane.area: check, across. -/
namespace Go.Proofs.Ytkfdkkhhkciocaa
set_option linter.unusedVariables false
set_option linter.unusedSimpArgs false
open Go.RowKit
theorem sizeArea : (Try.prog.info? 134).map (·.size) = some 2 := by kernel_rfl
def areaV (wd hi : Int) : Array Value := #[.int .i64 wd, .int .i64 hi]
def sidesZ (wd hi : Int) : Int := if inB wd 1 64 && inB hi 1 64 then 0 else 1
theorem inB_val (n lo hi : Int) : inB n lo hi = (!decide (n < lo) && !decide (hi < n)) := by
  rw [Bool.eq_iff_iff, inB_iff]
  simp
theorem area_cells {w : World} {g : Nat} {T : TypeId} {wd hi : Int} (h : Blk w g T (areaV wd hi)) : w.cell? ⟨g, 0, none⟩ = some (.int .i64 wd) ∧ w.cell? ⟨g, 1, none⟩ = some (.int .i64 hi) := by
  rw [h.cell, h.cell]
  exact ⟨rfl, rfl⟩
set_option maxRecDepth 20000 in
set_option maxHeartbeats 1000000 in
theorem areaCheck_any (wd hi : Int) (w : World) :
    Calls Try.prog 84 #[.agg (areaV wd hi)] w fun e w' => e = .returned (.int .i64 (sidesZ wd hi)) ∧ Ext w w' := by
  have HC := hid_ (fun W g (h : Blk W g 134 (areaV wd hi)) => area_cells h)
  have e : sidesZ wd hi = if wd < 1 then 1 else if 64 < wd then 1 else if hi < 1 then 1 else if 64 < hi then 1 else 0 := by
    unfold sidesZ
    rw [inB_val, inB_val]
    by_cases h1 : wd < 1 <;> by_cases h2 : 64 < wd <;> by_cases h3 : hi < 1 <;> by_cases h4 : 64 < hi <;> simp [h1, h2, h3, h4]
  rw [e]
  clear e
  generalize areaV wd hi = av at *
  by_cases h1 : wd < 1
  · rw [if_pos h1]
    go_enter Try.func84, Try.ntmps84
    go_wp2_with (refine wpList_box_abs rfl 134 (.tmp 0) rfl av rfl ?_; intro w1 g hb1 hx1 hg; obtain ⟨c0, c1⟩ := HC.out _ _ hb1)
    go_ret
    exact ⟨rfl, hx1⟩
  · rw [if_neg h1]
    by_cases h2 : 64 < wd
    · rw [if_pos h2]
      go_enter Try.func84, Try.ntmps84
      go_wp2_with (refine wpList_box_abs rfl 134 (.tmp 0) rfl av rfl ?_; intro w1 g hb1 hx1 hg; obtain ⟨c0, c1⟩ := HC.out _ _ hb1)
      go_ret
      exact ⟨rfl, hx1⟩
    · rw [if_neg h2]
      by_cases h3 : hi < 1
      · rw [if_pos h3]
        go_enter Try.func84, Try.ntmps84
        go_wp2_with (refine wpList_box_abs rfl 134 (.tmp 0) rfl av rfl ?_; intro w1 g hb1 hx1 hg; obtain ⟨c0, c1⟩ := HC.out _ _ hb1)
        go_ret
        exact ⟨rfl, hx1⟩
      · rw [if_neg h3]
        by_cases h4 : 64 < hi
        · rw [if_pos h4]
          go_enter Try.func84, Try.ntmps84
          go_wp2_with (refine wpList_box_abs rfl 134 (.tmp 0) rfl av rfl ?_; intro w1 g hb1 hx1 hg; obtain ⟨c0, c1⟩ := HC.out _ _ hb1)
          go_ret
          exact ⟨rfl, hx1⟩
        · rw [if_neg h4]
          go_enter Try.func84, Try.ntmps84
          go_wp2_with (refine wpList_box_abs rfl 134 (.tmp 0) rfl av rfl ?_; intro w1 g hb1 hx1 hg; obtain ⟨c0, c1⟩ := HC.out _ _ hb1)
          go_ret
          exact ⟨rfl, hx1⟩
theorem across_any (wd : Nat) (hi : Int) (w : World) (h1 : 1 ≤ wd) (h2 : wd ≤ 64) :
    Calls Try.prog 115 #[.agg (areaV wd hi)] w fun e w' => e = .returned (.int .i64 (((wd + 7) / 8 : Nat) : Int)) ∧ Ext w w' := by
  have HC := hid_ (fun W g (h : Blk W g 134 (areaV wd hi)) => area_cells h)
  generalize areaV wd hi = av at *
  go_enter Try.func115, Try.ntmps115
  go_wp2_with (refine wpList_box_abs rfl 134 (.tmp 0) rfl av rfl ?_; intro w1 g hb1 hx1 hg; obtain ⟨c0, c1⟩ := HC.out _ _ hb1)
  go_ret
  refine ⟨?_, hx1⟩
  congr 2
  go_num
theorem sidesCheck_any (wd hi : Int) (w : World) :
    Calls Try.prog 95 #[.int .i64 wd, .int .i64 hi] w fun e w' => e = .returned (.int .i64 (sidesZ wd hi)) ∧ w = w' := by
  have W1 := hid_ (fun W => outside_any wd 1 64 W)
  have W2 := hid_ (fun W => outside_any hi 1 64 W)
  unfold sidesZ
  generalize inB wd 1 64 = b1 at *
  generalize inB hi 1 64 = b2 at *
  cases b1 with
  | false =>
    go_enter Try.func95, Try.ntmps95
    go_wp2_with (first
      | (go_at_call 28; (with_reducible refine (W1.out _).mono ?_); rintro e w2 ⟨rfl, rfl⟩)
      | (go_at_call 28; (with_reducible refine (W2.out _).mono ?_); rintro e w2 ⟨rfl, rfl⟩))
    go_ret
    exact ⟨rfl, rfl⟩
  | true =>
    cases b2 with
    | false =>
      go_enter Try.func95, Try.ntmps95
      go_wp2_with (first
        | (go_at_call 28; (with_reducible refine (W1.out _).mono ?_); rintro e w2 ⟨rfl, rfl⟩)
        | (go_at_call 28; (with_reducible refine (W2.out _).mono ?_); rintro e w2 ⟨rfl, rfl⟩))
      go_ret
      exact ⟨rfl, rfl⟩
    | true =>
      go_enter Try.func95, Try.ntmps95
      go_wp2_with (first
        | (go_at_call 28; (with_reducible refine (W1.out _).mono ?_); rintro e w2 ⟨rfl, rfl⟩)
        | (go_at_call 28; (with_reducible refine (W2.out _).mono ?_); rintro e w2 ⟨rfl, rfl⟩))
      go_ret
      exact ⟨rfl, rfl⟩
end Go.Proofs.Ytkfdkkhhkciocaa
/- plane.area: many, place; plane.Many. -/
namespace Go.Proofs.Ytkfdkkhhkciocaa
set_option linter.unusedVariables false
set_option linter.unusedSimpArgs false
open Go.RowKit
theorem areaV_size (wd hi : Int) : (areaV wd hi).size = 2 := rfl
set_option maxRecDepth 20000 in
set_option maxHeartbeats 1000000 in
theorem many_any (wd hi : Nat) (w : World) (h1 : 1 ≤ wd) (h2 : wd ≤ 64) (h3 : 1 ≤ hi) (h4 : hi ≤ 64) :
    Calls Try.prog 87 #[.agg (areaV wd hi)] w fun e w' => e = .returned (.int .i64 (((wd + 7) / 8 * ((hi + 7) / 8) : Nat) : Int)) ∧ Ext w w' := by
  have HC := hid_ (fun W g (h : Blk W g 134 (areaV wd hi)) => area_cells h)
  have HA := hid_ (fun W => across_any wd hi W h1 h2)
  have hts := hid_ (areaV_size wd hi)
  have hm : (wd + 7) / 8 * ((hi + 7) / 8) ≤ 8 * 8 := Nat.mul_le_mul (by omega) (by omega)
  generalize areaV wd hi = av at *
  go_enter Try.func87, Try.ntmps87
  go_wp2_with (refine wpList_box_abs rfl 134 (.tmp 0) rfl av rfl ?_; intro w1 g hb1 hx1 hg)
  have hx1' := hx1.drew
  have hb1' := hb1.drew
  refine wp_region_lx later_ext (by kernel_rfl) (by kernel_rfl) ?_
  refine lx_load_blk (by rfl) 134 (.tmp 1) rfl g rfl (fun w h => hb1'.ext h) _ Try.underlying134 rfl 2 sizeArea hts.out ?_
  simp only [Act.put, List.setIfInBounds_toArray, List.set_cons_succ, List.set_cons_zero]
  refine lx_callF (by rfl) 115 Try.func115 rfl rfl _ _ rfl #[.agg av] (by simp [Act.eval]) (.int .i64 (((wd + 7) / 8 : Nat) : Int)) (fun W h => HA.out W) ?_
  simp only [Act.put, List.setIfInBounds_toArray, List.set_cons_succ, List.set_cons_zero]
  refine lx_ex (by rfl) ?_; apply Exists.intro; refine ⟨fun w hw => ?_, ?_⟩; · (go_simp; with_reducible rfl)
  simp only [Act.put, List.setIfInBounds_toArray, List.set_cons_succ, List.set_cons_zero]
  refine lx_ex (by rfl) ?_; apply Exists.intro; refine ⟨fun w hw => ?_, ?_⟩; · (obtain ⟨c0, c1⟩ := HC.out _ _ (hb1'.ext hw); go_simp; with_reducible rfl)
  simp only [Act.put, List.setIfInBounds_toArray, List.set_cons_succ, List.set_cons_zero]
  refine lx_binOp (by rfl) .add 3 _ _ _ rfl (.int .i64 (hi : Int)) (.int .i64 ((8 : Nat) : Int)) rfl rfl (.int .i64 ((hi + 8 : Nat) : Int)) (guardN _ _ _ _ _) (run_addN _ _ (by omega)) ?_
  simp only [Act.put, List.setIfInBounds_toArray, List.set_cons_succ, List.set_cons_zero]
  refine lx_binOp (by rfl) .sub 3 _ _ _ rfl (.int .i64 ((hi + 8 : Nat) : Int)) (.int .i64 ((1 : Nat) : Int)) rfl rfl (.int .i64 ((hi + 7 : Nat) : Int)) (guardN _ _ _ _ _) (run_subN (hi + 8) 1 (by omega) (by omega)) ?_
  simp only [Act.put, List.setIfInBounds_toArray, List.set_cons_succ, List.set_cons_zero]
  refine lx_binOp (by rfl) .quo 3 _ _ _ rfl (.int .i64 ((hi + 7 : Nat) : Int)) (.int .i64 ((8 : Nat) : Int)) rfl rfl (.int .i64 (((hi + 7) / 8 : Nat) : Int)) (guardN _ _ _ _ _) (run_quoN _ _ (by omega) (by omega)) ?_
  simp only [Act.put, List.setIfInBounds_toArray, List.set_cons_succ, List.set_cons_zero]
  refine lx_binOp (by rfl) .mul 3 _ _ _ rfl (.int .i64 (((wd + 7) / 8 : Nat) : Int)) (.int .i64 (((hi + 7) / 8 : Nat) : Int)) rfl rfl (.int .i64 (((wd + 7) / 8 * ((hi + 7) / 8) : Nat) : Int)) (guardN _ _ _ _ _) (run_mulN _ _ _ rfl (by omega)) ?_
  simp only [Act.put, List.setIfInBounds_toArray, List.set_cons_succ, List.set_cons_zero]
  generalize hmm : (wd + 7) / 8 * ((hi + 7) / 8) = m at *
  have HMM := hid_ hmm
  clear hmm
  repeat (refine lx_ex (by rfl) ?_; apply Exists.intro; refine ⟨fun w hw => ?_, ?_⟩; · (go_simp; with_reducible rfl)
          simp only [Act.put, List.setIfInBounds_toArray, List.set_cons_succ, List.set_cons_zero])
  refine lx_nil ?_
  intro w3 hx3
  go_wp2_with fail
  go_ret
  rw [HMM.out]
  exact ⟨rfl, hx1'.trans hx3⟩
end Go.Proofs.Ytkfdkkhhkciocaa
/- '==' on tokens; Eq and slices.Equal on lists of tokens. -/
namespace Go.Proofs.Ytkfdkkhhkciocaa
set_option linter.unusedVariables false
set_option linter.unusedSimpArgs false
open Go.RowKit
theorem guardTok : Try.prog.eqGuardType Try.prog.depth 74 = false := by kernel_rfl
theorem run_guardTok (w : World) (op : BinOp) (x y : Operand) (xs ys : Array Value) : (eqGuard op 74 x y (.agg xs) (.agg ys)).run Try.prog w = .ok () w := run_eqGuard_agg w op _ x y xs ys guardTok
theorem stoodTok : Try.prog.stoodInHeld 74 = false := by kernel_rfl
theorem run_eqTok (w : World) (t u : Tok) : (Op.equalIn 10000 74 (.agg (tokv t).toArray) (.agg (tokv u).toArray)).run Try.prog w = .ok (decide (t = u)) w := by
  have p0 : ∀ (v : Tok), (part 3 (tokv v).toArray 0).run Try.prog w = .ok (.int .i64 v.1) w := fun v => run_part_int w 3 Try.underlying3 [v.1, v.2.1, v.2.2] 0 (by simp)
  have p1 : ∀ (v : Tok), (part 3 (tokv v).toArray 1).run Try.prog w = .ok (.int .i64 v.2.1) w := fun v => run_part_int w 3 Try.underlying3 [v.1, v.2.1, v.2.2] 1 (by simp)
  have p2 : ∀ (v : Tok), (part 3 (tokv v).toArray 2).run Try.prog w = .ok (.int .i64 v.2.2) w := fun v => run_part_int w 3 Try.underlying3 [v.1, v.2.1, v.2.2] 2 (by simp)
  have hi := fun a b => run_equalIn_int w 9998 3 .i64 .i64 a b Try.underlying3
  have hst : Try.prog.underlying 74 = some (.struct (Try.prog.fieldsOf 74)) := by kernel_rfl
  rw [run_equalIn_struct w 9999 74 _ _ hst stoodTok]
  have hf : (Try.prog.fieldsOf 74).toList = [{ name := "Sym", type := 3, offset := 0, embedded := false, tag := "", pkgPath := "", byteOffset := 0 }, { name := "Width", type := 3, offset := 1, embedded := false, tag := "", pkgPath := "", byteOffset := 8 }, { name := "Value", type := 3, offset := 2, embedded := false, tag := "", pkgPath := "", byteOffset := 16 }] := by kernel_rfl
  rw [hf]
  simp only [Op.eqFields, ne_eq, show ("Sym" = "_") = False by decide, show ("Width" = "_") = False by decide, show ("Value" = "_") = False by decide, not_false_eq_true, if_true, Sem.run_bind, p0, p1, p2, hi, Result.andThen_ok, Sem.run_ite, Sem.run_pure]
  obtain ⟨a, b, c⟩ := t
  obtain ⟨a', b', c'⟩ := u
  by_cases h1 : a = a' <;> by_cases h2 : b = b' <;> by_cases h3 : c = c' <;> simp [h1, h2, h3]
theorem run_neqTok (w : World) (t u : Tok) : (binOp .neq 74 (.agg (tokv t).toArray) (.agg (tokv u).toArray)).run Try.prog w = .ok (.bool (!decide (t = u))) w := by
  rw [run_neq_struct, run_eqTok]
  rfl
theorem tokv_len (t : Tok) : (tokv t).length = 3 := rfl
theorem toks_part (T : List Tok) (k : Nat) (h : k < T.length) : ((toks T).drop (k * 3)).take 3 = tokv T[k] := by
  refine List.ext_getElem? fun j => ?_
  obtain ⟨a, b, c⟩ := toks_at T k h
  by_cases hj : j < 3
  · rw [List.getElem?_take_of_lt hj, List.getElem?_drop]
    match j, hj with
    | 0, _ => simpa [tokv] using a
    | 1, _ => simpa [tokv] using b
    | 2, _ => simpa [tokv] using c
  · rw [List.getElem?_eq_none (by rw [List.length_take]; omega), List.getElem?_eq_none (by rw [tokv_len]; omega)]
theorem size74 : (Try.prog.info? 74).map (·.size) = some 3 := by kernel_rfl
theorem tok_take_iff (T U : List Tok) (k : Nat) (h1 : k < T.length) (h2 : k < U.length) : T.take (k + 1) = U.take (k + 1) ↔ T.take k = U.take k ∧ T[k] = U[k] := take_succ_iff T U k h1 h2
theorem tok_oneA (t : Tok) : (tokv t).toArray.all (·.oneCell') = true := by
  rw [Array.all_eq_true']
  intro x hx
  simp [tokv] at hx
  rcases hx with rfl | rfl | rfl <;> rfl
set_option maxHeartbeats 1000000 in
theorem eqTok_any (u v : Value) (T U : List Tok) (w : World) (hu : SL w 3 u T.length (toks T)) (hv : SL w 3 v U.length (toks U)) :
    Calls Try.prog 74 #[u, v] w fun e w' => e = .returned (.bool (decide (T = U))) ∧ Ext w w' := by
  have hu' := hu
  have hv' := hv
  obtain ⟨A, c, rfl, hc1, hc2, -, -⟩ := hu'
  obtain ⟨B, d, rfl, hd1, hd2, -, -⟩ := hv'
  by_cases hl : T.length = U.length
  · have HE : Hid (T.length = U.length) := hl
    obtain ⟨n, hn⟩ : ∃ n, n = T.length := ⟨_, rfl⟩
    have HTN : Hid (T.length = n) := hid_ hn.symm
    have HUN : Hid (U.length = n) := hid_ (by rw [← hl, hn])
    rw [← hl] at hv hd1 ⊢
    rw [← hn] at hu hv hc1 hd1 ⊢
    have e1 : ((n : Int) != (n : Int)) = false := by simp
    obtain ⟨res, hres⟩ : ∃ r, r = decide (T = U) := ⟨_, rfl⟩
    have HR := hid_ hres
    rw [← hres]
    clear hl hn hres
    go_enter Try.func74, Try.ntmps74
    go_wp2_with fail
    go_loopw [14] (fun i wr => ∃ k : Nat, k ≤ n ∧ i = .int .i64 k ∧ Hid (T.take k = U.take k) ∧ Ext w wr) (fun i _ => n - (intOf i).toNat)
    case atStart => exact ⟨0, by omega, rfl, hid_ (by simp), Ext.refl w⟩
    case round =>
      obtain ⟨k, hk, rfl, HT, hx⟩ := hrel
      by_cases hlt : k < n
      · obtain ⟨ad, rfl, hab, hca⟩ := (hu.ext hx).part hlt
        obtain ⟨bd, rfl, hbb, hcb⟩ := (hv.ext hx).part hlt
        have hkT : k < T.length := by rw [HTN.out]; exact hlt
        have hkU : k < U.length := by rw [HUN.out]; exact hlt
        rw [toks_part T k hkT] at hca
        rw [toks_part U k hkU] at hcb
        have HQ := hid_ (tok_take_iff T U k hkT hkU)
        generalize ht : T[k] = t at *
        generalize hu2 : U[k] = t' at *
        have HTt := hid_ ht
        have HTu := hid_ hu2
        clear ht hu2
        have HCA := hid_ hca
        clear hca
        go_wp2_with (first
          | (refine wpList_load_any (by rfl) 74 (.tmp 17) rfl (ad.add (k * 3)) rfl (tokv t) _ HCA.out Try.underlying74 rfl size74 ?_)
          | (refine wpList_alloc_abs' rfl (some 6) rfl 74 rfl (.agg (tokv (0, 0, 0)).toArray) (by kernel_rfl) ?_; intro w2 g2 hb2 hx2 hg2)
          | (refine wpList_store_blk rfl 74 (.tmp 6) (.tmp 18) rfl _ _ rfl rfl hb2 3 size74 rfl rfl (tok_oneA t) ?_; intro w3 hb3 hg3; have hx3 := hx2.grown hg3 (by omega)))
        have hx3' := hx3.drew
        have hb3' := hb3.drew
        have HCB : Hid (∀ W, Ext w3.drew W → CellsAt W (bd.add (k * 3)) (tokv t')) := hid_ (fun W hW j q hq => by
          rw [((hx3'.trans hW).cell (p := (bd.add (k * 3)).add j) (by rw [block_of_add, block_of_add]; exact hbb))]
          exact hcb j q hq)
        refine wp_region_lx later_ext (by kernel_rfl) (by kernel_rfl) ?_
        refine lx_load_blk (by rfl) 74 (.tmp 6) rfl g2 rfl (fun w h => hb3'.ext h) _ Try.underlying74 rfl 3 size74 rfl ?_
        simp only [Act.put, List.setIfInBounds_toArray, List.set_cons_succ, List.set_cons_zero]
        iterate 3 (refine lx_ex (by rfl) ?_; apply Exists.intro; refine ⟨fun w hw => ?_, ?_⟩; · (go_simp; with_reducible rfl)
                   simp only [Act.put, List.setIfInBounds_toArray, List.set_cons_succ, List.set_cons_zero])
        refine lx_load_any (by rfl) 74 (.tmp 22) rfl (bd.add (k * 3)) rfl (tokv t') _ HCB.out Try.underlying74 rfl size74 ?_
        simp only [Act.put, List.setIfInBounds_toArray, List.set_cons_succ, List.set_cons_zero]
        refine lx_binOp (by rfl) .neq 74 _ _ _ rfl (.agg (tokv t).toArray) (.agg (tokv t').toArray) rfl rfl (.bool (!decide (t = t'))) (fun W => run_guardTok W _ _ _ _ _) (fun W => run_neqTok W t t') ?_
        simp only [Act.put, List.setIfInBounds_toArray, List.set_cons_succ, List.set_cons_zero]
        refine lx_nil ?_
        intro w4 hx4
        by_cases hq : t = t'
        · have HH : Hid (T.take (k + 1) = U.take (k + 1)) := hid_ (HQ.out.2 ⟨HT.out, hq⟩)
          rw [decide_eq_true hq]
          clear hq
          go_wp2_with fail
          go_roundw
          case rel => exact ⟨k + 1, by omega, by go_num, HH, (hx.trans hx3').trans hx4⟩
          case measure => simp [intOf]; omega
        · have hne : T ≠ U := by
            intro h
            apply hq
            have h1 := HTt.out
            have h2 := HTu.out
            subst h
            exact h1.symm.trans h2
          have HN := hid_ hne
          rw [decide_eq_false hq]
          clear hq hne
          go_wp2_with fail
          go_ret
          refine ⟨?_, (hx.trans hx3').trans hx4⟩
          rw [HR.out, decide_eq_false HN.out]; rfl
      · go_wp2_with fail
        go_ret
        refine ⟨?_, hx⟩
        have e : T = U := by
          have := HT.out
          rwa [List.take_of_length_le (by rw [HTN.out]; omega), List.take_of_length_le (by rw [HUN.out]; omega)] at this
        rw [HR.out, decide_eq_true e]; rfl
  · have hne : decide (T = U) = false := decide_eq_false (fun h => hl (by rw [h]))
    have e1 : ((T.length : Int) != (U.length : Int)) = true := by simp; omega
    rw [hne]
    clear hne hl
    go_enter Try.func74, Try.ntmps74
    go_wp2_with fail
    go_ret
    exact ⟨rfl, Ext.refl w⟩
set_option maxHeartbeats 1000000 in
theorem seqTok_any (u v : Value) (T U : List Tok) (w : World) (hu : SL w 3 u T.length (toks T)) (hv : SL w 3 v U.length (toks U)) :
    Calls Try.prog 70 #[u, v] w fun e w' => e = .returned (.bool (decide (T = U))) ∧ Ext w w' := by
  have hu' := hu
  have hv' := hv
  obtain ⟨A, c, rfl, hc1, hc2, -, -⟩ := hu'
  obtain ⟨B, d, rfl, hd1, hd2, -, -⟩ := hv'
  by_cases hl : T.length = U.length
  · have HE : Hid (T.length = U.length) := hl
    obtain ⟨n, hn⟩ : ∃ n, n = T.length := ⟨_, rfl⟩
    have HTN : Hid (T.length = n) := hid_ hn.symm
    have HUN : Hid (U.length = n) := hid_ (by rw [← hl, hn])
    rw [← hl] at hv hd1 ⊢
    rw [← hn] at hu hv hc1 hd1 ⊢
    have e1 : ((n : Int) != (n : Int)) = false := by simp
    obtain ⟨res, hres⟩ : ∃ r, r = decide (T = U) := ⟨_, rfl⟩
    have HR := hid_ hres
    rw [← hres]
    clear hl hn hres
    go_enter Try.func70, Try.ntmps70
    go_wp2_with fail
    go_loopw [13] (fun i wr => ∃ k : Nat, k ≤ n ∧ i = .int .i64 k ∧ Hid (T.take k = U.take k) ∧ Ext w wr) (fun i _ => n - (intOf i).toNat)
    case atStart => exact ⟨0, by omega, rfl, hid_ (by simp), Ext.refl w⟩
    case round =>
      obtain ⟨k, hk, rfl, HT, hx⟩ := hrel
      by_cases hlt : k < n
      · obtain ⟨ad, rfl, hab, hca⟩ := (hu.ext hx).part hlt
        obtain ⟨bd, rfl, hbb, hcb⟩ := (hv.ext hx).part hlt
        have hkT : k < T.length := by rw [HTN.out]; exact hlt
        have hkU : k < U.length := by rw [HUN.out]; exact hlt
        rw [toks_part T k hkT] at hca
        rw [toks_part U k hkU] at hcb
        have HQ := hid_ (tok_take_iff T U k hkT hkU)
        generalize ht : T[k] = t at *
        generalize hu2 : U[k] = t' at *
        have HTt := hid_ ht
        have HTu := hid_ hu2
        clear ht hu2
        have HCA := hid_ hca
        clear hca
        have HCA' : Hid (∀ W, Ext wr.drew W → CellsAt W (ad.add (k * 3)) (tokv t)) := hid_ (fun W hW j q hq => by
          rw [(hW.cell (p := (ad.add (k * 3)).add j) (by rw [block_of_add, block_of_add]; exact hab))]
          exact HCA.out j q hq)
        have HCB : Hid (∀ W, Ext wr.drew W → CellsAt W (bd.add (k * 3)) (tokv t')) := hid_ (fun W hW j q hq => by
          rw [(hW.cell (p := (bd.add (k * 3)).add j) (by rw [block_of_add, block_of_add]; exact hbb))]
          exact hcb j q hq)
        have hx3' := hx.drew
        go_wp2_with fail
        refine wp_region_lx later_ext (by kernel_rfl) (by kernel_rfl) ?_
        iterate 3 (refine lx_ex (by rfl) ?_; apply Exists.intro; refine ⟨fun w hw => ?_, ?_⟩; · (go_simp; with_reducible rfl)
                   simp only [Act.put, List.setIfInBounds_toArray, List.set_cons_succ, List.set_cons_zero])
        refine lx_load_any (by rfl) 74 (.tmp 18) rfl (ad.add (k * 3)) rfl (tokv t) _ HCA'.out Try.underlying74 rfl size74 ?_
        simp only [Act.put, List.setIfInBounds_toArray, List.set_cons_succ, List.set_cons_zero]
        iterate 3 (refine lx_ex (by rfl) ?_; apply Exists.intro; refine ⟨fun w hw => ?_, ?_⟩; · (go_simp; with_reducible rfl)
                   simp only [Act.put, List.setIfInBounds_toArray, List.set_cons_succ, List.set_cons_zero])
        refine lx_load_any (by rfl) 74 (.tmp 22) rfl (bd.add (k * 3)) rfl (tokv t') _ HCB.out Try.underlying74 rfl size74 ?_
        simp only [Act.put, List.setIfInBounds_toArray, List.set_cons_succ, List.set_cons_zero]
        refine lx_binOp (by rfl) .neq 74 _ _ _ rfl (.agg (tokv t).toArray) (.agg (tokv t').toArray) rfl rfl (.bool (!decide (t = t'))) (fun W => run_guardTok W _ _ _ _ _) (fun W => run_neqTok W t t') ?_
        simp only [Act.put, List.setIfInBounds_toArray, List.set_cons_succ, List.set_cons_zero]
        refine lx_nil ?_
        intro w4 hx4
        by_cases hq : t = t'
        · have HH : Hid (T.take (k + 1) = U.take (k + 1)) := hid_ (HQ.out.2 ⟨HT.out, hq⟩)
          rw [decide_eq_true hq]
          clear hq
          go_wp2_with fail
          go_roundw
          case rel => exact ⟨k + 1, by omega, by go_num, HH, hx3'.trans hx4⟩
          case measure => simp [intOf]; omega
        · have hne : T ≠ U := by
            intro h
            apply hq
            have h1 := HTt.out
            have h2 := HTu.out
            subst h
            exact h1.symm.trans h2
          have HN := hid_ hne
          rw [decide_eq_false hq]
          clear hq hne
          go_wp2_with fail
          go_ret
          refine ⟨?_, hx3'.trans hx4⟩
          rw [HR.out, decide_eq_false HN.out]; rfl
      · go_wp2_with fail
        go_ret
        refine ⟨?_, hx⟩
        have e : T = U := by
          have := HT.out
          rwa [List.take_of_length_le (by rw [HTN.out]; omega), List.take_of_length_le (by rw [HUN.out]; omega)] at this
        rw [HR.out, decide_eq_true e]; rfl
  · have hne : decide (T = U) = false := decide_eq_false (fun h => hl (by rw [h]))
    have e1 : ((T.length : Int) != (U.length : Int)) = true := by simp; omega
    rw [hne]
    clear hne hl
    go_enter Try.func70, Try.ntmps70
    go_wp2_with fail
    go_ret
    exact ⟨rfl, Ext.refl w⟩
end Go.Proofs.Ytkfdkkhhkciocaa
/- run.token, token of the reference. -/
namespace Go.Proofs.Ytkfdkkhhkciocaa
set_option linter.unusedVariables false
set_option linter.unusedSimpArgs false
open Go.RowKit
theorem sizeTok : (Try.prog.info? 74).map (·.size) = some 3 := by kernel_rfl
theorem zeroTok : (Try.prog.info? 74).bind (·.zero) = some (.agg (tokv (0, 0, 0)).toArray) := by kernel_rfl
theorem elt_tok : Elt Try.prog 22 74 3 24 := ⟨Try.underlying22, by kernel_rfl, by omega⟩
theorem bitsZ_bd (n : Int) : 0 ≤ (bitsZ n).1 ∧ (bitsZ n).1 ≤ 12 := by
  unfold bitsZ
  split
  · next h => have := (szN_spec n h.1 h.2).1; simp; omega
  · simp
theorem three_one (a b c : Int) : (#[Value.int .i64 a, .int .i64 b, .int .i64 c] : Array Value).all (·.oneCell') = true := by
  rw [Array.all_eq_true']
  intro x hx
  simp at hx
  rcases hx with rfl | rfl | rfl <;> rfl
theorem or_add : ∀ r : Fin 16, ∀ x : Fin 13, bits .or .i64 ((r.val : Int) * 16) (x.val : Int) = 16 * (r.val : Int) + (x.val : Int) := by decide
theorem rtoken_any (r n : Int) (w : World) (h0 : 0 ≤ r) (h1 : r ≤ 15) : Calls Try.prog 77 #[.int .i64 r, .int .i64 n] w fun e w' => e = .returned (.agg (tokv (tokZ r n)).toArray) ∧ Ext w w' := by
  have HB := hid_ (fun W => rsizeBits_any n W)
  obtain ⟨b1, b2⟩ := bitsZ_bd n
  have HT := hid_ (show tokv (tokZ r n) = [.int .i64 (16 * r + (bitsZ n).1), .int .i64 (bitsZ n).1, .int .i64 (bitsZ n).2.1] from rfl)
  generalize tokZ r n = tk at *
  generalize bitsZ n = b at *
  obtain ⟨x1, x2, x3⟩ := b
  go_enter Try.func77, Try.ntmps77
  go_wp2_with (first
    | (refine wpList_alloc_abs' rfl (some 4) rfl 74 rfl _ zeroTok ?_; intro w1 g1 hb1 hx1 hg1)
    | (go_at_call 110; (with_reducible refine (HB.out _).mono ?_); rintro e w' ⟨rfl, rfl⟩)
    | (refine wpList_store_blk rfl 74 (.tmp 4) (.tmp 20) rfl _ _ rfl rfl hb1 3 sizeTok rfl rfl (three_one _ _ _) ?_; intro w5 hb5 hg5))
  refine ret_cell rfl rfl _ rfl hb5 _ Try.underlying74 rfl 3 sizeTok rfl ⟨by rw [HT.out], hx1.grown hg5 hg1⟩
theorem token_any (r : Nat) (m : Int) (w : World) (h1 : r ≤ 15) : Calls Try.prog 109 #[.int .i64 r, .int .i64 m] w fun e w' => e = .returned (.agg (tokv (tokZ r m)).toArray) ∧ Ext w w' := by
  have HB := hid_ (fun W => sizeBits_any m W)
  obtain ⟨b1, b2⟩ := bitsZ_bd m
  have HT := hid_ (show tokv (tokZ r m) = [.int .i64 (16 * r + (bitsZ m).1), .int .i64 (bitsZ m).1, .int .i64 (bitsZ m).2.1] from rfl)
  generalize tokZ r m = tk at *
  generalize bitsZ m = b at *
  obtain ⟨x1, x2, x3⟩ := b
  obtain ⟨x1, rfl⟩ : ∃ k : Nat, x1 = k := ⟨x1.toNat, by simp at b1; omega⟩
  have HO : bits .or .i64 ((r : Int) * 16) (x1 : Int) = 16 * (r : Int) + (x1 : Int) := or_add ⟨r, by omega⟩ ⟨x1, by simp at b2; omega⟩
  go_enter Try.func109, Try.ntmps109
  go_wp2_with (first
    | (refine wpList_alloc_abs' rfl (some 4) rfl 74 rfl _ zeroTok ?_; intro w1 g1 hb1 hx1 hg1)
    | (go_at_call 123; (with_reducible refine (HB.out _).mono ?_); rintro e w' ⟨rfl, rfl⟩)
    | (refine wpList_store_blk rfl 74 (.tmp 4) (.tmp 20) rfl _ _ rfl rfl hb1 3 sizeTok rfl rfl (three_one _ _ _) ?_; intro w5 hb5 hg5))
  refine ret_cell rfl rfl _ rfl hb5 _ Try.underlying74 rfl 3 sizeTok rfl ⟨by rw [HT.out], hx1.grown hg5 hg1⟩
theorem own_ext {w w' : World} {base : Nat} {e : TypeId} {size n : Nat} {v : Value} {xs : List Value} (h : w.ownsRow base e size v n xs) (hb : Ext w w') : w'.ownsRow base e size v n xs := by
  obtain ⟨hl, hh⟩ := h
  refine ⟨hl, ?_⟩
  rcases hh with ⟨rfl, rfl⟩ | ⟨g, cap, cur, rfl, h1, hg, h2⟩
  · exact .inl ⟨rfl, rfl⟩
  · exact .inr ⟨g, cap, cur, rfl, h1, (hb.block g (Blk.lt (w := w) (t := e) (cs := cur) hg)).trans hg, h2⟩
theorem one_sl3 (w : World) (T : TypeId) (a b c : Value) : SL (w.alloc (.cells #[a, b, c] T)) 3 (.slice (some ⟨w.heap.size, 0, none⟩) 1 1) 1 [a, b, c] := by
  have := (Blk.new w T #[a, b, c]).sl (size := 3) (n := 1) (c := 1) rfl (by omega) (by omega)
  simpa using this
theorem own_built3 {w : World} {base : Nat} (e : TypeId) (a b c : Value) (hb : base ≤ w.heap.size) :
    (w.alloc (.cells #[a, b, c] e)).ownsRow base e 3 (.slice (some ⟨w.heap.size, 0, none⟩) 1 1) 1 [a, b, c] :=
  ⟨rfl, .inr ⟨w.heap.size, 1, #[a, b, c], rfl, hb, heap_alloc_new w _, by omega, by unfold maxLen; omega, rfl, by simp⟩⟩
theorem tok_one (a b c : Int) : ∀ u ∈ [Value.int .i64 a, .int .i64 b, .int .i64 c], u.oneCell' = true := by
  intro u hu
  simp at hu
  rcases hu with rfl | rfl | rfl <;> rfl
theorem own_tok {w : World} {base : Nat} {e : TypeId} {v : Value} {T : List Tok} {a b c : Int} (h : w.ownsRow base e 3 v (T.length + 1) (toks T ++ [.int .i64 a, .int .i64 b, .int .i64 c])) : w.ownsRow base e 3 v (T ++ [(a, b, c)]).length (toks (T ++ [(a, b, c)])) := by
  simpa [toks, tokv] using h
/-- the contract of 'token' with its cells written out -/
theorem tokv_out (t : Tok) : (tokv t).toArray = #[.int .i64 t.1, .int .i64 t.2.1, .int .i64 t.2.2] := rfl
end Go.Proofs.Ytkfdkkhhkciocaa
