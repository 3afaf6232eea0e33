/- Contracts for the law FileParses, part 3: what the functions that it reaches answer, for all arguments that the theorems name. -/
import Derived.Test.YtkfdkkhhkciocaaMFileParses1
import Derived.Test.YtkfdkkhhkciocaaMFileParses2
import Derived.Maps.AppendAt
/- Runs of single operations as facts (ex_..): for drawn regions (lx_run, lx_read) and for others (wl_run). -/
namespace Go.Proofs.Ytkfdkkhhkciocaa
set_option linter.unusedVariables false
set_option linter.unusedSimpArgs false
open Go.RowKit
section
variable {o : Oper} {a : Act}
theorem ex_move {P : Program} {x : Operand} (ho : o.op = .move x) {v : Value} (hx : a.eval x = v) (w : World) : (execOp a.eval o).run P w = .ok (.value v) w := by simp [execOp, ho, hx]
theorem ex_assign {P : Program} {x : Operand} (ho : o.op = .assign x) {v : Value} (hx : a.eval x = v) (w : World) : (execOp a.eval o).run P w = .ok (.value v) w := by simp [execOp, ho, hx]
theorem ex_bin {op : BinOp} {x y : Operand} {t2 : TypeId} (ho : o.op = .binOp op 3 x y t2) {m n : Int} (hx : a.eval x = .int .i64 m) (hy : a.eval y = .int .i64 n) {v : Value}
    (hr : ∀ w, (binOp op 3 (.int .i64 m) (.int .i64 n)).run Try.prog w = .ok v w) (w : World) : (execOp a.eval o).run Try.prog w = .ok (.value v) w := by
  simp [execOp, ho, hx, hy, guardN, hr]
theorem ex_addN {x y : Operand} {t2 : TypeId} (ho : o.op = .binOp .add 3 x y t2) {i d : Nat} (hx : a.eval x = .int .i64 (i : Int)) (hy : a.eval y = .int .i64 (d : Int)) (h : i + d < 1000000000000) (w : World) :
    (execOp a.eval o).run Try.prog w = .ok (.value (.int .i64 ((i + d : Nat) : Int))) w := ex_bin ho hx hy (run_addN i d h) w
theorem ex_subN {x y : Operand} {t2 : TypeId} (ho : o.op = .binOp .sub 3 x y t2) {i d : Nat} (hx : a.eval x = .int .i64 (i : Int)) (hy : a.eval y = .int .i64 (d : Int)) (h : i < 1000000000000) (h2 : d ≤ i) (w : World) :
    (execOp a.eval o).run Try.prog w = .ok (.value (.int .i64 ((i - d : Nat) : Int))) w := ex_bin ho hx hy (run_subN i d h h2) w
theorem ex_mulN {x y : Operand} {t2 : TypeId} (ho : o.op = .binOp .mul 3 x y t2) {i d : Nat} (hx : a.eval x = .int .i64 (i : Int)) (hy : a.eval y = .int .i64 (d : Int)) (h : i * d < 1000000000000) (w : World) :
    (execOp a.eval o).run Try.prog w = .ok (.value (.int .i64 ((i * d : Nat) : Int))) w := ex_bin ho hx hy (run_mulN i d _ rfl h) w
theorem ex_quoN {x y : Operand} {t2 : TypeId} (ho : o.op = .binOp .quo 3 x y t2) {i d : Nat} (hx : a.eval x = .int .i64 (i : Int)) (hy : a.eval y = .int .i64 (d : Int)) (h : i < 1000000000000) (h2 : 0 < d) (w : World) :
    (execOp a.eval o).run Try.prog w = .ok (.value (.int .i64 ((i / d : Nat) : Int))) w := ex_bin ho hx hy (run_quoN i d h h2) w
theorem ex_remN {x y : Operand} {t2 : TypeId} (ho : o.op = .binOp .rem 3 x y t2) {i d : Nat} (hx : a.eval x = .int .i64 (i : Int)) (hy : a.eval y = .int .i64 (d : Int)) (h : i < 1000000000000) (h2 : 0 < d) (w : World) :
    (execOp a.eval o).run Try.prog w = .ok (.value (.int .i64 ((i % d : Nat) : Int))) w := ex_bin ho hx hy (run_remN i d h h2) w
theorem ex_addI {x y : Operand} {t2 : TypeId} (ho : o.op = .binOp .add 3 x y t2) {i d : Int} (hx : a.eval x = .int .i64 i) (hy : a.eval y = .int .i64 d) (h : -9223372036854775808 ≤ i + d ∧ i + d ≤ 9223372036854775807) (w : World) :
    (execOp a.eval o).run Try.prog w = .ok (.value (.int .i64 (i + d))) w := ex_bin ho hx hy (run_addI i d _ (IntWalk.i64_in _ h)) w
theorem run_subI (x y z : Int) (h : IntKind.i64.wrap (x - y) = z) (W : World) : (binOp .sub 3 (.int .i64 x) (.int .i64 y)).run Try.prog W = .ok (.int .i64 z) W := by
  subst h; go_simp
theorem ex_subI {x y : Operand} {t2 : TypeId} (ho : o.op = .binOp .sub 3 x y t2) {i d : Int} (hx : a.eval x = .int .i64 i) (hy : a.eval y = .int .i64 d) (h : -9223372036854775808 ≤ i - d ∧ i - d ≤ 9223372036854775807) (w : World) :
    (execOp a.eval o).run Try.prog w = .ok (.value (.int .i64 (i - d))) w := ex_bin ho hx hy (run_subI i d _ (IntWalk.i64_in _ h)) w
theorem ex_mulI {x y : Operand} {t2 : TypeId} (ho : o.op = .binOp .mul 3 x y t2) {i d : Int} (hx : a.eval x = .int .i64 i) (hy : a.eval y = .int .i64 d) (h : -9223372036854775808 ≤ i * d ∧ i * d ≤ 9223372036854775807) (w : World) :
    (execOp a.eval o).run Try.prog w = .ok (.value (.int .i64 (i * d))) w := ex_bin ho hx hy (run_mulI i d _ (IntWalk.i64_in _ h)) w
theorem ex_minN {x y : Operand} {ats : Array TypeId} (ho : o.op = .call { callee := .builtin .min, args := #[x, y], argTypes := ats }) {i d : Nat} (hx : a.eval x = .int .i64 (i : Int)) (hy : a.eval y = .int .i64 (d : Int)) (w : World) :
    (execOp a.eval o).run Try.prog w = .ok (.value (.int .i64 ((min i d : Nat) : Int))) w := by
  simp [execOp, ho, hx, hy, resolve, invoke, builtin, Builtin.min_, Builtin.min2]
  split <;> omega
theorem ex_maxI {x y : Operand} {ats : Array TypeId} (ho : o.op = .call { callee := .builtin .max, args := #[x, y], argTypes := ats }) {i d : Int} (hx : a.eval x = .int .i64 i) (hy : a.eval y = .int .i64 d) (w : World) :
    (execOp a.eval o).run Try.prog w = .ok (.value (.int .i64 (max i d))) w := by
  have e : (if i < d then d else i) = max i d := by split <;> omega
  simp [execOp, ho, hx, hy, resolve, invoke, builtin, Builtin.max_, Builtin.max2, e]
theorem ex_minI {x y : Operand} {ats : Array TypeId} (ho : o.op = .call { callee := .builtin .min, args := #[x, y], argTypes := ats }) {i d : Int} (hx : a.eval x = .int .i64 i) (hy : a.eval y = .int .i64 d) (w : World) :
    (execOp a.eval o).run Try.prog w = .ok (.value (.int .i64 (min i d))) w := by
  have e : (if d < i then d else i) = min i d := by split <;> omega
  simp [execOp, ho, hx, hy, resolve, invoke, builtin, Builtin.min_, Builtin.min2, e]
theorem ex_extract {P : Program} {x : Operand} {n : Nat} (ho : o.op = .extract x n) {vs : Array Value} (hx : a.eval x = .tuple vs) {v : Value} (hv : vs[n]? = some v) (w : World) : (execOp a.eval o).run P w = .ok (.value v) w := by
  simp [execOp, ho, hx, Instr.extract, hv]
theorem guardG (op : BinOp) (t : TypeId) (x y : Operand) (k k' : IntKind) (v w : Int) {P : Program} (W : World) : (eqGuard op t x y (.int k v) (.int k' w)).run P W = .ok () W := by
  cases op <;> simp [eqGuard]
theorem ex_cmp {P : Program} {op : BinOp} {t : TypeId} {x y : Operand} {t2 : TypeId} (ho : o.op = .binOp op t x y t2) {m n : Int} (hx : a.eval x = .int .i64 m) (hy : a.eval y = .int .i64 n) {b : Bool}
    (hr : ∀ w, (binOp op t (.int .i64 m) (.int .i64 n)).run P w = .ok (.bool b) w) (w : World) : (execOp a.eval o).run P w = .ok (.value (.bool b)) w := by
  simp [execOp, ho, hx, hy, guardG, hr]
theorem ex_lss {P : Program} {t : TypeId} {x y : Operand} {t2 : TypeId} (ho : o.op = .binOp .lss t x y t2) {m n : Int} (hx : a.eval x = .int .i64 m) (hy : a.eval y = .int .i64 n) {b : Bool} (h : decide (m < n) = b) (w : World) :
    (execOp a.eval o).run P w = .ok (.value (.bool b)) w := ex_cmp ho hx hy (fun w => by subst h; simp [binOp, Op.intCmp]) w
theorem ex_gtr {P : Program} {t : TypeId} {x y : Operand} {t2 : TypeId} (ho : o.op = .binOp .gtr t x y t2) {m n : Int} (hx : a.eval x = .int .i64 m) (hy : a.eval y = .int .i64 n) {b : Bool} (h : decide (n < m) = b) (w : World) :
    (execOp a.eval o).run P w = .ok (.value (.bool b)) w := ex_cmp ho hx hy (fun w => by subst h; simp [binOp, Op.intCmp]) w
theorem ex_leq {P : Program} {t : TypeId} {x y : Operand} {t2 : TypeId} (ho : o.op = .binOp .leq t x y t2) {m n : Int} (hx : a.eval x = .int .i64 m) (hy : a.eval y = .int .i64 n) {b : Bool} (h : decide (m ≤ n) = b) (w : World) :
    (execOp a.eval o).run P w = .ok (.value (.bool b)) w := ex_cmp ho hx hy (fun w => by subst h; simp [binOp, Op.intCmp]) w
theorem ex_geq {P : Program} {t : TypeId} {x y : Operand} {t2 : TypeId} (ho : o.op = .binOp .geq t x y t2) {m n : Int} (hx : a.eval x = .int .i64 m) (hy : a.eval y = .int .i64 n) {b : Bool} (h : decide (n ≤ m) = b) (w : World) :
    (execOp a.eval o).run P w = .ok (.value (.bool b)) w := ex_cmp ho hx hy (fun w => by subst h; simp [binOp, Op.intCmp]) w
theorem ex_eql {P : Program} {t : TypeId} {x y : Operand} {t2 : TypeId} (ho : o.op = .binOp .eql t x y t2) {m n : Int} (hx : a.eval x = .int .i64 m) (hy : a.eval y = .int .i64 n) {b : Bool} (h : decide (m = n) = b) (w : World) :
    (execOp a.eval o).run P w = .ok (.value (.bool b)) w := ex_cmp ho hx hy (fun w => by subst h; by_cases e : m = n <;> simp [binOp, Op.intCmp, e]) w
theorem ex_neq {P : Program} {t : TypeId} {x y : Operand} {t2 : TypeId} (ho : o.op = .binOp .neq t x y t2) {m n : Int} (hx : a.eval x = .int .i64 m) (hy : a.eval y = .int .i64 n) {b : Bool} (h : decide (m ≠ n) = b) (w : World) :
    (execOp a.eval o).run P w = .ok (.value (.bool b)) w := ex_cmp ho hx hy (fun w => by subst h; by_cases e : m = n <;> simp [binOp, Op.intCmp, e]) w
theorem ex_not {P : Program} {t : TypeId} {x : Operand} (ho : o.op = .unOp .not t x) {b : Bool} (hx : a.eval x = .bool b) (w : World) : (execOp a.eval o).run P w = .ok (.value (.bool (!b))) w := by
  simp [execOp, ho, hx, Op.unary]
theorem ex_pick {P : Program} {c x y : Operand} (ho : o.op = .pick c x y) {b : Bool} (hb : a.eval c = .bool b) {v : Value} (hv : (if b then a.eval x else a.eval y) = v) (w : World) : (execOp a.eval o).run P w = .ok (.value v) w := by
  subst hv; simp [execOp, ho, hb, asBool]
theorem ex_build0 {P : Program} {t : TypeId} (ho : o.op = .build t #[]) {cs : Array Value} (hf : P.built t [] = some cs) (w : World) : (execOp a.eval o).run P w = .ok (.value (.agg cs)) w := by
  simp only [execOp, ho, Sem.run_bind, run_build w t (#[].map fun (i, x) => (i, a.eval x)) cs (by simpa using hf), Result.andThen_ok, Sem.run_pure]
theorem sizeOf_of {P : Program} {e : TypeId} {sz : Nat} (hs : (P.info? e).map (·.size) = some sz) (w : World) : (sizeOf e).run P w = .ok sz w := by
  cases hq : P.info? e with
  | none => simp [hq] at hs
  | some i => have hz : i.size = sz := by simpa [hq] using hs
              simp [sizeOf, typeInfo, hq, hz]
theorem ex_ixSl {P : Program} {t e : TypeId} {sz : Nat} (ht : P.underlying t = some (.slice e)) (hs : (P.info? e).map (·.size) = some sz) {x ix : Operand} (ho : o.op = .indexAddr t x ix) {ad : Addr} {n c i : Nat} {k : IntKind} (hx : a.eval x = .slice (some ad) n c) (hi : a.eval ix = .int k (i : Int)) (h : i < n) (w : World) :
    (execOp a.eval o).run P w = .ok (.value (.pointer (some (ad.add (i * sz))))) w := by
  have hc : ((0 : Int) ≤ (i : Int) ∧ (i : Int) < (n : Int)) = True := by simp; omega
  simp only [execOp, ho, hx, hi, Instr.indexAt, Sem.run_bind, run_underlying ht, Result.andThen_ok, asIntOf, Sem.run_pure, hc, if_true, sizeOf_of hs, Int.toNat_natCast]
theorem ex_ixArr {P : Program} {t e : TypeId} {sz m : Nat} (ht : P.underlying t = some (.array m e)) (hs : (P.info? e).map (·.size) = some sz) {x ix : Operand} (ho : o.op = .indexAddr t x ix) {ad : Addr} {i : Nat} {k : IntKind} (hx : a.eval x = .pointer (some ad)) (hi : a.eval ix = .int k (i : Int)) (h : i < m) (w : World) :
    (execOp a.eval o).run P w = .ok (.value (.pointer (some (ad.add (i * sz))))) w := by
  have hc : ((0 : Int) ≤ (i : Int) ∧ (i : Int) < (m : Int)) = True := by simp; omega
  simp only [execOp, ho, hx, hi, Instr.indexAt, Instr.sureAddr, Sem.run_bind, run_underlying ht, Result.andThen_ok, asIntOf, Sem.run_pure, hc, if_true, sizeOf_of hs, Int.toNat_natCast]
theorem addr_add (g m n : Nat) : (⟨g, m, none⟩ : Addr).add n = ⟨g, m + n, none⟩ := by
  unfold Addr.add
  by_cases hn : n = 0
  · subst hn; rfl
  · rw [if_neg hn]
theorem ex_ixSlG {P : Program} {t e : TypeId} {sz : Nat} (ht : P.underlying t = some (.slice e)) (hs : (P.info? e).map (·.size) = some sz) {x ix : Operand} (ho : o.op = .indexAddr t x ix) {g m n c i : Nat} {k : IntKind} (hx : a.eval x = .slice (some ⟨g, m, none⟩) n c) (hi : a.eval ix = .int k (i : Int)) (h : i < n) (w : World) :
    (execOp a.eval o).run P w = .ok (.value (.pointer (some ⟨g, m + i * sz, none⟩))) w := by
  rw [← addr_add]; exact ex_ixSl ht hs ho hx hi h w
theorem ex_ixArrG {P : Program} {t e : TypeId} {sz m : Nat} (ht : P.underlying t = some (.array m e)) (hs : (P.info? e).map (·.size) = some sz) {x ix : Operand} (ho : o.op = .indexAddr t x ix) {g b i : Nat} {k : IntKind} (hx : a.eval x = .pointer (some ⟨g, b, none⟩)) (hi : a.eval ix = .int k (i : Int)) (h : i < m) (w : World) :
    (execOp a.eval o).run P w = .ok (.value (.pointer (some ⟨g, b + i * sz, none⟩))) w := by
  rw [← addr_add]; exact ex_ixArr ht hs ho hx hi h w
theorem ex_ixSl1 {P : Program} {t e : TypeId} (ht : P.underlying t = some (.slice e)) (hs : (P.info? e).map (·.size) = some 1) {x ix : Operand} (ho : o.op = .indexAddr t x ix) {g m n c i : Nat} {k : IntKind} (hx : a.eval x = .slice (some ⟨g, m, none⟩) n c) (hi : a.eval ix = .int k (i : Int)) (h : i < n) (w : World) :
    (execOp a.eval o).run P w = .ok (.value (.pointer (some ⟨g, m + i, none⟩))) w := by
  have := ex_ixSlG ht hs ho hx hi h w
  rwa [Nat.mul_one] at this
theorem ex_ixSl0 {P : Program} {t e : TypeId} (ht : P.underlying t = some (.slice e)) (hs : (P.info? e).map (·.size) = some 1) {x ix : Operand} (ho : o.op = .indexAddr t x ix) {g n c i : Nat} {k : IntKind} (hx : a.eval x = .slice (some ⟨g, 0, none⟩) n c) (hi : a.eval ix = .int k (i : Int)) (h : i < n) (w : World) :
    (execOp a.eval o).run P w = .ok (.value (.pointer (some ⟨g, i, none⟩))) w := by
  have := ex_ixSl1 ht hs ho hx hi h w
  rwa [Nat.zero_add] at this
theorem ex_ixArr1 {P : Program} {t e : TypeId} {m : Nat} (ht : P.underlying t = some (.array m e)) (hs : (P.info? e).map (·.size) = some 1) {x ix : Operand} (ho : o.op = .indexAddr t x ix) {g b i : Nat} {k : IntKind} (hx : a.eval x = .pointer (some ⟨g, b, none⟩)) (hi : a.eval ix = .int k (i : Int)) (h : i < m) (w : World) :
    (execOp a.eval o).run P w = .ok (.value (.pointer (some ⟨g, b + i, none⟩))) w := by
  have := ex_ixArrG ht hs ho hx hi h w
  rwa [Nat.mul_one] at this
theorem ex_ixArr0 {P : Program} {t e : TypeId} {m : Nat} (ht : P.underlying t = some (.array m e)) (hs : (P.info? e).map (·.size) = some 1) {x ix : Operand} (ho : o.op = .indexAddr t x ix) {g i : Nat} {k : IntKind} (hx : a.eval x = .pointer (some ⟨g, 0, none⟩)) (hi : a.eval ix = .int k (i : Int)) (h : i < m) (w : World) :
    (execOp a.eval o).run P w = .ok (.value (.pointer (some ⟨g, i, none⟩))) w := by
  have := ex_ixArr1 ht hs ho hx hi h w
  rwa [Nat.zero_add] at this
theorem ex_loadI {x : Operand} (ho : o.op = .load 3 x) {p : Addr} (hx : a.eval x = .pointer (some p)) {z : Int} {w : World} (h : w.cell? p = some (.int .i64 z)) : (execOp a.eval o).run Try.prog w = .ok (.value (.int .i64 z)) w := by
  simp [execOp, ho, hx, run_loadI w p z h]
end
theorem sizeI : (Try.prog.info? 3).map (·.size) = some 1 := by kernel_rfl
section
variable {P : Program} {ops : Array Oper} {Q : Exit → Act → World → Prop} {rest : List Oper} {o : Oper} {a : Act} {w : World}
theorem wl_run (hg : o.guard = none) (v : Value) (h1 : ∀ w, (execOp a.eval o).run P w = .ok (.value v) w) (h : wpList P ops Q rest (a.put o.dst v) w) : wpList P ops Q (o :: rest) a w :=
  wpList_plain hg fun _ hK => by unfold Oper.wp; rw [h1]; exact hK _ _ h
theorem wl_run_g (hw : Region.wanted o (yielded ops a.tmps) = true) (v : Value) (h1 : ∀ w, (execOp a.eval o).run P w = .ok (.value v) w) (h : wpList P ops Q rest (a.put o.dst v) w) : wpList P ops Q (o :: rest) a w :=
  wpList_wanted hw fun _ hK => by unfold Oper.wp; rw [h1]; exact hK _ _ h
theorem wl_read_g (hw : Region.wanted o (yielded ops a.tmps) = true) (v : Value) (h1 : (execOp a.eval o).run P w = .ok (.value v) w) (h : wpList P ops Q rest (a.put o.dst v) w) : wpList P ops Q (o :: rest) a w :=
  wpList_wanted hw fun _ hK => by unfold Oper.wp; rw [h1]; exact hK _ _ h
theorem wl_skip (hw : Region.wanted o (yielded ops a.tmps) = false) (h : wpList P ops Q rest (a.put o.dst undef) w) : wpList P ops Q (o :: rest) a w :=
  wpList_step fun K hK => by rw [if_neg (by rw [hw]; simp)]; exact hK _ _ h
theorem wl_read (hg : o.guard = none) (v : Value) (h1 : (execOp a.eval o).run P w = .ok (.value v) w) (h : wpList P ops Q rest (a.put o.dst v) w) : wpList P ops Q (o :: rest) a w :=
  wpList_plain hg fun _ hK => by unfold Oper.wp; rw [h1]; exact hK _ _ h
end
theorem wl_storeI {ops : Array Oper} {Q : Exit → Act → World → Prop} {rest : List Oper} {o : Oper} {a : Act} {w : World} (hg : o.guard = none) (x y : Operand) (ho : o.op = .store 3 x y) (g i : Nat) (z : Int) (hx : a.eval x = .pointer (some ⟨g, i, none⟩)) (hy : a.eval y = .int .i64 z)
    {t : TypeId} {cs : Array Value} (hB : Blk w g t cs) (hi : i < cs.size) (h : wpList Try.prog ops Q rest (a.put o.dst undef) (w.setCell ⟨g, i, none⟩ (.int .i64 z))) : wpList Try.prog ops Q (o :: rest) a w :=
  wpList_plain hg fun _ hK => wp_storeI x y ho ⟨g, i, none⟩ z hx hy _ ((hB.cell i).trans (Array.getElem?_eq_getElem hi)) (hB.frozen i) (hK _ _ h)
end Go.Proofs.Ytkfdkkhhkciocaa
/- A row of bytes, as values. -/
namespace Go.Proofs.Ytkfdkkhhkciocaa
set_option linter.unusedVariables false
set_option linter.unusedSimpArgs false
open Go.RowKit
def bytesV (l : List Nat) : List Value := l.map fun x : Nat => Value.int .u8 (x : Int)
theorem bytesV_len (l : List Nat) : (bytesV l).length = l.length := by simp [bytesV]
theorem bytesV_snoc (l : List Nat) (x : Nat) : bytesV (l ++ [x]) = bytesV l ++ [.int .u8 (x : Int)] := by simp [bytesV]
end Go.Proofs.Ytkfdkkhhkciocaa
/- Slicing a slice of bytes. -/
namespace Go.Proofs.Ytkfdkkhhkciocaa
set_option linter.unusedVariables false
set_option linter.unusedSimpArgs false
open Go.RowKit
theorem SL.sub {w : World} {A : Option Addr} {n c l h : Nat} {xs : List Value} (hs : SL w 1 (.slice A n c) n xs) (hl : l ≤ h) (hh : h ≤ n) :
    SL w 1 (.slice (if c = l then A else A.map (·.add l)) (h - l) (c - l)) (h - l) ((xs.drop l).take (h - l)) := by
  obtain ⟨A', c', e, h1, h2, h3, h4⟩ := hs
  injection e with e1 e2 e3
  subst e1 e3
  refine ⟨_, _, rfl, by omega, by omega, by simp; omega, fun h0 => ?_⟩
  obtain ⟨ad, rfl, hb, hc⟩ := h4 (by omega)
  rw [if_neg (by omega)]
  refine ⟨ad.add l, rfl, by rw [block_of_add]; exact hb, fun j u hu => ?_⟩
  rw [add_of_add]
  refine hc _ _ ?_
  have hj : j < h - l := by have := (List.getElem?_eq_some_iff.1 hu).1; simp at this; omega
  rwa [List.getElem?_take_of_lt hj, List.getElem?_drop] at hu
theorem run_sliceB (A : Option Addr) (n c l h : Nat) (hl : l ≤ h) (hh : h ≤ n) (hc : n ≤ c) (w : World) :
    (Instr.slice 38 (.slice A n c) (some (.int .i64 (l : Int))) (some (.int .i64 (h : Int))) none).run Try.prog w = .ok (.slice (if c = l then A else A.map (·.add l)) (h - l) (c - l)) w := by
  have e1 : ((l : Int) ≤ (h : Int)) := by omega
  have e2 : ((h : Int) ≤ (c : Int)) := by omega
  have e3 : l ≤ c := by omega
  go_simp
theorem run_sliceF (A : Option Addr) (n c l : Nat) (hh : l ≤ n) (hc : n ≤ c) (w : World) :
    (Instr.slice 38 (.slice A n c) (some (.int .i64 (l : Int))) none none).run Try.prog w = .ok (.slice (if c = l then A else A.map (·.add l)) (n - l) (c - l)) w := by
  have e1 : ((l : Int) ≤ (n : Int)) := by omega
  have e2 : ((n : Int) ≤ (c : Int)) := by omega
  have e3 : l ≤ c := by omega
  go_simp
section
variable {o : Oper} {a : Act}
theorem ex_sliceB {x lo hi : Operand} (ho : o.op = .slice 38 x (some lo) (some hi) none) {A : Option Addr} {n c l h : Nat} (hx : a.eval x = .slice A n c) (h1 : a.eval lo = .int .i64 (l : Int)) (h2 : a.eval hi = .int .i64 (h : Int)) (hl : l ≤ h) (hh : h ≤ n) (hc : n ≤ c) (w : World) :
    (execOp a.eval o).run Try.prog w = .ok (.value (.slice (if c = l then A else A.map (·.add l)) (h - l) (c - l))) w := by
  simp [execOp, ho, hx, h1, h2, Instr.sliceAt, Sem.run_bind, run_underlying Try.underlying38, run_sliceB A n c l h hl hh hc w]
theorem ex_sliceF {x lo : Operand} (ho : o.op = .slice 38 x (some lo) none none) {A : Option Addr} {n c l : Nat} (hx : a.eval x = .slice A n c) (h1 : a.eval lo = .int .i64 (l : Int)) (hh : l ≤ n) (hc : n ≤ c) (w : World) :
    (execOp a.eval o).run Try.prog w = .ok (.value (.slice (if c = l then A else A.map (·.add l)) (n - l) (c - l))) w := by
  simp [execOp, ho, hx, h1, Instr.sliceAt, Sem.run_bind, run_underlying Try.underlying38, run_sliceF A n c l hh hc w]
end
end Go.Proofs.Ytkfdkkhhkciocaa
/- append onto a row of the call's own. -/
namespace Go.Proofs.Ytkfdkkhhkciocaa
set_option linter.unusedVariables false
set_option linter.unusedSimpArgs false
open Go.RowKit
section
variable {P : Program} (w : World)
theorem run_append_of_nil (base : Nat) (t ty e : TypeId) (i : TypeInfo) (size : Nat) (ht : P.underlying t = some (.slice e)) (hi : P.info? e = some i)
    (v : Value) (n : Nat) (xs : List Value) (hown : w.ownsRow base e size v n xs) (c : Nat) : (Builtin.append_ #[t, t] ty #[v, .slice none 0 c]).run P w = .ok v w := by
  rcases hown.2 with ⟨rfl, rfl⟩ | ⟨g, cap, cur, rfl, _, _, hnc, _⟩
  · simp [Builtin.append_, run_underlying ht, sizeOf, typeInfo, hi, Builtin.lenOf, Builtin.firstCells]
  · simp [Builtin.append_, run_underlying ht, sizeOf, typeInfo, hi, Builtin.lenOf, Builtin.firstCells, hnc, storeCells]
theorem run_append_sl (base : Nat) (t ty e : TypeId) (i : TypeInfo) (z : Value) (size bytes : Nat) (ht : P.underlying t = some (.slice e)) (hi : P.info? e = some i) (hz : i.zero = some z)
    (hsize : i.size = size) (hby : i.bytes = bytes) (hzs : z.cells.size = size) (hsz : 0 < size)
    (v : Value) (n : Nat) (xs : List Value) (hown : w.ownsRow base e size v n xs)
    (x : Value) (m : Nat) (news : List Value) (hr : SL w size x m news) (h1 : ∀ u ∈ news, u.oneCell' = true)
    (h63 : n + m ≤ maxLen) (hbytes : (n + m) * bytes ≤ 140737488355328) (hbase : base ≤ w.heap.size) :
    ∃ v' w', (Builtin.append_ #[t, t] ty #[v, x]).run P w = .ok v' w' ∧ w'.ownsRow base e size v' (n + m) (xs ++ news) ∧ w.grownBy w' v.ownBlock ∧
      (v'.ownBlock = v.ownBlock ∨ v'.ownBlock = some w.heap.size) := by
  obtain ⟨A, c, rfl, -, -, hl, hc⟩ := hr
  rcases A with _ | ad
  · have hm : m = 0 := by
      rcases Nat.eq_zero_or_pos m with h0 | h0
      · exact h0
      · obtain ⟨ad, h, _⟩ := hc h0
        cases h
    subst hm
    have hn : news = [] := List.eq_nil_of_length_eq_zero (by simpa using hl)
    subst hn
    exact ⟨v, w, run_append_of_nil w base t ty e i size ht hi v n xs hown c, by simpa using hown, World.grownBy.refl w _, .inl rfl⟩
  · have hcells : ∀ j u, news[j]? = some u → w.cell? (ad.add j) = some u := by
      intro j u hu
      rcases Nat.eq_zero_or_pos m with h0 | h0
      · subst h0
        have hn : news = [] := List.eq_nil_of_length_eq_zero (by simpa using hl)
        subst hn
        simp at hu
      · obtain ⟨ad', h, _, hcc⟩ := hc h0
        injection h with h
        subst h
        exact hcc j u hu
    obtain ⟨v', w', hrun, h2, h3, _, h5⟩ := run_append_own_at (P := P) w base t ty e i z size bytes ht hi hz hsize hby hzs hsz v n xs hown ad m c news hl hcells h1 h63 hbytes hbase
    exact ⟨v', w', hrun, h2, h3, h5⟩
theorem wp_append_sl {o : Oper} {a : Act} {K : Act → World → Prop} {Q : Exit → Act → World → Prop} (s x : Operand) (t : TypeId)
    (ho : o.op = .call { callee := .builtin .append, args := #[s, x], argTypes := #[t, t] })
    (base : Nat) (e : TypeId) (i : TypeInfo) (z : Value) (size bytes : Nat) (ht : P.underlying t = some (.slice e)) (hi : P.info? e = some i) (hz : i.zero = some z)
    (hsize : i.size = size) (hby : i.bytes = bytes) (hzs : z.cells.size = size) (hsz : 0 < size)
    (v : Value) (n : Nat) (xs : List Value) (hs : a.eval s = v) (hown : w.ownsRow base e size v n xs)
    (u : Value) (m : Nat) (news : List Value) (hx : a.eval x = u) (hr : SL w size u m news) (h1 : ∀ u ∈ news, u.oneCell' = true)
    (h63 : n + m ≤ maxLen) (hbytes : (n + m) * bytes ≤ 140737488355328) (hbase : base ≤ w.heap.size)
    (h : ∀ v' w', w'.ownsRow base e size v' (n + m) (xs ++ news) → w.grownBy w' v.ownBlock → (v'.ownBlock = v.ownBlock ∨ v'.ownBlock = some w.heap.size) → K (a.put o.dst v') w') : o.wp P a w K Q := by
  obtain ⟨v', w', hrun, h2, h3, h4⟩ := run_append_sl (P := P) w base t o.type e i z size bytes ht hi hz hsize hby hzs hsz v n xs hown u m news hr h1 h63 hbytes hbase
  unfold Oper.wp execOp
  simp only [ho, resolve, invoke, builtin, Sem.run_bind, Sem.run_pure, Result.andThen_ok, List.map_toArray, List.map_cons, List.map_nil, hs, hx, hrun]
  exact h v' w' h2 h3 h4
/-- the words of one element type, said once -/
structure Elt (P : Program) (t e : TypeId) (size bytes : Nat) : Prop where
  ht : P.underlying t = some (.slice e)
  hi : (P.info? e).map (fun i => (i.zero.map fun z => z.cells.size, i.size, i.bytes)) = some (some size, size, bytes)
  hsz : 0 < size
variable {w}
theorem wpList_append_sl {ops : Array Oper} {rest : List Oper} {o : Oper} {a : Act} {Q : Exit → Act → World → Prop} {t e : TypeId} {size bytes : Nat} (he : Elt P t e size bytes) (hgd : o.guard = none) (s x : Operand)
    (ho : o.op = .call { callee := .builtin .append, args := #[s, x], argTypes := #[t, t] })
    (base : Nat) (v : Value) (n : Nat) (xs : List Value) (hs : a.eval s = v) (hown : w.ownsRow base e size v n xs)
    (u : Value) (m : Nat) (news : List Value) (hx : a.eval x = u) (hr : SL w size u m news) (h1 : ∀ u ∈ news, u.oneCell' = true)
    (h63 : n + m ≤ 9223372036854775807) (hbytes : (n + m) * bytes ≤ 140737488355328) (hbase : base ≤ w.heap.size)
    (h : ∀ v' w', w'.ownsRow base e size v' (n + m) (xs ++ news) → Below base w w' → wpList P ops Q rest (a.put o.dst v') w') : wpList P ops Q (o :: rest) a w := by
  obtain ⟨ht, hi, hsz⟩ := he
  cases hq : P.info? e with
  | none => simp [hq] at hi
  | some i =>
    cases hzq : i.zero with
    | none => simp [hq, hzq] at hi
    | some z =>
      have hi' : z.cells.size = size ∧ i.size = size ∧ i.bytes = bytes := by simpa [hq, hzq] using hi
      refine wpList_plain hgd fun _ hK => wp_append_sl w s x t ho base e i z size bytes ht hq hzq hi'.2.1 hi'.2.2 hi'.1 hsz v n xs hs hown u m news hx hr h1 (by unfold maxLen; omega) hbytes hbase fun v' w' h2 h3 h4 => hK _ _ (h v' w' h2 ?_)
      exact (Below.refl base w).grown h3 hbase (fun k hk => ((hown.lt k hk).1))
theorem wpList_append_slr {ops : Array Oper} {rest : List Oper} {o : Oper} {a : Act} {Q : Exit → Act → World → Prop} {t e : TypeId} {size bytes : Nat} (he : Elt P t e size bytes) (hgd : o.guard = none) (s x : Operand)
    (ho : o.op = .call { callee := .builtin .append, args := #[s, x], argTypes := #[t, t] })
    (base : Nat) (v : Value) (n : Nat) (xs : List Value) (hs : a.eval s = v) (hown : w.ownsRow base e size v n xs)
    (u : Value) (m : Nat) (news : List Value) (hx : a.eval x = u) (hr : SL w size u m news) (h1 : ∀ u ∈ news, u.oneCell' = true)
    (h63 : n + m ≤ 9223372036854775807) (hbytes : (n + m) * bytes ≤ 140737488355328) (hbase : base ≤ w.heap.size)
    (h : ∀ v' w', w'.ownsRow base e size v' (n + m) (xs ++ news) → w.grownBy w' v.ownBlock → (v'.ownBlock = v.ownBlock ∨ v'.ownBlock = some w.heap.size) → wpList P ops Q rest (a.put o.dst v') w') : wpList P ops Q (o :: rest) a w := by
  obtain ⟨ht, hi, hsz⟩ := he
  cases hq : P.info? e with
  | none => simp [hq] at hi
  | some i =>
    cases hzq : i.zero with
    | none => simp [hq, hzq] at hi
    | some z =>
      have hi' : z.cells.size = size ∧ i.size = size ∧ i.bytes = bytes := by simpa [hq, hzq] using hi
      refine wpList_plain hgd fun _ hK => wp_append_sl w s x t ho base e i z size bytes ht hq hzq hi'.2.1 hi'.2.2 hi'.1 hsz v n xs hs hown u m news hx hr h1 (by unfold maxLen; omega) hbytes hbase fun v' w' h2 h3 h4 => hK _ _ (h v' w' h2 h3 h4)
/-- the new slice's form written out -/
theorem wpList_append_slf {ops : Array Oper} {rest : List Oper} {o : Oper} {a : Act} {Q : Exit → Act → World → Prop} {t e : TypeId} {size bytes : Nat} (he : Elt P t e size bytes) (hgd : o.guard = none) (s x : Operand)
    (ho : o.op = .call { callee := .builtin .append, args := #[s, x], argTypes := #[t, t] })
    (base : Nat) (v : Value) (n : Nat) (xs : List Value) (hs : a.eval s = v) (hown : w.ownsRow base e size v n xs)
    (u : Value) (m : Nat) (news : List Value) (hx : a.eval x = u) (hr : SL w size u m news) (h1 : ∀ u ∈ news, u.oneCell' = true)
    (h63 : n + m ≤ 9223372036854775807) (hbytes : (n + m) * bytes ≤ 140737488355328) (hbase : base ≤ w.heap.size)
    (h : ∀ A c w', w'.ownsRow base e size (.slice A (n + m) c) (n + m) (xs ++ news) → w.grownBy w' v.ownBlock → (A.map (·.block) = v.ownBlock ∨ A.map (·.block) = some w.heap.size) → wpList P ops Q rest (a.put o.dst (.slice A (n + m) c)) w') : wpList P ops Q (o :: rest) a w :=
  wpList_append_slr he hgd s x ho base v n xs hs hown u m news hx hr h1 h63 hbytes hbase fun v' w' h2 h3 h4 => by
    have h2' := h2.2
    rcases h2' with ⟨rfl, h0⟩ | ⟨g, cap, cur, rfl, _⟩
    · have hz : n + m = 0 ∨ ¬ n + m = 0 := by omega
      have hl := h2.1
      rw [h0] at hl
      have h5 : n + m = 0 := by
        have := he.hsz
        rcases Nat.eq_zero_or_pos (n + m) with h6 | h6
        · exact h6
        · have := Nat.mul_pos h6 this
          simp at hl
          omega
      have key := h none 0 w'
      rw [h5] at key
      rw [h5] at h2
      exact key h2 h3 (by simpa [Value.ownBlock] using h4)
    · exact h _ _ w' h2 h3 (by simpa [Value.ownBlock] using h4)
end
/-- a row of the call's own, read as a slice -/
theorem own_sl {w : World} {base : Nat} {e : TypeId} {size n : Nat} {v : Value} {xs : List Value} (h : w.ownsRow base e size v n xs) : SL w size v n xs := by
  obtain ⟨hl, hh⟩ := h
  rcases hh with ⟨rfl, rfl⟩ | ⟨g, cap, cur, rfl, hb, hg, hn, hm, hc, hx⟩
  · have : xs = [] := List.eq_nil_of_length_eq_zero (by simpa using hl)
    subst this
    exact SL.nil w size
  · refine ⟨_, _, rfl, hn, by unfold maxLen at hm; omega, hl, fun _ => ⟨_, rfl, Blk.lt (w := w) (t := e) (cs := cur) hg, fun j u hu => ?_⟩⟩
    have hj : j < xs.length := (List.getElem?_eq_some_iff.1 hu).1
    have e1 : (⟨g, 0, none⟩ : Addr).add j = ⟨g, j, none⟩ := by
      unfold Addr.add
      by_cases h0 : j = 0
      · subst h0; rfl
      · rw [if_neg h0]; simp
    rw [e1, cell_of_row w g j cur e (0, 0) hg, ← hu, ← hx, List.getElem?_take_of_lt (by omega)]
    simp
theorem own_snoc {w : World} {base : Nat} {e : TypeId} {v : Value} {L : List Int} {z : Int} (h : w.ownsRow base e 1 v (L.length + 1) (ints L ++ [.int .i64 z])) : w.ownsRow base e 1 v (L ++ [z]).length (ints (L ++ [z])) := by
  simpa [ints] using h
theorem Ext.trans' {a w w' : World} (h : Ext a w) (k : Below a.heap.size w w') : Ext a w' := Below.trans h k
theorem int_one (z : Int) : ∀ u ∈ [Value.int .i64 z], u.oneCell' = true := by
  intro u hu
  simp at hu
  subst hu
  rfl
/-- the one cell that 'append(out, x)' lays first -/
theorem one_sl (w : World) (T : TypeId) (v : Value) : SL (w.alloc (.cells #[v] T)) 1 (.slice (some ⟨w.heap.size, 0, none⟩) 1 1) 1 [v] := by
  have := (Blk.new w T #[v]).sl (size := 1) (n := 1) (c := 1) rfl (by omega) (by omega)
  simpa using this
theorem own_form {w : World} {base : Nat} {e : TypeId} {size n : Nat} {v : Value} {xs : List Value} (h : w.ownsRow base e size v n xs) : ∃ A c, v = .slice A n c ∧ SL w size (.slice A n c) n xs ∧ ∀ ad, A = some ad → base ≤ ad.block := by
  have hs := own_sl h
  obtain ⟨hl, hh⟩ := h
  rcases hh with ⟨rfl, rfl⟩ | ⟨g, cap, cur, rfl, hb, hg, hn, hm, hc, hx⟩
  · exact ⟨none, 0, rfl, hs, by intro ad h; cases h⟩
  · exact ⟨some ⟨g, 0, none⟩, cap, rfl, hs, by intro ad h; injection h with h; subst h; exact hb⟩
theorem SL.far {w : World} {size n c : Nat} {A : Option Addr} {xs : List Value} (h : SL w size (.slice A n c) n xs) {p : Addr} (hne : ∀ ad, A = some ad → ad.block ≠ p.block) (u : Value) : SL (w.setCell p u) size (.slice A n c) n xs := by
  obtain ⟨A', c', e, h1, h1', h2, h3⟩ := h
  injection e with e1 e2 e3
  subst e1 e3
  refine ⟨A, c, rfl, h1, h1', h2, fun hn => ?_⟩
  obtain ⟨ad, ea, hlt, hc⟩ := h3 hn
  exact ⟨ad, ea, by simpa [World.setCell] using hlt, fun j u' hu => (World.cell?_setCell_other w p (ad.add j) u (fun e => hne ad ea (by rw [e, block_of_add]))).trans (hc j u' hu)⟩
end Go.Proofs.Ytkfdkkhhkciocaa
/- A world that is another one but for new blocks and some others. -/
namespace Go.Proofs.Ytkfdkkhhkciocaa
set_option linter.unusedVariables false
set_option linter.unusedSimpArgs false
open Go.RowKit
/-- w' is w but for new blocks and the blocks of S -/
structure Upd (S : Nat → Prop) (w w' : World) : Prop where
  os : w'.os = w.os
  tape : w'.tape = w.tape
  output : w'.output = w.output
  size : w.heap.size ≤ w'.heap.size
  block : ∀ b, b < w.heap.size → ¬ S b → w'.heap[b]? = w.heap[b]?
theorem Upd.refl (S : Nat → Prop) (w : World) : Upd S w w := ⟨rfl, rfl, rfl, Nat.le_refl _, fun _ _ _ => rfl⟩
theorem Upd.trans {S S' : Nat → Prop} {a b c : World} (h : Upd S a b) (k : Upd S' b c) (hS : ∀ x, S' x → S x ∨ a.heap.size ≤ x) : Upd S a c :=
  ⟨k.os.trans h.os, k.tape.trans h.tape, k.output.trans h.output, Nat.le_trans h.size k.size, fun x hx hn => by
    have h1 := h.size
    rw [k.block x (by omega) (fun h2 => (hS x h2).elim hn (by omega)), h.block x hx hn]⟩
theorem Upd.of_ext {S : Nat → Prop} {a b : World} (h : Ext a b) : Upd S a b := ⟨h.os, h.tape, h.output, h.size, fun x hx _ => h.block x hx⟩
theorem Upd.below {S : Nat → Prop} {a b : World} {B : Nat} (h : Upd S a b) (hS : ∀ x, S x → B ≤ x) (hB : B ≤ a.heap.size) : Below B a b :=
  ⟨h.os, h.tape, h.output, h.size, fun x hx => h.block x (by omega) (fun h2 => by have := hS x h2; omega)⟩
theorem Upd.setCell {S : Nat → Prop} {a b : World} (h : Upd S a b) {p : Addr} (hp : S p.block) (u : Value) : Upd S a (b.setCell p u) :=
  ⟨h.os, h.tape, h.output, by simpa [World.setCell] using h.size, fun x hx hn => (Below.heap_setCell b p u x (fun e => hn (e ▸ hp))).trans (h.block x hx hn)⟩
theorem Upd.drew {S : Nat → Prop} {a b : World} (h : Upd S a b) : Upd S a b.drew := ⟨h.os, h.tape, h.output, h.size, h.block⟩
theorem Upd.grown {S : Nat → Prop} {a w w' : World} (h : Upd S a w) {row : Option Nat} (hg : w.grownBy w' row) (hr : ∀ b, row = some b → S b ∨ a.heap.size ≤ b) : Upd S a w' :=
  ⟨hg.os.trans h.os, hg.tape.trans h.tape, hg.output.trans h.output, Nat.le_trans h.size hg.size, fun x hx hn => by
    have h1 := h.size
    rw [hg.block x (by omega) (fun h2 => (hr x h2.symm).elim hn (by omega)), h.block x hx hn]⟩
theorem SL.upd {S : Nat → Prop} {w w' : World} {size n c : Nat} {A : Option Addr} {xs : List Value} (h : SL w size (.slice A n c) n xs) (hu : Upd S w w') (hS : ∀ ad, A = some ad → ¬ S ad.block) : SL w' size (.slice A n c) n xs := by
  obtain ⟨A', c', e, h1, h1', h2, h3⟩ := h
  injection e with e1 e2 e3
  subst e1 e3
  refine ⟨A, c, rfl, h1, h1', h2, fun hn => ?_⟩
  obtain ⟨ad, ea, hlt, hc⟩ := h3 hn
  refine ⟨ad, ea, Nat.lt_of_lt_of_le hlt hu.size, fun j u hj => ?_⟩
  rw [← hc j u hj]
  unfold World.cell?
  rw [block_of_add, hu.block _ hlt (hS ad ea)]
theorem Upd.blk {S : Nat → Prop} {w w' : World} {g : Nat} {T : TypeId} {cs : Array Value} (hu : Upd S w w') (h : Blk w g T cs) (hS : ¬ S g) : Blk w' g T cs := (hu.block g h.lt hS).trans h
theorem Upd.ext {S : Nat → Prop} {a w w' : World} (hu : Upd S w w') (h : Ext a w) (hS : ∀ x, S x → a.heap.size ≤ x) : Ext a w' :=
  ⟨hu.os.trans h.os, hu.tape.trans h.tape, hu.output.trans h.output, Nat.le_trans h.size hu.size, fun x hx => by
    have := h.size
    rw [hu.block x (by omega) (fun h2 => by have := hS x h2; omega), h.block x hx]⟩
theorem SL.below {w w' : World} {size n B : Nat} {v : Value} {xs : List Value} (h : SL w size v n xs) (hb : Below B w w') (hB : w.heap.size ≤ B) : SL w' size v n xs := by
  obtain ⟨A, c, rfl, h1, h1', h2, h3⟩ := h
  refine ⟨A, c, rfl, h1, h1', h2, fun hn => ?_⟩
  obtain ⟨ad, e, hlt, hc⟩ := h3 hn
  exact ⟨ad, e, Nat.lt_of_lt_of_le hlt hb.size, fun j u hu => (hb.cell (by rw [block_of_add]; omega)).trans (hc j u hu)⟩
end Go.Proofs.Ytkfdkkhhkciocaa
/- Loads of bytes and of slices of bytes. -/
namespace Go.Proofs.Ytkfdkkhhkciocaa
set_option linter.unusedVariables false
set_option linter.unusedSimpArgs false
open Go.RowKit
section
variable {o : Oper} {a : Act}
theorem run_loadSl (W : World) (p : Addr) (A : Option Addr) (n c : Nat) (h : W.cell? p = some (.slice A n c)) : (Instr.loadAt 38 (.pointer (some p))).run Try.prog W = .ok (.slice A n c) W := by
  go_simp
theorem run_loadU (W : World) (p : Addr) (z : Int) (h : W.cell? p = some (.int .u8 z)) : (Instr.loadAt 5 (.pointer (some p))).run Try.prog W = .ok (.int .u8 z) W := by
  go_simp
theorem ex_loadS {x : Operand} (ho : o.op = .load 38 x) {p : Addr} (hx : a.eval x = .pointer (some p)) {A : Option Addr} {n c : Nat} {w : World} (h : w.cell? p = some (.slice A n c)) : (execOp a.eval o).run Try.prog w = .ok (.value (.slice A n c)) w := by
  simp [execOp, ho, hx, run_loadSl w p A n c h]
theorem ex_loadU {x : Operand} (ho : o.op = .load 5 x) {p : Addr} (hx : a.eval x = .pointer (some p)) {z : Int} {w : World} (h : w.cell? p = some (.int .u8 z)) : (execOp a.eval o).run Try.prog w = .ok (.value (.int .u8 z)) w := by
  simp [execOp, ho, hx, run_loadU w p z h]
theorem run_conv8 (y : Nat) (h : y < 256) (W : World) : (convert 5 3 (.int .u8 (y : Int))).run Try.prog W = .ok (.int .i64 (y : Int)) W := by
  have e : IntKind.i64.wrap (y : Int) = (y : Int) := IntWalk.i64_in _ (by omega)
  go_simp
theorem ex_conv {P : Program} {x : Operand} {t u : TypeId} (ho : o.op = .convert t u x) {v v' : Value} (hx : a.eval x = v) (hr : ∀ w, (convert t u v).run P w = .ok v' w) (w : World) : (execOp a.eval o).run P w = .ok (.value v') w := by
  simp [execOp, ho, hx, hr]
end
theorem SL.upd0 {S : Nat → Prop} {w w' : World} {size n c : Nat} {A : Option Addr} {xs : List Value} (h : SL w size (.slice A n c) n xs) (hu : Upd S w w') (hS : 0 < n → ∀ ad, A = some ad → ¬ S ad.block) : SL w' size (.slice A n c) n xs := by
  by_cases h0 : 0 < n
  · exact h.upd hu (hS h0)
  · obtain ⟨A', c', e1, h1, h2, h3, h4⟩ := h
    exact ⟨A', c', e1, h1, h2, h3, fun hn => absurd hn h0⟩
theorem own_upd {S : Nat → Prop} {w w' : World} {base : Nat} {e : TypeId} {size n : Nat} {v : Value} {xs : List Value} (h : w.ownsRow base e size v n xs) (hu : Upd S w w') (hS : ∀ x, S x → x < base) : w'.ownsRow base e size v n xs := by
  obtain ⟨hl, hh⟩ := h
  refine ⟨hl, ?_⟩
  rcases hh with ⟨rfl, rfl⟩ | ⟨g, cap, cur, rfl, h1, hg, h2⟩
  · exact .inl ⟨rfl, rfl⟩
  · exact .inr ⟨g, cap, cur, rfl, h1, (hu.block g (Blk.lt (w := w) (t := e) (cs := cur) hg) (fun hx => by have := hS g hx; omega)).trans hg, h2⟩
end Go.Proofs.Ytkfdkkhhkciocaa
