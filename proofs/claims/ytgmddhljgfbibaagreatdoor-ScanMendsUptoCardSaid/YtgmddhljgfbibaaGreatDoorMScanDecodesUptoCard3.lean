/- Contracts for the law ScanDecodesUptoCard, part 3: what the functions that it reaches answer, for all arguments that the theorems name. -/
import Derived.Test.YtgmddhljgfbibaaGreatDoorMScanDecodesUptoCard1
import Derived.Test.YtgmddhljgfbibaaGreatDoorMScanDecodesUptoCard2
import Derived.WalkKit
import Derived.ProofKit
import Derived.OpenShut
import Derived.Deep.MidRow
/- Runs of single operations as facts (ex_..): for drawn regions (lx_run, lx_read) and for others (wl_run). -/
namespace Go.Proofs.YtgmddhljgfbibaaGreatDoor
set_option linter.unusedVariables false
set_option linter.unusedSimpArgs false
open Go.RowKit
section
variable {o : Oper} {a : Act}
theorem ex_move {P : Program} {x : Operand} (ho : o.op = .move x) {v : Value} (hx : a.eval x = v) (w : World) : (execOp a.eval o).run P w = .ok (.value v) w := by simp [execOp, ho, hx]
theorem ex_assign {P : Program} {x : Operand} (ho : o.op = .assign x) {v : Value} (hx : a.eval x = v) (w : World) : (execOp a.eval o).run P w = .ok (.value v) w := by simp [execOp, ho, hx]
theorem ex_bin {op : BinOp} {x y : Operand} {t2 : TypeId} (ho : o.op = .binOp op 3 x y t2) {m n : Int} (hx : a.eval x = .int .i64 m) (hy : a.eval y = .int .i64 n) {v : Value}
    (hr : ∀ w, (binOp op 3 (.int .i64 m) (.int .i64 n)).run Tryz.prog w = .ok v w) (w : World) : (execOp a.eval o).run Tryz.prog w = .ok (.value v) w := by
  simp [execOp, ho, hx, hy, guardN, hr]
theorem ex_addN {x y : Operand} {t2 : TypeId} (ho : o.op = .binOp .add 3 x y t2) {i d : Nat} (hx : a.eval x = .int .i64 (i : Int)) (hy : a.eval y = .int .i64 (d : Int)) (h : i + d < 1000000000000) (w : World) :
    (execOp a.eval o).run Tryz.prog w = .ok (.value (.int .i64 ((i + d : Nat) : Int))) w := ex_bin ho hx hy (run_addN i d h) w
theorem ex_subN {x y : Operand} {t2 : TypeId} (ho : o.op = .binOp .sub 3 x y t2) {i d : Nat} (hx : a.eval x = .int .i64 (i : Int)) (hy : a.eval y = .int .i64 (d : Int)) (h : i < 1000000000000) (h2 : d ≤ i) (w : World) :
    (execOp a.eval o).run Tryz.prog w = .ok (.value (.int .i64 ((i - d : Nat) : Int))) w := ex_bin ho hx hy (run_subN i d h h2) w
theorem ex_mulN {x y : Operand} {t2 : TypeId} (ho : o.op = .binOp .mul 3 x y t2) {i d : Nat} (hx : a.eval x = .int .i64 (i : Int)) (hy : a.eval y = .int .i64 (d : Int)) (h : i * d < 1000000000000) (w : World) :
    (execOp a.eval o).run Tryz.prog w = .ok (.value (.int .i64 ((i * d : Nat) : Int))) w := ex_bin ho hx hy (run_mulN i d _ rfl h) w
theorem ex_quoN {x y : Operand} {t2 : TypeId} (ho : o.op = .binOp .quo 3 x y t2) {i d : Nat} (hx : a.eval x = .int .i64 (i : Int)) (hy : a.eval y = .int .i64 (d : Int)) (h : i < 1000000000000) (h2 : 0 < d) (w : World) :
    (execOp a.eval o).run Tryz.prog w = .ok (.value (.int .i64 ((i / d : Nat) : Int))) w := ex_bin ho hx hy (run_quoN i d h h2) w
theorem ex_remN {x y : Operand} {t2 : TypeId} (ho : o.op = .binOp .rem 3 x y t2) {i d : Nat} (hx : a.eval x = .int .i64 (i : Int)) (hy : a.eval y = .int .i64 (d : Int)) (h : i < 1000000000000) (h2 : 0 < d) (w : World) :
    (execOp a.eval o).run Tryz.prog w = .ok (.value (.int .i64 ((i % d : Nat) : Int))) w := ex_bin ho hx hy (run_remN i d h h2) w
theorem ex_addI {x y : Operand} {t2 : TypeId} (ho : o.op = .binOp .add 3 x y t2) {i d : Int} (hx : a.eval x = .int .i64 i) (hy : a.eval y = .int .i64 d) (h : -9223372036854775808 ≤ i + d ∧ i + d ≤ 9223372036854775807) (w : World) :
    (execOp a.eval o).run Tryz.prog w = .ok (.value (.int .i64 (i + d))) w := ex_bin ho hx hy (run_addI i d _ (IntWalk.i64_in _ h)) w
theorem run_subI (x y z : Int) (h : IntKind.i64.wrap (x - y) = z) (W : World) : (binOp .sub 3 (.int .i64 x) (.int .i64 y)).run Tryz.prog W = .ok (.int .i64 z) W := by
  subst h; go_simp
theorem ex_subI {x y : Operand} {t2 : TypeId} (ho : o.op = .binOp .sub 3 x y t2) {i d : Int} (hx : a.eval x = .int .i64 i) (hy : a.eval y = .int .i64 d) (h : -9223372036854775808 ≤ i - d ∧ i - d ≤ 9223372036854775807) (w : World) :
    (execOp a.eval o).run Tryz.prog w = .ok (.value (.int .i64 (i - d))) w := ex_bin ho hx hy (run_subI i d _ (IntWalk.i64_in _ h)) w
theorem ex_mulI {x y : Operand} {t2 : TypeId} (ho : o.op = .binOp .mul 3 x y t2) {i d : Int} (hx : a.eval x = .int .i64 i) (hy : a.eval y = .int .i64 d) (h : -9223372036854775808 ≤ i * d ∧ i * d ≤ 9223372036854775807) (w : World) :
    (execOp a.eval o).run Tryz.prog w = .ok (.value (.int .i64 (i * d))) w := ex_bin ho hx hy (run_mulI i d _ (IntWalk.i64_in _ h)) w
theorem ex_minN {x y : Operand} {ats : Array TypeId} (ho : o.op = .call { callee := .builtin .min, args := #[x, y], argTypes := ats }) {i d : Nat} (hx : a.eval x = .int .i64 (i : Int)) (hy : a.eval y = .int .i64 (d : Int)) (w : World) :
    (execOp a.eval o).run Tryz.prog w = .ok (.value (.int .i64 ((min i d : Nat) : Int))) w := by
  simp [execOp, ho, hx, hy, resolve, invoke, builtin, Builtin.min_, Builtin.min2]
  split <;> omega
theorem ex_maxI {x y : Operand} {ats : Array TypeId} (ho : o.op = .call { callee := .builtin .max, args := #[x, y], argTypes := ats }) {i d : Int} (hx : a.eval x = .int .i64 i) (hy : a.eval y = .int .i64 d) (w : World) :
    (execOp a.eval o).run Tryz.prog w = .ok (.value (.int .i64 (max i d))) w := by
  have e : (if i < d then d else i) = max i d := by split <;> omega
  simp [execOp, ho, hx, hy, resolve, invoke, builtin, Builtin.max_, Builtin.max2, e]
theorem ex_minI {x y : Operand} {ats : Array TypeId} (ho : o.op = .call { callee := .builtin .min, args := #[x, y], argTypes := ats }) {i d : Int} (hx : a.eval x = .int .i64 i) (hy : a.eval y = .int .i64 d) (w : World) :
    (execOp a.eval o).run Tryz.prog w = .ok (.value (.int .i64 (min i d))) w := by
  have e : (if d < i then d else i) = min i d := by split <;> omega
  simp [execOp, ho, hx, hy, resolve, invoke, builtin, Builtin.min_, Builtin.min2, e]
theorem ex_extract {P : Program} {x : Operand} {n : Nat} (ho : o.op = .extract x n) {vs : Array Value} (hx : a.eval x = .tuple vs) {v : Value} (hv : vs[n]? = some v) (w : World) : (execOp a.eval o).run P w = .ok (.value v) w := by
  simp [execOp, ho, hx, Instr.extract, hv]
theorem guardG (op : BinOp) (t : TypeId) (x y : Operand) (k k' : IntKind) (v w : Int) {P : Program} (W : World) : (eqGuard op t x y (.int k v) (.int k' w)).run P W = .ok () W := by
  cases op <;> simp [eqGuard]
theorem ex_cmp {P : Program} {op : BinOp} {t : TypeId} {x y : Operand} {t2 : TypeId} (ho : o.op = .binOp op t x y t2) {m n : Int} (hx : a.eval x = .int .i64 m) (hy : a.eval y = .int .i64 n) {b : Bool}
    (hr : ∀ w, (binOp op t (.int .i64 m) (.int .i64 n)).run P w = .ok (.bool b) w) (w : World) : (execOp a.eval o).run P w = .ok (.value (.bool b)) w := by
  simp [execOp, ho, hx, hy, guardG, hr]
theorem ex_lss {P : Program} {t : TypeId} {x y : Operand} {t2 : TypeId} (ho : o.op = .binOp .lss t x y t2) {m n : Int} (hx : a.eval x = .int .i64 m) (hy : a.eval y = .int .i64 n) {b : Bool} (h : decide (m < n) = b) (w : World) :
    (execOp a.eval o).run P w = .ok (.value (.bool b)) w := ex_cmp ho hx hy (fun w => by subst h; simp [binOp, Op.intCmp]) w
theorem ex_gtr {P : Program} {t : TypeId} {x y : Operand} {t2 : TypeId} (ho : o.op = .binOp .gtr t x y t2) {m n : Int} (hx : a.eval x = .int .i64 m) (hy : a.eval y = .int .i64 n) {b : Bool} (h : decide (n < m) = b) (w : World) :
    (execOp a.eval o).run P w = .ok (.value (.bool b)) w := ex_cmp ho hx hy (fun w => by subst h; simp [binOp, Op.intCmp]) w
theorem ex_leq {P : Program} {t : TypeId} {x y : Operand} {t2 : TypeId} (ho : o.op = .binOp .leq t x y t2) {m n : Int} (hx : a.eval x = .int .i64 m) (hy : a.eval y = .int .i64 n) {b : Bool} (h : decide (m ≤ n) = b) (w : World) :
    (execOp a.eval o).run P w = .ok (.value (.bool b)) w := ex_cmp ho hx hy (fun w => by subst h; simp [binOp, Op.intCmp]) w
theorem ex_geq {P : Program} {t : TypeId} {x y : Operand} {t2 : TypeId} (ho : o.op = .binOp .geq t x y t2) {m n : Int} (hx : a.eval x = .int .i64 m) (hy : a.eval y = .int .i64 n) {b : Bool} (h : decide (n ≤ m) = b) (w : World) :
    (execOp a.eval o).run P w = .ok (.value (.bool b)) w := ex_cmp ho hx hy (fun w => by subst h; simp [binOp, Op.intCmp]) w
theorem ex_eql {P : Program} {t : TypeId} {x y : Operand} {t2 : TypeId} (ho : o.op = .binOp .eql t x y t2) {m n : Int} (hx : a.eval x = .int .i64 m) (hy : a.eval y = .int .i64 n) {b : Bool} (h : decide (m = n) = b) (w : World) :
    (execOp a.eval o).run P w = .ok (.value (.bool b)) w := ex_cmp ho hx hy (fun w => by subst h; by_cases e : m = n <;> simp [binOp, Op.intCmp, e]) w
theorem ex_neq {P : Program} {t : TypeId} {x y : Operand} {t2 : TypeId} (ho : o.op = .binOp .neq t x y t2) {m n : Int} (hx : a.eval x = .int .i64 m) (hy : a.eval y = .int .i64 n) {b : Bool} (h : decide (m ≠ n) = b) (w : World) :
    (execOp a.eval o).run P w = .ok (.value (.bool b)) w := ex_cmp ho hx hy (fun w => by subst h; by_cases e : m = n <;> simp [binOp, Op.intCmp, e]) w
theorem ex_not {P : Program} {t : TypeId} {x : Operand} (ho : o.op = .unOp .not t x) {b : Bool} (hx : a.eval x = .bool b) (w : World) : (execOp a.eval o).run P w = .ok (.value (.bool (!b))) w := by
  simp [execOp, ho, hx, Op.unary]
theorem ex_pick {P : Program} {c x y : Operand} (ho : o.op = .pick c x y) {b : Bool} (hb : a.eval c = .bool b) {v : Value} (hv : (if b then a.eval x else a.eval y) = v) (w : World) : (execOp a.eval o).run P w = .ok (.value v) w := by
  subst hv; simp [execOp, ho, hb, asBool]
theorem ex_build0 {P : Program} {t : TypeId} (ho : o.op = .build t #[]) {cs : Array Value} (hf : P.built t [] = some cs) (w : World) : (execOp a.eval o).run P w = .ok (.value (.agg cs)) w := by
  simp only [execOp, ho, Sem.run_bind, run_build w t (#[].map fun (i, x) => (i, a.eval x)) cs (by simpa using hf), Result.andThen_ok, Sem.run_pure]
theorem sizeOf_of {P : Program} {e : TypeId} {sz : Nat} (hs : (P.info? e).map (·.size) = some sz) (w : World) : (sizeOf e).run P w = .ok sz w := by
  cases hq : P.info? e with
  | none => simp [hq] at hs
  | some i => have hz : i.size = sz := by simpa [hq] using hs
              simp [sizeOf, typeInfo, hq, hz]
theorem ex_ixSl {P : Program} {t e : TypeId} {sz : Nat} (ht : P.underlying t = some (.slice e)) (hs : (P.info? e).map (·.size) = some sz) {x ix : Operand} (ho : o.op = .indexAddr t x ix) {ad : Addr} {n c i : Nat} {k : IntKind} (hx : a.eval x = .slice (some ad) n c) (hi : a.eval ix = .int k (i : Int)) (h : i < n) (w : World) :
    (execOp a.eval o).run P w = .ok (.value (.pointer (some (ad.add (i * sz))))) w := by
  have hc : ((0 : Int) ≤ (i : Int) ∧ (i : Int) < (n : Int)) = True := by simp; omega
  simp only [execOp, ho, hx, hi, Instr.indexAt, Sem.run_bind, run_underlying ht, Result.andThen_ok, asIntOf, Sem.run_pure, hc, if_true, sizeOf_of hs, Int.toNat_natCast]
theorem ex_ixArr {P : Program} {t e : TypeId} {sz m : Nat} (ht : P.underlying t = some (.array m e)) (hs : (P.info? e).map (·.size) = some sz) {x ix : Operand} (ho : o.op = .indexAddr t x ix) {ad : Addr} {i : Nat} {k : IntKind} (hx : a.eval x = .pointer (some ad)) (hi : a.eval ix = .int k (i : Int)) (h : i < m) (w : World) :
    (execOp a.eval o).run P w = .ok (.value (.pointer (some (ad.add (i * sz))))) w := by
  have hc : ((0 : Int) ≤ (i : Int) ∧ (i : Int) < (m : Int)) = True := by simp; omega
  simp only [execOp, ho, hx, hi, Instr.indexAt, Instr.sureAddr, Sem.run_bind, run_underlying ht, Result.andThen_ok, asIntOf, Sem.run_pure, hc, if_true, sizeOf_of hs, Int.toNat_natCast]
theorem addr_add (g m n : Nat) : (⟨g, m, none⟩ : Addr).add n = ⟨g, m + n, none⟩ := by
  unfold Addr.add
  by_cases hn : n = 0
  · subst hn; rfl
  · rw [if_neg hn]
theorem ex_ixSlG {P : Program} {t e : TypeId} {sz : Nat} (ht : P.underlying t = some (.slice e)) (hs : (P.info? e).map (·.size) = some sz) {x ix : Operand} (ho : o.op = .indexAddr t x ix) {g m n c i : Nat} {k : IntKind} (hx : a.eval x = .slice (some ⟨g, m, none⟩) n c) (hi : a.eval ix = .int k (i : Int)) (h : i < n) (w : World) :
    (execOp a.eval o).run P w = .ok (.value (.pointer (some ⟨g, m + i * sz, none⟩))) w := by
  rw [← addr_add]; exact ex_ixSl ht hs ho hx hi h w
theorem ex_ixArrG {P : Program} {t e : TypeId} {sz m : Nat} (ht : P.underlying t = some (.array m e)) (hs : (P.info? e).map (·.size) = some sz) {x ix : Operand} (ho : o.op = .indexAddr t x ix) {g b i : Nat} {k : IntKind} (hx : a.eval x = .pointer (some ⟨g, b, none⟩)) (hi : a.eval ix = .int k (i : Int)) (h : i < m) (w : World) :
    (execOp a.eval o).run P w = .ok (.value (.pointer (some ⟨g, b + i * sz, none⟩))) w := by
  rw [← addr_add]; exact ex_ixArr ht hs ho hx hi h w
theorem ex_ixSl1 {P : Program} {t e : TypeId} (ht : P.underlying t = some (.slice e)) (hs : (P.info? e).map (·.size) = some 1) {x ix : Operand} (ho : o.op = .indexAddr t x ix) {g m n c i : Nat} {k : IntKind} (hx : a.eval x = .slice (some ⟨g, m, none⟩) n c) (hi : a.eval ix = .int k (i : Int)) (h : i < n) (w : World) :
    (execOp a.eval o).run P w = .ok (.value (.pointer (some ⟨g, m + i, none⟩))) w := by
  have := ex_ixSlG ht hs ho hx hi h w
  rwa [Nat.mul_one] at this
theorem ex_ixSl0 {P : Program} {t e : TypeId} (ht : P.underlying t = some (.slice e)) (hs : (P.info? e).map (·.size) = some 1) {x ix : Operand} (ho : o.op = .indexAddr t x ix) {g n c i : Nat} {k : IntKind} (hx : a.eval x = .slice (some ⟨g, 0, none⟩) n c) (hi : a.eval ix = .int k (i : Int)) (h : i < n) (w : World) :
    (execOp a.eval o).run P w = .ok (.value (.pointer (some ⟨g, i, none⟩))) w := by
  have := ex_ixSl1 ht hs ho hx hi h w
  rwa [Nat.zero_add] at this
theorem ex_ixArr1 {P : Program} {t e : TypeId} {m : Nat} (ht : P.underlying t = some (.array m e)) (hs : (P.info? e).map (·.size) = some 1) {x ix : Operand} (ho : o.op = .indexAddr t x ix) {g b i : Nat} {k : IntKind} (hx : a.eval x = .pointer (some ⟨g, b, none⟩)) (hi : a.eval ix = .int k (i : Int)) (h : i < m) (w : World) :
    (execOp a.eval o).run P w = .ok (.value (.pointer (some ⟨g, b + i, none⟩))) w := by
  have := ex_ixArrG ht hs ho hx hi h w
  rwa [Nat.mul_one] at this
theorem ex_ixArr0 {P : Program} {t e : TypeId} {m : Nat} (ht : P.underlying t = some (.array m e)) (hs : (P.info? e).map (·.size) = some 1) {x ix : Operand} (ho : o.op = .indexAddr t x ix) {g i : Nat} {k : IntKind} (hx : a.eval x = .pointer (some ⟨g, 0, none⟩)) (hi : a.eval ix = .int k (i : Int)) (h : i < m) (w : World) :
    (execOp a.eval o).run P w = .ok (.value (.pointer (some ⟨g, i, none⟩))) w := by
  have := ex_ixArr1 ht hs ho hx hi h w
  rwa [Nat.zero_add] at this
theorem ex_loadI {x : Operand} (ho : o.op = .load 3 x) {p : Addr} (hx : a.eval x = .pointer (some p)) {z : Int} {w : World} (h : w.cell? p = some (.int .i64 z)) : (execOp a.eval o).run Tryz.prog w = .ok (.value (.int .i64 z)) w := by
  simp [execOp, ho, hx, run_loadI w p z h]
end
theorem sizeI : (Tryz.prog.info? 3).map (·.size) = some 1 := by kernel_rfl
section
variable {P : Program} {ops : Array Oper} {Q : Exit → Act → World → Prop} {rest : List Oper} {o : Oper} {a : Act} {w : World}
theorem wl_run (hg : o.guard = none) (v : Value) (h1 : ∀ w, (execOp a.eval o).run P w = .ok (.value v) w) (h : wpList P ops Q rest (a.put o.dst v) w) : wpList P ops Q (o :: rest) a w :=
  wpList_plain hg fun _ hK => by unfold Oper.wp; rw [h1]; exact hK _ _ h
theorem wl_run_g (hw : Region.wanted o (yielded ops a.tmps) = true) (v : Value) (h1 : ∀ w, (execOp a.eval o).run P w = .ok (.value v) w) (h : wpList P ops Q rest (a.put o.dst v) w) : wpList P ops Q (o :: rest) a w :=
  wpList_wanted hw fun _ hK => by unfold Oper.wp; rw [h1]; exact hK _ _ h
theorem wl_read_g (hw : Region.wanted o (yielded ops a.tmps) = true) (v : Value) (h1 : (execOp a.eval o).run P w = .ok (.value v) w) (h : wpList P ops Q rest (a.put o.dst v) w) : wpList P ops Q (o :: rest) a w :=
  wpList_wanted hw fun _ hK => by unfold Oper.wp; rw [h1]; exact hK _ _ h
theorem wl_skip (hw : Region.wanted o (yielded ops a.tmps) = false) (h : wpList P ops Q rest (a.put o.dst undef) w) : wpList P ops Q (o :: rest) a w :=
  wpList_step fun K hK => by rw [if_neg (by rw [hw]; simp)]; exact hK _ _ h
theorem wl_read (hg : o.guard = none) (v : Value) (h1 : (execOp a.eval o).run P w = .ok (.value v) w) (h : wpList P ops Q rest (a.put o.dst v) w) : wpList P ops Q (o :: rest) a w :=
  wpList_plain hg fun _ hK => by unfold Oper.wp; rw [h1]; exact hK _ _ h
end
theorem wl_storeI {ops : Array Oper} {Q : Exit → Act → World → Prop} {rest : List Oper} {o : Oper} {a : Act} {w : World} (hg : o.guard = none) (x y : Operand) (ho : o.op = .store 3 x y) (g i : Nat) (z : Int) (hx : a.eval x = .pointer (some ⟨g, i, none⟩)) (hy : a.eval y = .int .i64 z)
    {t : TypeId} {cs : Array Value} (hB : Blk w g t cs) (hi : i < cs.size) (h : wpList Tryz.prog ops Q rest (a.put o.dst undef) (w.setCell ⟨g, i, none⟩ (.int .i64 z))) : wpList Tryz.prog ops Q (o :: rest) a w :=
  wpList_plain hg fun _ hK => wp_storeI x y ho ⟨g, i, none⟩ z hx hy _ ((hB.cell i).trans (Array.getElem?_eq_getElem hi)) (hB.frozen i) (hK _ _ h)
end Go.Proofs.YtgmddhljgfbibaaGreatDoor
/- Binary digits, numbers and bytes: plain. -/
namespace Go.Proofs.YtgmddhljgfbibaaGreatDoor
set_option linter.unusedVariables false
set_option linter.unusedSimpArgs false
/-- the last k binary digits of n, the highest first -/
def digs (n : Nat) : Nat → List Bool
  | 0 => []
  | k + 1 => (n / 2 ^ k % 2 == 1) :: digs n k
/-- the number that digits tell -/
def numB : List Bool → Nat
  | [] => 0
  | b :: l => b.toNat * 2 ^ l.length + numB l
theorem digs_len (n k : Nat) : (digs n k).length = k := by
  induction k with
  | zero => rfl
  | succ k ih => simp [digs, ih]
theorem numB_lt (l : List Bool) : numB l < 2 ^ l.length := by
  induction l with
  | nil => simp [numB]
  | cons b l ih =>
    simp only [numB, List.length_cons, Nat.pow_succ]
    cases b <;> simp <;> omega
theorem numB_append (a b : List Bool) : numB (a ++ b) = numB a * 2 ^ b.length + numB b := by
  induction a with
  | nil => simp [numB]
  | cons x a ih =>
    simp only [List.cons_append, numB, List.length_append, ih, Nat.pow_add, Nat.add_mul, Nat.mul_assoc]
    omega
theorem numB_digs (n k : Nat) : numB (digs n k) = n % 2 ^ k := by
  induction k with
  | zero => simp [digs, numB, Nat.mod_one]
  | succ k ih =>
    simp only [digs, numB, digs_len, ih]
    have e : (n / 2 ^ k % 2 == 1).toNat = n / 2 ^ k % 2 := by
      rcases (show n / 2 ^ k % 2 = 0 ∨ n / 2 ^ k % 2 = 1 by omega) with h | h <;> simp [h]
    rw [e, Nat.pow_succ, Nat.mod_mul, Nat.mul_comm]
    omega
theorem numB_digs_lt {n k : Nat} (h : n < 2 ^ k) : numB (digs n k) = n := by rw [numB_digs, Nat.mod_eq_of_lt h]
theorem numB_inj {a b : List Bool} (hl : a.length = b.length) (h : numB a = numB b) : a = b := by
  induction a generalizing b with
  | nil => cases b with | nil => rfl | cons _ _ => simp at hl
  | cons x a ih =>
    cases b with
    | nil => simp at hl
    | cons y b =>
      have hl' : a.length = b.length := by simpa using hl
      simp only [numB, hl'] at h
      have h1 := numB_lt a
      have h2 := numB_lt b
      rw [hl'] at h1
      have hxy : x = y := by
        cases x <;> cases y <;> simp at h ⊢ <;> omega
      subst hxy
      rw [ih hl' (by omega)]
theorem digs_numB (l : List Bool) : digs (numB l) l.length = l := numB_inj (digs_len _ _) (numB_digs_lt (numB_lt l))
theorem digs_mod (n k m : Nat) (h : k ≤ m) : digs (n % 2 ^ m) k = digs n k := by
  apply numB_inj (by simp [digs_len])
  rw [numB_digs, numB_digs, Nat.mod_mod_of_dvd _ (Nat.pow_dvd_pow 2 h)]
theorem digs_add (x y j k : Nat) (hy : y < 2 ^ j) : digs (x * 2 ^ j + y) (k + j) = digs x k ++ digs y j := by
  apply numB_inj (by simp [digs_len])
  rw [numB_append, digs_len, numB_digs, numB_digs, numB_digs, Nat.mod_eq_of_lt hy, Nat.add_comm k j, Nat.pow_add]
  rw [Nat.mod_mul, Nat.mul_comm x, Nat.mul_add_mod, Nat.mod_eq_of_lt hy, Nat.mul_add_div (Nat.two_pow_pos j), Nat.div_eq_of_lt hy, Nat.add_zero, Nat.mul_comm (2 ^ j), Nat.add_comm]
theorem numB_drop (l : List Bool) (k : Nat) : numB (l.drop k) = numB l % 2 ^ (l.length - k) := by
  have h := numB_append (l.take k) (l.drop k)
  rw [List.take_append_drop] at h
  have h2 := numB_lt (l.drop k)
  rw [List.length_drop] at h h2
  rw [h, Nat.mul_comm, Nat.mul_add_mod, Nat.mod_eq_of_lt h2]
theorem numB_take (l : List Bool) (k : Nat) : numB (l.take k) = numB l / 2 ^ (l.length - k) := by
  have h := numB_append (l.take k) (l.drop k)
  rw [List.take_append_drop] at h
  have h2 := numB_lt (l.drop k)
  rw [List.length_drop] at h h2
  rw [h, Nat.mul_comm, Nat.mul_add_div (Nat.two_pow_pos _), Nat.div_eq_of_lt h2, Nat.add_zero]
/-- the k digits from i on, as a number -/
theorem numB_mid (l : List Bool) (i k : Nat) (h : i + k ≤ l.length) : numB ((l.drop i).take k) = numB l / 2 ^ (l.length - (i + k)) % 2 ^ k := by
  have e : (l.drop i).take k = (l.take (i + k)).drop i := by rw [List.drop_take]; congr 1; omega
  rw [e, numB_drop, numB_take l, List.length_take]
  congr 2
  omega
theorem numB_snoc (l : List Bool) (b : Bool) : numB (l ++ [b]) = 2 * numB l + b.toNat := by
  rw [numB_append]; simp [numB]; omega
/-- whole bytes of digits -/
def packB (l : List Bool) : List Nat := (List.range (l.length / 8)).map fun i => numB ((l.drop (8 * i)).take 8)
/-- the digits behind the whole bytes -/
def restB (l : List Bool) : List Bool := l.drop (8 * (l.length / 8))
theorem packB_len (l : List Bool) : (packB l).length = l.length / 8 := by simp [packB]
theorem restB_len (l : List Bool) : (restB l).length = l.length % 8 := by simp [restB]; omega
theorem packB_lt (l : List Bool) : ∀ x ∈ packB l, x < 256 := by
  intro x hx
  simp only [packB, List.mem_map, List.mem_range] at hx
  obtain ⟨i, hi, rfl⟩ := hx
  have h := numB_lt ((l.drop (8 * i)).take 8)
  have h2 : ((l.drop (8 * i)).take 8).length ≤ 8 := List.length_take_le _ _
  have := Nat.pow_le_pow_right (n := 2) (by omega) h2
  omega
theorem packB_append (l m : List Bool) : packB (l ++ m) = packB l ++ packB (restB l ++ m) := by
  have e : (l ++ m).length / 8 = l.length / 8 + (restB l ++ m).length / 8 := by
    rw [List.length_append, List.length_append, restB_len]; omega
  have key : (l ++ m).drop (8 * (l.length / 8)) = restB l ++ m := by
    rw [List.drop_append_of_le_length (by omega)]; rfl
  unfold packB
  rw [e, List.range_add, List.map_append, List.map_map]
  congr 1
  · apply List.map_congr_left
    intro i hi
    have := List.mem_range.1 hi
    rw [List.drop_append_of_le_length (by omega), List.take_append_of_le_length (by rw [List.length_drop]; omega)]
  · apply List.map_congr_left
    intro i _
    simp only [Function.comp]
    rw [Nat.mul_add, ← List.drop_drop, key]
theorem restB_append (l m : List Bool) : restB (l ++ m) = restB (restB l ++ m) := by
  have key : (l ++ m).drop (8 * (l.length / 8)) = restB l ++ m := by
    rw [List.drop_append_of_le_length (by omega)]; rfl
  rw [restB, restB, ← key, List.drop_drop]
  congr 1
  rw [List.length_drop]
  rw [List.length_append]
  omega
/-- filled up with ones to whole bytes -/
def padB (l : List Bool) : List Bool := l ++ List.replicate ((8 - l.length % 8) % 8) true
theorem padB_len (l : List Bool) : (padB l).length % 8 = 0 := by simp [padB]; omega
theorem numB_ones (k : Nat) : numB (List.replicate k true) = 2 ^ k - 1 := by
  induction k with
  | zero => rfl
  | succ k ih =>
    rw [List.replicate_succ, numB, ih, Nat.pow_succ]
    have := Nat.two_pow_pos k
    simp
    omega
theorem digs_ones (k : Nat) : digs (2 ^ k - 1) k = List.replicate k true := by
  apply numB_inj (by simp [digs_len])
  rw [numB_ones, numB_digs_lt (by have := Nat.two_pow_pos k; omega)]
/-- the digits of bytes -/
def digsOf (b : List Nat) : List Bool := b.flatMap fun x => digs x 8
theorem digsOf_len (b : List Nat) : (digsOf b).length = 8 * b.length := by
  induction b with
  | nil => rfl
  | cons x b ih => simp only [digsOf, List.flatMap_cons, List.length_append, digs_len, List.length_cons] at ih ⊢; omega
theorem digsOf_at (b : List Nat) (i : Nat) (h2 : i < b.length) : ((digsOf b).drop (8 * i)).take 8 = digs b[i] 8 := by
  induction b generalizing i with
  | nil => simp at h2
  | cons x b ih =>
    have e : digsOf (x :: b) = digs x 8 ++ digsOf b := rfl
    rw [e]
    cases i with
    | zero => simp [digs_len]
    | succ i =>
      rw [List.drop_append, List.drop_of_length_le (by rw [digs_len]; omega), digs_len, List.nil_append, show 8 * (i + 1) - 8 = 8 * i by omega]
      have h3 : i < b.length := by simpa using h2
      rw [ih i h3]
      simp
theorem packB_digsOf (b : List Nat) (h : ∀ x ∈ b, x < 256) : packB (digsOf b) = b := by
  have hl := digsOf_len b
  apply List.ext_getElem
  · rw [packB_len, hl]; omega
  · intro i h1 h2
    simp only [packB, List.getElem_map, List.getElem_range]
    rw [digsOf_at b i h2, numB_digs_lt (h _ (List.getElem_mem h2))]
theorem digsOf_append (a b : List Nat) : digsOf (a ++ b) = digsOf a ++ digsOf b := by simp [digsOf]
theorem digsOf_packB (l : List Bool) (h : l.length % 8 = 0) : digsOf (packB l) = l := by
  have key : ∀ k, k ≤ l.length / 8 → digsOf ((List.range k).map fun i => numB ((l.drop (8 * i)).take 8)) = l.take (8 * k) := by
    intro k
    induction k with
    | zero => intro _; simp [digsOf]
    | succ k ih =>
      intro hk
      rw [List.range_succ, List.map_append, digsOf_append, ih (by omega)]
      have e : (l.drop (8 * k)).take 8 = digs (numB ((l.drop (8 * k)).take 8)) 8 := by
        have h1 : ((l.drop (8 * k)).take 8).length = 8 := by simp; omega
        have h2 := digs_numB ((l.drop (8 * k)).take 8)
        rw [h1] at h2
        exact h2.symm
      simp only [List.map_cons, List.map_nil, digsOf, List.flatMap_cons, List.flatMap_nil, List.append_nil]
      rw [← e, show 8 * (k + 1) = 8 * k + 8 by omega, List.take_add]
  unfold packB
  rw [key _ (Nat.le_refl _), List.take_of_length_le (by omega)]
end Go.Proofs.YtgmddhljgfbibaaGreatDoor
/- binary of the reference. -/
namespace Go.Proofs.YtgmddhljgfbibaaGreatDoor
set_option linter.unusedVariables false
set_option linter.unusedSimpArgs false
open Go.RowKit
/-- the last k binary digits of n, as a string -/
def binS (n : Nat) : Nat → ByteArray
  | 0 => ⟨#[]⟩
  | k + 1 => Utf8.encode (48 + (((n / 2 ^ k) % 2 : Nat) : Int)) ++ binS n k
theorem digit_size (m : Nat) : (Utf8.encode (48 + ((m % 2 : Nat) : Int))).size = 1 := by
  rcases (show m % 2 = 0 ∨ m % 2 = 1 by omega) with h | h <;> rw [h] <;> decide
theorem binS_size (n k : Nat) : (binS n k).size = k := by
  induction k with
  | zero => rfl
  | succ k ih => unfold binS; rw [ByteArray.size_append, digit_size, ih]; omega
set_option maxHeartbeats 400000 in
theorem binary_any (width n : Nat) (w : World) (hw : width ≤ 1000) (hn : n ≤ 1000000000) :
    Calls Tryz.prog 59 #[.int .i64 (width : Int), .int .i64 (n : Int)] w fun e w' => e = .returned (.string (binS n width)) ∧ w = w' := by
  have HB := hid_ (binS_size n)
  have HN : Hid (∀ k, binS n (k + 1) = Utf8.encode (48 + (((n / 2 ^ k) % 2 : Nat) : Int)) ++ binS n k) := hid_ (fun k => rfl)
  go_enter Tryz.func59, Tryz.ntmps59
  go_wp2_with fail
  go_loop [1, 5, 7] (fun v s i => ∃ k m : Nat, k ≤ width ∧ m ≤ 1000000000 ∧ m = n / 2 ^ k ∧ i = .int .i64 (k : Int) ∧ v = .int .i64 (m : Int) ∧ s = .string (binS n k)) (fun _ _ i => width - (intOf i).toNat)
  case atStart => exact ⟨0, n, by omega, hn, by simp, rfl, rfl, rfl⟩
  case round =>
    obtain ⟨k, m, hk, hm, hmn, rfl, rfl, rfl⟩ := hrel
    have HM := hid_ hmn
    clear hmn
    by_cases hlt : k < width
    · have hd := digit_size m
      have hbs := HB.out k
      have HNK := hid_ (HN.out k)
      rw [← HM.out] at HNK
      have em : ((m % 2 : Nat) : Int) = (m : Int) % 2 := by omega
      rw [em] at hd HNK
      clear em
      generalize binS n k = b at *
      generalize hu : Utf8.encode (48 + (m : Int) % 2) = u at *
      have hlim : ¬ 9223372036854775807 < u.size + b.size := by omega
      go_wp2_with fail
      go_round
      case rel => exact ⟨k + 1, m / 2, by omega, by omega, by rw [HM.out, Nat.div_div_eq_div_mul, Nat.pow_succ], by go_num, by simp, by rw [HNK.out]⟩
      case measure => simp [intOf]; omega
    · obtain rfl : k = width := by omega
      go_wp2_with fail
      go_ret
      exact ⟨rfl, rfl⟩
end Go.Proofs.YtgmddhljgfbibaaGreatDoor
/- Strings of binary digits. -/
namespace Go.Proofs.YtgmddhljgfbibaaGreatDoor
set_option linter.unusedVariables false
set_option linter.unusedSimpArgs false
open Go.RowKit
def chB (b : Bool) : UInt8 := if b then 49 else 48
def strB (l : List Bool) : ByteArray := ⟨(l.map chB).toArray⟩
theorem strB_data (l : List Bool) : (strB l).data.toList = l.map chB := by simp [strB]
theorem strB_size (l : List Bool) : (strB l).size = l.length := by simp [strB, ByteArray.size]
theorem strB_append (a b : List Bool) : strB (a ++ b) = strB a ++ strB b := by
  apply ByteArray.ext
  simp [strB, ByteArray.data_append]
theorem chB_nat (b : Bool) : (chB b).toNat = 48 + b.toNat := by cases b <;> rfl
theorem strB_get (l : List Bool) (k : Nat) (h : k < (strB l).size) (h2 : k < l.length) : ((strB l)[k]'h).toNat = 48 + l[k].toNat := by
  rw [← chB_nat]
  simp [strB, ByteArray.getElem_eq_getElem_data]
theorem chB_inj {a b : Bool} (h : chB a = chB b) : a = b := by cases a <;> cases b <;> first | rfl | (exfalso; revert h; decide)
theorem strB_inj {a b : List Bool} (h : strB a = strB b) : a = b := by
  have := congrArg (fun x => x.data.toList) h
  simp only [strB_data] at this
  exact List.map_inj_right (fun _ _ => chB_inj) |>.1 this
theorem encode_digit (d : Nat) (h : d % 2 = d) : Utf8.encode (48 + (d : Int)) = strB [d == 1] := by
  rcases (show d = 0 ∨ d = 1 by omega) with rfl | rfl <;> rfl
theorem binS_strB (n k : Nat) : binS n k = strB (digs n k) := by
  induction k with
  | zero => rfl
  | succ k ih =>
    show Utf8.encode (48 + (((n / 2 ^ k) % 2 : Nat) : Int)) ++ binS n k = _
    rw [encode_digit _ (by omega), ih, ← strB_append]
    rfl
theorem strB_extract (l : List Bool) (i j : Nat) (hi : i ≤ j) : (strB l).extract i j = strB ((l.drop i).take (j - i)) := by
  apply ByteArray.ext
  apply Array.ext'
  simp [strB, ByteArray.data_extract, List.map_take, List.map_drop]
theorem numB_take_succ (l : List Bool) (k : Nat) (h : k < l.length) : numB (l.take (k + 1)) = 2 * numB (l.take k) + l[k].toNat := by
  rw [List.take_succ_eq_append_getElem h, numB_snoc]
theorem numB_le (l : List Bool) (n : Nat) (h : l.length ≤ n) : numB l < 2 ^ n := by
  have h1 := numB_lt l
  have := Nat.pow_le_pow_right (n := 2) (by omega) h
  omega
set_option maxHeartbeats 400000 in
theorem fromBin_any (l : List Bool) (w : World) (hl : l.length ≤ 60) :
    Calls Tryz.prog 37 #[.string (strB l)] w fun e w' => e = .returned (.int .i64 (numB l : Nat)) ∧ Ext w w' := by
  have hsz := strB_size l
  have HG := hid_ (strB_get l)
  have HT := hid_ (numB_take_succ l)
  have HB : Hid (∀ k, numB (l.take k) < 2 ^ 60) := hid_ (fun k => numB_le _ 60 (Nat.le_trans (List.length_take_le' _ _) hl))
  generalize strB l = s at *
  have hszs := hid_ hsz
  go_enter Tryz.func37, Tryz.ntmps37
  go_wp2_with fail
  clear hsz
  go_loopw [3] (fun n w' => ∃ pos : Nat, pos ≤ l.length ∧ w' = w.iter s pos ∧ n = .int .i64 (numB (l.take pos) : Nat)) (fun _ w' => s.size - w'.iterPos w.heap.size)
  case atStart => exact ⟨0, by omega, rfl, by simp [numB]⟩
  case round =>
    obtain ⟨pos, hpos, rfl, rfl⟩ := hrel
    by_cases hp : pos < l.length
    · have hp2 : pos < s.size := by have := hszs.out; omega
      have hd := HG.out pos hp2 hp
      have hb1 : l[pos].toNat ≤ 1 := by cases l[pos] <;> simp
      have ha : (s[pos]'hp2).toNat < 128 := by omega
      have hnx : ∀ ty, (Instr.next (.pointer (some ⟨w.heap.size, 0, none⟩)) true ty).run Tryz.prog (w.iter s pos) = _ := fun ty => run_next_ascii w s pos ty hp2 ha
      have HTP := hid_ (HT.out pos hp)
      have hlt := HB.out pos
      generalize l[pos].toNat = d at *
      rw [hd] at hnx
      clear hd ha
      generalize hN : numB (l.take pos) = N at *
      have hN2 : N < 1152921504606846976 := by simpa using hlt
      clear hlt hN
      go_wp2_with fail
      go_roundw
      case rel => exact ⟨pos + 1, by omega, rfl, by rw [HTP.out]; congr 1; omega⟩
      case measure =>
        have := hszs.out
        simp
        omega
    · have hp2 : ¬ pos < s.size := by have := hszs.out; omega
      have hnx : ∀ ty, (Instr.next (.pointer (some ⟨w.heap.size, 0, none⟩)) true ty).run Tryz.prog (w.iter s pos) = _ := fun ty => run_next_end w s pos ty hp2
      have HF : Hid (l.take pos = l) := hid_ (List.take_of_length_le (by omega))
      go_wp2_with fail
      go_ret
      exact ⟨by rw [HF.out]; rfl, (Ext.refl w).alloc _⟩
end Go.Proofs.YtgmddhljgfbibaaGreatDoor
/- A row of bytes, as values. -/
namespace Go.Proofs.YtgmddhljgfbibaaGreatDoor
set_option linter.unusedVariables false
set_option linter.unusedSimpArgs false
open Go.RowKit
def bytesV (l : List Nat) : List Value := l.map fun x : Nat => Value.int .u8 (x : Int)
theorem bytesV_len (l : List Nat) : (bytesV l).length = l.length := by simp [bytesV]
theorem bytesV_snoc (l : List Nat) (x : Nat) : bytesV (l ++ [x]) = bytesV l ++ [.int .u8 (x : Int)] := by simp [bytesV]
end Go.Proofs.YtgmddhljgfbibaaGreatDoor
/- Arguments opened: what their reading says of their cells. -/
namespace Go.Proofs.YtgmddhljgfbibaaGreatDoor
set_option linter.unusedVariables false
set_option linter.unusedSimpArgs false
open Go.RowKit Go.ChangeShapes Go.WideShapes Go.ChangeAt
def inI64 (z : Int) : Prop := -9223372036854775808 ≤ z ∧ z ≤ 9223372036854775807
theorem inI64_of_wf {z : Int} (h : (Lit.int .i64 z).wf = true) : inI64 z := by
  simp [Lit.wf, IntKind.min, IntKind.max, IntKind.signed, IntKind.bits] at h
  exact ⟨by omega, by omega⟩
theorem ints_of_cells {Q : Int → Prop} : ∀ (cs : List Value), (∀ i, i < cs.length → ∃ z, cs[i]? = some (.int .i64 z) ∧ Q z) → ∃ zs : List Int, cs = ints zs ∧ ∀ z ∈ zs, Q z
  | [], _ => ⟨[], rfl, by simp⟩
  | c :: cs, h => by
    obtain ⟨z, hz, hq⟩ := h 0 (by simp)
    obtain ⟨zs, rfl, hqs⟩ := ints_of_cells cs (fun i hi => by have := h (i + 1) (by simpa using hi); simpa using this)
    refine ⟨z :: zs, ?_, ?_⟩
    · simp at hz; subst hz; rfl
    · intro y hy
      cases hy with
      | head => exact hq
      | tail _ hy => exact hqs y hy
section
variable {H : Type} {enc : TypeId × Value → H} {P : Program} {w : World} {base : Nat} {spare : Nat → Bool} {held : Bool}
theorem trod_int_cell {t : TypeId} {fuel : Nat} {cs : List Value} {x : DataW H × List MemPlace} (ht : P.underlying t = some (.int .i64)) (h : DataW.trod enc P w base spare held fuel t cs = some x) :
    ∃ z, cs = [.int .i64 z] ∧ inI64 z := by
  obtain ⟨z, e, -, hw⟩ := DataW.trod_int ht h
  exact ⟨z, e, inI64_of_wf hw⟩
theorem trod_ints_arr {n : Nat} {t e : TypeId} {fuel : Nat} {cs : List Value} {x : DataW H × List MemPlace} (ht : P.underlying t = some (.array n e)) (he : P.underlying e = some (.int .i64)) (hce : P.cellsOf e = 1) (hct : P.cellsOf t = n)
    (h : DataW.trod enc P w base spare held fuel t cs = some x) : ∃ zs : List Int, zs.length = n ∧ cs = ints zs ∧ ∀ z ∈ zs, inI64 z := by
  obtain ⟨xs, m, -, -, hlen, hxl, hi⟩ := DataW.trod_array ht h
  rw [hct] at hlen
  have hcells : ∀ i, i < cs.length → ∃ z, cs[i]? = some (.int .i64 z) ∧ inI64 z := by
    intro i hlt
    have h1 := hi i (by omega)
    rw [hce, Nat.mul_one] at h1
    have hx : xs[i]? = some (xs[i]'(by omega)) := List.getElem?_eq_getElem (by omega)
    rw [hx] at h1
    obtain ⟨z, hz, hq⟩ := trod_int_cell he h1
    refine ⟨z, ?_, hq⟩
    rw [List.drop_eq_getElem_cons hlt] at hz
    simp only [List.take_succ_cons, List.take_zero, List.cons.injEq, and_true] at hz
    rw [List.getElem?_eq_getElem hlt, hz]
  obtain ⟨zs, rfl, hq⟩ := ints_of_cells cs hcells
  exact ⟨zs, by simpa [ints_len] using hlen, rfl, hq⟩
theorem okWide_array {P : Program} {w : World} {r : Reach} {base : Nat} {t e : TypeId} {n : Nat} {v : Value} (ht : P.underlying t = some (.array n e)) (h : Value.okWide P w r base t v) : ∃ cs, v = .agg cs ∧ cs.size = P.cellsOf t := by
  simp only [Value.okWide, ht] at h
  obtain ⟨cs, h1, h2, _⟩ := h
  exact ⟨cs, h1, h2⟩
theorem cells64 : Tryz.prog.cellsOf 37 = 64 := by kernel_rfl
theorem cellsInt : Tryz.prog.cellsOf 3 = 1 := by kernel_rfl
set_option maxRecDepth 8000 in
theorem open_block {w : World} {base b0 : Nat} {r : Reach} {v : Value} {d : DataW H} {p : List MemPlace} (hv : Value.okWide Tryz.prog w r b0 37 v) (h : DataW.Trod enc Tryz.prog w base spare held 37 v d p) :
    ∃ zs : List Int, v = .agg (ints zs).toArray ∧ zs.length = 64 ∧ ∀ z ∈ zs, inI64 z := by
  obtain ⟨cs, rfl, hsz⟩ := okWide_array Tryz.underlying37 hv
  obtain ⟨fuel, hf⟩ := h
  obtain ⟨zs, hl, hc, hq⟩ := trod_ints_arr Tryz.underlying37 Tryz.underlying3 cellsInt cells64 hf
  refine ⟨zs, ?_, hl, hq⟩
  have : cs.toList = ints zs := hc
  rw [← this]
end
end Go.Proofs.YtgmddhljgfbibaaGreatDoor
/- Tables: table.total, Has of the reference. -/
namespace Go.Proofs.YtgmddhljgfbibaaGreatDoor
set_option linter.unusedVariables false
set_option linter.unusedSimpArgs false
open Go.RowKit
def tblv (cs : List Int) (sl : Value) : Array Value := (ints cs ++ [sl]).toArray
theorem sizeTbl : (Tryz.prog.info? 25).map (·.size) = some 17 := by kernel_rfl
theorem size16 : (Tryz.prog.info? 22).map (·.size) = some 16 := by kernel_rfl
theorem tblv_size (cs : List Int) (sl : Value) (h : cs.length = 16) : (tblv cs sl).size = 17 := by simp [tblv, ints_len, h]
theorem tblv_range {w : World} {g : Nat} {T : TypeId} {cs : List Int} {sl : Value} (h : Blk w g T (tblv cs sl)) : w.rangeAt g 0 (ints cs) := by
  intro j v hv
  rw [Nat.zero_add, h.cell]
  unfold tblv
  rw [List.getElem?_toArray, List.getElem?_append_left (List.getElem?_eq_some_iff.1 hv).1]
  exact hv
theorem tblv_last {w : World} {g : Nat} {T : TypeId} {cs : List Int} {sl : Value} (h : Blk w g T (tblv cs sl)) (hl : cs.length = 16) : w.cell? ⟨g, 16, none⟩ = some sl := by
  rw [h.cell]
  simp [tblv, ints_len, hl]
theorem run_index16 (cs : Array Value) (i : Nat) (u : Value) (hi : i < 16) (hu : cs[i]? = some u) (w : World) : (Instr.index 22 (.agg cs) (.int .i64 (i : Int))).run Tryz.prog w = .ok u w :=
  run_index_agg _ _ 16 cs i u Tryz.underlying22 _ Tryz.underlying3 sizeInt hi hu w
def sumL (cs : List Int) (k : Nat) : Int := (cs.take k).sum
theorem sumL_succ (cs : List Int) (k : Nat) (h : k < cs.length) : sumL cs (k + 1) = sumL cs k + cs[k] := by
  unfold sumL
  rw [List.take_succ_eq_append_getElem h, List.sum_append]
  simp
def totalZ (cs : List Int) : Int × Bool := if allIn cs 0 256 then (sumL cs 16, decide (sumL cs 16 ≤ 256)) else (0, false)
set_option maxHeartbeats 400000 in
theorem total_any (cs : List Int) (sl : Value) (w : World) (hl : cs.length = 16) :
    Calls Tryz.prog 39 #[.agg (tblv cs sl)] w fun e w' => e = .returned (.tuple #[.int .i64 (totalZ cs).1, .bool (totalZ cs).2]) ∧ Ext w w' := by
  have HL := hid_ hl
  have HRG := hid_ (fun W g (h : Blk W g 25 (tblv cs sl)) => tblv_range h)
  have hcl := hid_ ((ints_len cs).trans hl)
  have HIX := hid_ (fun k (hk : k < cs.length) (h16 : k < 16) => fun W => run_index16 (bv cs) k (.int .i64 cs[k]) h16 (bv_at cs k hk) W)
  generalize tblv cs sl = tv at *
  have hbv : (ints cs).toArray = bv cs := rfl
  go_enter Tryz.func39, Tryz.ntmps39
  go_wp2_with (first
    | (refine wpList_box_abs rfl 25 (.tmp 0) rfl tv rfl ?_; intro w1 g hb1 hx1 hg)
    | (refine wpList_load_mid rfl 22 (.tmp 7) rfl g 0 rfl (ints cs) _ (HRG.out _ _ hb1) Tryz.underlying22 rfl (by rw [hcl.out]; exact size16) ?_))
  go_loop [4, 9] (fun v i => ∃ k : Nat, k ≤ 16 ∧ i = .int .i64 (k : Int) ∧ v = .int .i64 (sumL cs k) ∧ (∀ z ∈ cs.take k, 0 ≤ z ∧ z ≤ 256) ∧ 0 ≤ sumL cs k ∧ sumL cs k ≤ 256 * k) (fun _ i => 16 - (intOf i).toNat)
  case atStart => exact ⟨0, by omega, rfl, rfl, by simp, by simp [sumL], by simp [sumL]⟩
  case round =>
    obtain ⟨k, hk, rfl, rfl, hin, s1, s2⟩ := hrel
    by_cases hlt : k < 16
    · have hkl : k < cs.length := by have := HL.out; omega
      have hix := HIX.out k hkl hlt
      have HS := hid_ (sumL_succ cs k hkl)
      have HIN := hid_ hin
      clear hin
      cases hq : inB cs[k] 0 256 with
      | true =>
        obtain ⟨q1, q2⟩ := inB_iff.1 hq
        have HN := hid_ (allIn_take HIN.out hkl ⟨q1, q2⟩)
        generalize sumL cs k = s at *
        go_wp2_with fail
        go_round
        case rel => exact ⟨k + 1, by omega, by go_num, by rw [HS.out], HN.out, by rw [HS.out]; omega, by rw [HS.out]; omega⟩
        case measure => simp [intOf]; omega
      | false =>
        have HF := hid_ (show totalZ cs = (0, false) by unfold totalZ; rw [allIn_no hkl hq]; rfl)
        rcases Int.lt_or_le cs[k] 0 with h0 | h0
        · have h0' : decide (cs[k] < 0) = true := by simpa using h0
          clear hq
          go_wp2_with fail
          go_ret2
          exact ⟨by rw [HF.out]; rfl, hx1⟩
        · have h0' : decide (cs[k] < 0) = false := by simpa using h0
          have h1' : decide (256 < cs[k]) = true := by have := inB_not.1 hq; simp; omega
          clear hq
          go_wp2_with fail
          go_ret2
          exact ⟨by rw [HF.out]; rfl, hx1⟩
    · have ek : k = 16 := by omega
      have HF := hid_ (show totalZ cs = (sumL cs 16, decide (sumL cs 16 ≤ 256)) by
        unfold totalZ
        rw [allIn_iff.2 (fun z hz => hin z (by rwa [List.take_of_length_le (by have := HL.out; omega)]))]
        rfl)
      rw [ek]
      rw [ek] at s1 s2
      clear hin ek hk hlt
      go_wp2_with fail
      go_ret2
      exact ⟨by rw [HF.out]; rfl, hx1⟩
theorem has_any (xs : List Int) (A : Option Addr) (c n : Nat) (x : Int) (w : World) (hn : xs.length = n) (hs : SL w 1 (.slice A n c) n (ints xs)) :
    Calls Tryz.prog 74 #[.slice A n c, .int .i64 x] w fun e w' => e = .returned (.bool (decide (x ∈ xs))) ∧ w = w' := by
  subst hn
  have hc1 : xs.length ≤ c ∧ c ≤ 9223372036854775807 := by obtain ⟨A', c', e, h1, h2, -⟩ := hs; injection e with e1 e2 e3; subst e3; exact ⟨h1, h2⟩
  obtain ⟨hc1, hc2⟩ := hc1
  go_enter Tryz.func74, Tryz.ntmps74
  go_wp2_with fail
  go_loop [9] (fun i => ∃ k : Nat, k ≤ xs.length ∧ i = .int .i64 k ∧ x ∉ xs.take k) (fun i => xs.length - (intOf i).toNat)
  case atStart => exact ⟨0, by omega, rfl, by simp⟩
  case round =>
    obtain ⟨k, hk, rfl, ht⟩ := hrel
    have HT := hid_ ht
    clear ht
    by_cases hlt : k < xs.length
    · obtain ⟨ad, u, rfl, -, hx, hcell⟩ := hs.at1 hlt
      obtain ⟨_, rfl⟩ := ints_at _ _ _ hx
      clear hx
      by_cases hq : x = xs[k]
      · have hq' : (x == xs[k]) = true := by simpa using hq
        have HC := hid_ (show decide (x ∈ xs) = true by rw [decide_eq_true_eq, hq]; exact List.getElem_mem hlt)
        clear hq
        go_wp2_with fail
        go_ret
        exact ⟨by rw [HC.out]; rfl, rfl⟩
      · have hq' : (x == xs[k]) = false := by simpa using hq
        have HN := hid_ (show x ∉ xs.take (k + 1) by rw [List.take_succ_eq_append_getElem hlt, List.mem_append]; exact fun h => h.elim HT.out (fun h => hq (by simpa using h)))
        clear hq
        go_wp2_with fail
        go_round
        case rel => exact ⟨k + 1, by omega, by go_num, HN.out⟩
        case measure => simp [intOf]; omega
    · have HC := hid_ (show decide (x ∈ xs) = false by
        have := HT.out
        rw [List.take_of_length_le (by omega)] at this
        simpa using this)
      go_wp2_with fail
      go_ret
      exact ⟨by rw [HC.out]; rfl, rfl⟩
end Go.Proofs.YtgmddhljgfbibaaGreatDoor
