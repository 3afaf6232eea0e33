/- Contracts for the law FilePacks, part 1: what the functions that it reaches answer, for all arguments that the theorems name. -/
import Derived.Test.YtlepchdlkhogiaaProg
import Derived.WalkKit
import Derived.Deep.AppendLies
import Derived.Deep.Draws
import Derived.WalkSpells
import Derived.WalkLawsBesides
import Derived.Deep.QuietTactic
namespace Go.Proofs.Ytlepchdlkhogiaa
set_option linter.unusedVariables false
set_option linter.unusedSimpArgs false
open Go.RowKit
/-! Words for memory that is only read. -/
theorem block_of_add (a : Addr) (n : Nat) : (a.add n).block = a.block := by unfold Addr.add; split <;> rfl
theorem add_of_add (a : Addr) (i j : Nat) : (a.add i).add j = a.add (i + j) := by
  unfold Addr.add
  by_cases hi : i = 0 <;> by_cases hj : j = 0 <;> simp [hi, hj, Nat.add_assoc]

/-- the value v is a slice of n elements of 'size' cells each, which read as xs -/
def SL (w : World) (size : Nat) (v : Value) (n : Nat) (xs : List Value) : Prop :=
  ∃ A c, v = .slice A n c ∧ n ≤ c ∧ c ≤ 9223372036854775807 ∧ xs.length = n * size ∧ (0 < n → ∃ ad, A = some ad ∧ ad.block < w.heap.size ∧ ∀ j u, xs[j]? = some u → w.cell? (ad.add j) = some u)

theorem hid_ {p : Prop} (h : p) : Hid p := h
/-- new blocks alone -/
abbrev Ext (w w' : World) : Prop := Below w.heap.size w w'
theorem Ext.refl (w : World) : Ext w w := Below.refl _ _
theorem Ext.trans {a b c : World} (h : Ext a b) (k : Ext b c) : Ext a c := Below.trans h (Below.mono k h.size)
theorem Ext.alloc {a w : World} (h : Ext a w) (o : Obj) : Ext a (w.alloc o) := Below.alloc h h.size o
theorem Ext.drew {a w : World} (h : Ext a w) : Ext a w.drew := Below.drew h
theorem below_drewN {B : Nat} {a w : World} (h : Below B a w) (n : Nat) : Below B a (w.drewN n) := ⟨h.os, h.tape, h.output, h.size, h.block⟩

theorem SL.ext {w w' : World} {size n : Nat} {v : Value} {xs : List Value} (h : SL w size v n xs) (hb : Ext w w') : SL w' size v n xs := by
  obtain ⟨A, c, rfl, h1, h1', h2, h3⟩ := h
  refine ⟨A, c, rfl, h1, h1', h2, fun hn => ?_⟩
  obtain ⟨ad, e, hlt, hc⟩ := h3 hn
  exact ⟨ad, e, Nat.lt_of_lt_of_le hlt hb.size, fun j u hu => (hb.cell (by rw [block_of_add]; exact hlt)).trans (hc j u hu)⟩
theorem SL.nil (w : World) (size : Nat) : SL w size (.slice none 0 0) 0 [] := ⟨none, 0, rfl, by omega, by omega, by simp, fun h => absurd h (by omega)⟩
theorem SL.at1 {w : World} {A : Option Addr} {n c : Nat} {xs : List Value} {k : Nat} (h : SL w 1 (.slice A n c) n xs) (hk : k < n) :
    ∃ ad u, A = some ad ∧ ad.block < w.heap.size ∧ xs[k]? = some u ∧ w.cell? (ad.add k) = some u := by
  obtain ⟨A', c', e, _, _, h2, h3⟩ := h
  injection e with e1 e2 e3
  subst e1
  obtain ⟨ad, ea, hb, hc⟩ := h3 (by omega)
  have hl : k < xs.length := by omega
  exact ⟨ad, xs[k], ea, hb, List.getElem?_eq_getElem hl, hc k _ (List.getElem?_eq_getElem hl)⟩

/-- block g is just these cells, none frozen -/
def Blk (w : World) (g : Nat) (t : TypeId) (cs : Array Value) : Prop := w.heap[g]? = some (.cells cs t (0, 0))
section
variable {w w' : World} {g : Nat} {t : TypeId} {cs : Array Value}
theorem Blk.lt (h : Blk w g t cs) : g < w.heap.size := by
  rcases Nat.lt_or_ge g w.heap.size with hlt | hge
  · exact hlt
  · unfold Blk at h; rw [Array.getElem?_eq_none hge] at h; cases h
theorem Blk.cell (h : Blk w g t cs) (i : Nat) : w.cell? ⟨g, i, none⟩ = cs[i]? := cell_of_row w g i cs t (0, 0) h
theorem Blk.frozen (h : Blk w g t cs) (i : Nat) : w.frozen? ⟨g, i, none⟩ = false := by
  unfold Blk at h
  simp [World.frozen?, h]
theorem Blk.new (w : World) (t : TypeId) (cs : Array Value) : Blk (w.alloc (.cells cs t)) w.heap.size t cs := heap_alloc_new w _
theorem Blk.drew (h : Blk w g t cs) : Blk w.drew g t cs := h
theorem Blk.drewN (h : Blk w g t cs) (n : Nat) : Blk (w.drewN n) g t cs := h
theorem Blk.alloc (h : Blk w g t cs) (o : Obj) : Blk (w.alloc o) g t cs := (Below.heap_alloc w o g h.lt).trans h
theorem Blk.set_ (h : Blk w g t cs) (i : Nat) (u : Value) : Blk (w.setCell ⟨g, i, none⟩ u) g t (cs.setIfInBounds i u) := by
  unfold Blk at h ⊢
  simp [World.setCell, Array.getElem?_modify, h]
theorem Blk.far (h : Blk w g t cs) {p : Addr} (hp : g ≠ p.block) (u : Value) : Blk (w.setCell p u) g t cs := (Below.heap_setCell w p u g hp).trans h
theorem Blk.below {B : Nat} (h : Blk w g t cs) (hb : Below B w w') (hg : g < B) : Blk w' g t cs := (hb.block g hg).trans h
theorem Blk.ext (h : Blk w g t cs) (hb : Ext w w') : Blk w' g t cs := h.below hb h.lt
theorem Blk.grown {row : Option Nat} (h : Blk w g t cs) (hb : w.grownBy w' row) (hg : some g ≠ row) : Blk w' g t cs := (hb.block g h.lt hg).trans h
theorem Blk.ne_ {g' : Nat} {t' : TypeId} {cs' : Array Value} (h : Blk w g t cs) (h' : Blk w g' t' cs') (hne : t ≠ t') : g ≠ g' := by
  rintro rfl
  unfold Blk at h h'
  rw [h] at h'
  injection h' with h'
  injection h' with _ ht
  exact hne ht
theorem Blk.sl (h : Blk w g t cs) {size n c : Nat} (hs : cs.size = n * size) (hc : n ≤ c) (hc2 : c ≤ 9223372036854775807) : SL w size (.slice (some ⟨g, 0, none⟩) n c) n cs.toList := by
  refine ⟨_, _, rfl, hc, hc2, by simpa using hs, fun _ => ⟨_, rfl, h.lt, fun j u hu => ?_⟩⟩
  have e : (⟨g, 0, none⟩ : Addr).add j = ⟨g, j, none⟩ := by
    unfold Addr.add
    by_cases hj : j = 0
    · subst hj; rfl
    · rw [if_neg hj]; simp
  rw [e, h.cell, ← hu]; simp
end
/-! Whole rows by value. -/
section
variable {P : Program} {ops : Array Oper} {rest : List Oper} {o : Oper} {a : Act} {w : World} {Q : Exit → Act → World → Prop}
theorem wpList_load_blk (hgd : o.guard = none) (ty : TypeId) (x : Operand) (ho : o.op = .load ty x) (g : Nat) (hx : a.eval x = .pointer (some ⟨g, 0, none⟩))
    {t : TypeId} {cs : Array Value} (hB : Blk w g t cs) (d : TypeDesc) (hu : P.underlying ty = some d) (hd : (match d with | .struct _ | .array _ _ => true | _ => false) = true)
    (n : Nat) (hs : (P.info? ty).map (·.size) = some n) (hn : cs.size = n) (h : wpList P ops Q rest (a.put o.dst (.agg cs)) w) : wpList P ops Q (o :: rest) a w :=
  wpList_load_row hgd ty x ho g hx t cs (0, 0) d hB hu hd (by rw [hn]; exact hs) h
theorem wpList_store_blk (hgd : o.guard = none) (ty : TypeId) (x y : Operand) (ho : o.op = .store ty x y) (g : Nat) (cells : Array Value) (hx : a.eval x = .pointer (some ⟨g, 0, none⟩)) (hy : a.eval y = .agg cells)
    {t : TypeId} {old : Array Value} (hB : Blk w g t old) (n : Nat) (hs : (P.info? ty).map (·.size) = some n) (hn : cells.size = n) (hold : old.size = n) (h1 : cells.all (·.oneCell') = true)
    (h : ∀ w1, Blk w1 g t cells → w.grownBy w1 (some g) → wpList P ops Q rest (a.put o.dst undef) w1) : wpList P ops Q (o :: rest) a w :=
  wpList_store_row hgd ty x y ho g cells hx hy t old hB (by rw [hn]; exact hs) (by rw [hn, hold]) h1
    (h _ (setRow_heap w g old cells t (0, 0) hB) ⟨rfl, rfl, rfl, by simp, fun k hk hne => setRow_other w g k cells (fun e => hne (by rw [e]))⟩)
theorem ret_cell_tmp {fn : Func} {R : Ending → World → Prop} {p u : Tmp} {ty : TypeId} (h : fn.results = #[.cell p ty, .tmp u]) (hdf : a.defers = []) (g : Nat) {t : TypeId} {cs : Array Value}
    (hp : a.tmps.getD p undef = .pointer (some ⟨g, 0, none⟩)) (hB : Blk w g t cs) (d : TypeDesc) (hu : P.underlying ty = some d) (hd : (match d with | .struct _ | .array _ _ => true | _ => false) = true)
    (n : Nat) (hs : (P.info? ty).map (·.size) = some n) (hn : cs.size = n) (hR : R (.returned (.tuple #[.agg cs, a.tmps.getD u undef])) w) : bodyPost P fn R .ret a w := by
  refine bodyPost_ret ?_ hdf hR
  rw [results_cell_tmp h]
  have e := run_loadVar_row (P := P) w g t ty cs (0, 0) d hB hu hd (by rw [hn]; exact hs)
  simp [hp, asAddr, e, Result.andThen]
theorem ret_cell {fn : Func} {R : Ending → World → Prop} {p : Tmp} {ty : TypeId} (h : fn.results = #[.cell p ty]) (hdf : a.defers = []) (g : Nat) {t : TypeId} {cs : Array Value}
    (hp : a.tmps.getD p undef = .pointer (some ⟨g, 0, none⟩)) (hB : Blk w g t cs) (d : TypeDesc) (hu : P.underlying ty = some d) (hd : (match d with | .struct _ | .array _ _ => true | _ => false) = true)
    (n : Nat) (hs : (P.info? ty).map (·.size) = some n) (hn : cs.size = n) (hR : R (.returned (.agg cs)) w) : bodyPost P fn R .ret a w :=
  bodyPost_ret (results_cell_row h _ _ g t cs (0, 0) d hp hB hu hd (by rw [hn]; exact hs)) hdf hR
end
/-- an element of an array by value, each of one cell that is no row -/
theorem run_index_agg {P : Program} (t e : TypeId) (n : Nat) (cs : Array Value) (i : Nat) (u : Value) (ht : P.underlying t = some (.array n e)) (k : IntKind) (he : P.underlying e = some (.int k)) (hs : (P.info? e).map (·.size) = some 1)
    (hi : i < n) (hu : cs[i]? = some u) (w : World) : (Instr.index t (.agg cs) (.int .i64 (i : Int))).run P w = .ok u w := by
  cases hq : P.info? e with
  | none => simp [hq] at hs
  | some inf =>
    have hz : inf.size = 1 := by simpa [hq] using hs
    have hb : (0 : Int) ≤ i ∧ (i : Int) < n := by omega
    have hagg : (isAgg e).run P w = .ok false w := by
      unfold isAgg
      rw [Sem.run_bind, run_underlying he w]
      rfl
    have hc : ((0 : Int) ≤ (i : Int) ∧ (i : Int) < (n : Int)) = True := by simp; omega
    simp only [Instr.index, asIntOf, Sem.run_bind, Sem.run_pure, Result.andThen_ok, run_underlying ht, hc, if_true]
    simp [sizeOf, typeInfo, hq, hz, part, hagg, hu]
/-! New blocks, the world and the block's number left open. -/
section
variable {P : Program} {ops : Array Oper} {rest : List Oper} {o : Oper} {a : Act} {w : World} {Q : Exit → Act → World → Prop}
theorem wpList_box_abs (hg : o.guard = none) (t : TypeId) (x : Operand) (ho : o.op = .box t x) (cs : Array Value) (hx : (a.eval x).cells = cs)
    (h : ∀ w1 g, Blk w1 g t cs → Ext w w1 → w.heap.size ≤ g → wpList P ops Q rest (a.put o.dst (.pointer (some ⟨g, 0, none⟩))) w1) : wpList P ops Q (o :: rest) a w := by
  subst hx
  refine wpList_plain hg fun K hK => ?_
  unfold Oper.wp execOp
  simp only [ho, Sem.run_bind, Instr.box, newVar, newRow, run_newObj_alloc, Sem.run_pure, Result.andThen_ok]
  exact hK _ _ (h _ _ (Blk.new w t _) ((Ext.refl w).alloc _) (Nat.le_refl _))
theorem wpList_alloc_abs (hg : o.guard = none) (t : TypeId) (ho : o.op = .alloc t) (z : Value) (hz : (P.info? t).bind (·.zero) = some z)
    (h : ∀ w1 g, Blk w1 g t z.cells → Ext w w1 → w.heap.size ≤ g → wpList P ops Q rest (a.put o.dst (.pointer (some ⟨g, 0, none⟩))) w1) : wpList P ops Q (o :: rest) a w := by
  cases hq : P.info? t with
  | none => simp [hq] at hz
  | some inf =>
    have hz' : inf.zero = some z := by simpa [hq] using hz
    have hzv : (zeroValue t).run P w = .ok z w := by simp [zeroValue, typeInfo, hq, hz']
    refine wpList_plain hg fun K hK => ?_
    unfold Oper.wp execOp
    simp only [ho, Sem.run_bind, Instr.alloc, hzv, newVar, newRow, run_newObj_alloc, Sem.run_pure, Result.andThen_ok]
    exact hK _ _ (h _ _ (Blk.new w t _) ((Ext.refl w).alloc _) (Nat.le_refl _))
end
theorem wpList_build_abs {P : Program} {ops : Array Oper} {rest : List Oper} {o : Oper} {a : Act} {w : World} {Q : Exit → Act → World → Prop} (hg : o.guard = none) (t : TypeId) (parts : Array (Nat × Operand)) (ho : o.op = .build t parts)
    (cs : Array Value) (hf : P.built t (parts.map fun (i, x) => (i, a.eval x)).toList = some cs) (h : wpList P ops Q rest (a.put o.dst (.agg cs)) w) : wpList P ops Q (o :: rest) a w :=
  wpList_build hg t parts ho (by rw [hf]; rfl) (by rw [hf]; exact h)
theorem wpList_build0 {P : Program} {ops : Array Oper} {rest : List Oper} {o : Oper} {a : Act} {w : World} {Q : Exit → Act → World → Prop} (hg : o.guard = none) (t : TypeId) (ho : o.op = .build t #[])
    (cs : Array Value) (hf : P.built t [] = some cs) (h : wpList P ops Q rest (a.put o.dst (.agg cs)) w) : wpList P ops Q (o :: rest) a w :=
  wpList_build_abs hg t #[] ho cs (by simpa using hf) h
theorem wpList_wanted {P : Program} {ops : Array Oper} {rest : List Oper} {o : Oper} {a : Act} {w : World} {Q : Exit → Act → World → Prop} (hw : Region.wanted o (yielded ops a.tmps) = true)
    (h : ∀ K : Act → World → Prop, (∀ a w, wpList P ops Q rest a w → K a w) → o.wp P a w K Q) : wpList P ops Q (o :: rest) a w :=
  wpList_step fun K hK => by rw [if_pos hw]; exact h K hK
theorem wpList_load_blk_g {P : Program} {ops : Array Oper} {rest : List Oper} {o : Oper} {a : Act} {w : World} {Q : Exit → Act → World → Prop} (hw : Region.wanted o (yielded ops a.tmps) = true)
    (ty : TypeId) (x : Operand) (ho : o.op = .load ty x) (g : Nat) (hx : a.eval x = .pointer (some ⟨g, 0, none⟩))
    {t : TypeId} {cs : Array Value} (hB : Blk w g t cs) (d : TypeDesc) (hu : P.underlying ty = some d) (hd : (match d with | .struct _ | .array _ _ => true | _ => false) = true)
    (n : Nat) (hs : (P.info? ty).map (·.size) = some n) (hn : cs.size = n) (h : wpList P ops Q rest (a.put o.dst (.agg cs)) w) : wpList P ops Q (o :: rest) a w :=
  wpList_wanted hw fun _ hK => wp_load_row ty x ho g hx t cs (0, 0) d hB hu hd (by rw [hn]; exact hs) (hK _ _ h)
theorem calls_turn {P : Program} {f : FuncId} {args : Array Value} {w : World} {v : Value} (h : Calls P f args w fun e w' => e = .returned v ∧ w = w') : Calls P f args w fun e w' => e = .returned v ∧ w' = w :=
  h.mono fun _ _ ⟨a, b⟩ => ⟨a, b.symm⟩
theorem wpList_alloc_abs' {P : Program} {ops : Array Oper} {rest : List Oper} {o : Oper} {a : Act} {w : World} {Q : Exit → Act → World → Prop} (hg : o.guard = none) (dst : Option Tmp) (hdst : o.dst = dst) (t : TypeId) (ho : o.op = .alloc t) (z : Value) (hz : (P.info? t).bind (·.zero) = some z)
    (h : ∀ w1 g, Blk w1 g t z.cells → Ext w w1 → w.heap.size ≤ g → wpList P ops Q rest (a.put dst (.pointer (some ⟨g, 0, none⟩))) w1) : wpList P ops Q (o :: rest) a w := by
  subst hdst
  exact wpList_alloc_abs hg t ho z hz h
theorem wpList_build0_g {P : Program} {ops : Array Oper} {rest : List Oper} {o : Oper} {a : Act} {w : World} {Q : Exit → Act → World → Prop} (hw : Region.wanted o (yielded ops a.tmps) = true) (t : TypeId) (ho : o.op = .build t #[])
    (cs : Array Value) (hf : P.built t [] = some cs) (h : wpList P ops Q rest (a.put o.dst (.agg cs)) w) : wpList P ops Q (o :: rest) a w :=
  wpList_wanted hw fun _ hK => wp_build t #[] ho (by simp [hf]) (by simpa [hf] using hK _ _ h)
theorem Ext.grown {a w w' : World} (h : Ext a w) {g : Nat} (hg : w.grownBy w' (some g)) (hB : a.heap.size ≤ g) : Ext a w' :=
  Below.grown h hg h.size (fun k hk => by injection hk with hk; omega)
theorem Ext.setCell {a w : World} (h : Ext a w) {p : Addr} (hp : a.heap.size ≤ p.block) (u : Value) : Ext a (w.setCell p u) := Below.setCell h hp u
theorem vint {a b : Int} (h : a = b) : Value.int .i64 a = Value.int .i64 b := by rw [h]
theorem SL.drew {w : World} {size n : Nat} {v : Value} {xs : List Value} (h : SL w size v n xs) : SL w.drew size v n xs := h
end Go.Proofs.Ytlepchdlkhogiaa
/- A region that draws its order: one walk in the order of the text, in worlds that come later by a relation of one's own; where an operation is the only one that may come up, it may do what it likes. -/
namespace Go.Proofs.Ytlepchdlkhogiaa
set_option linter.unusedVariables false
set_option linter.unusedSimpArgs false
open Go.RowKit
/-- a relation of worlds: later -/
structure Later (R : World → World → Prop) : Prop where
  refl : ∀ w, R w w
  trans : ∀ {a b c}, R a b → R b c → R a c
theorem later_ext : Later Ext := ⟨Ext.refl, fun h k => Ext.trans h k⟩
section
variable {P : Program} {ops : Array Oper} {md : Region.Mode} {R : World → World → Prop}
def YieldsR (P : Program) (ops : Array Oper) (R : World → World → Prop) (o : Oper) (v : Value) (a : Act) (wc : World) : Prop :=
  (Region.wanted o (yielded ops a.tmps) = true ∧ ∀ w, R wc w → o.quietAt P a (R w) w v) ∨ (Region.wanted o (yielded ops a.tmps) = false ∧ v = undef)
theorem YieldsR.mono (L : Later R) {o : Oper} {v : Value} {a : Act} {wc w : World} (h : YieldsR P ops R o v a wc) (hw : R wc w) : YieldsR P ops R o v a w :=
  h.imp (fun ⟨h1, h2⟩ => ⟨h1, fun w' h' => h2 w' (L.trans hw h')⟩) id
theorem YieldsR.of_same {o : Oper} {v : Value} {a a' : Act} {wc : World} (hy : YieldsR P ops R o v a wc) (he : execOp a'.eval o = execOp a.eval o)
    (hw : Region.wanted o (yielded ops a'.tmps) = Region.wanted o (yielded ops a.tmps)) : YieldsR P ops R o v a' wc := by
  unfold YieldsR Oper.quietAt at *
  rw [he, hw]
  exact hy
theorem wp_of_quietAt (L : Later R) {o : Oper} {a : Act} {v : Value} {w : World} {K : Act → World → Prop} {Q : Exit → Act → World → Prop} (h : o.quietAt P a (R w) w v) (hk : ∀ w', R w w' → K (a.put o.dst v) w') : o.wp P a w K Q := by
  unfold Oper.quietAt at h
  unfold Oper.wp
  generalize (execOp a.eval o).run P w = r at *
  cases r with
  | ok n w' =>
    cases n <;> simp only [Oper.quietUpon] at h <;> simp only [Oper.upon]
    case value u =>
      obtain ⟨e1, e2⟩ := h
      rw [e1, e2]
      exact hk _ (L.refl _)
    case skip =>
      obtain ⟨e1, e2⟩ := h
      rw [e1, ← e2]
      exact hk _ (L.refl _)
    case enter f args =>
      obtain ⟨e1, hc⟩ := h
      rw [e1]
      exact hc.mono fun e w'' ⟨he, hw''⟩ => by subst he; exact hk _ hw''
  | halt x w' => simp only [Oper.quietUpon] at h
theorem YieldsR.wpOp (L : Later R) {i : Nat} {o : Oper} {v : Value} {a : Act} {wc w : World} {Q : Exit → Act → World → Prop} (hi : ops[i]? = some o) (hy : YieldsR P ops R o v a wc) (hw : R wc w)
    {K : Act → World → Prop} (h : ∀ w', R w w' → K (a.put o.dst v) w') : wpOp P ops Q i K a w := by
  unfold Go.wpOp
  simp only [hi]
  rcases hy with ⟨h1, h2⟩ | ⟨h1, rfl⟩
  · simp only [h1, if_true]
    exact .inl (wp_of_quietAt L (h2 w hw) h)
  · simp only [h1, Bool.false_eq_true, if_false]
    exact h _ (L.refl _)
theorem wpOp_putR {j : Nat} {oi oj : Oper} {v : Value} {wc : World} {Q : Exit → Act → World → Prop} (hj : ops[j]? = some oj) (hap : oi.apart ops oj = true)
    (hsi : ∀ cs b, oi.op ≠ .select cs b) (hsj : ∀ cs b, oj.op ≠ .select cs b)
    (hQ : ∀ c a w, Q (.panic c) (a.put oi.dst v) w → Q (.panic c) a w) {K : Act → World → Prop} {a : Act} {w : World}
    (hy : YieldsR P ops R oi v a wc) (h : wpOp P ops Q j K (a.put oi.dst v) w) :
    wpOp P ops Q j (fun a' w' => YieldsR P ops R oi v a' wc ∧ K (a'.put oi.dst v) w') a w := by
  obtain ⟨h1, h2, h3⟩ := Oper.apart_spec hap
  have keep : ∀ (a : Act), YieldsR P ops R oi v a wc → ∀ u, YieldsR P ops R oi v (a.put oj.dst u) wc := fun a hy u =>
    hy.of_same (execOp_put oi hsi a oj.dst u h3) (wanted_put oi a oj.dst u h3)
  have keepD : ∀ d, YieldsR P ops R oi v { a with defers := d :: a.defers } wc := fun d => hy.of_same rfl rfl
  unfold wpOp at *
  simp only [hj] at *
  rw [wanted_put oj a oi.dst v h1] at h
  split
  · rename_i hw
    simp only [hw, if_true] at h
    rcases h with h | ⟨hasks, hlets⟩
    case inr => exact .inr ⟨by unfold Oper.asks at *; rw [execOp_put oj hsj a oi.dst v h1] at hasks; exact hasks, hlets⟩
    refine .inl ?_
    unfold Oper.wp at *
    rw [execOp_put oj hsj a oi.dst v h1] at h
    generalize (execOp a.eval oj).run P w = r at *
    cases r with
    | ok n w' =>
      cases n <;> simp only [Oper.upon] at h ⊢
      case value u => exact ⟨keep a hy u, by rw [← Act.put_comm a v u h2]; exact h⟩
      case skip => exact ⟨keep a hy _, by rw [← Act.put_comm a v undef h2]; exact h⟩
      case defer d =>
        refine ⟨keep _ (keepD d) _, ?_⟩
        rw [← Act.put_comm _ v undef h2, ← Act.put_defers]
        exact h
      case enter f args =>
        refine Calls.mono h fun e w'' he => ?_
        cases e with
        | returned u => exact ⟨keep a hy u, by rw [← Act.put_comm a v u h2]; exact he⟩
        | panicked c => exact hQ _ _ _ he
        | outgrown => exact he
      case row row args => exact Rows.mono h fun u w'' he => ⟨keep a hy u, by rw [← Act.put_comm a v u h2]; exact he⟩
    | halt x w' =>
      cases x <;> simp only [Oper.upon] at h ⊢
      case panic u => exact hQ _ _ _ h
  · rename_i hw
    simp only [hw] at h
    exact ⟨keep a hy _, by rw [← Act.put_comm a v undef h2]; exact h⟩
/-- Whatever order is picked from here on, from whatever later world. -/
def wpAnyR (P : Program) (md : Region.Mode) (ops : Array Oper) (R : World → World → Prop) (Q : Exit → Act → World → Prop) : Nat → Array Bool → Act → World → Prop
  | 0, listed, a, wc => Region.ready md ops listed = [] ∧ ∀ w, R wc w → Q .normal a w
  | f + 1, listed, a, wc => (Region.ready md ops listed = [] → ∀ w, R wc w → Q .normal a w) ∧
    ∀ i ∈ Region.ready md ops listed, ∀ w, R wc w → wpOp P ops Q i (fun a' w' => R w w' ∧ wpAnyR P md ops R Q f (listed.setIfInBounds i true) a' w') a w
variable {Q : Exit → Act → World → Prop}
theorem wpAnyR_mono (L : Later R) : ∀ (f : Nat) (listed : Array Bool) (a : Act) (wc w : World), R wc w → wpAnyR P md ops R Q f listed a wc → wpAnyR P md ops R Q f listed a w
  | 0, _, _, _, _, hw, h => ⟨h.1, fun w' h' => h.2 w' (L.trans hw h')⟩
  | _ + 1, _, _, _, _, hw, h => ⟨fun h0 w' h' => h.1 h0 w' (L.trans hw h'), fun i hi w' h' => h.2 i hi w' (L.trans hw h')⟩
theorem wpAny_of_R (L : Later R) : ∀ (f : Nat) (listed : Array Bool) (a : Act) (wc w : World), R wc w → wpAnyR P md ops R Q f listed a wc → wpAny P md ops Q f listed a w
  | 0, _, _, _, _, hw, h => ⟨h.1, h.2 _ hw⟩
  | f + 1, _, _, _, _, hw, h => ⟨fun h0 => h.1 h0 _ hw, fun i hi => wpOp_mono (fun a' w' h' => wpAny_of_R L f _ a' w' w' (L.refl _) h'.2) (h.2 i hi _ hw)⟩
theorem wpAnyR_first (L : Later R) {i : Nat} {oi : Oper} {v : Value} (hi : ops[i]? = some oi) (hsel : ∀ (j : Nat) (o : Oper) cs b, ops[j]? = some o → o.op ≠ .select cs b)
    (hQ : ∀ c a w, Q (.panic c) (a.put oi.dst v) w → Q (.panic c) a w) :
    ∀ (fuel : Nat) (listed : Array Bool) (a : Act) (wc : World),
      (∀ j oj, ops[j]? = some oj → j ≠ i → listed.getD j true = false → (∀ e ∈ oj.after, Region.binds md e = true → e.on ≠ i) → oi.apart ops oj = true) →
      i ∈ Region.ready md ops listed → YieldsR P ops R oi v a wc →
      wpAnyR P md ops R Q fuel (listed.setIfInBounds i true) (a.put oi.dst v) wc → wpAnyR P md ops R Q (fuel + 1) listed a wc := by
  intro fuel
  induction fuel with
  | zero =>
    intro listed a wc _ hr hy H
    refine ⟨fun h => (by rw [h] at hr; cases hr), fun j hj w hw => ?_⟩
    by_cases hji : j = i
    · subst hji; exact hy.wpOp L hi hw fun w' h' => ⟨h', wpAnyR_mono L _ _ _ _ _ (L.trans hw h') H⟩
    · have := ready_mono hj hji
      rw [H.1] at this
      cases this
  | succ fuel ih =>
    intro listed a wc hfree hr hy H
    refine ⟨fun h => (by rw [h] at hr; cases hr), fun j hj w hw => ?_⟩
    by_cases hji : j = i
    · subst hji; exact hy.wpOp L hi hw fun w' h' => ⟨h', wpAnyR_mono L _ _ _ _ _ (L.trans hw h') H⟩
    · have h1 := H.2 j (ready_mono hj hji) w hw
      obtain ⟨hjun, oj, hoj, hall⟩ := mem_ready.1 hj
      have hnot : ∀ e ∈ oj.after, Region.binds md e = true → e.on ≠ i := fun e he hb heq => by
        have h1 := hall e he hb
        have h0 := (mem_ready.1 hr).1
        rw [heq] at h1
        rcases Nat.lt_or_ge i listed.size with h' | h'
        · simp [h'] at h0 h1; rw [h0] at h1; cases h1
        · simp [Array.getElem?_eq_none h'] at h1
      have h2 := wpOp_putR hoj (hfree j oj hoj hji hjun hnot) (fun cs b => hsel i oi cs b hi) (fun cs b => hsel j oj cs b hoj) hQ hy h1
      have hfree' : ∀ k ok, ops[k]? = some ok → k ≠ i → (listed.setIfInBounds j true).getD k true = false →
          (∀ e ∈ ok.after, Region.binds md e = true → e.on ≠ i) → oi.apart ops ok = true := fun k ok hk hki hun hno => by
        refine hfree k ok hk hki ?_ hno
        by_cases hjk : j = k
        · subst hjk; exact hjun
        · rw [getD_set_ne true hjk] at hun; exact hun
      refine wpOp_mono (fun a' w' h3 => ⟨h3.2.1, ih (listed.setIfInBounds j true) a' w' hfree' (ready_mono hr (Ne.symm hji)) (h3.1.mono L (L.trans hw h3.2.1)) ?_⟩) h2
      rw [Array.setIfInBounds_comm _ _ hji]
      exact h3.2.2
/-- THE WALK in the order of the text. -/
def wpLx (P : Program) (md : Region.Mode) (ops : Array Oper) (R : World → World → Prop) (Q : Exit → Act → World → Prop) : List Oper → Nat → Array Bool → Act → World → Prop
  | [], _, _, a, wc => ∀ w, R wc w → Q .normal a w
  | o :: rest, k, listed, a, wc =>
    (∃ v, YieldsR P ops R o v a wc ∧ wpLx P md ops R Q rest (k + 1) (listed.setIfInBounds k true) (a.put o.dst v) wc) ∨
    (Region.ready md ops listed = [k] ∧ ∀ w, R wc w → wpOp P ops Q k (fun a' w' => R w w' ∧ wpLx P md ops R Q rest (k + 1) (listed.setIfInBounds k true) a' w') a w)
theorem wpAnyR_lex (L : Later R) (hs : Region.noSelect ops = true) (hQ : ∀ c (a : Act) d v w, Q (.panic c) (a.put d v) w → Q (.panic c) a w) : ∀ (l : List Oper) (k : Nat) (listed : Array Bool) (a : Act) (wc : World), (∀ j, l[j]? = ops[k + j]?) →
    Region.lexFrom md ops l.length k listed = true → wpLx P md ops R Q l k listed a wc → wpAnyR P md ops R Q l.length listed a wc
  | [], _, _, _, _, _, hB, h => ⟨by simpa [Region.lexFrom] using hB, h⟩
  | o :: l, k, listed, a, wc, hl, hB, h => by
    have h0 : ops[k]? = some o := by simpa using (hl 0).symm
    simp only [List.length_cons, Region.lexFrom, Bool.and_eq_true] at hB
    obtain ⟨⟨hr, hf⟩, hB'⟩ := hB
    have hl' : ∀ j, l[j]? = ops[k + 1 + j]? := fun j => by have := hl (j + 1); simpa [Nat.add_assoc, Nat.add_comm 1 j] using this
    rcases h with ⟨v, hy, hK⟩ | ⟨hone, hK⟩
    · exact wpAnyR_first L h0 (Region.noSelect_spec hs) (fun c a w => hQ c a _ _ w) l.length listed a wc (Region.free_spec h0 hf) (by simpa using hr) hy
        (wpAnyR_lex L hs hQ l (k + 1) _ _ _ hl' hB' hK)
    · refine ⟨fun h0 => (by rw [h0] at hone; cases hone), fun i hi w hw => ?_⟩
      rw [hone] at hi
      have hik : i = k := by simpa using hi
      subst hik
      exact wpOp_mono (fun a' w' h' => ⟨h'.1, wpAnyR_lex L hs hQ l (i + 1) _ _ _ hl' hB' h'.2⟩) (hK w hw)
/-- it ends as it should, without a panic -/
def onlyN (QN : Act → World → Prop) : Exit → Act → World → Prop
  | .normal, a, w => QN a w
  | _, _, _ => False
theorem wp_region_lx (L : Later R) {id : Nat} {a : Act} {w : World} {l : List Oper} (hm : P.follows .mixedOrders = true) (hB : Region.lexB .any l.toArray = true)
    (h : wpLx P .any l.toArray R (onlyN (fun a w => Q .normal a w)) l 0 (Array.replicate l.length false) a w.drew) : (Code.region id l.toArray true).wp P Q a w := by
  simp only [Region.lexB, Bool.and_eq_true] at hB
  refine Code.wp_mono (Q := onlyN (fun a w => Q .normal a w)) (fun e a w h => ?_) (wp_region_any hm (wpAny_of_R L _ _ _ _ _ (L.refl _) ?_))
  · cases e <;> first | exact h | exact (h : False).elim
  · have := wpAnyR_lex (md := .any) L hB.1 (fun _ _ _ _ _ h => h) l 0 (Array.replicate l.toArray.size false) a w.drew (by simp) (by simpa using hB.2) (by simpa using h)
    simpa using this
variable {o : Oper} {rest : List Oper} {k : Nat} {listed : Array Bool} {a : Act} {wc : World}
theorem lx_nil {QN : Act → World → Prop} (h : ∀ w, R wc w → QN a w) : wpLx P md ops R (onlyN QN) [] k listed a wc := h
theorem lx_ex (hw : Region.wanted o (yielded ops a.tmps) = true) (h : ∃ v, (∀ w, R wc w → o.quietAt P a (R w) w v) ∧ wpLx P md ops R Q rest (k + 1) (listed.setIfInBounds k true) (a.put o.dst v) wc) : wpLx P md ops R Q (o :: rest) k listed a wc :=
  .inl (let ⟨v, h1, h2⟩ := h; ⟨v, .inl ⟨hw, h1⟩, h2⟩)
theorem lx_at (hw : Region.wanted o (yielded ops a.tmps) = true) (v : Value) (h1 : ∀ w, R wc w → o.quietAt P a (R w) w v) (h2 : wpLx P md ops R Q rest (k + 1) (listed.setIfInBounds k true) (a.put o.dst v) wc) : wpLx P md ops R Q (o :: rest) k listed a wc :=
  .inl ⟨v, .inl ⟨hw, h1⟩, h2⟩
theorem lx_skip (hw : Region.wanted o (yielded ops a.tmps) = false) (h : wpLx P md ops R Q rest (k + 1) (listed.setIfInBounds k true) (a.put o.dst undef) wc) : wpLx P md ops R Q (o :: rest) k listed a wc :=
  .inl ⟨undef, .inr ⟨hw, rfl⟩, h⟩
theorem lx_alone (hone : Region.ready md ops listed = [k]) (hk : ops[k]? = some o) (hw : Region.wanted o (yielded ops a.tmps) = true)
    (h : ∀ w, R wc w → o.wp P a w (fun a' w' => R w w' ∧ wpLx P md ops R Q rest (k + 1) (listed.setIfInBounds k true) a' w') Q) : wpLx P md ops R Q (o :: rest) k listed a wc :=
  .inr ⟨hone, fun w hR => by unfold wpOp; simp only [hk, hw, if_true]; exact .inl (h w hR)⟩
theorem lx_run (hw : Region.wanted o (yielded ops a.tmps) = true) (v : Value) (h1 : ∀ w, (execOp a.eval o).run P w = .ok (.value v) w) (h2 : wpLx P md ops R Q rest (k + 1) (listed.setIfInBounds k true) (a.put o.dst v) wc) : wpLx P md ops R Q (o :: rest) k listed a wc :=
  lx_at hw v (fun w _ => by unfold Oper.quietAt; rw [h1]; exact ⟨rfl, rfl⟩) h2
theorem lx_read (hw : Region.wanted o (yielded ops a.tmps) = true) (v : Value) (h1 : ∀ w, R wc w → (execOp a.eval o).run P w = .ok (.value v) w) (h2 : wpLx P md ops R Q rest (k + 1) (listed.setIfInBounds k true) (a.put o.dst v) wc) : wpLx P md ops R Q (o :: rest) k listed a wc :=
  lx_at hw v (fun w hR => by unfold Oper.quietAt; rw [h1 w hR]; exact ⟨rfl, rfl⟩) h2
theorem lx_load_blk (hw : Region.wanted o (yielded ops a.tmps) = true) (ty : TypeId) (x : Operand) (ho : o.op = .load ty x) (g : Nat) (hx : a.eval x = .pointer (some ⟨g, 0, none⟩))
    {t : TypeId} {cs : Array Value} (hB : ∀ w, R wc w → Blk w g t cs) (d : TypeDesc) (hu : P.underlying ty = some d) (hd : (match d with | .struct _ | .array _ _ => true | _ => false) = true)
    (n : Nat) (hs : (P.info? ty).map (·.size) = some n) (hn : cs.size = n) (h : wpLx P md ops R Q rest (k + 1) (listed.setIfInBounds k true) (a.put o.dst (.agg cs)) wc) : wpLx P md ops R Q (o :: rest) k listed a wc := by
  refine lx_read hw _ (fun w hC => ?_) h
  unfold execOp
  simp only [ho, hx, Instr.loadAt, Instr.sureAddr, Sem.run_bind, Sem.run_pure, Result.andThen_ok, run_loadVar_row w g t ty cs (0, 0) d (hB w hC) hu hd (by rw [hn]; exact hs)]
theorem lx_callF (hw : Region.wanted o (yielded ops a.tmps) = true) (f : FuncId) {fn : Func} (hf : P.funcs[f]? = some fn) (hname : (fn.name == "runtime.NumGoroutine") = false) (hb : fn.body.isSome = true) (xs : Array Operand) (ts : Array TypeId)
    (ho : o.op = .call { callee := .value (.func f), args := xs, argTypes := ts }) (args : Array Value) (hx : xs.map a.eval = args) (v : Value)
    (hc : ∀ w, R wc w → Calls P f args w fun e w' => e = .returned v ∧ R w w') (h : wpLx P md ops R Q rest (k + 1) (listed.setIfInBounds k true) (a.put o.dst v) wc) : wpLx P md ops R Q (o :: rest) k listed a wc := by
  obtain ⟨c, hb⟩ := Option.isSome_iff_exists.1 hb
  have hn : ¬ fn.name = "runtime.NumGoroutine" := by simpa using hname
  refine lx_at hw v (fun w hR => ?_) h
  have he : a.eval (.func f) = .func (.func f) #[] #[] := rfl
  have hrun : (execOp a.eval o).run P w = .ok (.enter f args) w := by simp [execOp, ho, resolve, hx, he, Deferred.ofValue, invoke, callFunc, hf, hb, hn]
  unfold Oper.quietAt
  rw [hrun]
  exact ⟨rfl, hc w hR⟩
/-- a call that is the only one that may come up: whatever it hands back -/
theorem lx_callF_alone (L : Later R) (hone : Region.ready md ops listed = [k]) (hk : ops[k]? = some o) (hw : Region.wanted o (yielded ops a.tmps) = true) (f : FuncId) {fn : Func} (hf : P.funcs[f]? = some fn) (hname : (fn.name == "runtime.NumGoroutine") = false) (hb : fn.body.isSome = true) (xs : Array Operand) (ts : Array TypeId)
    (ho : o.op = .call { callee := .value (.func f), args := xs, argTypes := ts }) (args : Array Value) (hx : xs.map a.eval = args)
    (h : ∀ w, R wc w → Calls P f args w fun e w' => ∃ v, e = .returned v ∧ R w w' ∧ wpLx P md ops R Q rest (k + 1) (listed.setIfInBounds k true) (a.put o.dst v) w') : wpLx P md ops R Q (o :: rest) k listed a wc := by
  obtain ⟨c, hb⟩ := Option.isSome_iff_exists.1 hb
  have hn : ¬ fn.name = "runtime.NumGoroutine" := by simpa using hname
  refine lx_alone hone hk hw fun w hR => ?_
  have he : a.eval (.func f) = .func (.func f) #[] #[] := rfl
  have hrun : (execOp a.eval o).run P w = .ok (.enter f args) w := by simp [execOp, ho, resolve, hx, he, Deferred.ofValue, invoke, callFunc, hf, hb, hn]
  unfold Oper.wp
  rw [hrun]
  refine (h w hR).mono fun e w' ⟨v, e1, h1, h2⟩ => ?_
  subst e1
  exact ⟨h1, h2⟩
end
end Go.Proofs.Ytlepchdlkhogiaa
namespace Go.Proofs.Ytlepchdlkhogiaa
set_option linter.unusedVariables false
set_option linter.unusedSimpArgs false
open Go.RowKit
def ints (zs : List Int) : List Value := zs.map (Value.int .i64)
theorem ints_at (zs : List Int) (k : Nat) (u : Value) (h : (ints zs)[k]? = some u) : ∃ hk : k < zs.length, u = .int .i64 zs[k] := by
  unfold ints at h
  rw [List.getElem?_map] at h
  obtain ⟨z, hz, rfl⟩ := Option.map_eq_some_iff.1 h
  obtain ⟨hk, e⟩ := List.getElem?_eq_some_iff.1 hz
  exact ⟨hk, by rw [e]⟩
theorem ints_len (zs : List Int) : (ints zs).length = zs.length := by simp [ints]
theorem take_succ_iff {α : Type} (xs ys : List α) (k : Nat) (h1 : k < xs.length) (h2 : k < ys.length) :
    xs.take (k + 1) = ys.take (k + 1) ↔ xs.take k = ys.take k ∧ xs[k] = ys[k] := by
  rw [List.take_succ_eq_append_getElem h1, List.take_succ_eq_append_getElem h2]
  constructor
  · intro h
    have := List.append_inj h (by simp; omega)
    exact ⟨this.1, by simpa using this.2⟩
  · rintro ⟨a, b⟩; rw [a, b]
set_option maxHeartbeats 400000 in
theorem eqInt_any (u v : Value) (xs ys : List Int) (w : World) (hu : SL w 1 u xs.length (ints xs)) (hv : SL w 1 v ys.length (ints ys)) :
    Calls Try.prog 17 #[u, v] w fun e w' => e = .returned (.bool (decide (xs = ys))) ∧ w = w' := by
  have hu' := hu
  have hv' := hv
  obtain ⟨A, c, rfl, hc1, hc2, -, -⟩ := hu'
  obtain ⟨B, d, rfl, hd1, hd2, -, -⟩ := hv'
  by_cases hl : (xs.length : Int) != ys.length
  · go_enter Try.func17, Try.ntmps17
    go_wp2
    go_ret
    refine ⟨?_, rfl⟩
    have : xs ≠ ys := by rintro rfl; simp at hl
    simp [this]
  · have h9 : (xs.length : Int) = ys.length := by simpa using hl
    have hl' : xs.length = ys.length := by omega
    clear h9
    have HL := hl'
    have hn : ((xs.length : Int) != ys.length) = false := by simpa using hl
    have HE : Hid (xs.length = ys.length) := HL
    clear hl HL
    go_enter Try.func17, Try.ntmps17
    clear hl'
    go_wp2
    go_loop [14] (fun i => ∃ k : Nat, k ≤ xs.length ∧ i = .int .i64 k ∧ xs.take k = ys.take k) (fun i => xs.length - (intOf i).toNat)
    case atStart => exact ⟨0, by omega, rfl, by simp⟩
    case round =>
      obtain ⟨k, hk, rfl, ht⟩ := hrel
      have HT : Hid (xs.take k = ys.take k) := ht
      clear ht
      by_cases hlt : k < xs.length
      · have hlt2 : k < ys.length := by have := HE.out; omega
        obtain ⟨ad, u, rfl, -, hx, hcell⟩ := hu.at1 hlt
        obtain ⟨_, rfl⟩ := ints_at _ _ _ hx
        obtain ⟨bd, u, rfl, -, hy, hcell2⟩ := hv.at1 hlt2
        obtain ⟨_, rfl⟩ := ints_at _ _ _ hy
        clear hx hy
        by_cases hq : xs[k] = ys[k]
        · have hq' : ((xs[k] : Int) != ys[k]) = false := by simpa using hq
          have HQ : Hid (xs[k] = ys[k]) := hq
          clear hq
          go_wp2
          go_round
          case rel => exact ⟨k + 1, by omega, by go_num, (take_succ_iff _ _ _ hlt hlt2).2 ⟨HT.out, HQ.out⟩⟩
          case measure => simp [intOf]; omega
        · have hq' : ((xs[k] : Int) != ys[k]) = true := by simpa using hq
          go_wp2
          go_ret
          refine ⟨?_, rfl⟩
          have : xs ≠ ys := by rintro rfl; exact hq rfl
          simp [this]
      · go_wp2
        go_ret
        refine ⟨?_, rfl⟩
        have e : xs = ys := by
          have := HT.out
          rwa [List.take_of_length_le (by omega), List.take_of_length_le (by have := HE.out; omega)] at this
        simp [e]
theorem Blk.ints {w : World} {g : Nat} {T : TypeId} {zs : List Int} (h : Blk w g T (ints zs).toArray) (hl : zs.length ≤ 9223372036854775807) :
    SL w 1 (.slice (some ⟨g, 0, none⟩) zs.length zs.length) zs.length (Go.Proofs.Ytlepchdlkhogiaa.ints zs) := by
  have := h.sl (size := 1) (n := zs.length) (c := zs.length) (by simp [ints_len]) (Nat.le_refl _) hl
  simpa using this
/-- a literal against itself -/
theorem eqInt_lit (zs : List Int) (T : TypeId) (w1 : World) (hl : zs.length ≤ 9223372036854775807) (n g1 g2 : Nat) (hn : zs.length = n) (h1 : w1.heap.size = g1) (h2 : w1.heap.size + 1 = g2) (cs : List Value) (hcs : ints zs = cs) :
    Calls Try.prog 17 #[.slice (some ⟨g1, 0, none⟩) n n, .slice (some ⟨g2, 0, none⟩) n n] ((w1.alloc (.cells cs.toArray T)).alloc (.cells cs.toArray T)) fun e w' => e = .returned (.bool true) ∧ ((w1.alloc (.cells cs.toArray T)).alloc (.cells cs.toArray T)) = w' := by
  subst hn h1 h2 hcs
  have hA : Blk ((w1.alloc (.cells (ints zs).toArray T)).alloc (.cells (ints zs).toArray T)) w1.heap.size T (ints zs).toArray := (Blk.new w1 T _).alloc _
  have hB : Blk ((w1.alloc (.cells (ints zs).toArray T)).alloc (.cells (ints zs).toArray T)) (w1.heap.size + 1) T (ints zs).toArray := by
    have := Blk.new (w1.alloc (.cells (ints zs).toArray T)) T (ints zs).toArray
    rwa [World.size_alloc] at this
  exact (eqInt_any _ _ zs zs _ (hA.ints hl) (hB.ints hl)).mono fun e w' ⟨he, hw⟩ => ⟨by simpa using he, hw⟩
end Go.Proofs.Ytlepchdlkhogiaa
/- Plain arithmetic: rounding, clamping. -/
namespace Go.Proofs.Ytlepchdlkhogiaa
set_option linter.unusedVariables false
set_option linter.unusedSimpArgs false
/-- rounding of a number not below 0 -/
def rp (n d : Int) : Int := (2 * n + d) / (2 * d)
def rnd (n d : Int) : Int := if n < 0 then -(rp (-n) d) else rp n d
theorem rp_bounds (n d : Int) (h0 : 0 ≤ n) (hd : 1 ≤ d) : 0 ≤ rp n d ∧ rp n d ≤ n + 1 := by
  unfold rp
  constructor
  · exact Int.ediv_nonneg (by omega) (by omega)
  · have h1 : (2 * n + d) / (2 * d) * (2 * d) ≤ 2 * n + d := Int.ediv_mul_le _ (by omega)
    generalize (2 * n + d) / (2 * d) = q at *
    refine Int.not_lt.1 fun hq => ?_
    have h2 : (n + 2) * (2 * d) ≤ q * (2 * d) := Int.mul_le_mul_of_nonneg_right (by omega) (by omega)
    have h3 : n * 2 ≤ n * (2 * d) := Int.mul_le_mul_of_nonneg_left (by omega) h0
    rw [Int.add_mul] at h2
    omega
theorem rp_eq (n d : Int) (hd : 1 ≤ d) : rp n d = n / d + (if d ≤ 2 * (n % d) then 1 else 0) := by
  have e := Int.mul_ediv_add_emod n d
  have r0 := Int.emod_nonneg n (show d ≠ 0 by omega)
  have r1 := Int.emod_lt_of_pos n (show 0 < d by omega)
  unfold rp
  have e2 : 2 * n + d = (2 * (n % d) + d) + (2 * d) * (n / d) := by
    have : 2 * d * (n / d) = 2 * (d * (n / d)) := Int.mul_assoc _ _ _
    omega
  rw [e2, Int.add_mul_ediv_left _ _ (by omega)]
  have : (2 * (n % d) + d) / (2 * d) = if d ≤ 2 * (n % d) then 1 else 0 := by
    split
    · have e3 : 2 * (n % d) + d = (2 * (n % d) - d) + (2 * d) * 1 := by omega
      rw [e3, Int.add_mul_ediv_left _ _ (by omega), Int.ediv_eq_zero_of_lt (by omega) (by omega)]
      rfl
    · exact Int.ediv_eq_zero_of_lt (by omega) (by omega)
  rw [this]; omega
theorem rnd_bounds (n d : Int) (hd : 1 ≤ d) : -(n.natAbs : Int) - 1 ≤ rnd n d ∧ rnd n d ≤ n.natAbs + 1 := by
  unfold rnd
  split
  · have := rp_bounds (-n) d (by omega) hd; omega
  · have := rp_bounds n d (by omega) hd; omega
def clampZ (n lo hi : Int) : Int := if n < lo then lo else if hi < n then hi else n
theorem clampZ_bounds (n lo hi : Int) (h : lo ≤ hi) : lo ≤ clampZ n lo hi ∧ clampZ n lo hi ≤ hi := by
  unfold clampZ; split <;> (try split) <;> omega
theorem min_max (n lo hi : Int) (h : lo ≤ hi) : min (max n lo) hi = clampZ n lo hi := by
  unfold clampZ; split <;> (try split) <;> omega
/-- within bounds? -/
def inB (n lo hi : Int) : Bool := decide (lo ≤ n ∧ n ≤ hi)
theorem inB_iff {n lo hi : Int} : inB n lo hi = true ↔ lo ≤ n ∧ n ≤ hi := by simp [inB]
theorem inB_not {n lo hi : Int} : inB n lo hi = false ↔ n < lo ∨ hi < n := by rw [← Bool.not_eq_true, inB_iff]; omega
/-- are all within bounds? -/
def allIn (zs : List Int) (lo hi : Int) : Bool := zs.all fun z => inB z lo hi
theorem allIn_iff {zs : List Int} {lo hi : Int} : allIn zs lo hi = true ↔ ∀ z ∈ zs, lo ≤ z ∧ z ≤ hi := by simp [allIn, inB_iff]
theorem allIn_no {zs : List Int} {lo hi : Int} {k : Nat} (hk : k < zs.length) (h : inB zs[k] lo hi = false) : allIn zs lo hi = false := by
  rw [← Bool.not_eq_true, allIn_iff]
  intro hh
  have := inB_iff.2 (hh _ (List.getElem_mem hk))
  rw [this] at h; cases h
theorem allIn_not {zs : List Int} {lo hi : Int} : (!zs.any fun z => decide (z < lo) || decide (hi < z)) = allIn zs lo hi := by
  rw [Bool.eq_iff_iff, allIn_iff]
  simp only [Bool.not_eq_true', List.any_eq_false, Bool.or_eq_true, decide_eq_true_eq]
  exact ⟨fun h z hz => by have := h z hz; omega, fun h z hz => by have := h z hz; omega⟩
theorem inB_any {zs : List Int} {lo hi : Int} : (zs.any fun z => !inB z lo hi) = !allIn zs lo hi := by
  simp [allIn, List.all_eq_not_any_not]
end Go.Proofs.Ytlepchdlkhogiaa
/- Rows of integers by value: general facts. -/
namespace Go.Proofs.Ytlepchdlkhogiaa
set_option linter.unusedVariables false
set_option linter.unusedSimpArgs false
open Go.RowKit
theorem sizeInt : (Try.prog.info? 3).map (·.size) = some 1 := by kernel_rfl
/-- a block of 64 numbers, as a value -/
def bv (zs : List Int) : Array Value := (ints zs).toArray
theorem bv_size (zs : List Int) : (bv zs).size = zs.length := by simp [bv, ints_len]
theorem bv_at (zs : List Int) (k : Nat) (h : k < zs.length) : (bv zs)[k]? = some (.int .i64 zs[k]) := by simp [bv, ints, h]
theorem bv_one (zs : List Int) : (bv zs).all (·.oneCell') = true := by
  simp only [bv, Array.all_eq_true_iff_forall_mem]
  intro v hv
  simp only [List.mem_toArray, ints, List.mem_map] at hv
  obtain ⟨z, -, rfl⟩ := hv
  rfl
theorem bv_set (zs : List Int) (k : Nat) (z : Int) : (bv zs).setIfInBounds k (.int .i64 z) = bv (zs.set k z) := by
  simp [bv, ints, List.map_set]
theorem Blk.bsl {w : World} {g : Nat} {T : TypeId} {zs : List Int} {c : Nat} (h : Blk w g T (bv zs)) (hc : zs.length ≤ c) (hc2 : c ≤ 9223372036854775807) :
    SL w 1 (.slice (some ⟨g, 0, none⟩) zs.length c) zs.length (Go.Proofs.Ytlepchdlkhogiaa.ints zs) := by
  have := h.sl (size := 1) (n := zs.length) (c := c) (by simp [bv_size]) hc hc2
  simpa [bv] using this
theorem allIn_take {zs : List Int} {lo hi : Int} {k : Nat} (h : ∀ z ∈ zs.take k, lo ≤ z ∧ z ≤ hi) (hk : k < zs.length) (hz : lo ≤ zs[k] ∧ zs[k] ≤ hi) : ∀ z ∈ zs.take (k + 1), lo ≤ z ∧ z ≤ hi := by
  rw [List.take_succ_eq_append_getElem hk]
  intro z hz'
  rcases List.mem_append.1 hz' with h1 | h1
  · exact h z h1
  · simp at h1; subst h1; exact hz
end Go.Proofs.Ytlepchdlkhogiaa
