/- Contracts for the law RescueDecodesCard, part 1: what the functions that it reaches answer, for all arguments that the theorems name. -/
import Derived.Test.YtkggcjdlpendfaaGreatDoorProg
import Derived.WalkKit
import Derived.Deep.AppendLies
import Derived.Deep.Draws
import Derived.WalkSpells
import Derived.WalkLawsBesides
namespace Go.Proofs.YtkggcjdlpendfaaGreatDoor
set_option linter.unusedVariables false
set_option linter.unusedSimpArgs false
open Go.RowKit
theorem gS (k : Tmp) {P ops Q b c d e f r a w} (h : wpList P ops Q (⟨some k, b, c, d, e, f⟩ :: r) a w) : wpList P ops Q (⟨some k, b, c, d, e, f⟩ :: r) a w := h
theorem gT (x y : Tmp) {P ops Q t b c d e r a w} (h : wpList P ops Q (⟨none, .store t (.tmp x) (.tmp y), b, c, d, e⟩ :: r) a w) : wpList P ops Q (⟨none, .store t (.tmp x) (.tmp y), b, c, d, e⟩ :: r) a w := h
theorem sA {α : Type} {l : List α} {i : Nat} {a : α} : l.toArray.setIfInBounds i a = (l.set i a).toArray := List.setIfInBounds_toArray ..
theorem sB {α : Type} {a b : α} {l : List α} {n : Nat} : (a :: l).set (n + 1) b = a :: l.set n b := List.set_cons_succ
theorem sC {α : Type} {a b : α} {l : List α} : (a :: l).set 0 b = b :: l := List.set_cons_zero
theorem block_of_add (a : Addr) (n : Nat) : (a.add n).block = a.block := by unfold Addr.add; split <;> rfl
theorem add_of_add (a : Addr) (i j : Nat) : (a.add i).add j = a.add (i + j) := by
 unfold Addr.add
 by_cases hi : i = 0 <;> by_cases hj : j = 0 <;> simp [hi, hj, Nat.add_assoc]
def SL (w : World) (size : Nat) (v : Value) (n : Nat) (xs : List Value) : Prop :=
 ∃ A c, v = .slice A n c ∧ n ≤ c ∧ c ≤ 9223372036854775807 ∧ xs.length = n * size ∧ (0 < n → ∃ ad, A = some ad ∧ ad.block < w.heap.size ∧ ∀ j u, xs[j]? = some u → w.cell? (ad.add j) = some u)
theorem hid_ {p : Prop} (h : p) : Hid p := h
abbrev Ext (w w' : World) : Prop := Below w.heap.size w w'
theorem Ext.refl (w : World) : Ext w w := Below.refl _ _
theorem Ext.trans {a b c : World} (h : Ext a b) (k : Ext b c) : Ext a c := Below.trans h (Below.mono k h.size)
theorem Ext.alloc {a w : World} (h : Ext a w) (o : Obj) : Ext a (w.alloc o) := Below.alloc h h.size o
theorem Ext.drew {a w : World} (h : Ext a w) : Ext a w.drew := Below.drew h
theorem below_drewN {B : Nat} {a w : World} (h : Below B a w) (n : Nat) : Below B a (w.drewN n) := ⟨h.os, h.tape, h.output, h.size, h.block⟩
theorem SL.ext {w w' : World} {size n : Nat} {v : Value} {xs : List Value} (h : SL w size v n xs) (hb : Ext w w') : SL w' size v n xs := by
 obtain ⟨A, c, rfl, h1, h1', h2, h3⟩ := h
 refine ⟨A, c, rfl, h1, h1', h2, fun hn => ?_⟩
 obtain ⟨ad, e, hlt, hc⟩ := h3 hn
 exact ⟨ad, e, Nat.lt_of_lt_of_le hlt hb.size, fun j u hu => (hb.cell (by rw [block_of_add]; exact hlt)).trans (hc j u hu)⟩
theorem SL.nil (w : World) (size : Nat) : SL w size (.slice none 0 0) 0 [] := ⟨none, 0, rfl, by omega, by omega, by simp, fun h => absurd h (by omega)⟩
theorem SL.at1 {w : World} {A : Option Addr} {n c : Nat} {xs : List Value} {k : Nat} (h : SL w 1 (.slice A n c) n xs) (hk : k < n) :
 ∃ ad u, A = some ad ∧ ad.block < w.heap.size ∧ xs[k]? = some u ∧ w.cell? (ad.add k) = some u := by
 obtain ⟨A', c', e, _, _, h2, h3⟩ := h
 injection e with e1 e2 e3
 subst e1
 obtain ⟨ad, ea, hb, hc⟩ := h3 (by omega)
 have hl : k < xs.length := by omega
 exact ⟨ad, xs[k], ea, hb, List.getElem?_eq_getElem hl, hc k _ (List.getElem?_eq_getElem hl)⟩
def Blk (w : World) (g : Nat) (t : TypeId) (cs : Array Value) : Prop := w.heap[g]? = some (.cells cs t (0, 0))
section
variable {w w' : World} {g : Nat} {t : TypeId} {cs : Array Value}
theorem Blk.lt (h : Blk w g t cs) : g < w.heap.size := by
 rcases Nat.lt_or_ge g w.heap.size with hlt | hge
 ·exact hlt
 ·unfold Blk at h; rw [Array.getElem?_eq_none hge] at h; cases h
theorem Blk.cell (h : Blk w g t cs) (i : Nat) : w.cell? ⟨g, i, none⟩ = cs[i]? := cell_of_row w g i cs t (0, 0) h
theorem Blk.frozen (h : Blk w g t cs) (i : Nat) : w.frozen? ⟨g, i, none⟩ = false := by
 unfold Blk at h
 simp [World.frozen?, h]
theorem Blk.new (w : World) (t : TypeId) (cs : Array Value) : Blk (w.alloc (.cells cs t)) w.heap.size t cs := heap_alloc_new w _
theorem Blk.drew (h : Blk w g t cs) : Blk w.drew g t cs := h
theorem Blk.alloc (h : Blk w g t cs) (o : Obj) : Blk (w.alloc o) g t cs := (Below.heap_alloc w o g h.lt).trans h
theorem Blk.set_ (h : Blk w g t cs) (i : Nat) (u : Value) : Blk (w.setCell ⟨g, i, none⟩ u) g t (cs.setIfInBounds i u) := by
 unfold Blk at h ⊢
 simp [World.setCell, Array.getElem?_modify, h]
theorem Blk.far (h : Blk w g t cs) {p : Addr} (hp : g ≠ p.block) (u : Value) : Blk (w.setCell p u) g t cs := (Below.heap_setCell w p u g hp).trans h
theorem Blk.below {B : Nat} (h : Blk w g t cs) (hb : Below B w w') (hg : g < B) : Blk w' g t cs := (hb.block g hg).trans h
theorem Blk.ext (h : Blk w g t cs) (hb : Ext w w') : Blk w' g t cs := h.below hb h.lt
theorem Blk.grown {row : Option Nat} (h : Blk w g t cs) (hb : w.grownBy w' row) (hg : some g ≠ row) : Blk w' g t cs := (hb.block g h.lt hg).trans h
theorem Blk.ne_ {g' : Nat} {t' : TypeId} {cs' : Array Value} (h : Blk w g t cs) (h' : Blk w g' t' cs') (hne : t ≠ t') : g ≠ g' := by
 rintro rfl
 unfold Blk at h h'
 rw [h] at h'
 injection h' with h'
 injection h' with _ ht
 exact hne ht
theorem Blk.sl (h : Blk w g t cs) {size n c : Nat} (hs : cs.size = n * size) (hc : n ≤ c) (hc2 : c ≤ 9223372036854775807) : SL w size (.slice (some ⟨g, 0, none⟩) n c) n cs.toList := by
 refine ⟨_, _, rfl, hc, hc2, by simpa using hs, fun _ => ⟨_, rfl, h.lt, fun j u hu => ?_⟩⟩
 have e : (⟨g, 0, none⟩ : Addr).add j = ⟨g, j, none⟩ := by
  unfold Addr.add
  by_cases hj : j = 0
  ·subst hj; rfl
  ·rw [if_neg hj]; simp
 rw [e, h.cell, ← hu]; simp
end
section
variable {P : Program} {ops : Array Oper} {rest : List Oper} {o : Oper} {a : Act} {w : World} {Q : Exit → Act → World → Prop}
theorem wLdB (hgd : o.guard = none) (ty : TypeId) (x : Operand) (ho : o.op = .load ty x) (g : Nat) (hx : a.eval x = .pointer (some ⟨g, 0, none⟩))
 {t : TypeId} {cs : Array Value} (hB : Blk w g t cs) (d : TypeDesc) (hu : P.underlying ty = some d) (hd : (match d with | .struct _ | .array _ _ => true | _ => false) = true)
 (n : Nat) (hs : (P.info? ty).map (·.size) = some n) (hn : cs.size = n) (h : wpList P ops Q rest (a.put o.dst (.agg cs)) w) : wpList P ops Q (o :: rest) a w :=
 wpList_load_row hgd ty x ho g hx t cs (0, 0) d hB hu hd (by rw [hn]; exact hs) h
theorem wStB (hgd : o.guard = none) (ty : TypeId) (x y : Operand) (ho : o.op = .store ty x y) (g : Nat) (cells : Array Value) (hx : a.eval x = .pointer (some ⟨g, 0, none⟩)) (hy : a.eval y = .agg cells)
 {t : TypeId} {old : Array Value} (hB : Blk w g t old) (n : Nat) (hs : (P.info? ty).map (·.size) = some n) (hn : cells.size = n) (hold : old.size = n) (h1 : cells.all (·.oneCell') = true)
 (h : ∀ w1, Blk w1 g t cells → w.grownBy w1 (some g) → wpList P ops Q rest (a.put o.dst undef) w1) : wpList P ops Q (o :: rest) a w :=
 wpList_store_row hgd ty x y ho g cells hx hy t old hB (by rw [hn]; exact hs) (by rw [hn, hold]) h1
  (h _ (setRow_heap w g old cells t (0, 0) hB) ⟨rfl, rfl, rfl, by simp, fun k hk hne => setRow_other w g k cells (fun e => hne (by rw [e]))⟩)
theorem ret_cell_tmp {fn : Func} {R : Ending → World → Prop} {p u : Tmp} {ty : TypeId} (h : fn.results = #[.cell p ty, .tmp u]) (hdf : a.defers = []) (g : Nat) {t : TypeId} {cs : Array Value}
 (hp : a.tmps.getD p undef = .pointer (some ⟨g, 0, none⟩)) (hB : Blk w g t cs) (d : TypeDesc) (hu : P.underlying ty = some d) (hd : (match d with | .struct _ | .array _ _ => true | _ => false) = true)
 (n : Nat) (hs : (P.info? ty).map (·.size) = some n) (hn : cs.size = n) (hR : R (.returned (.tuple #[.agg cs, a.tmps.getD u undef])) w) : bodyPost P fn R .ret a w := by
 refine bodyPost_ret ?_ hdf hR
 rw [results_cell_tmp h]
 have e := run_loadVar_row (P := P) w g t ty cs (0, 0) d hB hu hd (by rw [hn]; exact hs)
 simp [hp, asAddr, e, Result.andThen]
theorem ret_cell {fn : Func} {R : Ending → World → Prop} {p : Tmp} {ty : TypeId} (h : fn.results = #[.cell p ty]) (hdf : a.defers = []) (g : Nat) {t : TypeId} {cs : Array Value}
 (hp : a.tmps.getD p undef = .pointer (some ⟨g, 0, none⟩)) (hB : Blk w g t cs) (d : TypeDesc) (hu : P.underlying ty = some d) (hd : (match d with | .struct _ | .array _ _ => true | _ => false) = true)
 (n : Nat) (hs : (P.info? ty).map (·.size) = some n) (hn : cs.size = n) (hR : R (.returned (.agg cs)) w) : bodyPost P fn R .ret a w :=
 bodyPost_ret (results_cell_row h _ _ g t cs (0, 0) d hp hB hu hd (by rw [hn]; exact hs)) hdf hR
end
theorem run_index_agg {P : Program} (t e : TypeId) (n : Nat) (cs : Array Value) (i : Nat) (u : Value) (ht : P.underlying t = some (.array n e)) (k : IntKind) (he : P.underlying e = some (.int k)) (hs : (P.info? e).map (·.size) = some 1)
 (hi : i < n) (hu : cs[i]? = some u) (w : World) : (Instr.index t (.agg cs) (.int .i64 (i : Int))).run P w = .ok u w := by
 cases hq : P.info? e with
 | none => simp [hq] at hs
 | some inf =>
   have hz : inf.size = 1 := by simpa [hq] using hs
   have hb : (0 : Int) ≤ i ∧ (i : Int) < n := by omega
   have hagg : (isAgg e).run P w = .ok false w := by
    unfold isAgg
    rw [Sem.run_bind, run_underlying he w]
    rfl
   have hc : ((0 : Int) ≤ (i : Int) ∧ (i : Int) < (n : Int)) = True := by simp; omega
   simp only [Instr.index, asIntOf, Sem.run_bind, Sem.run_pure, Result.andThen_ok, run_underlying ht, hc, if_true]
   simp [sizeOf, typeInfo, hq, hz, part, hagg, hu]
section
variable {P : Program} {ops : Array Oper} {rest : List Oper} {o : Oper} {a : Act} {w : World} {Q : Exit → Act → World → Prop}
theorem wBox (hg : o.guard = none) (t : TypeId) (x : Operand) (ho : o.op = .box t x) (cs : Array Value) (hx : (a.eval x).cells = cs)
 (h : ∀ w1 g, Blk w1 g t cs → Ext w w1 → w.heap.size ≤ g → wpList P ops Q rest (a.put o.dst (.pointer (some ⟨g, 0, none⟩))) w1) : wpList P ops Q (o :: rest) a w := by
 subst hx
 refine wpList_plain hg fun K hK => ?_
 unfold Oper.wp execOp
 simp only [ho, Sem.run_bind, Instr.box, newVar, newRow, run_newObj_alloc, Sem.run_pure, Result.andThen_ok]
 exact hK _ _ (h _ _ (Blk.new w t _) ((Ext.refl w).alloc _) (Nat.le_refl _))
theorem wpList_alloc_abs (hg : o.guard = none) (t : TypeId) (ho : o.op = .alloc t) (z : Value) (hz : (P.info? t).bind (·.zero) = some z)
 (h : ∀ w1 g, Blk w1 g t z.cells → Ext w w1 → w.heap.size ≤ g → wpList P ops Q rest (a.put o.dst (.pointer (some ⟨g, 0, none⟩))) w1) : wpList P ops Q (o :: rest) a w := by
 cases hq : P.info? t with
 | none => simp [hq] at hz
 | some inf =>
   have hz' : inf.zero = some z := by simpa [hq] using hz
   have hzv : (zeroValue t).run P w = .ok z w := by simp [zeroValue, typeInfo, hq, hz']
   refine wpList_plain hg fun K hK => ?_
   unfold Oper.wp execOp
   simp only [ho, Sem.run_bind, Instr.alloc, hzv, newVar, newRow, run_newObj_alloc, Sem.run_pure, Result.andThen_ok]
   exact hK _ _ (h _ _ (Blk.new w t _) ((Ext.refl w).alloc _) (Nat.le_refl _))
end
theorem wpList_build_abs {P : Program} {ops : Array Oper} {rest : List Oper} {o : Oper} {a : Act} {w : World} {Q : Exit → Act → World → Prop} (hg : o.guard = none) (t : TypeId) (parts : Array (Nat × Operand)) (ho : o.op = .build t parts)
 (cs : Array Value) (hf : P.built t (parts.map fun (i, x) => (i, a.eval x)).toList = some cs) (h : wpList P ops Q rest (a.put o.dst (.agg cs)) w) : wpList P ops Q (o :: rest) a w :=
 wpList_build hg t parts ho (by rw [hf]; rfl) (by rw [hf]; exact h)
theorem wpList_build0 {P : Program} {ops : Array Oper} {rest : List Oper} {o : Oper} {a : Act} {w : World} {Q : Exit → Act → World → Prop} (hg : o.guard = none) (t : TypeId) (ho : o.op = .build t #[])
 (cs : Array Value) (hf : P.built t [] = some cs) (h : wpList P ops Q rest (a.put o.dst (.agg cs)) w) : wpList P ops Q (o :: rest) a w :=
 wpList_build_abs hg t #[] ho cs (by simpa using hf) h
theorem wpList_wanted {P : Program} {ops : Array Oper} {rest : List Oper} {o : Oper} {a : Act} {w : World} {Q : Exit → Act → World → Prop} (hw : Region.wanted o (yielded ops a.tmps) = true)
 (h : ∀ K : Act → World → Prop, (∀ a w, wpList P ops Q rest a w → K a w) → o.wp P a w K Q) : wpList P ops Q (o :: rest) a w :=
 wpList_step fun K hK => by rw [if_pos hw]; exact h K hK
theorem wpList_load_blk_g {P : Program} {ops : Array Oper} {rest : List Oper} {o : Oper} {a : Act} {w : World} {Q : Exit → Act → World → Prop} (hw : Region.wanted o (yielded ops a.tmps) = true)
 (ty : TypeId) (x : Operand) (ho : o.op = .load ty x) (g : Nat) (hx : a.eval x = .pointer (some ⟨g, 0, none⟩))
 {t : TypeId} {cs : Array Value} (hB : Blk w g t cs) (d : TypeDesc) (hu : P.underlying ty = some d) (hd : (match d with | .struct _ | .array _ _ => true | _ => false) = true)
 (n : Nat) (hs : (P.info? ty).map (·.size) = some n) (hn : cs.size = n) (h : wpList P ops Q rest (a.put o.dst (.agg cs)) w) : wpList P ops Q (o :: rest) a w :=
 wpList_wanted hw fun _ hK => wp_load_row ty x ho g hx t cs (0, 0) d hB hu hd (by rw [hn]; exact hs) (hK _ _ h)
theorem calls_turn {P : Program} {f : FuncId} {args : Array Value} {w : World} {v : Value} (h : Calls P f args w fun e w' => e = .returned v ∧ w = w') : Calls P f args w fun e w' => e = .returned v ∧ w' = w :=
 h.mono fun _ _ ⟨a, b⟩ => ⟨a, b.symm⟩
theorem wAlo' {P : Program} {ops : Array Oper} {rest : List Oper} {o : Oper} {a : Act} {w : World} {Q : Exit → Act → World → Prop} (hg : o.guard = none) (dst : Option Tmp) (hdst : o.dst = dst) (t : TypeId) (ho : o.op = .alloc t) (z : Value) (hz : (P.info? t).bind (·.zero) = some z)
 (h : ∀ w1 g, Blk w1 g t z.cells → Ext w w1 → w.heap.size ≤ g → wpList P ops Q rest (a.put dst (.pointer (some ⟨g, 0, none⟩))) w1) : wpList P ops Q (o :: rest) a w := by
 subst hdst
 exact wpList_alloc_abs hg t ho z hz h
theorem wpList_build0_g {P : Program} {ops : Array Oper} {rest : List Oper} {o : Oper} {a : Act} {w : World} {Q : Exit → Act → World → Prop} (hw : Region.wanted o (yielded ops a.tmps) = true) (t : TypeId) (ho : o.op = .build t #[])
 (cs : Array Value) (hf : P.built t [] = some cs) (h : wpList P ops Q rest (a.put o.dst (.agg cs)) w) : wpList P ops Q (o :: rest) a w :=
 wpList_wanted hw fun _ hK => wp_build t #[] ho (by simp [hf]) (by simpa [hf] using hK _ _ h)
theorem Ext.grown {a w w' : World} (h : Ext a w) {g : Nat} (hg : w.grownBy w' (some g)) (hB : a.heap.size ≤ g) : Ext a w' :=
 Below.grown h hg h.size (fun k hk => by injection hk with hk; omega)
theorem Ext.setCell {a w : World} (h : Ext a w) {p : Addr} (hp : a.heap.size ≤ p.block) (u : Value) : Ext a (w.setCell p u) := Below.setCell h hp u
theorem vint {a b : Int} (h : a = b) : Value.int .i64 a = Value.int .i64 b := by rw [h]
def ints (zs : List Int) : List Value := zs.map (Value.int .i64)
theorem ints_at (zs : List Int) (k : Nat) (u : Value) (h : (ints zs)[k]? = some u) : ∃ hk : k < zs.length, u = .int .i64 zs[k] := by
 unfold ints at h
 rw [List.getElem?_map] at h
 obtain ⟨z, hz, rfl⟩ := Option.map_eq_some_iff.1 h
 obtain ⟨hk, e⟩ := List.getElem?_eq_some_iff.1 hz
 exact ⟨hk, by rw [e]⟩
theorem ints_len (zs : List Int) : (ints zs).length = zs.length := by simp [ints]
theorem take_succ_iff {α : Type} (xs ys : List α) (k : Nat) (h1 : k < xs.length) (h2 : k < ys.length) :
 xs.take (k + 1) = ys.take (k + 1) ↔ xs.take k = ys.take k ∧ xs[k] = ys[k] := by
 rw [List.take_succ_eq_append_getElem h1, List.take_succ_eq_append_getElem h2]
 constructor
 ·intro h
  have := List.append_inj h (by simp; omega)
  exact ⟨this.1, by simpa using this.2⟩
 ·rintro ⟨a, b⟩; rw [a, b]
set_option maxHeartbeats 400000 in
theorem eqInt_any (u v : Value) (xs ys : List Int) (w : World) (hu : SL w 1 u xs.length (ints xs)) (hv : SL w 1 v ys.length (ints ys)) :
 Calls Tryz.prog 26 #[u, v] w fun e w' => e = .returned (.bool (decide (xs = ys))) ∧ w = w' := by
 have hu' := hu
 have hv' := hv
 obtain ⟨A, c, rfl, hc1, hc2, -, -⟩ := hu'
 obtain ⟨B, d, rfl, hd1, hd2, -, -⟩ := hv'
 by_cases hl : (xs.length : Int) != ys.length
 ·go_enter Tryz.func26, Tryz.ntmps26
  go_wp2
  go_ret
  refine ⟨?_, rfl⟩
  have : xs ≠ ys := by rintro rfl; simp at hl
  simp [this]
 ·have h9 : (xs.length : Int) = ys.length := by simpa using hl
  have hl' : xs.length = ys.length := by omega
  clear h9
  have HL := hl'
  have hn : ((xs.length : Int) != ys.length) = false := by simpa using hl
  have HE : Hid (xs.length = ys.length) := HL
  clear hl HL
  go_enter Tryz.func26, Tryz.ntmps26
  clear hl'
  go_wp2
  go_loop [14] (fun i => ∃ k : Nat, k ≤ xs.length ∧ i = .int .i64 k ∧ xs.take k = ys.take k) (fun i => xs.length - (intOf i).toNat)
  case atStart => exact ⟨0, by omega, rfl, by simp⟩
  case round =>
   obtain ⟨k, hk, rfl, ht⟩ := hrel
   have HT : Hid (xs.take k = ys.take k) := ht
   clear ht
   by_cases hlt : k < xs.length
   ·have hlt2 : k < ys.length := by have := HE.out; omega
    obtain ⟨ad, u, rfl, -, hx, hcell⟩ := hu.at1 hlt
    obtain ⟨_, rfl⟩ := ints_at _ _ _ hx
    obtain ⟨bd, u, rfl, -, hy, hcell2⟩ := hv.at1 hlt2
    obtain ⟨_, rfl⟩ := ints_at _ _ _ hy
    clear hx hy
    by_cases hq : xs[k] = ys[k]
    ·have hq' : ((xs[k] : Int) != ys[k]) = false := by simpa using hq
     have HQ : Hid (xs[k] = ys[k]) := hq
     clear hq
     go_wp2
     go_round
     case rel => exact ⟨k + 1, by omega, by go_num, (take_succ_iff _ _ _ hlt hlt2).2 ⟨HT.out, HQ.out⟩⟩
     case measure => simp [intOf]; omega
    ·have hq' : ((xs[k] : Int) != ys[k]) = true := by simpa using hq
     go_wp2
     go_ret
     refine ⟨?_, rfl⟩
     have : xs ≠ ys := by rintro rfl; exact hq rfl
     simp [this]
   ·go_wp2
    go_ret
    refine ⟨?_, rfl⟩
    have e : xs = ys := by
     have := HT.out
     rwa [List.take_of_length_le (by omega), List.take_of_length_le (by have := HE.out; omega)] at this
    simp [e]
def rp (n d : Int) : Int := (2 * n + d) / (2 * d)
def rnd (n d : Int) : Int := if n < 0 then -(rp (-n) d) else rp n d
theorem rp_bounds (n d : Int) (h0 : 0 ≤ n) (hd : 1 ≤ d) : 0 ≤ rp n d ∧ rp n d ≤ n + 1 := by
 unfold rp
 constructor
 ·exact Int.ediv_nonneg (by omega) (by omega)
 ·have h1 : (2 * n + d) / (2 * d) * (2 * d) ≤ 2 * n + d := Int.ediv_mul_le _ (by omega)
  generalize (2 * n + d) / (2 * d) = q at *
  refine Int.not_lt.1 fun hq => ?_
  have h2 : (n + 2) * (2 * d) ≤ q * (2 * d) := Int.mul_le_mul_of_nonneg_right (by omega) (by omega)
  have h3 : n * 2 ≤ n * (2 * d) := Int.mul_le_mul_of_nonneg_left (by omega) h0
  rw [Int.add_mul] at h2
  omega
theorem rp_eq (n d : Int) (hd : 1 ≤ d) : rp n d = n / d + (if d ≤ 2 * (n % d) then 1 else 0) := by
 have e := Int.mul_ediv_add_emod n d
 have r0 := Int.emod_nonneg n (show d ≠ 0 by omega)
 have r1 := Int.emod_lt_of_pos n (show 0 < d by omega)
 unfold rp
 have e2 : 2 * n + d = (2 * (n % d) + d) + (2 * d) * (n / d) := by
  have : 2 * d * (n / d) = 2 * (d * (n / d)) := Int.mul_assoc _ _ _
  omega
 rw [e2, Int.add_mul_ediv_left _ _ (by omega)]
 have : (2 * (n % d) + d) / (2 * d) = if d ≤ 2 * (n % d) then 1 else 0 := by
  split
  ·have e3 : 2 * (n % d) + d = (2 * (n % d) - d) + (2 * d) * 1 := by omega
   rw [e3, Int.add_mul_ediv_left _ _ (by omega), Int.ediv_eq_zero_of_lt (by omega) (by omega)]
   rfl
  ·exact Int.ediv_eq_zero_of_lt (by omega) (by omega)
 rw [this]; omega
theorem rnd_bounds (n d : Int) (hd : 1 ≤ d) : -(n.natAbs : Int) - 1 ≤ rnd n d ∧ rnd n d ≤ n.natAbs + 1 := by
 unfold rnd
 split
 ·have := rp_bounds (-n) d (by omega) hd; omega
 ·have := rp_bounds n d (by omega) hd; omega
def clampZ (n lo hi : Int) : Int := if n < lo then lo else if hi < n then hi else n
theorem clampZ_bounds (n lo hi : Int) (h : lo ≤ hi) : lo ≤ clampZ n lo hi ∧ clampZ n lo hi ≤ hi := by
 unfold clampZ; split <;> (try split) <;> omega
theorem min_max (n lo hi : Int) (h : lo ≤ hi) : min (max n lo) hi = clampZ n lo hi := by
 unfold clampZ; split <;> (try split) <;> omega
def inB (n lo hi : Int) : Bool := decide (lo ≤ n ∧ n ≤ hi)
theorem inB_iff {n lo hi : Int} : inB n lo hi = true ↔ lo ≤ n ∧ n ≤ hi := by simp [inB]
theorem inB_not {n lo hi : Int} : inB n lo hi = false ↔ n < lo ∨ hi < n := by rw [← Bool.not_eq_true, inB_iff]; omega
def allIn (zs : List Int) (lo hi : Int) : Bool := zs.all fun z => inB z lo hi
theorem allIn_iff {zs : List Int} {lo hi : Int} : allIn zs lo hi = true ↔ ∀ z ∈ zs, lo ≤ z ∧ z ≤ hi := by simp [allIn, inB_iff]
theorem allIn_no {zs : List Int} {lo hi : Int} {k : Nat} (hk : k < zs.length) (h : inB zs[k] lo hi = false) : allIn zs lo hi = false := by
 rw [← Bool.not_eq_true, allIn_iff]
 intro hh
 have := inB_iff.2 (hh _ (List.getElem_mem hk))
 rw [this] at h; cases h
theorem allIn_not {zs : List Int} {lo hi : Int} : (!zs.any fun z => decide (z < lo) || decide (hi < z)) = allIn zs lo hi := by
 rw [Bool.eq_iff_iff, allIn_iff]
 simp only [Bool.not_eq_true', List.any_eq_false, Bool.or_eq_true, decide_eq_true_eq]
 exact ⟨fun h z hz => by have := h z hz; omega, fun h z hz => by have := h z hz; omega⟩
theorem inB_any {zs : List Int} {lo hi : Int} : (zs.any fun z => !inB z lo hi) = !allIn zs lo hi := by
 simp [allIn, List.all_eq_not_any_not]
theorem sizeInt : (Tryz.prog.info? 3).map (·.size) = some 1 := by kernel_rfl
def bv (zs : List Int) : Array Value := (ints zs).toArray
theorem bv_size (zs : List Int) : (bv zs).size = zs.length := by simp [bv, ints_len]
theorem bv_at (zs : List Int) (k : Nat) (h : k < zs.length) : (bv zs)[k]? = some (.int .i64 zs[k]) := by simp [bv, ints, h]
theorem bv_one (zs : List Int) : (bv zs).all (·.oneCell') = true := by
 simp only [bv, Array.all_eq_true_iff_forall_mem]
 intro v hv
 simp only [List.mem_toArray, ints, List.mem_map] at hv
 obtain ⟨z, -, rfl⟩ := hv
 rfl
theorem bv_set (zs : List Int) (k : Nat) (z : Int) : (bv zs).setIfInBounds k (.int .i64 z) = bv (zs.set k z) := by
 simp [bv, ints, List.map_set]
theorem Blk.bsl {w : World} {g : Nat} {T : TypeId} {zs : List Int} {c : Nat} (h : Blk w g T (bv zs)) (hc : zs.length ≤ c) (hc2 : c ≤ 9223372036854775807) :
 SL w 1 (.slice (some ⟨g, 0, none⟩) zs.length c) zs.length (Go.Proofs.YtkggcjdlpendfaaGreatDoor.ints zs) := by
 have := h.sl (size := 1) (n := zs.length) (c := c) (by simp [bv_size]) hc hc2
 simpa [bv] using this
theorem allIn_take {zs : List Int} {lo hi : Int} {k : Nat} (h : ∀ z ∈ zs.take k, lo ≤ z ∧ z ≤ hi) (hk : k < zs.length) (hz : lo ≤ zs[k] ∧ zs[k] ≤ hi) : ∀ z ∈ zs.take (k + 1), lo ≤ z ∧ z ≤ hi := by
 rw [List.take_succ_eq_append_getElem hk]
 intro z hz'
 rcases List.mem_append.1 hz' with h1 | h1
 ·exact h z h1
 ·simp at h1; subst h1; exact hz
theorem rround_any (n d : Int) (w : World) (hn1 : -1000000000000000000 ≤ n) (hn : n ≤ 1000000000000000000) (hd : 1 ≤ d) (hd2 : d ≤ 1000000000000000000) :
 Calls Tryz.prog 127 #[.int .i64 n, .int .i64 d] w fun e w' => e = .returned (.int .i64 (rnd n d)) ∧ w = w' := by
 have pos : ∀ n : Int, 0 ≤ n → 0 ≤ n / d ∧ n / d ≤ n ∧ 0 ≤ n % d ∧ n % d < d := fun n h0 =>
  ⟨Int.ediv_nonneg h0 (by omega), Int.ediv_le_self _ h0, Int.emod_nonneg _ (by omega), Int.emod_lt_of_pos _ (by omega)⟩
 by_cases h : n < 0
 ·obtain ⟨m, rfl⟩ : ∃ m, n = -m := ⟨-n, by omega⟩
  have hm : 0 < m := by omega
  obtain ⟨q0, q1, r0, r1⟩ := pos m (by omega)
  have hfin : rnd (-m) d = -(m / d + (if d ≤ 2 * (m % d) then 1 else 0)) := by rw [rnd, if_pos h, rp_eq _ _ hd]; simp
  clear h pos
  by_cases h2 : d ≤ 2 * (m % d)
  ·rw [hfin, if_pos h2]; clear hfin
   go_enter Tryz.func127, Tryz.ntmps127
   go_wp2
   go_ret
   exact ⟨by simp, rfl⟩
  ·rw [hfin, if_neg h2]; clear hfin
   go_enter Tryz.func127, Tryz.ntmps127
   go_wp2
   go_ret
   exact ⟨by simp, rfl⟩
 ·obtain ⟨q0, q1, r0, r1⟩ := pos n (by omega)
  have hfin : rnd n d = n / d + (if d ≤ 2 * (n % d) then 1 else 0) := by rw [rnd, if_neg h, rp_eq _ _ hd]
  clear pos
  by_cases h2 : d ≤ 2 * (n % d)
  ·rw [hfin, if_pos h2]; clear hfin
   go_enter Tryz.func127, Tryz.ntmps127
   go_wp2
   go_ret
   exact ⟨rfl, rfl⟩
  ·rw [hfin, if_neg h2]; clear hfin
   go_enter Tryz.func127, Tryz.ntmps127
   go_wp2
   go_ret
   exact ⟨by simp, rfl⟩
theorem clamp_any (n lo hi : Int) (w : World) :
 Calls Tryz.prog 119 #[.int .i64 n, .int .i64 lo, .int .i64 hi] w fun e w' => e = .returned (.int .i64 (clampZ n lo hi)) ∧ w = w' := by
 by_cases h : n < lo
 ·go_enter Tryz.func119, Tryz.ntmps119
  go_wp2
  go_ret
  exact ⟨by simp [clampZ, h], rfl⟩
 ·by_cases h2 : hi < n
  ·go_enter Tryz.func119, Tryz.ntmps119
   go_wp2
   go_ret
   exact ⟨by unfold clampZ; rw [if_neg (by omega), if_pos h2]; rfl, rfl⟩
  ·go_enter Tryz.func119, Tryz.ntmps119
   go_wp2
   go_ret
   exact ⟨by unfold clampZ; rw [if_neg (by omega), if_neg (by omega)]; rfl, rfl⟩
theorem outside_any (n lo hi : Int) (w : World) :
 Calls Tryz.prog 54 #[.int .i64 n, .int .i64 lo, .int .i64 hi] w fun e w' => e = .returned (.bool (!inB n lo hi)) ∧ w = w' := by
 by_cases h : n < lo
 ·have h' : decide (n < lo) = true := by simpa using h
  have e : (!inB n lo hi) = true := by rw [inB_not.2 (Or.inl h)]; rfl
  rw [e]; clear e
  go_enter Tryz.func54, Tryz.ntmps54
  go_wp2
  go_ret
  exact ⟨rfl, rfl⟩
 ·have h' : decide (n < lo) = false := by simpa using h
  have e : (!inB n lo hi) = decide (hi < n) := by rw [Bool.eq_iff_iff, Bool.not_eq_true', inB_not]; simp; omega
  rw [e]; clear e
  go_enter Tryz.func54, Tryz.ntmps54
  go_wp2
  go_ret
  exact ⟨rfl, rfl⟩
def Enters (P : Program) (f : FuncId) : Prop := ∀ (args : Array Value) (w : World), (callFunc f args).run P w = .ok (.enter f args) w
theorem enters_of {P : Program} {f : FuncId} {fn : Func} {c : Code} (hf : P.funcs[f]? = some fn) (hname : (fn.name == "runtime.NumGoroutine") = false) (hb : fn.body = some c) : Enters P f := by
 intro args w
 have hn : ¬ fn.name = "runtime.NumGoroutine" := by simpa using hname
 simp [callFunc, hf, hb, hn]
def idxOf (p : Int → Bool) (zs : List Int) : Int := match zs.findIdx? p with | some k => k | none => -1
theorem indexFunc_any (g : Nat) (cap : Array Value) (p : Int → Bool) (eg : Enters Tryz.prog g) (v : Value) (zs : List Int) (w : World) (hs : SL w 1 v zs.length (ints zs))
 (hp : ∀ z ∈ zs, Calls Tryz.prog g (#[.int .i64 z] ++ cap) w fun e w' => e = .returned (.bool (p z)) ∧ w = w') :
 Calls Tryz.prog 140 #[v, .func (.func g) #[] cap] w fun e w' => e = .returned (.int .i64 (idxOf p zs)) ∧ w = w' := by
 have hs' := hs
 obtain ⟨A, c, rfl, hc1, hc2, -, -⟩ := hs'
 go_enter Tryz.func140, Tryz.ntmps140
 go_wp2_with fail
 go_loop [8] (fun i => ∃ k : Nat, k ≤ zs.length ∧ i = .int .i64 k ∧ ∀ z ∈ zs.take k, p z = false) (fun i => zs.length - (intOf i).toNat)
 case atStart => exact ⟨0, by omega, rfl, by simp⟩
 case round =>
  obtain ⟨k, hk, rfl, ht⟩ := hrel
  have HT : Hid (∀ z ∈ zs.take k, p z = false) := ht
  clear ht
  by_cases hlt : k < zs.length
  ·obtain ⟨ad, u, rfl, -, hx, hcell⟩ := hs.at1 hlt
   obtain ⟨_, rfl⟩ := ints_at _ _ _ hx
   clear hx
   have hcall := hp zs[k] (List.getElem_mem _)
   have HC : Hid (Calls Tryz.prog g (#[.int .i64 zs[k]] ++ cap) w fun e w' => e = .returned (.bool (p zs[k])) ∧ w = w') := hcall
   have HP : Hid (∀ z ∈ zs, Calls Tryz.prog g (#[.int .i64 z] ++ cap) w fun e w' => e = .returned (.bool (p z)) ∧ w = w') := hp
   clear hcall hp
   unfold Enters at eg
   by_cases hz : p zs[k] = true
   ·have hfin : idxOf p zs = k := by
     unfold idxOf
     have : zs.findIdx? p = some k := by
      rw [List.findIdx?_eq_some_iff_getElem]
      refine ⟨hlt, hz, fun j hj => ?_⟩
      have := HT.out zs[j] (by
       rw [List.mem_take_iff_getElem]
       exact ⟨j, by omega, rfl⟩)
      simp [this]
     rw [this]
    have HF := hid_ hfin
    clear hfin
    go_wp2_with fail
    refine HC.out.mono ?_
    rintro e w' ⟨rfl, rfl⟩
    rw [hz]; clear hz
    go_wp2
    go_ret
    exact ⟨by rw [HF.out]; rfl, rfl⟩
   ·have hz' : p zs[k] = false := by simpa using hz
    have HZ := hid_ hz'
    clear hz
    go_wp2_with fail
    refine HC.out.mono ?_
    rintro e w' ⟨rfl, rfl⟩
    rw [hz']; clear hz'
    go_wp2
    go_round
    case rel =>
     refine ⟨k + 1, by omega, by go_num, fun z hz => ?_⟩
     rw [List.take_succ_eq_append_getElem hlt] at hz
     rcases List.mem_append.1 hz with h1 | h1
     ·exact HT.out z h1
     ·simp at h1; subst h1; exact HZ.out
    case measure => simp [intOf]; omega
  ·have hfin : idxOf p zs = -1 := by
    unfold idxOf
    have : zs.findIdx? p = none := by
     rw [List.findIdx?_eq_none_iff]
     have h := HT.out
     rwa [List.take_of_length_le (by omega)] at h
    rw [this]
   have HF := hid_ hfin
   clear hfin
   go_wp2
   go_ret
   exact ⟨by rw [HF.out]; rfl, rfl⟩
theorem idxOf_ge (p : Int → Bool) (zs : List Int) : decide (idxOf p zs ≥ 0) = zs.any p := by
 unfold idxOf
 cases h : zs.findIdx? p with
 | none =>
   have : zs.any p = false := by rw [List.any_eq_false]; intro x hx; have := List.findIdx?_eq_none_iff.1 h x hx; simp [this]
   simp [this]
 | some k =>
   have : zs.any p = true := by
    rw [List.any_eq_true]
    obtain ⟨hk, hp, -⟩ := List.findIdx?_eq_some_iff_getElem.1 h
    exact ⟨_, List.getElem_mem hk, hp⟩
   simp [this]
theorem containsFunc_any (g : Nat) (cap : Array Value) (p : Int → Bool) (eg : Enters Tryz.prog g) (v : Value) (zs : List Int) (w : World) (hs : SL w 1 v zs.length (ints zs))
 (hp : ∀ z ∈ zs, Calls Tryz.prog g (#[.int .i64 z] ++ cap) w fun e w' => e = .returned (.bool (p z)) ∧ w = w') :
 Calls Tryz.prog 88 #[v, .func (.func g) #[] cap] w fun e w' => e = .returned (.bool (zs.any p)) ∧ w = w' := by
 have HP := hid_ hp
 have HG := hid_ eg
 clear hp eg
 go_enter Tryz.func88, Tryz.ntmps88
 go_wp2_with (go_at_call 140; refine (indexFunc_any g cap p HG.out v zs _ hs HP.out).mono ?_; rintro e w' ⟨rfl, rfl⟩)
 go_ret
 exact ⟨by rw [← idxOf_ge]; rfl, rfl⟩
theorem run_index48 (cs : Array Value) (i : Nat) (u : Value) (hi : i < 64) (hu : cs[i]? = some u) (w : World) : (Instr.index 33 (.agg cs) (.int .i64 (i : Int))).run Tryz.prog w = .ok u w :=
 run_index_agg _ _ 64 cs i u Tryz.underlying33 _ Tryz.underlying3 sizeInt hi hu w
theorem size48 : (Tryz.prog.info? 33).map (·.size) = some 64 := by kernel_rfl
set_option maxHeartbeats 400000 in
theorem blockWithin_any (zs : List Int) (lo hi : Int) (w : World) (hz : zs.length = 64) :
 Calls Tryz.prog 67 #[.agg (bv zs), .int .i64 lo, .int .i64 hi] w fun e w' => e = .returned (.bool (allIn zs lo hi)) ∧ Ext w w' := by
 have HZ : Hid (zs.length = 64) := hz
 have hs := (bv_size zs).trans hz
 have HS : Hid ((bv zs).size = 64) := hs
 have hat := bv_at zs
 generalize hcs : bv zs = cs at *
 have HA : Hid (∀ (k : Nat) (h : k < zs.length), cs[k]? = some (.int .i64 zs[k])) := hat
 clear hat hs hz hcs
 go_enter Tryz.func67, Tryz.ntmps67
 go_wp2_with (refine wLdB rfl 33 _ rfl _ rfl (Blk.new w 33 cs) _ Tryz.underlying33 rfl 64 size48 HS.out ?_)
 go_loop [10] (fun i => ∃ k : Nat, k ≤ 64 ∧ i = .int .i64 k ∧ ∀ z ∈ zs.take k, lo ≤ z ∧ z ≤ hi) (fun i => 64 - (intOf i).toNat)
 case atStart => exact ⟨0, by omega, rfl, by simp⟩
 case round =>
  obtain ⟨k, hk, rfl, ht⟩ := hrel
  have HT : Hid (∀ z ∈ zs.take k, lo ≤ z ∧ z ≤ hi) := ht
  clear ht
  by_cases hlt : k < 64
  ·have hlt2 : k < zs.length := by have := HZ.out; omega
   have hat := fun W => run_index48 cs k _ hlt (HA.out k hlt2) W
   cases hd : inB zs[k] lo hi with
   | true =>
     have HI := hid_ (inB_iff.1 hd)
     go_wp2_with (go_at_call 54; refine (outside_any _ _ _ _).mono ?_; rintro e w' ⟨rfl, rfl⟩)
     go_round
     case rel => exact ⟨k + 1, by omega, by go_num, allIn_take HT.out hlt2 HI.out⟩
     case measure => simp [intOf]; omega
   | false =>
     have HF := hid_ (allIn_no hlt2 hd)
     go_wp2_with (go_at_call 54; refine (outside_any _ _ _ _).mono ?_; rintro e w' ⟨rfl, rfl⟩)
     go_ret
     exact ⟨by rw [HF.out]; rfl, (Ext.refl w).alloc _⟩
  ·have hfin : allIn zs lo hi = true := allIn_iff.2 (by have := HT.out; rwa [List.take_of_length_le (by have := HZ.out; omega)] at this)
   have HF : Hid (allIn zs lo hi = true) := hfin
   clear hfin
   go_wp2
   go_ret
   exact ⟨by rw [HF.out]; rfl, (Ext.refl w).alloc _⟩
theorem allWithin1_any (g1 g2 : Nat) (z lo hi : Int) (w : World) (h1 : w.cell? ⟨g1, 0, none⟩ = some (.int .i64 lo)) (h2 : w.cell? ⟨g2, 0, none⟩ = some (.int .i64 hi)) :
 Calls Tryz.prog 98 (#[.int .i64 z] ++ #[.pointer (some ⟨g1, 0, none⟩), .pointer (some ⟨g2, 0, none⟩)]) w fun e w' => e = .returned (.bool (decide (z < lo) || decide (hi < z))) ∧ w = w' := by
 by_cases h : z < lo
 ·have h' : decide (z < lo) = true := by simpa using h
  go_enter Tryz.func98, Tryz.ntmps98
  go_wp2
  go_ret
  exact ⟨by rw [h']; rfl, rfl⟩
 ·have h' : decide (z < lo) = false := by simpa using h
  go_enter Tryz.func98, Tryz.ntmps98
  go_wp2
  go_ret
  exact ⟨by simp, rfl⟩
theorem enters_aw1 : Enters Tryz.prog 98 := enters_of Tryz.func98 (by kernel_rfl) rfl
set_option maxHeartbeats 400000 in
theorem allWithin_any (zs : List Int) (lo hi : Int) (w : World) (hz : zs.length = 64) :
 Calls Tryz.prog 43 #[.agg (bv zs), .int .i64 lo, .int .i64 hi] w fun e w' => e = .returned (.bool (allIn zs lo hi)) ∧ Ext w w' := by
 have HZ : Hid (zs.length = 64) := hz
 have hs := (bv_size zs).trans hz
 have HS : Hid ((bv zs).size = 64) := hs
 have hmf : ∀ (fn : Fn) (first cap : Array Value) (w : World), (Instr.makeFunc fn first cap).run Tryz.prog w = .ok (.func fn first cap) w := fun _ _ _ _ => rfl
 have hcont := containsFunc_any 98 #[.pointer (some ⟨w.heap.size + 1, 0, none⟩), .pointer (some ⟨w.heap.size + 1 + 1, 0, none⟩)] (fun z => decide (z < lo) || decide (hi < z)) enters_aw1
  (.slice (some ⟨w.heap.size, 0, none⟩) 64 64) zs (((w.alloc (.cells (bv zs) 33)).alloc (.cells #[.int .i64 lo] 3)).alloc (.cells #[.int .i64 hi] 3))
  (by
    have h := (((Blk.new w 33 (bv zs)).alloc (.cells #[.int .i64 lo] 3)).alloc (.cells #[.int .i64 hi] 3)).bsl (c := 64) (by omega) (by omega)
    rwa [hz] at h ⊢)
  (fun z _ => allWithin1_any (w.heap.size + 1) (w.heap.size + 1 + 1) z lo hi _ (by
    have h := ((Blk.new (w.alloc (.cells (bv zs) 33)) 3 #[.int .i64 lo]).alloc (.cells #[.int .i64 hi] 3)).cell 0
    rwa [World.size_alloc] at h) (by
    have h := (Blk.new ((w.alloc (.cells (bv zs) 33)).alloc (.cells #[.int .i64 lo] 3)) 3 #[.int .i64 hi]).cell 0
    rwa [World.size_alloc, World.size_alloc] at h))
 have HC := hid_ hcont
 generalize hcs : bv zs = cs at *
 clear hs hz hcs hcont
 go_enter Tryz.func43, Tryz.ntmps43
 go_wp2_with fail
 refine HC.out.mono ?_
 rintro e w' ⟨rfl, rfl⟩
 go_wp2_with fail
 go_ret
 refine ⟨?_, ((Ext.refl w).alloc _).alloc _ |>.alloc _⟩
 rw [← allIn_not]
 rfl
set_option maxHeartbeats 400000 in
theorem qcheck_any (zs : List Int) (w : World) (hz : zs.length = 64) :
 Calls Tryz.prog 15 #[.agg (bv zs)] w fun e w' => e = .returned (.int .i64 (if allIn zs 1 255 then 0 else 1)) ∧ Ext w w' := by
 have hs := (bv_size zs).trans hz
 have HS : Hid ((bv zs).size = 64) := hs
 have hc := hid_ (fun W => allWithin_any zs 1 255 W hz)
 generalize hcs : bv zs = cs at *
 clear hs hz hcs
 cases hb : allIn zs 1 255 with
 | true =>
   rw [hb] at hc
   go_enter Tryz.func15, Tryz.ntmps15
   go_wp2_with (first | (refine wLdB rfl 33 _ rfl _ rfl (Blk.new w 33 cs) _ Tryz.underlying33 rfl 64 size48 HS.out ?_) | (go_at_call 43; refine (hc.out _).mono ?_; rintro e w' ⟨rfl, hx⟩))
   go_ret
   exact ⟨rfl, ((Ext.refl w).alloc _).trans hx⟩
 | false =>
   rw [hb] at hc
   go_enter Tryz.func15, Tryz.ntmps15
   go_wp2_with (first | (refine wLdB rfl 33 _ rfl _ rfl (Blk.new w 33 cs) _ Tryz.underlying33 rfl 64 size48 HS.out ?_) | (go_at_call 43; refine (hc.out _).mono ?_; rintro e w' ⟨rfl, hx⟩))
   go_ret
   exact ⟨rfl, ((Ext.refl w).alloc _).trans hx⟩
def zeros64 : List Int := List.replicate 64 0
theorem built48 : Tryz.prog.built 33 [] = some (bv zeros64) := by kernel_rfl
theorem zero48 : (Tryz.prog.info? 33).bind (·.zero) = some (.agg (bv zeros64)) := by kernel_rfl
set_option maxHeartbeats 400000
theorem zip_set (F : Int → Int → Int) (zs qs : List Int) (k : Nat) (hz : k < zs.length) (hq : k < qs.length) :
 (List.zipWith F (zs.take k) (qs.take k) ++ zs.drop k).set k (F zs[k] qs[k]) = List.zipWith F (zs.take (k + 1)) (qs.take (k + 1)) ++ zs.drop (k + 1) := by
 have hl : (List.zipWith F (zs.take k) (qs.take k)).length = k := by simp; omega
 rw [List.set_append_right _ _ (by omega), hl, Nat.sub_self, List.drop_eq_getElem_cons hz, List.set_cons_zero, List.take_succ_eq_append_getElem hz, List.take_succ_eq_append_getElem hq,
  List.zipWith_append (by simp; omega)]
 simp
theorem zip_len (F : Int → Int → Int) (zs qs : List Int) (k : Nat) (hz : zs.length = 64) (hq : qs.length = 64) (hk : k ≤ 64) : (List.zipWith F (zs.take k) (qs.take k) ++ zs.drop k).length = 64 := by
 simp; omega
theorem both_in (g : Nat) (F : Int → Int → Int) (eg : Enters Tryz.prog g) (zs qs : List Int) (most : Int) (w : World) (hz : zs.length = 64) (hq : qs.length = 64) (hm0 : 0 ≤ most) (hm : most ≤ 1000000000)
 (h1 : allIn qs 1 255 = true) (h2 : allIn zs (-most) most = true)
 (hF : ∀ n d W, -most ≤ n → n ≤ most → 1 ≤ d → d ≤ 255 → Calls Tryz.prog g (#[.int .i64 n, .int .i64 d] ++ #[]) W fun e w' => e = .returned (.int .i64 (F n d)) ∧ W = w') :
 Calls Tryz.prog 94 #[.agg (bv zs), .agg (bv qs), .int .i64 most, .func (.func g) #[] #[]] w fun e w' => e = .returned (.tuple #[.agg (bv (List.zipWith F zs qs)), .int .i64 0]) ∧ Ext w w' := by
 have HC := hid_ (fun W => qcheck_any qs W hq)
 have HW := hid_ (fun W => allWithin_any zs (-most) most W hz)
 rw [h1] at HC
 rw [h2] at HW
 have HZ := hid_ hz
 have HQ := hid_ hq
 have hsz := hid_ ((bv_size zs).trans hz)
 have hsq := hid_ ((bv_size qs).trans hq)
 have H1 := hid_ h1
 have H2 := hid_ h2
 have HF := hid_ hF
 unfold Enters at eg
 clear hz hq h1 h2 hF
 generalize hzc : bv zs = cz at *
 generalize hqc : bv qs = cq at *
 have HZC := hid_ hzc
 have HQC := hid_ hqc
 clear hzc hqc
 go_enter Tryz.func94, Tryz.ntmps94
 go_wp2_with (first
  | (refine wBox rfl 33 (.tmp 0) rfl cz rfl ?_; intro w1 gz hbz1 hx1 hgz)
  | (refine wBox rfl 33 (.tmp 1) rfl cq rfl ?_; intro w2 gq hbq2 hx2 hgq; have hbz2 := hbz1.ext hx2)
  | (refine wpList_alloc_abs rfl 33 rfl _ zero48 ?_; intro w3 gr hbr3 hx3 hgr; have hbz3 := hbz2.ext hx3; have hbq3 := hbq2.ext hx3)
  | (refine wLdB rfl 33 (.tmp 5) rfl _ rfl hbq3 _ Tryz.underlying33 rfl 64 size48 hsq.out ?_)
  | (go_at_call 15; refine (HC.out _).mono ?_; rintro e w4 ⟨rfl, hx4⟩; have hbz4 := hbz3.ext hx4; have hbq4 := hbq3.ext hx4; have hbr4 := hbr3.ext hx4)
  | (refine wLdB rfl 33 (.tmp 4) rfl _ rfl hbz4 _ Tryz.underlying33 rfl 64 size48 hsz.out ?_)
  | (go_at_call 43; refine (HW.out _).mono ?_; rintro e w5 ⟨rfl, hx5⟩; have hbz5 := hbz4.ext hx5; have hbq5 := hbq4.ext hx5; have hbr5 := hbr4.ext hx5)
  | (refine wLdB rfl 33 (.tmp 4) rfl _ rfl hbz5 _ Tryz.underlying33 rfl 64 size48 hsz.out ?_))
 have hne1 : gz ≠ gq := by have := hbz1.lt; omega
 have hne2 : gz ≠ gr := by have := hbz2.lt; omega
 have hxx : Ext w w5 := ((((hx1.trans hx2).trans hx3).trans hx4).trans hx5)
 have hw0 : w.heap.size ≤ w1.heap.size := hx1.size
 have hw02 : w.heap.size ≤ gr := by have := hx2.size; omega
 clear hbz1 hbz2 hbz3 hbz4 hbq2 hbq3 hbq4 hbr3 hbr4 hx1 hx2 hx3 hx4 hx5
 go_loopw [27] (fun i wr => ∃ k : Nat, k ≤ 64 ∧ i = .int .i64 k ∧ Blk wr gz 33 (bv (List.zipWith F (zs.take k) (qs.take k) ++ zs.drop k)) ∧ Blk wr gq 33 cq ∧ Blk wr gr 33 (bv zeros64) ∧ Ext w wr) (fun i _ => 64 - (intOf i).toNat)
 case atStart => exact ⟨0, by omega, rfl, by rw [← HZC.out] at hbz5; simpa using hbz5, hbq5, hbr5, hxx⟩
 case round =>
  obtain ⟨k, hk, rfl, hb1, hb2, hb3, hxr⟩ := hrel
  by_cases hlt : k < 64
  ·have hzl : k < zs.length := by have := HZ.out; omega
   have hql : k < qs.length := by have := HQ.out; omega
   have hix := fun W => run_index48 cz k (.int .i64 zs[k]) hlt (by rw [← HZC.out]; exact bv_at zs k hzl) W
   have hlq : wr.cell? ⟨gq, k, none⟩ = some (.int .i64 qs[k]) := (hb2.cell k).trans (by rw [← HQC.out]; exact bv_at qs k hql)
   have hz0 := allIn_iff.1 H2.out zs[k] (List.getElem_mem hzl)
   have hq0 := allIn_iff.1 H1.out qs[k] (List.getElem_mem hql)
   have hcall := hid_ (fun W => HF.out zs[k] qs[k] W hz0.1 hz0.2 hq0.1 hq0.2)
   obtain ⟨old, hold⟩ : ∃ u, wr.cell? ⟨gz, k, none⟩ = some u := by
    rw [hb1.cell k]
    have hl := zip_len F zs qs k HZ.out HQ.out hk
    exact ⟨_, bv_at _ k (by omega)⟩
   have hfr := hb1.frozen k
   clear hz0 hq0
   go_wp2_with fail
   refine (hcall.out _).mono ?_
   rintro e w' ⟨rfl, rfl⟩
   go_wp2_with fail
   go_roundw
   case rel =>
    refine ⟨k + 1, by omega, by go_num, ?_, hb2.far (p := ⟨gz, k, none⟩) (by simpa using hne1.symm) _, hb3.far (p := ⟨gz, k, none⟩) (by simpa using hne2.symm) _, hxr.setCell (by omega) _⟩
    have := hb1.set_ k (.int .i64 (F zs[k] qs[k]))
    rwa [bv_set, zip_set F zs qs k hzl hql] at this
   case measure => simp [intOf]; omega
  ·obtain rfl : k = 64 := by omega
   have hfin : List.zipWith F (zs.take 64) (qs.take 64) ++ zs.drop 64 = List.zipWith F zs qs := by
    rw [List.take_of_length_le (by have := HZ.out; omega), List.take_of_length_le (by have := HQ.out; omega), List.drop_eq_nil_of_le (by have := HZ.out; omega), List.append_nil]
   have hlz : (bv (List.zipWith F zs qs)).size = 64 := by have := HZ.out; have := HQ.out; rw [bv_size]; simp; omega
   rw [hfin] at hb1
   have hone := bv_one (List.zipWith F zs qs)
   generalize hcr : bv (List.zipWith F zs qs) = cr at *
   have HCR := hid_ hcr
   have hlz' := hid_ hlz
   have hone' := hid_ hone
   clear hfin hlz hone hcr
   go_wp2_with (first
    | (refine wLdB rfl 33 (.tmp 4) rfl _ rfl hb1 _ Tryz.underlying33 rfl 64 size48 hlz'.out ?_)
    | (refine wStB rfl 33 (.tmp 8) (.tmp 40) rfl _ _ rfl rfl hb3 64 size48 hlz'.out (by rw [bv_size]; rfl) hone'.out ?_; intro w7 hb7 hg7))
   refine ret_cell_tmp rfl rfl _ rfl hb7 _ Tryz.underlying33 rfl 64 size48 hlz'.out ⟨by rw [HCR.out]; rfl, hxr.grown hg7 hw02⟩
set_option maxHeartbeats 400000 in

theorem both_out (g : Nat) (zs qs : List Int) (most : Int) (w : World) (hz : zs.length = 64) (hq : qs.length = 64) (hm0 : 0 ≤ most) (hm : most ≤ 1000000000)
 (h : allIn qs 1 255 = false ∨ (allIn qs 1 255 = true ∧ allIn zs (-most) most = false)) :
 Calls Tryz.prog 94 #[.agg (bv zs), .agg (bv qs), .int .i64 most, .func (.func g) #[] #[]] w fun e w' => e = .returned (.tuple #[.agg (bv zeros64), .int .i64 1]) ∧ Ext w w' := by
 have HC := hid_ (fun W => qcheck_any qs W hq)
 have HW := hid_ (fun W => allWithin_any zs (-most) most W hz)
 have hsz := hid_ ((bv_size zs).trans hz)
 have hsq := hid_ ((bv_size qs).trans hq)
 have hs0 : Hid ((bv zeros64).size = 64) := hid_ (by rw [bv_size]; rfl)
 have ho0 := hid_ (bv_one zeros64)
 have hbt := hid_ built48
 generalize bv zs = cz at *
 generalize bv qs = cq at *
 generalize hc0 : bv zeros64 = c0 at *
 have HC0 := hid_ hc0
 clear hz hq hc0
 rcases h with h | ⟨h, h2⟩
 ·rw [h] at HC
  clear h
  go_enter Tryz.func94, Tryz.ntmps94
  go_wp2_with (first
   | (refine wBox rfl 33 (.tmp 0) rfl cz rfl ?_; intro w1 gz hbz1 hx1 hgz)
   | (refine wBox rfl 33 (.tmp 1) rfl cq rfl ?_; intro w2 gq hbq2 hx2 hgq; have hbz2 := hbz1.ext hx2)
   | (refine wpList_alloc_abs rfl 33 rfl _ zero48 ?_; intro w3 gr hbr3 hx3 hgr; have hbz3 := hbz2.ext hx3; have hbq3 := hbq2.ext hx3)
   | (refine wLdB rfl 33 (.tmp 5) rfl _ rfl hbq3 _ Tryz.underlying33 rfl 64 size48 hsq.out ?_)
   | (go_at_call 15; refine (HC.out _).mono ?_; rintro e w4 ⟨rfl, hx4⟩; have hbr4 := hbr3.ext hx4)
   | (refine wpList_build0 rfl 33 rfl _ hbt.out ?_)
   | (refine wStB rfl 33 (.tmp 8) (.tmp 17) rfl _ _ rfl rfl hbr4 64 size48 hs0.out (by rw [show (Value.agg (bv zeros64)).cells = bv zeros64 from rfl, HC0.out]; exact hs0.out) ho0.out ?_; intro w7 hb7 hg7))
  exact ret_cell_tmp rfl rfl _ rfl hb7 _ Tryz.underlying33 rfl 64 size48 hs0.out ⟨rfl, (((hx1.trans hx2).trans hx3).trans hx4).grown hg7 (by have := hx1.size; have := hx2.size; omega)⟩
 ·rw [h] at HC
  rw [h2] at HW
  clear h h2
  go_enter Tryz.func94, Tryz.ntmps94
  go_wp2_with (first
   | (refine wBox rfl 33 (.tmp 0) rfl cz rfl ?_; intro w1 gz hbz1 hx1 hgz)
   | (refine wBox rfl 33 (.tmp 1) rfl cq rfl ?_; intro w2 gq hbq2 hx2 hgq; have hbz2 := hbz1.ext hx2)
   | (refine wpList_alloc_abs rfl 33 rfl _ zero48 ?_; intro w3 gr hbr3 hx3 hgr; have hbz3 := hbz2.ext hx3; have hbq3 := hbq2.ext hx3)
   | (refine wLdB rfl 33 (.tmp 5) rfl _ rfl hbq3 _ Tryz.underlying33 rfl 64 size48 hsq.out ?_)
   | (go_at_call 15; refine (HC.out _).mono ?_; rintro e w4 ⟨rfl, hx4⟩; have hbz4 := hbz3.ext hx4; have hbr4 := hbr3.ext hx4)
   | (refine wLdB rfl 33 (.tmp 4) rfl _ rfl hbz4 _ Tryz.underlying33 rfl 64 size48 hsz.out ?_)
   | (go_at_call 43; refine (HW.out _).mono ?_; rintro e w5 ⟨rfl, hx5⟩; have hbr5 := hbr4.ext hx5)
   | (refine wpList_build0 rfl 33 rfl _ hbt.out ?_)
   | (refine wStB rfl 33 (.tmp 8) (.tmp 25) rfl _ _ rfl rfl hbr5 64 size48 hs0.out (by rw [show (Value.agg (bv zeros64)).cells = bv zeros64 from rfl, HC0.out]; exact hs0.out) ho0.out ?_; intro w7 hb7 hg7))
  exact ret_cell_tmp rfl rfl _ rfl hb7 _ Tryz.underlying33 rfl 64 size48 hs0.out ⟨rfl, ((((hx1.trans hx2).trans hx3).trans hx4).trans hx5).grown hg7 (by have := hx1.size; have := hx2.size; omega)⟩
def bothZ (F : Int → Int → Int) (zs qs : List Int) (most : Int) : List Int × Int :=
 if allIn qs 1 255 then (if allIn zs (-most) most then (List.zipWith F zs qs, 0) else (zeros64, 1)) else (zeros64, 1)
theorem both_any (g : Nat) (F : Int → Int → Int) (eg : Enters Tryz.prog g) (zs qs : List Int) (most : Int) (w : World) (hz : zs.length = 64) (hq : qs.length = 64) (hm0 : 0 ≤ most) (hm : most ≤ 1000000000)
 (hF : ∀ n d W, -most ≤ n → n ≤ most → 1 ≤ d → d ≤ 255 → Calls Tryz.prog g (#[.int .i64 n, .int .i64 d] ++ #[]) W fun e w' => e = .returned (.int .i64 (F n d)) ∧ W = w') :
 Calls Tryz.prog 94 #[.agg (bv zs), .agg (bv qs), .int .i64 most, .func (.func g) #[] #[]] w fun e w' => e = .returned (.tuple #[.agg (bv (bothZ F zs qs most).1), .int .i64 (bothZ F zs qs most).2]) ∧ Ext w w' := by
 unfold bothZ
 cases h1 : allIn qs 1 255 with
 | false => simpa using both_out g zs qs most w hz hq hm0 hm (Or.inl h1)
 | true =>
   cases h2 : allIn zs (-most) most with
   | false => simpa using both_out g zs qs most w hz hq hm0 hm (Or.inr ⟨h1, h2⟩)
   | true => simpa using both_in g F eg zs qs most w hz hq hm0 hm h1 h2 hF
end Go.Proofs.YtkggcjdlpendfaaGreatDoor
