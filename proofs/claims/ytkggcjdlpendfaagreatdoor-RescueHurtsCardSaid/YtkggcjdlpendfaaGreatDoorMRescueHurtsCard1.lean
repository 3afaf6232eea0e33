/- Contracts for the law RescueHurtsCard, part 1: what the functions that it reaches answer, for all arguments that the theorems name. -/
import Derived.Test.YtkggcjdlpendfaaGreatDoorProg
import Derived.WalkKit
import Derived.Deep.AppendLies
import Derived.Deep.Draws
import Derived.WalkSpells
import Derived.WalkLawsBesides
import Derived.Deep.QuietTactic
import Derived.StillTail
import Derived.Deep.MidRow
import Derived.ProofKit
import Derived.OpenShut
import Derived.ChangeSlices
import Derived.Deep.SlicePairs
import Derived.Laws.BitsAllLaws
import Derived.Maps.OwnSet
import Derived.BigQuiet
namespace Go.Proofs.YtkggcjdlpendfaaGreatDoor
set_option linter.unusedVariables false
set_option linter.unusedSimpArgs false
open Go.RowKit
theorem gS (k : Tmp) {P ops Q b c d e f r a w} (h : wpList P ops Q (⟨some k, b, c, d, e, f⟩ :: r) a w) : wpList P ops Q (⟨some k, b, c, d, e, f⟩ :: r) a w := h
theorem gT (x y : Tmp) {P ops Q t b c d e r a w} (h : wpList P ops Q (⟨none, .store t (.tmp x) (.tmp y), b, c, d, e⟩ :: r) a w) : wpList P ops Q (⟨none, .store t (.tmp x) (.tmp y), b, c, d, e⟩ :: r) a w := h
theorem sA {α : Type} {l : List α} {i : Nat} {a : α} : l.toArray.setIfInBounds i a = (l.set i a).toArray := List.setIfInBounds_toArray ..
theorem sB {α : Type} {a b : α} {l : List α} {n : Nat} : (a :: l).set (n + 1) b = a :: l.set n b := List.set_cons_succ
theorem sC {α : Type} {a b : α} {l : List α} : (a :: l).set 0 b = b :: l := List.set_cons_zero
theorem block_of_add (a : Addr) (n : Nat) : (a.add n).block = a.block := by unfold Addr.add; split <;> rfl
theorem add_of_add (a : Addr) (i j : Nat) : (a.add i).add j = a.add (i + j) := by
 unfold Addr.add
 by_cases hi : i = 0 <;> by_cases hj : j = 0 <;> simp [hi, hj, Nat.add_assoc]
def SL (w : World) (size : Nat) (v : Value) (n : Nat) (xs : List Value) : Prop :=
 ∃ A c, v = .slice A n c ∧ n ≤ c ∧ c ≤ 9223372036854775807 ∧ xs.length = n * size ∧ (0 < n → ∃ ad, A = some ad ∧ ad.block < w.heap.size ∧ ∀ j u, xs[j]? = some u → w.cell? (ad.add j) = some u)
theorem hid_ {p : Prop} (h : p) : Hid p := h
abbrev Ext (w w' : World) : Prop := Below w.heap.size w w'
theorem Ext.refl (w : World) : Ext w w := Below.refl _ _
theorem Ext.trans {a b c : World} (h : Ext a b) (k : Ext b c) : Ext a c := Below.trans h (Below.mono k h.size)
theorem Ext.alloc {a w : World} (h : Ext a w) (o : Obj) : Ext a (w.alloc o) := Below.alloc h h.size o
theorem Ext.drew {a w : World} (h : Ext a w) : Ext a w.drew := Below.drew h
theorem SL.ext {w w' : World} {size n : Nat} {v : Value} {xs : List Value} (h : SL w size v n xs) (hb : Ext w w') : SL w' size v n xs := by
 obtain ⟨A, c, rfl, h1, h1', h2, h3⟩ := h
 refine ⟨A, c, rfl, h1, h1', h2, fun hn => ?_⟩
 obtain ⟨ad, e, hlt, hc⟩ := h3 hn
 exact ⟨ad, e, Nat.lt_of_lt_of_le hlt hb.size, fun j u hu => (hb.cell (by rw [block_of_add]; exact hlt)).trans (hc j u hu)⟩
theorem SL.nil (w : World) (size : Nat) : SL w size (.slice none 0 0) 0 [] := ⟨none, 0, rfl, by omega, by omega, by simp, fun h => absurd h (by omega)⟩
theorem SL.at1 {w : World} {A : Option Addr} {n c : Nat} {xs : List Value} {k : Nat} (h : SL w 1 (.slice A n c) n xs) (hk : k < n) :
 ∃ ad u, A = some ad ∧ ad.block < w.heap.size ∧ xs[k]? = some u ∧ w.cell? (ad.add k) = some u := by
 obtain ⟨A', c', e, _, _, h2, h3⟩ := h
 injection e with e1 e2 e3
 subst e1
 obtain ⟨ad, ea, hb, hc⟩ := h3 (by omega)
 have hl : k < xs.length := by omega
 exact ⟨ad, xs[k], ea, hb, List.getElem?_eq_getElem hl, hc k _ (List.getElem?_eq_getElem hl)⟩
def Blk (w : World) (g : Nat) (t : TypeId) (cs : Array Value) : Prop := w.heap[g]? = some (.cells cs t (0, 0))
section
variable {w w' : World} {g : Nat} {t : TypeId} {cs : Array Value}
theorem Blk.lt (h : Blk w g t cs) : g < w.heap.size := by
 rcases Nat.lt_or_ge g w.heap.size with hlt | hge
 ·exact hlt
 ·unfold Blk at h; rw [Array.getElem?_eq_none hge] at h; cases h
theorem Blk.cell (h : Blk w g t cs) (i : Nat) : w.cell? ⟨g, i, none⟩ = cs[i]? := cell_of_row w g i cs t (0, 0) h
theorem Blk.frozen (h : Blk w g t cs) (i : Nat) : w.frozen? ⟨g, i, none⟩ = false := by
 unfold Blk at h
 simp [World.frozen?, h]
theorem Blk.new (w : World) (t : TypeId) (cs : Array Value) : Blk (w.alloc (.cells cs t)) w.heap.size t cs := heap_alloc_new w _
theorem Blk.drew (h : Blk w g t cs) : Blk w.drew g t cs := h
theorem Blk.alloc (h : Blk w g t cs) (o : Obj) : Blk (w.alloc o) g t cs := (Below.heap_alloc w o g h.lt).trans h
theorem Blk.set_ (h : Blk w g t cs) (i : Nat) (u : Value) : Blk (w.setCell ⟨g, i, none⟩ u) g t (cs.setIfInBounds i u) := by
 unfold Blk at h ⊢
 simp [World.setCell, Array.getElem?_modify, h]
theorem Blk.below {B : Nat} (h : Blk w g t cs) (hb : Below B w w') (hg : g < B) : Blk w' g t cs := (hb.block g hg).trans h
theorem Blk.ext (h : Blk w g t cs) (hb : Ext w w') : Blk w' g t cs := h.below hb h.lt
theorem Blk.grown {row : Option Nat} (h : Blk w g t cs) (hb : w.grownBy w' row) (hg : some g ≠ row) : Blk w' g t cs := (hb.block g h.lt hg).trans h
theorem Blk.sl (h : Blk w g t cs) {size n c : Nat} (hs : cs.size = n * size) (hc : n ≤ c) (hc2 : c ≤ 9223372036854775807) : SL w size (.slice (some ⟨g, 0, none⟩) n c) n cs.toList := by
 refine ⟨_, _, rfl, hc, hc2, by simpa using hs, fun _ => ⟨_, rfl, h.lt, fun j u hu => ?_⟩⟩
 have e : (⟨g, 0, none⟩ : Addr).add j = ⟨g, j, none⟩ := by
  unfold Addr.add
  by_cases hj : j = 0
  ·subst hj; rfl
  ·rw [if_neg hj]; simp
 rw [e, h.cell, ← hu]; simp
end
section
variable {P : Program} {ops : Array Oper} {rest : List Oper} {o : Oper} {a : Act} {w : World} {Q : Exit → Act → World → Prop}
theorem wLdB (hgd : o.guard = none) (ty : TypeId) (x : Operand) (ho : o.op = .load ty x) (g : Nat) (hx : a.eval x = .pointer (some ⟨g, 0, none⟩))
 {t : TypeId} {cs : Array Value} (hB : Blk w g t cs) (d : TypeDesc) (hu : P.underlying ty = some d) (hd : (match d with | .struct _ | .array _ _ => true | _ => false) = true)
 (n : Nat) (hs : (P.info? ty).map (·.size) = some n) (hn : cs.size = n) (h : wpList P ops Q rest (a.put o.dst (.agg cs)) w) : wpList P ops Q (o :: rest) a w :=
 wpList_load_row hgd ty x ho g hx t cs (0, 0) d hB hu hd (by rw [hn]; exact hs) h
theorem wStB (hgd : o.guard = none) (ty : TypeId) (x y : Operand) (ho : o.op = .store ty x y) (g : Nat) (cells : Array Value) (hx : a.eval x = .pointer (some ⟨g, 0, none⟩)) (hy : a.eval y = .agg cells)
 {t : TypeId} {old : Array Value} (hB : Blk w g t old) (n : Nat) (hs : (P.info? ty).map (·.size) = some n) (hn : cells.size = n) (hold : old.size = n) (h1 : cells.all (·.oneCell') = true)
 (h : ∀ w1, Blk w1 g t cells → w.grownBy w1 (some g) → wpList P ops Q rest (a.put o.dst undef) w1) : wpList P ops Q (o :: rest) a w :=
 wpList_store_row hgd ty x y ho g cells hx hy t old hB (by rw [hn]; exact hs) (by rw [hn, hold]) h1
  (h _ (setRow_heap w g old cells t (0, 0) hB) ⟨rfl, rfl, rfl, by simp, fun k hk hne => setRow_other w g k cells (fun e => hne (by rw [e]))⟩)
theorem ret_cell_tmp {fn : Func} {R : Ending → World → Prop} {p u : Tmp} {ty : TypeId} (h : fn.results = #[.cell p ty, .tmp u]) (hdf : a.defers = []) (g : Nat) {t : TypeId} {cs : Array Value}
 (hp : a.tmps.getD p undef = .pointer (some ⟨g, 0, none⟩)) (hB : Blk w g t cs) (d : TypeDesc) (hu : P.underlying ty = some d) (hd : (match d with | .struct _ | .array _ _ => true | _ => false) = true)
 (n : Nat) (hs : (P.info? ty).map (·.size) = some n) (hn : cs.size = n) (hR : R (.returned (.tuple #[.agg cs, a.tmps.getD u undef])) w) : bodyPost P fn R .ret a w := by
 refine bodyPost_ret ?_ hdf hR
 rw [results_cell_tmp h]
 have e := run_loadVar_row (P := P) w g t ty cs (0, 0) d hB hu hd (by rw [hn]; exact hs)
 simp [hp, asAddr, e, Result.andThen]
theorem ret_cell {fn : Func} {R : Ending → World → Prop} {p : Tmp} {ty : TypeId} (h : fn.results = #[.cell p ty]) (hdf : a.defers = []) (g : Nat) {t : TypeId} {cs : Array Value}
 (hp : a.tmps.getD p undef = .pointer (some ⟨g, 0, none⟩)) (hB : Blk w g t cs) (d : TypeDesc) (hu : P.underlying ty = some d) (hd : (match d with | .struct _ | .array _ _ => true | _ => false) = true)
 (n : Nat) (hs : (P.info? ty).map (·.size) = some n) (hn : cs.size = n) (hR : R (.returned (.agg cs)) w) : bodyPost P fn R .ret a w :=
 bodyPost_ret (results_cell_row h _ _ g t cs (0, 0) d hp hB hu hd (by rw [hn]; exact hs)) hdf hR
end
theorem run_index_agg {P : Program} (t e : TypeId) (n : Nat) (cs : Array Value) (i : Nat) (u : Value) (ht : P.underlying t = some (.array n e)) (k : IntKind) (he : P.underlying e = some (.int k)) (hs : (P.info? e).map (·.size) = some 1)
 (hi : i < n) (hu : cs[i]? = some u) (w : World) : (Instr.index t (.agg cs) (.int .i64 (i : Int))).run P w = .ok u w := by
 cases hq : P.info? e with
 | none => simp [hq] at hs
 | some inf =>
   have hz : inf.size = 1 := by simpa [hq] using hs
   have hb : (0 : Int) ≤ i ∧ (i : Int) < n := by omega
   have hagg : (isAgg e).run P w = .ok false w := by
    unfold isAgg
    rw [Sem.run_bind, run_underlying he w]
    rfl
   have hc : ((0 : Int) ≤ (i : Int) ∧ (i : Int) < (n : Int)) = True := by simp; omega
   simp only [Instr.index, asIntOf, Sem.run_bind, Sem.run_pure, Result.andThen_ok, run_underlying ht, hc, if_true]
   simp [sizeOf, typeInfo, hq, hz, part, hagg, hu]
section
variable {P : Program} {ops : Array Oper} {rest : List Oper} {o : Oper} {a : Act} {w : World} {Q : Exit → Act → World → Prop}
theorem wBox (hg : o.guard = none) (t : TypeId) (x : Operand) (ho : o.op = .box t x) (cs : Array Value) (hx : (a.eval x).cells = cs)
 (h : ∀ w1 g, Blk w1 g t cs → Ext w w1 → w.heap.size ≤ g → wpList P ops Q rest (a.put o.dst (.pointer (some ⟨g, 0, none⟩))) w1) : wpList P ops Q (o :: rest) a w := by
 subst hx
 refine wpList_plain hg fun K hK => ?_
 unfold Oper.wp execOp
 simp only [ho, Sem.run_bind, Instr.box, newVar, newRow, run_newObj_alloc, Sem.run_pure, Result.andThen_ok]
 exact hK _ _ (h _ _ (Blk.new w t _) ((Ext.refl w).alloc _) (Nat.le_refl _))
theorem wpList_alloc_abs (hg : o.guard = none) (t : TypeId) (ho : o.op = .alloc t) (z : Value) (hz : (P.info? t).bind (·.zero) = some z)
 (h : ∀ w1 g, Blk w1 g t z.cells → Ext w w1 → w.heap.size ≤ g → wpList P ops Q rest (a.put o.dst (.pointer (some ⟨g, 0, none⟩))) w1) : wpList P ops Q (o :: rest) a w := by
 cases hq : P.info? t with
 | none => simp [hq] at hz
 | some inf =>
   have hz' : inf.zero = some z := by simpa [hq] using hz
   have hzv : (zeroValue t).run P w = .ok z w := by simp [zeroValue, typeInfo, hq, hz']
   refine wpList_plain hg fun K hK => ?_
   unfold Oper.wp execOp
   simp only [ho, Sem.run_bind, Instr.alloc, hzv, newVar, newRow, run_newObj_alloc, Sem.run_pure, Result.andThen_ok]
   exact hK _ _ (h _ _ (Blk.new w t _) ((Ext.refl w).alloc _) (Nat.le_refl _))
end
theorem wpList_wanted {P : Program} {ops : Array Oper} {rest : List Oper} {o : Oper} {a : Act} {w : World} {Q : Exit → Act → World → Prop} (hw : Region.wanted o (yielded ops a.tmps) = true)
 (h : ∀ K : Act → World → Prop, (∀ a w, wpList P ops Q rest a w → K a w) → o.wp P a w K Q) : wpList P ops Q (o :: rest) a w :=
 wpList_step fun K hK => by rw [if_pos hw]; exact h K hK
theorem wAlo' {P : Program} {ops : Array Oper} {rest : List Oper} {o : Oper} {a : Act} {w : World} {Q : Exit → Act → World → Prop} (hg : o.guard = none) (dst : Option Tmp) (hdst : o.dst = dst) (t : TypeId) (ho : o.op = .alloc t) (z : Value) (hz : (P.info? t).bind (·.zero) = some z)
 (h : ∀ w1 g, Blk w1 g t z.cells → Ext w w1 → w.heap.size ≤ g → wpList P ops Q rest (a.put dst (.pointer (some ⟨g, 0, none⟩))) w1) : wpList P ops Q (o :: rest) a w := by
 subst hdst
 exact wpList_alloc_abs hg t ho z hz h
theorem wpList_build0_g {P : Program} {ops : Array Oper} {rest : List Oper} {o : Oper} {a : Act} {w : World} {Q : Exit → Act → World → Prop} (hw : Region.wanted o (yielded ops a.tmps) = true) (t : TypeId) (ho : o.op = .build t #[])
 (cs : Array Value) (hf : P.built t [] = some cs) (h : wpList P ops Q rest (a.put o.dst (.agg cs)) w) : wpList P ops Q (o :: rest) a w :=
 wpList_wanted hw fun _ hK => wp_build t #[] ho (by simp [hf]) (by simpa [hf] using hK _ _ h)
theorem Ext.grown {a w w' : World} (h : Ext a w) {g : Nat} (hg : w.grownBy w' (some g)) (hB : a.heap.size ≤ g) : Ext a w' :=
 Below.grown h hg h.size (fun k hk => by injection hk with hk; omega)
section
variable {P : Program} {ops : Array Oper} {md : Region.Mode} {R : World → World → Prop}
variable {Q : Exit → Act → World → Prop}
def onlyN (QN : Act → World → Prop) : Exit → Act → World → Prop
 | .normal, a, w => QN a w
 | _, _, _ => False
variable {o : Oper} {rest : List Oper} {k : Nat} {listed : Array Bool} {a : Act} {wc : World}
end
section
variable {P : Program} {ops : Array Oper} {md : Region.Mode} {R : World → World → Prop}
variable {Q : Exit → Act → World → Prop} {n : Nat} {F : Array Bool → Act → World → Prop}
theorem not_letsOut {QN : Act → World → Prop} (h : LetsOut (onlyN QN)) : False := by
 obtain ⟨a, w, h⟩ := h
 exact h
theorem wpOp_exit {i : Nat} {K : Act → World → Prop} {QN : Act → World → Prop} {Q' : Exit → Act → World → Prop} {a : Act} {w : World} (h : wpOp P ops (onlyN QN) i K a w) : wpOp P ops Q' i K a w := by
 have up : ∀ (o : Oper) (r : Result Next), o.upon P a K (onlyN QN) r → o.upon P a K Q' r := by
  intro o r h
  cases r with
  | ok nx w' =>
    cases nx <;> simp only [Oper.upon] at h ⊢ <;> first
     | exact h
     | exact Calls.mono h (fun e w'' he => by cases e <;> first | exact he | exact (he : False).elim | exact (not_letsOut he).elim)
  | halt x w' =>
    cases x <;> simp only [Oper.upon] at h ⊢
    case panic u => exact (h : False).elim
 unfold wpOp at *
 split
 ·rename_i ho; simpa [ho] using h
 ·rename_i o ho
  simp only [ho] at h
  split
  ·rename_i hw
   simp only [hw, if_true] at h
   rcases h with h | ⟨_, h⟩
   ·exact .inl (up _ _ h)
   ·exact (not_letsOut h).elim
  ·rename_i hw
   simpa [hw] using h
end
theorem guardN (op : BinOp) (x y : Operand) (v w : Int) (W : World) : (eqGuard op 3 x y (.int .i64 v) (.int .i64 w)).run Tryz.prog W = .ok () W := by
 cases op <;> go_simp
theorem run_addN (i d : Nat) (h : i + d < 1000000000000) (W : World) : (binOp .add 3 (.int .i64 (i : Int)) (.int .i64 (d : Int))).run Tryz.prog W = .ok (.int .i64 ((i + d : Nat) : Int)) W := by
 have h4 : IntKind.i64.wrap ((i : Int) + (d : Int)) = ((i + d : Nat) : Int) := by rw [← Int.natCast_add]; exact IntWalk.i64_in _ (by omega)
 go_simp
theorem run_subN (i d : Nat) (h : i < 1000000000000) (h2 : d ≤ i) (W : World) : (binOp .sub 3 (.int .i64 (i : Int)) (.int .i64 (d : Int))).run Tryz.prog W = .ok (.int .i64 ((i - d : Nat) : Int)) W := by
 have h4 : IntKind.i64.wrap ((i : Int) - (d : Int)) = ((i - d : Nat) : Int) := by rw [← Int.natCast_sub h2]; exact IntWalk.i64_in _ (by omega)
 go_simp
section
variable {P : Program} {md : Region.Mode} {ops : Array Oper} {R : World → World → Prop} {Q : Exit → Act → World → Prop} {rest : List Oper} {o : Oper} {k : Nat} {listed : Array Bool} {a : Act} {wc : World}
end
def ints (zs : List Int) : List Value := zs.map (Value.int .i64)
theorem ints_at (zs : List Int) (k : Nat) (u : Value) (h : (ints zs)[k]? = some u) : ∃ hk : k < zs.length, u = .int .i64 zs[k] := by
 unfold ints at h
 rw [List.getElem?_map] at h
 obtain ⟨z, hz, rfl⟩ := Option.map_eq_some_iff.1 h
 obtain ⟨hk, e⟩ := List.getElem?_eq_some_iff.1 hz
 exact ⟨hk, by rw [e]⟩
theorem ints_len (zs : List Int) : (ints zs).length = zs.length := by simp [ints]
theorem take_succ_iff {α : Type} (xs ys : List α) (k : Nat) (h1 : k < xs.length) (h2 : k < ys.length) :
 xs.take (k + 1) = ys.take (k + 1) ↔ xs.take k = ys.take k ∧ xs[k] = ys[k] := by
 rw [List.take_succ_eq_append_getElem h1, List.take_succ_eq_append_getElem h2]
 constructor
 ·intro h
  have := List.append_inj h (by simp; omega)
  exact ⟨this.1, by simpa using this.2⟩
 ·rintro ⟨a, b⟩; rw [a, b]
set_option maxHeartbeats 400000 in
theorem eqInt_any (u v : Value) (xs ys : List Int) (w : World) (hu : SL w 1 u xs.length (ints xs)) (hv : SL w 1 v ys.length (ints ys)) :
 Calls Tryz.prog 26 #[u, v] w fun e w' => e = .returned (.bool (decide (xs = ys))) ∧ w = w' := by
 have hu' := hu
 have hv' := hv
 obtain ⟨A, c, rfl, hc1, hc2, -, -⟩ := hu'
 obtain ⟨B, d, rfl, hd1, hd2, -, -⟩ := hv'
 by_cases hl : (xs.length : Int) != ys.length
 ·go_enter Tryz.func26, Tryz.ntmps26
  go_wp2
  go_ret
  refine ⟨?_, rfl⟩
  have : xs ≠ ys := by rintro rfl; simp at hl
  simp [this]
 ·have h9 : (xs.length : Int) = ys.length := by simpa using hl
  have hl' : xs.length = ys.length := by omega
  clear h9
  have HL := hl'
  have hn : ((xs.length : Int) != ys.length) = false := by simpa using hl
  have HE : Hid (xs.length = ys.length) := HL
  clear hl HL
  go_enter Tryz.func26, Tryz.ntmps26
  clear hl'
  go_wp2
  go_loop [14] (fun i => ∃ k : Nat, k ≤ xs.length ∧ i = .int .i64 k ∧ xs.take k = ys.take k) (fun i => xs.length - (intOf i).toNat)
  case atStart => exact ⟨0, by omega, rfl, by simp⟩
  case round =>
   obtain ⟨k, hk, rfl, ht⟩ := hrel
   have HT : Hid (xs.take k = ys.take k) := ht
   clear ht
   by_cases hlt : k < xs.length
   ·have hlt2 : k < ys.length := by have := HE.out; omega
    obtain ⟨ad, u, rfl, -, hx, hcell⟩ := hu.at1 hlt
    obtain ⟨_, rfl⟩ := ints_at _ _ _ hx
    obtain ⟨bd, u, rfl, -, hy, hcell2⟩ := hv.at1 hlt2
    obtain ⟨_, rfl⟩ := ints_at _ _ _ hy
    clear hx hy
    by_cases hq : xs[k] = ys[k]
    ·have hq' : ((xs[k] : Int) != ys[k]) = false := by simpa using hq
     have HQ : Hid (xs[k] = ys[k]) := hq
     clear hq
     go_wp2
     go_round
     case rel => exact ⟨k + 1, by omega, by go_num, (take_succ_iff _ _ _ hlt hlt2).2 ⟨HT.out, HQ.out⟩⟩
     case measure => simp [intOf]; omega
    ·have hq' : ((xs[k] : Int) != ys[k]) = true := by simpa using hq
     go_wp2
     go_ret
     refine ⟨?_, rfl⟩
     have : xs ≠ ys := by rintro rfl; exact hq rfl
     simp [this]
   ·go_wp2
    go_ret
    refine ⟨?_, rfl⟩
    have e : xs = ys := by
     have := HT.out
     rwa [List.take_of_length_le (by omega), List.take_of_length_le (by have := HE.out; omega)] at this
    simp [e]
def rp (n d : Int) : Int := (2 * n + d) / (2 * d)
def rnd (n d : Int) : Int := if n < 0 then -(rp (-n) d) else rp n d
def clampZ (n lo hi : Int) : Int := if n < lo then lo else if hi < n then hi else n
def inB (n lo hi : Int) : Bool := decide (lo ≤ n ∧ n ≤ hi)
theorem inB_iff {n lo hi : Int} : inB n lo hi = true ↔ lo ≤ n ∧ n ≤ hi := by simp [inB]
theorem inB_not {n lo hi : Int} : inB n lo hi = false ↔ n < lo ∨ hi < n := by rw [← Bool.not_eq_true, inB_iff]; omega
def allIn (zs : List Int) (lo hi : Int) : Bool := zs.all fun z => inB z lo hi
theorem allIn_iff {zs : List Int} {lo hi : Int} : allIn zs lo hi = true ↔ ∀ z ∈ zs, lo ≤ z ∧ z ≤ hi := by simp [allIn, inB_iff]
theorem allIn_no {zs : List Int} {lo hi : Int} {k : Nat} (hk : k < zs.length) (h : inB zs[k] lo hi = false) : allIn zs lo hi = false := by
 rw [← Bool.not_eq_true, allIn_iff]
 intro hh
 have := inB_iff.2 (hh _ (List.getElem_mem hk))
 rw [this] at h; cases h
theorem allIn_not {zs : List Int} {lo hi : Int} : (!zs.any fun z => decide (z < lo) || decide (hi < z)) = allIn zs lo hi := by
 rw [Bool.eq_iff_iff, allIn_iff]
 simp only [Bool.not_eq_true', List.any_eq_false, Bool.or_eq_true, decide_eq_true_eq]
 exact ⟨fun h z hz => by have := h z hz; omega, fun h z hz => by have := h z hz; omega⟩
theorem sizeInt : (Tryz.prog.info? 3).map (·.size) = some 1 := by kernel_rfl
def bv (zs : List Int) : Array Value := (ints zs).toArray
theorem bv_size (zs : List Int) : (bv zs).size = zs.length := by simp [bv, ints_len]
theorem bv_at (zs : List Int) (k : Nat) (h : k < zs.length) : (bv zs)[k]? = some (.int .i64 zs[k]) := by simp [bv, ints, h]
theorem Blk.bsl {w : World} {g : Nat} {T : TypeId} {zs : List Int} {c : Nat} (h : Blk w g T (bv zs)) (hc : zs.length ≤ c) (hc2 : c ≤ 9223372036854775807) :
 SL w 1 (.slice (some ⟨g, 0, none⟩) zs.length c) zs.length (Go.Proofs.YtkggcjdlpendfaaGreatDoor.ints zs) := by
 have := h.sl (size := 1) (n := zs.length) (c := c) (by simp [bv_size]) hc hc2
 simpa [bv] using this
theorem allIn_take {zs : List Int} {lo hi : Int} {k : Nat} (h : ∀ z ∈ zs.take k, lo ≤ z ∧ z ≤ hi) (hk : k < zs.length) (hz : lo ≤ zs[k] ∧ zs[k] ≤ hi) : ∀ z ∈ zs.take (k + 1), lo ≤ z ∧ z ≤ hi := by
 rw [List.take_succ_eq_append_getElem hk]
 intro z hz'
 rcases List.mem_append.1 hz' with h1 | h1
 ·exact h z h1
 ·simp at h1; subst h1; exact hz
theorem outside_any (n lo hi : Int) (w : World) :
 Calls Tryz.prog 54 #[.int .i64 n, .int .i64 lo, .int .i64 hi] w fun e w' => e = .returned (.bool (!inB n lo hi)) ∧ w = w' := by
 by_cases h : n < lo
 ·have h' : decide (n < lo) = true := by simpa using h
  have e : (!inB n lo hi) = true := by rw [inB_not.2 (Or.inl h)]; rfl
  rw [e]; clear e
  go_enter Tryz.func54, Tryz.ntmps54
  go_wp2
  go_ret
  exact ⟨rfl, rfl⟩
 ·have h' : decide (n < lo) = false := by simpa using h
  have e : (!inB n lo hi) = decide (hi < n) := by rw [Bool.eq_iff_iff, Bool.not_eq_true', inB_not]; simp; omega
  rw [e]; clear e
  go_enter Tryz.func54, Tryz.ntmps54
  go_wp2
  go_ret
  exact ⟨rfl, rfl⟩
def Enters (P : Program) (f : FuncId) : Prop := ∀ (args : Array Value) (w : World), (callFunc f args).run P w = .ok (.enter f args) w
theorem enters_of {P : Program} {f : FuncId} {fn : Func} {c : Code} (hf : P.funcs[f]? = some fn) (hname : (fn.name == "runtime.NumGoroutine") = false) (hb : fn.body = some c) : Enters P f := by
 intro args w
 have hn : ¬ fn.name = "runtime.NumGoroutine" := by simpa using hname
 simp [callFunc, hf, hb, hn]
def idxOf (p : Int → Bool) (zs : List Int) : Int := match zs.findIdx? p with | some k => k | none => -1
theorem indexFunc_any (g : Nat) (cap : Array Value) (p : Int → Bool) (eg : Enters Tryz.prog g) (v : Value) (zs : List Int) (w : World) (hs : SL w 1 v zs.length (ints zs))
 (hp : ∀ z ∈ zs, Calls Tryz.prog g (#[.int .i64 z] ++ cap) w fun e w' => e = .returned (.bool (p z)) ∧ w = w') :
 Calls Tryz.prog 140 #[v, .func (.func g) #[] cap] w fun e w' => e = .returned (.int .i64 (idxOf p zs)) ∧ w = w' := by
 have hs' := hs
 obtain ⟨A, c, rfl, hc1, hc2, -, -⟩ := hs'
 go_enter Tryz.func140, Tryz.ntmps140
 go_wp2_with fail
 go_loop [8] (fun i => ∃ k : Nat, k ≤ zs.length ∧ i = .int .i64 k ∧ ∀ z ∈ zs.take k, p z = false) (fun i => zs.length - (intOf i).toNat)
 case atStart => exact ⟨0, by omega, rfl, by simp⟩
 case round =>
  obtain ⟨k, hk, rfl, ht⟩ := hrel
  have HT : Hid (∀ z ∈ zs.take k, p z = false) := ht
  clear ht
  by_cases hlt : k < zs.length
  ·obtain ⟨ad, u, rfl, -, hx, hcell⟩ := hs.at1 hlt
   obtain ⟨_, rfl⟩ := ints_at _ _ _ hx
   clear hx
   have hcall := hp zs[k] (List.getElem_mem _)
   have HC : Hid (Calls Tryz.prog g (#[.int .i64 zs[k]] ++ cap) w fun e w' => e = .returned (.bool (p zs[k])) ∧ w = w') := hcall
   have HP : Hid (∀ z ∈ zs, Calls Tryz.prog g (#[.int .i64 z] ++ cap) w fun e w' => e = .returned (.bool (p z)) ∧ w = w') := hp
   clear hcall hp
   unfold Enters at eg
   by_cases hz : p zs[k] = true
   ·have hfin : idxOf p zs = k := by
     unfold idxOf
     have : zs.findIdx? p = some k := by
      rw [List.findIdx?_eq_some_iff_getElem]
      refine ⟨hlt, hz, fun j hj => ?_⟩
      have := HT.out zs[j] (by
       rw [List.mem_take_iff_getElem]
       exact ⟨j, by omega, rfl⟩)
      simp [this]
     rw [this]
    have HF := hid_ hfin
    clear hfin
    go_wp2_with fail
    refine HC.out.mono ?_
    rintro e w' ⟨rfl, rfl⟩
    rw [hz]; clear hz
    go_wp2
    go_ret
    exact ⟨by rw [HF.out]; rfl, rfl⟩
   ·have hz' : p zs[k] = false := by simpa using hz
    have HZ := hid_ hz'
    clear hz
    go_wp2_with fail
    refine HC.out.mono ?_
    rintro e w' ⟨rfl, rfl⟩
    rw [hz']; clear hz'
    go_wp2
    go_round
    case rel =>
     refine ⟨k + 1, by omega, by go_num, fun z hz => ?_⟩
     rw [List.take_succ_eq_append_getElem hlt] at hz
     rcases List.mem_append.1 hz with h1 | h1
     ·exact HT.out z h1
     ·simp at h1; subst h1; exact HZ.out
    case measure => simp [intOf]; omega
  ·have hfin : idxOf p zs = -1 := by
    unfold idxOf
    have : zs.findIdx? p = none := by
     rw [List.findIdx?_eq_none_iff]
     have h := HT.out
     rwa [List.take_of_length_le (by omega)] at h
    rw [this]
   have HF := hid_ hfin
   clear hfin
   go_wp2
   go_ret
   exact ⟨by rw [HF.out]; rfl, rfl⟩
theorem idxOf_ge (p : Int → Bool) (zs : List Int) : decide (idxOf p zs ≥ 0) = zs.any p := by
 unfold idxOf
 cases h : zs.findIdx? p with
 | none =>
   have : zs.any p = false := by rw [List.any_eq_false]; intro x hx; have := List.findIdx?_eq_none_iff.1 h x hx; simp [this]
   simp [this]
 | some k =>
   have : zs.any p = true := by
    rw [List.any_eq_true]
    obtain ⟨hk, hp, -⟩ := List.findIdx?_eq_some_iff_getElem.1 h
    exact ⟨_, List.getElem_mem hk, hp⟩
   simp [this]
theorem containsFunc_any (g : Nat) (cap : Array Value) (p : Int → Bool) (eg : Enters Tryz.prog g) (v : Value) (zs : List Int) (w : World) (hs : SL w 1 v zs.length (ints zs))
 (hp : ∀ z ∈ zs, Calls Tryz.prog g (#[.int .i64 z] ++ cap) w fun e w' => e = .returned (.bool (p z)) ∧ w = w') :
 Calls Tryz.prog 88 #[v, .func (.func g) #[] cap] w fun e w' => e = .returned (.bool (zs.any p)) ∧ w = w' := by
 have HP := hid_ hp
 have HG := hid_ eg
 clear hp eg
 go_enter Tryz.func88, Tryz.ntmps88
 go_wp2_with (go_at_call 140; refine (indexFunc_any g cap p HG.out v zs _ hs HP.out).mono ?_; rintro e w' ⟨rfl, rfl⟩)
 go_ret
 exact ⟨by rw [← idxOf_ge]; rfl, rfl⟩
theorem run_index48 (cs : Array Value) (i : Nat) (u : Value) (hi : i < 64) (hu : cs[i]? = some u) (w : World) : (Instr.index 33 (.agg cs) (.int .i64 (i : Int))).run Tryz.prog w = .ok u w :=
 run_index_agg _ _ 64 cs i u Tryz.underlying33 _ Tryz.underlying3 sizeInt hi hu w
theorem size48 : (Tryz.prog.info? 33).map (·.size) = some 64 := by kernel_rfl
set_option maxHeartbeats 400000 in
theorem blockWithin_any (zs : List Int) (lo hi : Int) (w : World) (hz : zs.length = 64) :
 Calls Tryz.prog 67 #[.agg (bv zs), .int .i64 lo, .int .i64 hi] w fun e w' => e = .returned (.bool (allIn zs lo hi)) ∧ Ext w w' := by
 have HZ : Hid (zs.length = 64) := hz
 have hs := (bv_size zs).trans hz
 have HS : Hid ((bv zs).size = 64) := hs
 have hat := bv_at zs
 generalize hcs : bv zs = cs at *
 have HA : Hid (∀ (k : Nat) (h : k < zs.length), cs[k]? = some (.int .i64 zs[k])) := hat
 clear hat hs hz hcs
 go_enter Tryz.func67, Tryz.ntmps67
 go_wp2_with (refine wLdB rfl 33 _ rfl _ rfl (Blk.new w 33 cs) _ Tryz.underlying33 rfl 64 size48 HS.out ?_)
 go_loop [10] (fun i => ∃ k : Nat, k ≤ 64 ∧ i = .int .i64 k ∧ ∀ z ∈ zs.take k, lo ≤ z ∧ z ≤ hi) (fun i => 64 - (intOf i).toNat)
 case atStart => exact ⟨0, by omega, rfl, by simp⟩
 case round =>
  obtain ⟨k, hk, rfl, ht⟩ := hrel
  have HT : Hid (∀ z ∈ zs.take k, lo ≤ z ∧ z ≤ hi) := ht
  clear ht
  by_cases hlt : k < 64
  ·have hlt2 : k < zs.length := by have := HZ.out; omega
   have hat := fun W => run_index48 cs k _ hlt (HA.out k hlt2) W
   cases hd : inB zs[k] lo hi with
   | true =>
     have HI := hid_ (inB_iff.1 hd)
     go_wp2_with (go_at_call 54; refine (outside_any _ _ _ _).mono ?_; rintro e w' ⟨rfl, rfl⟩)
     go_round
     case rel => exact ⟨k + 1, by omega, by go_num, allIn_take HT.out hlt2 HI.out⟩
     case measure => simp [intOf]; omega
   | false =>
     have HF := hid_ (allIn_no hlt2 hd)
     go_wp2_with (go_at_call 54; refine (outside_any _ _ _ _).mono ?_; rintro e w' ⟨rfl, rfl⟩)
     go_ret
     exact ⟨by rw [HF.out]; rfl, (Ext.refl w).alloc _⟩
  ·have hfin : allIn zs lo hi = true := allIn_iff.2 (by have := HT.out; rwa [List.take_of_length_le (by have := HZ.out; omega)] at this)
   have HF : Hid (allIn zs lo hi = true) := hfin
   clear hfin
   go_wp2
   go_ret
   exact ⟨by rw [HF.out]; rfl, (Ext.refl w).alloc _⟩
theorem run_loadI (W : World) (p : Addr) (z : Int) (h : W.cell? p = some (.int .i64 z)) : (Instr.loadAt 3 (.pointer (some p))).run Tryz.prog W = .ok (.int .i64 z) W := by
 go_simp
section
variable {o : Oper} {a : Act}
theorem ex_move {P : Program} {x : Operand} (ho : o.op = .move x) {v : Value} (hx : a.eval x = v) (w : World) : (execOp a.eval o).run P w = .ok (.value v) w := by simp [execOp, ho, hx]
theorem ex_assign {P : Program} {x : Operand} (ho : o.op = .assign x) {v : Value} (hx : a.eval x = v) (w : World) : (execOp a.eval o).run P w = .ok (.value v) w := by simp [execOp, ho, hx]
theorem ex_bin {op : BinOp} {x y : Operand} {t2 : TypeId} (ho : o.op = .binOp op 3 x y t2) {m n : Int} (hx : a.eval x = .int .i64 m) (hy : a.eval y = .int .i64 n) {v : Value}
 (hr : ∀ w, (binOp op 3 (.int .i64 m) (.int .i64 n)).run Tryz.prog w = .ok v w) (w : World) : (execOp a.eval o).run Tryz.prog w = .ok (.value v) w := by
 simp [execOp, ho, hx, hy, guardN, hr]
theorem ex_addN {x y : Operand} {t2 : TypeId} (ho : o.op = .binOp .add 3 x y t2) {i d : Nat} (hx : a.eval x = .int .i64 (i : Int)) (hy : a.eval y = .int .i64 (d : Int)) (h : i + d < 1000000000000) (w : World) :
 (execOp a.eval o).run Tryz.prog w = .ok (.value (.int .i64 ((i + d : Nat) : Int))) w := ex_bin ho hx hy (run_addN i d h) w
theorem guardG (op : BinOp) (t : TypeId) (x y : Operand) (k k' : IntKind) (v w : Int) {P : Program} (W : World) : (eqGuard op t x y (.int k v) (.int k' w)).run P W = .ok () W := by
 cases op <;> simp [eqGuard]
theorem ex_cmp {P : Program} {op : BinOp} {t : TypeId} {x y : Operand} {t2 : TypeId} (ho : o.op = .binOp op t x y t2) {m n : Int} (hx : a.eval x = .int .i64 m) (hy : a.eval y = .int .i64 n) {b : Bool}
 (hr : ∀ w, (binOp op t (.int .i64 m) (.int .i64 n)).run P w = .ok (.bool b) w) (w : World) : (execOp a.eval o).run P w = .ok (.value (.bool b)) w := by
 simp [execOp, ho, hx, hy, guardG, hr]
theorem ex_gtr {P : Program} {t : TypeId} {x y : Operand} {t2 : TypeId} (ho : o.op = .binOp .gtr t x y t2) {m n : Int} (hx : a.eval x = .int .i64 m) (hy : a.eval y = .int .i64 n) {b : Bool} (h : decide (n < m) = b) (w : World) :
 (execOp a.eval o).run P w = .ok (.value (.bool b)) w := ex_cmp ho hx hy (fun w => by subst h; simp [binOp, Op.intCmp]) w
theorem ex_eql {P : Program} {t : TypeId} {x y : Operand} {t2 : TypeId} (ho : o.op = .binOp .eql t x y t2) {m n : Int} (hx : a.eval x = .int .i64 m) (hy : a.eval y = .int .i64 n) {b : Bool} (h : decide (m = n) = b) (w : World) :
 (execOp a.eval o).run P w = .ok (.value (.bool b)) w := ex_cmp ho hx hy (fun w => by subst h; by_cases e : m = n <;> simp [binOp, Op.intCmp, e]) w
theorem ex_neq {P : Program} {t : TypeId} {x y : Operand} {t2 : TypeId} (ho : o.op = .binOp .neq t x y t2) {m n : Int} (hx : a.eval x = .int .i64 m) (hy : a.eval y = .int .i64 n) {b : Bool} (h : decide (m ≠ n) = b) (w : World) :
 (execOp a.eval o).run P w = .ok (.value (.bool b)) w := ex_cmp ho hx hy (fun w => by subst h; by_cases e : m = n <;> simp [binOp, Op.intCmp, e]) w
theorem sizeOf_of {P : Program} {e : TypeId} {sz : Nat} (hs : (P.info? e).map (·.size) = some sz) (w : World) : (sizeOf e).run P w = .ok sz w := by
 cases hq : P.info? e with
 | none => simp [hq] at hs
 | some i => have hz : i.size = sz := by simpa [hq] using hs
             simp [sizeOf, typeInfo, hq, hz]
theorem ex_ixSl {P : Program} {t e : TypeId} {sz : Nat} (ht : P.underlying t = some (.slice e)) (hs : (P.info? e).map (·.size) = some sz) {x ix : Operand} (ho : o.op = .indexAddr t x ix) {ad : Addr} {n c i : Nat} {k : IntKind} (hx : a.eval x = .slice (some ad) n c) (hi : a.eval ix = .int k (i : Int)) (h : i < n) (w : World) :
 (execOp a.eval o).run P w = .ok (.value (.pointer (some (ad.add (i * sz))))) w := by
 have hc : ((0 : Int) ≤ (i : Int) ∧ (i : Int) < (n : Int)) = True := by simp; omega
 simp only [execOp, ho, hx, hi, Instr.indexAt, Sem.run_bind, run_underlying ht, Result.andThen_ok, asIntOf, Sem.run_pure, hc, if_true, sizeOf_of hs, Int.toNat_natCast]
theorem addr_add (g m n : Nat) : (⟨g, m, none⟩ : Addr).add n = ⟨g, m + n, none⟩ := by
 unfold Addr.add
 by_cases hn : n = 0
 ·subst hn; rfl
 ·rw [if_neg hn]
theorem ex_loadI {x : Operand} (ho : o.op = .load 3 x) {p : Addr} (hx : a.eval x = .pointer (some p)) {z : Int} {w : World} (h : w.cell? p = some (.int .i64 z)) : (execOp a.eval o).run Tryz.prog w = .ok (.value (.int .i64 z)) w := by
 simp [execOp, ho, hx, run_loadI w p z h]
end
theorem sizeI : (Tryz.prog.info? 3).map (·.size) = some 1 := by kernel_rfl
section
variable {P : Program} {ops : Array Oper} {Q : Exit → Act → World → Prop} {rest : List Oper} {o : Oper} {a : Act} {w : World}
theorem wl_run (hg : o.guard = none) (v : Value) (h1 : ∀ w, (execOp a.eval o).run P w = .ok (.value v) w) (h : wpList P ops Q rest (a.put o.dst v) w) : wpList P ops Q (o :: rest) a w :=
 wpList_plain hg fun _ hK => by unfold Oper.wp; rw [h1]; exact hK _ _ h
theorem wl_run_g (hw : Region.wanted o (yielded ops a.tmps) = true) (v : Value) (h1 : ∀ w, (execOp a.eval o).run P w = .ok (.value v) w) (h : wpList P ops Q rest (a.put o.dst v) w) : wpList P ops Q (o :: rest) a w :=
 wpList_wanted hw fun _ hK => by unfold Oper.wp; rw [h1]; exact hK _ _ h
theorem wl_read_g (hw : Region.wanted o (yielded ops a.tmps) = true) (v : Value) (h1 : (execOp a.eval o).run P w = .ok (.value v) w) (h : wpList P ops Q rest (a.put o.dst v) w) : wpList P ops Q (o :: rest) a w :=
 wpList_wanted hw fun _ hK => by unfold Oper.wp; rw [h1]; exact hK _ _ h
theorem wl_read (hg : o.guard = none) (v : Value) (h1 : (execOp a.eval o).run P w = .ok (.value v) w) (h : wpList P ops Q rest (a.put o.dst v) w) : wpList P ops Q (o :: rest) a w :=
 wpList_plain hg fun _ hK => by unfold Oper.wp; rw [h1]; exact hK _ _ h
end
def digs (n : Nat) : Nat → List Bool
 | 0 => []
 | k + 1 => (n / 2 ^ k % 2 == 1) :: digs n k
def numB : List Bool → Nat
 | [] => 0
 | b :: l => b.toNat * 2 ^ l.length + numB l
def packB (l : List Bool) : List Nat := (List.range (l.length / 8)).map fun i => numB ((l.drop (8 * i)).take 8)
def padB (l : List Bool) : List Bool := l ++ List.replicate ((8 - l.length % 8) % 8) true
def digsOf (b : List Nat) : List Bool := b.flatMap fun x => digs x 8
def binS (n : Nat) : Nat → ByteArray
 | 0 => ⟨#[]⟩
 | k + 1 => Utf8.encode (48 + (((n / 2 ^ k) % 2 : Nat) : Int)) ++ binS n k
theorem digit_size (m : Nat) : (Utf8.encode (48 + ((m % 2 : Nat) : Int))).size = 1 := by
 rcases (show m % 2 = 0 ∨ m % 2 = 1 by omega) with h | h <;> rw [h] <;> decide
theorem binS_size (n k : Nat) : (binS n k).size = k := by
 induction k with
 | zero => rfl
 | succ k ih => unfold binS; rw [ByteArray.size_append, digit_size, ih]; omega
set_option maxHeartbeats 400000 in
theorem binary_any (width n : Nat) (w : World) (hw : width ≤ 1000) (hn : n ≤ 1000000000) :
 Calls Tryz.prog 134 #[.int .i64 (width : Int), .int .i64 (n : Int)] w fun e w' => e = .returned (.string (binS n width)) ∧ w = w' := by
 have HB := hid_ (binS_size n)
 have HN : Hid (∀ k, binS n (k + 1) = Utf8.encode (48 + (((n / 2 ^ k) % 2 : Nat) : Int)) ++ binS n k) := hid_ (fun k => rfl)
 go_enter Tryz.func134, Tryz.ntmps134
 go_wp2_with fail
 go_loop [1, 5, 7] (fun v s i => ∃ k m : Nat, k ≤ width ∧ m ≤ 1000000000 ∧ m = n / 2 ^ k ∧ i = .int .i64 (k : Int) ∧ v = .int .i64 (m : Int) ∧ s = .string (binS n k)) (fun _ _ i => width - (intOf i).toNat)
 case atStart => exact ⟨0, n, by omega, hn, by simp, rfl, rfl, rfl⟩
 case round =>
  obtain ⟨k, m, hk, hm, hmn, rfl, rfl, rfl⟩ := hrel
  have HM := hid_ hmn
  clear hmn
  by_cases hlt : k < width
  ·have hd := digit_size m
   have hbs := HB.out k
   have HNK := hid_ (HN.out k)
   rw [← HM.out] at HNK
   have em : ((m % 2 : Nat) : Int) = (m : Int) % 2 := by omega
   rw [em] at hd HNK
   clear em
   generalize binS n k = b at *
   generalize hu : Utf8.encode (48 + (m : Int) % 2) = u at *
   have hlim : ¬ 9223372036854775807 < u.size + b.size := by omega
   go_wp2_with fail
   go_round
   case rel => exact ⟨k + 1, m / 2, by omega, by omega, by rw [HM.out, Nat.div_div_eq_div_mul, Nat.pow_succ], by go_num, by simp, by rw [HNK.out]⟩
   case measure => simp [intOf]; omega
  ·obtain rfl : k = width := by omega
   go_wp2_with fail
   go_ret
   exact ⟨rfl, rfl⟩
def chB (b : Bool) : UInt8 := if b then 49 else 48
def strB (l : List Bool) : ByteArray := ⟨(l.map chB).toArray⟩
def bytesV (l : List Nat) : List Value := l.map fun x : Nat => Value.int .u8 (x : Int)
theorem bytesV_len (l : List Nat) : (bytesV l).length = l.length := by simp [bytesV]
theorem bytesV_snoc (l : List Nat) (x : Nat) : bytesV (l ++ [x]) = bytesV l ++ [.int .u8 (x : Int)] := by simp [bytesV]
section
open Go.RowKit Go.ChangeShapes Go.WideShapes Go.ChangeAt
def inI64 (z : Int) : Prop := -9223372036854775808 ≤ z ∧ z ≤ 9223372036854775807
theorem inI64_of_wf {z : Int} (h : (Lit.int .i64 z).wf = true) : inI64 z := by
 simp [Lit.wf, IntKind.min, IntKind.max, IntKind.signed, IntKind.bits] at h
 exact ⟨by omega, by omega⟩
theorem ints_of_cells {Q : Int → Prop} : ∀ (cs : List Value), (∀ i, i < cs.length → ∃ z, cs[i]? = some (.int .i64 z) ∧ Q z) → ∃ zs : List Int, cs = ints zs ∧ ∀ z ∈ zs, Q z
 | [], _ => ⟨[], rfl, by simp⟩
 | c :: cs, h => by
   obtain ⟨z, hz, hq⟩ := h 0 (by simp)
   obtain ⟨zs, rfl, hqs⟩ := ints_of_cells cs (fun i hi => by have := h (i + 1) (by simpa using hi); simpa using this)
   refine ⟨z :: zs, ?_, ?_⟩
   ·simp at hz; subst hz; rfl
   ·intro y hy
    cases hy with
    | head => exact hq
    | tail _ hy => exact hqs y hy
section
variable {H : Type} {enc : TypeId × Value → H} {P : Program} {w : World} {base : Nat} {spare : Nat → Bool} {held : Bool}
theorem trod_int_cell {t : TypeId} {fuel : Nat} {cs : List Value} {x : DataW H × List MemPlace} (ht : P.underlying t = some (.int .i64)) (h : DataW.trod enc P w base spare held fuel t cs = some x) :
 ∃ z, cs = [.int .i64 z] ∧ inI64 z := by
 obtain ⟨z, e, -, hw⟩ := DataW.trod_int ht h
 exact ⟨z, e, inI64_of_wf hw⟩
theorem trod_ints_arr {n : Nat} {t e : TypeId} {fuel : Nat} {cs : List Value} {x : DataW H × List MemPlace} (ht : P.underlying t = some (.array n e)) (he : P.underlying e = some (.int .i64)) (hce : P.cellsOf e = 1) (hct : P.cellsOf t = n)
 (h : DataW.trod enc P w base spare held fuel t cs = some x) : ∃ zs : List Int, zs.length = n ∧ cs = ints zs ∧ ∀ z ∈ zs, inI64 z := by
 obtain ⟨xs, m, -, -, hlen, hxl, hi⟩ := DataW.trod_array ht h
 rw [hct] at hlen
 have hcells : ∀ i, i < cs.length → ∃ z, cs[i]? = some (.int .i64 z) ∧ inI64 z := by
  intro i hlt
  have h1 := hi i (by omega)
  rw [hce, Nat.mul_one] at h1
  have hx : xs[i]? = some (xs[i]'(by omega)) := List.getElem?_eq_getElem (by omega)
  rw [hx] at h1
  obtain ⟨z, hz, hq⟩ := trod_int_cell he h1
  refine ⟨z, ?_, hq⟩
  rw [List.drop_eq_getElem_cons hlt] at hz
  simp only [List.take_succ_cons, List.take_zero, List.cons.injEq, and_true] at hz
  rw [List.getElem?_eq_getElem hlt, hz]
 obtain ⟨zs, rfl, hq⟩ := ints_of_cells cs hcells
 exact ⟨zs, by simpa [ints_len] using hlen, rfl, hq⟩
theorem cells64 : Tryz.prog.cellsOf 33 = 64 := by kernel_rfl
theorem cellsInt : Tryz.prog.cellsOf 3 = 1 := by kernel_rfl
end
end
def tblv (cs : List Int) (sl : Value) : Array Value := (ints cs ++ [sl]).toArray
theorem sizeTbl : (Tryz.prog.info? 42).map (·.size) = some 17 := by kernel_rfl
theorem size16 : (Tryz.prog.info? 40).map (·.size) = some 16 := by kernel_rfl
theorem tblv_size (cs : List Int) (sl : Value) (h : cs.length = 16) : (tblv cs sl).size = 17 := by simp [tblv, ints_len, h]
theorem tblv_range {w : World} {g : Nat} {T : TypeId} {cs : List Int} {sl : Value} (h : Blk w g T (tblv cs sl)) : w.rangeAt g 0 (ints cs) := by
 intro j v hv
 rw [Nat.zero_add, h.cell]
 unfold tblv
 rw [List.getElem?_toArray, List.getElem?_append_left (List.getElem?_eq_some_iff.1 hv).1]
 exact hv
theorem tblv_last {w : World} {g : Nat} {T : TypeId} {cs : List Int} {sl : Value} (h : Blk w g T (tblv cs sl)) (hl : cs.length = 16) : w.cell? ⟨g, 16, none⟩ = some sl := by
 rw [h.cell]
 simp [tblv, ints_len, hl]
theorem run_index16 (cs : Array Value) (i : Nat) (u : Value) (hi : i < 16) (hu : cs[i]? = some u) (w : World) : (Instr.index 40 (.agg cs) (.int .i64 (i : Int))).run Tryz.prog w = .ok u w :=
 run_index_agg _ _ 16 cs i u Tryz.underlying40 _ Tryz.underlying3 sizeInt hi hu w
def sumL (cs : List Int) (k : Nat) : Int := (cs.take k).sum
theorem sumL_succ (cs : List Int) (k : Nat) (h : k < cs.length) : sumL cs (k + 1) = sumL cs k + cs[k] := by
 unfold sumL
 rw [List.take_succ_eq_append_getElem h, List.sum_append]
 simp
def totalZ (cs : List Int) : Int × Bool := if allIn cs 0 256 then (sumL cs 16, decide (sumL cs 16 ≤ 256)) else (0, false)
set_option maxHeartbeats 400000 in
theorem total_any (cs : List Int) (sl : Value) (w : World) (hl : cs.length = 16) :
 Calls Tryz.prog 151 #[.agg (tblv cs sl)] w fun e w' => e = .returned (.tuple #[.int .i64 (totalZ cs).1, .bool (totalZ cs).2]) ∧ Ext w w' := by
 have HL := hid_ hl
 have HRG := hid_ (fun W g (h : Blk W g 42 (tblv cs sl)) => tblv_range h)
 have hcl := hid_ ((ints_len cs).trans hl)
 have HIX := hid_ (fun k (hk : k < cs.length) (h16 : k < 16) => fun W => run_index16 (bv cs) k (.int .i64 cs[k]) h16 (bv_at cs k hk) W)
 generalize tblv cs sl = tv at *
 have hbv : (ints cs).toArray = bv cs := rfl
 go_enter Tryz.func151, Tryz.ntmps151
 go_wp2_with (first
  | (refine wBox rfl 42 (.tmp 0) rfl tv rfl ?_; intro w1 g hb1 hx1 hg)
  | (refine wpList_load_mid rfl 40 (.tmp 7) rfl g 0 rfl (ints cs) _ (HRG.out _ _ hb1) Tryz.underlying40 rfl (by rw [hcl.out]; exact size16) ?_))
 go_loop [4, 9] (fun v i => ∃ k : Nat, k ≤ 16 ∧ i = .int .i64 (k : Int) ∧ v = .int .i64 (sumL cs k) ∧ (∀ z ∈ cs.take k, 0 ≤ z ∧ z ≤ 256) ∧ 0 ≤ sumL cs k ∧ sumL cs k ≤ 256 * k) (fun _ i => 16 - (intOf i).toNat)
 case atStart => exact ⟨0, by omega, rfl, rfl, by simp, by simp [sumL], by simp [sumL]⟩
 case round =>
  obtain ⟨k, hk, rfl, rfl, hin, s1, s2⟩ := hrel
  by_cases hlt : k < 16
  ·have hkl : k < cs.length := by have := HL.out; omega
   have hix := HIX.out k hkl hlt
   have HS := hid_ (sumL_succ cs k hkl)
   have HIN := hid_ hin
   clear hin
   cases hq : inB cs[k] 0 256 with
   | true =>
     obtain ⟨q1, q2⟩ := inB_iff.1 hq
     have HN := hid_ (allIn_take HIN.out hkl ⟨q1, q2⟩)
     generalize sumL cs k = s at *
     go_wp2_with fail
     go_round
     case rel => exact ⟨k + 1, by omega, by go_num, by rw [HS.out], HN.out, by rw [HS.out]; omega, by rw [HS.out]; omega⟩
     case measure => simp [intOf]; omega
   | false =>
     have HF := hid_ (show totalZ cs = (0, false) by unfold totalZ; rw [allIn_no hkl hq]; rfl)
     rcases Int.lt_or_le cs[k] 0 with h0 | h0
     ·have h0' : decide (cs[k] < 0) = true := by simpa using h0
      clear hq
      go_wp2_with fail
      go_ret2
      exact ⟨by rw [HF.out]; rfl, hx1⟩
     ·have h0' : decide (cs[k] < 0) = false := by simpa using h0
      have h1' : decide (256 < cs[k]) = true := by have := inB_not.1 hq; simp; omega
      clear hq
      go_wp2_with fail
      go_ret2
      exact ⟨by rw [HF.out]; rfl, hx1⟩
  ·have ek : k = 16 := by omega
   have HF := hid_ (show totalZ cs = (sumL cs 16, decide (sumL cs 16 ≤ 256)) by
    unfold totalZ
    rw [allIn_iff.2 (fun z hz => hin z (by rwa [List.take_of_length_le (by have := HL.out; omega)]))]
    rfl)
   rw [ek]
   rw [ek] at s1 s2
   clear hin ek hk hlt
   go_wp2_with fail
   go_ret2
   exact ⟨by rw [HF.out]; rfl, hx1⟩
theorem has_any (xs : List Int) (A : Option Addr) (c n : Nat) (x : Int) (w : World) (hn : xs.length = n) (hs : SL w 1 (.slice A n c) n (ints xs)) :
 Calls Tryz.prog 129 #[.slice A n c, .int .i64 x] w fun e w' => e = .returned (.bool (decide (x ∈ xs))) ∧ w = w' := by
 subst hn
 have hc1 : xs.length ≤ c ∧ c ≤ 9223372036854775807 := by obtain ⟨A', c', e, h1, h2, -⟩ := hs; injection e with e1 e2 e3; subst e3; exact ⟨h1, h2⟩
 obtain ⟨hc1, hc2⟩ := hc1
 go_enter Tryz.func129, Tryz.ntmps129
 go_wp2_with fail
 go_loop [9] (fun i => ∃ k : Nat, k ≤ xs.length ∧ i = .int .i64 k ∧ x ∉ xs.take k) (fun i => xs.length - (intOf i).toNat)
 case atStart => exact ⟨0, by omega, rfl, by simp⟩
 case round =>
  obtain ⟨k, hk, rfl, ht⟩ := hrel
  have HT := hid_ ht
  clear ht
  by_cases hlt : k < xs.length
  ·obtain ⟨ad, u, rfl, -, hx, hcell⟩ := hs.at1 hlt
   obtain ⟨_, rfl⟩ := ints_at _ _ _ hx
   clear hx
   by_cases hq : x = xs[k]
   ·have hq' : (x == xs[k]) = true := by simpa using hq
    have HC := hid_ (show decide (x ∈ xs) = true by rw [decide_eq_true_eq, hq]; exact List.getElem_mem hlt)
    clear hq
    go_wp2_with fail
    go_ret
    exact ⟨by rw [HC.out]; rfl, rfl⟩
   ·have hq' : (x == xs[k]) = false := by simpa using hq
    have HN := hid_ (show x ∉ xs.take (k + 1) by rw [List.take_succ_eq_append_getElem hlt, List.mem_append]; exact fun h => h.elim HT.out (fun h => hq (by simpa using h)))
    clear hq
    go_wp2_with fail
    go_round
    case rel => exact ⟨k + 1, by omega, by go_num, HN.out⟩
    case measure => simp [intOf]; omega
  ·have HC := hid_ (show decide (x ∈ xs) = false by
    have := HT.out
    rw [List.take_of_length_le (by omega)] at this
    simpa using this)
   go_wp2_with fail
   go_ret
   exact ⟨by rw [HC.out]; rfl, rfl⟩
section
open Go.RowKit Go.ChangeShapes Go.WideShapes Go.ChangeAt
section
variable {H : Type} {enc : TypeId × Value → H} {w : World} {base : Nat} {spare : Nat → Bool} {held : Bool}
theorem open_intsX {fuel : Nat} {cs : List Value} {x : DataW H × List MemPlace} (h : DataW.trod enc Tryz.prog w base spare held fuel 22 cs = some x) :
 ∃ (zs : List Int) (v : Value), cs = [v] ∧ SL w 1 v zs.length (ints zs) ∧ ∀ z ∈ zs, inI64 z := by
 rcases open_ints Tryz.underlying22 Tryz.underlying3 cellsInt h with ⟨rfl, -⟩ | ⟨a, len, cap, zs, rfl, -, hlc, hcm, hzl, -, hcell, hwf⟩
 ·exact ⟨[], _, rfl, SL.nil w 1, by simp⟩
 ·have hlen : len ≤ zs.length := by rw [hzl]; split <;> omega
  refine ⟨zs.take len, _, rfl, ?_, fun z hz => inI64_of_wf (hwf z (List.mem_of_mem_take hz))⟩
  have hl : (zs.take len).length = len := by rw [List.length_take]; omega
  rw [hl]
  refine ⟨some a, cap, rfl, hlc, by unfold maxLen at hcm; omega, by rw [ints_len, hl]; omega, fun h0 => ⟨a, rfl, ?_, fun j u hu => ?_⟩⟩
  ·have := hcell 0 (by omega)
   have h2 := World.block_lt_of_cell? w _ this
   rwa [block_of_add] at h2
  ·obtain ⟨hj, rfl⟩ := ints_at _ _ _ hu
   have hj2 : j < len := by omega
   rw [hcell j (by omega)]
   simp [List.getD_eq_getElem?_getD, show j < zs.length by omega]
theorem cells16 : Tryz.prog.cellsOf 40 = 16 := by kernel_rfl
theorem cellsSl : Tryz.prog.cellsOf 22 = 1 := by kernel_rfl
theorem cellsTbl : Tryz.prog.cellsOf 42 = 17 := by kernel_rfl
end
end
section
open Go.RowKit Go.ChangeShapes Go.WideShapes Go.ChangeAt
section
variable {H : Type} {enc : TypeId × Value → H} {w : World} {base : Nat} {spare : Nat → Bool} {held : Bool}
theorem bytes_of (zs : List Int) (h : ∀ n ∈ zs, (Lit.int .u8 n).wf = true) : ∃ bs : List Nat, zs.map (Value.int .u8) = bytesV bs ∧ ∀ b ∈ bs, b < 256 := by
 refine ⟨zs.map Int.toNat, ?_, ?_⟩
 ·unfold bytesV
  rw [List.map_map]
  apply List.map_congr_left
  intro z hz
  have := h z hz
  simp [Lit.wf, IntKind.min, IntKind.max, IntKind.signed, IntKind.bits] at this
  simp; omega
 ·intro b hb
  obtain ⟨z, hz, rfl⟩ := List.mem_map.1 hb
  have := h z hz
  simp [Lit.wf, IntKind.min, IntKind.max, IntKind.signed, IntKind.bits] at this
  omega
end
end
section
variable {o : Oper} {a : Act} {P : Program}
theorem ex_binK {op : BinOp} {t : TypeId} {x y : Operand} {t2 : TypeId} (ho : o.op = .binOp op t x y t2) {k k' : IntKind} {m n : Int} (hx : a.eval x = .int k m) (hy : a.eval y = .int k' n) {v : Value}
 (hr : ∀ w, (binOp op t (.int k m) (.int k' n)).run P w = .ok v w) (w : World) : (execOp a.eval o).run P w = .ok (.value v) w := by
 simp [execOp, ho, hx, hy, guardG, hr]
end
theorem sizeU8' : (Tryz.prog.info? 5).map (·.size) = some 1 := by kernel_rfl
section
open Go.RowKit Go.Maps
def VR (v : Value) : Option (DataW Value × List MemPlace) := some (.held v, [])
def MapG {ι : Type} (P : Program) (k : TypeId) (kl : ι → Lit) (ok : ι → Prop) (w : World) (b n : Nat) (g : ι → Option Value) : Prop :=
 ∃ D : DataW Value, w.ownsMap P k VR b n D ∧ IsMap D ∧ ∀ i, ok i → Maps.has D (kl i) = (g i).isSome ∧ ∀ z, D.atKey (kl i) (.held z) = .held ((g i).getD z)
section
variable {ι : Type} {P : Program} {k : TypeId} {kl : ι → Lit} {ok : ι → Prop} {w w' : World} {b n : Nat} {g : ι → Option Value}
theorem MapG.made (w : World) : MapG P k kl ok (w.alloc (.map #[] 0)) w.heap.size 0 (fun _ => none) :=
 ⟨.map [], World.ownsMap_made _ _ _ _, isMap_empty, fun _ _ => ⟨rfl, fun _ => rfl⟩⟩
variable {ops : Array Oper} {rest : List Oper} {o : Oper} {a : Act} {Q : Exit → Act → World → Prop}
theorem wpList_look_g (hw : Region.wanted o (yielded ops a.tmps) = true) (m x : Operand) (t e : TypeId) (hop : o.op = Op.lookup t m x false) (K : Keyed P k) (ht : P.underlying t = some (.map k e))
 (z : Value) (hz : (zeroValue e).run P w = .ok z w) (hm : a.eval m = .map (some b)) (h : MapG P k kl ok w b n g) (key : Value) (hx : a.eval x = key)
 (i : ι) (hi : ok i) (hk : keyOf P k key = some (kl i)) (u : Value) (hu : (g i).getD z = u) (hK : wpList P ops Q rest (a.put o.dst u) w) : wpList P ops Q (o :: rest) a w := by
 refine wpList_wanted hw fun K' hK' => ?_
 obtain ⟨D, h1, -, h2⟩ := h
 obtain ⟨v, ps, hrun, hv⟩ := h1.lookup K ht hz (zd := .held z) (zp := []) rfl hk
 rw [(h2 i hi).2 z, hu] at hv
 have : v = u := by unfold VR at hv; injection hv with hv; injection hv with hv _; injection hv
 subst this
 unfold Oper.wp
 simp [execOp, hop, hm, hx, hrun, Result.andThen]
 exact hK' _ _ hK
theorem wpList_upd_g (hw : Region.wanted o (yielded ops a.tmps) = true) (m x y : Operand) (t e : TypeId) (hop : o.op = Op.mapUpdate t m x y) (K : Keyed P k) (ht : P.underlying t = some (.map k e))
 (hm : a.eval m = .map (some b)) (h : MapG P k kl ok w b n g) (hn : n < 9223372036854775807) (key : Value) (hx : a.eval x = key) (v : Value) (hy : a.eval y = v)
 (i : ι) (hk : keyOf P k key = some (kl i)) (g' : ι → Option Value) (h1 : g' i = some v) (h2 : ∀ j, ok j → kl j ≠ kl i → g' j = g j) (h3 : ∀ j, ok j → kl j = kl i → j = i)
 (hK : ∀ w', MapG P k kl ok w' b (n + 1) g' → w.grownBy w' (some b) → wpList P ops Q rest (a.put o.dst undef) w') : wpList P ops Q (o :: rest) a w := by
 refine wpList_wanted hw fun K' hK' => ?_
 obtain ⟨D, d1, d3, d2⟩ := h
 obtain ⟨w', hrun, r1, r2⟩ := d1.update K ht (by unfold maxLen; omega) hk (val := v) (d := .held v) (ps := []) rfl
 unfold Oper.wp
 simp [execOp, hop, hm, hx, hy, hrun, Result.andThen]
 refine hK' _ _ (hK w' ⟨_, r1, d3.put _ _, fun j hj => ?_⟩ r2)
 by_cases e1 : kl j = kl i
 ·obtain rfl := h3 j hj e1
  rw [has_put_same d3 (K.key hk), h1]
  exact ⟨rfl, fun z => atKey_put_same d3 (K.key hk) _ _⟩
 ·rw [has_put_other e1, h2 j hj e1]
  exact ⟨(d2 j hj).1, fun z => by rw [atKey_put_other e1]; exact (d2 j hj).2 z⟩
end
abbrev MapI (P : Program) (k : TypeId) (w : World) (b n : Nat) (g : Int → Option Value) : Prop := MapG P k (fun x : Int => Lit.int .i64 x) (fun _ => True) w b n g
theorem keyOf_i64 {P : Program} {k : TypeId} (hk : P.underlying k = some (.int .i64)) {a : Int} (h0 : -9223372036854775808 ≤ a) (h1 : a ≤ 9223372036854775807) : keyOf P k (.int .i64 a) = some (.int .i64 a) :=
 keyOf_int_mk hk (WalkArith.wf_i64 ⟨by omega, by omega⟩)
theorem ext_grown_new {a w w' : World} (h : Ext a w) {g : Nat} (hg : w.grownBy w' (some g)) (hB : a.heap.size ≤ g) : Ext a w' := h.grown hg hB
end
abbrev Tok := Int × Int × Int
def tokv (t : Tok) : List Value := [.int .i64 t.1, .int .i64 t.2.1, .int .i64 t.2.2]
def toks (T : List Tok) : List Value := T.flatMap tokv
end Go.Proofs.YtkggcjdlpendfaaGreatDoor
