/- Contracts for the law FrameBlocks, part 3: what the functions that it reaches answer, for all arguments that the theorems name. -/
import Derived.Test.YtkfdkkhhkciocaaMFrameBlocks1
import Derived.Test.YtkfdkkhhkciocaaMFrameBlocks2
import Derived.Maps.AppendAt
import Derived.Great.Walk
import Derived.Deep.MidRow
import Derived.WalkKit
/- append onto a row of the call's own. -/
namespace Go.Proofs.Ytkfdkkhhkciocaa
set_option linter.unusedVariables false
set_option linter.unusedSimpArgs false
open Go.RowKit
section
variable {P : Program} (w : World)
theorem run_append_of_nil (base : Nat) (t ty e : TypeId) (i : TypeInfo) (size : Nat) (ht : P.underlying t = some (.slice e)) (hi : P.info? e = some i)
    (v : Value) (n : Nat) (xs : List Value) (hown : w.ownsRow base e size v n xs) (c : Nat) : (Builtin.append_ #[t, t] ty #[v, .slice none 0 c]).run P w = .ok v w := by
  rcases hown.2 with ⟨rfl, rfl⟩ | ⟨g, cap, cur, rfl, _, _, hnc, _⟩
  · simp [Builtin.append_, run_underlying ht, sizeOf, typeInfo, hi, Builtin.lenOf, Builtin.firstCells]
  · simp [Builtin.append_, run_underlying ht, sizeOf, typeInfo, hi, Builtin.lenOf, Builtin.firstCells, hnc, storeCells]
theorem run_append_sl (base : Nat) (t ty e : TypeId) (i : TypeInfo) (z : Value) (size bytes : Nat) (ht : P.underlying t = some (.slice e)) (hi : P.info? e = some i) (hz : i.zero = some z)
    (hsize : i.size = size) (hby : i.bytes = bytes) (hzs : z.cells.size = size) (hsz : 0 < size)
    (v : Value) (n : Nat) (xs : List Value) (hown : w.ownsRow base e size v n xs)
    (x : Value) (m : Nat) (news : List Value) (hr : SL w size x m news) (h1 : ∀ u ∈ news, u.oneCell' = true)
    (h63 : n + m ≤ maxLen) (hbytes : (n + m) * bytes ≤ 140737488355328) (hbase : base ≤ w.heap.size) :
    ∃ v' w', (Builtin.append_ #[t, t] ty #[v, x]).run P w = .ok v' w' ∧ w'.ownsRow base e size v' (n + m) (xs ++ news) ∧ w.grownBy w' v.ownBlock ∧
      (v'.ownBlock = v.ownBlock ∨ v'.ownBlock = some w.heap.size) := by
  obtain ⟨A, c, rfl, -, -, hl, hc⟩ := hr
  rcases A with _ | ad
  · have hm : m = 0 := by
      rcases Nat.eq_zero_or_pos m with h0 | h0
      · exact h0
      · obtain ⟨ad, h, _⟩ := hc h0
        cases h
    subst hm
    have hn : news = [] := List.eq_nil_of_length_eq_zero (by simpa using hl)
    subst hn
    exact ⟨v, w, run_append_of_nil w base t ty e i size ht hi v n xs hown c, by simpa using hown, World.grownBy.refl w _, .inl rfl⟩
  · have hcells : ∀ j u, news[j]? = some u → w.cell? (ad.add j) = some u := by
      intro j u hu
      rcases Nat.eq_zero_or_pos m with h0 | h0
      · subst h0
        have hn : news = [] := List.eq_nil_of_length_eq_zero (by simpa using hl)
        subst hn
        simp at hu
      · obtain ⟨ad', h, _, hcc⟩ := hc h0
        injection h with h
        subst h
        exact hcc j u hu
    obtain ⟨v', w', hrun, h2, h3, _, h5⟩ := run_append_own_at (P := P) w base t ty e i z size bytes ht hi hz hsize hby hzs hsz v n xs hown ad m c news hl hcells h1 h63 hbytes hbase
    exact ⟨v', w', hrun, h2, h3, h5⟩
theorem wp_append_sl {o : Oper} {a : Act} {K : Act → World → Prop} {Q : Exit → Act → World → Prop} (s x : Operand) (t : TypeId)
    (ho : o.op = .call { callee := .builtin .append, args := #[s, x], argTypes := #[t, t] })
    (base : Nat) (e : TypeId) (i : TypeInfo) (z : Value) (size bytes : Nat) (ht : P.underlying t = some (.slice e)) (hi : P.info? e = some i) (hz : i.zero = some z)
    (hsize : i.size = size) (hby : i.bytes = bytes) (hzs : z.cells.size = size) (hsz : 0 < size)
    (v : Value) (n : Nat) (xs : List Value) (hs : a.eval s = v) (hown : w.ownsRow base e size v n xs)
    (u : Value) (m : Nat) (news : List Value) (hx : a.eval x = u) (hr : SL w size u m news) (h1 : ∀ u ∈ news, u.oneCell' = true)
    (h63 : n + m ≤ maxLen) (hbytes : (n + m) * bytes ≤ 140737488355328) (hbase : base ≤ w.heap.size)
    (h : ∀ v' w', w'.ownsRow base e size v' (n + m) (xs ++ news) → w.grownBy w' v.ownBlock → (v'.ownBlock = v.ownBlock ∨ v'.ownBlock = some w.heap.size) → K (a.put o.dst v') w') : o.wp P a w K Q := by
  obtain ⟨v', w', hrun, h2, h3, h4⟩ := run_append_sl (P := P) w base t o.type e i z size bytes ht hi hz hsize hby hzs hsz v n xs hown u m news hr h1 h63 hbytes hbase
  unfold Oper.wp execOp
  simp only [ho, resolve, invoke, builtin, Sem.run_bind, Sem.run_pure, Result.andThen_ok, List.map_toArray, List.map_cons, List.map_nil, hs, hx, hrun]
  exact h v' w' h2 h3 h4
/-- the words of one element type, said once -/
structure Elt (P : Program) (t e : TypeId) (size bytes : Nat) : Prop where
  ht : P.underlying t = some (.slice e)
  hi : (P.info? e).map (fun i => (i.zero.map fun z => z.cells.size, i.size, i.bytes)) = some (some size, size, bytes)
  hsz : 0 < size
variable {w}
theorem wpList_append_sl {ops : Array Oper} {rest : List Oper} {o : Oper} {a : Act} {Q : Exit → Act → World → Prop} {t e : TypeId} {size bytes : Nat} (he : Elt P t e size bytes) (hgd : o.guard = none) (s x : Operand)
    (ho : o.op = .call { callee := .builtin .append, args := #[s, x], argTypes := #[t, t] })
    (base : Nat) (v : Value) (n : Nat) (xs : List Value) (hs : a.eval s = v) (hown : w.ownsRow base e size v n xs)
    (u : Value) (m : Nat) (news : List Value) (hx : a.eval x = u) (hr : SL w size u m news) (h1 : ∀ u ∈ news, u.oneCell' = true)
    (h63 : n + m ≤ 9223372036854775807) (hbytes : (n + m) * bytes ≤ 140737488355328) (hbase : base ≤ w.heap.size)
    (h : ∀ v' w', w'.ownsRow base e size v' (n + m) (xs ++ news) → Below base w w' → wpList P ops Q rest (a.put o.dst v') w') : wpList P ops Q (o :: rest) a w := by
  obtain ⟨ht, hi, hsz⟩ := he
  cases hq : P.info? e with
  | none => simp [hq] at hi
  | some i =>
    cases hzq : i.zero with
    | none => simp [hq, hzq] at hi
    | some z =>
      have hi' : z.cells.size = size ∧ i.size = size ∧ i.bytes = bytes := by simpa [hq, hzq] using hi
      refine wpList_plain hgd fun _ hK => wp_append_sl w s x t ho base e i z size bytes ht hq hzq hi'.2.1 hi'.2.2 hi'.1 hsz v n xs hs hown u m news hx hr h1 (by unfold maxLen; omega) hbytes hbase fun v' w' h2 h3 h4 => hK _ _ (h v' w' h2 ?_)
      exact (Below.refl base w).grown h3 hbase (fun k hk => ((hown.lt k hk).1))
theorem wpList_append_slr {ops : Array Oper} {rest : List Oper} {o : Oper} {a : Act} {Q : Exit → Act → World → Prop} {t e : TypeId} {size bytes : Nat} (he : Elt P t e size bytes) (hgd : o.guard = none) (s x : Operand)
    (ho : o.op = .call { callee := .builtin .append, args := #[s, x], argTypes := #[t, t] })
    (base : Nat) (v : Value) (n : Nat) (xs : List Value) (hs : a.eval s = v) (hown : w.ownsRow base e size v n xs)
    (u : Value) (m : Nat) (news : List Value) (hx : a.eval x = u) (hr : SL w size u m news) (h1 : ∀ u ∈ news, u.oneCell' = true)
    (h63 : n + m ≤ 9223372036854775807) (hbytes : (n + m) * bytes ≤ 140737488355328) (hbase : base ≤ w.heap.size)
    (h : ∀ v' w', w'.ownsRow base e size v' (n + m) (xs ++ news) → w.grownBy w' v.ownBlock → (v'.ownBlock = v.ownBlock ∨ v'.ownBlock = some w.heap.size) → wpList P ops Q rest (a.put o.dst v') w') : wpList P ops Q (o :: rest) a w := by
  obtain ⟨ht, hi, hsz⟩ := he
  cases hq : P.info? e with
  | none => simp [hq] at hi
  | some i =>
    cases hzq : i.zero with
    | none => simp [hq, hzq] at hi
    | some z =>
      have hi' : z.cells.size = size ∧ i.size = size ∧ i.bytes = bytes := by simpa [hq, hzq] using hi
      refine wpList_plain hgd fun _ hK => wp_append_sl w s x t ho base e i z size bytes ht hq hzq hi'.2.1 hi'.2.2 hi'.1 hsz v n xs hs hown u m news hx hr h1 (by unfold maxLen; omega) hbytes hbase fun v' w' h2 h3 h4 => hK _ _ (h v' w' h2 h3 h4)
/-- the new slice's form written out -/
theorem wpList_append_slf {ops : Array Oper} {rest : List Oper} {o : Oper} {a : Act} {Q : Exit → Act → World → Prop} {t e : TypeId} {size bytes : Nat} (he : Elt P t e size bytes) (hgd : o.guard = none) (s x : Operand)
    (ho : o.op = .call { callee := .builtin .append, args := #[s, x], argTypes := #[t, t] })
    (base : Nat) (v : Value) (n : Nat) (xs : List Value) (hs : a.eval s = v) (hown : w.ownsRow base e size v n xs)
    (u : Value) (m : Nat) (news : List Value) (hx : a.eval x = u) (hr : SL w size u m news) (h1 : ∀ u ∈ news, u.oneCell' = true)
    (h63 : n + m ≤ 9223372036854775807) (hbytes : (n + m) * bytes ≤ 140737488355328) (hbase : base ≤ w.heap.size)
    (h : ∀ A c w', w'.ownsRow base e size (.slice A (n + m) c) (n + m) (xs ++ news) → w.grownBy w' v.ownBlock → (A.map (·.block) = v.ownBlock ∨ A.map (·.block) = some w.heap.size) → wpList P ops Q rest (a.put o.dst (.slice A (n + m) c)) w') : wpList P ops Q (o :: rest) a w :=
  wpList_append_slr he hgd s x ho base v n xs hs hown u m news hx hr h1 h63 hbytes hbase fun v' w' h2 h3 h4 => by
    have h2' := h2.2
    rcases h2' with ⟨rfl, h0⟩ | ⟨g, cap, cur, rfl, _⟩
    · have hz : n + m = 0 ∨ ¬ n + m = 0 := by omega
      have hl := h2.1
      rw [h0] at hl
      have h5 : n + m = 0 := by
        have := he.hsz
        rcases Nat.eq_zero_or_pos (n + m) with h6 | h6
        · exact h6
        · have := Nat.mul_pos h6 this
          simp at hl
          omega
      have key := h none 0 w'
      rw [h5] at key
      rw [h5] at h2
      exact key h2 h3 (by simpa [Value.ownBlock] using h4)
    · exact h _ _ w' h2 h3 (by simpa [Value.ownBlock] using h4)
end
/-- a row of the call's own, read as a slice -/
theorem own_sl {w : World} {base : Nat} {e : TypeId} {size n : Nat} {v : Value} {xs : List Value} (h : w.ownsRow base e size v n xs) : SL w size v n xs := by
  obtain ⟨hl, hh⟩ := h
  rcases hh with ⟨rfl, rfl⟩ | ⟨g, cap, cur, rfl, hb, hg, hn, hm, hc, hx⟩
  · have : xs = [] := List.eq_nil_of_length_eq_zero (by simpa using hl)
    subst this
    exact SL.nil w size
  · refine ⟨_, _, rfl, hn, by unfold maxLen at hm; omega, hl, fun _ => ⟨_, rfl, Blk.lt (w := w) (t := e) (cs := cur) hg, fun j u hu => ?_⟩⟩
    have hj : j < xs.length := (List.getElem?_eq_some_iff.1 hu).1
    have e1 : (⟨g, 0, none⟩ : Addr).add j = ⟨g, j, none⟩ := by
      unfold Addr.add
      by_cases h0 : j = 0
      · subst h0; rfl
      · rw [if_neg h0]; simp
    rw [e1, cell_of_row w g j cur e (0, 0) hg, ← hu, ← hx, List.getElem?_take_of_lt (by omega)]
    simp
theorem own_snoc {w : World} {base : Nat} {e : TypeId} {v : Value} {L : List Int} {z : Int} (h : w.ownsRow base e 1 v (L.length + 1) (ints L ++ [.int .i64 z])) : w.ownsRow base e 1 v (L ++ [z]).length (ints (L ++ [z])) := by
  simpa [ints] using h
theorem Ext.trans' {a w w' : World} (h : Ext a w) (k : Below a.heap.size w w') : Ext a w' := Below.trans h k
theorem int_one (z : Int) : ∀ u ∈ [Value.int .i64 z], u.oneCell' = true := by
  intro u hu
  simp at hu
  subst hu
  rfl
/-- the one cell that 'append(out, x)' lays first -/
theorem one_sl (w : World) (T : TypeId) (v : Value) : SL (w.alloc (.cells #[v] T)) 1 (.slice (some ⟨w.heap.size, 0, none⟩) 1 1) 1 [v] := by
  have := (Blk.new w T #[v]).sl (size := 1) (n := 1) (c := 1) rfl (by omega) (by omega)
  simpa using this
theorem own_form {w : World} {base : Nat} {e : TypeId} {size n : Nat} {v : Value} {xs : List Value} (h : w.ownsRow base e size v n xs) : ∃ A c, v = .slice A n c ∧ SL w size (.slice A n c) n xs ∧ ∀ ad, A = some ad → base ≤ ad.block := by
  have hs := own_sl h
  obtain ⟨hl, hh⟩ := h
  rcases hh with ⟨rfl, rfl⟩ | ⟨g, cap, cur, rfl, hb, hg, hn, hm, hc, hx⟩
  · exact ⟨none, 0, rfl, hs, by intro ad h; cases h⟩
  · exact ⟨some ⟨g, 0, none⟩, cap, rfl, hs, by intro ad h; injection h with h; subst h; exact hb⟩
theorem SL.far {w : World} {size n c : Nat} {A : Option Addr} {xs : List Value} (h : SL w size (.slice A n c) n xs) {p : Addr} (hne : ∀ ad, A = some ad → ad.block ≠ p.block) (u : Value) : SL (w.setCell p u) size (.slice A n c) n xs := by
  obtain ⟨A', c', e, h1, h1', h2, h3⟩ := h
  injection e with e1 e2 e3
  subst e1 e3
  refine ⟨A, c, rfl, h1, h1', h2, fun hn => ?_⟩
  obtain ⟨ad, ea, hlt, hc⟩ := h3 hn
  exact ⟨ad, ea, by simpa [World.setCell] using hlt, fun j u' hu => (World.cell?_setCell_other w p (ad.add j) u (fun e => hne ad ea (by rw [e, block_of_add]))).trans (hc j u' hu)⟩
end Go.Proofs.Ytkfdkkhhkciocaa
/- A world that is another one but for new blocks and some others. -/
namespace Go.Proofs.Ytkfdkkhhkciocaa
set_option linter.unusedVariables false
set_option linter.unusedSimpArgs false
open Go.RowKit
/-- w' is w but for new blocks and the blocks of S -/
structure Upd (S : Nat → Prop) (w w' : World) : Prop where
  os : w'.os = w.os
  tape : w'.tape = w.tape
  output : w'.output = w.output
  size : w.heap.size ≤ w'.heap.size
  block : ∀ b, b < w.heap.size → ¬ S b → w'.heap[b]? = w.heap[b]?
theorem Upd.refl (S : Nat → Prop) (w : World) : Upd S w w := ⟨rfl, rfl, rfl, Nat.le_refl _, fun _ _ _ => rfl⟩
theorem Upd.trans {S S' : Nat → Prop} {a b c : World} (h : Upd S a b) (k : Upd S' b c) (hS : ∀ x, S' x → S x ∨ a.heap.size ≤ x) : Upd S a c :=
  ⟨k.os.trans h.os, k.tape.trans h.tape, k.output.trans h.output, Nat.le_trans h.size k.size, fun x hx hn => by
    have h1 := h.size
    rw [k.block x (by omega) (fun h2 => (hS x h2).elim hn (by omega)), h.block x hx hn]⟩
theorem Upd.of_ext {S : Nat → Prop} {a b : World} (h : Ext a b) : Upd S a b := ⟨h.os, h.tape, h.output, h.size, fun x hx _ => h.block x hx⟩
theorem Upd.below {S : Nat → Prop} {a b : World} {B : Nat} (h : Upd S a b) (hS : ∀ x, S x → B ≤ x) (hB : B ≤ a.heap.size) : Below B a b :=
  ⟨h.os, h.tape, h.output, h.size, fun x hx => h.block x (by omega) (fun h2 => by have := hS x h2; omega)⟩
theorem Upd.setCell {S : Nat → Prop} {a b : World} (h : Upd S a b) {p : Addr} (hp : S p.block) (u : Value) : Upd S a (b.setCell p u) :=
  ⟨h.os, h.tape, h.output, by simpa [World.setCell] using h.size, fun x hx hn => (Below.heap_setCell b p u x (fun e => hn (e ▸ hp))).trans (h.block x hx hn)⟩
theorem Upd.drew {S : Nat → Prop} {a b : World} (h : Upd S a b) : Upd S a b.drew := ⟨h.os, h.tape, h.output, h.size, h.block⟩
theorem Upd.grown {S : Nat → Prop} {a w w' : World} (h : Upd S a w) {row : Option Nat} (hg : w.grownBy w' row) (hr : ∀ b, row = some b → S b ∨ a.heap.size ≤ b) : Upd S a w' :=
  ⟨hg.os.trans h.os, hg.tape.trans h.tape, hg.output.trans h.output, Nat.le_trans h.size hg.size, fun x hx hn => by
    have h1 := h.size
    rw [hg.block x (by omega) (fun h2 => (hr x h2.symm).elim hn (by omega)), h.block x hx hn]⟩
theorem SL.upd {S : Nat → Prop} {w w' : World} {size n c : Nat} {A : Option Addr} {xs : List Value} (h : SL w size (.slice A n c) n xs) (hu : Upd S w w') (hS : ∀ ad, A = some ad → ¬ S ad.block) : SL w' size (.slice A n c) n xs := by
  obtain ⟨A', c', e, h1, h1', h2, h3⟩ := h
  injection e with e1 e2 e3
  subst e1 e3
  refine ⟨A, c, rfl, h1, h1', h2, fun hn => ?_⟩
  obtain ⟨ad, ea, hlt, hc⟩ := h3 hn
  refine ⟨ad, ea, Nat.lt_of_lt_of_le hlt hu.size, fun j u hj => ?_⟩
  rw [← hc j u hj]
  unfold World.cell?
  rw [block_of_add, hu.block _ hlt (hS ad ea)]
theorem Upd.blk {S : Nat → Prop} {w w' : World} {g : Nat} {T : TypeId} {cs : Array Value} (hu : Upd S w w') (h : Blk w g T cs) (hS : ¬ S g) : Blk w' g T cs := (hu.block g h.lt hS).trans h
theorem Upd.ext {S : Nat → Prop} {a w w' : World} (hu : Upd S w w') (h : Ext a w) (hS : ∀ x, S x → a.heap.size ≤ x) : Ext a w' :=
  ⟨hu.os.trans h.os, hu.tape.trans h.tape, hu.output.trans h.output, Nat.le_trans h.size hu.size, fun x hx => by
    have := h.size
    rw [hu.block x (by omega) (fun h2 => by have := hS x h2; omega), h.block x hx]⟩
theorem SL.below {w w' : World} {size n B : Nat} {v : Value} {xs : List Value} (h : SL w size v n xs) (hb : Below B w w') (hB : w.heap.size ≤ B) : SL w' size v n xs := by
  obtain ⟨A, c, rfl, h1, h1', h2, h3⟩ := h
  refine ⟨A, c, rfl, h1, h1', h2, fun hn => ?_⟩
  obtain ⟨ad, e, hlt, hc⟩ := h3 hn
  exact ⟨ad, e, Nat.lt_of_lt_of_le hlt hb.size, fun j u hu => (hb.cell (by rw [block_of_add]; omega)).trans (hc j u hu)⟩
end Go.Proofs.Ytkfdkkhhkciocaa
/- A slice literal of one element of many cells: append(out, b). -/
namespace Go.Proofs.Ytkfdkkhhkciocaa
set_option linter.unusedVariables false
set_option linter.unusedSimpArgs false
open Go.RowKit
theorem fold_set (l : List Value) : ∀ (k : Nat) (a : Array Value), a.size = k + l.length → (l.zipIdx k).foldl (fun cs (p : Value × Nat) => cs.setIfInBounds (0 + p.2) p.1) a = (a.toList.take k ++ l).toArray := by
  induction l with
  | nil =>
    intro k a h
    simp at h
    apply Array.ext'
    simp [List.take_of_length_le, h]
  | cons v l ih =>
    intro k a h
    rw [List.zipIdx_cons, List.foldl_cons, ih (k + 1) _ (by simp at h ⊢; omega)]
    apply Array.ext'
    simp only [Nat.zero_add, Array.toList_setIfInBounds]
    have hk : k < a.toList.length := by simp at h ⊢; omega
    rw [List.take_add_one, List.take_set_of_le (by omega), List.getElem?_set_self hk]
    simp
theorem fill_one (v : Value) (n : Nat) (a : Array Value) (hv : v.cells.size = n) (ha : a.size = n) : Instr.fill (fun i => some (i * n, n)) a [(0, v)] = some v.cells := by
  have e : v.cells.zipIdx.foldl (fun cs (p : Value × Nat) => cs.setIfInBounds (0 + p.2) p.1) a = v.cells := by
    have h := fold_set v.cells.toList 0 a (by simp; omega)
    rw [← Array.foldl_toList]
    simpa using h
  simp only [Nat.zero_add] at e
  have e2 : Array.foldl (fun cs (x : Value × Nat) => cs.setIfInBounds x.2 x.1) a v.cells.zipIdx 0 n = v.cells := by
    have hn : n = v.cells.zipIdx.size := by simp [hv]
    rw [hn]
    exact e
  simp [Instr.fill, hv, ha, e2]
theorem builtSlice_one {P : Program} {e : TypeId} {n : Nat} (v : Value) (hs : (P.info? e).map (·.size) = some n) (hz : ((P.info? e).bind (·.zero)).isSome = true) (hv : v.cells.size = n) (h0 : 0 < n) (h1 : n ≤ 16777216) : P.builtSlice e 1 [(0, v)] = some v.cells := by
  unfold Program.builtSlice
  cases hq : P.info? e with
  | none => simp [hq] at hs
  | some i =>
    have hi : i.size = n := by simpa [hq] using hs
    cases hzz : i.zero with
    | none => simp [hq, hzz] at hz
    | some z =>
      simp only [hi, hzz, Nat.one_mul]
      rw [if_neg (by omega)]
      exact fill_one v n _ hv (by simp)
theorem wpList_lit1 {P : Program} {ops : Array Oper} {rest : List Oper} {o : Oper} {a : Act} {w : World} {Q : Exit → Act → World → Prop} (hg : o.guard = none) (t e : TypeId) (x : Operand) (ho : o.op = .buildSlice t 1 #[(0, x)]) (dst : Option Tmp) (hdst : o.dst = dst)
    (ht : P.underlying t = some (.slice e)) (n : Nat) (hs : (P.info? e).map (·.size) = some n) (hz : ((P.info? e).bind (·.zero)).isSome = true) (v : Value) (hx : a.eval x = v) (hv : v.cells.size = n) (h0 : 0 < n) (h1 : n ≤ 16777216)
    (h : ∀ w1 g, Blk w1 g e v.cells → Ext w w1 → w.heap.size ≤ g → wpList P ops Q rest (a.put dst (.slice (some ⟨g, 0, none⟩) 1 1)) w1) : wpList P ops Q (o :: rest) a w := by
  refine Go.Great.wpList_buildSliceTo hg t e 1 #[(0, x)] ho _ rfl dst hdst ht v.cells ?_ (h _ _ (Blk.new w e _) ((Ext.refl w).alloc _) (Nat.le_refl _))
  simp only [List.map_toArray, List.map_cons, List.map_nil, hx]
  exact builtSlice_one v hs hz hv h0 h1
theorem own_keep {w w' : World} {base : Nat} {e : TypeId} {size n : Nat} {v : Value} {xs : List Value} (h : w.ownsRow base e size v n xs) (hb : Ext w w') : w'.ownsRow base e size v n xs := by
  obtain ⟨hl, hh⟩ := h
  refine ⟨hl, ?_⟩
  rcases hh with ⟨rfl, rfl⟩ | ⟨g, cap, cur, rfl, h1, hg, h2⟩
  · exact .inl ⟨rfl, rfl⟩
  · exact .inr ⟨g, cap, cur, rfl, h1, (hb.block g (Blk.lt (w := w) (t := e) (cs := cur) hg)).trans hg, h2⟩
theorem own_nil (w : World) (base : Nat) (e : TypeId) (size : Nat) : w.ownsRow base e size (.slice none 0 0) 0 [] := ⟨by simp, .inl ⟨rfl, rfl⟩⟩
theorem ints_one_mem (zs : List Int) : ∀ u ∈ ints zs, u.oneCell' = true := by
  intro u hu
  obtain ⟨z, -, rfl⟩ := List.mem_map.1 hu
  rfl
theorem ints_app (xs ys : List Int) : ints (xs ++ ys) = ints xs ++ ints ys := by simp [ints]
end Go.Proofs.Ytkfdkkhhkciocaa
/- Arithmetic on casts of natural numbers, run; binOp in drawn regions. -/
namespace Go.Proofs.Ytkfdkkhhkciocaa
set_option linter.unusedVariables false
set_option linter.unusedSimpArgs false
open Go.RowKit
theorem guardN (op : BinOp) (x y : Operand) (v w : Int) (W : World) : (eqGuard op 3 x y (.int .i64 v) (.int .i64 w)).run Try.prog W = .ok () W := by
  cases op <;> go_simp
theorem run_quoN (i d : Nat) (h : i < 1000000000000) (hd : 0 < d) (W : World) : (binOp .quo 3 (.int .i64 (i : Int)) (.int .i64 (d : Int))).run Try.prog W = .ok (.int .i64 ((i / d : Nat) : Int)) W := by
  have h0 : (0 : Int) ≤ (i : Int) := by omega
  have h1 : ¬ d = 0 := by omega
  have h2 : (i / d : Nat) ≤ i := Nat.div_le_self _ _
  have h5 : ∀ q : Nat, q ≤ i → IntKind.i64.wrap (q : Int) = (q : Int) := fun q hq => IntWalk.i64_in _ (by omega)
  have h4 : IntKind.i64.wrap ((i : Int) / (d : Int)) = (i : Int) / (d : Int) := by rw [← Int.natCast_ediv]; exact h5 _ h2
  have h3 : (Int.tdiv (i : Int) (d : Int)) = (i : Int) / (d : Int) := Int.tdiv_eq_ediv_of_nonneg h0
  go_simp
theorem run_remN (i d : Nat) (h : i < 1000000000000) (hd : 0 < d) (W : World) : (binOp .rem 3 (.int .i64 (i : Int)) (.int .i64 (d : Int))).run Try.prog W = .ok (.int .i64 ((i % d : Nat) : Int)) W := by
  have h0 : (0 : Int) ≤ (i : Int) := by omega
  have h1 : ¬ d = 0 := by omega
  have h3 : (Int.tmod (i : Int) (d : Int)) = (i : Int) % (d : Int) := Int.tmod_eq_emod_of_nonneg h0
  go_simp
theorem run_mulN (i d k : Nat) (h : i * d = k) (hk : k < 1000000000000) (W : World) : (binOp .mul 3 (.int .i64 (i : Int)) (.int .i64 (d : Int))).run Try.prog W = .ok (.int .i64 (k : Int)) W := by
  have h4 : IntKind.i64.wrap ((i : Int) * (d : Int)) = (k : Int) := by rw [← Int.natCast_mul, h]; exact IntWalk.i64_in _ (by omega)
  go_simp
theorem run_addN (i d : Nat) (h : i + d < 1000000000000) (W : World) : (binOp .add 3 (.int .i64 (i : Int)) (.int .i64 (d : Int))).run Try.prog W = .ok (.int .i64 ((i + d : Nat) : Int)) W := by
  have h4 : IntKind.i64.wrap ((i : Int) + (d : Int)) = ((i + d : Nat) : Int) := by rw [← Int.natCast_add]; exact IntWalk.i64_in _ (by omega)
  go_simp
theorem run_subN (i d : Nat) (h : i < 1000000000000) (h2 : d ≤ i) (W : World) : (binOp .sub 3 (.int .i64 (i : Int)) (.int .i64 (d : Int))).run Try.prog W = .ok (.int .i64 ((i - d : Nat) : Int)) W := by
  have h4 : IntKind.i64.wrap ((i : Int) - (d : Int)) = ((i - d : Nat) : Int) := by rw [← Int.natCast_sub h2]; exact IntWalk.i64_in _ (by omega)
  go_simp
section
variable {P : Program} {md : Region.Mode} {ops : Array Oper} {R : World → World → Prop} {Q : Exit → Act → World → Prop} {rest : List Oper} {o : Oper} {k : Nat} {listed : Array Bool} {a : Act} {wc : World}
theorem lx_binOp (hw : Region.wanted o (yielded ops a.tmps) = true) (op : BinOp) (t : TypeId) (x y : Operand) (t2 : TypeId) (ho : o.op = .binOp op t x y t2) (vx vy : Value) (hx : a.eval x = vx) (hy : a.eval y = vy) (v : Value)
    (hg : ∀ w, (eqGuard op t x y vx vy).run P w = .ok () w) (hr : ∀ w, (binOp op t vx vy).run P w = .ok v w) (h : wpLx P md ops R Q rest (k + 1) (listed.setIfInBounds k true) (a.put o.dst v) wc) : wpLx P md ops R Q (o :: rest) k listed a wc :=
  lx_run hw v (fun w => by simp [execOp, ho, hx, hy, hg, hr]) h
end
theorem run_loadN (W : World) (p : Addr) (z : Int) (h : W.cell? p = some (.int .i64 z)) : (Instr.loadAt 3 (.pointer (some p))).run Try.prog W = .ok (.int .i64 z) W := by
  go_simp
end Go.Proofs.Ytkfdkkhhkciocaa
/- A load of a whole row or struct at any address (a slice's element of many cells). -/
namespace Go.Proofs.Ytkfdkkhhkciocaa
set_option linter.unusedVariables false
set_option linter.unusedSimpArgs false
open Go.RowKit
/-- the cells cs lie from address p on -/
def CellsAt (w : World) (p : Addr) (cs : List Value) : Prop := ∀ j v, cs[j]? = some v → w.cell? (p.add j) = some v
section
variable {P : Program}
theorem run_loadVar_any (w : World) (p : Addr) (ty : TypeId) (cs : List Value) (d : TypeDesc) (hc : CellsAt w p cs) (hu : P.underlying ty = some d) (hd : d.isRow = true) (hi : (P.info? ty).map (·.size) = some cs.length) :
    (loadVar ty p).run P w = .ok (.agg cs.toArray) w := by
  have hl : (loadCells p cs.length).run P w = .ok cs.toArray w := run_loadCells_list (P := P) w p cs hc
  cases hq : P.info? ty with
  | none => simp [hq] at hi
  | some i =>
    have hs : i.size = cs.length := by simpa [hq] using hi
    have hagg : (isAgg ty).run P w = .ok true w := by
      unfold isAgg
      rw [Sem.run_bind, run_underlying hu w]
      cases d <;> simp_all
    simp [loadVar, Sem.run_bind, hagg, sizeOf, typeInfo, hq, hs, hl]
theorem wpList_load_any {ops : Array Oper} {rest : List Oper} {op : Oper} {a : Act} {w : World} {Q : Exit → Act → World → Prop} (hw : Region.wanted op (yielded ops a.tmps) = true) (ty : TypeId) (x : Operand) (ho : op.op = .load ty x)
    (p : Addr) (hx : a.eval x = .pointer (some p)) (cs : List Value) (d : TypeDesc) (hc : CellsAt w p cs) (hu : P.underlying ty = some d) (hd : d.isRow = true) (hi : (P.info? ty).map (·.size) = some cs.length)
    (h : wpList P ops Q rest (a.put op.dst (.agg cs.toArray)) w) : wpList P ops Q (op :: rest) a w :=
  wpList_wanted hw fun _ hK => by
    unfold Oper.wp execOp
    simp only [ho, hx, Instr.loadAt, Instr.sureAddr, Sem.run_bind, Sem.run_pure, Result.andThen_ok, run_loadVar_any w p ty cs d hc hu hd hi]
    exact hK _ _ h
theorem lx_load_any {md : Region.Mode} {ops : Array Oper} {R : World → World → Prop} {Q : Exit → Act → World → Prop} {rest : List Oper} {o : Oper} {k : Nat} {listed : Array Bool} {a : Act} {wc : World} (hw : Region.wanted o (yielded ops a.tmps) = true) (ty : TypeId) (x : Operand) (ho : o.op = .load ty x)
    (p : Addr) (hx : a.eval x = .pointer (some p)) (cs : List Value) (d : TypeDesc) (hc : ∀ w, R wc w → CellsAt w p cs) (hu : P.underlying ty = some d) (hd : d.isRow = true) (hi : (P.info? ty).map (·.size) = some cs.length)
    (h : wpLx P md ops R Q rest (k + 1) (listed.setIfInBounds k true) (a.put o.dst (.agg cs.toArray)) wc) : wpLx P md ops R Q (o :: rest) k listed a wc := by
  refine lx_read hw _ (fun w hC => ?_) h
  unfold execOp
  simp only [ho, hx, Instr.loadAt, Instr.sureAddr, Sem.run_bind, Sem.run_pure, Result.andThen_ok, run_loadVar_any w p ty cs d (hc w hC) hu hd hi]
end
/-- the k-th part of a slice whose elements have sz cells -/
theorem SL.part {w : World} {sz n c : Nat} {A : Option Addr} {xs : List Value} (h : SL w sz (.slice A n c) n xs) {k : Nat} (hk : k < n) : ∃ ad, A = some ad ∧ ad.block < w.heap.size ∧ CellsAt w (ad.add (k * sz)) ((xs.drop (k * sz)).take sz) := by
  obtain ⟨A', c', he, -, -, hl, hf⟩ := h
  injection he with e1 e2 e3
  subst e1
  obtain ⟨ad, rfl, hb, hcell⟩ := hf (by omega)
  refine ⟨ad, rfl, hb, fun j v hv => ?_⟩
  rw [add_of_add]
  have hj : j < sz := by have := (List.getElem?_eq_some_iff.1 hv).1; simp at this; omega
  rw [List.getElem?_take_of_lt hj, List.getElem?_drop] at hv
  exact hcell _ _ hv
end Go.Proofs.Ytkfdkkhhkciocaa
/- Plain arithmetic: rounding, clamping. -/
namespace Go.Proofs.Ytkfdkkhhkciocaa
set_option linter.unusedVariables false
set_option linter.unusedSimpArgs false
/-- rounding of a number not below 0 -/
def rp (n d : Int) : Int := (2 * n + d) / (2 * d)
def rnd (n d : Int) : Int := if n < 0 then -(rp (-n) d) else rp n d
theorem rp_bounds (n d : Int) (h0 : 0 ≤ n) (hd : 1 ≤ d) : 0 ≤ rp n d ∧ rp n d ≤ n + 1 := by
  unfold rp
  constructor
  · exact Int.ediv_nonneg (by omega) (by omega)
  · have h1 : (2 * n + d) / (2 * d) * (2 * d) ≤ 2 * n + d := Int.ediv_mul_le _ (by omega)
    generalize (2 * n + d) / (2 * d) = q at *
    refine Int.not_lt.1 fun hq => ?_
    have h2 : (n + 2) * (2 * d) ≤ q * (2 * d) := Int.mul_le_mul_of_nonneg_right (by omega) (by omega)
    have h3 : n * 2 ≤ n * (2 * d) := Int.mul_le_mul_of_nonneg_left (by omega) h0
    rw [Int.add_mul] at h2
    omega
theorem rp_eq (n d : Int) (hd : 1 ≤ d) : rp n d = n / d + (if d ≤ 2 * (n % d) then 1 else 0) := by
  have e := Int.mul_ediv_add_emod n d
  have r0 := Int.emod_nonneg n (show d ≠ 0 by omega)
  have r1 := Int.emod_lt_of_pos n (show 0 < d by omega)
  unfold rp
  have e2 : 2 * n + d = (2 * (n % d) + d) + (2 * d) * (n / d) := by
    have : 2 * d * (n / d) = 2 * (d * (n / d)) := Int.mul_assoc _ _ _
    omega
  rw [e2, Int.add_mul_ediv_left _ _ (by omega)]
  have : (2 * (n % d) + d) / (2 * d) = if d ≤ 2 * (n % d) then 1 else 0 := by
    split
    · have e3 : 2 * (n % d) + d = (2 * (n % d) - d) + (2 * d) * 1 := by omega
      rw [e3, Int.add_mul_ediv_left _ _ (by omega), Int.ediv_eq_zero_of_lt (by omega) (by omega)]
      rfl
    · exact Int.ediv_eq_zero_of_lt (by omega) (by omega)
  rw [this]; omega
theorem rnd_bounds (n d : Int) (hd : 1 ≤ d) : -(n.natAbs : Int) - 1 ≤ rnd n d ∧ rnd n d ≤ n.natAbs + 1 := by
  unfold rnd
  split
  · have := rp_bounds (-n) d (by omega) hd; omega
  · have := rp_bounds n d (by omega) hd; omega
def clampZ (n lo hi : Int) : Int := if n < lo then lo else if hi < n then hi else n
theorem clampZ_bounds (n lo hi : Int) (h : lo ≤ hi) : lo ≤ clampZ n lo hi ∧ clampZ n lo hi ≤ hi := by
  unfold clampZ; split <;> (try split) <;> omega
theorem min_max (n lo hi : Int) (h : lo ≤ hi) : min (max n lo) hi = clampZ n lo hi := by
  unfold clampZ; split <;> (try split) <;> omega
/-- within bounds? -/
def inB (n lo hi : Int) : Bool := decide (lo ≤ n ∧ n ≤ hi)
theorem inB_iff {n lo hi : Int} : inB n lo hi = true ↔ lo ≤ n ∧ n ≤ hi := by simp [inB]
theorem inB_not {n lo hi : Int} : inB n lo hi = false ↔ n < lo ∨ hi < n := by rw [← Bool.not_eq_true, inB_iff]; omega
/-- are all within bounds? -/
def allIn (zs : List Int) (lo hi : Int) : Bool := zs.all fun z => inB z lo hi
theorem allIn_iff {zs : List Int} {lo hi : Int} : allIn zs lo hi = true ↔ ∀ z ∈ zs, lo ≤ z ∧ z ≤ hi := by simp [allIn, inB_iff]
theorem allIn_no {zs : List Int} {lo hi : Int} {k : Nat} (hk : k < zs.length) (h : inB zs[k] lo hi = false) : allIn zs lo hi = false := by
  rw [← Bool.not_eq_true, allIn_iff]
  intro hh
  have := inB_iff.2 (hh _ (List.getElem_mem hk))
  rw [this] at h; cases h
theorem allIn_not {zs : List Int} {lo hi : Int} : (!zs.any fun z => decide (z < lo) || decide (hi < z)) = allIn zs lo hi := by
  rw [Bool.eq_iff_iff, allIn_iff]
  simp only [Bool.not_eq_true', List.any_eq_false, Bool.or_eq_true, decide_eq_true_eq]
  exact ⟨fun h z hz => by have := h z hz; omega, fun h z hz => by have := h z hz; omega⟩
theorem inB_any {zs : List Int} {lo hi : Int} : (zs.any fun z => !inB z lo hi) = !allIn zs lo hi := by
  simp [allIn, List.all_eq_not_any_not]
end Go.Proofs.Ytkfdkkhhkciocaa
/- Rows of integers by value: general facts. -/
namespace Go.Proofs.Ytkfdkkhhkciocaa
set_option linter.unusedVariables false
set_option linter.unusedSimpArgs false
open Go.RowKit
theorem sizeInt : (Try.prog.info? 3).map (·.size) = some 1 := by kernel_rfl
/-- a block of 64 numbers, as a value -/
def bv (zs : List Int) : Array Value := (ints zs).toArray
theorem bv_size (zs : List Int) : (bv zs).size = zs.length := by simp [bv, ints_len]
theorem bv_at (zs : List Int) (k : Nat) (h : k < zs.length) : (bv zs)[k]? = some (.int .i64 zs[k]) := by simp [bv, ints, h]
theorem bv_one (zs : List Int) : (bv zs).all (·.oneCell') = true := by
  simp only [bv, Array.all_eq_true_iff_forall_mem]
  intro v hv
  simp only [List.mem_toArray, ints, List.mem_map] at hv
  obtain ⟨z, -, rfl⟩ := hv
  rfl
theorem bv_set (zs : List Int) (k : Nat) (z : Int) : (bv zs).setIfInBounds k (.int .i64 z) = bv (zs.set k z) := by
  simp [bv, ints, List.map_set]
theorem Blk.bsl {w : World} {g : Nat} {T : TypeId} {zs : List Int} {c : Nat} (h : Blk w g T (bv zs)) (hc : zs.length ≤ c) (hc2 : c ≤ 9223372036854775807) :
    SL w 1 (.slice (some ⟨g, 0, none⟩) zs.length c) zs.length (Go.Proofs.Ytkfdkkhhkciocaa.ints zs) := by
  have := h.sl (size := 1) (n := zs.length) (c := c) (by simp [bv_size]) hc hc2
  simpa [bv] using this
theorem allIn_take {zs : List Int} {lo hi : Int} {k : Nat} (h : ∀ z ∈ zs.take k, lo ≤ z ∧ z ≤ hi) (hk : k < zs.length) (hz : lo ≤ zs[k] ∧ zs[k] ≤ hi) : ∀ z ∈ zs.take (k + 1), lo ≤ z ∧ z ≤ hi := by
  rw [List.take_succ_eq_append_getElem hk]
  intro z hz'
  rcases List.mem_append.1 hz' with h1 | h1
  · exact h z h1
  · simp at h1; subst h1; exact hz
end Go.Proofs.Ytkfdkkhhkciocaa
namespace Go.Proofs.Ytkfdkkhhkciocaa
set_option linter.unusedVariables false
set_option linter.unusedSimpArgs false
open Go.RowKit
theorem rround_any (n d : Int) (w : World) (hn1 : -1000000000000000000 ≤ n) (hn : n ≤ 1000000000000000000) (hd : 1 ≤ d) (hd2 : d ≤ 1000000000000000000) :
    Calls Try.prog 99 #[.int .i64 n, .int .i64 d] w fun e w' => e = .returned (.int .i64 (rnd n d)) ∧ w = w' := by
  have pos : ∀ n : Int, 0 ≤ n → 0 ≤ n / d ∧ n / d ≤ n ∧ 0 ≤ n % d ∧ n % d < d := fun n h0 =>
    ⟨Int.ediv_nonneg h0 (by omega), Int.ediv_le_self _ h0, Int.emod_nonneg _ (by omega), Int.emod_lt_of_pos _ (by omega)⟩
  by_cases h : n < 0
  · obtain ⟨m, rfl⟩ : ∃ m, n = -m := ⟨-n, by omega⟩
    have hm : 0 < m := by omega
    obtain ⟨q0, q1, r0, r1⟩ := pos m (by omega)
    have hfin : rnd (-m) d = -(m / d + (if d ≤ 2 * (m % d) then 1 else 0)) := by rw [rnd, if_pos h, rp_eq _ _ hd]; simp
    clear h pos
    by_cases h2 : d ≤ 2 * (m % d)
    · rw [hfin, if_pos h2]; clear hfin
      go_enter Try.func99, Try.ntmps99
      go_wp2
      go_ret
      exact ⟨by simp, rfl⟩
    · rw [hfin, if_neg h2]; clear hfin
      go_enter Try.func99, Try.ntmps99
      go_wp2
      go_ret
      exact ⟨by simp, rfl⟩
  · obtain ⟨q0, q1, r0, r1⟩ := pos n (by omega)
    have hfin : rnd n d = n / d + (if d ≤ 2 * (n % d) then 1 else 0) := by rw [rnd, if_neg h, rp_eq _ _ hd]
    clear pos
    by_cases h2 : d ≤ 2 * (n % d)
    · rw [hfin, if_pos h2]; clear hfin
      go_enter Try.func99, Try.ntmps99
      go_wp2
      go_ret
      exact ⟨rfl, rfl⟩
    · rw [hfin, if_neg h2]; clear hfin
      go_enter Try.func99, Try.ntmps99
      go_wp2
      go_ret
      exact ⟨by simp, rfl⟩
theorem clamp_any (n lo hi : Int) (w : World) :
    Calls Try.prog 101 #[.int .i64 n, .int .i64 lo, .int .i64 hi] w fun e w' => e = .returned (.int .i64 (clampZ n lo hi)) ∧ w = w' := by
  by_cases h : n < lo
  · go_enter Try.func101, Try.ntmps101
    go_wp2
    go_ret
    exact ⟨by simp [clampZ, h], rfl⟩
  · by_cases h2 : hi < n
    · go_enter Try.func101, Try.ntmps101
      go_wp2
      go_ret
      exact ⟨by unfold clampZ; rw [if_neg (by omega), if_pos h2]; rfl, rfl⟩
    · go_enter Try.func101, Try.ntmps101
      go_wp2
      go_ret
      exact ⟨by unfold clampZ; rw [if_neg (by omega), if_neg (by omega)]; rfl, rfl⟩
theorem outside_any (n lo hi : Int) (w : World) :
    Calls Try.prog 28 #[.int .i64 n, .int .i64 lo, .int .i64 hi] w fun e w' => e = .returned (.bool (!inB n lo hi)) ∧ w = w' := by
  by_cases h : n < lo
  · have h' : decide (n < lo) = true := by simpa using h
    have e : (!inB n lo hi) = true := by rw [inB_not.2 (Or.inl h)]; rfl
    rw [e]; clear e
    go_enter Try.func28, Try.ntmps28
    go_wp2
    go_ret
    exact ⟨rfl, rfl⟩
  · have h' : decide (n < lo) = false := by simpa using h
    have e : (!inB n lo hi) = decide (hi < n) := by rw [Bool.eq_iff_iff, Bool.not_eq_true', inB_not]; simp; omega
    rw [e]; clear e
    go_enter Try.func28, Try.ntmps28
    go_wp2
    go_ret
    exact ⟨rfl, rfl⟩
end Go.Proofs.Ytkfdkkhhkciocaa
/- slices.IndexFunc, slices.ContainsFunc over a []int, whatever the function value. -/
namespace Go.Proofs.Ytkfdkkhhkciocaa
set_option linter.unusedVariables false
set_option linter.unusedSimpArgs false
open Go.RowKit
def Enters (P : Program) (f : FuncId) : Prop := ∀ (args : Array Value) (w : World), (callFunc f args).run P w = .ok (.enter f args) w
theorem enters_of {P : Program} {f : FuncId} {fn : Func} {c : Code} (hf : P.funcs[f]? = some fn) (hname : (fn.name == "runtime.NumGoroutine") = false) (hb : fn.body = some c) : Enters P f := by
  intro args w
  have hn : ¬ fn.name = "runtime.NumGoroutine" := by simpa using hname
  simp [callFunc, hf, hb, hn]
def idxOf (p : Int → Bool) (zs : List Int) : Int := match zs.findIdx? p with | some k => k | none => -1
theorem indexFunc_any (g : Nat) (cap : Array Value) (p : Int → Bool) (eg : Enters Try.prog g) (v : Value) (zs : List Int) (w : World) (hs : SL w 1 v zs.length (ints zs))
    (hp : ∀ z ∈ zs, Calls Try.prog g (#[.int .i64 z] ++ cap) w fun e w' => e = .returned (.bool (p z)) ∧ w = w') :
    Calls Try.prog 114 #[v, .func (.func g) #[] cap] w fun e w' => e = .returned (.int .i64 (idxOf p zs)) ∧ w = w' := by
  have hs' := hs
  obtain ⟨A, c, rfl, hc1, hc2, -, -⟩ := hs'
  go_enter Try.func114, Try.ntmps114
  go_wp2_with fail
  go_loop [8] (fun i => ∃ k : Nat, k ≤ zs.length ∧ i = .int .i64 k ∧ ∀ z ∈ zs.take k, p z = false) (fun i => zs.length - (intOf i).toNat)
  case atStart => exact ⟨0, by omega, rfl, by simp⟩
  case round =>
    obtain ⟨k, hk, rfl, ht⟩ := hrel
    have HT : Hid (∀ z ∈ zs.take k, p z = false) := ht
    clear ht
    by_cases hlt : k < zs.length
    · obtain ⟨ad, u, rfl, -, hx, hcell⟩ := hs.at1 hlt
      obtain ⟨_, rfl⟩ := ints_at _ _ _ hx
      clear hx
      have hcall := hp zs[k] (List.getElem_mem _)
      have HC : Hid (Calls Try.prog g (#[.int .i64 zs[k]] ++ cap) w fun e w' => e = .returned (.bool (p zs[k])) ∧ w = w') := hcall
      have HP : Hid (∀ z ∈ zs, Calls Try.prog g (#[.int .i64 z] ++ cap) w fun e w' => e = .returned (.bool (p z)) ∧ w = w') := hp
      clear hcall hp
      unfold Enters at eg
      by_cases hz : p zs[k] = true
      · have hfin : idxOf p zs = k := by
          unfold idxOf
          have : zs.findIdx? p = some k := by
            rw [List.findIdx?_eq_some_iff_getElem]
            refine ⟨hlt, hz, fun j hj => ?_⟩
            have := HT.out zs[j] (by
              rw [List.mem_take_iff_getElem]
              exact ⟨j, by omega, rfl⟩)
            simp [this]
          rw [this]
        have HF := hid_ hfin
        clear hfin
        go_wp2_with fail
        refine HC.out.mono ?_
        rintro e w' ⟨rfl, rfl⟩
        rw [hz]; clear hz
        go_wp2
        go_ret
        exact ⟨by rw [HF.out]; rfl, rfl⟩
      · have hz' : p zs[k] = false := by simpa using hz
        have HZ := hid_ hz'
        clear hz
        go_wp2_with fail
        refine HC.out.mono ?_
        rintro e w' ⟨rfl, rfl⟩
        rw [hz']; clear hz'
        go_wp2
        go_round
        case rel =>
          refine ⟨k + 1, by omega, by go_num, fun z hz => ?_⟩
          rw [List.take_succ_eq_append_getElem hlt] at hz
          rcases List.mem_append.1 hz with h1 | h1
          · exact HT.out z h1
          · simp at h1; subst h1; exact HZ.out
        case measure => simp [intOf]; omega
    · have hfin : idxOf p zs = -1 := by
        unfold idxOf
        have : zs.findIdx? p = none := by
          rw [List.findIdx?_eq_none_iff]
          have h := HT.out
          rwa [List.take_of_length_le (by omega)] at h
        rw [this]
      have HF := hid_ hfin
      clear hfin
      go_wp2
      go_ret
      exact ⟨by rw [HF.out]; rfl, rfl⟩
theorem idxOf_ge (p : Int → Bool) (zs : List Int) : decide (idxOf p zs ≥ 0) = zs.any p := by
  unfold idxOf
  cases h : zs.findIdx? p with
  | none =>
    have : zs.any p = false := by rw [List.any_eq_false]; intro x hx; have := List.findIdx?_eq_none_iff.1 h x hx; simp [this]
    simp [this]
  | some k =>
    have : zs.any p = true := by
      rw [List.any_eq_true]
      obtain ⟨hk, hp, -⟩ := List.findIdx?_eq_some_iff_getElem.1 h
      exact ⟨_, List.getElem_mem hk, hp⟩
    simp [this]
theorem containsFunc_any (g : Nat) (cap : Array Value) (p : Int → Bool) (eg : Enters Try.prog g) (v : Value) (zs : List Int) (w : World) (hs : SL w 1 v zs.length (ints zs))
    (hp : ∀ z ∈ zs, Calls Try.prog g (#[.int .i64 z] ++ cap) w fun e w' => e = .returned (.bool (p z)) ∧ w = w') :
    Calls Try.prog 85 #[v, .func (.func g) #[] cap] w fun e w' => e = .returned (.bool (zs.any p)) ∧ w = w' := by
  have HP := hid_ hp
  have HG := hid_ eg
  clear hp eg
  go_enter Try.func85, Try.ntmps85
  go_wp2_with (go_at_call 114; refine (indexFunc_any g cap p HG.out v zs _ hs HP.out).mono ?_; rintro e w' ⟨rfl, rfl⟩)
  go_ret
  exact ⟨by rw [← idxOf_ge]; rfl, rfl⟩
end Go.Proofs.Ytkfdkkhhkciocaa
/- api.Block by value: the facts of its type, and the contracts on whether all its numbers lie within bounds. -/
namespace Go.Proofs.Ytkfdkkhhkciocaa
set_option linter.unusedVariables false
set_option linter.unusedSimpArgs false
open Go.RowKit
theorem run_index48 (cs : Array Value) (i : Nat) (u : Value) (hi : i < 64) (hu : cs[i]? = some u) (w : World) : (Instr.index 24 (.agg cs) (.int .i64 (i : Int))).run Try.prog w = .ok u w :=
  run_index_agg _ _ 64 cs i u Try.underlying24 _ Try.underlying3 sizeInt hi hu w
theorem size48 : (Try.prog.info? 24).map (·.size) = some 64 := by kernel_rfl
set_option maxHeartbeats 400000 in
theorem blockWithin_any (zs : List Int) (lo hi : Int) (w : World) (hz : zs.length = 64) :
    Calls Try.prog 33 #[.agg (bv zs), .int .i64 lo, .int .i64 hi] w fun e w' => e = .returned (.bool (allIn zs lo hi)) ∧ Ext w w' := by
  have HZ : Hid (zs.length = 64) := hz
  have hs := (bv_size zs).trans hz
  have HS : Hid ((bv zs).size = 64) := hs
  have hat := bv_at zs
  generalize hcs : bv zs = cs at *
  have HA : Hid (∀ (k : Nat) (h : k < zs.length), cs[k]? = some (.int .i64 zs[k])) := hat
  clear hat hs hz hcs
  go_enter Try.func33, Try.ntmps33
  go_wp2_with (refine wpList_load_blk rfl 24 _ rfl _ rfl (Blk.new w 24 cs) _ Try.underlying24 rfl 64 size48 HS.out ?_)
  go_loop [10] (fun i => ∃ k : Nat, k ≤ 64 ∧ i = .int .i64 k ∧ ∀ z ∈ zs.take k, lo ≤ z ∧ z ≤ hi) (fun i => 64 - (intOf i).toNat)
  case atStart => exact ⟨0, by omega, rfl, by simp⟩
  case round =>
    obtain ⟨k, hk, rfl, ht⟩ := hrel
    have HT : Hid (∀ z ∈ zs.take k, lo ≤ z ∧ z ≤ hi) := ht
    clear ht
    by_cases hlt : k < 64
    · have hlt2 : k < zs.length := by have := HZ.out; omega
      have hat := fun W => run_index48 cs k _ hlt (HA.out k hlt2) W
      cases hd : inB zs[k] lo hi with
      | true =>
        have HI := hid_ (inB_iff.1 hd)
        go_wp2_with (go_at_call 28; refine (outside_any _ _ _ _).mono ?_; rintro e w' ⟨rfl, rfl⟩)
        go_round
        case rel => exact ⟨k + 1, by omega, by go_num, allIn_take HT.out hlt2 HI.out⟩
        case measure => simp [intOf]; omega
      | false =>
        have HF := hid_ (allIn_no hlt2 hd)
        go_wp2_with (go_at_call 28; refine (outside_any _ _ _ _).mono ?_; rintro e w' ⟨rfl, rfl⟩)
        go_ret
        exact ⟨by rw [HF.out]; rfl, (Ext.refl w).alloc _⟩
    · have hfin : allIn zs lo hi = true := allIn_iff.2 (by have := HT.out; rwa [List.take_of_length_le (by have := HZ.out; omega)] at this)
      have HF : Hid (allIn zs lo hi = true) := hfin
      clear hfin
      go_wp2
      go_ret
      exact ⟨by rw [HF.out]; rfl, (Ext.refl w).alloc _⟩
end Go.Proofs.Ytkfdkkhhkciocaa
