/- Contracts for the law DeskRunsCard, part 4: what the functions that it reaches answer, for all arguments that the theorems name. -/
import Derived.Test.YtlhggcbpipmjhaaGreatDoorMDeskRunsCard3
import Derived.Maps.AppendAt
import Derived.Test.YtlhggcbpipmjhaaGreatDoorMDeskRunsCard1
import Derived.WalkKit
import Derived.Deep.MidRow
import Derived.Maps.OwnSet
import Derived.Outline
namespace Go.Proofs.YtlhggcbpipmjhaaGreatDoor.BM
set_option linter.unusedVariables false
set_option linter.unusedSimpArgs false
def posN (cs : List Int) : Nat → List Nat
 | 0 => []
 | i + 1 => posN cs i ++ (if 0 < cs.getD i 0 then [(cs.getD i 0).toNat] else [])
theorem singN_pos (cs : List Int) : ∀ i, (singN cs i).map (·.1) = 0 :: posN cs i
 | 0 => rfl
 | i + 1 => by
   rw [singN, posN, List.map_append, singN_pos cs i]
   split <;> simp
theorem posN_bd (cs : List Int) (h : ∀ z ∈ cs, z ≤ 9999) : ∀ i, (posN cs i).length ≤ i ∧ ∀ x ∈ posN cs i, x ≤ 9999
 | 0 => by simp [posN]
 | i + 1 => by
   obtain ⟨h1, h2⟩ := posN_bd cs h i
   rw [posN, List.length_append]
   refine ⟨by split <;> simp <;> omega, fun x hx => ?_⟩
   rcases List.mem_append.1 hx with hx | hx
   ·exact h2 x hx
   ·split at hx
    ·rename_i hpos
     have e : x = (cs.getD i 0).toNat := by simpa using hx
     subst e
     rw [List.getD_eq_getElem?_getD] at hpos ⊢
     cases hq : cs[i]? with
     | none => rw [hq] at hpos; simp at hpos
     | some z => have := h z (List.mem_of_getElem? hq); simp; omega
    ·cases hx
def far : Nat := 1099511627776
def bestZ (ws : List Nat) : Nat := if ws.length = 1 then 0 else pre ws ws.length + D (pre ws) far 15 ws.length 2
theorem D_far (W : Nat → Nat) (f : Nat) : ∀ left m, D W f 0 left m ≤ f := fun left m => by unfold D; split <;> omega
theorem D_le (W : Nat → Nat) (fr : Nat) : ∀ f left m, D W fr f left m ≤ fr
 | 0, left, m => D_far W fr left m
 | f + 1, left, m => by
   unfold D
   split
   ·omega
   ·exact minTo_far _ _ _
def bestC (W : Nat → Nat) (f left m : Nat) : Nat → Nat
 | 0 => if left = 0 then 0 else far
 | c + 1 => if c = left then 0 else match f with
   | 0 => bestC W 0 left m c
   | f' + 1 => min (bestC W (f' + 1) left m c) (W (left - c) + D W far f' (left - c) (min (2 * (m - c)) (left - c)))
theorem bestC_end (W : Nat → Nat) (f left m : Nat) (h0 : 0 < left) : bestC W f left m (min m left + 1) = D W far f left m := by
 by_cases hl : left ≤ m
 ·rw [Nat.min_eq_right hl, D_fit _ _ _ _ _ hl]
  unfold bestC
  rw [if_pos rfl]
 ·rw [Nat.min_eq_left (by omega)]
  cases f with
  | zero =>
    have h : ∀ c, c ≤ m + 1 → bestC W 0 left m c = far := fun c => by
     induction c with
     | zero => intro _; unfold bestC; rw [if_neg (by omega)]
     | succ c ih => intro hc; unfold bestC; rw [if_neg (by omega)]; exact ih (by omega)
    rw [h _ (Nat.le_refl _)]
    unfold D
    rw [if_neg hl]
  | succ f' =>
    have h : ∀ c, c ≤ m → bestC W (f' + 1) left m (c + 1) = minTo far (fun c => W (left - c) + D W far f' (left - c) (min (2 * (m - c)) (left - c))) c := fun c => by
     induction c with
     | zero =>
       intro _
       unfold bestC minTo
       rw [if_neg (by omega)]
       unfold bestC
       rw [if_neg (by omega)]
     | succ c ih =>
       intro hc
       rw [minTo, ← ih (by omega)]
       conv => lhs; unfold bestC
       rw [if_neg (by omega)]
    rw [h m (Nat.le_refl _)]
    conv => rhs; unfold D
    rw [if_neg hl]
theorem pre_rev (X : List Nat) (p : Nat) (hp : p < X.length) : pre X.reverse (X.length - p) = pre X.reverse (X.length - (p + 1)) + X[p] := by
 unfold pre
 have h1 : X.length - p = (X.length - (p + 1)) + 1 := by omega
 rw [h1, List.take_succ_eq_append_getElem (by rw [List.length_reverse]; omega), List.sum_append, List.getElem_reverse]
 simp
 congr 1
 omega
theorem pre_bd {ws : List Nat} {b : Nat} (h : ∀ x ∈ ws, x ≤ b) (k : Nat) : pre ws k ≤ k * b := by
 unfold pre
 induction k generalizing ws with
 | zero => simp
 | succ k ih =>
   cases ws with
   | nil => simp
   | cons x ws =>
     have h1 := h x (by simp)
     have h2 := ih (ws := ws) (fun y hy => h y (by simp [hy]))
     rw [List.take_succ_cons, List.sum_cons, Nat.add_mul]
     omega
end Go.Proofs.YtlhggcbpipmjhaaGreatDoor.BM
namespace Go.Proofs.YtlhggcbpipmjhaaGreatDoor
set_option linter.unusedVariables false
set_option linter.unusedSimpArgs false
open Go.RowKit
section
variable {P : Program} (w : World)
theorem run_append_of_nil (base : Nat) (t ty e : TypeId) (i : TypeInfo) (size : Nat) (ht : P.underlying t = some (.slice e)) (hi : P.info? e = some i)
 (v : Value) (n : Nat) (xs : List Value) (hown : w.ownsRow base e size v n xs) (c : Nat) : (Builtin.append_ #[t, t] ty #[v, .slice none 0 c]).run P w = .ok v w := by
 rcases hown.2 with ⟨rfl, rfl⟩ | ⟨g, cap, cur, rfl, _, _, hnc, _⟩
 ·simp [Builtin.append_, run_underlying ht, sizeOf, typeInfo, hi, Builtin.lenOf, Builtin.firstCells]
 ·simp [Builtin.append_, run_underlying ht, sizeOf, typeInfo, hi, Builtin.lenOf, Builtin.firstCells, hnc, storeCells]
theorem run_append_sl (base : Nat) (t ty e : TypeId) (i : TypeInfo) (z : Value) (size bytes : Nat) (ht : P.underlying t = some (.slice e)) (hi : P.info? e = some i) (hz : i.zero = some z)
 (hsize : i.size = size) (hby : i.bytes = bytes) (hzs : z.cells.size = size) (hsz : 0 < size)
 (v : Value) (n : Nat) (xs : List Value) (hown : w.ownsRow base e size v n xs)
 (x : Value) (m : Nat) (news : List Value) (hr : SL w size x m news) (h1 : ∀ u ∈ news, u.oneCell' = true)
 (h63 : n + m ≤ maxLen) (hbytes : (n + m) * bytes ≤ 140737488355328) (hbase : base ≤ w.heap.size) :
 ∃ v' w', (Builtin.append_ #[t, t] ty #[v, x]).run P w = .ok v' w' ∧ w'.ownsRow base e size v' (n + m) (xs ++ news) ∧ w.grownBy w' v.ownBlock ∧
  (v'.ownBlock = v.ownBlock ∨ v'.ownBlock = some w.heap.size) := by
 obtain ⟨A, c, rfl, -, -, hl, hc⟩ := hr
 rcases A with _ | ad
 ·have hm : m = 0 := by
   rcases Nat.eq_zero_or_pos m with h0 | h0
   ·exact h0
   ·obtain ⟨ad, h, _⟩ := hc h0
    cases h
  subst hm
  have hn : news = [] := List.eq_nil_of_length_eq_zero (by simpa using hl)
  subst hn
  exact ⟨v, w, run_append_of_nil w base t ty e i size ht hi v n xs hown c, by simpa using hown, World.grownBy.refl w _, .inl rfl⟩
 ·have hcells : ∀ j u, news[j]? = some u → w.cell? (ad.add j) = some u := by
   intro j u hu
   rcases Nat.eq_zero_or_pos m with h0 | h0
   ·subst h0
    have hn : news = [] := List.eq_nil_of_length_eq_zero (by simpa using hl)
    subst hn
    simp at hu
   ·obtain ⟨ad', h, _, hcc⟩ := hc h0
    injection h with h
    subst h
    exact hcc j u hu
  obtain ⟨v', w', hrun, h2, h3, _, h5⟩ := run_append_own_at (P := P) w base t ty e i z size bytes ht hi hz hsize hby hzs hsz v n xs hown ad m c news hl hcells h1 h63 hbytes hbase
  exact ⟨v', w', hrun, h2, h3, h5⟩
theorem wp_append_sl {o : Oper} {a : Act} {K : Act → World → Prop} {Q : Exit → Act → World → Prop} (s x : Operand) (t : TypeId)
 (ho : o.op = .call { callee := .builtin .append, args := #[s, x], argTypes := #[t, t] })
 (base : Nat) (e : TypeId) (i : TypeInfo) (z : Value) (size bytes : Nat) (ht : P.underlying t = some (.slice e)) (hi : P.info? e = some i) (hz : i.zero = some z)
 (hsize : i.size = size) (hby : i.bytes = bytes) (hzs : z.cells.size = size) (hsz : 0 < size)
 (v : Value) (n : Nat) (xs : List Value) (hs : a.eval s = v) (hown : w.ownsRow base e size v n xs)
 (u : Value) (m : Nat) (news : List Value) (hx : a.eval x = u) (hr : SL w size u m news) (h1 : ∀ u ∈ news, u.oneCell' = true)
 (h63 : n + m ≤ maxLen) (hbytes : (n + m) * bytes ≤ 140737488355328) (hbase : base ≤ w.heap.size)
 (h : ∀ v' w', w'.ownsRow base e size v' (n + m) (xs ++ news) → w.grownBy w' v.ownBlock → (v'.ownBlock = v.ownBlock ∨ v'.ownBlock = some w.heap.size) → K (a.put o.dst v') w') : o.wp P a w K Q := by
 obtain ⟨v', w', hrun, h2, h3, h4⟩ := run_append_sl (P := P) w base t o.type e i z size bytes ht hi hz hsize hby hzs hsz v n xs hown u m news hr h1 h63 hbytes hbase
 unfold Oper.wp execOp
 simp only [ho, resolve, invoke, builtin, Sem.run_bind, Sem.run_pure, Result.andThen_ok, List.map_toArray, List.map_cons, List.map_nil, hs, hx, hrun]
 exact h v' w' h2 h3 h4
structure Elt (P : Program) (t e : TypeId) (size bytes : Nat) : Prop where
 ht : P.underlying t = some (.slice e)
 hi : (P.info? e).map (fun i => (i.zero.map fun z => z.cells.size, i.size, i.bytes)) = some (some size, size, bytes)
 hsz : 0 < size
variable {w}
theorem wpList_append_sl {ops : Array Oper} {rest : List Oper} {o : Oper} {a : Act} {Q : Exit → Act → World → Prop} {t e : TypeId} {size bytes : Nat} (he : Elt P t e size bytes) (hgd : o.guard = none) (s x : Operand)
 (ho : o.op = .call { callee := .builtin .append, args := #[s, x], argTypes := #[t, t] })
 (base : Nat) (v : Value) (n : Nat) (xs : List Value) (hs : a.eval s = v) (hown : w.ownsRow base e size v n xs)
 (u : Value) (m : Nat) (news : List Value) (hx : a.eval x = u) (hr : SL w size u m news) (h1 : ∀ u ∈ news, u.oneCell' = true)
 (h63 : n + m ≤ 9223372036854775807) (hbytes : (n + m) * bytes ≤ 140737488355328) (hbase : base ≤ w.heap.size)
 (h : ∀ v' w', w'.ownsRow base e size v' (n + m) (xs ++ news) → Below base w w' → wpList P ops Q rest (a.put o.dst v') w') : wpList P ops Q (o :: rest) a w := by
 obtain ⟨ht, hi, hsz⟩ := he
 cases hq : P.info? e with
 | none => simp [hq] at hi
 | some i =>
   cases hzq : i.zero with
   | none => simp [hq, hzq] at hi
   | some z =>
     have hi' : z.cells.size = size ∧ i.size = size ∧ i.bytes = bytes := by simpa [hq, hzq] using hi
     refine wpList_plain hgd fun _ hK => wp_append_sl w s x t ho base e i z size bytes ht hq hzq hi'.2.1 hi'.2.2 hi'.1 hsz v n xs hs hown u m news hx hr h1 (by unfold maxLen; omega) hbytes hbase fun v' w' h2 h3 h4 => hK _ _ (h v' w' h2 ?_)
     exact (Below.refl base w).grown h3 hbase (fun k hk => ((hown.lt k hk).1))
theorem wpList_append_slr {ops : Array Oper} {rest : List Oper} {o : Oper} {a : Act} {Q : Exit → Act → World → Prop} {t e : TypeId} {size bytes : Nat} (he : Elt P t e size bytes) (hgd : o.guard = none) (s x : Operand)
 (ho : o.op = .call { callee := .builtin .append, args := #[s, x], argTypes := #[t, t] })
 (base : Nat) (v : Value) (n : Nat) (xs : List Value) (hs : a.eval s = v) (hown : w.ownsRow base e size v n xs)
 (u : Value) (m : Nat) (news : List Value) (hx : a.eval x = u) (hr : SL w size u m news) (h1 : ∀ u ∈ news, u.oneCell' = true)
 (h63 : n + m ≤ 9223372036854775807) (hbytes : (n + m) * bytes ≤ 140737488355328) (hbase : base ≤ w.heap.size)
 (h : ∀ v' w', w'.ownsRow base e size v' (n + m) (xs ++ news) → w.grownBy w' v.ownBlock → (v'.ownBlock = v.ownBlock ∨ v'.ownBlock = some w.heap.size) → wpList P ops Q rest (a.put o.dst v') w') : wpList P ops Q (o :: rest) a w := by
 obtain ⟨ht, hi, hsz⟩ := he
 cases hq : P.info? e with
 | none => simp [hq] at hi
 | some i =>
   cases hzq : i.zero with
   | none => simp [hq, hzq] at hi
   | some z =>
     have hi' : z.cells.size = size ∧ i.size = size ∧ i.bytes = bytes := by simpa [hq, hzq] using hi
     refine wpList_plain hgd fun _ hK => wp_append_sl w s x t ho base e i z size bytes ht hq hzq hi'.2.1 hi'.2.2 hi'.1 hsz v n xs hs hown u m news hx hr h1 (by unfold maxLen; omega) hbytes hbase fun v' w' h2 h3 h4 => hK _ _ (h v' w' h2 h3 h4)
theorem wApf {ops : Array Oper} {rest : List Oper} {o : Oper} {a : Act} {Q : Exit → Act → World → Prop} {t e : TypeId} {size bytes : Nat} (he : Elt P t e size bytes) (hgd : o.guard = none) (s x : Operand)
 (ho : o.op = .call { callee := .builtin .append, args := #[s, x], argTypes := #[t, t] })
 (base : Nat) (v : Value) (n : Nat) (xs : List Value) (hs : a.eval s = v) (hown : w.ownsRow base e size v n xs)
 (u : Value) (m : Nat) (news : List Value) (hx : a.eval x = u) (hr : SL w size u m news) (h1 : ∀ u ∈ news, u.oneCell' = true)
 (h63 : n + m ≤ 9223372036854775807) (hbytes : (n + m) * bytes ≤ 140737488355328) (hbase : base ≤ w.heap.size)
 (h : ∀ A c w', w'.ownsRow base e size (.slice A (n + m) c) (n + m) (xs ++ news) → w.grownBy w' v.ownBlock → (A.map (·.block) = v.ownBlock ∨ A.map (·.block) = some w.heap.size) → wpList P ops Q rest (a.put o.dst (.slice A (n + m) c)) w') : wpList P ops Q (o :: rest) a w :=
 wpList_append_slr he hgd s x ho base v n xs hs hown u m news hx hr h1 h63 hbytes hbase fun v' w' h2 h3 h4 => by
  have h2' := h2.2
  rcases h2' with ⟨rfl, h0⟩ | ⟨g, cap, cur, rfl, _⟩
  ·have hz : n + m = 0 ∨ ¬ n + m = 0 := by omega
   have hl := h2.1
   rw [h0] at hl
   have h5 : n + m = 0 := by
    have := he.hsz
    rcases Nat.eq_zero_or_pos (n + m) with h6 | h6
    ·exact h6
    ·have := Nat.mul_pos h6 this
     simp at hl
     omega
   have key := h none 0 w'
   rw [h5] at key
   rw [h5] at h2
   exact key h2 h3 (by simpa [Value.ownBlock] using h4)
  ·exact h _ _ w' h2 h3 (by simpa [Value.ownBlock] using h4)
end
theorem own_sl {w : World} {base : Nat} {e : TypeId} {size n : Nat} {v : Value} {xs : List Value} (h : w.ownsRow base e size v n xs) : SL w size v n xs := by
 obtain ⟨hl, hh⟩ := h
 rcases hh with ⟨rfl, rfl⟩ | ⟨g, cap, cur, rfl, hb, hg, hn, hm, hc, hx⟩
 ·have : xs = [] := List.eq_nil_of_length_eq_zero (by simpa using hl)
  subst this
  exact SL.nil w size
 ·refine ⟨_, _, rfl, hn, by unfold maxLen at hm; omega, hl, fun _ => ⟨_, rfl, Blk.lt (w := w) (t := e) (cs := cur) hg, fun j u hu => ?_⟩⟩
  have hj : j < xs.length := (List.getElem?_eq_some_iff.1 hu).1
  have e1 : (⟨g, 0, none⟩ : Addr).add j = ⟨g, j, none⟩ := by
   unfold Addr.add
   by_cases h0 : j = 0
   ·subst h0; rfl
   ·rw [if_neg h0]; simp
  rw [e1, cell_of_row w g j cur e (0, 0) hg, ← hu, ← hx, List.getElem?_take_of_lt (by omega)]
  simp
theorem own_snoc {w : World} {base : Nat} {e : TypeId} {v : Value} {L : List Int} {z : Int} (h : w.ownsRow base e 1 v (L.length + 1) (ints L ++ [.int .i64 z])) : w.ownsRow base e 1 v (L ++ [z]).length (ints (L ++ [z])) := by
 simpa [ints] using h
theorem Ext.trans' {a w w' : World} (h : Ext a w) (k : Below a.heap.size w w') : Ext a w' := Below.trans h k
theorem int_one (z : Int) : ∀ u ∈ [Value.int .i64 z], u.oneCell' = true := by
 intro u hu
 simp at hu
 subst hu
 rfl
theorem one_sl (w : World) (T : TypeId) (v : Value) : SL (w.alloc (.cells #[v] T)) 1 (.slice (some ⟨w.heap.size, 0, none⟩) 1 1) 1 [v] := by
 have := (Blk.new w T #[v]).sl (size := 1) (n := 1) (c := 1) rfl (by omega) (by omega)
 simpa using this
theorem own_form {w : World} {base : Nat} {e : TypeId} {size n : Nat} {v : Value} {xs : List Value} (h : w.ownsRow base e size v n xs) : ∃ A c, v = .slice A n c ∧ SL w size (.slice A n c) n xs ∧ ∀ ad, A = some ad → base ≤ ad.block := by
 have hs := own_sl h
 obtain ⟨hl, hh⟩ := h
 rcases hh with ⟨rfl, rfl⟩ | ⟨g, cap, cur, rfl, hb, hg, hn, hm, hc, hx⟩
 ·exact ⟨none, 0, rfl, hs, by intro ad h; cases h⟩
 ·exact ⟨some ⟨g, 0, none⟩, cap, rfl, hs, by intro ad h; injection h with h; subst h; exact hb⟩
theorem SL.far {w : World} {size n c : Nat} {A : Option Addr} {xs : List Value} (h : SL w size (.slice A n c) n xs) {p : Addr} (hne : ∀ ad, A = some ad → ad.block ≠ p.block) (u : Value) : SL (w.setCell p u) size (.slice A n c) n xs := by
 obtain ⟨A', c', e, h1, h1', h2, h3⟩ := h
 injection e with e1 e2 e3
 subst e1 e3
 refine ⟨A, c, rfl, h1, h1', h2, fun hn => ?_⟩
 obtain ⟨ad, ea, hlt, hc⟩ := h3 hn
 exact ⟨ad, ea, by simpa [World.setCell] using hlt, fun j u' hu => (World.cell?_setCell_other w p (ad.add j) u (fun e => hne ad ea (by rw [e, block_of_add]))).trans (hc j u' hu)⟩
def digs (n : Nat) : Nat → List Bool
 | 0 => []
 | k + 1 => (n / 2 ^ k % 2 == 1) :: digs n k
theorem digs_len (n k : Nat) : (digs n k).length = k := by
 induction k with
 | zero => rfl
 | succ k ih => simp [digs, ih]
theorem sizeInt : (Tryz.prog.info? 3).map (·.size) = some 1 := by kernel_rfl
def bv (zs : List Int) : Array Value := (ints zs).toArray
theorem bv_size (zs : List Int) : (bv zs).size = zs.length := by simp [bv, ints_len]
theorem bv_at (zs : List Int) (k : Nat) (h : k < zs.length) : (bv zs)[k]? = some (.int .i64 zs[k]) := by simp [bv, ints, h]
theorem bv_one (zs : List Int) : (bv zs).all (·.oneCell') = true := by
 simp only [bv, Array.all_eq_true_iff_forall_mem]
 intro v hv
 simp only [List.mem_toArray, ints, List.mem_map] at hv
 obtain ⟨z, -, rfl⟩ := hv
 rfl
theorem bv_set (zs : List Int) (k : Nat) (z : Int) : (bv zs).setIfInBounds k (.int .i64 z) = bv (zs.set k z) := by
 simp [bv, ints, List.map_set]
theorem Blk.bsl {w : World} {g : Nat} {T : TypeId} {zs : List Int} {c : Nat} (h : Blk w g T (bv zs)) (hc : zs.length ≤ c) (hc2 : c ≤ 9223372036854775807) :
 SL w 1 (.slice (some ⟨g, 0, none⟩) zs.length c) zs.length (Go.Proofs.YtlhggcbpipmjhaaGreatDoor.ints zs) := by
 have := h.sl (size := 1) (n := zs.length) (c := c) (by simp [bv_size]) hc hc2
 simpa [bv] using this
theorem allIn_take {zs : List Int} {lo hi : Int} {k : Nat} (h : ∀ z ∈ zs.take k, lo ≤ z ∧ z ≤ hi) (hk : k < zs.length) (hz : lo ≤ zs[k] ∧ zs[k] ≤ hi) : ∀ z ∈ zs.take (k + 1), lo ≤ z ∧ z ≤ hi := by
 rw [List.take_succ_eq_append_getElem hk]
 intro z hz'
 rcases List.mem_append.1 hz' with h1 | h1
 ·exact h z h1
 ·simp at h1; subst h1; exact hz
def tblv (cs : List Int) (sl : Value) : Array Value := (ints cs ++ [sl]).toArray
theorem sizeTbl : (Tryz.prog.info? 105).map (·.size) = some 17 := by kernel_rfl
theorem size16 : (Tryz.prog.info? 103).map (·.size) = some 16 := by kernel_rfl
theorem tblv_size (cs : List Int) (sl : Value) (h : cs.length = 16) : (tblv cs sl).size = 17 := by simp [tblv, ints_len, h]
theorem tblv_range {w : World} {g : Nat} {T : TypeId} {cs : List Int} {sl : Value} (h : Blk w g T (tblv cs sl)) : w.rangeAt g 0 (ints cs) := by
 intro j v hv
 rw [Nat.zero_add, h.cell]
 unfold tblv
 rw [List.getElem?_toArray, List.getElem?_append_left (List.getElem?_eq_some_iff.1 hv).1]
 exact hv
theorem tblv_last {w : World} {g : Nat} {T : TypeId} {cs : List Int} {sl : Value} (h : Blk w g T (tblv cs sl)) (hl : cs.length = 16) : w.cell? ⟨g, 16, none⟩ = some sl := by
 rw [h.cell]
 simp [tblv, ints_len, hl]
theorem run_index16 (cs : Array Value) (i : Nat) (u : Value) (hi : i < 16) (hu : cs[i]? = some u) (w : World) : (Instr.index 103 (.agg cs) (.int .i64 (i : Int))).run Tryz.prog w = .ok u w :=
 run_index_agg _ _ 16 cs i u Tryz.underlying103 _ Tryz.underlying3 sizeInt hi hu w
def sumL (cs : List Int) (k : Nat) : Int := (cs.take k).sum
theorem sumL_succ (cs : List Int) (k : Nat) (h : k < cs.length) : sumL cs (k + 1) = sumL cs k + cs[k] := by
 unfold sumL
 rw [List.take_succ_eq_append_getElem h, List.sum_append]
 simp
def totalZ (cs : List Int) : Int × Bool := if allIn cs 0 256 then (sumL cs 16, decide (sumL cs 16 ≤ 256)) else (0, false)
set_option maxHeartbeats 400000 in
theorem total_any (cs : List Int) (sl : Value) (w : World) (hl : cs.length = 16) :
 Calls Tryz.prog 152 #[.agg (tblv cs sl)] w fun e w' => e = .returned (.tuple #[.int .i64 (totalZ cs).1, .bool (totalZ cs).2]) ∧ Ext w w' := by
 have HL := hid_ hl
 have HRG := hid_ (fun W g (h : Blk W g 105 (tblv cs sl)) => tblv_range h)
 have hcl := hid_ ((ints_len cs).trans hl)
 have HIX := hid_ (fun k (hk : k < cs.length) (h16 : k < 16) => fun W => run_index16 (bv cs) k (.int .i64 cs[k]) h16 (bv_at cs k hk) W)
 generalize tblv cs sl = tv at *
 have hbv : (ints cs).toArray = bv cs := rfl
 go_enter Tryz.func152, Tryz.ntmps152
 go_wp2_with (first
  | (refine wBox rfl 105 (.tmp 0) rfl tv rfl ?_; intro w1 g hb1 hx1 hg)
  | (refine wpList_load_mid rfl 103 (.tmp 7) rfl g 0 rfl (ints cs) _ (HRG.out _ _ hb1) Tryz.underlying103 rfl (by rw [hcl.out]; exact size16) ?_))
 go_loop [4, 9] (fun v i => ∃ k : Nat, k ≤ 16 ∧ i = .int .i64 (k : Int) ∧ v = .int .i64 (sumL cs k) ∧ (∀ z ∈ cs.take k, 0 ≤ z ∧ z ≤ 256) ∧ 0 ≤ sumL cs k ∧ sumL cs k ≤ 256 * k) (fun _ i => 16 - (intOf i).toNat)
 case atStart => exact ⟨0, by omega, rfl, rfl, by simp, by simp [sumL], by simp [sumL]⟩
 case round =>
  obtain ⟨k, hk, rfl, rfl, hin, s1, s2⟩ := hrel
  by_cases hlt : k < 16
  ·have hkl : k < cs.length := by have := HL.out; omega
   have hix := HIX.out k hkl hlt
   have HS := hid_ (sumL_succ cs k hkl)
   have HIN := hid_ hin
   clear hin
   cases hq : inB cs[k] 0 256 with
   | true =>
     obtain ⟨q1, q2⟩ := inB_iff.1 hq
     have HN := hid_ (allIn_take HIN.out hkl ⟨q1, q2⟩)
     generalize sumL cs k = s at *
     go_wp2_with fail
     go_round
     case rel => exact ⟨k + 1, by omega, by go_num, by rw [HS.out], HN.out, by rw [HS.out]; omega, by rw [HS.out]; omega⟩
     case measure => simp [intOf]; omega
   | false =>
     have HF := hid_ (show totalZ cs = (0, false) by unfold totalZ; rw [allIn_no hkl hq]; rfl)
     rcases Int.lt_or_le cs[k] 0 with h0 | h0
     ·have h0' : decide (cs[k] < 0) = true := by simpa using h0
      clear hq
      go_wp2_with fail
      go_ret2
      exact ⟨by rw [HF.out]; rfl, hx1⟩
     ·have h0' : decide (cs[k] < 0) = false := by simpa using h0
      have h1' : decide (256 < cs[k]) = true := by have := inB_not.1 hq; simp; omega
      clear hq
      go_wp2_with fail
      go_ret2
      exact ⟨by rw [HF.out]; rfl, hx1⟩
  ·have ek : k = 16 := by omega
   have HF := hid_ (show totalZ cs = (sumL cs 16, decide (sumL cs 16 ≤ 256)) by
    unfold totalZ
    rw [allIn_iff.2 (fun z hz => hin z (by rwa [List.take_of_length_le (by have := HL.out; omega)]))]
    rfl)
   rw [ek]
   rw [ek] at s1 s2
   clear hin ek hk hlt
   go_wp2_with fail
   go_ret2
   exact ⟨by rw [HF.out]; rfl, hx1⟩
def nextW (cs : List Int) : Nat → Nat
 | 0 => 0
 | k + 1 => 2 * nextW cs k + (cs.getD k 0).toNat
def okW (cs : List Int) : Bool := (List.range 16).all fun k => decide (nextW cs (k + 1) + 1 ≤ 2 ^ (k + 1))
theorem okW_no {cs : List Int} {k : Nat} (hk : k < 16) (h : 2 ^ (k + 1) < nextW cs (k + 1) + 1) : okW cs = false := by
 rw [← Bool.not_eq_true]
 intro h2
 have := List.all_eq_true.1 h2 k (List.mem_range.2 hk)
 simp only [decide_eq_true_eq] at this
 omega
def totOK (cs xs : List Int) : Bool := allIn cs 0 256 && decide (sumL cs 16 ≤ 256) && decide (sumL cs 16 = xs.length)
def checkZ (cs xs : List Int) : Int := if totOK cs xs then (if allIn xs 0 255 then (if decide xs.Nodup && okW cs then 0 else 4) else 1) else 4
theorem checkZ_tot {cs xs : List Int} (h : totOK cs xs = false) : checkZ cs xs = 4 := by simp [checkZ, h]
theorem checkZ_arg {cs xs : List Int} (h : totOK cs xs = true) (h2 : allIn xs 0 255 = false) : checkZ cs xs = 1 := by simp [checkZ, h, h2]
theorem checkZ_dup {cs xs : List Int} (h : totOK cs xs = true) (h2 : allIn xs 0 255 = true) (h3 : ¬ xs.Nodup) : checkZ cs xs = 4 := by simp [checkZ, h, h2, h3]
theorem checkZ_words {cs xs : List Int} (h : totOK cs xs = true) (h2 : allIn xs 0 255 = true) (h3 : xs.Nodup) : checkZ cs xs = if okW cs then 0 else 4 := by simp [checkZ, h, h2, h3]
theorem totOK_iff {cs xs : List Int} : totOK cs xs = true ↔ allIn cs 0 256 = true ∧ sumL cs 16 ≤ 256 ∧ sumL cs 16 = xs.length := by simp [totOK, and_assoc]
theorem nodup_take_succ {xs : List Int} {k : Nat} (hk : k < xs.length) : (xs.take (k + 1)).Nodup ↔ (xs.take k).Nodup ∧ xs[k] ∉ xs.take k := by
 rw [List.take_succ_eq_append_getElem hk, List.nodup_append]
 constructor
 ·rintro ⟨a, -, c⟩
  exact ⟨a, fun h => c _ h _ (by simp) rfl⟩
 ·rintro ⟨a, b⟩
  refine ⟨a, by simp, fun x hx y hy => ?_⟩
  simp at hy
  subst hy
  rintro rfl
  exact b hx
theorem okW_yes {cs : List Int} (h : ∀ j, j < 16 → nextW cs (j + 1) + 1 ≤ 2 ^ (j + 1)) : okW cs = true :=
 List.all_eq_true.2 fun i hi => by
  have := h i (List.mem_range.1 hi)
  simpa using this
theorem nextW_succ (cs : List Int) (k n : Nat) (hk : k < cs.length) (h : cs[k] = (n : Int)) : nextW cs (k + 1) = 2 * nextW cs k + n := by
 show 2 * nextW cs k + (cs.getD k 0).toNat = _
 simp [hk, h]
theorem elt_word : Elt Tryz.prog 137 141 3 24 := ⟨Tryz.underlying137, by kernel_rfl, by omega⟩
theorem one_sl3' (w : World) (T : TypeId) (a b c : Value) : SL (w.alloc (.cells #[a, b, c] T)) 3 (.slice (some ⟨w.heap.size, 0, none⟩) 1 1) 1 [a, b, c] := by
 have := (Blk.new w T #[a, b, c]).sl (size := 3) (n := 1) (c := 1) rfl (by omega) (by omega)
 simpa using this
theorem int3_one (a b c : Int) : ∀ u ∈ [Value.int .i64 a, .int .i64 b, .int .i64 c], u.oneCell' = true := by
 intro u hu
 simp at hu
 rcases hu with rfl | rfl | rfl <;> rfl
theorem own_tok3 {w : World} {base : Nat} {e : TypeId} {v : Value} {T : List Tok} {a b c : Int} (h : w.ownsRow base e 3 v (T.length + 1) (toks T ++ [.int .i64 a, .int .i64 b, .int .i64 c])) : w.ownsRow base e 3 v (T ++ [(a, b, c)]).length (toks (T ++ [(a, b, c)])) := by
 simpa [toks, tokv] using h
def rowC (cs : List Int) (k j : Nat) : List (Nat × Nat) := (List.range j).map fun i => (k + 1, 2 * nextW cs k + i)
def codesW (cs : List Int) : Nat → List (Nat × Nat)
 | 0 => []
 | k + 1 => codesW cs k ++ rowC cs k (cs.getD k 0).toNat
theorem rowC_succ (cs : List Int) (k j : Nat) : rowC cs k (j + 1) = rowC cs k j ++ [(k + 1, 2 * nextW cs k + j)] := by
 unfold rowC
 rw [List.range_succ, List.map_append]
 rfl
theorem rowC_len (cs : List Int) (k j : Nat) : (rowC cs k j).length = j := by simp [rowC]
theorem codesW_step (cs : List Int) (k n : Nat) (hk : k < cs.length) (h : cs[k] = (n : Int)) : codesW cs (k + 1) = codesW cs k ++ rowC cs k n := by
 show codesW cs k ++ rowC cs k (cs.getD k 0).toNat = _
 simp [hk, h]
theorem codesW_len (cs : List Int) (h : ∀ z ∈ cs, 0 ≤ z) : ∀ k, k ≤ cs.length → ((codesW cs k).length : Int) = sumL cs k := by
 intro k
 induction k with
 | zero => intro _; simp [codesW, sumL]
 | succ k ih =>
   intro hk
   have h0 := h _ (List.getElem_mem (show k < cs.length by omega))
   rw [codesW_step cs k cs[k].toNat (by omega) (by omega), List.length_append, rowC_len, sumL_succ cs k (by omega), ← ih (by omega)]
   omega
theorem codesW_mono (cs : List Int) (j k : Nat) (h : j ≤ k) : (codesW cs j).length ≤ (codesW cs k).length := by
 induction k with
 | zero => obtain rfl : j = 0 := by omega
           exact Nat.le_refl _
 | succ k ih =>
   rcases Nat.lt_or_ge k j with h2 | h2
   ·obtain rfl : j = k + 1 := by omega
    exact Nat.le_refl _
   ·have := ih h2
    show _ ≤ (codesW cs k ++ _).length
    rw [List.length_append]
    omega
def zipC (l : List (Nat × Nat)) (xs : List Int) : List Tok := List.zipWith (fun p x => ((x, (p.1 : Int), (p.2 : Int)) : Tok)) l xs
theorem zipC_len (l : List (Nat × Nat)) (xs : List Int) (h : l.length ≤ xs.length) : (zipC l xs).length = l.length := by simp [zipC]; omega
theorem zipC_snoc (l : List (Nat × Nat)) (p : Nat × Nat) (xs : List Int) (h : l.length < xs.length) : zipC (l ++ [p]) xs = zipC l xs ++ [(xs[l.length], (p.1 : Int), (p.2 : Int))] := by
 induction l generalizing xs with
 | nil =>
   cases xs with
   | nil => simp at h
   | cons x xs => simp [zipC]
 | cons q l ih =>
   cases xs with
   | nil => simp at h
   | cons x xs =>
     have h' : l.length < xs.length := by simpa using h
     have := ih xs h'
     simp only [zipC, List.cons_append, List.zipWith_cons_cons] at this ⊢
     rw [this]
     simp
theorem codesW_fit (cs : List Int) (hok : okW cs = true) (hl : cs.length = 16) : ∀ k, k ≤ 16 → ∀ p ∈ codesW cs k, 1 ≤ p.1 ∧ p.1 ≤ k ∧ p.2 + 1 < 2 ^ p.1 + 1 := by
 intro k
 induction k with
 | zero => intro _ p hp; simp [codesW] at hp
 | succ k ih =>
   intro hk p hp
   rcases List.mem_append.1 (show p ∈ codesW cs k ++ rowC cs k (cs.getD k 0).toNat from hp) with h | h
   ·have := ih (by omega) p h
    omega
   ·simp only [rowC, List.mem_map, List.mem_range] at h
    obtain ⟨i, hi, rfl⟩ := h
    have h1 := List.all_eq_true.1 hok k (List.mem_range.2 (by omega))
    simp only [decide_eq_true_eq] at h1
    have h2 : nextW cs (k + 1) = 2 * nextW cs k + (cs.getD k 0).toNat := rfl
    refine ⟨by simp, by simp, ?_⟩
    simp only
    omega
theorem codesW_zero (cs : List Int) : codesW cs 0 = [] := rfl
attribute [irreducible] codesW
def OwnV (w : World) (base : Nat) (e : TypeId) (size : Nat) (v : Value) (n : Nat) (xs : List Value) : Prop := ∃ A c, v = .slice A n c ∧ w.ownsRow base e size (.slice A n c) n xs
theorem OwnV.mk {w : World} {base : Nat} {e : TypeId} {size n : Nat} {v : Value} {xs : List Value} (h : w.ownsRow base e size v n xs) : OwnV w base e size v n xs := by
 obtain ⟨A, c, rfl, -, -⟩ := own_form h
 exact ⟨A, c, rfl, h⟩
theorem OwnV.nil (w : World) (base : Nat) (e : TypeId) (size : Nat) : OwnV w base e size (.slice none 0 0) 0 [] := ⟨none, 0, rfl, World.ownsRow_nil _ _ _ _⟩
theorem own_out {w : World} {base : Nat} {e : TypeId} {size n c : Nat} {A : Option Addr} {xs : List Value} (h : w.ownsRow base e size (.slice A n c) n xs) : SL w size (.slice A n c) n xs ∧ ∀ ad, A = some ad → base ≤ ad.block := by
 obtain ⟨B, d, e1, h1, h2⟩ := own_form h
 injection e1 with e1 e2 e3
 subst e1 e3
 exact ⟨h1, h2⟩
section
open Go.RowKit Go.Maps
def VR (v : Value) : Option (DataW Value × List MemPlace) := some (.held v, [])
def MapG {ι : Type} (P : Program) (k : TypeId) (kl : ι → Lit) (ok : ι → Prop) (w : World) (b n : Nat) (g : ι → Option Value) : Prop :=
 ∃ D : DataW Value, w.ownsMap P k VR b n D ∧ IsMap D ∧ ∀ i, ok i → Maps.has D (kl i) = (g i).isSome ∧ ∀ z, D.atKey (kl i) (.held z) = .held ((g i).getD z)
section
variable {ι : Type} {P : Program} {k : TypeId} {kl : ι → Lit} {ok : ι → Prop} {w w' : World} {b n : Nat} {g : ι → Option Value}
theorem MapG.made (w : World) : MapG P k kl ok (w.alloc (.map #[] 0)) w.heap.size 0 (fun _ => none) :=
 ⟨.map [], World.ownsMap_made _ _ _ _, isMap_empty, fun _ _ => ⟨rfl, fun _ => rfl⟩⟩
theorem MapG.lt (h : MapG P k kl ok w b n g) : b < w.heap.size := by obtain ⟨D, h1, -⟩ := h; exact h1.lt
theorem MapG.alloc (h : MapG P k kl ok w b n g) (o : Obj) : MapG P k kl ok (w.alloc o) b n g := by
 obtain ⟨D, h1, h2⟩ := h; exact ⟨D, h1.alloc o, h2⟩
theorem MapG.ext (h : MapG P k kl ok w b n g) (hx : Ext w w') : MapG P k kl ok w' b n g := by
 obtain ⟨D, ⟨es, clock, hb, r⟩, h2⟩ := h
 refine ⟨D, ⟨es, clock, (hx.block b ?_).trans hb, r⟩, h2⟩
 exact World.ownsMap.lt (R := VR) ⟨es, clock, hb, r⟩
theorem MapG.grown {row : Option Nat} (h : MapG P k kl ok w b n g) (hg : w.grownBy w' row) (hne : some b ≠ row) : MapG P k kl ok w' b n g := by
 obtain ⟨D, h1, h2⟩ := h; exact ⟨D, h1.kept hg hne, h2⟩
theorem MapG.setCell (h : MapG P k kl ok w b n g) {a : Addr} (ha : b ≠ a.block) (u : Value) : MapG P k kl ok (w.setCell a u) b n g := by
 obtain ⟨D, h1, h2⟩ := h; exact ⟨D, h1.setCell ha u, h2⟩
variable {ops : Array Oper} {rest : List Oper} {o : Oper} {a : Act} {Q : Exit → Act → World → Prop}
theorem wpList_look_g (hw : Region.wanted o (yielded ops a.tmps) = true) (m x : Operand) (t e : TypeId) (hop : o.op = Op.lookup t m x false) (K : Keyed P k) (ht : P.underlying t = some (.map k e))
 (z : Value) (hz : (zeroValue e).run P w = .ok z w) (hm : a.eval m = .map (some b)) (h : MapG P k kl ok w b n g) (key : Value) (hx : a.eval x = key)
 (i : ι) (hi : ok i) (hk : keyOf P k key = some (kl i)) (u : Value) (hu : (g i).getD z = u) (hK : wpList P ops Q rest (a.put o.dst u) w) : wpList P ops Q (o :: rest) a w := by
 refine wpList_wanted hw fun K' hK' => ?_
 obtain ⟨D, h1, -, h2⟩ := h
 obtain ⟨v, ps, hrun, hv⟩ := h1.lookup K ht hz (zd := .held z) (zp := []) rfl hk
 rw [(h2 i hi).2 z, hu] at hv
 have : v = u := by unfold VR at hv; injection hv with hv; injection hv with hv _; injection hv
 subst this
 unfold Oper.wp
 simp [execOp, hop, hm, hx, hrun, Result.andThen]
 exact hK' _ _ hK
theorem wpList_upd_g (hw : Region.wanted o (yielded ops a.tmps) = true) (m x y : Operand) (t e : TypeId) (hop : o.op = Op.mapUpdate t m x y) (K : Keyed P k) (ht : P.underlying t = some (.map k e))
 (hm : a.eval m = .map (some b)) (h : MapG P k kl ok w b n g) (hn : n < 9223372036854775807) (key : Value) (hx : a.eval x = key) (v : Value) (hy : a.eval y = v)
 (i : ι) (hk : keyOf P k key = some (kl i)) (g' : ι → Option Value) (h1 : g' i = some v) (h2 : ∀ j, ok j → kl j ≠ kl i → g' j = g j) (h3 : ∀ j, ok j → kl j = kl i → j = i)
 (hK : ∀ w', MapG P k kl ok w' b (n + 1) g' → w.grownBy w' (some b) → wpList P ops Q rest (a.put o.dst undef) w') : wpList P ops Q (o :: rest) a w := by
 refine wpList_wanted hw fun K' hK' => ?_
 obtain ⟨D, d1, d3, d2⟩ := h
 obtain ⟨w', hrun, r1, r2⟩ := d1.update K ht (by unfold maxLen; omega) hk (val := v) (d := .held v) (ps := []) rfl
 unfold Oper.wp
 simp [execOp, hop, hm, hx, hy, hrun, Result.andThen]
 refine hK' _ _ (hK w' ⟨_, r1, d3.put _ _, fun j hj => ?_⟩ r2)
 by_cases e1 : kl j = kl i
 ·obtain rfl := h3 j hj e1
  rw [has_put_same d3 (K.key hk), h1]
  exact ⟨rfl, fun z => atKey_put_same d3 (K.key hk) _ _⟩
 ·rw [has_put_other e1, h2 j hj e1]
  exact ⟨(d2 j hj).1, fun z => by rw [atKey_put_other e1]; exact (d2 j hj).2 z⟩
end
abbrev MapI (P : Program) (k : TypeId) (w : World) (b n : Nat) (g : Int → Option Value) : Prop := MapG P k (fun x : Int => Lit.int .i64 x) (fun _ => True) w b n g
theorem keyOf_i64 {P : Program} {k : TypeId} (hk : P.underlying k = some (.int .i64)) {a : Int} (h0 : -9223372036854775808 ≤ a) (h1 : a ≤ 9223372036854775807) : keyOf P k (.int .i64 a) = some (.int .i64 a) :=
 keyOf_int_mk hk (WalkArith.wf_i64 ⟨by omega, by omega⟩)
theorem ext_grown_new {a w w' : World} (h : Ext a w) {g : Nat} (hg : w.grownBy w' (some g)) (hB : a.heap.size ≤ g) : Ext a w' := h.grown hg hB
end
section
open Go.RowKit Go.Maps
theorem keyed_int : Keyed Tryz.prog 3 := int_keyed Tryz.underlying3
theorem zero_bool (w : World) : (zeroValue 4).run Tryz.prog w = .ok (.bool false) w := by kernel_rfl
def seenF (l : List Int) (x : Int) : Option Value := if x ∈ l then some (.bool true) else none
theorem seenF_look (l : List Int) (x : Int) : (seenF l x).getD (.bool false) = .bool (decide (x ∈ l)) := by
 unfold seenF; by_cases h : x ∈ l <;> simp [h]
theorem check_tot (cs xs : List Int) (sl : Value) (w : World) (hl : cs.length = 16) (hs : SL w 1 sl xs.length (ints xs)) (h : totOK cs xs = false) :
 Calls Tryz.prog 137 #[.agg (tblv cs sl)] w fun e w' => e = .returned (.int .i64 4) ∧ Ext w w' := by
 have HT := hid_ (fun W => total_any cs sl W hl)
 have hlast := hid_ (fun W g (h : Blk W g 105 (tblv cs sl)) => tblv_last h hl)
 have hts := hid_ (tblv_size cs sl hl)
 have hq : (totalZ cs).2 = false ∨ ((totalZ cs).2 = true ∧ ((totalZ cs).1 != (xs.length : Int)) = true) := by
  unfold totOK at h
  unfold totalZ
  cases h1 : allIn cs 0 256 with
  | false => left; simp
  | true =>
    rw [h1] at h
    simp only [if_true]
    by_cases h2 : sumL cs 16 ≤ 256
    ·right
     simp [h2] at h ⊢
     exact h
    ·left; simpa using h2
 generalize totalZ cs = tz at *
 obtain ⟨all, is⟩ := tz
 generalize tblv cs sl = tv at *
 obtain ⟨A, c, rfl, hc1, hc2, -, -⟩ := hs
 rcases hq with hq | ⟨hq, hq2⟩
 ·simp only at hq
  subst hq
  go_enter Tryz.func137, Tryz.ntmps137
  go_wp2_with (first
   | (refine wBox rfl 105 (.tmp 0) rfl tv rfl ?_; intro w1 g hb1 hx1 hg)
   | (refine wLdB rfl 105 (.tmp 1) rfl _ rfl hb1 _ Tryz.underlying105 rfl 17 sizeTbl hts.out ?_)
   | (go_at_call 152; (with_reducible refine (HT.out _).mono ?_); rintro e w2 ⟨rfl, hx2⟩))
  go_ret
  exact ⟨rfl, hx1.trans hx2⟩
 ·simp only at hq hq2
  subst hq
  go_enter Tryz.func137, Tryz.ntmps137
  go_wp2_with (first
   | (refine wBox rfl 105 (.tmp 0) rfl tv rfl ?_; intro w1 g hb1 hx1 hg)
   | (refine wLdB rfl 105 (.tmp 1) rfl _ rfl hb1 _ Tryz.underlying105 rfl 17 sizeTbl hts.out ?_)
   | (go_at_call 152; (with_reducible refine (HT.out _).mono ?_); rintro e w2 ⟨rfl, hx2⟩; have hc16 := hlast.out _ _ (hb1.ext hx2)))
  go_ret
  exact ⟨rfl, hx1.trans hx2⟩
theorem seenF_upd (xs : List Int) (k : Nat) (hk : k < xs.length) : seenF (xs.take (k + 1)) xs[k] = some (.bool true) := by
 unfold seenF
 rw [if_pos (by rw [List.take_succ_eq_append_getElem hk]; exact List.mem_append_right _ (by simp))]
theorem seenF_other (xs : List Int) (k : Nat) (hk : k < xs.length) (j : Int) (hj : j ≠ xs[k]) : seenF (xs.take (k + 1)) j = seenF (xs.take k) j := by
 unfold seenF
 have : j ∈ xs.take (k + 1) ↔ j ∈ xs.take k := by rw [List.take_succ_eq_append_getElem hk, List.mem_append]; simp [hj]
 by_cases h : j ∈ xs.take k
 ·rw [if_pos h, if_pos (this.2 h)]
 ·rw [if_neg h, if_neg (fun h2 => h (this.1 h2))]
set_option maxRecDepth 20000 in
set_option maxHeartbeats 1000000 in
theorem check_in (cs xs : List Int) (sl : Value) (w : World) (hl : cs.length = 16) (hs : SL w 1 sl xs.length (ints xs)) (h : totOK cs xs = true) :
 Calls Tryz.prog 137 #[.agg (tblv cs sl)] w fun e w' => e = .returned (.int .i64 (checkZ cs xs)) ∧ Ext w w' := by
 have HT := hid_ (fun W => total_any cs sl W hl)
 have hlast := hid_ (fun W g (h : Blk W g 105 (tblv cs sl)) => tblv_last h hl)
 have hts := hid_ (tblv_size cs sl hl)
 have HRG := hid_ (fun W g (h : Blk W g 105 (tblv cs sl)) => tblv_range h)
 have hcl := hid_ ((ints_len cs).trans hl)
 have HIX := hid_ (fun k (hk : k < cs.length) (h16 : k < 16) => fun W => run_index16 (ints cs).toArray k (.int .i64 cs[k]) h16 (bv_at cs k hk) W)
 obtain ⟨q1, q2, q3⟩ := totOK_iff.1 h
 have HZ1 := hid_ (fun h2 => checkZ_arg h h2)
 have HZ2 := hid_ (fun h2 h3 => checkZ_dup h h2 h3)
 have HZ3 := hid_ (fun h2 h3 => checkZ_words h h2 h3)
 have HT1 : Hid (totalZ cs = ((xs.length : Int), true)) := hid_ (by unfold totalZ; rw [q1, q3]; simp; omega)
 rw [HT1.out] at HT
 have hlen : xs.length ≤ 256 := by omega
 have HAL := hid_ (allIn_iff.1 q1)
 have HL := hid_ hl
 have hneq : ((xs.length : Int) != (xs.length : Int)) = false := by simp
 have hmm := @run_makeMap Tryz.prog
 have hs' := hs
 obtain ⟨A, c, rfl, hc1, hc2, -, -⟩ := hs'
 generalize tblv cs (.slice A xs.length c) = tv at *
 clear h q1 q2 q3
 go_enter Tryz.func137, Tryz.ntmps137
 go_wp2_with (first
  | (refine wBox rfl 105 (.tmp 0) rfl tv rfl ?_; intro w1 g hb1 hx1 hg)
  | (refine wLdB rfl 105 (.tmp 1) rfl _ rfl hb1 _ Tryz.underlying105 rfl 17 sizeTbl hts.out ?_)
  | (go_at_call 152; (with_reducible refine (HT.out _).mono ?_); rintro e w2 ⟨rfl, hx2⟩; have hc16 := hlast.out _ _ (hb1.ext hx2); have hc16b := hlast.out _ _ ((hb1.ext hx2).alloc (.map #[] 0))))
 have hb2 := hb1.ext hx2
 have hxm := hx1.trans hx2
 have hgm := hxm.size
 have hne := hb2.lt
 clear hmm hb1 hx1 hx2 hc16 hc16b
 go_loopw [6, 30] (fun tw i wr => ∃ (k : Nat) (tb : Bool), k ≤ xs.length ∧ i = .int .i64 (k : Int) ∧ tw = .bool tb ∧ tb = (!decide (xs.take k).Nodup) ∧ (∀ z ∈ xs.take k, 0 ≤ z ∧ z ≤ 255) ∧ MapI Tryz.prog 3 wr w2.heap.size k (seenF (xs.take k)) ∧ Blk wr g 105 tv ∧ Ext w wr) (fun _ i _ => xs.length - (intOf i).toNat)
 case atStart => exact ⟨0, false, by omega, rfl, rfl, by simp, by simp, MapG.made _, hb2.alloc _, hxm.alloc _⟩
 case round =>
  clear hb2 hxm
  obtain ⟨k, tb, hk, rfl, rfl, htb, hin, hm, hb, hx⟩ := hrel
  have HTB := hid_ htb
  have HIN := hid_ hin
  clear htb hin
  by_cases hlt : k < xs.length
  ·obtain ⟨ad, u, rfl, -, hxk, hcell⟩ := (hs.ext hx).at1 hlt
   obtain ⟨hkl, rfl⟩ := ints_at _ _ _ hxk
   clear hxk
   cases hq : inB xs[k] 0 255 with
   | true =>
     obtain ⟨q1, q2⟩ := inB_iff.1 hq
     have h0' : decide (xs[k] < 0) = false := by simpa using q1
     have h1' : decide (256 ≤ xs[k]) = false := by simp; omega
     have HN := hid_ (allIn_take HIN.out hkl ⟨q1, q2⟩)
     have HND := hid_ (nodup_take_succ hkl)
     have HU := hid_ (seenF_upd xs k hkl)
     have HO := hid_ (seenF_other xs k hkl)
     have HLK := hid_ (seenF_look (xs.take k) xs[k])
     have hkey := hid_ (keyOf_i64 (P := Tryz.prog) Tryz.underlying3 (a := xs[k]) (by omega) (by omega))
     generalize xs[k] = x at *
     clear hq
     cases tb with
     | true =>
       go_wp2_with (at_mapUpdate; refine wpList_upd_g (by rfl) _ _ _ 182 4 rfl keyed_int Tryz.underlying182 rfl hm (by omega) _ rfl _ rfl x hkey.out (seenF (xs.take (k + 1))) HU.out (fun j _ hj => HO.out j (fun e => hj (by rw [e]))) (fun j _ hj => by injection hj) ?_; intro w7 hm7 hg7)
       go_roundw
       case rel =>
        exact ⟨k + 1, true, by omega, by go_num, rfl, by have h1 := HTB.out; have h2 := HND.out; simp at h1 ⊢; rw [h2]; simp [h1], HN.out, hm7, hb.grown hg7 (by simp; omega), ext_grown_new hx hg7 (by omega)⟩
       case measure => simp [intOf]; omega
     | false =>
       go_wp2_with (first
        | (at_lookup; refine wpList_look_g (by rfl) _ _ 182 4 rfl keyed_int Tryz.underlying182 _ (zero_bool _) rfl hm _ rfl x trivial hkey.out _ HLK.out ?_)
        | (at_mapUpdate; refine wpList_upd_g (by rfl) _ _ _ 182 4 rfl keyed_int Tryz.underlying182 rfl hm (by omega) _ rfl _ rfl x hkey.out (seenF (xs.take (k + 1))) HU.out (fun j _ hj => HO.out j (fun e => hj (by rw [e]))) (fun j _ hj => by injection hj) ?_; intro w7 hm7 hg7))
       go_roundw
       case rel =>
        exact ⟨k + 1, decide (x ∈ xs.take k), by omega, by go_num, rfl, by have h1 := HTB.out; have h2 := HND.out; simp at h1; by_cases hm : x ∈ xs.take k <;> simp [h2, h1, hm], HN.out, hm7, hb.grown hg7 (by simp; omega), ext_grown_new hx hg7 (by omega)⟩
       case measure => simp [intOf]; omega
   | false =>
     have HF := hid_ (HZ1.out (allIn_no hkl hq))
     rcases Int.lt_or_le xs[k] 0 with h0 | h0
     ·have h0' : decide (xs[k] < 0) = true := by simpa using h0
      clear hq
      go_wp2_with fail
      go_ret
      exact ⟨by rw [HF.out]; rfl, hx⟩
     ·have h0' : decide (xs[k] < 0) = false := by simpa using h0
      have h1' : decide (256 ≤ xs[k]) = true := by have := inB_not.1 hq; simp; omega
      clear hq
      go_wp2_with fail
      go_ret
      exact ⟨by rw [HF.out]; rfl, hx⟩
  ·have hkx : k = xs.length := by omega
   have e1 : xs.take k = xs := List.take_of_length_le (by omega)
   rw [e1] at HTB HIN
   have HA := hid_ (allIn_iff.2 HIN.out)
   clear e1 hm
   go_wp2_with (refine wpList_load_mid rfl 103 (.tmp 49) rfl g 0 rfl (ints cs) _ (HRG.out _ _ hb) Tryz.underlying103 rfl (by rw [hcl.out]; exact size16) ?_)
   go_loop [9, 51] (fun nx i => ∃ k : Nat, k ≤ 16 ∧ i = .int .i64 (k : Int) ∧ nx = .int .i64 (nextW cs k : Nat) ∧ nextW cs k + 1 ≤ 2 ^ k ∧ (∀ j, j < k → nextW cs (j + 1) + 1 ≤ 2 ^ (j + 1)) ∧ (0 < k → tb = false)) (fun _ i => 16 - (intOf i).toNat)
   case atStart => exact ⟨0, by omega, rfl, rfl, by simp [nextW], by intro j hj; omega, by omega⟩
   case round =>
    obtain ⟨k, hk, rfl, rfl, hnx, hall, htw⟩ := hrel
    have HALL := hid_ hall
    have HTW := hid_ htw
    clear hall htw
    by_cases hlt2 : k < 16
    ·have hkl : k < cs.length := by have := HL.out; omega
     have hix := HIX.out k hkl hlt2
     obtain ⟨q1, q2⟩ := HAL.out _ (List.getElem_mem hkl)
     obtain ⟨n, hn⟩ : ∃ n : Nat, cs[k] = (n : Int) := ⟨cs[k].toNat, by omega⟩
     have HNW := hid_ (nextW_succ cs k n hkl hn)
     have HNO := hid_ (fun h => okW_no (cs := cs) hlt2 h)
     rw [hn] at hix q1 q2
     have hp : (2 : Nat) ^ k ≤ 65536 := by have := Nat.pow_le_pow_right (n := 2) (by omega) (show k ≤ 16 by omega); simpa using this
     have HP : Hid (2 ^ (k + 1) = 2 * 2 ^ k) := hid_ (by rw [Nat.pow_succ]; omega)
     rw [HNW.out, HP.out] at HNO
     have hp1 : (1 : Int) ≤ 2 ^ (k + 1) := pow_pos' (k + 1)
     have hp2 : (2 : Int) ^ (k + 1) ≤ 131072 := by have := pow_le (k + 1) 17 (by omega); simpa using this
     have HPI : Hid ((2 : Int) ^ (k + 1) = ((2 * 2 ^ k : Nat) : Int)) := hid_ (by rw [← HP.out]; simp)
     clear hn
     cases tb with
     | true =>
       have HF := hid_ (HZ2.out HA.out (by have := HTB.out; simpa using this))
       go_wp2_with fail
       go_ret
       exact ⟨by rw [HF.out]; rfl, hx⟩
     | false =>
       generalize nextW cs k = N at *
       by_cases hbad : 2 * N + n + 1 ≤ 2 * 2 ^ k
       ·have hd : decide ((2 : Int) ^ (k + 1) - 1 < (N : Int) * 2 + (n : Int)) = false := by have := HPI.out; simp; omega
        go_wp2_with fail
        go_round
        case rel =>
         refine ⟨k + 1, by omega, by go_num, by rw [HNW.out]; congr 1; omega, by rw [HNW.out, HP.out]; omega, ?_, by simp⟩
         intro i hi
         by_cases hik : i = k
         ·subst hik; rw [HNW.out, HP.out]; omega
         ·exact HALL.out i (by omega)
        case measure => simp [intOf]; omega
       ·have hd : decide ((2 : Int) ^ (k + 1) - 1 < (N : Int) * 2 + (n : Int)) = true := by have := HPI.out; simp; omega
        have HF := hid_ (HZ3.out HA.out (by have := HTB.out; simpa using this))
        have HNO' := hid_ (HNO.out (by omega))
        go_wp2_with fail
        go_ret
        exact ⟨by rw [HF.out, HNO'.out]; rfl, hx⟩
    ·obtain rfl : k = 16 := by omega
     obtain rfl := HTW.out (by omega)
     have HF := hid_ (HZ3.out HA.out (by have := HTB.out; simpa using this))
     have HOK := hid_ (okW_yes HALL.out)
     go_wp2_with fail
     go_ret
     exact ⟨by rw [HF.out, HOK.out]; rfl, hx⟩
theorem check_any (cs xs : List Int) (sl : Value) (w : World) (hl : cs.length = 16) (hs : SL w 1 sl xs.length (ints xs)) :
 Calls Tryz.prog 137 #[.agg (tblv cs sl)] w fun e w' => e = .returned (.int .i64 (checkZ cs xs)) ∧ Ext w w' := by
 cases h : totOK cs xs with
 | true => exact check_in cs xs sl w hl hs h
 | false => rw [checkZ_tot h]; exact check_tot cs xs sl w hl hs h
end
end Go.Proofs.YtlhggcbpipmjhaaGreatDoor
