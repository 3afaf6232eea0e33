/- Contracts for the law RescueHurtsCard, part 2: what the functions that it reaches answer, for all arguments that the theorems name. -/
import Derived.Maps.AppendAt
import Derived.Test.YtkggcjdlpendfaaGreatDoorMRescueHurtsCard1
import Derived.Outline
import Derived.WideKeyPair
import Derived.IntWalk
import Derived.Lib.BitFns
import Derived.Lib.ItoaNum
import Derived.Shelf.Small.Bits
import Derived.Shelf.Strconv.Itoa0
import Derived.Shelf.Strings.Search1
import Derived.Shelf.Strings.Search2
import Derived.Shelf.Strings.Search3
import Derived.Shelf.LaysM
import Derived.Shelf.Strings.Shaped
import Derived.Shelf.Strings.Prefix
import Derived.Shelf.Bytes.SlIndexSmall
import Derived.Ground.SlbNamesProg
import Derived.Shelf.Bytes.SlCountOne
import Derived.Shelf.Bytes.SlIndexAt
import Derived.Shelf.Bytes.SlSearch0
import Derived.Shelf.Bytes.SlSearch1
import Derived.Shelf.Bytes.SlSearch2
import Derived.Shelf.Bytes.SlIndexWhole
import Derived.Shelf.Bytes.SlCountWhole
import Derived.Shelf.Bytes.Small
import Derived.Shelf.Bytes.IndexByte
import Derived.Test.YtkggcjdlpendfaaGreatDoorProg
import Derived.WalkKit
namespace Go.Proofs.YtkggcjdlpendfaaGreatDoor
set_option linter.unusedVariables false
set_option linter.unusedSimpArgs false
open Go.RowKit
section
variable {P : Program} (w : World)
theorem run_append_of_nil (base : Nat) (t ty e : TypeId) (i : TypeInfo) (size : Nat) (ht : P.underlying t = some (.slice e)) (hi : P.info? e = some i)
 (v : Value) (n : Nat) (xs : List Value) (hown : w.ownsRow base e size v n xs) (c : Nat) : (Builtin.append_ #[t, t] ty #[v, .slice none 0 c]).run P w = .ok v w := by
 rcases hown.2 with ⟨rfl, rfl⟩ | ⟨g, cap, cur, rfl, _, _, hnc, _⟩
 ·simp [Builtin.append_, run_underlying ht, sizeOf, typeInfo, hi, Builtin.lenOf, Builtin.firstCells]
 ·simp [Builtin.append_, run_underlying ht, sizeOf, typeInfo, hi, Builtin.lenOf, Builtin.firstCells, hnc, storeCells]
theorem run_append_sl (base : Nat) (t ty e : TypeId) (i : TypeInfo) (z : Value) (size bytes : Nat) (ht : P.underlying t = some (.slice e)) (hi : P.info? e = some i) (hz : i.zero = some z)
 (hsize : i.size = size) (hby : i.bytes = bytes) (hzs : z.cells.size = size) (hsz : 0 < size)
 (v : Value) (n : Nat) (xs : List Value) (hown : w.ownsRow base e size v n xs)
 (x : Value) (m : Nat) (news : List Value) (hr : SL w size x m news) (h1 : ∀ u ∈ news, u.oneCell' = true)
 (h63 : n + m ≤ maxLen) (hbytes : (n + m) * bytes ≤ 140737488355328) (hbase : base ≤ w.heap.size) :
 ∃ v' w', (Builtin.append_ #[t, t] ty #[v, x]).run P w = .ok v' w' ∧ w'.ownsRow base e size v' (n + m) (xs ++ news) ∧ w.grownBy w' v.ownBlock ∧
  (v'.ownBlock = v.ownBlock ∨ v'.ownBlock = some w.heap.size) := by
 obtain ⟨A, c, rfl, -, -, hl, hc⟩ := hr
 rcases A with _ | ad
 ·have hm : m = 0 := by
   rcases Nat.eq_zero_or_pos m with h0 | h0
   ·exact h0
   ·obtain ⟨ad, h, _⟩ := hc h0
    cases h
  subst hm
  have hn : news = [] := List.eq_nil_of_length_eq_zero (by simpa using hl)
  subst hn
  exact ⟨v, w, run_append_of_nil w base t ty e i size ht hi v n xs hown c, by simpa using hown, World.grownBy.refl w _, .inl rfl⟩
 ·have hcells : ∀ j u, news[j]? = some u → w.cell? (ad.add j) = some u := by
   intro j u hu
   rcases Nat.eq_zero_or_pos m with h0 | h0
   ·subst h0
    have hn : news = [] := List.eq_nil_of_length_eq_zero (by simpa using hl)
    subst hn
    simp at hu
   ·obtain ⟨ad', h, _, hcc⟩ := hc h0
    injection h with h
    subst h
    exact hcc j u hu
  obtain ⟨v', w', hrun, h2, h3, _, h5⟩ := run_append_own_at (P := P) w base t ty e i z size bytes ht hi hz hsize hby hzs hsz v n xs hown ad m c news hl hcells h1 h63 hbytes hbase
  exact ⟨v', w', hrun, h2, h3, h5⟩
theorem wp_append_sl {o : Oper} {a : Act} {K : Act → World → Prop} {Q : Exit → Act → World → Prop} (s x : Operand) (t : TypeId)
 (ho : o.op = .call { callee := .builtin .append, args := #[s, x], argTypes := #[t, t] })
 (base : Nat) (e : TypeId) (i : TypeInfo) (z : Value) (size bytes : Nat) (ht : P.underlying t = some (.slice e)) (hi : P.info? e = some i) (hz : i.zero = some z)
 (hsize : i.size = size) (hby : i.bytes = bytes) (hzs : z.cells.size = size) (hsz : 0 < size)
 (v : Value) (n : Nat) (xs : List Value) (hs : a.eval s = v) (hown : w.ownsRow base e size v n xs)
 (u : Value) (m : Nat) (news : List Value) (hx : a.eval x = u) (hr : SL w size u m news) (h1 : ∀ u ∈ news, u.oneCell' = true)
 (h63 : n + m ≤ maxLen) (hbytes : (n + m) * bytes ≤ 140737488355328) (hbase : base ≤ w.heap.size)
 (h : ∀ v' w', w'.ownsRow base e size v' (n + m) (xs ++ news) → w.grownBy w' v.ownBlock → (v'.ownBlock = v.ownBlock ∨ v'.ownBlock = some w.heap.size) → K (a.put o.dst v') w') : o.wp P a w K Q := by
 obtain ⟨v', w', hrun, h2, h3, h4⟩ := run_append_sl (P := P) w base t o.type e i z size bytes ht hi hz hsize hby hzs hsz v n xs hown u m news hr h1 h63 hbytes hbase
 unfold Oper.wp execOp
 simp only [ho, resolve, invoke, builtin, Sem.run_bind, Sem.run_pure, Result.andThen_ok, List.map_toArray, List.map_cons, List.map_nil, hs, hx, hrun]
 exact h v' w' h2 h3 h4
structure Elt (P : Program) (t e : TypeId) (size bytes : Nat) : Prop where
 ht : P.underlying t = some (.slice e)
 hi : (P.info? e).map (fun i => (i.zero.map fun z => z.cells.size, i.size, i.bytes)) = some (some size, size, bytes)
 hsz : 0 < size
variable {w}
theorem wpList_append_sl {ops : Array Oper} {rest : List Oper} {o : Oper} {a : Act} {Q : Exit → Act → World → Prop} {t e : TypeId} {size bytes : Nat} (he : Elt P t e size bytes) (hgd : o.guard = none) (s x : Operand)
 (ho : o.op = .call { callee := .builtin .append, args := #[s, x], argTypes := #[t, t] })
 (base : Nat) (v : Value) (n : Nat) (xs : List Value) (hs : a.eval s = v) (hown : w.ownsRow base e size v n xs)
 (u : Value) (m : Nat) (news : List Value) (hx : a.eval x = u) (hr : SL w size u m news) (h1 : ∀ u ∈ news, u.oneCell' = true)
 (h63 : n + m ≤ 9223372036854775807) (hbytes : (n + m) * bytes ≤ 140737488355328) (hbase : base ≤ w.heap.size)
 (h : ∀ v' w', w'.ownsRow base e size v' (n + m) (xs ++ news) → Below base w w' → wpList P ops Q rest (a.put o.dst v') w') : wpList P ops Q (o :: rest) a w := by
 obtain ⟨ht, hi, hsz⟩ := he
 cases hq : P.info? e with
 | none => simp [hq] at hi
 | some i =>
   cases hzq : i.zero with
   | none => simp [hq, hzq] at hi
   | some z =>
     have hi' : z.cells.size = size ∧ i.size = size ∧ i.bytes = bytes := by simpa [hq, hzq] using hi
     refine wpList_plain hgd fun _ hK => wp_append_sl w s x t ho base e i z size bytes ht hq hzq hi'.2.1 hi'.2.2 hi'.1 hsz v n xs hs hown u m news hx hr h1 (by unfold maxLen; omega) hbytes hbase fun v' w' h2 h3 h4 => hK _ _ (h v' w' h2 ?_)
     exact (Below.refl base w).grown h3 hbase (fun k hk => ((hown.lt k hk).1))
theorem wpList_append_slr {ops : Array Oper} {rest : List Oper} {o : Oper} {a : Act} {Q : Exit → Act → World → Prop} {t e : TypeId} {size bytes : Nat} (he : Elt P t e size bytes) (hgd : o.guard = none) (s x : Operand)
 (ho : o.op = .call { callee := .builtin .append, args := #[s, x], argTypes := #[t, t] })
 (base : Nat) (v : Value) (n : Nat) (xs : List Value) (hs : a.eval s = v) (hown : w.ownsRow base e size v n xs)
 (u : Value) (m : Nat) (news : List Value) (hx : a.eval x = u) (hr : SL w size u m news) (h1 : ∀ u ∈ news, u.oneCell' = true)
 (h63 : n + m ≤ 9223372036854775807) (hbytes : (n + m) * bytes ≤ 140737488355328) (hbase : base ≤ w.heap.size)
 (h : ∀ v' w', w'.ownsRow base e size v' (n + m) (xs ++ news) → w.grownBy w' v.ownBlock → (v'.ownBlock = v.ownBlock ∨ v'.ownBlock = some w.heap.size) → wpList P ops Q rest (a.put o.dst v') w') : wpList P ops Q (o :: rest) a w := by
 obtain ⟨ht, hi, hsz⟩ := he
 cases hq : P.info? e with
 | none => simp [hq] at hi
 | some i =>
   cases hzq : i.zero with
   | none => simp [hq, hzq] at hi
   | some z =>
     have hi' : z.cells.size = size ∧ i.size = size ∧ i.bytes = bytes := by simpa [hq, hzq] using hi
     refine wpList_plain hgd fun _ hK => wp_append_sl w s x t ho base e i z size bytes ht hq hzq hi'.2.1 hi'.2.2 hi'.1 hsz v n xs hs hown u m news hx hr h1 (by unfold maxLen; omega) hbytes hbase fun v' w' h2 h3 h4 => hK _ _ (h v' w' h2 h3 h4)
theorem wApf {ops : Array Oper} {rest : List Oper} {o : Oper} {a : Act} {Q : Exit → Act → World → Prop} {t e : TypeId} {size bytes : Nat} (he : Elt P t e size bytes) (hgd : o.guard = none) (s x : Operand)
 (ho : o.op = .call { callee := .builtin .append, args := #[s, x], argTypes := #[t, t] })
 (base : Nat) (v : Value) (n : Nat) (xs : List Value) (hs : a.eval s = v) (hown : w.ownsRow base e size v n xs)
 (u : Value) (m : Nat) (news : List Value) (hx : a.eval x = u) (hr : SL w size u m news) (h1 : ∀ u ∈ news, u.oneCell' = true)
 (h63 : n + m ≤ 9223372036854775807) (hbytes : (n + m) * bytes ≤ 140737488355328) (hbase : base ≤ w.heap.size)
 (h : ∀ A c w', w'.ownsRow base e size (.slice A (n + m) c) (n + m) (xs ++ news) → w.grownBy w' v.ownBlock → (A.map (·.block) = v.ownBlock ∨ A.map (·.block) = some w.heap.size) → wpList P ops Q rest (a.put o.dst (.slice A (n + m) c)) w') : wpList P ops Q (o :: rest) a w :=
 wpList_append_slr he hgd s x ho base v n xs hs hown u m news hx hr h1 h63 hbytes hbase fun v' w' h2 h3 h4 => by
  have h2' := h2.2
  rcases h2' with ⟨rfl, h0⟩ | ⟨g, cap, cur, rfl, _⟩
  ·have hz : n + m = 0 ∨ ¬ n + m = 0 := by omega
   have hl := h2.1
   rw [h0] at hl
   have h5 : n + m = 0 := by
    have := he.hsz
    rcases Nat.eq_zero_or_pos (n + m) with h6 | h6
    ·exact h6
    ·have := Nat.mul_pos h6 this
     simp at hl
     omega
   have key := h none 0 w'
   rw [h5] at key
   rw [h5] at h2
   exact key h2 h3 (by simpa [Value.ownBlock] using h4)
  ·exact h _ _ w' h2 h3 (by simpa [Value.ownBlock] using h4)
end
theorem own_sl {w : World} {base : Nat} {e : TypeId} {size n : Nat} {v : Value} {xs : List Value} (h : w.ownsRow base e size v n xs) : SL w size v n xs := by
 obtain ⟨hl, hh⟩ := h
 rcases hh with ⟨rfl, rfl⟩ | ⟨g, cap, cur, rfl, hb, hg, hn, hm, hc, hx⟩
 ·have : xs = [] := List.eq_nil_of_length_eq_zero (by simpa using hl)
  subst this
  exact SL.nil w size
 ·refine ⟨_, _, rfl, hn, by unfold maxLen at hm; omega, hl, fun _ => ⟨_, rfl, Blk.lt (w := w) (t := e) (cs := cur) hg, fun j u hu => ?_⟩⟩
  have hj : j < xs.length := (List.getElem?_eq_some_iff.1 hu).1
  have e1 : (⟨g, 0, none⟩ : Addr).add j = ⟨g, j, none⟩ := by
   unfold Addr.add
   by_cases h0 : j = 0
   ·subst h0; rfl
   ·rw [if_neg h0]; simp
  rw [e1, cell_of_row w g j cur e (0, 0) hg, ← hu, ← hx, List.getElem?_take_of_lt (by omega)]
  simp
theorem Ext.trans' {a w w' : World} (h : Ext a w) (k : Below a.heap.size w w') : Ext a w' := Below.trans h k
theorem int_one (z : Int) : ∀ u ∈ [Value.int .i64 z], u.oneCell' = true := by
 intro u hu
 simp at hu
 subst hu
 rfl
theorem one_sl (w : World) (T : TypeId) (v : Value) : SL (w.alloc (.cells #[v] T)) 1 (.slice (some ⟨w.heap.size, 0, none⟩) 1 1) 1 [v] := by
 have := (Blk.new w T #[v]).sl (size := 1) (n := 1) (c := 1) rfl (by omega) (by omega)
 simpa using this
theorem own_form {w : World} {base : Nat} {e : TypeId} {size n : Nat} {v : Value} {xs : List Value} (h : w.ownsRow base e size v n xs) : ∃ A c, v = .slice A n c ∧ SL w size (.slice A n c) n xs ∧ ∀ ad, A = some ad → base ≤ ad.block := by
 have hs := own_sl h
 obtain ⟨hl, hh⟩ := h
 rcases hh with ⟨rfl, rfl⟩ | ⟨g, cap, cur, rfl, hb, hg, hn, hm, hc, hx⟩
 ·exact ⟨none, 0, rfl, hs, by intro ad h; cases h⟩
 ·exact ⟨some ⟨g, 0, none⟩, cap, rfl, hs, by intro ad h; injection h with h; subst h; exact hb⟩
theorem pow_le (k m : Nat) (h : k ≤ m) : (2 : Int) ^ k ≤ 2 ^ m := by
 have := Nat.pow_le_pow_right (n := 2) (by omega) h
 exact_mod_cast this
theorem pow_pos' (k : Nat) : (1 : Int) ≤ 2 ^ k := by
 have := Nat.two_pow_pos k
 exact_mod_cast this
theorem power_any (k : Nat) (w : World) (hk : k ≤ 62) : Calls Tryz.prog 128 #[.int .i64 k] w fun e w' => e = .returned (.int .i64 (2 ^ k)) ∧ w = w' := by
 have h1 := pow_le k 62 hk
 have h2 := pow_pos' k
 have h3 : (2 : Int) ^ 62 = 4611686018427387904 := by decide
 rw [h3] at h1
 clear h3
 go_enter Tryz.func128, Tryz.ntmps128
 go_wp2
 go_ret
 exact ⟨rfl, rfl⟩
def strs (L : List ByteArray) : List Value := L.map Value.string
def nextW (cs : List Int) : Nat → Nat
 | 0 => 0
 | k + 1 => 2 * nextW cs k + (cs.getD k 0).toNat
def rowW (cs : List Int) (k j : Nat) : List ByteArray := (List.range j).map fun i => binS (2 * nextW cs k + i) (k + 1)
def outW (cs : List Int) : Nat → List ByteArray
 | 0 => []
 | k + 1 => outW cs k ++ rowW cs k (cs.getD k 0).toNat
def okW (cs : List Int) : Bool := (List.range 16).all fun k => decide (nextW cs (k + 1) + 1 ≤ 2 ^ (k + 1))
theorem okW_no {cs : List Int} {k : Nat} (hk : k < 16) (h : 2 ^ (k + 1) < nextW cs (k + 1) + 1) : okW cs = false := by
 rw [← Bool.not_eq_true]
 intro h2
 have := List.all_eq_true.1 h2 k (List.mem_range.2 hk)
 simp only [decide_eq_true_eq] at this
 omega
theorem rowW_succ (cs : List Int) (k j : Nat) : rowW cs k (j + 1) = rowW cs k j ++ [binS (2 * nextW cs k + j) (k + 1)] := by
 unfold rowW
 rw [List.range_succ, List.map_append]
 rfl
theorem elt_str : Elt Tryz.prog 166 9 1 16 := ⟨Tryz.underlying166, by kernel_rfl, by omega⟩
theorem own_str {w : World} {base : Nat} {e : TypeId} {v : Value} {L : List ByteArray} {b : ByteArray} (h : w.ownsRow base e 1 v (L.length + 1) (strs L ++ [.string b])) : w.ownsRow base e 1 v (L ++ [b]).length (strs (L ++ [b])) := by
 simpa [strs] using h
theorem str_one (b : ByteArray) : ∀ u ∈ [Value.string b], u.oneCell' = true := by
 intro u hu
 simp at hu
 subst hu
 rfl
set_option maxRecDepth 20000 in
set_option maxHeartbeats 1000000 in
theorem wordsOf_yes (cs : List Int) (sl : Value) (w : World) (hl : cs.length = 16) (hal : allIn cs 0 256 = true) (hok : okW cs = true) :
 Calls Tryz.prog 130 #[.agg (tblv cs sl)] w fun e w' => ∃ A c, e = .returned (.tuple #[.slice A (outW cs 16).length c, .bool true]) ∧ SL w' 1 (.slice A (outW cs 16).length c) (outW cs 16).length (strs (outW cs 16)) ∧ Ext w w' := by
 have HOKT := hid_ hok
 clear hok
 have HL := hid_ hl
 have HAL := hid_ (allIn_iff.1 hal)
 have HRG := hid_ (fun W g (h : Blk W g 42 (tblv cs sl)) => tblv_range h)
 have hcl := hid_ ((ints_len cs).trans hl)
 have HIX := hid_ (fun k (hk : k < cs.length) (h16 : k < 16) => fun W => run_index16 (ints cs).toArray k (.int .i64 cs[k]) h16 (bv_at cs k hk) W)
 clear hal
 generalize tblv cs sl = tv at *
 go_enter Tryz.func130, Tryz.ntmps130
 go_wp2_with (first
  | (refine wBox rfl 42 (.tmp 0) rfl tv rfl ?_; intro w1 g hb1 hx1 hg)
  | (refine wpList_load_mid rfl 40 (.tmp 8) rfl g 0 rfl (ints cs) _ (HRG.out _ _ hb1) Tryz.underlying40 rfl (by rw [hcl.out]; exact size16) ?_))
 go_loopw [4, 5, 10] (fun v nx i wr => ∃ k : Nat, k ≤ 16 ∧ i = .int .i64 (k : Int) ∧ nx = .int .i64 (nextW cs k : Nat) ∧ nextW cs k + 1 ≤ 2 ^ k ∧ (outW cs k).length ≤ 256 * k ∧ (∀ j, j < k → nextW cs (j + 1) + 1 ≤ 2 ^ (j + 1)) ∧ wr.ownsRow w.heap.size 9 1 v (outW cs k).length (strs (outW cs k)) ∧ Ext w wr) (fun _ _ i _ => 16 - (intOf i).toNat)
 case atStart => exact ⟨0, by omega, rfl, rfl, by simp [nextW], by simp [outW], by intro j hj; omega, World.ownsRow_nil _ _ _ _, hx1⟩
 case round =>
  clear hx1
  obtain ⟨k, hk, rfl, rfl, hnx, hol, hall, hown, hx⟩ := hrel
  by_cases hlt : k < 16
  ·have hsd : decide ((k : Int) < 16) = true := by simp; omega
   have hkl : k < cs.length := by have := HL.out; omega
   have hix := HIX.out k hkl hlt
   obtain ⟨q1, q2⟩ := HAL.out _ (List.getElem_mem hkl)
   have HG : Hid (cs.getD k 0 = cs[k]) := hid_ (by simp [hkl])
   obtain ⟨n, hn⟩ : ∃ n : Nat, cs[k] = (n : Int) := ⟨cs[k].toNat, by omega⟩
   rw [hn] at hix q1 q2 HG
   have HNW : Hid (nextW cs (k + 1) = 2 * nextW cs k + n) := hid_ (by show 2 * nextW cs k + (cs.getD k 0).toNat = _; rw [HG.out]; simp)
   have HOW : Hid (outW cs (k + 1) = outW cs k ++ rowW cs k n) := hid_ (by show outW cs k ++ rowW cs k (cs.getD k 0).toNat = _; rw [HG.out]; simp)
   have HRS := hid_ (rowW_succ cs k)
   have HR0 : Hid (rowW cs k 0 = []) := hid_ rfl
   have HRL : Hid (∀ j, (rowW cs k j).length = j) := hid_ (fun j => by simp [rowW])
   have HALL := hid_ hall
   have hp : (2 : Nat) ^ k ≤ 65536 := by have := Nat.pow_le_pow_right (n := 2) (by omega) hk; simpa using this
   have HP : Hid (2 ^ (k + 1) = 2 * 2 ^ k) := hid_ (by rw [Nat.pow_succ]; omega)
   have HOK := hid_ (fun (h : 2 ^ (k + 1) < nextW cs (k + 1) + 1) => okW_no hlt h)
   have HPA : Hid (∀ W, Calls Tryz.prog 128 #[.int .i64 ((k : Int) + 1)] W fun e w' => e = .returned (.int .i64 (((2 ^ (k + 1) : Nat)) : Int)) ∧ W = w') := hid_ (fun W => by
    have := power_any (k + 1) W (by omega)
    simpa using this)
   rw [HP.out] at HPA HOK
   rw [HNW.out] at HOK
   have HBA := hid_ (fun m W (hm : m ≤ 1000000000) => binary_any (k + 1) m W (by omega) hm)
   generalize hN : nextW cs k = N at *
   generalize hPw : (2 : Nat) ^ k = Pw at *
   clear hn hN hall hkl
   go_wp2_with fail
   go_loopw [4, 5, 17] (fun v nx i wr => ∃ j : Nat, j ≤ n ∧ i = .int .i64 (j : Int) ∧ nx = .int .i64 ((2 * N + j : Nat) : Int) ∧ 2 * N + j + 1 ≤ 2 * Pw ∧ wr.ownsRow w.heap.size 9 1 v (outW cs k ++ rowW cs k j).length (strs (outW cs k ++ rowW cs k j)) ∧ Ext w wr) (fun _ _ i _ => n - (intOf i).toNat)
   case atStart => exact ⟨0, by omega, rfl, by congr 1; omega, by omega, by rw [HR0.out, List.append_nil]; exact hown, hx⟩
   case round =>
    clear hown hx
    obtain ⟨j, hj, rfl, rfl, hnj, hown, hx⟩ := hrel
    have hlen : (outW cs k ++ rowW cs k j).length = (outW cs k).length + j := by rw [List.length_append, HRL.out]
    by_cases hlj : j < n
    ·by_cases hbad : 2 * N + j + 1 < 2 * Pw
     ·have hbad' : decide (2 * (Pw : Int) - 1 ≤ 2 * (N : Int) + (j : Int)) = false := by simp; omega
      have HBJ : Hid (∀ W, Calls Tryz.prog 134 #[.int .i64 ((k : Int) + 1), .int .i64 (2 * (N : Int) + (j : Int))] W fun e w' => e = .returned (.string (binS (2 * N + j) (k + 1))) ∧ W = w') := hid_ (fun W => by
       have := HBA.out (2 * N + j) W (by omega)
       simpa using this)
      have HRJ := hid_ (HRS.out j)
      generalize binS (2 * N + j) (k + 1) = bs at *
      go_wp2_with (first
       | (go_at_call 128; (with_reducible refine (HPA.out _).mono ?_); rintro e w' ⟨rfl, rfl⟩)
       | (go_at_call 134; (with_reducible refine (HBJ.out _).mono ?_); rintro e w' ⟨rfl, rfl⟩)
       | (at_builtin; go_must (refine wpList_append_sl elt_str rfl _ _ rfl w.heap.size _ _ _ rfl (hown.alloc _) _ 1 [.string _] rfl (one_sl _ _ _) (str_one _) (by omega) (by omega) (by have := hx.size; simp; omega) ?_); intro v' w7 hown7 hb7))
      go_roundw
      case rel =>
       refine ⟨j + 1, by omega, by go_num, by congr 1, by omega, ?_, (hx.alloc _).trans' hb7⟩
       rw [HRJ.out, ← List.append_assoc]
       exact own_str hown7
      case measure => simp [intOf]; omega
     ·exfalso
      have := HOK.out (by omega)
      rw [HOKT.out] at this
      cases this
    ·obtain rfl : j = n := by omega
     go_wp2_with fail
     go_roundw
     case rel =>
      refine ⟨k + 1, by omega, by go_num, by rw [HNW.out], by rw [HNW.out, HP.out]; omega, by rw [HOW.out, hlen]; omega, ?_, by rw [HOW.out]; exact hown, hx⟩
      intro i hi
      by_cases hik : i = k
      ·subst hik; rw [HNW.out, HP.out]; omega
      ·exact HALL.out i (by omega)
     case measure => simp [intOf]; omega
  ·have ek : k = 16 := by omega
   rw [ek] at hown
   clear hall
   go_wp2_with fail
   go_ret2
   obtain ⟨A, c, rfl, hsl, hfs⟩ := own_form hown
   exact ⟨A, c, rfl, hsl, hx⟩
set_option maxRecDepth 20000 in
set_option maxHeartbeats 1000000 in
theorem wordsOf_no (cs : List Int) (sl : Value) (w : World) (hl : cs.length = 16) (hal : allIn cs 0 256 = true) (hok : okW cs = false) :
 Calls Tryz.prog 130 #[.agg (tblv cs sl)] w fun e w' => e = .returned (.tuple #[.slice none 0 0, .bool false]) ∧ Ext w w' := by
 have HOKT := hid_ hok
 clear hok
 have HL := hid_ hl
 have HAL := hid_ (allIn_iff.1 hal)
 have HRG := hid_ (fun W g (h : Blk W g 42 (tblv cs sl)) => tblv_range h)
 have hcl := hid_ ((ints_len cs).trans hl)
 have HIX := hid_ (fun k (hk : k < cs.length) (h16 : k < 16) => fun W => run_index16 (ints cs).toArray k (.int .i64 cs[k]) h16 (bv_at cs k hk) W)
 clear hal
 generalize tblv cs sl = tv at *
 go_enter Tryz.func130, Tryz.ntmps130
 go_wp2_with (first
  | (refine wBox rfl 42 (.tmp 0) rfl tv rfl ?_; intro w1 g hb1 hx1 hg)
  | (refine wpList_load_mid rfl 40 (.tmp 8) rfl g 0 rfl (ints cs) _ (HRG.out _ _ hb1) Tryz.underlying40 rfl (by rw [hcl.out]; exact size16) ?_))
 go_loopw [4, 5, 10] (fun v nx i wr => ∃ k : Nat, k ≤ 16 ∧ i = .int .i64 (k : Int) ∧ nx = .int .i64 (nextW cs k : Nat) ∧ nextW cs k + 1 ≤ 2 ^ k ∧ (outW cs k).length ≤ 256 * k ∧ (∀ j, j < k → nextW cs (j + 1) + 1 ≤ 2 ^ (j + 1)) ∧ wr.ownsRow w.heap.size 9 1 v (outW cs k).length (strs (outW cs k)) ∧ Ext w wr) (fun _ _ i _ => 16 - (intOf i).toNat)
 case atStart => exact ⟨0, by omega, rfl, rfl, by simp [nextW], by simp [outW], by intro j hj; omega, World.ownsRow_nil _ _ _ _, hx1⟩
 case round =>
  clear hx1
  obtain ⟨k, hk, rfl, rfl, hnx, hol, hall, hown, hx⟩ := hrel
  by_cases hlt : k < 16
  ·have hsd : decide ((k : Int) < 16) = true := by simp; omega
   have hkl : k < cs.length := by have := HL.out; omega
   have hix := HIX.out k hkl hlt
   obtain ⟨q1, q2⟩ := HAL.out _ (List.getElem_mem hkl)
   have HG : Hid (cs.getD k 0 = cs[k]) := hid_ (by simp [hkl])
   obtain ⟨n, hn⟩ : ∃ n : Nat, cs[k] = (n : Int) := ⟨cs[k].toNat, by omega⟩
   rw [hn] at hix q1 q2 HG
   have HNW : Hid (nextW cs (k + 1) = 2 * nextW cs k + n) := hid_ (by show 2 * nextW cs k + (cs.getD k 0).toNat = _; rw [HG.out]; simp)
   have HOW : Hid (outW cs (k + 1) = outW cs k ++ rowW cs k n) := hid_ (by show outW cs k ++ rowW cs k (cs.getD k 0).toNat = _; rw [HG.out]; simp)
   have HRS := hid_ (rowW_succ cs k)
   have HR0 : Hid (rowW cs k 0 = []) := hid_ rfl
   have HRL : Hid (∀ j, (rowW cs k j).length = j) := hid_ (fun j => by simp [rowW])
   have HALL := hid_ hall
   have hp : (2 : Nat) ^ k ≤ 65536 := by have := Nat.pow_le_pow_right (n := 2) (by omega) hk; simpa using this
   have HP : Hid (2 ^ (k + 1) = 2 * 2 ^ k) := hid_ (by rw [Nat.pow_succ]; omega)
   have HOK := hid_ (fun (h : 2 ^ (k + 1) < nextW cs (k + 1) + 1) => okW_no hlt h)
   have HPA : Hid (∀ W, Calls Tryz.prog 128 #[.int .i64 ((k : Int) + 1)] W fun e w' => e = .returned (.int .i64 (((2 ^ (k + 1) : Nat)) : Int)) ∧ W = w') := hid_ (fun W => by
    have := power_any (k + 1) W (by omega)
    simpa using this)
   rw [HP.out] at HPA HOK
   rw [HNW.out] at HOK
   have HBA := hid_ (fun m W (hm : m ≤ 1000000000) => binary_any (k + 1) m W (by omega) hm)
   generalize hN : nextW cs k = N at *
   generalize hPw : (2 : Nat) ^ k = Pw at *
   clear hn hN hall hkl
   go_wp2_with fail
   go_loopw [4, 5, 17] (fun v nx i wr => ∃ j : Nat, j ≤ n ∧ i = .int .i64 (j : Int) ∧ nx = .int .i64 ((2 * N + j : Nat) : Int) ∧ 2 * N + j + 1 ≤ 2 * Pw ∧ wr.ownsRow w.heap.size 9 1 v (outW cs k ++ rowW cs k j).length (strs (outW cs k ++ rowW cs k j)) ∧ Ext w wr) (fun _ _ i _ => n - (intOf i).toNat)
   case atStart => exact ⟨0, by omega, rfl, by congr 1; omega, by omega, by rw [HR0.out, List.append_nil]; exact hown, hx⟩
   case round =>
    clear hown hx
    obtain ⟨j, hj, rfl, rfl, hnj, hown, hx⟩ := hrel
    have hlen : (outW cs k ++ rowW cs k j).length = (outW cs k).length + j := by rw [List.length_append, HRL.out]
    by_cases hlj : j < n
    ·by_cases hbad : 2 * N + j + 1 < 2 * Pw
     ·have hbad' : decide (2 * (Pw : Int) - 1 ≤ 2 * (N : Int) + (j : Int)) = false := by simp; omega
      have HBJ : Hid (∀ W, Calls Tryz.prog 134 #[.int .i64 ((k : Int) + 1), .int .i64 (2 * (N : Int) + (j : Int))] W fun e w' => e = .returned (.string (binS (2 * N + j) (k + 1))) ∧ W = w') := hid_ (fun W => by
       have := HBA.out (2 * N + j) W (by omega)
       simpa using this)
      have HRJ := hid_ (HRS.out j)
      generalize binS (2 * N + j) (k + 1) = bs at *
      go_wp2_with (first
       | (go_at_call 128; (with_reducible refine (HPA.out _).mono ?_); rintro e w' ⟨rfl, rfl⟩)
       | (go_at_call 134; (with_reducible refine (HBJ.out _).mono ?_); rintro e w' ⟨rfl, rfl⟩)
       | (at_builtin; go_must (refine wpList_append_sl elt_str rfl _ _ rfl w.heap.size _ _ _ rfl (hown.alloc _) _ 1 [.string _] rfl (one_sl _ _ _) (str_one _) (by omega) (by omega) (by have := hx.size; simp; omega) ?_); intro v' w7 hown7 hb7))
      go_roundw
      case rel =>
       refine ⟨j + 1, by omega, by go_num, by congr 1, by omega, ?_, (hx.alloc _).trans' hb7⟩
       rw [HRJ.out, ← List.append_assoc]
       exact own_str hown7
      case measure => simp [intOf]; omega
     ·have hbad' : decide (2 * (Pw : Int) - 1 ≤ 2 * (N : Int) + (j : Int)) = true := by simp; omega
      go_wp2_with (go_at_call 128; (with_reducible refine (HPA.out _).mono ?_); rintro e w' ⟨rfl, rfl⟩)
      go_ret2
      exact ⟨rfl, hx⟩
    ·obtain rfl : j = n := by omega
     go_wp2_with fail
     go_roundw
     case rel =>
      refine ⟨k + 1, by omega, by go_num, by rw [HNW.out], by rw [HNW.out, HP.out]; omega, by rw [HOW.out, hlen]; omega, ?_, by rw [HOW.out]; exact hown, hx⟩
      intro i hi
      by_cases hik : i = k
      ·subst hik; rw [HNW.out, HP.out]; omega
      ·exact HALL.out i (by omega)
     case measure => simp [intOf]; omega
  ·exfalso
   have ek : k = 16 := by omega
   subst ek
   have : okW cs = true := List.all_eq_true.2 fun i hi => by
    have := hall i (by have := List.mem_range.1 hi; omega)
    simpa using this
   rw [HOKT.out] at this
   cases this
def totOK (cs xs : List Int) : Bool := allIn cs 0 256 && decide (sumL cs 16 ≤ 256) && decide (sumL cs 16 = xs.length)
def checkZ (cs xs : List Int) : Int := if totOK cs xs then (if allIn xs 0 255 then (if decide xs.Nodup && okW cs then 0 else 4) else 1) else 4
theorem checkZ_tot {cs xs : List Int} (h : totOK cs xs = false) : checkZ cs xs = 4 := by simp [checkZ, h]
theorem checkZ_arg {cs xs : List Int} (h : totOK cs xs = true) (h2 : allIn xs 0 255 = false) : checkZ cs xs = 1 := by simp [checkZ, h, h2]
theorem checkZ_dup {cs xs : List Int} (h : totOK cs xs = true) (h2 : allIn xs 0 255 = true) (h3 : ¬ xs.Nodup) : checkZ cs xs = 4 := by simp [checkZ, h, h2, h3]
theorem checkZ_words {cs xs : List Int} (h : totOK cs xs = true) (h2 : allIn xs 0 255 = true) (h3 : xs.Nodup) : checkZ cs xs = if okW cs then 0 else 4 := by simp [checkZ, h, h2, h3]
theorem totOK_iff {cs xs : List Int} : totOK cs xs = true ↔ allIn cs 0 256 = true ∧ sumL cs 16 ≤ 256 ∧ sumL cs 16 = xs.length := by simp [totOK, and_assoc]
theorem nodup_take_succ {xs : List Int} {k : Nat} (hk : k < xs.length) : (xs.take (k + 1)).Nodup ↔ (xs.take k).Nodup ∧ xs[k] ∉ xs.take k := by
 rw [List.take_succ_eq_append_getElem hk, List.nodup_append]
 constructor
 ·rintro ⟨a, -, c⟩
  exact ⟨a, fun h => c _ h _ (by simp) rfl⟩
 ·rintro ⟨a, b⟩
  refine ⟨a, by simp, fun x hx y hy => ?_⟩
  simp at hy
  subst hy
  rintro rfl
  exact b hx
theorem okW_yes {cs : List Int} (h : ∀ j, j < 16 → nextW cs (j + 1) + 1 ≤ 2 ^ (j + 1)) : okW cs = true :=
 List.all_eq_true.2 fun i hi => by
  have := h i (List.mem_range.1 hi)
  simpa using this
theorem nextW_succ (cs : List Int) (k n : Nat) (hk : k < cs.length) (h : cs[k] = (n : Int)) : nextW cs (k + 1) = 2 * nextW cs k + n := by
 show 2 * nextW cs k + (cs.getD k 0).toNat = _
 simp [hk, h]
theorem sumL_bd {cs : List Int} (h : allIn cs 0 256 = true) : ∀ k, 0 ≤ sumL cs k ∧ sumL cs k ≤ sumL cs (k + 1) := by
 have key : ∀ l : List Int, (∀ z ∈ l, 0 ≤ z) → 0 ≤ l.sum := by
  intro l
  induction l with
  | nil => simp
  | cons a l ih =>
    intro h
    have := h a (by simp)
    have := ih (fun z hz => h z (by simp [hz]))
    simp; omega
 have h' := allIn_iff.1 h
 intro k
 constructor
 ·exact key _ fun z hz => (h' z (List.mem_of_mem_take hz)).1
 ·rcases Nat.lt_or_ge k cs.length with hk | hk
  ·rw [sumL_succ cs k hk]
   have := h' _ (List.getElem_mem hk)
   omega
  ·unfold sumL
   rw [List.take_of_length_le hk, List.take_of_length_le (by omega)]
   omega
def rowC (cs : List Int) (k j : Nat) : List (Nat × Nat) := (List.range j).map fun i => (k + 1, 2 * nextW cs k + i)
def codesW (cs : List Int) : Nat → List (Nat × Nat)
 | 0 => []
 | k + 1 => codesW cs k ++ rowC cs k (cs.getD k 0).toNat
attribute [irreducible] codesW
def OwnV (w : World) (base : Nat) (e : TypeId) (size : Nat) (v : Value) (n : Nat) (xs : List Value) : Prop := ∃ A c, v = .slice A n c ∧ w.ownsRow base e size (.slice A n c) n xs
theorem OwnV.nil (w : World) (base : Nat) (e : TypeId) (size : Nat) : OwnV w base e size (.slice none 0 0) 0 [] := ⟨none, 0, rfl, World.ownsRow_nil _ _ _ _⟩
theorem own_out {w : World} {base : Nat} {e : TypeId} {size n c : Nat} {A : Option Addr} {xs : List Value} (h : w.ownsRow base e size (.slice A n c) n xs) : SL w size (.slice A n c) n xs ∧ ∀ ad, A = some ad → base ≤ ad.block := by
 obtain ⟨B, d, e1, h1, h2⟩ := own_form h
 injection e1 with e1 e2 e3
 subst e1 e3
 exact ⟨h1, h2⟩
section
open Go.RowKit Go.Maps
theorem keyed_int : Keyed Tryz.prog 3 := int_keyed Tryz.underlying3
theorem zero_bool (w : World) : (zeroValue 4).run Tryz.prog w = .ok (.bool false) w := by kernel_rfl
def seenF (l : List Int) (x : Int) : Option Value := if x ∈ l then some (.bool true) else none
theorem seenF_look (l : List Int) (x : Int) : (seenF l x).getD (.bool false) = .bool (decide (x ∈ l)) := by
 unfold seenF; by_cases h : x ∈ l <;> simp [h]
theorem check_tot (cs xs : List Int) (sl : Value) (w : World) (hl : cs.length = 16) (hs : SL w 1 sl xs.length (ints xs)) (h : totOK cs xs = false) :
 Calls Tryz.prog 102 #[.agg (tblv cs sl)] w fun e w' => e = .returned (.int .i64 4) ∧ Ext w w' := by
 have HT := hid_ (fun W => total_any cs sl W hl)
 have hlast := hid_ (fun W g (h : Blk W g 42 (tblv cs sl)) => tblv_last h hl)
 have hts := hid_ (tblv_size cs sl hl)
 have hq : (totalZ cs).2 = false ∨ ((totalZ cs).2 = true ∧ ((totalZ cs).1 != (xs.length : Int)) = true) := by
  unfold totOK at h
  unfold totalZ
  cases h1 : allIn cs 0 256 with
  | false => left; simp
  | true =>
    rw [h1] at h
    simp only [if_true]
    by_cases h2 : sumL cs 16 ≤ 256
    ·right
     simp [h2] at h ⊢
     exact h
    ·left; simpa using h2
 generalize totalZ cs = tz at *
 obtain ⟨all, is⟩ := tz
 generalize tblv cs sl = tv at *
 obtain ⟨A, c, rfl, hc1, hc2, -, -⟩ := hs
 rcases hq with hq | ⟨hq, hq2⟩
 ·simp only at hq
  subst hq
  go_enter Tryz.func102, Tryz.ntmps102
  go_wp2_with (first
   | (refine wBox rfl 42 (.tmp 0) rfl tv rfl ?_; intro w1 g hb1 hx1 hg)
   | (refine wLdB rfl 42 (.tmp 1) rfl _ rfl hb1 _ Tryz.underlying42 rfl 17 sizeTbl hts.out ?_)
   | (go_at_call 151; (with_reducible refine (HT.out _).mono ?_); rintro e w2 ⟨rfl, hx2⟩))
  go_ret
  exact ⟨rfl, hx1.trans hx2⟩
 ·simp only at hq hq2
  subst hq
  go_enter Tryz.func102, Tryz.ntmps102
  go_wp2_with (first
   | (refine wBox rfl 42 (.tmp 0) rfl tv rfl ?_; intro w1 g hb1 hx1 hg)
   | (refine wLdB rfl 42 (.tmp 1) rfl _ rfl hb1 _ Tryz.underlying42 rfl 17 sizeTbl hts.out ?_)
   | (go_at_call 151; (with_reducible refine (HT.out _).mono ?_); rintro e w2 ⟨rfl, hx2⟩; have hc16 := hlast.out _ _ (hb1.ext hx2)))
  go_ret
  exact ⟨rfl, hx1.trans hx2⟩
theorem seenF_upd (xs : List Int) (k : Nat) (hk : k < xs.length) : seenF (xs.take (k + 1)) xs[k] = some (.bool true) := by
 unfold seenF
 rw [if_pos (by rw [List.take_succ_eq_append_getElem hk]; exact List.mem_append_right _ (by simp))]
theorem seenF_other (xs : List Int) (k : Nat) (hk : k < xs.length) (j : Int) (hj : j ≠ xs[k]) : seenF (xs.take (k + 1)) j = seenF (xs.take k) j := by
 unfold seenF
 have : j ∈ xs.take (k + 1) ↔ j ∈ xs.take k := by rw [List.take_succ_eq_append_getElem hk, List.mem_append]; simp [hj]
 by_cases h : j ∈ xs.take k
 ·rw [if_pos h, if_pos (this.2 h)]
 ·rw [if_neg h, if_neg (fun h2 => h (this.1 h2))]
set_option maxRecDepth 20000 in
set_option maxHeartbeats 1000000 in
theorem check_in (cs xs : List Int) (sl : Value) (w : World) (hl : cs.length = 16) (hs : SL w 1 sl xs.length (ints xs)) (h : totOK cs xs = true) :
 Calls Tryz.prog 102 #[.agg (tblv cs sl)] w fun e w' => e = .returned (.int .i64 (checkZ cs xs)) ∧ Ext w w' := by
 have HT := hid_ (fun W => total_any cs sl W hl)
 have hlast := hid_ (fun W g (h : Blk W g 42 (tblv cs sl)) => tblv_last h hl)
 have hts := hid_ (tblv_size cs sl hl)
 have HRG := hid_ (fun W g (h : Blk W g 42 (tblv cs sl)) => tblv_range h)
 have hcl := hid_ ((ints_len cs).trans hl)
 have HIX := hid_ (fun k (hk : k < cs.length) (h16 : k < 16) => fun W => run_index16 (ints cs).toArray k (.int .i64 cs[k]) h16 (bv_at cs k hk) W)
 obtain ⟨q1, q2, q3⟩ := totOK_iff.1 h
 have HZ1 := hid_ (fun h2 => checkZ_arg h h2)
 have HZ2 := hid_ (fun h2 h3 => checkZ_dup h h2 h3)
 have HZ3 := hid_ (fun h2 h3 => checkZ_words h h2 h3)
 have HT1 : Hid (totalZ cs = ((xs.length : Int), true)) := hid_ (by unfold totalZ; rw [q1, q3]; simp; omega)
 rw [HT1.out] at HT
 have hlen : xs.length ≤ 256 := by omega
 have HAL := hid_ (allIn_iff.1 q1)
 have HL := hid_ hl
 have hneq : ((xs.length : Int) != (xs.length : Int)) = false := by simp
 have hmm := @run_makeMap Tryz.prog
 have hs' := hs
 obtain ⟨A, c, rfl, hc1, hc2, -, -⟩ := hs'
 generalize tblv cs (.slice A xs.length c) = tv at *
 clear h q1 q2 q3
 go_enter Tryz.func102, Tryz.ntmps102
 go_wp2_with (first
  | (refine wBox rfl 42 (.tmp 0) rfl tv rfl ?_; intro w1 g hb1 hx1 hg)
  | (refine wLdB rfl 42 (.tmp 1) rfl _ rfl hb1 _ Tryz.underlying42 rfl 17 sizeTbl hts.out ?_)
  | (go_at_call 151; (with_reducible refine (HT.out _).mono ?_); rintro e w2 ⟨rfl, hx2⟩; have hc16 := hlast.out _ _ (hb1.ext hx2); have hc16b := hlast.out _ _ ((hb1.ext hx2).alloc (.map #[] 0))))
 have hb2 := hb1.ext hx2
 have hxm := hx1.trans hx2
 have hgm := hxm.size
 have hne := hb2.lt
 clear hmm hb1 hx1 hx2 hc16 hc16b
 go_loopw [6, 30] (fun tw i wr => ∃ (k : Nat) (tb : Bool), k ≤ xs.length ∧ i = .int .i64 (k : Int) ∧ tw = .bool tb ∧ tb = (!decide (xs.take k).Nodup) ∧ (∀ z ∈ xs.take k, 0 ≤ z ∧ z ≤ 255) ∧ MapI Tryz.prog 3 wr w2.heap.size k (seenF (xs.take k)) ∧ Blk wr g 42 tv ∧ Ext w wr) (fun _ i _ => xs.length - (intOf i).toNat)
 case atStart => exact ⟨0, false, by omega, rfl, rfl, by simp, by simp, MapG.made _, hb2.alloc _, hxm.alloc _⟩
 case round =>
  clear hb2 hxm
  obtain ⟨k, tb, hk, rfl, rfl, htb, hin, hm, hb, hx⟩ := hrel
  have HTB := hid_ htb
  have HIN := hid_ hin
  clear htb hin
  by_cases hlt : k < xs.length
  ·obtain ⟨ad, u, rfl, -, hxk, hcell⟩ := (hs.ext hx).at1 hlt
   obtain ⟨hkl, rfl⟩ := ints_at _ _ _ hxk
   clear hxk
   cases hq : inB xs[k] 0 255 with
   | true =>
     obtain ⟨q1, q2⟩ := inB_iff.1 hq
     have h0' : decide (xs[k] < 0) = false := by simpa using q1
     have h1' : decide (256 ≤ xs[k]) = false := by simp; omega
     have HN := hid_ (allIn_take HIN.out hkl ⟨q1, q2⟩)
     have HND := hid_ (nodup_take_succ hkl)
     have HU := hid_ (seenF_upd xs k hkl)
     have HO := hid_ (seenF_other xs k hkl)
     have HLK := hid_ (seenF_look (xs.take k) xs[k])
     have hkey := hid_ (keyOf_i64 (P := Tryz.prog) Tryz.underlying3 (a := xs[k]) (by omega) (by omega))
     generalize xs[k] = x at *
     clear hq
     cases tb with
     | true =>
       go_wp2_with (at_mapUpdate; refine wpList_upd_g (by rfl) _ _ _ 196 4 rfl keyed_int Tryz.underlying196 rfl hm (by omega) _ rfl _ rfl x hkey.out (seenF (xs.take (k + 1))) HU.out (fun j _ hj => HO.out j (fun e => hj (by rw [e]))) (fun j _ hj => by injection hj) ?_; intro w7 hm7 hg7)
       go_roundw
       case rel =>
        exact ⟨k + 1, true, by omega, by go_num, rfl, by have h1 := HTB.out; have h2 := HND.out; simp at h1 ⊢; rw [h2]; simp [h1], HN.out, hm7, hb.grown hg7 (by simp; omega), ext_grown_new hx hg7 (by omega)⟩
       case measure => simp [intOf]; omega
     | false =>
       go_wp2_with (first
        | (at_lookup; refine wpList_look_g (by rfl) _ _ 196 4 rfl keyed_int Tryz.underlying196 _ (zero_bool _) rfl hm _ rfl x trivial hkey.out _ HLK.out ?_)
        | (at_mapUpdate; refine wpList_upd_g (by rfl) _ _ _ 196 4 rfl keyed_int Tryz.underlying196 rfl hm (by omega) _ rfl _ rfl x hkey.out (seenF (xs.take (k + 1))) HU.out (fun j _ hj => HO.out j (fun e => hj (by rw [e]))) (fun j _ hj => by injection hj) ?_; intro w7 hm7 hg7))
       go_roundw
       case rel =>
        exact ⟨k + 1, decide (x ∈ xs.take k), by omega, by go_num, rfl, by have h1 := HTB.out; have h2 := HND.out; simp at h1; by_cases hm : x ∈ xs.take k <;> simp [h2, h1, hm], HN.out, hm7, hb.grown hg7 (by simp; omega), ext_grown_new hx hg7 (by omega)⟩
       case measure => simp [intOf]; omega
   | false =>
     have HF := hid_ (HZ1.out (allIn_no hkl hq))
     rcases Int.lt_or_le xs[k] 0 with h0 | h0
     ·have h0' : decide (xs[k] < 0) = true := by simpa using h0
      clear hq
      go_wp2_with fail
      go_ret
      exact ⟨by rw [HF.out]; rfl, hx⟩
     ·have h0' : decide (xs[k] < 0) = false := by simpa using h0
      have h1' : decide (256 ≤ xs[k]) = true := by have := inB_not.1 hq; simp; omega
      clear hq
      go_wp2_with fail
      go_ret
      exact ⟨by rw [HF.out]; rfl, hx⟩
  ·have hkx : k = xs.length := by omega
   have e1 : xs.take k = xs := List.take_of_length_le (by omega)
   rw [e1] at HTB HIN
   have HA := hid_ (allIn_iff.2 HIN.out)
   clear e1 hm
   go_wp2_with (refine wpList_load_mid rfl 40 (.tmp 49) rfl g 0 rfl (ints cs) _ (HRG.out _ _ hb) Tryz.underlying40 rfl (by rw [hcl.out]; exact size16) ?_)
   go_loop [9, 51] (fun nx i => ∃ k : Nat, k ≤ 16 ∧ i = .int .i64 (k : Int) ∧ nx = .int .i64 (nextW cs k : Nat) ∧ nextW cs k + 1 ≤ 2 ^ k ∧ (∀ j, j < k → nextW cs (j + 1) + 1 ≤ 2 ^ (j + 1)) ∧ (0 < k → tb = false)) (fun _ i => 16 - (intOf i).toNat)
   case atStart => exact ⟨0, by omega, rfl, rfl, by simp [nextW], by intro j hj; omega, by omega⟩
   case round =>
    obtain ⟨k, hk, rfl, rfl, hnx, hall, htw⟩ := hrel
    have HALL := hid_ hall
    have HTW := hid_ htw
    clear hall htw
    by_cases hlt2 : k < 16
    ·have hkl : k < cs.length := by have := HL.out; omega
     have hix := HIX.out k hkl hlt2
     obtain ⟨q1, q2⟩ := HAL.out _ (List.getElem_mem hkl)
     obtain ⟨n, hn⟩ : ∃ n : Nat, cs[k] = (n : Int) := ⟨cs[k].toNat, by omega⟩
     have HNW := hid_ (nextW_succ cs k n hkl hn)
     have HNO := hid_ (fun h => okW_no (cs := cs) hlt2 h)
     rw [hn] at hix q1 q2
     have hp : (2 : Nat) ^ k ≤ 65536 := by have := Nat.pow_le_pow_right (n := 2) (by omega) (show k ≤ 16 by omega); simpa using this
     have HP : Hid (2 ^ (k + 1) = 2 * 2 ^ k) := hid_ (by rw [Nat.pow_succ]; omega)
     rw [HNW.out, HP.out] at HNO
     have hp1 : (1 : Int) ≤ 2 ^ (k + 1) := pow_pos' (k + 1)
     have hp2 : (2 : Int) ^ (k + 1) ≤ 131072 := by have := pow_le (k + 1) 17 (by omega); simpa using this
     have HPI : Hid ((2 : Int) ^ (k + 1) = ((2 * 2 ^ k : Nat) : Int)) := hid_ (by rw [← HP.out]; simp)
     clear hn
     cases tb with
     | true =>
       have HF := hid_ (HZ2.out HA.out (by have := HTB.out; simpa using this))
       go_wp2_with fail
       go_ret
       exact ⟨by rw [HF.out]; rfl, hx⟩
     | false =>
       generalize nextW cs k = N at *
       by_cases hbad : 2 * N + n + 1 ≤ 2 * 2 ^ k
       ·have hd : decide ((2 : Int) ^ (k + 1) - 1 < (N : Int) * 2 + (n : Int)) = false := by have := HPI.out; simp; omega
        go_wp2_with fail
        go_round
        case rel =>
         refine ⟨k + 1, by omega, by go_num, by rw [HNW.out]; congr 1; omega, by rw [HNW.out, HP.out]; omega, ?_, by simp⟩
         intro i hi
         by_cases hik : i = k
         ·subst hik; rw [HNW.out, HP.out]; omega
         ·exact HALL.out i (by omega)
        case measure => simp [intOf]; omega
       ·have hd : decide ((2 : Int) ^ (k + 1) - 1 < (N : Int) * 2 + (n : Int)) = true := by have := HPI.out; simp; omega
        have HF := hid_ (HZ3.out HA.out (by have := HTB.out; simpa using this))
        have HNO' := hid_ (HNO.out (by omega))
        go_wp2_with fail
        go_ret
        exact ⟨by rw [HF.out, HNO'.out]; rfl, hx⟩
    ·obtain rfl : k = 16 := by omega
     obtain rfl := HTW.out (by omega)
     have HF := hid_ (HZ3.out HA.out (by have := HTB.out; simpa using this))
     have HOK := hid_ (okW_yes HALL.out)
     go_wp2_with fail
     go_ret
     exact ⟨by rw [HF.out, HOK.out]; rfl, hx⟩
theorem check_any (cs xs : List Int) (sl : Value) (w : World) (hl : cs.length = 16) (hs : SL w 1 sl xs.length (ints xs)) :
 Calls Tryz.prog 102 #[.agg (tblv cs sl)] w fun e w' => e = .returned (.int .i64 (checkZ cs xs)) ∧ Ext w w' := by
 cases h : totOK cs xs with
 | true => exact check_in cs xs sl w hl hs h
 | false => rw [checkZ_tot h]; exact check_tot cs xs sl w hl hs h
end
theorem checkZ_zero {cs xs : List Int} (h : checkZ cs xs = 0) : allIn cs 0 256 = true ∧ sumL cs 16 = xs.length ∧ xs.length ≤ 256 ∧ okW cs = true ∧ allIn xs 0 255 = true ∧ xs.Nodup := by
 unfold checkZ at h
 split at h
 ·next h1 =>
  obtain ⟨q1, q2, q3⟩ := totOK_iff.1 h1
  split at h
  ·next h2 =>
   split at h
   ·next h3 =>
    simp only [Bool.and_eq_true, decide_eq_true_eq] at h3
    exact ⟨q1, q3, by omega, h3.2, h2, h3.1⟩
   ·cases h
  ·cases h
 ·cases h
structure Upd (S : Nat → Prop) (w w' : World) : Prop where
 os : w'.os = w.os
 tape : w'.tape = w.tape
 output : w'.output = w.output
 size : w.heap.size ≤ w'.heap.size
 block : ∀ b, b < w.heap.size → ¬ S b → w'.heap[b]? = w.heap[b]?
theorem Upd.refl (S : Nat → Prop) (w : World) : Upd S w w := ⟨rfl, rfl, rfl, Nat.le_refl _, fun _ _ _ => rfl⟩
theorem Upd.trans {S S' : Nat → Prop} {a b c : World} (h : Upd S a b) (k : Upd S' b c) (hS : ∀ x, S' x → S x ∨ a.heap.size ≤ x) : Upd S a c :=
 ⟨k.os.trans h.os, k.tape.trans h.tape, k.output.trans h.output, Nat.le_trans h.size k.size, fun x hx hn => by
  have h1 := h.size
  rw [k.block x (by omega) (fun h2 => (hS x h2).elim hn (by omega)), h.block x hx hn]⟩
theorem Upd.of_ext {S : Nat → Prop} {a b : World} (h : Ext a b) : Upd S a b := ⟨h.os, h.tape, h.output, h.size, fun x hx _ => h.block x hx⟩
theorem Upd.setCell {S : Nat → Prop} {a b : World} (h : Upd S a b) {p : Addr} (hp : S p.block) (u : Value) : Upd S a (b.setCell p u) :=
 ⟨h.os, h.tape, h.output, by simpa [World.setCell] using h.size, fun x hx hn => (Below.heap_setCell b p u x (fun e => hn (e ▸ hp))).trans (h.block x hx hn)⟩
theorem Upd.drew {S : Nat → Prop} {a b : World} (h : Upd S a b) : Upd S a b.drew := ⟨h.os, h.tape, h.output, h.size, h.block⟩
theorem Upd.grown {S : Nat → Prop} {a w w' : World} (h : Upd S a w) {row : Option Nat} (hg : w.grownBy w' row) (hr : ∀ b, row = some b → S b ∨ a.heap.size ≤ b) : Upd S a w' :=
 ⟨hg.os.trans h.os, hg.tape.trans h.tape, hg.output.trans h.output, Nat.le_trans h.size hg.size, fun x hx hn => by
  have h1 := h.size
  rw [hg.block x (by omega) (fun h2 => (hr x h2.symm).elim hn (by omega)), h.block x hx hn]⟩
theorem SL.upd {S : Nat → Prop} {w w' : World} {size n c : Nat} {A : Option Addr} {xs : List Value} (h : SL w size (.slice A n c) n xs) (hu : Upd S w w') (hS : ∀ ad, A = some ad → ¬ S ad.block) : SL w' size (.slice A n c) n xs := by
 obtain ⟨A', c', e, h1, h1', h2, h3⟩ := h
 injection e with e1 e2 e3
 subst e1 e3
 refine ⟨A, c, rfl, h1, h1', h2, fun hn => ?_⟩
 obtain ⟨ad, ea, hlt, hc⟩ := h3 hn
 refine ⟨ad, ea, Nat.lt_of_lt_of_le hlt hu.size, fun j u hj => ?_⟩
 rw [← hc j u hj]
 unfold World.cell?
 rw [block_of_add, hu.block _ hlt (hS ad ea)]
theorem Upd.blk {S : Nat → Prop} {w w' : World} {g : Nat} {T : TypeId} {cs : Array Value} (hu : Upd S w w') (h : Blk w g T cs) (hS : ¬ S g) : Blk w' g T cs := (hu.block g h.lt hS).trans h
theorem Upd.ext {S : Nat → Prop} {a w w' : World} (hu : Upd S w w') (h : Ext a w) (hS : ∀ x, S x → a.heap.size ≤ x) : Ext a w' :=
 ⟨hu.os.trans h.os, hu.tape.trans h.tape, hu.output.trans h.output, Nat.le_trans h.size hu.size, fun x hx => by
  have := h.size
  rw [hu.block x (by omega) (fun h2 => by have := hS x h2; omega), h.block x hx]⟩
def findT (T : List Tok) (s : Int) : Option Tok := T.find? (fun t => t.1 == s)
def bitsT (T : List Tok) (s : Int) : List Bool := match findT T s with | some t => digs t.2.2.toNat t.2.1.toNat | none => []
def wordIn (D : List Bool) (p : Nat) (t : Tok) : Bool := decide (p + t.2.1.toNat ≤ D.length) && ((numB ((D.drop p).take t.2.1.toNat) : Int) == t.2.2)
def symZ (T : List Tok) (D : List Bool) (p : Nat) : Int × Nat × Int :=
 match T.find? (wordIn D p) with | some t => (t.1, p + t.2.1.toNat, 0) | none => (0, p, if D.length < p + 16 then 3 else 4)
def szN (n : Int) : Nat := Lib.bitLen n.natAbs
def bitsZ (n : Int) : Int × Int × Int := if -4095 ≤ n ∧ n ≤ 4095 then (szN n, if n < 0 then n + 2 ^ szN n - 1 else n, 0) else (0, 0, 1)
def zstep (s : Int × Int × Bool) : Int × Int × Bool :=
 if s.2.2 then (if s.2.1 = 7 then (s.1 + 1, s.2.1, false) else if s.1 = 0 then (s.1, s.2.1 + 1, false) else (s.1 - 1, s.2.1 + 1, true))
 else (if s.1 = 7 then (s.1, s.2.1 + 1, true) else if s.2.1 = 0 then (s.1 + 1, s.2.1, true) else (s.1 + 1, s.2.1 - 1, false))
def zst : Nat → Int × Int × Bool
 | 0 => (0, 0, true)
 | k + 1 => zstep (zst k)
def zigAt (k : Nat) : Int := 8 * (zst k).1 + (zst k).2.1
def zfrom (zs : List Int) (k : Nat) : List Int := (List.range k).foldl (fun l i => l.set (zigAt i).toNat (zs.getD i 0)) (List.replicate 64 0)
def zto (zs : List Int) : List Int := (List.range 64).map fun i => zs.getD (zigAt i).toNat 0
def tokZ (r n : Int) : Tok := (16 * r + (bitsZ n).1, (bitsZ n).1, (bitsZ n).2.1)
def long : Tok := (240, 0, 0)
def stepT (s : List Tok × Nat) (n : Int) : List Tok × Nat := if n = 0 then (s.1, s.2 + 1) else (s.1 ++ List.replicate (s.2 / 16) long ++ [tokZ ((s.2 % 16 : Nat) : Int) n], 0)
def accT (t0 : Tok) (l : List Int) (k : Nat) : List Tok × Nat := (l.take k).foldl stepT ([t0], 0)
def tokensZ (before : Int) (z : List Int) : List Tok :=
 let s := accT (tokZ 0 (z.getD 0 0 - before)) (z.drop 1) 63
 if 0 < s.2 then s.1 ++ [(0, 0, 0)] else s.1
def backZ (k : Nat) (v : Int) : Int := if 0 < k ∧ v < 2 ^ (k - 1) then v - (2 ^ k - 1) else v
def backR (n v : Int) : Int × Int := if 0 ≤ n ∧ n ≤ 12 ∧ 0 ≤ v ∧ v < 2 ^ n.toNat then (backZ n.toNat v, 0) else (0, 1)
def tokOk (t : Tok) : Bool := decide ((backR t.2.1 t.2.2).2 = 0 ∧ t.2.1 = t.1 % 16 ∧ t.2.1 ≤ 11 ∧ 0 ≤ t.1 ∧ t.1 ≤ 255 ∧ (t.2.1 = 0 → t.1 = 0 ∨ t.1 = 240))
def tokOk1 (before : Int) (t : Tok) : Bool := decide ((backR t.2.1 t.2.2).2 = 0 ∧ t.1 = t.2.1 ∧ -2047 ≤ before + (backR t.2.1 t.2.2).1 ∧ before + (backR t.2.1 t.2.2).1 ≤ 2047)
section
variable {σ : Type}
def goB (next : σ → Tok × Int × σ) (i : Nat) (z : List Int) (all : List Tok) (s : σ) : Int × List Int × List Tok × σ :=
 if h : i < 64 then
  if (next s).2.1 ≠ 0 then ((next s).2.1, z, all, (next s).2.2)
  else if tokOk (next s).1 = false then (4, z, all, (next s).2.2)
  else if (next s).1.1 = 0 then (0, z, all ++ [(next s).1], (next s).2.2)
  else if 64 < i + ((next s).1.1 / 16).toNat + 1 then (4, z, all, (next s).2.2)
  else goB next (i + ((next s).1.1 / 16).toNat + 1) (z.set (i + ((next s).1.1 / 16).toNat) (backR (next s).1.2.1 (next s).1.2.2).1) (all ++ [(next s).1]) (next s).2.2
 else (0, z, all, s)
termination_by 64 - i
variable {next : σ → Tok × Int × σ} {i : Nat} {z : List Int} {all : List Tok} {s s' : σ} {t : Tok} {e : Int}
def blkZ (next : Bool → σ → Tok × Int × σ) (before : Int) (s : σ) : Int × List Int × List Tok × σ :=
 if (next true s).2.1 ≠ 0 then ((next true s).2.1, List.replicate 64 0, [], (next true s).2.2)
 else if tokOk1 before (next true s).1 = false then (4, List.replicate 64 0, [], (next true s).2.2)
 else
  let g := goB (next false) 1 ((List.replicate 64 0).set 0 (before + (backR (next true s).1.2.1 (next true s).1.2.2).1)) [(next true s).1] (next true s).2.2
  if g.1 ≠ 0 then (g.1, List.replicate 64 0, [], g.2.2.2)
  else if tokensZ before g.2.1 = g.2.2.1 then (0, zfrom g.2.1 64, g.2.2.1, g.2.2.2)
  else (4, List.replicate 64 0, [], g.2.2.2)
variable {nextB : Bool → σ → Tok × Int × σ} {before : Int}
end
def segNext (r : Bool) (T1 T2 : List Tok) (D : List Bool) (first : Bool) (p : Nat) : Tok × Int × Nat :=
 let s := symZ (if first then T1 else T2) D p
 if s.2.2 ≠ 0 then ((0, 0, 0), s.2.2, if r then (if s.2.2 = 3 then D.length else p + 16) else p)
 else
  let wd := if first then s.1 else s.1 % 16
  if 12 < wd ∨ (first = false ∧ 11 < wd) then ((0, 0, 0), 4, if r then s.2.1 else p)
  else if D.length < s.2.1 + wd.toNat then ((0, 0, 0), 3, if r then s.2.1 else p)
  else ((s.1, wd, ((numB ((D.drop s.2.1).take wd.toNat) : Nat) : Int)), 0, s.2.1 + wd.toNat)
section
variable {σ : Type} {n1 n2 : σ → Tok × Int × σ}
end
def Goes (P : Program) (f : FuncId) : Prop := ∃ fn, P.funcs[f]? = some fn ∧ (fn.name == "runtime.NumGoroutine") = false ∧ fn.body.isSome = true
section
variable {P : Program} {ops : Array Oper} {rest : List Oper} {o : Oper} {a : Act} {Q : Exit → Act → World → Prop}
theorem run_callv (x : Operand) (xs : Array Operand) (ts : Array TypeId) (ho : o.op = .call { callee := .value x, args := xs, argTypes := ts }) {f : FuncId} {cap : Array Value} (hr : a.eval x = .func (.func f) #[] cap)
 (hm : Goes P f) (args : Array Value) (hx : xs.map a.eval ++ cap = args) (w : World) : (execOp a.eval o).run P w = .ok (.enter f args) w := by
 obtain ⟨fn, hf, hname, hb⟩ := hm
 obtain ⟨c, hb⟩ := Option.isSome_iff_exists.1 hb
 have hn : ¬ fn.name = "runtime.NumGoroutine" := by simpa using hname
 subst hx
 simp [execOp, ho, resolve, hr, Deferred.ofValue, invoke, callFunc, hf, hb, hn, run_program]
theorem wl_enter {w : World} (hw : Region.wanted o (yielded ops a.tmps) = true) {f : FuncId} {args : Array Value} (hrun : ∀ w, (execOp a.eval o).run P w = .ok (.enter f args) w)
 (h : Calls P f args w fun e w' => ∃ v, e = .returned v ∧ wpList P ops Q rest (a.put o.dst v) w') : wpList P ops Q (o :: rest) a w :=
 wpList_wanted hw fun K hK => by
  unfold Oper.wp
  rw [hrun]
  refine h.mono fun e w' ⟨v, e1, h2⟩ => ?_
  subst e1
  exact hK _ _ h2
end
section
variable {P : Program} (w : World)
theorem run_part_int (e : TypeId) (he : P.underlying e = some (.int .i64)) (zs : List Int) (i : Nat) (hi : i < zs.length) : (part e (bv zs) i).run P w = .ok (.int .i64 zs[i]) w := by
 have hagg : (isAgg e).run P w = .ok false w := by
  unfold isAgg
  rw [Sem.run_bind, run_underlying he w]
  rfl
 simp [part, hagg, bv_at zs i hi]
theorem run_equalIn_ints (d : Nat) (t e : TypeId) (n : Nat) (ht : P.underlying t = some (.array n e)) (he : P.underlying e = some (.int .i64)) (hs : (P.info? e).map (·.size) = some 1) (xs ys : List Int) (hx : xs.length = n) (hy : ys.length = n) :
 (Op.equalIn (d + 2) t (.agg (bv xs)) (.agg (bv ys))).run P w = .ok (decide (xs = ys)) w := by
 cases hq : P.info? e with
 | none => simp [hq] at hs
 | some inf =>
   have hz : inf.size = 1 := by simpa [hq] using hs
   have hso : (sizeOf e).run P w = .ok 1 w := by simp [sizeOf, typeInfo, hq, hz]
   unfold Op.equalIn
   simp only [Sem.run_bind, run_underlying ht, Result.andThen_ok, hso, Nat.mul_one]
   rw [Std.Legacy.Range.forIn_eq_forIn_range']
   simp only [Std.Legacy.Range.size, Nat.sub_zero, Nat.add_sub_cancel, Nat.div_one]
   have key : ∀ (m s : Nat), s + m = n →
    (forIn (m := Sem) (List.range' s m) ((none, ()) : Option Bool × Unit) fun i __s => do
      let __do_lift ← part e (bv xs) i
      let __do_lift_1 ← part e (bv ys) i
      let __do_lift ← Op.equalIn (d + 1) e __do_lift __do_lift_1
      if (!__do_lift) = true then pure (ForInStep.done (some false, ())) else pure (ForInStep.yield (none, ()))).run P w
      = .ok (if xs.drop s = ys.drop s then (none, ()) else (some false, ())) w := by
    intro m
    induction m with
    | zero =>
      intro s hsn
      rw [List.drop_eq_nil_of_le (by omega), List.drop_eq_nil_of_le (by omega)]
      simp
    | succ m ih =>
      intro s hsn
      have h1 : s < xs.length := by omega
      have h2 : s < ys.length := by omega
      rw [List.range'_succ, List.forIn_cons]
      simp only [Sem.run_bind, run_part_int w e he xs s h1, run_part_int w e he ys s h2, Result.andThen_ok, run_equalIn_int w d e .i64 .i64 _ _ he]
      have hd : (xs.drop s = ys.drop s) = (xs[s] = ys[s] ∧ xs.drop (s + 1) = ys.drop (s + 1)) := by
       have e1 := List.drop_eq_getElem_cons h1
       have e2 := List.drop_eq_getElem_cons h2
       rw [e1, e2, List.cons.injEq]
      simp only [hd]
      by_cases hq2 : xs[s] = ys[s]
      ·have hb : (xs[s] == ys[s]) = true := by simpa using hq2
       simp only [hb, Bool.not_true, Bool.false_eq_true, if_false, Sem.run_pure, Result.andThen_ok, ih (s + 1) (by omega)]
       simp [hq2]
      ·have hb : (xs[s] == ys[s]) = false := by simpa using hq2
       simp only [hb, Bool.not_false, if_true, Sem.run_pure, Result.andThen_ok]
       simp [hq2]
   rw [key n 0 (by omega)]
   by_cases h : xs = ys
   ·simp [h]
   ·simp [h]
theorem guard48 : Tryz.prog.eqGuardType Tryz.prog.depth 33 = false := by kernel_rfl
theorem run_eql48 (w : World) (xs ys : List Int) (hx : xs.length = 64) (hy : ys.length = 64) : (binOp .eql 33 (.agg (bv xs)) (.agg (bv ys))).run Tryz.prog w = .ok (.bool (decide (xs = ys))) w := by
 rw [run_eql_struct, run_equalIn_ints w 9998 33 3 64 Tryz.underlying33 Tryz.underlying3 sizeInt xs ys hx hy]
 rfl
theorem run_eql48_same (w : World) (xs : List Int) (hx : xs.length = 64) : (binOp .eql 33 (.agg (bv xs)) (.agg (bv xs))).run Tryz.prog w = .ok (.bool true) w := by
 rw [run_eql48 w xs xs hx hx]; simp
theorem run_guard48 (w : World) (op : BinOp) (x y : Operand) (xs ys : Array Value) : (eqGuard op 33 x y (.agg xs) (.agg ys)).run Tryz.prog w = .ok () w := run_eqGuard_agg w op _ x y xs ys guard48
end
def zeros64 : List Int := List.replicate 64 0
end Go.Proofs.YtkggcjdlpendfaaGreatDoor
