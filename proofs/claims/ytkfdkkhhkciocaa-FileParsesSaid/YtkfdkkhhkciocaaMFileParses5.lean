/- Contracts for the law FileParses, part 5: what the functions that it reaches answer, for all arguments that the theorems name. -/
import Derived.Deep.MidRow
import Derived.Test.YtkfdkkhhkciocaaMFileParses2
import Derived.Great.Walk
import Derived.Test.YtkfdkkhhkciocaaMFileParses3
import Derived.WalkKit
import Derived.Test.YtkfdkkhhkciocaaMFileParses1
import Derived.ProofKit
import Derived.OpenShut
import Derived.ChangeSlices
import Derived.Deep.SlicePairs
import Derived.Laws.BitsAllLaws
/- Tables: table.total, Has of the reference. -/
namespace Go.Proofs.Ytkfdkkhhkciocaa
set_option linter.unusedVariables false
set_option linter.unusedSimpArgs false
open Go.RowKit
def tblv (cs : List Int) (sl : Value) : Array Value := (ints cs ++ [sl]).toArray
theorem sizeTbl : (Try.prog.info? 41).map (·.size) = some 17 := by kernel_rfl
theorem size16 : (Try.prog.info? 39).map (·.size) = some 16 := by kernel_rfl
theorem tblv_size (cs : List Int) (sl : Value) (h : cs.length = 16) : (tblv cs sl).size = 17 := by simp [tblv, ints_len, h]
theorem tblv_range {w : World} {g : Nat} {T : TypeId} {cs : List Int} {sl : Value} (h : Blk w g T (tblv cs sl)) : w.rangeAt g 0 (ints cs) := by
  intro j v hv
  rw [Nat.zero_add, h.cell]
  unfold tblv
  rw [List.getElem?_toArray, List.getElem?_append_left (List.getElem?_eq_some_iff.1 hv).1]
  exact hv
theorem tblv_last {w : World} {g : Nat} {T : TypeId} {cs : List Int} {sl : Value} (h : Blk w g T (tblv cs sl)) (hl : cs.length = 16) : w.cell? ⟨g, 16, none⟩ = some sl := by
  rw [h.cell]
  simp [tblv, ints_len, hl]
theorem run_index16 (cs : Array Value) (i : Nat) (u : Value) (hi : i < 16) (hu : cs[i]? = some u) (w : World) : (Instr.index 39 (.agg cs) (.int .i64 (i : Int))).run Try.prog w = .ok u w :=
  run_index_agg _ _ 16 cs i u Try.underlying39 _ Try.underlying3 sizeInt hi hu w
def sumL (cs : List Int) (k : Nat) : Int := (cs.take k).sum
theorem sumL_succ (cs : List Int) (k : Nat) (h : k < cs.length) : sumL cs (k + 1) = sumL cs k + cs[k] := by
  unfold sumL
  rw [List.take_succ_eq_append_getElem h, List.sum_append]
  simp
def totalZ (cs : List Int) : Int × Bool := if allIn cs 0 256 then (sumL cs 16, decide (sumL cs 16 ≤ 256)) else (0, false)
set_option maxHeartbeats 400000 in
theorem total_any (cs : List Int) (sl : Value) (w : World) (hl : cs.length = 16) :
    Calls Try.prog 82 #[.agg (tblv cs sl)] w fun e w' => e = .returned (.tuple #[.int .i64 (totalZ cs).1, .bool (totalZ cs).2]) ∧ Ext w w' := by
  have HL := hid_ hl
  have HRG := hid_ (fun W g (h : Blk W g 41 (tblv cs sl)) => tblv_range h)
  have hcl := hid_ ((ints_len cs).trans hl)
  have HIX := hid_ (fun k (hk : k < cs.length) (h16 : k < 16) => fun W => run_index16 (bv cs) k (.int .i64 cs[k]) h16 (bv_at cs k hk) W)
  generalize tblv cs sl = tv at *
  have hbv : (ints cs).toArray = bv cs := rfl
  go_enter Try.func82, Try.ntmps82
  go_wp2_with (first
    | (refine wpList_box_abs rfl 41 (.tmp 0) rfl tv rfl ?_; intro w1 g hb1 hx1 hg)
    | (refine wpList_load_mid rfl 39 (.tmp 7) rfl g 0 rfl (ints cs) _ (HRG.out _ _ hb1) Try.underlying39 rfl (by rw [hcl.out]; exact size16) ?_))
  go_loop [4, 9] (fun v i => ∃ k : Nat, k ≤ 16 ∧ i = .int .i64 (k : Int) ∧ v = .int .i64 (sumL cs k) ∧ (∀ z ∈ cs.take k, 0 ≤ z ∧ z ≤ 256) ∧ 0 ≤ sumL cs k ∧ sumL cs k ≤ 256 * k) (fun _ i => 16 - (intOf i).toNat)
  case atStart => exact ⟨0, by omega, rfl, rfl, by simp, by simp [sumL], by simp [sumL]⟩
  case round =>
    obtain ⟨k, hk, rfl, rfl, hin, s1, s2⟩ := hrel
    by_cases hlt : k < 16
    · have hkl : k < cs.length := by have := HL.out; omega
      have hix := HIX.out k hkl hlt
      have HS := hid_ (sumL_succ cs k hkl)
      have HIN := hid_ hin
      clear hin
      cases hq : inB cs[k] 0 256 with
      | true =>
        obtain ⟨q1, q2⟩ := inB_iff.1 hq
        have HN := hid_ (allIn_take HIN.out hkl ⟨q1, q2⟩)
        generalize sumL cs k = s at *
        go_wp2_with fail
        go_round
        case rel => exact ⟨k + 1, by omega, by go_num, by rw [HS.out], HN.out, by rw [HS.out]; omega, by rw [HS.out]; omega⟩
        case measure => simp [intOf]; omega
      | false =>
        have HF := hid_ (show totalZ cs = (0, false) by unfold totalZ; rw [allIn_no hkl hq]; rfl)
        rcases Int.lt_or_le cs[k] 0 with h0 | h0
        · have h0' : decide (cs[k] < 0) = true := by simpa using h0
          clear hq
          go_wp2_with fail
          go_ret2
          exact ⟨by rw [HF.out]; rfl, hx1⟩
        · have h0' : decide (cs[k] < 0) = false := by simpa using h0
          have h1' : decide (256 < cs[k]) = true := by have := inB_not.1 hq; simp; omega
          clear hq
          go_wp2_with fail
          go_ret2
          exact ⟨by rw [HF.out]; rfl, hx1⟩
    · have ek : k = 16 := by omega
      have HF := hid_ (show totalZ cs = (sumL cs 16, decide (sumL cs 16 ≤ 256)) by
        unfold totalZ
        rw [allIn_iff.2 (fun z hz => hin z (by rwa [List.take_of_length_le (by have := HL.out; omega)]))]
        rfl)
      rw [ek]
      rw [ek] at s1 s2
      clear hin ek hk hlt
      go_wp2_with fail
      go_ret2
      exact ⟨by rw [HF.out]; rfl, hx1⟩
theorem has_any (xs : List Int) (A : Option Addr) (c n : Nat) (x : Int) (w : World) (hn : xs.length = n) (hs : SL w 1 (.slice A n c) n (ints xs)) :
    Calls Try.prog 106 #[.slice A n c, .int .i64 x] w fun e w' => e = .returned (.bool (decide (x ∈ xs))) ∧ w = w' := by
  subst hn
  have hc1 : xs.length ≤ c ∧ c ≤ 9223372036854775807 := by obtain ⟨A', c', e, h1, h2, -⟩ := hs; injection e with e1 e2 e3; subst e3; exact ⟨h1, h2⟩
  obtain ⟨hc1, hc2⟩ := hc1
  go_enter Try.func106, Try.ntmps106
  go_wp2_with fail
  go_loop [9] (fun i => ∃ k : Nat, k ≤ xs.length ∧ i = .int .i64 k ∧ x ∉ xs.take k) (fun i => xs.length - (intOf i).toNat)
  case atStart => exact ⟨0, by omega, rfl, by simp⟩
  case round =>
    obtain ⟨k, hk, rfl, ht⟩ := hrel
    have HT := hid_ ht
    clear ht
    by_cases hlt : k < xs.length
    · obtain ⟨ad, u, rfl, -, hx, hcell⟩ := hs.at1 hlt
      obtain ⟨_, rfl⟩ := ints_at _ _ _ hx
      clear hx
      by_cases hq : x = xs[k]
      · have hq' : (x == xs[k]) = true := by simpa using hq
        have HC := hid_ (show decide (x ∈ xs) = true by rw [decide_eq_true_eq, hq]; exact List.getElem_mem hlt)
        clear hq
        go_wp2_with fail
        go_ret
        exact ⟨by rw [HC.out]; rfl, rfl⟩
      · have hq' : (x == xs[k]) = false := by simpa using hq
        have HN := hid_ (show x ∉ xs.take (k + 1) by rw [List.take_succ_eq_append_getElem hlt, List.mem_append]; exact fun h => h.elim HT.out (fun h => hq (by simpa using h)))
        clear hq
        go_wp2_with fail
        go_round
        case rel => exact ⟨k + 1, by omega, by go_num, HN.out⟩
        case measure => simp [intOf]; omega
    · have HC := hid_ (show decide (x ∈ xs) = false by
        have := HT.out
        rw [List.take_of_length_le (by omega)] at this
        simpa using this)
      go_wp2_with fail
      go_ret
      exact ⟨by rw [HC.out]; rfl, rfl⟩
end Go.Proofs.Ytkfdkkhhkciocaa
/- Files: the value and where its parts lie. -/
namespace Go.Proofs.Ytkfdkkhhkciocaa
set_option linter.unusedVariables false
set_option linter.unusedSimpArgs false
open Go.RowKit
def fileL (wd hi pt : Int) (qs : List Int) (t1 t2 : List Value) (ev : Int) (sd : Value) : List Value := ints [wd, hi, pt] ++ ints qs ++ t1 ++ t2 ++ [.int .i64 ev, sd]
theorem sizeFile : (Try.prog.info? 45).map (·.size) = some 103 := by kernel_rfl
theorem sizeTbls : (Try.prog.info? 43).map (·.size) = some 34 := by kernel_rfl
theorem zeroTbl : (Try.prog.info? 41).bind (·.zero) = some (.agg (ints (List.replicate 16 0) ++ [Value.slice none 0 0]).toArray) := by kernel_rfl
theorem range_part {w : World} {g : Nat} {T : TypeId} {a m b : List Value} (h : Blk w g T (a ++ (m ++ b)).toArray) : w.rangeAt g a.length m := by
  intro j v hv
  rw [h.cell, List.getElem?_toArray, List.getElem?_append_right (by omega), Nat.add_sub_cancel_left, List.getElem?_append_left (List.getElem?_eq_some_iff.1 hv).1]
  exact hv
/-- a file lies in block g -/
structure FileB (w : World) (g : Nat) (wd hi pt : Int) (qs : List Int) (t1 t2 : List Value) (ev : Int) (sd : Value) : Prop where
  c0 : w.cell? ⟨g, 0, none⟩ = some (.int .i64 wd)
  c1 : w.cell? ⟨g, 1, none⟩ = some (.int .i64 hi)
  c2 : w.cell? ⟨g, 2, none⟩ = some (.int .i64 pt)
  q : w.rangeAt g 3 (ints qs)
  ta : w.rangeAt g 67 t1
  tb : w.rangeAt g 84 t2
  tt : w.rangeAt g 67 (t1 ++ t2)
  c101 : w.cell? ⟨g, 101, none⟩ = some (.int .i64 ev)
  c102 : w.cell? ⟨g, 102, none⟩ = some sd
theorem fileB {w : World} {g : Nat} {T : TypeId} {wd hi pt : Int} {qs : List Int} {t1 t2 : List Value} {ev : Int} {sd : Value} (h : Blk w g T (fileL wd hi pt qs t1 t2 ev sd).toArray) (hq : qs.length = 64) (h1 : t1.length = 17) (h2 : t2.length = 17) :
    FileB w g wd hi pt qs t1 t2 ev sd := by
  have hql := (ints_len qs).trans hq
  have r0 : w.rangeAt g 0 (ints [wd, hi, pt]) := range_part (a := []) (m := ints [wd, hi, pt]) (b := ints qs ++ t1 ++ t2 ++ [.int .i64 ev, sd]) (T := T) (by simpa [fileL] using h)
  have r1 := range_part (a := ints [wd, hi, pt]) (m := ints qs) (b := t1 ++ t2 ++ [.int .i64 ev, sd]) (T := T) (w := w) (g := g) (by simpa [fileL] using h)
  have r2 := range_part (a := ints [wd, hi, pt] ++ ints qs) (m := t1) (b := t2 ++ [.int .i64 ev, sd]) (T := T) (w := w) (g := g) (by simpa [fileL] using h)
  have r3 := range_part (a := ints [wd, hi, pt] ++ ints qs ++ t1) (m := t2) (b := [.int .i64 ev, sd]) (T := T) (w := w) (g := g) (by simpa [fileL] using h)
  have r4 := range_part (a := ints [wd, hi, pt] ++ ints qs) (m := t1 ++ t2) (b := [.int .i64 ev, sd]) (T := T) (w := w) (g := g) (by simpa [fileL] using h)
  have r5 := range_part (a := ints [wd, hi, pt] ++ ints qs ++ t1 ++ t2) (m := [.int .i64 ev, sd]) (b := []) (T := T) (w := w) (g := g) (by simpa [fileL] using h)
  simp only [List.length_append, hql, h1, h2, ints_len, List.length_cons, List.length_nil] at r1 r2 r3 r4 r5
  exact ⟨r0 0 _ rfl, r0 1 _ rfl, r0 2 _ rfl, r1, r2, r3, r4, r5 0 _ rfl, r5 1 _ rfl⟩
theorem fileL_len (wd hi pt : Int) (qs : List Int) (t1 t2 : List Value) (ev : Int) (sd : Value) (hq : qs.length = 64) (h1 : t1.length = 17) (h2 : t2.length = 17) : (fileL wd hi pt qs t1 t2 ev sd).toArray.size = 103 := by
  simp [fileL, ints_len, hq, h1, h2]
/-- a table's cells -/
def tblL (cs : List Int) (sl : Value) : List Value := ints cs ++ [sl]
theorem tblv_tblL (cs : List Int) (sl : Value) : tblv cs sl = (tblL cs sl).toArray := rfl
theorem tblL_len (cs : List Int) (sl : Value) (h : cs.length = 16) : (tblL cs sl).length = 17 := by simp [tblL, ints_len, h]
set_option maxRecDepth 20000 in
theorem built2 (t1 t2 : List Value) (h1 : t1.length = 17) (h2 : t2.length = 17) : Try.prog.builtSlice 41 2 [(0, .agg t1.toArray), (1, .agg t2.toArray)] = some (t1 ++ t2).toArray := by
  match t1, h1 with
  | [a0, a1, a2, a3, a4, a5, a6, a7, a8, a9, a10, a11, a12, a13, a14, a15, a16], _ =>
    match t2, h2 with
    | [b0, b1, b2, b3, b4, b5, b6, b7, b8, b9, b10, b11, b12, b13, b14, b15, b16], _ =>
      show _ = _
      kernel_rfl
theorem wpList_load_mid_g {P : Program} {ops : Array Oper} {rest : List Oper} {op : Oper} {a : Act} {w : World} {Q : Exit → Act → World → Prop} (hw : Region.wanted op (yielded ops a.tmps) = true) (ty : TypeId) (x : Operand) (ho : op.op = .load ty x)
    (b o : Nat) (hx : a.eval x = .pointer (some ⟨b, o, none⟩)) (cs : List Value) (d : TypeDesc) (hc : w.rangeAt b o cs)
    (hu : P.underlying ty = some d) (hd : d.isRow = true) (hi : (P.info? ty).map (·.size) = some cs.length)
    (h : wpList P ops Q rest (a.put op.dst (.agg cs.toArray)) w) : wpList P ops Q (op :: rest) a w :=
  wpList_wanted hw fun _ hK => wp_load_mid ty x ho b o hx cs d hc hu hd hi (hK _ _ h)
theorem range_two {w : World} {g : Nat} {T : TypeId} {t1 t2 : List Value} (h1 : t1.length = 17) (h : Blk w g T (t1 ++ t2).toArray) : w.rangeAt g 0 t1 ∧ w.rangeAt g 17 t2 := by
  refine ⟨range_part (a := []) (m := t1) (b := t2) (T := T) (by simpa using h), ?_⟩
  have := range_part (a := t1) (m := t2) (b := []) (T := T) (w := w) (g := g) (by simpa using h)
  rwa [h1] at this
/-- the results of Check -/
def argsOK (wd hi pt ev : Int) : Bool := inB wd 1 64 && inB hi 1 64 && (pt == 1 || pt == 3) && inB ev 0 100
def fcheckZ (wd hi pt : Int) (qs : List Int) (z1 z2 : Int) (ev : Int) (n : Nat) : Int :=
  if argsOK wd hi pt ev && allIn qs 1 255 then (if z1 = 0 then (if z2 = 0 then (if 90000 < n then 2 else 0) else z2) else z1) else 1
end Go.Proofs.Ytkfdkkhhkciocaa
/- Binary digits, numbers and bytes: plain. -/
namespace Go.Proofs.Ytkfdkkhhkciocaa
set_option linter.unusedVariables false
set_option linter.unusedSimpArgs false
/-- the last k binary digits of n, the highest first -/
def digs (n : Nat) : Nat → List Bool
  | 0 => []
  | k + 1 => (n / 2 ^ k % 2 == 1) :: digs n k
/-- the number that digits tell -/
def numB : List Bool → Nat
  | [] => 0
  | b :: l => b.toNat * 2 ^ l.length + numB l
theorem digs_len (n k : Nat) : (digs n k).length = k := by
  induction k with
  | zero => rfl
  | succ k ih => simp [digs, ih]
theorem numB_lt (l : List Bool) : numB l < 2 ^ l.length := by
  induction l with
  | nil => simp [numB]
  | cons b l ih =>
    simp only [numB, List.length_cons, Nat.pow_succ]
    cases b <;> simp <;> omega
theorem numB_append (a b : List Bool) : numB (a ++ b) = numB a * 2 ^ b.length + numB b := by
  induction a with
  | nil => simp [numB]
  | cons x a ih =>
    simp only [List.cons_append, numB, List.length_append, ih, Nat.pow_add, Nat.add_mul, Nat.mul_assoc]
    omega
theorem numB_digs (n k : Nat) : numB (digs n k) = n % 2 ^ k := by
  induction k with
  | zero => simp [digs, numB, Nat.mod_one]
  | succ k ih =>
    simp only [digs, numB, digs_len, ih]
    have e : (n / 2 ^ k % 2 == 1).toNat = n / 2 ^ k % 2 := by
      rcases (show n / 2 ^ k % 2 = 0 ∨ n / 2 ^ k % 2 = 1 by omega) with h | h <;> simp [h]
    rw [e, Nat.pow_succ, Nat.mod_mul, Nat.mul_comm]
    omega
theorem numB_digs_lt {n k : Nat} (h : n < 2 ^ k) : numB (digs n k) = n := by rw [numB_digs, Nat.mod_eq_of_lt h]
theorem numB_inj {a b : List Bool} (hl : a.length = b.length) (h : numB a = numB b) : a = b := by
  induction a generalizing b with
  | nil => cases b with | nil => rfl | cons _ _ => simp at hl
  | cons x a ih =>
    cases b with
    | nil => simp at hl
    | cons y b =>
      have hl' : a.length = b.length := by simpa using hl
      simp only [numB, hl'] at h
      have h1 := numB_lt a
      have h2 := numB_lt b
      rw [hl'] at h1
      have hxy : x = y := by
        cases x <;> cases y <;> simp at h ⊢ <;> omega
      subst hxy
      rw [ih hl' (by omega)]
theorem digs_numB (l : List Bool) : digs (numB l) l.length = l := numB_inj (digs_len _ _) (numB_digs_lt (numB_lt l))
theorem digs_mod (n k m : Nat) (h : k ≤ m) : digs (n % 2 ^ m) k = digs n k := by
  apply numB_inj (by simp [digs_len])
  rw [numB_digs, numB_digs, Nat.mod_mod_of_dvd _ (Nat.pow_dvd_pow 2 h)]
theorem digs_add (x y j k : Nat) (hy : y < 2 ^ j) : digs (x * 2 ^ j + y) (k + j) = digs x k ++ digs y j := by
  apply numB_inj (by simp [digs_len])
  rw [numB_append, digs_len, numB_digs, numB_digs, numB_digs, Nat.mod_eq_of_lt hy, Nat.add_comm k j, Nat.pow_add]
  rw [Nat.mod_mul, Nat.mul_comm x, Nat.mul_add_mod, Nat.mod_eq_of_lt hy, Nat.mul_add_div (Nat.two_pow_pos j), Nat.div_eq_of_lt hy, Nat.add_zero, Nat.mul_comm (2 ^ j), Nat.add_comm]
theorem numB_drop (l : List Bool) (k : Nat) : numB (l.drop k) = numB l % 2 ^ (l.length - k) := by
  have h := numB_append (l.take k) (l.drop k)
  rw [List.take_append_drop] at h
  have h2 := numB_lt (l.drop k)
  rw [List.length_drop] at h h2
  rw [h, Nat.mul_comm, Nat.mul_add_mod, Nat.mod_eq_of_lt h2]
theorem numB_take (l : List Bool) (k : Nat) : numB (l.take k) = numB l / 2 ^ (l.length - k) := by
  have h := numB_append (l.take k) (l.drop k)
  rw [List.take_append_drop] at h
  have h2 := numB_lt (l.drop k)
  rw [List.length_drop] at h h2
  rw [h, Nat.mul_comm, Nat.mul_add_div (Nat.two_pow_pos _), Nat.div_eq_of_lt h2, Nat.add_zero]
/-- the k digits from i on, as a number -/
theorem numB_mid (l : List Bool) (i k : Nat) (h : i + k ≤ l.length) : numB ((l.drop i).take k) = numB l / 2 ^ (l.length - (i + k)) % 2 ^ k := by
  have e : (l.drop i).take k = (l.take (i + k)).drop i := by rw [List.drop_take]; congr 1; omega
  rw [e, numB_drop, numB_take l, List.length_take]
  congr 2
  omega
theorem numB_snoc (l : List Bool) (b : Bool) : numB (l ++ [b]) = 2 * numB l + b.toNat := by
  rw [numB_append]; simp [numB]; omega
/-- whole bytes of digits -/
def packB (l : List Bool) : List Nat := (List.range (l.length / 8)).map fun i => numB ((l.drop (8 * i)).take 8)
/-- the digits behind the whole bytes -/
def restB (l : List Bool) : List Bool := l.drop (8 * (l.length / 8))
theorem packB_len (l : List Bool) : (packB l).length = l.length / 8 := by simp [packB]
theorem restB_len (l : List Bool) : (restB l).length = l.length % 8 := by simp [restB]; omega
theorem packB_lt (l : List Bool) : ∀ x ∈ packB l, x < 256 := by
  intro x hx
  simp only [packB, List.mem_map, List.mem_range] at hx
  obtain ⟨i, hi, rfl⟩ := hx
  have h := numB_lt ((l.drop (8 * i)).take 8)
  have h2 : ((l.drop (8 * i)).take 8).length ≤ 8 := List.length_take_le _ _
  have := Nat.pow_le_pow_right (n := 2) (by omega) h2
  omega
theorem packB_append (l m : List Bool) : packB (l ++ m) = packB l ++ packB (restB l ++ m) := by
  have e : (l ++ m).length / 8 = l.length / 8 + (restB l ++ m).length / 8 := by
    rw [List.length_append, List.length_append, restB_len]; omega
  have key : (l ++ m).drop (8 * (l.length / 8)) = restB l ++ m := by
    rw [List.drop_append_of_le_length (by omega)]; rfl
  unfold packB
  rw [e, List.range_add, List.map_append, List.map_map]
  congr 1
  · apply List.map_congr_left
    intro i hi
    have := List.mem_range.1 hi
    rw [List.drop_append_of_le_length (by omega), List.take_append_of_le_length (by rw [List.length_drop]; omega)]
  · apply List.map_congr_left
    intro i _
    simp only [Function.comp]
    rw [Nat.mul_add, ← List.drop_drop, key]
theorem restB_append (l m : List Bool) : restB (l ++ m) = restB (restB l ++ m) := by
  have key : (l ++ m).drop (8 * (l.length / 8)) = restB l ++ m := by
    rw [List.drop_append_of_le_length (by omega)]; rfl
  rw [restB, restB, ← key, List.drop_drop]
  congr 1
  rw [List.length_drop]
  rw [List.length_append]
  omega
/-- filled up with ones to whole bytes -/
def padB (l : List Bool) : List Bool := l ++ List.replicate ((8 - l.length % 8) % 8) true
theorem padB_len (l : List Bool) : (padB l).length % 8 = 0 := by simp [padB]; omega
theorem numB_ones (k : Nat) : numB (List.replicate k true) = 2 ^ k - 1 := by
  induction k with
  | zero => rfl
  | succ k ih =>
    rw [List.replicate_succ, numB, ih, Nat.pow_succ]
    have := Nat.two_pow_pos k
    simp
    omega
theorem digs_ones (k : Nat) : digs (2 ^ k - 1) k = List.replicate k true := by
  apply numB_inj (by simp [digs_len])
  rw [numB_ones, numB_digs_lt (by have := Nat.two_pow_pos k; omega)]
/-- the digits of bytes -/
def digsOf (b : List Nat) : List Bool := b.flatMap fun x => digs x 8
theorem digsOf_len (b : List Nat) : (digsOf b).length = 8 * b.length := by
  induction b with
  | nil => rfl
  | cons x b ih => simp only [digsOf, List.flatMap_cons, List.length_append, digs_len, List.length_cons] at ih ⊢; omega
theorem digsOf_at (b : List Nat) (i : Nat) (h2 : i < b.length) : ((digsOf b).drop (8 * i)).take 8 = digs b[i] 8 := by
  induction b generalizing i with
  | nil => simp at h2
  | cons x b ih =>
    have e : digsOf (x :: b) = digs x 8 ++ digsOf b := rfl
    rw [e]
    cases i with
    | zero => simp [digs_len]
    | succ i =>
      rw [List.drop_append, List.drop_of_length_le (by rw [digs_len]; omega), digs_len, List.nil_append, show 8 * (i + 1) - 8 = 8 * i by omega]
      have h3 : i < b.length := by simpa using h2
      rw [ih i h3]
      simp
theorem packB_digsOf (b : List Nat) (h : ∀ x ∈ b, x < 256) : packB (digsOf b) = b := by
  have hl := digsOf_len b
  apply List.ext_getElem
  · rw [packB_len, hl]; omega
  · intro i h1 h2
    simp only [packB, List.getElem_map, List.getElem_range]
    rw [digsOf_at b i h2, numB_digs_lt (h _ (List.getElem_mem h2))]
theorem digsOf_append (a b : List Nat) : digsOf (a ++ b) = digsOf a ++ digsOf b := by simp [digsOf]
theorem digsOf_packB (l : List Bool) (h : l.length % 8 = 0) : digsOf (packB l) = l := by
  have key : ∀ k, k ≤ l.length / 8 → digsOf ((List.range k).map fun i => numB ((l.drop (8 * i)).take 8)) = l.take (8 * k) := by
    intro k
    induction k with
    | zero => intro _; simp [digsOf]
    | succ k ih =>
      intro hk
      rw [List.range_succ, List.map_append, digsOf_append, ih (by omega)]
      have e : (l.drop (8 * k)).take 8 = digs (numB ((l.drop (8 * k)).take 8)) 8 := by
        have h1 : ((l.drop (8 * k)).take 8).length = 8 := by simp; omega
        have h2 := digs_numB ((l.drop (8 * k)).take 8)
        rw [h1] at h2
        exact h2.symm
      simp only [List.map_cons, List.map_nil, digsOf, List.flatMap_cons, List.flatMap_nil, List.append_nil]
      rw [← e, show 8 * (k + 1) = 8 * k + 8 by omega, List.take_add]
  unfold packB
  rw [key _ (Nat.le_refl _), List.take_of_length_le (by omega)]
end Go.Proofs.Ytkfdkkhhkciocaa
/- binary of the reference. -/
namespace Go.Proofs.Ytkfdkkhhkciocaa
set_option linter.unusedVariables false
set_option linter.unusedSimpArgs false
open Go.RowKit
/-- the last k binary digits of n, as a string -/
def binS (n : Nat) : Nat → ByteArray
  | 0 => ⟨#[]⟩
  | k + 1 => Utf8.encode (48 + (((n / 2 ^ k) % 2 : Nat) : Int)) ++ binS n k
theorem digit_size (m : Nat) : (Utf8.encode (48 + ((m % 2 : Nat) : Int))).size = 1 := by
  rcases (show m % 2 = 0 ∨ m % 2 = 1 by omega) with h | h <;> rw [h] <;> decide
theorem binS_size (n k : Nat) : (binS n k).size = k := by
  induction k with
  | zero => rfl
  | succ k ih => unfold binS; rw [ByteArray.size_append, digit_size, ih]; omega
set_option maxHeartbeats 400000 in
theorem binary_any (width n : Nat) (w : World) (hw : width ≤ 1000) (hn : n ≤ 1000000000) :
    Calls Try.prog 122 #[.int .i64 (width : Int), .int .i64 (n : Int)] w fun e w' => e = .returned (.string (binS n width)) ∧ w = w' := by
  have HB := hid_ (binS_size n)
  have HN : Hid (∀ k, binS n (k + 1) = Utf8.encode (48 + (((n / 2 ^ k) % 2 : Nat) : Int)) ++ binS n k) := hid_ (fun k => rfl)
  go_enter Try.func122, Try.ntmps122
  go_wp2_with fail
  go_loop [1, 5, 7] (fun v s i => ∃ k m : Nat, k ≤ width ∧ m ≤ 1000000000 ∧ m = n / 2 ^ k ∧ i = .int .i64 (k : Int) ∧ v = .int .i64 (m : Int) ∧ s = .string (binS n k)) (fun _ _ i => width - (intOf i).toNat)
  case atStart => exact ⟨0, n, by omega, hn, by simp, rfl, rfl, rfl⟩
  case round =>
    obtain ⟨k, m, hk, hm, hmn, rfl, rfl, rfl⟩ := hrel
    have HM := hid_ hmn
    clear hmn
    by_cases hlt : k < width
    · have hd := digit_size m
      have hbs := HB.out k
      have HNK := hid_ (HN.out k)
      rw [← HM.out] at HNK
      have em : ((m % 2 : Nat) : Int) = (m : Int) % 2 := by omega
      rw [em] at hd HNK
      clear em
      generalize binS n k = b at *
      generalize hu : Utf8.encode (48 + (m : Int) % 2) = u at *
      have hlim : ¬ 9223372036854775807 < u.size + b.size := by omega
      go_wp2_with fail
      go_round
      case rel => exact ⟨k + 1, m / 2, by omega, by omega, by rw [HM.out, Nat.div_div_eq_div_mul, Nat.pow_succ], by go_num, by simp, by rw [HNK.out]⟩
      case measure => simp [intOf]; omega
    · obtain rfl : k = width := by omega
      go_wp2_with fail
      go_ret
      exact ⟨rfl, rfl⟩
end Go.Proofs.Ytkfdkkhhkciocaa
/- Strings of binary digits. -/
namespace Go.Proofs.Ytkfdkkhhkciocaa
set_option linter.unusedVariables false
set_option linter.unusedSimpArgs false
open Go.RowKit
def chB (b : Bool) : UInt8 := if b then 49 else 48
def strB (l : List Bool) : ByteArray := ⟨(l.map chB).toArray⟩
theorem strB_data (l : List Bool) : (strB l).data.toList = l.map chB := by simp [strB]
theorem strB_size (l : List Bool) : (strB l).size = l.length := by simp [strB, ByteArray.size]
theorem strB_append (a b : List Bool) : strB (a ++ b) = strB a ++ strB b := by
  apply ByteArray.ext
  simp [strB, ByteArray.data_append]
theorem chB_nat (b : Bool) : (chB b).toNat = 48 + b.toNat := by cases b <;> rfl
theorem strB_get (l : List Bool) (k : Nat) (h : k < (strB l).size) (h2 : k < l.length) : ((strB l)[k]'h).toNat = 48 + l[k].toNat := by
  rw [← chB_nat]
  simp [strB, ByteArray.getElem_eq_getElem_data]
theorem chB_inj {a b : Bool} (h : chB a = chB b) : a = b := by cases a <;> cases b <;> first | rfl | (exfalso; revert h; decide)
theorem strB_inj {a b : List Bool} (h : strB a = strB b) : a = b := by
  have := congrArg (fun x => x.data.toList) h
  simp only [strB_data] at this
  exact List.map_inj_right (fun _ _ => chB_inj) |>.1 this
theorem encode_digit (d : Nat) (h : d % 2 = d) : Utf8.encode (48 + (d : Int)) = strB [d == 1] := by
  rcases (show d = 0 ∨ d = 1 by omega) with rfl | rfl <;> rfl
theorem binS_strB (n k : Nat) : binS n k = strB (digs n k) := by
  induction k with
  | zero => rfl
  | succ k ih =>
    show Utf8.encode (48 + (((n / 2 ^ k) % 2 : Nat) : Int)) ++ binS n k = _
    rw [encode_digit _ (by omega), ih, ← strB_append]
    rfl
theorem strB_extract (l : List Bool) (i j : Nat) (hi : i ≤ j) : (strB l).extract i j = strB ((l.drop i).take (j - i)) := by
  apply ByteArray.ext
  apply Array.ext'
  simp [strB, ByteArray.data_extract, List.map_take, List.map_drop]
theorem numB_take_succ (l : List Bool) (k : Nat) (h : k < l.length) : numB (l.take (k + 1)) = 2 * numB (l.take k) + l[k].toNat := by
  rw [List.take_succ_eq_append_getElem h, numB_snoc]
theorem numB_le (l : List Bool) (n : Nat) (h : l.length ≤ n) : numB l < 2 ^ n := by
  have h1 := numB_lt l
  have := Nat.pow_le_pow_right (n := 2) (by omega) h
  omega
end Go.Proofs.Ytkfdkkhhkciocaa
/- Arguments opened: what their reading says of their cells. -/
namespace Go.Proofs.Ytkfdkkhhkciocaa
set_option linter.unusedVariables false
set_option linter.unusedSimpArgs false
open Go.RowKit Go.ChangeShapes Go.WideShapes Go.ChangeAt
def inI64 (z : Int) : Prop := -9223372036854775808 ≤ z ∧ z ≤ 9223372036854775807
theorem inI64_of_wf {z : Int} (h : (Lit.int .i64 z).wf = true) : inI64 z := by
  simp [Lit.wf, IntKind.min, IntKind.max, IntKind.signed, IntKind.bits] at h
  exact ⟨by omega, by omega⟩
theorem ints_of_cells {Q : Int → Prop} : ∀ (cs : List Value), (∀ i, i < cs.length → ∃ z, cs[i]? = some (.int .i64 z) ∧ Q z) → ∃ zs : List Int, cs = ints zs ∧ ∀ z ∈ zs, Q z
  | [], _ => ⟨[], rfl, by simp⟩
  | c :: cs, h => by
    obtain ⟨z, hz, hq⟩ := h 0 (by simp)
    obtain ⟨zs, rfl, hqs⟩ := ints_of_cells cs (fun i hi => by have := h (i + 1) (by simpa using hi); simpa using this)
    refine ⟨z :: zs, ?_, ?_⟩
    · simp at hz; subst hz; rfl
    · intro y hy
      cases hy with
      | head => exact hq
      | tail _ hy => exact hqs y hy
section
variable {H : Type} {enc : TypeId × Value → H} {P : Program} {w : World} {base : Nat} {spare : Nat → Bool} {held : Bool}
theorem trod_int_cell {t : TypeId} {fuel : Nat} {cs : List Value} {x : DataW H × List MemPlace} (ht : P.underlying t = some (.int .i64)) (h : DataW.trod enc P w base spare held fuel t cs = some x) :
    ∃ z, cs = [.int .i64 z] ∧ inI64 z := by
  obtain ⟨z, e, -, hw⟩ := DataW.trod_int ht h
  exact ⟨z, e, inI64_of_wf hw⟩
theorem trod_ints_arr {n : Nat} {t e : TypeId} {fuel : Nat} {cs : List Value} {x : DataW H × List MemPlace} (ht : P.underlying t = some (.array n e)) (he : P.underlying e = some (.int .i64)) (hce : P.cellsOf e = 1) (hct : P.cellsOf t = n)
    (h : DataW.trod enc P w base spare held fuel t cs = some x) : ∃ zs : List Int, zs.length = n ∧ cs = ints zs ∧ ∀ z ∈ zs, inI64 z := by
  obtain ⟨xs, m, -, -, hlen, hxl, hi⟩ := DataW.trod_array ht h
  rw [hct] at hlen
  have hcells : ∀ i, i < cs.length → ∃ z, cs[i]? = some (.int .i64 z) ∧ inI64 z := by
    intro i hlt
    have h1 := hi i (by omega)
    rw [hce, Nat.mul_one] at h1
    have hx : xs[i]? = some (xs[i]'(by omega)) := List.getElem?_eq_getElem (by omega)
    rw [hx] at h1
    obtain ⟨z, hz, hq⟩ := trod_int_cell he h1
    refine ⟨z, ?_, hq⟩
    rw [List.drop_eq_getElem_cons hlt] at hz
    simp only [List.take_succ_cons, List.take_zero, List.cons.injEq, and_true] at hz
    rw [List.getElem?_eq_getElem hlt, hz]
  obtain ⟨zs, rfl, hq⟩ := ints_of_cells cs hcells
  exact ⟨zs, by simpa [ints_len] using hlen, rfl, hq⟩
theorem okWide_array {P : Program} {w : World} {r : Reach} {base : Nat} {t e : TypeId} {n : Nat} {v : Value} (ht : P.underlying t = some (.array n e)) (h : Value.okWide P w r base t v) : ∃ cs, v = .agg cs ∧ cs.size = P.cellsOf t := by
  simp only [Value.okWide, ht] at h
  obtain ⟨cs, h1, h2, _⟩ := h
  exact ⟨cs, h1, h2⟩
theorem cells64 : Try.prog.cellsOf 24 = 64 := by kernel_rfl
theorem cellsInt : Try.prog.cellsOf 3 = 1 := by kernel_rfl
set_option maxRecDepth 8000 in
theorem open_block {w : World} {base b0 : Nat} {r : Reach} {v : Value} {d : DataW H} {p : List MemPlace} (hv : Value.okWide Try.prog w r b0 24 v) (h : DataW.Trod enc Try.prog w base spare held 24 v d p) :
    ∃ zs : List Int, v = .agg (ints zs).toArray ∧ zs.length = 64 ∧ ∀ z ∈ zs, inI64 z := by
  obtain ⟨cs, rfl, hsz⟩ := okWide_array Try.underlying24 hv
  obtain ⟨fuel, hf⟩ := h
  obtain ⟨zs, hl, hc, hq⟩ := trod_ints_arr Try.underlying24 Try.underlying3 cellsInt cells64 hf
  refine ⟨zs, ?_, hl, hq⟩
  have : cs.toList = ints zs := hc
  rw [← this]
end
end Go.Proofs.Ytkfdkkhhkciocaa
/- Opening a parameter: a list of integers, a table. -/
namespace Go.Proofs.Ytkfdkkhhkciocaa
set_option linter.unusedVariables false
set_option linter.unusedSimpArgs false
open Go.RowKit Go.ChangeShapes Go.WideShapes Go.ChangeAt
section
variable {H : Type} {enc : TypeId × Value → H} {w : World} {base : Nat} {spare : Nat → Bool} {held : Bool}
theorem open_intsX {fuel : Nat} {cs : List Value} {x : DataW H × List MemPlace} (h : DataW.trod enc Try.prog w base spare held fuel 30 cs = some x) :
    ∃ (zs : List Int) (v : Value), cs = [v] ∧ SL w 1 v zs.length (ints zs) ∧ ∀ z ∈ zs, inI64 z := by
  rcases open_ints Try.underlying30 Try.underlying3 cellsInt h with ⟨rfl, -⟩ | ⟨a, len, cap, zs, rfl, -, hlc, hcm, hzl, -, hcell, hwf⟩
  · exact ⟨[], _, rfl, SL.nil w 1, by simp⟩
  · have hlen : len ≤ zs.length := by rw [hzl]; split <;> omega
    refine ⟨zs.take len, _, rfl, ?_, fun z hz => inI64_of_wf (hwf z (List.mem_of_mem_take hz))⟩
    have hl : (zs.take len).length = len := by rw [List.length_take]; omega
    rw [hl]
    refine ⟨some a, cap, rfl, hlc, by unfold maxLen at hcm; omega, by rw [ints_len, hl]; omega, fun h0 => ⟨a, rfl, ?_, fun j u hu => ?_⟩⟩
    · have := hcell 0 (by omega)
      have h2 := World.block_lt_of_cell? w _ this
      rwa [block_of_add] at h2
    · obtain ⟨hj, rfl⟩ := ints_at _ _ _ hu
      have hj2 : j < len := by omega
      rw [hcell j (by omega)]
      simp [List.getD_eq_getElem?_getD, show j < zs.length by omega]
theorem cells16 : Try.prog.cellsOf 39 = 16 := by kernel_rfl
theorem cellsSl : Try.prog.cellsOf 30 = 1 := by kernel_rfl
theorem cellsTbl : Try.prog.cellsOf 41 = 17 := by kernel_rfl
set_option maxRecDepth 20000 in
theorem open_table {b0 : Nat} {r : Reach} {v : Value} {d : DataW H} {p : List MemPlace} (hv : Value.okWide Try.prog w r b0 41 v) (h : DataW.Trod enc Try.prog w base spare held 41 v d p) :
    ∃ (zs xs : List Int) (sl : Value), v = .agg (tblv zs sl) ∧ zs.length = 16 ∧ (∀ z ∈ zs, inI64 z) ∧ SL w 1 sl xs.length (ints xs) ∧ ∀ z ∈ xs, inI64 z := by
  obtain ⟨cs, rfl, hsz⟩ := okWide_struct Try.underlying41 hv
  obtain ⟨fuel, hf⟩ := h
  obtain ⟨y0, y1, n, -, hlen, h0, h1⟩ := trod_struct2 Try.underlying41 hf
  have hL : cs.toList.length = 17 := by rw [show cs.toList.length = cs.size by simp, hsz, cellsTbl]
  have hcs : (Value.agg cs).cells.toList = cs.toList := rfl
  rw [hcs] at h0 h1
  dsimp only at h0 h1
  obtain ⟨zs, hz, hc, hq⟩ := trod_ints_arr Try.underlying39 Try.underlying3 cellsInt cells16 h0
  obtain ⟨xs, sl, hs, hsl, hxq⟩ := open_intsX h1
  rw [cells16, List.drop_zero] at hc
  rw [cellsSl] at hs
  refine ⟨zs, xs, sl, ?_, hz, hq, hsl, hxq⟩
  have e2 : cs.toList.drop 16 = [sl] := by
    rw [← hs]
    rw [List.take_of_length_le (by rw [List.length_drop, hL]; omega)]
  have e : cs.toList = ints zs ++ [sl] := by
    rw [← hc, ← e2, List.take_append_drop]
  congr 1
  apply Array.ext'
  rw [e]
  simp [tblv]
end
end Go.Proofs.Ytkfdkkhhkciocaa
/- Opening a parameter that is a slice. -/
namespace Go.Proofs.Ytkfdkkhhkciocaa
set_option linter.unusedVariables false
set_option linter.unusedSimpArgs false
open Go.RowKit Go.ChangeShapes Go.WideShapes Go.ChangeAt
section
variable {H : Type} {enc : TypeId × Value → H} {w : World} {base : Nat} {spare : Nat → Bool} {held : Bool}
theorem slice_value {P : Program} {r : Reach} {b0 : Nat} {t e : TypeId} {v : Value} {u : Value} (ht : P.underlying t = some (.slice e)) (hv : Value.okWide P w r b0 t v) (hc : v.cells.toList = [u]) (hu : ∀ cs, u ≠ .agg cs) : v = u := by
  cases v with
  | agg cs =>
    simp [Value.okWide, ht, Cell.okWide, Cell.ok] at hv
  | _ => simpa [Value.cells] using hc
set_option maxRecDepth 20000 in
theorem open_ints_v {b0 : Nat} {r : Reach} {v : Value} {d : DataW H} {p : List MemPlace} (hv : Value.okWide Try.prog w r b0 30 v) (h : DataW.Trod enc Try.prog w base spare held 30 v d p) :
    ∃ zs : List Int, SL w 1 v zs.length (ints zs) ∧ ∀ z ∈ zs, inI64 z := by
  obtain ⟨fuel, hf⟩ := h
  obtain ⟨zs, u, hcs, hs, hz⟩ := open_intsX hf
  have : v = u := slice_value Try.underlying30 hv hcs (by obtain ⟨A, c, rfl, -⟩ := hs; simp)
  subst this
  exact ⟨zs, hs, hz⟩
theorem bytes_of (zs : List Int) (h : ∀ n ∈ zs, (Lit.int .u8 n).wf = true) : ∃ bs : List Nat, zs.map (Value.int .u8) = bytesV bs ∧ ∀ b ∈ bs, b < 256 := by
  refine ⟨zs.map Int.toNat, ?_, ?_⟩
  · unfold bytesV
    rw [List.map_map]
    apply List.map_congr_left
    intro z hz
    have := h z hz
    simp [Lit.wf, IntKind.min, IntKind.max, IntKind.signed, IntKind.bits] at this
    simp; omega
  · intro b hb
    obtain ⟨z, hz, rfl⟩ := List.mem_map.1 hb
    have := h z hz
    simp [Lit.wf, IntKind.min, IntKind.max, IntKind.signed, IntKind.bits] at this
    omega
set_option maxRecDepth 20000 in
theorem open_bytes_v {b0 : Nat} {r : Reach} {v : Value} {d : DataW H} {p : List MemPlace} (hv : Value.okWide Try.prog w r b0 38 v) (h : DataW.Trod enc Try.prog w base spare held 38 v d p) :
    ∃ bs : List Nat, SL w 1 v bs.length (bytesV bs) ∧ ∀ b ∈ bs, b < 256 := by
  obtain ⟨fuel, hf⟩ := h
  rcases open_ints Try.underlying38 Try.underlying5 (by kernel_rfl) hf with ⟨hcs, -⟩ | ⟨a, len, cap, zs, hcs, -, hlc, hcm, hzl, -, hcell, hwf⟩
  · obtain rfl := slice_value Try.underlying38 hv hcs (by simp)
    exact ⟨[], SL.nil w 1, by simp⟩
  · obtain rfl := slice_value Try.underlying38 hv hcs (by simp)
    have hlen : len ≤ zs.length := by rw [hzl]; split <;> omega
    obtain ⟨bs, hbs, hlt⟩ := bytes_of (zs.take len) (fun n hn => hwf n (List.mem_of_mem_take hn))
    have hl : bs.length = len := by
      have := congrArg List.length hbs
      simp [bytesV] at this
      omega
    refine ⟨bs, ?_, hlt⟩
    rw [hl]
    refine ⟨some a, cap, rfl, hlc, by unfold maxLen at hcm; omega, by rw [bytesV_len, hl]; omega, fun h0 => ⟨a, rfl, ?_, fun j u hu => ?_⟩⟩
    · have := hcell 0 (by omega)
      have h2 := World.block_lt_of_cell? w _ this
      rwa [block_of_add] at h2
    · rw [← hbs, List.getElem?_map] at hu
      obtain ⟨z, hz, rfl⟩ := Option.map_eq_some_iff.1 hu
      have hj : j < len := by have := (List.getElem?_eq_some_iff.1 hz).1; simp at this; omega
      rw [List.getElem?_take_of_lt hj] at hz
      rw [hcell j (by omega)]
      simp [List.getD_eq_getElem?_getD, hz]
end
end Go.Proofs.Ytkfdkkhhkciocaa
/- Reading bits off bytes: plain. -/
namespace Go.Proofs.Ytkfdkkhhkciocaa
set_option linter.unusedVariables false
set_option linter.unusedSimpArgs false
open Go.RowKit
theorem digs_get (n : Nat) : ∀ (k j : Nat) (h : j < (digs n k).length), ((digs n k)[j]).toNat = n / 2 ^ (k - 1 - j) % 2
  | 0, j, h => by simp [digs] at h
  | k + 1, 0, _ => by
    simp only [digs, List.getElem_cons_zero, Nat.add_sub_cancel, Nat.sub_zero]
    rcases (show n / 2 ^ k % 2 = 0 ∨ n / 2 ^ k % 2 = 1 by omega) with h | h <;> simp [h]
  | k + 1, j + 1, h => by
    have := digs_get n k j (by simpa [digs] using h)
    simp only [digs, List.getElem_cons_succ]
    rw [this]
    congr 3
    omega
theorem digsOf_get (b : List Nat) (p : Nat) (h : p < (digsOf b).length) (h2 : p / 8 < b.length) : ((digsOf b)[p]).toNat = b[p / 8] / 2 ^ (7 - p % 8) % 2 := by
  have e := digsOf_at b (p / 8) h2
  have hl : p % 8 < (digs b[p / 8] 8).length := by rw [digs_len]; omega
  have e2 : (digsOf b)[p] = (digs b[p / 8] 8)[p % 8] := by
    have h3 : (((digsOf b).drop (8 * (p / 8))).take 8)[p % 8]? = (digsOf b)[p]? := by
      rw [List.getElem?_take_of_lt (by omega), List.getElem?_drop]
      congr 1
      omega
    rw [e, List.getElem?_eq_getElem hl, List.getElem?_eq_getElem h] at h3
    exact (Option.some.inj h3).symm
  rw [e2, digs_get]
/-- one bit more -/
theorem numB_next (b : List Nat) (at' i : Nat) (h : at' + i < (digsOf b).length) (h2 : (at' + i) / 8 < b.length) :
    numB (((digsOf b).drop at').take (i + 1)) = 2 * numB (((digsOf b).drop at').take i) + b[(at' + i) / 8] / 2 ^ (7 - (at' + i) % 8) % 2 := by
  rw [numB_take_succ _ _ (by simp; omega)]
  congr 1
  rw [← digsOf_get b (at' + i) h h2]
  congr 1
  simp
theorem numB_take_lt (l : List Bool) (i k : Nat) (h : i ≤ k) : numB (l.take i) < 2 ^ k := numB_le _ _ (by rw [List.length_take]; omega)
/-- what Read answers: the values, how many bits, the error -/
def rdGo (D : List Bool) : List Int → Nat → List Int → List Int × Int × Int
  | [], p, acc => (acc, p, 0)
  | z :: ws, p, acc => if inB z 0 24 then (if p + z.toNat ≤ D.length then rdGo D ws (p + z.toNat) (acc ++ [(numB ((D.drop p).take z.toNat) : Int)]) else ([], 0, 3)) else ([], 0, 1)
def rdZ (D : List Bool) (ws : List Int) : List Int × Int × Int := if ws.length ≤ 20000 then rdGo D ws 0 [] else ([], 0, 2)
theorem rdGo_bad {D : List Bool} {z : Int} {ws : List Int} {p : Nat} {acc : List Int} (h : inB z 0 24 = false) : rdGo D (z :: ws) p acc = ([], 0, 1) := by simp [rdGo, h]
theorem rdGo_out {D : List Bool} {z : Int} {ws : List Int} {p : Nat} {acc : List Int} (h : inB z 0 24 = true) (h2 : ¬ p + z.toNat ≤ D.length) : rdGo D (z :: ws) p acc = ([], 0, 3) := by simp [rdGo, h, h2]
theorem rdGo_one {D : List Bool} {z : Int} {ws : List Int} {p : Nat} {acc : List Int} (h : inB z 0 24 = true) (h2 : p + z.toNat ≤ D.length) :
    rdGo D (z :: ws) p acc = rdGo D ws (p + z.toNat) (acc ++ [(numB ((D.drop p).take z.toNat) : Int)]) := by simp [rdGo, h, h2]
section
variable {o : Oper} {a : Act} {P : Program}
theorem ex_nil {x : Operand} (ho : o.op = .nilCheck x) {p : Addr} (hx : a.eval x = .pointer (some p)) (w : World) : (execOp a.eval o).run P w = .ok (.value (.pointer (some p))) w := by
  simp [execOp, ho, hx]
theorem ex_binK {op : BinOp} {t : TypeId} {x y : Operand} {t2 : TypeId} (ho : o.op = .binOp op t x y t2) {k k' : IntKind} {m n : Int} (hx : a.eval x = .int k m) (hy : a.eval y = .int k' n) {v : Value}
    (hr : ∀ w, (binOp op t (.int k m) (.int k' n)).run P w = .ok v w) (w : World) : (execOp a.eval o).run P w = .ok (.value v) w := by
  simp [execOp, ho, hx, hy, guardG, hr]
end
theorem run_shl_one (m : Nat) (h : m < 1099511627776) (W : World) : (binOp .shl 3 (.int .i64 (m : Int)) (.int .u64 1)).run Try.prog W = .ok (.int .i64 ((2 * m : Nat) : Int)) W := by
  have e : IntKind.i64.wrap ((m : Int) * 2 ^ (min 1 IntKind.i64.bits)) = ((2 * m : Nat) : Int) := by
    rw [show min 1 IntKind.i64.bits = 1 by decide, IntWalk.i64_in _ (by omega)]; omega
  have e3 : (2 * (m : Int)) = ((2 * m : Nat) : Int) := by omega
  simp [binOp, Op.shift, e]
theorem run_shr8 (x s : Nat) (hx : x < 256) (hs : s < 8) (W : World) : (binOp .shr 5 (.int .u8 (x : Int)) (.int .i64 (s : Int))).run Try.prog W = .ok (.int .u8 ((x / 2 ^ s : Nat) : Int)) W := by
  have e2 : ¬ ((s : Int) < 0) := by omega
  have hs' : s = 0 ∨ s = 1 ∨ s = 2 ∨ s = 3 ∨ s = 4 ∨ s = 5 ∨ s = 6 ∨ s = 7 := by omega
  rcases hs' with rfl | rfl | rfl | rfl | rfl | rfl | rfl | rfl <;> simp [binOp, Op.shift]
theorem run_and8 (y : Nat) (h : y < 256) (W : World) : (binOp .and 5 (.int .u8 (y : Int)) (.int .u8 1)).run Try.prog W = .ok (.int .u8 ((y % 2 : Nat) : Int)) W := by
  have e : bits .and .u8 (y : Int) 1 = ((y % 2 : Nat) : Int) := by
    have : ∀ y : Fin 256, bits .and .u8 ((y.val : Nat) : Int) 1 = ((y.val % 2 : Nat) : Int) := by decide +kernel
    exact this ⟨y, h⟩
  simp [binOp, intBits_and, e]
theorem run_or2 (m b : Nat) (h : m < 1099511627776) (hb : b < 2) (W : World) : (binOp .or 3 (.int .i64 ((2 * m : Nat) : Int)) (.int .i64 (b : Int))).run Try.prog W = .ok (.int .i64 ((2 * m + b : Nat) : Int)) W := by
  have e : bits .or .i64 ((2 * m : Nat) : Int) (b : Int) = ((2 * m + b : Nat) : Int) := by
    have hx : 2 * m ||| b = 2 * m + b := nat_join1 _ _ (by omega) hb
    show IntKind.i64.wrap ((BitVec.ofInt 64 ((2 * m : Nat) : Int) ||| BitVec.ofInt 64 (b : Int)).toNat : Int) = _
    rw [BitVec.toNat_or, BitVec.ofInt_natCast, BitVec.ofInt_natCast, BitVec.toNat_ofNat, BitVec.toNat_ofNat, Nat.mod_eq_of_lt (by omega), Nat.mod_eq_of_lt (by omega), hx]
    exact IntWalk.i64_in _ (by omega)
  have e2 : binOp .or 3 (.int .i64 ((2 * m : Nat) : Int)) (.int .i64 (b : Int)) = pure (.int .i64 (bits .or .i64 ((2 * m : Nat) : Int) (b : Int))) := by rw [binOp_or, intBits_or]
  rw [e2, e]
  rfl
theorem sizeU8' : (Try.prog.info? 5).map (·.size) = some 1 := by kernel_rfl
end Go.Proofs.Ytkfdkkhhkciocaa
/- A load of a slice of integers; a store of one. -/
namespace Go.Proofs.Ytkfdkkhhkciocaa
set_option linter.unusedVariables false
set_option linter.unusedSimpArgs false
open Go.RowKit
theorem ex_loadL {o : Oper} {a : Act} {x : Operand} (ho : o.op = .load 30 x) {p : Addr} (hx : a.eval x = .pointer (some p)) {A : Option Addr} {n c : Nat} {w : World} (h : w.cell? p = some (.slice A n c)) : (execOp a.eval o).run Try.prog w = .ok (.value (.slice A n c)) w := by
  have hr : (loadVar 30 p).run Try.prog w = .ok (.slice A n c) w := by
    have hi : (Try.prog.info? 30).map (·.size) = some 1 := by kernel_rfl
    simp [loadVar, Sem.run_bind, isAgg, run_underlying Try.underlying30, run_load, h]
  simp [execOp, ho, hx, Instr.loadAt, Instr.sureAddr, Sem.run_bind, hr]
theorem wl_storeL {ops : Array Oper} {Q : Exit → Act → World → Prop} {rest : List Oper} {o : Oper} {a : Act} {w : World} (hg : o.guard = none) (x y : Operand) (ho : o.op = .store 30 x y) (g i : Nat) (A : Option Addr) (n c : Nat) (hx : a.eval x = .pointer (some ⟨g, i, none⟩)) (hy : a.eval y = .slice A n c)
    {t : TypeId} {cs : Array Value} (hB : Blk w g t cs) (hi : i < cs.size) (h : wpList Try.prog ops Q rest (a.put o.dst undef) (w.setCell ⟨g, i, none⟩ (.slice A n c))) : wpList Try.prog ops Q (o :: rest) a w :=
  wpList_plain hg fun _ hK => by
    have hc := (hB.cell i).trans (Array.getElem?_eq_getElem hi)
    have hf := hB.frozen i
    unfold Oper.wp execOp
    simp only [ho, hx, hy]
    go_simp
    exact hK _ _ h
end Go.Proofs.Ytkfdkkhhkciocaa
