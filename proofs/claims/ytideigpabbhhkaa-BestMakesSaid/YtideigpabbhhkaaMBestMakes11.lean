/- Contracts for the law BestMakes, part 11: what the functions that it reaches answer, for all arguments that the theorems name. -/
import Derived.WalkKit
import Derived.Test.YtideigpabbhhkaaMBestMakes1
import Derived.Test.YtideigpabbhhkaaMBestMakes2
import Derived.Test.YtideigpabbhhkaaMBestMakes10
/- Binary digits, numbers and bytes: plain. -/
namespace Go.Proofs.Ytideigpabbhhkaa
set_option linter.unusedVariables false
set_option linter.unusedSimpArgs false
/-- the last k binary digits of n, the highest first -/
def digs (n : Nat) : Nat → List Bool
  | 0 => []
  | k + 1 => (n / 2 ^ k % 2 == 1) :: digs n k
/-- the number that digits tell -/
def numB : List Bool → Nat
  | [] => 0
  | b :: l => b.toNat * 2 ^ l.length + numB l
theorem digs_len (n k : Nat) : (digs n k).length = k := by
  induction k with
  | zero => rfl
  | succ k ih => simp [digs, ih]
theorem numB_lt (l : List Bool) : numB l < 2 ^ l.length := by
  induction l with
  | nil => simp [numB]
  | cons b l ih =>
    simp only [numB, List.length_cons, Nat.pow_succ]
    cases b <;> simp <;> omega
theorem numB_append (a b : List Bool) : numB (a ++ b) = numB a * 2 ^ b.length + numB b := by
  induction a with
  | nil => simp [numB]
  | cons x a ih =>
    simp only [List.cons_append, numB, List.length_append, ih, Nat.pow_add, Nat.add_mul, Nat.mul_assoc]
    omega
theorem numB_digs (n k : Nat) : numB (digs n k) = n % 2 ^ k := by
  induction k with
  | zero => simp [digs, numB, Nat.mod_one]
  | succ k ih =>
    simp only [digs, numB, digs_len, ih]
    have e : (n / 2 ^ k % 2 == 1).toNat = n / 2 ^ k % 2 := by
      rcases (show n / 2 ^ k % 2 = 0 ∨ n / 2 ^ k % 2 = 1 by omega) with h | h <;> simp [h]
    rw [e, Nat.pow_succ, Nat.mod_mul, Nat.mul_comm]
    omega
theorem numB_digs_lt {n k : Nat} (h : n < 2 ^ k) : numB (digs n k) = n := by rw [numB_digs, Nat.mod_eq_of_lt h]
theorem numB_inj {a b : List Bool} (hl : a.length = b.length) (h : numB a = numB b) : a = b := by
  induction a generalizing b with
  | nil => cases b with | nil => rfl | cons _ _ => simp at hl
  | cons x a ih =>
    cases b with
    | nil => simp at hl
    | cons y b =>
      have hl' : a.length = b.length := by simpa using hl
      simp only [numB, hl'] at h
      have h1 := numB_lt a
      have h2 := numB_lt b
      rw [hl'] at h1
      have hxy : x = y := by
        cases x <;> cases y <;> simp at h ⊢ <;> omega
      subst hxy
      rw [ih hl' (by omega)]
theorem digs_numB (l : List Bool) : digs (numB l) l.length = l := numB_inj (digs_len _ _) (numB_digs_lt (numB_lt l))
theorem digs_mod (n k m : Nat) (h : k ≤ m) : digs (n % 2 ^ m) k = digs n k := by
  apply numB_inj (by simp [digs_len])
  rw [numB_digs, numB_digs, Nat.mod_mod_of_dvd _ (Nat.pow_dvd_pow 2 h)]
theorem digs_add (x y j k : Nat) (hy : y < 2 ^ j) : digs (x * 2 ^ j + y) (k + j) = digs x k ++ digs y j := by
  apply numB_inj (by simp [digs_len])
  rw [numB_append, digs_len, numB_digs, numB_digs, numB_digs, Nat.mod_eq_of_lt hy, Nat.add_comm k j, Nat.pow_add]
  rw [Nat.mod_mul, Nat.mul_comm x, Nat.mul_add_mod, Nat.mod_eq_of_lt hy, Nat.mul_add_div (Nat.two_pow_pos j), Nat.div_eq_of_lt hy, Nat.add_zero, Nat.mul_comm (2 ^ j), Nat.add_comm]
theorem numB_drop (l : List Bool) (k : Nat) : numB (l.drop k) = numB l % 2 ^ (l.length - k) := by
  have h := numB_append (l.take k) (l.drop k)
  rw [List.take_append_drop] at h
  have h2 := numB_lt (l.drop k)
  rw [List.length_drop] at h h2
  rw [h, Nat.mul_comm, Nat.mul_add_mod, Nat.mod_eq_of_lt h2]
theorem numB_take (l : List Bool) (k : Nat) : numB (l.take k) = numB l / 2 ^ (l.length - k) := by
  have h := numB_append (l.take k) (l.drop k)
  rw [List.take_append_drop] at h
  have h2 := numB_lt (l.drop k)
  rw [List.length_drop] at h h2
  rw [h, Nat.mul_comm, Nat.mul_add_div (Nat.two_pow_pos _), Nat.div_eq_of_lt h2, Nat.add_zero]
/-- the k digits from i on, as a number -/
theorem numB_mid (l : List Bool) (i k : Nat) (h : i + k ≤ l.length) : numB ((l.drop i).take k) = numB l / 2 ^ (l.length - (i + k)) % 2 ^ k := by
  have e : (l.drop i).take k = (l.take (i + k)).drop i := by rw [List.drop_take]; congr 1; omega
  rw [e, numB_drop, numB_take l, List.length_take]
  congr 2
  omega
theorem numB_snoc (l : List Bool) (b : Bool) : numB (l ++ [b]) = 2 * numB l + b.toNat := by
  rw [numB_append]; simp [numB]; omega
/-- whole bytes of digits -/
def packB (l : List Bool) : List Nat := (List.range (l.length / 8)).map fun i => numB ((l.drop (8 * i)).take 8)
/-- the digits behind the whole bytes -/
def restB (l : List Bool) : List Bool := l.drop (8 * (l.length / 8))
theorem packB_len (l : List Bool) : (packB l).length = l.length / 8 := by simp [packB]
theorem restB_len (l : List Bool) : (restB l).length = l.length % 8 := by simp [restB]; omega
theorem packB_lt (l : List Bool) : ∀ x ∈ packB l, x < 256 := by
  intro x hx
  simp only [packB, List.mem_map, List.mem_range] at hx
  obtain ⟨i, hi, rfl⟩ := hx
  have h := numB_lt ((l.drop (8 * i)).take 8)
  have h2 : ((l.drop (8 * i)).take 8).length ≤ 8 := List.length_take_le _ _
  have := Nat.pow_le_pow_right (n := 2) (by omega) h2
  omega
theorem packB_append (l m : List Bool) : packB (l ++ m) = packB l ++ packB (restB l ++ m) := by
  have e : (l ++ m).length / 8 = l.length / 8 + (restB l ++ m).length / 8 := by
    rw [List.length_append, List.length_append, restB_len]; omega
  have key : (l ++ m).drop (8 * (l.length / 8)) = restB l ++ m := by
    rw [List.drop_append_of_le_length (by omega)]; rfl
  unfold packB
  rw [e, List.range_add, List.map_append, List.map_map]
  congr 1
  · apply List.map_congr_left
    intro i hi
    have := List.mem_range.1 hi
    rw [List.drop_append_of_le_length (by omega), List.take_append_of_le_length (by rw [List.length_drop]; omega)]
  · apply List.map_congr_left
    intro i _
    simp only [Function.comp]
    rw [Nat.mul_add, ← List.drop_drop, key]
theorem restB_append (l m : List Bool) : restB (l ++ m) = restB (restB l ++ m) := by
  have key : (l ++ m).drop (8 * (l.length / 8)) = restB l ++ m := by
    rw [List.drop_append_of_le_length (by omega)]; rfl
  rw [restB, restB, ← key, List.drop_drop]
  congr 1
  rw [List.length_drop]
  rw [List.length_append]
  omega
/-- filled up with ones to whole bytes -/
def padB (l : List Bool) : List Bool := l ++ List.replicate ((8 - l.length % 8) % 8) true
theorem padB_len (l : List Bool) : (padB l).length % 8 = 0 := by simp [padB]; omega
theorem numB_ones (k : Nat) : numB (List.replicate k true) = 2 ^ k - 1 := by
  induction k with
  | zero => rfl
  | succ k ih =>
    rw [List.replicate_succ, numB, ih, Nat.pow_succ]
    have := Nat.two_pow_pos k
    simp
    omega
theorem digs_ones (k : Nat) : digs (2 ^ k - 1) k = List.replicate k true := by
  apply numB_inj (by simp [digs_len])
  rw [numB_ones, numB_digs_lt (by have := Nat.two_pow_pos k; omega)]
/-- the digits of bytes -/
def digsOf (b : List Nat) : List Bool := b.flatMap fun x => digs x 8
theorem digsOf_len (b : List Nat) : (digsOf b).length = 8 * b.length := by
  induction b with
  | nil => rfl
  | cons x b ih => simp only [digsOf, List.flatMap_cons, List.length_append, digs_len, List.length_cons] at ih ⊢; omega
theorem digsOf_at (b : List Nat) (i : Nat) (h2 : i < b.length) : ((digsOf b).drop (8 * i)).take 8 = digs b[i] 8 := by
  induction b generalizing i with
  | nil => simp at h2
  | cons x b ih =>
    have e : digsOf (x :: b) = digs x 8 ++ digsOf b := rfl
    rw [e]
    cases i with
    | zero => simp [digs_len]
    | succ i =>
      rw [List.drop_append, List.drop_of_length_le (by rw [digs_len]; omega), digs_len, List.nil_append, show 8 * (i + 1) - 8 = 8 * i by omega]
      have h3 : i < b.length := by simpa using h2
      rw [ih i h3]
      simp
theorem packB_digsOf (b : List Nat) (h : ∀ x ∈ b, x < 256) : packB (digsOf b) = b := by
  have hl := digsOf_len b
  apply List.ext_getElem
  · rw [packB_len, hl]; omega
  · intro i h1 h2
    simp only [packB, List.getElem_map, List.getElem_range]
    rw [digsOf_at b i h2, numB_digs_lt (h _ (List.getElem_mem h2))]
theorem digsOf_append (a b : List Nat) : digsOf (a ++ b) = digsOf a ++ digsOf b := by simp [digsOf]
theorem digsOf_packB (l : List Bool) (h : l.length % 8 = 0) : digsOf (packB l) = l := by
  have key : ∀ k, k ≤ l.length / 8 → digsOf ((List.range k).map fun i => numB ((l.drop (8 * i)).take 8)) = l.take (8 * k) := by
    intro k
    induction k with
    | zero => intro _; simp [digsOf]
    | succ k ih =>
      intro hk
      rw [List.range_succ, List.map_append, digsOf_append, ih (by omega)]
      have e : (l.drop (8 * k)).take 8 = digs (numB ((l.drop (8 * k)).take 8)) 8 := by
        have h1 : ((l.drop (8 * k)).take 8).length = 8 := by simp; omega
        have h2 := digs_numB ((l.drop (8 * k)).take 8)
        rw [h1] at h2
        exact h2.symm
      simp only [List.map_cons, List.map_nil, digsOf, List.flatMap_cons, List.flatMap_nil, List.append_nil]
      rw [← e, show 8 * (k + 1) = 8 * k + 8 by omega, List.take_add]
  unfold packB
  rw [key _ (Nat.le_refl _), List.take_of_length_le (by omega)]
end Go.Proofs.Ytideigpabbhhkaa
/- binary of the reference. -/
namespace Go.Proofs.Ytideigpabbhhkaa
set_option linter.unusedVariables false
set_option linter.unusedSimpArgs false
open Go.RowKit
/-- the last k binary digits of n, as a string -/
def binS (n : Nat) : Nat → ByteArray
  | 0 => ⟨#[]⟩
  | k + 1 => Utf8.encode (48 + (((n / 2 ^ k) % 2 : Nat) : Int)) ++ binS n k
theorem digit_size (m : Nat) : (Utf8.encode (48 + ((m % 2 : Nat) : Int))).size = 1 := by
  rcases (show m % 2 = 0 ∨ m % 2 = 1 by omega) with h | h <;> rw [h] <;> decide
theorem binS_size (n k : Nat) : (binS n k).size = k := by
  induction k with
  | zero => rfl
  | succ k ih => unfold binS; rw [ByteArray.size_append, digit_size, ih]; omega
set_option maxHeartbeats 400000 in
theorem binary_any (width n : Nat) (w : World) (hw : width ≤ 1000) (hn : n ≤ 1000000000) :
    Calls Try.prog 34 #[.int .i64 (width : Int), .int .i64 (n : Int)] w fun e w' => e = .returned (.string (binS n width)) ∧ w = w' := by
  have HB := hid_ (binS_size n)
  have HN : Hid (∀ k, binS n (k + 1) = Utf8.encode (48 + (((n / 2 ^ k) % 2 : Nat) : Int)) ++ binS n k) := hid_ (fun k => rfl)
  go_enter Try.func34, Try.ntmps34
  go_wp2_with fail
  go_loop [1, 5, 7] (fun v s i => ∃ k m : Nat, k ≤ width ∧ m ≤ 1000000000 ∧ m = n / 2 ^ k ∧ i = .int .i64 (k : Int) ∧ v = .int .i64 (m : Int) ∧ s = .string (binS n k)) (fun _ _ i => width - (intOf i).toNat)
  case atStart => exact ⟨0, n, by omega, hn, by simp, rfl, rfl, rfl⟩
  case round =>
    obtain ⟨k, m, hk, hm, hmn, rfl, rfl, rfl⟩ := hrel
    have HM := hid_ hmn
    clear hmn
    by_cases hlt : k < width
    · have hd := digit_size m
      have hbs := HB.out k
      have HNK := hid_ (HN.out k)
      rw [← HM.out] at HNK
      have em : ((m % 2 : Nat) : Int) = (m : Int) % 2 := by omega
      rw [em] at hd HNK
      clear em
      generalize binS n k = b at *
      generalize hu : Utf8.encode (48 + (m : Int) % 2) = u at *
      have hlim : ¬ 9223372036854775807 < u.size + b.size := by omega
      go_wp2_with fail
      go_round
      case rel => exact ⟨k + 1, m / 2, by omega, by omega, by rw [HM.out, Nat.div_div_eq_div_mul, Nat.pow_succ], by go_num, by simp, by rw [HNK.out]⟩
      case measure => simp [intOf]; omega
    · obtain rfl : k = width := by omega
      go_wp2_with fail
      go_ret
      exact ⟨rfl, rfl⟩
end Go.Proofs.Ytideigpabbhhkaa
/- Strings of binary digits. -/
namespace Go.Proofs.Ytideigpabbhhkaa
set_option linter.unusedVariables false
set_option linter.unusedSimpArgs false
open Go.RowKit
def chB (b : Bool) : UInt8 := if b then 49 else 48
def strB (l : List Bool) : ByteArray := ⟨(l.map chB).toArray⟩
theorem strB_data (l : List Bool) : (strB l).data.toList = l.map chB := by simp [strB]
theorem strB_size (l : List Bool) : (strB l).size = l.length := by simp [strB, ByteArray.size]
theorem strB_append (a b : List Bool) : strB (a ++ b) = strB a ++ strB b := by
  apply ByteArray.ext
  simp [strB, ByteArray.data_append]
theorem chB_nat (b : Bool) : (chB b).toNat = 48 + b.toNat := by cases b <;> rfl
theorem strB_get (l : List Bool) (k : Nat) (h : k < (strB l).size) (h2 : k < l.length) : ((strB l)[k]'h).toNat = 48 + l[k].toNat := by
  rw [← chB_nat]
  simp [strB, ByteArray.getElem_eq_getElem_data]
theorem chB_inj {a b : Bool} (h : chB a = chB b) : a = b := by cases a <;> cases b <;> first | rfl | (exfalso; revert h; decide)
theorem strB_inj {a b : List Bool} (h : strB a = strB b) : a = b := by
  have := congrArg (fun x => x.data.toList) h
  simp only [strB_data] at this
  exact List.map_inj_right (fun _ _ => chB_inj) |>.1 this
theorem encode_digit (d : Nat) (h : d % 2 = d) : Utf8.encode (48 + (d : Int)) = strB [d == 1] := by
  rcases (show d = 0 ∨ d = 1 by omega) with rfl | rfl <;> rfl
theorem binS_strB (n k : Nat) : binS n k = strB (digs n k) := by
  induction k with
  | zero => rfl
  | succ k ih =>
    show Utf8.encode (48 + (((n / 2 ^ k) % 2 : Nat) : Int)) ++ binS n k = _
    rw [encode_digit _ (by omega), ih, ← strB_append]
    rfl
theorem strB_extract (l : List Bool) (i j : Nat) (hi : i ≤ j) : (strB l).extract i j = strB ((l.drop i).take (j - i)) := by
  apply ByteArray.ext
  apply Array.ext'
  simp [strB, ByteArray.data_extract, List.map_take, List.map_drop]
theorem numB_take_succ (l : List Bool) (k : Nat) (h : k < l.length) : numB (l.take (k + 1)) = 2 * numB (l.take k) + l[k].toNat := by
  rw [List.take_succ_eq_append_getElem h, numB_snoc]
theorem numB_le (l : List Bool) (n : Nat) (h : l.length ≤ n) : numB l < 2 ^ n := by
  have h1 := numB_lt l
  have := Nat.pow_le_pow_right (n := 2) (by omega) h
  omega
set_option maxHeartbeats 400000 in
theorem fromBin_any (l : List Bool) (w : World) (hl : l.length ≤ 60) :
    Calls Try.prog 24 #[.string (strB l)] w fun e w' => e = .returned (.int .i64 (numB l : Nat)) ∧ Ext w w' := by
  have hsz := strB_size l
  have HG := hid_ (strB_get l)
  have HT := hid_ (numB_take_succ l)
  have HB : Hid (∀ k, numB (l.take k) < 2 ^ 60) := hid_ (fun k => numB_le _ 60 (Nat.le_trans (List.length_take_le' _ _) hl))
  generalize strB l = s at *
  have hszs := hid_ hsz
  go_enter Try.func24, Try.ntmps24
  go_wp2_with fail
  clear hsz
  go_loopw [3] (fun n w' => ∃ pos : Nat, pos ≤ l.length ∧ w' = w.iter s pos ∧ n = .int .i64 (numB (l.take pos) : Nat)) (fun _ w' => s.size - w'.iterPos w.heap.size)
  case atStart => exact ⟨0, by omega, rfl, by simp [numB]⟩
  case round =>
    obtain ⟨pos, hpos, rfl, rfl⟩ := hrel
    by_cases hp : pos < l.length
    · have hp2 : pos < s.size := by have := hszs.out; omega
      have hd := HG.out pos hp2 hp
      have hb1 : l[pos].toNat ≤ 1 := by cases l[pos] <;> simp
      have ha : (s[pos]'hp2).toNat < 128 := by omega
      have hnx : ∀ ty, (Instr.next (.pointer (some ⟨w.heap.size, 0, none⟩)) true ty).run Try.prog (w.iter s pos) = _ := fun ty => run_next_ascii w s pos ty hp2 ha
      have HTP := hid_ (HT.out pos hp)
      have hlt := HB.out pos
      generalize l[pos].toNat = d at *
      rw [hd] at hnx
      clear hd ha
      generalize hN : numB (l.take pos) = N at *
      have hN2 : N < 1152921504606846976 := by simpa using hlt
      clear hlt hN
      go_wp2_with fail
      go_roundw
      case rel => exact ⟨pos + 1, by omega, rfl, by rw [HTP.out]; congr 1; omega⟩
      case measure =>
        have := hszs.out
        simp
        omega
    · have hp2 : ¬ pos < s.size := by have := hszs.out; omega
      have hnx : ∀ ty, (Instr.next (.pointer (some ⟨w.heap.size, 0, none⟩)) true ty).run Try.prog (w.iter s pos) = _ := fun ty => run_next_end w s pos ty hp2
      have HF : Hid (l.take pos = l) := hid_ (List.take_of_length_le (by omega))
      go_wp2_with fail
      go_ret
      exact ⟨by rw [HF.out]; rfl, (Ext.refl w).alloc _⟩
end Go.Proofs.Ytideigpabbhhkaa
/- power of the reference: 1 << k. -/
namespace Go.Proofs.Ytideigpabbhhkaa
set_option linter.unusedVariables false
set_option linter.unusedSimpArgs false
open Go.RowKit
theorem pow_le (k m : Nat) (h : k ≤ m) : (2 : Int) ^ k ≤ 2 ^ m := by
  have := Nat.pow_le_pow_right (n := 2) (by omega) h
  exact_mod_cast this
theorem pow_pos' (k : Nat) : (1 : Int) ≤ 2 ^ k := by
  have := Nat.two_pow_pos k
  exact_mod_cast this
theorem power_any (k : Nat) (w : World) (hk : k ≤ 62) : Calls Try.prog 33 #[.int .i64 k] w fun e w' => e = .returned (.int .i64 (2 ^ k)) ∧ w = w' := by
  have h1 := pow_le k 62 hk
  have h2 := pow_pos' k
  have h3 : (2 : Int) ^ 62 = 4611686018427387904 := by decide
  rw [h3] at h1
  clear h3
  go_enter Try.func33, Try.ntmps33
  go_wp2
  go_ret
  exact ⟨rfl, rfl⟩
end Go.Proofs.Ytideigpabbhhkaa
/- wordsOf of the reference. -/
namespace Go.Proofs.Ytideigpabbhhkaa
set_option linter.unusedVariables false
set_option linter.unusedSimpArgs false
open Go.RowKit
def strs (L : List ByteArray) : List Value := L.map Value.string
def nextW (cs : List Int) : Nat → Nat
  | 0 => 0
  | k + 1 => 2 * nextW cs k + (cs.getD k 0).toNat
def rowW (cs : List Int) (k j : Nat) : List ByteArray := (List.range j).map fun i => binS (2 * nextW cs k + i) (k + 1)
def outW (cs : List Int) : Nat → List ByteArray
  | 0 => []
  | k + 1 => outW cs k ++ rowW cs k (cs.getD k 0).toNat
def okW (cs : List Int) : Bool := (List.range 16).all fun k => decide (nextW cs (k + 1) + 1 ≤ 2 ^ (k + 1))
theorem okW_no {cs : List Int} {k : Nat} (hk : k < 16) (h : 2 ^ (k + 1) < nextW cs (k + 1) + 1) : okW cs = false := by
  rw [← Bool.not_eq_true]
  intro h2
  have := List.all_eq_true.1 h2 k (List.mem_range.2 hk)
  simp only [decide_eq_true_eq] at this
  omega
theorem rowW_succ (cs : List Int) (k j : Nat) : rowW cs k (j + 1) = rowW cs k j ++ [binS (2 * nextW cs k + j) (k + 1)] := by
  unfold rowW
  rw [List.range_succ, List.map_append]
  rfl
theorem elt_str : Elt Try.prog 51 9 1 16 := ⟨Try.underlying51, by kernel_rfl, by omega⟩
theorem own_str {w : World} {base : Nat} {e : TypeId} {v : Value} {L : List ByteArray} {b : ByteArray} (h : w.ownsRow base e 1 v (L.length + 1) (strs L ++ [.string b])) : w.ownsRow base e 1 v (L ++ [b]).length (strs (L ++ [b])) := by
  simpa [strs] using h
theorem str_one (b : ByteArray) : ∀ u ∈ [Value.string b], u.oneCell' = true := by
  intro u hu
  simp at hu
  subst hu
  rfl
set_option maxRecDepth 20000 in
set_option maxHeartbeats 1000000 in
theorem wordsOf_yes (cs : List Int) (sl : Value) (w : World) (hl : cs.length = 16) (hal : allIn cs 0 256 = true) (hok : okW cs = true) :
    Calls Try.prog 22 #[.agg (tblv cs sl)] w fun e w' => ∃ A c, e = .returned (.tuple #[.slice A (outW cs 16).length c, .bool true]) ∧ SL w' 1 (.slice A (outW cs 16).length c) (outW cs 16).length (strs (outW cs 16)) ∧ Ext w w' := by
  have HOKT := hid_ hok
  clear hok
  have HL := hid_ hl
  have HAL := hid_ (allIn_iff.1 hal)
  have HRG := hid_ (fun W g (h : Blk W g 25 (tblv cs sl)) => tblv_range h)
  have hcl := hid_ ((ints_len cs).trans hl)
  have HIX := hid_ (fun k (hk : k < cs.length) (h16 : k < 16) => fun W => run_index16 (ints cs).toArray k (.int .i64 cs[k]) h16 (bv_at cs k hk) W)
  clear hal
  generalize tblv cs sl = tv at *
  go_enter Try.func22, Try.ntmps22
  go_wp2_with (first
    | (refine wpList_box_abs rfl 25 (.tmp 0) rfl tv rfl ?_; intro w1 g hb1 hx1 hg)
    | (refine wpList_load_mid rfl 22 (.tmp 8) rfl g 0 rfl (ints cs) _ (HRG.out _ _ hb1) Try.underlying22 rfl (by rw [hcl.out]; exact size16) ?_))
  go_loopw [4, 5, 10] (fun v nx i wr => ∃ k : Nat, k ≤ 16 ∧ i = .int .i64 (k : Int) ∧ nx = .int .i64 (nextW cs k : Nat) ∧ nextW cs k + 1 ≤ 2 ^ k ∧ (outW cs k).length ≤ 256 * k ∧ (∀ j, j < k → nextW cs (j + 1) + 1 ≤ 2 ^ (j + 1)) ∧ wr.ownsRow w.heap.size 9 1 v (outW cs k).length (strs (outW cs k)) ∧ Ext w wr) (fun _ _ i _ => 16 - (intOf i).toNat)
  case atStart => exact ⟨0, by omega, rfl, rfl, by simp [nextW], by simp [outW], by intro j hj; omega, World.ownsRow_nil _ _ _ _, hx1⟩
  case round =>
    clear hx1
    obtain ⟨k, hk, rfl, rfl, hnx, hol, hall, hown, hx⟩ := hrel
    by_cases hlt : k < 16
    · have hsd : decide ((k : Int) < 16) = true := by simp; omega
      have hkl : k < cs.length := by have := HL.out; omega
      have hix := HIX.out k hkl hlt
      obtain ⟨q1, q2⟩ := HAL.out _ (List.getElem_mem hkl)
      have HG : Hid (cs.getD k 0 = cs[k]) := hid_ (by simp [hkl])
      obtain ⟨n, hn⟩ : ∃ n : Nat, cs[k] = (n : Int) := ⟨cs[k].toNat, by omega⟩
      rw [hn] at hix q1 q2 HG
      have HNW : Hid (nextW cs (k + 1) = 2 * nextW cs k + n) := hid_ (by show 2 * nextW cs k + (cs.getD k 0).toNat = _; rw [HG.out]; simp)
      have HOW : Hid (outW cs (k + 1) = outW cs k ++ rowW cs k n) := hid_ (by show outW cs k ++ rowW cs k (cs.getD k 0).toNat = _; rw [HG.out]; simp)
      have HRS := hid_ (rowW_succ cs k)
      have HR0 : Hid (rowW cs k 0 = []) := hid_ rfl
      have HRL : Hid (∀ j, (rowW cs k j).length = j) := hid_ (fun j => by simp [rowW])
      have HALL := hid_ hall
      have hp : (2 : Nat) ^ k ≤ 65536 := by have := Nat.pow_le_pow_right (n := 2) (by omega) hk; simpa using this
      have HP : Hid (2 ^ (k + 1) = 2 * 2 ^ k) := hid_ (by rw [Nat.pow_succ]; omega)
      have HOK := hid_ (fun (h : 2 ^ (k + 1) < nextW cs (k + 1) + 1) => okW_no hlt h)
      have HPA : Hid (∀ W, Calls Try.prog 33 #[.int .i64 ((k : Int) + 1)] W fun e w' => e = .returned (.int .i64 (((2 ^ (k + 1) : Nat)) : Int)) ∧ W = w') := hid_ (fun W => by
        have := power_any (k + 1) W (by omega)
        simpa using this)
      rw [HP.out] at HPA HOK
      rw [HNW.out] at HOK
      have HBA := hid_ (fun m W (hm : m ≤ 1000000000) => binary_any (k + 1) m W (by omega) hm)
      generalize hN : nextW cs k = N at *
      generalize hPw : (2 : Nat) ^ k = Pw at *
      clear hn hN hall hkl
      go_wp2_with fail
      go_loopw [4, 5, 17] (fun v nx i wr => ∃ j : Nat, j ≤ n ∧ i = .int .i64 (j : Int) ∧ nx = .int .i64 ((2 * N + j : Nat) : Int) ∧ 2 * N + j + 1 ≤ 2 * Pw ∧ wr.ownsRow w.heap.size 9 1 v (outW cs k ++ rowW cs k j).length (strs (outW cs k ++ rowW cs k j)) ∧ Ext w wr) (fun _ _ i _ => n - (intOf i).toNat)
      case atStart => exact ⟨0, by omega, rfl, by congr 1; omega, by omega, by rw [HR0.out, List.append_nil]; exact hown, hx⟩
      case round =>
        clear hown hx
        obtain ⟨j, hj, rfl, rfl, hnj, hown, hx⟩ := hrel
        have hlen : (outW cs k ++ rowW cs k j).length = (outW cs k).length + j := by rw [List.length_append, HRL.out]
        by_cases hlj : j < n
        · by_cases hbad : 2 * N + j + 1 < 2 * Pw
          · have hbad' : decide (2 * (Pw : Int) - 1 ≤ 2 * (N : Int) + (j : Int)) = false := by simp; omega
            have HBJ : Hid (∀ W, Calls Try.prog 34 #[.int .i64 ((k : Int) + 1), .int .i64 (2 * (N : Int) + (j : Int))] W fun e w' => e = .returned (.string (binS (2 * N + j) (k + 1))) ∧ W = w') := hid_ (fun W => by
              have := HBA.out (2 * N + j) W (by omega)
              simpa using this)
            have HRJ := hid_ (HRS.out j)
            generalize binS (2 * N + j) (k + 1) = bs at *
            go_wp2_with (first
              | (go_at_call 33; (with_reducible refine (HPA.out _).mono ?_); rintro e w' ⟨rfl, rfl⟩)
              | (go_at_call 34; (with_reducible refine (HBJ.out _).mono ?_); rintro e w' ⟨rfl, rfl⟩)
              | (at_builtin; go_must (refine wpList_append_sl elt_str rfl _ _ rfl w.heap.size _ _ _ rfl (hown.alloc _) _ 1 [.string _] rfl (one_sl _ _ _) (str_one _) (by omega) (by omega) (by have := hx.size; simp; omega) ?_); intro v' w7 hown7 hb7))
            go_roundw
            case rel =>
              refine ⟨j + 1, by omega, by go_num, by congr 1, by omega, ?_, (hx.alloc _).trans' hb7⟩
              rw [HRJ.out, ← List.append_assoc]
              exact own_str hown7
            case measure => simp [intOf]; omega
          · exfalso
            have := HOK.out (by omega)
            rw [HOKT.out] at this
            cases this
        · obtain rfl : j = n := by omega
          go_wp2_with fail
          go_roundw
          case rel =>
            refine ⟨k + 1, by omega, by go_num, by rw [HNW.out], by rw [HNW.out, HP.out]; omega, by rw [HOW.out, hlen]; omega, ?_, by rw [HOW.out]; exact hown, hx⟩
            intro i hi
            by_cases hik : i = k
            · subst hik; rw [HNW.out, HP.out]; omega
            · exact HALL.out i (by omega)
          case measure => simp [intOf]; omega
    · have ek : k = 16 := by omega
      rw [ek] at hown
      clear hall
      go_wp2_with fail
      go_ret2
      obtain ⟨A, c, rfl, hsl, hfs⟩ := own_form hown
      exact ⟨A, c, rfl, hsl, hx⟩
set_option maxRecDepth 20000 in
set_option maxHeartbeats 1000000 in
theorem wordsOf_no (cs : List Int) (sl : Value) (w : World) (hl : cs.length = 16) (hal : allIn cs 0 256 = true) (hok : okW cs = false) :
    Calls Try.prog 22 #[.agg (tblv cs sl)] w fun e w' => e = .returned (.tuple #[.slice none 0 0, .bool false]) ∧ Ext w w' := by
  have HOKT := hid_ hok
  clear hok
  have HL := hid_ hl
  have HAL := hid_ (allIn_iff.1 hal)
  have HRG := hid_ (fun W g (h : Blk W g 25 (tblv cs sl)) => tblv_range h)
  have hcl := hid_ ((ints_len cs).trans hl)
  have HIX := hid_ (fun k (hk : k < cs.length) (h16 : k < 16) => fun W => run_index16 (ints cs).toArray k (.int .i64 cs[k]) h16 (bv_at cs k hk) W)
  clear hal
  generalize tblv cs sl = tv at *
  go_enter Try.func22, Try.ntmps22
  go_wp2_with (first
    | (refine wpList_box_abs rfl 25 (.tmp 0) rfl tv rfl ?_; intro w1 g hb1 hx1 hg)
    | (refine wpList_load_mid rfl 22 (.tmp 8) rfl g 0 rfl (ints cs) _ (HRG.out _ _ hb1) Try.underlying22 rfl (by rw [hcl.out]; exact size16) ?_))
  go_loopw [4, 5, 10] (fun v nx i wr => ∃ k : Nat, k ≤ 16 ∧ i = .int .i64 (k : Int) ∧ nx = .int .i64 (nextW cs k : Nat) ∧ nextW cs k + 1 ≤ 2 ^ k ∧ (outW cs k).length ≤ 256 * k ∧ (∀ j, j < k → nextW cs (j + 1) + 1 ≤ 2 ^ (j + 1)) ∧ wr.ownsRow w.heap.size 9 1 v (outW cs k).length (strs (outW cs k)) ∧ Ext w wr) (fun _ _ i _ => 16 - (intOf i).toNat)
  case atStart => exact ⟨0, by omega, rfl, rfl, by simp [nextW], by simp [outW], by intro j hj; omega, World.ownsRow_nil _ _ _ _, hx1⟩
  case round =>
    clear hx1
    obtain ⟨k, hk, rfl, rfl, hnx, hol, hall, hown, hx⟩ := hrel
    by_cases hlt : k < 16
    · have hsd : decide ((k : Int) < 16) = true := by simp; omega
      have hkl : k < cs.length := by have := HL.out; omega
      have hix := HIX.out k hkl hlt
      obtain ⟨q1, q2⟩ := HAL.out _ (List.getElem_mem hkl)
      have HG : Hid (cs.getD k 0 = cs[k]) := hid_ (by simp [hkl])
      obtain ⟨n, hn⟩ : ∃ n : Nat, cs[k] = (n : Int) := ⟨cs[k].toNat, by omega⟩
      rw [hn] at hix q1 q2 HG
      have HNW : Hid (nextW cs (k + 1) = 2 * nextW cs k + n) := hid_ (by show 2 * nextW cs k + (cs.getD k 0).toNat = _; rw [HG.out]; simp)
      have HOW : Hid (outW cs (k + 1) = outW cs k ++ rowW cs k n) := hid_ (by show outW cs k ++ rowW cs k (cs.getD k 0).toNat = _; rw [HG.out]; simp)
      have HRS := hid_ (rowW_succ cs k)
      have HR0 : Hid (rowW cs k 0 = []) := hid_ rfl
      have HRL : Hid (∀ j, (rowW cs k j).length = j) := hid_ (fun j => by simp [rowW])
      have HALL := hid_ hall
      have hp : (2 : Nat) ^ k ≤ 65536 := by have := Nat.pow_le_pow_right (n := 2) (by omega) hk; simpa using this
      have HP : Hid (2 ^ (k + 1) = 2 * 2 ^ k) := hid_ (by rw [Nat.pow_succ]; omega)
      have HOK := hid_ (fun (h : 2 ^ (k + 1) < nextW cs (k + 1) + 1) => okW_no hlt h)
      have HPA : Hid (∀ W, Calls Try.prog 33 #[.int .i64 ((k : Int) + 1)] W fun e w' => e = .returned (.int .i64 (((2 ^ (k + 1) : Nat)) : Int)) ∧ W = w') := hid_ (fun W => by
        have := power_any (k + 1) W (by omega)
        simpa using this)
      rw [HP.out] at HPA HOK
      rw [HNW.out] at HOK
      have HBA := hid_ (fun m W (hm : m ≤ 1000000000) => binary_any (k + 1) m W (by omega) hm)
      generalize hN : nextW cs k = N at *
      generalize hPw : (2 : Nat) ^ k = Pw at *
      clear hn hN hall hkl
      go_wp2_with fail
      go_loopw [4, 5, 17] (fun v nx i wr => ∃ j : Nat, j ≤ n ∧ i = .int .i64 (j : Int) ∧ nx = .int .i64 ((2 * N + j : Nat) : Int) ∧ 2 * N + j + 1 ≤ 2 * Pw ∧ wr.ownsRow w.heap.size 9 1 v (outW cs k ++ rowW cs k j).length (strs (outW cs k ++ rowW cs k j)) ∧ Ext w wr) (fun _ _ i _ => n - (intOf i).toNat)
      case atStart => exact ⟨0, by omega, rfl, by congr 1; omega, by omega, by rw [HR0.out, List.append_nil]; exact hown, hx⟩
      case round =>
        clear hown hx
        obtain ⟨j, hj, rfl, rfl, hnj, hown, hx⟩ := hrel
        have hlen : (outW cs k ++ rowW cs k j).length = (outW cs k).length + j := by rw [List.length_append, HRL.out]
        by_cases hlj : j < n
        · by_cases hbad : 2 * N + j + 1 < 2 * Pw
          · have hbad' : decide (2 * (Pw : Int) - 1 ≤ 2 * (N : Int) + (j : Int)) = false := by simp; omega
            have HBJ : Hid (∀ W, Calls Try.prog 34 #[.int .i64 ((k : Int) + 1), .int .i64 (2 * (N : Int) + (j : Int))] W fun e w' => e = .returned (.string (binS (2 * N + j) (k + 1))) ∧ W = w') := hid_ (fun W => by
              have := HBA.out (2 * N + j) W (by omega)
              simpa using this)
            have HRJ := hid_ (HRS.out j)
            generalize binS (2 * N + j) (k + 1) = bs at *
            go_wp2_with (first
              | (go_at_call 33; (with_reducible refine (HPA.out _).mono ?_); rintro e w' ⟨rfl, rfl⟩)
              | (go_at_call 34; (with_reducible refine (HBJ.out _).mono ?_); rintro e w' ⟨rfl, rfl⟩)
              | (at_builtin; go_must (refine wpList_append_sl elt_str rfl _ _ rfl w.heap.size _ _ _ rfl (hown.alloc _) _ 1 [.string _] rfl (one_sl _ _ _) (str_one _) (by omega) (by omega) (by have := hx.size; simp; omega) ?_); intro v' w7 hown7 hb7))
            go_roundw
            case rel =>
              refine ⟨j + 1, by omega, by go_num, by congr 1, by omega, ?_, (hx.alloc _).trans' hb7⟩
              rw [HRJ.out, ← List.append_assoc]
              exact own_str hown7
            case measure => simp [intOf]; omega
          · have hbad' : decide (2 * (Pw : Int) - 1 ≤ 2 * (N : Int) + (j : Int)) = true := by simp; omega
            go_wp2_with (go_at_call 33; (with_reducible refine (HPA.out _).mono ?_); rintro e w' ⟨rfl, rfl⟩)
            go_ret2
            exact ⟨rfl, hx⟩
        · obtain rfl : j = n := by omega
          go_wp2_with fail
          go_roundw
          case rel =>
            refine ⟨k + 1, by omega, by go_num, by rw [HNW.out], by rw [HNW.out, HP.out]; omega, by rw [HOW.out, hlen]; omega, ?_, by rw [HOW.out]; exact hown, hx⟩
            intro i hi
            by_cases hik : i = k
            · subst hik; rw [HNW.out, HP.out]; omega
            · exact HALL.out i (by omega)
          case measure => simp [intOf]; omega
    · exfalso
      have ek : k = 16 := by omega
      subst ek
      have : okW cs = true := List.all_eq_true.2 fun i hi => by
        have := hall i (by have := List.mem_range.1 hi; omega)
        simpa using this
      rw [HOKT.out] at this
      cases this
end Go.Proofs.Ytideigpabbhhkaa
/- Whether a table may be, in plain words. -/
namespace Go.Proofs.Ytideigpabbhhkaa
set_option linter.unusedVariables false
set_option linter.unusedSimpArgs false
open Go.RowKit
/-- counts within bounds, as many as symbols -/
def totOK (cs xs : List Int) : Bool := allIn cs 0 256 && decide (sumL cs 16 ≤ 256) && decide (sumL cs 16 = xs.length)
/-- what Check answers -/
def checkZ (cs xs : List Int) : Int := if totOK cs xs then (if allIn xs 0 255 then (if decide xs.Nodup && okW cs then 0 else 4) else 1) else 4
theorem checkZ_tot {cs xs : List Int} (h : totOK cs xs = false) : checkZ cs xs = 4 := by simp [checkZ, h]
theorem checkZ_arg {cs xs : List Int} (h : totOK cs xs = true) (h2 : allIn xs 0 255 = false) : checkZ cs xs = 1 := by simp [checkZ, h, h2]
theorem checkZ_dup {cs xs : List Int} (h : totOK cs xs = true) (h2 : allIn xs 0 255 = true) (h3 : ¬ xs.Nodup) : checkZ cs xs = 4 := by simp [checkZ, h, h2, h3]
theorem checkZ_words {cs xs : List Int} (h : totOK cs xs = true) (h2 : allIn xs 0 255 = true) (h3 : xs.Nodup) : checkZ cs xs = if okW cs then 0 else 4 := by simp [checkZ, h, h2, h3]
theorem totOK_iff {cs xs : List Int} : totOK cs xs = true ↔ allIn cs 0 256 = true ∧ sumL cs 16 ≤ 256 ∧ sumL cs 16 = xs.length := by simp [totOK, and_assoc]
theorem nodup_take_succ {xs : List Int} {k : Nat} (hk : k < xs.length) : (xs.take (k + 1)).Nodup ↔ (xs.take k).Nodup ∧ xs[k] ∉ xs.take k := by
  rw [List.take_succ_eq_append_getElem hk, List.nodup_append]
  constructor
  · rintro ⟨a, -, c⟩
    exact ⟨a, fun h => c _ h _ (by simp) rfl⟩
  · rintro ⟨a, b⟩
    refine ⟨a, by simp, fun x hx y hy => ?_⟩
    simp at hy
    subst hy
    rintro rfl
    exact b hx
theorem okW_yes {cs : List Int} (h : ∀ j, j < 16 → nextW cs (j + 1) + 1 ≤ 2 ^ (j + 1)) : okW cs = true :=
  List.all_eq_true.2 fun i hi => by
    have := h i (List.mem_range.1 hi)
    simpa using this
theorem nextW_succ (cs : List Int) (k n : Nat) (hk : k < cs.length) (h : cs[k] = (n : Int)) : nextW cs (k + 1) = 2 * nextW cs k + n := by
  show 2 * nextW cs k + (cs.getD k 0).toNat = _
  simp [hk, h]
theorem sumL_bd {cs : List Int} (h : allIn cs 0 256 = true) : ∀ k, 0 ≤ sumL cs k ∧ sumL cs k ≤ sumL cs (k + 1) := by
  have key : ∀ l : List Int, (∀ z ∈ l, 0 ≤ z) → 0 ≤ l.sum := by
    intro l
    induction l with
    | nil => simp
    | cons a l ih =>
      intro h
      have := h a (by simp)
      have := ih (fun z hz => h z (by simp [hz]))
      simp; omega
  have h' := allIn_iff.1 h
  intro k
  constructor
  · exact key _ fun z hz => (h' z (List.mem_of_mem_take hz)).1
  · rcases Nat.lt_or_ge k cs.length with hk | hk
    · rw [sumL_succ cs k hk]
      have := h' _ (List.getElem_mem hk)
      omega
    · unfold sumL
      rw [List.take_of_length_le hk, List.take_of_length_le (by omega)]
      omega
end Go.Proofs.Ytideigpabbhhkaa
/- Words of a table: rows of three integers. -/
namespace Go.Proofs.Ytideigpabbhhkaa
set_option linter.unusedVariables false
set_option linter.unusedSimpArgs false
open Go.RowKit
set_option maxHeartbeats 400000 in
theorem eqWord_same (u v : Value) (T : List Tok) (w : World) (hu : SL w 3 u T.length (toks T)) (hv : SL w 3 v T.length (toks T)) :
    Calls Try.prog 11 #[u, v] w fun e w' => e = .returned (.bool true) ∧ Ext w w' := by
  have hu' := hu
  have hv' := hv
  obtain ⟨A, c, rfl, hc1, hc2, -, -⟩ := hu'
  obtain ⟨B, d, rfl, hd1, hd2, -, -⟩ := hv'
  go_enter Try.func11, Try.ntmps11
  go_wp2_with fail
  go_loopw [14] (fun i wr => ∃ k : Nat, k ≤ T.length ∧ i = .int .i64 k ∧ Ext w wr) (fun i _ => T.length - (intOf i).toNat)
  case atStart => exact ⟨0, by omega, rfl, Ext.refl w⟩
  case round =>
    obtain ⟨k, hk, rfl, hx⟩ := hrel
    by_cases hlt : k < T.length
    · obtain ⟨ad, rfl, -, h1, h2, h3⟩ := (hu.ext hx).tok hlt rfl hlt
      obtain ⟨bd, rfl, hbl, g1, g2, g3⟩ := (hv.ext hx).tok hlt rfl hlt
      generalize T[k] = t at *
      obtain ⟨t1, t2, t3⟩ := t
      go_wp2_with (refine wpList_alloc_abs' rfl (some 6) rfl 35 rfl _ (by kernel_rfl) ?_; intro w2 g2 hb2 hx2 hg2)
      have hxa := Ext.alloc (Ext.refl wr) (.cells #[.int .i64 t1, .int .i64 t2, .int .i64 t3] 35)
      have hn := Blk.new wr 35 #[.int .i64 t1, .int .i64 t2, .int .i64 t3]
      have n1 := hn.cell 0
      have n2 := hn.cell 1
      have n3 := hn.cell 2
      simp only [show (#[Value.int .i64 t1, .int .i64 t2, .int .i64 t3] : Array Value)[0]? = some (.int .i64 t1) from rfl] at n1
      simp only [show (#[Value.int .i64 t1, .int .i64 t2, .int .i64 t3] : Array Value)[1]? = some (.int .i64 t2) from rfl] at n2
      simp only [show (#[Value.int .i64 t1, .int .i64 t2, .int .i64 t3] : Array Value)[2]? = some (.int .i64 t3) from rfl] at n3
      have k1 := (hxa.cell (p := bd.add (k * 3)) (by rw [block_of_add]; exact hbl)).trans g1
      have k2 := (hxa.cell (p := ⟨(bd.add (k * 3)).block, (bd.add (k * 3)).off + 1, none⟩) (by show (bd.add (k * 3)).block < _; rw [block_of_add]; exact hbl)).trans g2
      have k3 := (hxa.cell (p := ⟨(bd.add (k * 3)).block, (bd.add (k * 3)).off + 2, none⟩) (by show (bd.add (k * 3)).block < _; rw [block_of_add]; exact hbl)).trans g3
      have hx2 := hx.trans hxa
      clear h1 h2 h3 g1 g2 g3 hn hxa
      generalize hw2 : wr.alloc (.cells #[.int .i64 t1, .int .i64 t2, .int .i64 t3] 35) = w2 at *
      clear hw2
      generalize wr.heap.size = gn at *
      go_quiet (fail)
      go_wp2_with fail
      go_roundw
      case rel => exact ⟨k + 1, by omega, by go_num, hx2.trans (below_drewN (Ext.refl w2) nq)⟩
      case measure => simp [intOf]; omega
    · go_wp2_with fail
      go_ret
      exact ⟨rfl, hx⟩
theorem elt_word : Elt Try.prog 30 35 3 24 := ⟨Try.underlying30, by kernel_rfl, by omega⟩
theorem one_sl3' (w : World) (T : TypeId) (a b c : Value) : SL (w.alloc (.cells #[a, b, c] T)) 3 (.slice (some ⟨w.heap.size, 0, none⟩) 1 1) 1 [a, b, c] := by
  have := (Blk.new w T #[a, b, c]).sl (size := 3) (n := 1) (c := 1) rfl (by omega) (by omega)
  simpa using this
theorem int3_one (a b c : Int) : ∀ u ∈ [Value.int .i64 a, .int .i64 b, .int .i64 c], u.oneCell' = true := by
  intro u hu
  simp at hu
  rcases hu with rfl | rfl | rfl <;> rfl
theorem own_tok3 {w : World} {base : Nat} {e : TypeId} {v : Value} {T : List Tok} {a b c : Int} (h : w.ownsRow base e 3 v (T.length + 1) (toks T ++ [.int .i64 a, .int .i64 b, .int .i64 c])) : w.ownsRow base e 3 v (T ++ [(a, b, c)]).length (toks (T ++ [(a, b, c)])) := by
  simpa [toks, tokv] using h
/-- the words of a table in order: how many digits, and which number -/
def rowC (cs : List Int) (k j : Nat) : List (Nat × Nat) := (List.range j).map fun i => (k + 1, 2 * nextW cs k + i)
def codesW (cs : List Int) : Nat → List (Nat × Nat)
  | 0 => []
  | k + 1 => codesW cs k ++ rowC cs k (cs.getD k 0).toNat
theorem rowC_succ (cs : List Int) (k j : Nat) : rowC cs k (j + 1) = rowC cs k j ++ [(k + 1, 2 * nextW cs k + j)] := by
  unfold rowC
  rw [List.range_succ, List.map_append]
  rfl
theorem rowC_len (cs : List Int) (k j : Nat) : (rowC cs k j).length = j := by simp [rowC]
theorem codesW_step (cs : List Int) (k n : Nat) (hk : k < cs.length) (h : cs[k] = (n : Int)) : codesW cs (k + 1) = codesW cs k ++ rowC cs k n := by
  show codesW cs k ++ rowC cs k (cs.getD k 0).toNat = _
  simp [hk, h]
theorem codesW_len (cs : List Int) (h : ∀ z ∈ cs, 0 ≤ z) : ∀ k, k ≤ cs.length → ((codesW cs k).length : Int) = sumL cs k := by
  intro k
  induction k with
  | zero => intro _; simp [codesW, sumL]
  | succ k ih =>
    intro hk
    have h0 := h _ (List.getElem_mem (show k < cs.length by omega))
    rw [codesW_step cs k cs[k].toNat (by omega) (by omega), List.length_append, rowC_len, sumL_succ cs k (by omega), ← ih (by omega)]
    omega
theorem codesW_mono (cs : List Int) (j k : Nat) (h : j ≤ k) : (codesW cs j).length ≤ (codesW cs k).length := by
  induction k with
  | zero => obtain rfl : j = 0 := by omega
            exact Nat.le_refl _
  | succ k ih =>
    rcases Nat.lt_or_ge k j with h2 | h2
    · obtain rfl : j = k + 1 := by omega
      exact Nat.le_refl _
    · have := ih h2
      show _ ≤ (codesW cs k ++ _).length
      rw [List.length_append]
      omega
theorem outW_codes (cs : List Int) (k : Nat) : outW cs k = (codesW cs k).map fun p => binS p.2 p.1 := by
  induction k with
  | zero => rfl
  | succ k ih =>
    show outW cs k ++ rowW cs k _ = _
    rw [ih]
    simp [codesW, rowC, rowW, Function.comp_def]
/-- symbols beside their words -/
def zipC (l : List (Nat × Nat)) (xs : List Int) : List Tok := List.zipWith (fun p x => ((x, (p.1 : Int), (p.2 : Int)) : Tok)) l xs
theorem zipC_len (l : List (Nat × Nat)) (xs : List Int) (h : l.length ≤ xs.length) : (zipC l xs).length = l.length := by simp [zipC]; omega
theorem zipC_snoc (l : List (Nat × Nat)) (p : Nat × Nat) (xs : List Int) (h : l.length < xs.length) : zipC (l ++ [p]) xs = zipC l xs ++ [(xs[l.length], (p.1 : Int), (p.2 : Int))] := by
  induction l generalizing xs with
  | nil =>
    cases xs with
    | nil => simp at h
    | cons x xs => simp [zipC]
  | cons q l ih =>
    cases xs with
    | nil => simp at h
    | cons x xs =>
      have h' : l.length < xs.length := by simpa using h
      have := ih xs h'
      simp only [zipC, List.cons_append, List.zipWith_cons_cons] at this ⊢
      rw [this]
      simp
/-- each word fits its length -/
theorem codesW_fit (cs : List Int) (hok : okW cs = true) (hl : cs.length = 16) : ∀ k, k ≤ 16 → ∀ p ∈ codesW cs k, 1 ≤ p.1 ∧ p.1 ≤ k ∧ p.2 + 1 < 2 ^ p.1 + 1 := by
  intro k
  induction k with
  | zero => intro _ p hp; simp [codesW] at hp
  | succ k ih =>
    intro hk p hp
    rcases List.mem_append.1 (show p ∈ codesW cs k ++ rowC cs k (cs.getD k 0).toNat from hp) with h | h
    · have := ih (by omega) p h
      omega
    · simp only [rowC, List.mem_map, List.mem_range] at h
      obtain ⟨i, hi, rfl⟩ := h
      have h1 := List.all_eq_true.1 hok k (List.mem_range.2 (by omega))
      simp only [decide_eq_true_eq] at h1
      have h2 : nextW cs (k + 1) = 2 * nextW cs k + (cs.getD k 0).toNat := rfl
      refine ⟨by simp, by simp, ?_⟩
      simp only
      omega
theorem codesW_zero (cs : List Int) : codesW cs 0 = [] := rfl
theorem codesW_succ (cs : List Int) (k : Nat) : codesW cs (k + 1) = codesW cs k ++ rowC cs k (cs.getD k 0).toNat := rfl
attribute [irreducible] codesW
end Go.Proofs.Ytideigpabbhhkaa
