/- Binary digits, numbers and bytes: plain. -/
import Derived.WalkKit
namespace Go.Proofs.Ytbnjapgmpjkooaa
set_option linter.unusedVariables false
set_option linter.unusedSimpArgs false
/-- the last k binary digits of n, the highest first -/
def digs (n : Nat) : Nat → List Bool
  | 0 => []
  | k + 1 => (n / 2 ^ k % 2 == 1) :: digs n k
/-- the number that digits tell -/
def numB : List Bool → Nat
  | [] => 0
  | b :: l => b.toNat * 2 ^ l.length + numB l
theorem digs_len (n k : Nat) : (digs n k).length = k := by
  induction k with
  | zero => rfl
  | succ k ih => simp [digs, ih]
theorem numB_lt (l : List Bool) : numB l < 2 ^ l.length := by
  induction l with
  | nil => simp [numB]
  | cons b l ih =>
    simp only [numB, List.length_cons, Nat.pow_succ]
    cases b <;> simp <;> omega
theorem numB_append (a b : List Bool) : numB (a ++ b) = numB a * 2 ^ b.length + numB b := by
  induction a with
  | nil => simp [numB]
  | cons x a ih =>
    simp only [List.cons_append, numB, List.length_append, ih, Nat.pow_add, Nat.add_mul, Nat.mul_assoc]
    omega
theorem numB_digs (n k : Nat) : numB (digs n k) = n % 2 ^ k := by
  induction k with
  | zero => simp [digs, numB, Nat.mod_one]
  | succ k ih =>
    simp only [digs, numB, digs_len, ih]
    have e : (n / 2 ^ k % 2 == 1).toNat = n / 2 ^ k % 2 := by
      rcases (show n / 2 ^ k % 2 = 0 ∨ n / 2 ^ k % 2 = 1 by omega) with h | h <;> simp [h]
    rw [e, Nat.pow_succ, Nat.mod_mul, Nat.mul_comm]
    omega
theorem numB_digs_lt {n k : Nat} (h : n < 2 ^ k) : numB (digs n k) = n := by rw [numB_digs, Nat.mod_eq_of_lt h]
theorem numB_inj {a b : List Bool} (hl : a.length = b.length) (h : numB a = numB b) : a = b := by
  induction a generalizing b with
  | nil => cases b with | nil => rfl | cons _ _ => simp at hl
  | cons x a ih =>
    cases b with
    | nil => simp at hl
    | cons y b =>
      have hl' : a.length = b.length := by simpa using hl
      simp only [numB, hl'] at h
      have h1 := numB_lt a
      have h2 := numB_lt b
      rw [hl'] at h1
      have hxy : x = y := by
        cases x <;> cases y <;> simp at h ⊢ <;> omega
      subst hxy
      rw [ih hl' (by omega)]
theorem digs_numB (l : List Bool) : digs (numB l) l.length = l := numB_inj (digs_len _ _) (numB_digs_lt (numB_lt l))
theorem digs_mod (n k m : Nat) (h : k ≤ m) : digs (n % 2 ^ m) k = digs n k := by
  apply numB_inj (by simp [digs_len])
  rw [numB_digs, numB_digs, Nat.mod_mod_of_dvd _ (Nat.pow_dvd_pow 2 h)]
theorem digs_add (x y j k : Nat) (hy : y < 2 ^ j) : digs (x * 2 ^ j + y) (k + j) = digs x k ++ digs y j := by
  apply numB_inj (by simp [digs_len])
  rw [numB_append, digs_len, numB_digs, numB_digs, numB_digs, Nat.mod_eq_of_lt hy, Nat.add_comm k j, Nat.pow_add]
  rw [Nat.mod_mul, Nat.mul_comm x, Nat.mul_add_mod, Nat.mod_eq_of_lt hy, Nat.mul_add_div (Nat.two_pow_pos j), Nat.div_eq_of_lt hy, Nat.add_zero, Nat.mul_comm (2 ^ j), Nat.add_comm]
theorem numB_drop (l : List Bool) (k : Nat) : numB (l.drop k) = numB l % 2 ^ (l.length - k) := by
  have h := numB_append (l.take k) (l.drop k)
  rw [List.take_append_drop] at h
  have h2 := numB_lt (l.drop k)
  rw [List.length_drop] at h h2
  rw [h, Nat.mul_comm, Nat.mul_add_mod, Nat.mod_eq_of_lt h2]
theorem numB_take (l : List Bool) (k : Nat) : numB (l.take k) = numB l / 2 ^ (l.length - k) := by
  have h := numB_append (l.take k) (l.drop k)
  rw [List.take_append_drop] at h
  have h2 := numB_lt (l.drop k)
  rw [List.length_drop] at h h2
  rw [h, Nat.mul_comm, Nat.mul_add_div (Nat.two_pow_pos _), Nat.div_eq_of_lt h2, Nat.add_zero]
/-- the k digits from i on, as a number -/
theorem numB_mid (l : List Bool) (i k : Nat) (h : i + k ≤ l.length) : numB ((l.drop i).take k) = numB l / 2 ^ (l.length - (i + k)) % 2 ^ k := by
  have e : (l.drop i).take k = (l.take (i + k)).drop i := by rw [List.drop_take]; congr 1; omega
  rw [e, numB_drop, numB_take l, List.length_take]
  congr 2
  omega
theorem numB_snoc (l : List Bool) (b : Bool) : numB (l ++ [b]) = 2 * numB l + b.toNat := by
  rw [numB_append]; simp [numB]; omega
/-- whole bytes of digits -/
def packB (l : List Bool) : List Nat := (List.range (l.length / 8)).map fun i => numB ((l.drop (8 * i)).take 8)
/-- the digits behind the whole bytes -/
def restB (l : List Bool) : List Bool := l.drop (8 * (l.length / 8))
theorem packB_len (l : List Bool) : (packB l).length = l.length / 8 := by simp [packB]
theorem restB_len (l : List Bool) : (restB l).length = l.length % 8 := by simp [restB]; omega
theorem packB_lt (l : List Bool) : ∀ x ∈ packB l, x < 256 := by
  intro x hx
  simp only [packB, List.mem_map, List.mem_range] at hx
  obtain ⟨i, hi, rfl⟩ := hx
  have h := numB_lt ((l.drop (8 * i)).take 8)
  have h2 : ((l.drop (8 * i)).take 8).length ≤ 8 := List.length_take_le _ _
  have := Nat.pow_le_pow_right (n := 2) (by omega) h2
  omega
theorem packB_append (l m : List Bool) : packB (l ++ m) = packB l ++ packB (restB l ++ m) := by
  have e : (l ++ m).length / 8 = l.length / 8 + (restB l ++ m).length / 8 := by
    rw [List.length_append, List.length_append, restB_len]; omega
  have key : (l ++ m).drop (8 * (l.length / 8)) = restB l ++ m := by
    rw [List.drop_append_of_le_length (by omega)]; rfl
  unfold packB
  rw [e, List.range_add, List.map_append, List.map_map]
  congr 1
  · apply List.map_congr_left
    intro i hi
    have := List.mem_range.1 hi
    rw [List.drop_append_of_le_length (by omega), List.take_append_of_le_length (by rw [List.length_drop]; omega)]
  · apply List.map_congr_left
    intro i _
    simp only [Function.comp]
    rw [Nat.mul_add, ← List.drop_drop, key]
theorem restB_append (l m : List Bool) : restB (l ++ m) = restB (restB l ++ m) := by
  have key : (l ++ m).drop (8 * (l.length / 8)) = restB l ++ m := by
    rw [List.drop_append_of_le_length (by omega)]; rfl
  rw [restB, restB, ← key, List.drop_drop]
  congr 1
  rw [List.length_drop]
  rw [List.length_append]
  omega
/-- filled up with ones to whole bytes -/
def padB (l : List Bool) : List Bool := l ++ List.replicate ((8 - l.length % 8) % 8) true
theorem padB_len (l : List Bool) : (padB l).length % 8 = 0 := by simp [padB]; omega
theorem numB_ones (k : Nat) : numB (List.replicate k true) = 2 ^ k - 1 := by
  induction k with
  | zero => rfl
  | succ k ih =>
    rw [List.replicate_succ, numB, ih, Nat.pow_succ]
    have := Nat.two_pow_pos k
    simp
    omega
theorem digs_ones (k : Nat) : digs (2 ^ k - 1) k = List.replicate k true := by
  apply numB_inj (by simp [digs_len])
  rw [numB_ones, numB_digs_lt (by have := Nat.two_pow_pos k; omega)]
/-- the digits of bytes -/
def digsOf (b : List Nat) : List Bool := b.flatMap fun x => digs x 8
theorem digsOf_len (b : List Nat) : (digsOf b).length = 8 * b.length := by
  induction b with
  | nil => rfl
  | cons x b ih => simp only [digsOf, List.flatMap_cons, List.length_append, digs_len, List.length_cons] at ih ⊢; omega
theorem digsOf_at (b : List Nat) (i : Nat) (h2 : i < b.length) : ((digsOf b).drop (8 * i)).take 8 = digs b[i] 8 := by
  induction b generalizing i with
  | nil => simp at h2
  | cons x b ih =>
    have e : digsOf (x :: b) = digs x 8 ++ digsOf b := rfl
    rw [e]
    cases i with
    | zero => simp [digs_len]
    | succ i =>
      rw [List.drop_append, List.drop_of_length_le (by rw [digs_len]; omega), digs_len, List.nil_append, show 8 * (i + 1) - 8 = 8 * i by omega]
      have h3 : i < b.length := by simpa using h2
      rw [ih i h3]
      simp
theorem packB_digsOf (b : List Nat) (h : ∀ x ∈ b, x < 256) : packB (digsOf b) = b := by
  have hl := digsOf_len b
  apply List.ext_getElem
  · rw [packB_len, hl]; omega
  · intro i h1 h2
    simp only [packB, List.getElem_map, List.getElem_range]
    rw [digsOf_at b i h2, numB_digs_lt (h _ (List.getElem_mem h2))]
theorem digsOf_append (a b : List Nat) : digsOf (a ++ b) = digsOf a ++ digsOf b := by simp [digsOf]
theorem digsOf_packB (l : List Bool) (h : l.length % 8 = 0) : digsOf (packB l) = l := by
  have key : ∀ k, k ≤ l.length / 8 → digsOf ((List.range k).map fun i => numB ((l.drop (8 * i)).take 8)) = l.take (8 * k) := by
    intro k
    induction k with
    | zero => intro _; simp [digsOf]
    | succ k ih =>
      intro hk
      rw [List.range_succ, List.map_append, digsOf_append, ih (by omega)]
      have e : (l.drop (8 * k)).take 8 = digs (numB ((l.drop (8 * k)).take 8)) 8 := by
        have h1 : ((l.drop (8 * k)).take 8).length = 8 := by simp; omega
        have h2 := digs_numB ((l.drop (8 * k)).take 8)
        rw [h1] at h2
        exact h2.symm
      simp only [List.map_cons, List.map_nil, digsOf, List.flatMap_cons, List.flatMap_nil, List.append_nil]
      rw [← e, show 8 * (k + 1) = 8 * k + 8 by omega, List.take_add]
  unfold packB
  rw [key _ (Nat.le_refl _), List.take_of_length_le (by omega)]
end Go.Proofs.Ytbnjapgmpjkooaa
