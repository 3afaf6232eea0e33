/- What Cut answers, as a flat list of numbers. -/
import Derived.Test.YtlepchdlkhogiaaEqInt
namespace Go.Proofs.Ytlepchdlkhogiaa
set_option linter.unusedVariables false
set_option linter.unusedSimpArgs false
open Go.RowKit
/-- the number at place i of block k -/
def cutAt (xs : List Int) (wd hi k i : Nat) : Int := xs.getD (min (k / ((wd + 7) / 8) * 8 + i / 8) (hi - 1) * wd + min (k % ((wd + 7) / 8) * 8 + i % 8) (wd - 1)) 0 - 128
def cutN (wd hi : Nat) : Nat := (wd + 7) / 8 * ((hi + 7) / 8)
def cutZ (xs : List Int) (wd hi : Nat) : List Int := (List.range (cutN wd hi * 64)).map fun j => cutAt xs wd hi (j / 64) (j % 64)
theorem cutZ_len (xs : List Int) (wd hi : Nat) : (cutZ xs wd hi).length = cutN wd hi * 64 := by simp [cutZ]
theorem cutZ_at (xs : List Int) (wd hi k i : Nat) (hi64 : i < 64) (h : k * 64 + i < cutN wd hi * 64) : (cutZ xs wd hi)[k * 64 + i]? = some (cutAt xs wd hi k i) := by
  unfold cutZ
  rw [List.getElem?_map, List.getElem?_range h]
  show some (cutAt xs wd hi ((k * 64 + i) / 64) ((k * 64 + i) % 64)) = _
  rw [show (k * 64 + i) / 64 = k by omega, show (k * 64 + i) % 64 = i by omega]
/-- the first m numbers written, the rest still zero -/
def midZ (Z : List Int) (m : Nat) : List Int := Z.take m ++ List.replicate (Z.length - m) 0
theorem midZ_len (Z : List Int) (m : Nat) (h : m ≤ Z.length) : (midZ Z m).length = Z.length := by simp [midZ]; omega
theorem midZ_zero (Z : List Int) : midZ Z 0 = List.replicate Z.length 0 := by simp [midZ]
theorem midZ_all (Z : List Int) : midZ Z Z.length = Z := by simp [midZ]
theorem midZ_set (Z : List Int) (m : Nat) (z : Int) (h : Z[m]? = some z) : (midZ Z m).set m z = midZ Z (m + 1) := by
  obtain ⟨hm, hz⟩ := List.getElem?_eq_some_iff.1 h
  unfold midZ
  have e : Z.length - m = (Z.length - (m + 1)) + 1 := by omega
  have e2 : Z.take (m + 1) = Z.take m ++ [z] := by rw [List.take_add_one, h]; rfl
  rw [e2, e, List.replicate_succ, List.set_append_right _ _ (by simp; omega), List.length_take, show min m Z.length = m by omega, Nat.sub_self, List.set_cons_zero, List.append_assoc]
  rfl
/-- the sum's place lies in the plane -/
theorem cut_place (wd hi r c : Nat) (h1 : 1 ≤ wd) (h2 : 1 ≤ hi) : min r (hi - 1) * wd + min c (wd - 1) < wd * hi := by
  have a : min r (hi - 1) ≤ hi - 1 := Nat.min_le_right _ _
  have b : min c (wd - 1) ≤ wd - 1 := Nat.min_le_right _ _
  have c1 : min r (hi - 1) * wd ≤ (hi - 1) * wd := Nat.mul_le_mul_right _ a
  obtain ⟨h, rfl⟩ : ∃ h, hi = h + 1 := ⟨hi - 1, by omega⟩
  rw [Nat.add_sub_cancel] at c1 ⊢
  rw [Nat.mul_succ, Nat.mul_comm wd h]
  omega
end Go.Proofs.Ytlepchdlkhogiaa
