/- What Join answers, as a list of numbers. -/
import Derived.Test.YtlepchdlkhogiaaCutMath
import Derived.Test.YtlepchdlkhogiaaMath1
namespace Go.Proofs.Ytlepchdlkhogiaa
set_option linter.unusedVariables false
set_option linter.unusedSimpArgs false
open Go.RowKit
/-- the place of the number at row y, column x among the blocks' numbers -/
def jidx (wd y x : Nat) : Nat := (y / 8 * ((wd + 7) / 8) + x / 8) * 64 + (y % 8 * 8 + x % 8)
def joinAt (Z : List Int) (wd y x : Nat) : Int := clampZ (Z.getD (jidx wd y x) 0 + 128) 0 255
def joinZ (Z : List Int) (wd hi : Nat) : List Int := (List.range (wd * hi)).map fun p => joinAt Z wd (p / wd) (p % wd)
theorem joinZ_len (Z : List Int) (wd hi : Nat) : (joinZ Z wd hi).length = wd * hi := by simp [joinZ]
theorem joinZ_at (Z : List Int) (wd hi y x : Nat) (hx : x < wd) (hy : y < hi) : (joinZ Z wd hi)[y * wd + x]? = some (joinAt Z wd y x) := by
  have h : y * wd + x < wd * hi := by
    have := Nat.mul_le_mul_right wd (show y + 1 ≤ hi by omega)
    rw [Nat.add_mul, Nat.mul_comm hi wd] at this
    omega
  unfold joinZ
  rw [List.getElem?_map, List.getElem?_range h]
  show some (joinAt Z wd ((y * wd + x) / wd) ((y * wd + x) % wd)) = _
  rw [Nat.add_comm, Nat.add_mul_div_right _ _ (by omega), Nat.add_mul_mod_self_right, Nat.div_eq_of_lt hx, Nat.mod_eq_of_lt hx, Nat.zero_add]
/-- what is written when the first m numbers of the blocks have been met -/
def joinMid (Z : List Int) (wd hi m : Nat) : List Int := (List.range (wd * hi)).map fun p => if jidx wd (p / wd) (p % wd) < m then joinAt Z wd (p / wd) (p % wd) else 0
theorem joinMid_len (Z : List Int) (wd hi m : Nat) : (joinMid Z wd hi m).length = wd * hi := by simp [joinMid]
theorem joinMid_zero (Z : List Int) (wd hi : Nat) : joinMid Z wd hi 0 = List.replicate (wd * hi) 0 := by
  unfold joinMid
  apply List.ext_getElem
  · simp
  · intro i h1 h2; simp
theorem jidx_at (wd k j : Nat) (hj : j < 64) : jidx wd (k / ((wd + 7) / 8) * 8 + j / 8) (k % ((wd + 7) / 8) * 8 + j % 8) = k * 64 + j := by
  unfold jidx
  generalize (wd + 7) / 8 = c
  have h1 : (k / c * 8 + j / 8) / 8 = k / c := by omega
  have h2 : (k / c * 8 + j / 8) % 8 = j / 8 := by omega
  have h3 : (k % c * 8 + j % 8) / 8 = k % c := by omega
  have h4 : (k % c * 8 + j % 8) % 8 = j % 8 := by omega
  rw [h1, h2, h3, h4, Nat.mul_comm (k / c) c, Nat.div_add_mod]
  omega
theorem jidx_inv (wd y x k j : Nat) (hx : x < wd) (hj : j < 64) (h : jidx wd y x = k * 64 + j) : k / ((wd + 7) / 8) * 8 + j / 8 = y ∧ k % ((wd + 7) / 8) * 8 + j % 8 = x := by
  unfold jidx at h
  have hc : x / 8 < (wd + 7) / 8 := by omega
  generalize (wd + 7) / 8 = c at *
  have h1 : y / 8 * c + x / 8 = k := by omega
  have h2 : y % 8 * 8 + x % 8 = j := by omega
  have h3 : k / c = y / 8 := by rw [← h1, Nat.add_comm, Nat.add_mul_div_right _ _ (by omega), Nat.div_eq_of_lt hc, Nat.zero_add]
  have h4 : k % c = x / 8 := by rw [← h1, Nat.add_comm, Nat.add_mul_mod_self_right, Nat.mod_eq_of_lt hc]
  rw [h3, h4]
  omega
theorem joinMid_set (Z : List Int) (wd hi k j : Nat) (hj : j < 64) (hr : k / ((wd + 7) / 8) * 8 + j / 8 < hi) (hq : k % ((wd + 7) / 8) * 8 + j % 8 < wd) :
    (joinMid Z wd hi (k * 64 + j)).set ((k / ((wd + 7) / 8) * 8 + j / 8) * wd + (k % ((wd + 7) / 8) * 8 + j % 8)) (clampZ (Z.getD (k * 64 + j) 0 + 128) 0 255) = joinMid Z wd hi (k * 64 + (j + 1)) := by
  have hi1 := jidx_at wd k j hj
  have hinv := fun y x hx h => jidx_inv wd y x k j hx hj h
  generalize k / ((wd + 7) / 8) * 8 + j / 8 = r at *
  generalize k % ((wd + 7) / 8) * 8 + j % 8 = q at *
  apply List.ext_getElem
  · simp [joinMid_len]
  · intro p h1 h2
    have hp : p < wd * hi := by simpa [joinMid_len] using h2
    have hw : 0 < wd := by omega
    rw [List.getElem_set]
    by_cases e : r * wd + q = p
    · rw [if_pos e]
      have e1 : p / wd = r := by rw [← e, Nat.add_comm, Nat.add_mul_div_right _ _ hw, Nat.div_eq_of_lt hq, Nat.zero_add]
      have e2 : p % wd = q := by rw [← e, Nat.add_comm, Nat.add_mul_mod_self_right, Nat.mod_eq_of_lt hq]
      simp only [joinMid, List.getElem_map, List.getElem_range, e1, e2, joinAt, hi1]
      rw [if_pos (by omega)]
    · rw [if_neg e]
      simp only [joinMid, List.getElem_map, List.getElem_range]
      have hne : jidx wd (p / wd) (p % wd) ≠ k * 64 + j := by
        intro h
        obtain ⟨a, b⟩ := hinv _ _ (Nat.mod_lt _ hw) h
        apply e
        rw [a, b, Nat.mul_comm, Nat.div_add_mod]
      by_cases hlt : jidx wd (p / wd) (p % wd) < k * 64 + j
      · rw [if_pos hlt, if_pos (by omega)]
      · rw [if_neg hlt, if_neg (by omega)]
theorem joinMid_skip (Z : List Int) (wd hi k j : Nat) (hj : j < 64) (h : ¬ (k / ((wd + 7) / 8) * 8 + j / 8 < hi ∧ k % ((wd + 7) / 8) * 8 + j % 8 < wd)) : joinMid Z wd hi (k * 64 + j) = joinMid Z wd hi (k * 64 + (j + 1)) := by
  have hinv := fun y x hx h => jidx_inv wd y x k j hx hj h
  unfold joinMid
  apply List.map_congr_left
  intro p hp
  have hp' : p < wd * hi := List.mem_range.1 hp
  rcases Nat.eq_zero_or_pos wd with h0 | hw
  · subst h0; omega
  have hy : p / wd < hi := Nat.div_lt_of_lt_mul hp'
  have hne : jidx wd (p / wd) (p % wd) ≠ k * 64 + j := by
    intro h9
    obtain ⟨a, b⟩ := hinv _ _ (Nat.mod_lt _ hw) h9
    apply h
    rw [a, b]
    exact ⟨hy, Nat.mod_lt _ hw⟩
  by_cases hlt : jidx wd (p / wd) (p % wd) < k * 64 + j
  · rw [if_pos hlt, if_pos (by omega)]
  · rw [if_neg hlt, if_neg (by omega)]
theorem jidx_lt (wd hi y x : Nat) (hx : x < wd) (hy : y < hi) : jidx wd y x < cutN wd hi * 64 := by
  unfold jidx cutN
  have h1 : x / 8 < (wd + 7) / 8 := by omega
  have h2 : y / 8 < (hi + 7) / 8 := by omega
  generalize (wd + 7) / 8 = c at *
  generalize (hi + 7) / 8 = d at *
  have h3 : (y / 8 + 1) * c ≤ d * c := Nat.mul_le_mul_right _ h2
  rw [Nat.add_mul, Nat.mul_comm d c] at h3
  have h4 : y / 8 * c + x / 8 + 1 ≤ c * d := by omega
  have h5 := Nat.mul_le_mul_right 64 h4
  omega
theorem joinMid_all (Z : List Int) (wd hi : Nat) : joinMid Z wd hi (cutN wd hi * 64) = joinZ Z wd hi := by
  unfold joinMid joinZ
  apply List.map_congr_left
  intro p hp
  have hp' : p < wd * hi := List.mem_range.1 hp
  rcases Nat.eq_zero_or_pos wd with h0 | hw
  · subst h0; omega
  rw [if_pos (jidx_lt wd hi _ _ (Nat.mod_lt _ hw) (Nat.div_lt_of_lt_mul hp'))]
/-- the errno of Join -/
def joinE (n : Nat) (Z : List Int) (wd hi : Int) (s : Int) : Int := if s = 0 then (if n = cutN wd.toNat hi.toNat then (if allIn Z (-40000) 40000 then 0 else 1) else 4) else 1
end Go.Proofs.Ytlepchdlkhogiaa
