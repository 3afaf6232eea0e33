/- Whether a table may be, in plain words. -/
import Derived.Test.YtjlabbabgkfknaaWordsOf
namespace Go.Proofs.Ytjlabbabgkfknaa
set_option linter.unusedVariables false
set_option linter.unusedSimpArgs false
open Go.RowKit
/-- counts within bounds, as many as symbols -/
def totOK (cs xs : List Int) : Bool := allIn cs 0 256 && decide (sumL cs 16 ≤ 256) && decide (sumL cs 16 = xs.length)
/-- what Check answers -/
def checkZ (cs xs : List Int) : Int := if totOK cs xs then (if allIn xs 0 255 then (if decide xs.Nodup && okW cs then 0 else 4) else 1) else 4
theorem checkZ_tot {cs xs : List Int} (h : totOK cs xs = false) : checkZ cs xs = 4 := by simp [checkZ, h]
theorem checkZ_arg {cs xs : List Int} (h : totOK cs xs = true) (h2 : allIn xs 0 255 = false) : checkZ cs xs = 1 := by simp [checkZ, h, h2]
theorem checkZ_dup {cs xs : List Int} (h : totOK cs xs = true) (h2 : allIn xs 0 255 = true) (h3 : ¬ xs.Nodup) : checkZ cs xs = 4 := by simp [checkZ, h, h2, h3]
theorem checkZ_words {cs xs : List Int} (h : totOK cs xs = true) (h2 : allIn xs 0 255 = true) (h3 : xs.Nodup) : checkZ cs xs = if okW cs then 0 else 4 := by simp [checkZ, h, h2, h3]
theorem totOK_iff {cs xs : List Int} : totOK cs xs = true ↔ allIn cs 0 256 = true ∧ sumL cs 16 ≤ 256 ∧ sumL cs 16 = xs.length := by simp [totOK, and_assoc]
theorem nodup_take_succ {xs : List Int} {k : Nat} (hk : k < xs.length) : (xs.take (k + 1)).Nodup ↔ (xs.take k).Nodup ∧ xs[k] ∉ xs.take k := by
  rw [List.take_succ_eq_append_getElem hk, List.nodup_append]
  constructor
  · rintro ⟨a, -, c⟩
    exact ⟨a, fun h => c _ h _ (by simp) rfl⟩
  · rintro ⟨a, b⟩
    refine ⟨a, by simp, fun x hx y hy => ?_⟩
    simp at hy
    subst hy
    rintro rfl
    exact b hx
theorem okW_yes {cs : List Int} (h : ∀ j, j < 16 → nextW cs (j + 1) + 1 ≤ 2 ^ (j + 1)) : okW cs = true :=
  List.all_eq_true.2 fun i hi => by
    have := h i (List.mem_range.1 hi)
    simpa using this
theorem nextW_succ (cs : List Int) (k n : Nat) (hk : k < cs.length) (h : cs[k] = (n : Int)) : nextW cs (k + 1) = 2 * nextW cs k + n := by
  show 2 * nextW cs k + (cs.getD k 0).toNat = _
  simp [hk, h]
theorem sumL_bd {cs : List Int} (h : allIn cs 0 256 = true) : ∀ k, 0 ≤ sumL cs k ∧ sumL cs k ≤ sumL cs (k + 1) := by
  have key : ∀ l : List Int, (∀ z ∈ l, 0 ≤ z) → 0 ≤ l.sum := by
    intro l
    induction l with
    | nil => simp
    | cons a l ih =>
      intro h
      have := h a (by simp)
      have := ih (fun z hz => h z (by simp [hz]))
      simp; omega
  have h' := allIn_iff.1 h
  intro k
  constructor
  · exact key _ fun z hz => (h' z (List.mem_of_mem_take hz)).1
  · rcases Nat.lt_or_ge k cs.length with hk | hk
    · rw [sumL_succ cs k hk]
      have := h' _ (List.getElem_mem hk)
      omega
    · unfold sumL
      rw [List.take_of_length_le hk, List.take_of_length_le (by omega)]
      omega
end Go.Proofs.Ytjlabbabgkfknaa
