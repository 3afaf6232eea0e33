/- Words of a table: rows of three integers. -/
import Derived.Test.YtlcpkngbpjfnjaaTok
import Derived.Test.YtlcpkngbpjfnjaaAppend
import Derived.Test.YtlcpkngbpjfnjaaStrB
import Derived.Test.YtlcpkngbpjfnjaaCheckMath
namespace Go.Proofs.Ytlcpkngbpjfnjaa
set_option linter.unusedVariables false
set_option linter.unusedSimpArgs false
open Go.RowKit
theorem elt_word : Elt Try.prog 45 51 3 24 := ⟨Try.underlying45, by kernel_rfl, by omega⟩
theorem one_sl3' (w : World) (T : TypeId) (a b c : Value) : SL (w.alloc (.cells #[a, b, c] T)) 3 (.slice (some ⟨w.heap.size, 0, none⟩) 1 1) 1 [a, b, c] := by
  have := (Blk.new w T #[a, b, c]).sl (size := 3) (n := 1) (c := 1) rfl (by omega) (by omega)
  simpa using this
theorem int3_one (a b c : Int) : ∀ u ∈ [Value.int .i64 a, .int .i64 b, .int .i64 c], u.oneCell' = true := by
  intro u hu
  simp at hu
  rcases hu with rfl | rfl | rfl <;> rfl
theorem own_tok3 {w : World} {base : Nat} {e : TypeId} {v : Value} {T : List Tok} {a b c : Int} (h : w.ownsRow base e 3 v (T.length + 1) (toks T ++ [.int .i64 a, .int .i64 b, .int .i64 c])) : w.ownsRow base e 3 v (T ++ [(a, b, c)]).length (toks (T ++ [(a, b, c)])) := by
  simpa [toks, tokv] using h
/-- the words of a table in order: how many digits, and which number -/
def rowC (cs : List Int) (k j : Nat) : List (Nat × Nat) := (List.range j).map fun i => (k + 1, 2 * nextW cs k + i)
def codesW (cs : List Int) : Nat → List (Nat × Nat)
  | 0 => []
  | k + 1 => codesW cs k ++ rowC cs k (cs.getD k 0).toNat
theorem rowC_succ (cs : List Int) (k j : Nat) : rowC cs k (j + 1) = rowC cs k j ++ [(k + 1, 2 * nextW cs k + j)] := by
  unfold rowC
  rw [List.range_succ, List.map_append]
  rfl
theorem rowC_len (cs : List Int) (k j : Nat) : (rowC cs k j).length = j := by simp [rowC]
theorem codesW_step (cs : List Int) (k n : Nat) (hk : k < cs.length) (h : cs[k] = (n : Int)) : codesW cs (k + 1) = codesW cs k ++ rowC cs k n := by
  show codesW cs k ++ rowC cs k (cs.getD k 0).toNat = _
  simp [hk, h]
theorem codesW_len (cs : List Int) (h : ∀ z ∈ cs, 0 ≤ z) : ∀ k, k ≤ cs.length → ((codesW cs k).length : Int) = sumL cs k := by
  intro k
  induction k with
  | zero => intro _; simp [codesW, sumL]
  | succ k ih =>
    intro hk
    have h0 := h _ (List.getElem_mem (show k < cs.length by omega))
    rw [codesW_step cs k cs[k].toNat (by omega) (by omega), List.length_append, rowC_len, sumL_succ cs k (by omega), ← ih (by omega)]
    omega
theorem codesW_mono (cs : List Int) (j k : Nat) (h : j ≤ k) : (codesW cs j).length ≤ (codesW cs k).length := by
  induction k with
  | zero => obtain rfl : j = 0 := by omega
            exact Nat.le_refl _
  | succ k ih =>
    rcases Nat.lt_or_ge k j with h2 | h2
    · obtain rfl : j = k + 1 := by omega
      exact Nat.le_refl _
    · have := ih h2
      show _ ≤ (codesW cs k ++ _).length
      rw [List.length_append]
      omega
theorem outW_codes (cs : List Int) (k : Nat) : outW cs k = (codesW cs k).map fun p => binS p.2 p.1 := by
  induction k with
  | zero => rfl
  | succ k ih =>
    show outW cs k ++ rowW cs k _ = _
    rw [ih]
    simp [codesW, rowC, rowW, Function.comp_def]
/-- symbols beside their words -/
def zipC (l : List (Nat × Nat)) (xs : List Int) : List Tok := List.zipWith (fun p x => ((x, (p.1 : Int), (p.2 : Int)) : Tok)) l xs
theorem zipC_len (l : List (Nat × Nat)) (xs : List Int) (h : l.length ≤ xs.length) : (zipC l xs).length = l.length := by simp [zipC]; omega
theorem zipC_snoc (l : List (Nat × Nat)) (p : Nat × Nat) (xs : List Int) (h : l.length < xs.length) : zipC (l ++ [p]) xs = zipC l xs ++ [(xs[l.length], (p.1 : Int), (p.2 : Int))] := by
  induction l generalizing xs with
  | nil =>
    cases xs with
    | nil => simp at h
    | cons x xs => simp [zipC]
  | cons q l ih =>
    cases xs with
    | nil => simp at h
    | cons x xs =>
      have h' : l.length < xs.length := by simpa using h
      have := ih xs h'
      simp only [zipC, List.cons_append, List.zipWith_cons_cons] at this ⊢
      rw [this]
      simp
/-- each word fits its length -/
theorem codesW_fit (cs : List Int) (hok : okW cs = true) (hl : cs.length = 16) : ∀ k, k ≤ 16 → ∀ p ∈ codesW cs k, 1 ≤ p.1 ∧ p.1 ≤ k ∧ p.2 + 1 < 2 ^ p.1 + 1 := by
  intro k
  induction k with
  | zero => intro _ p hp; simp [codesW] at hp
  | succ k ih =>
    intro hk p hp
    rcases List.mem_append.1 (show p ∈ codesW cs k ++ rowC cs k (cs.getD k 0).toNat from hp) with h | h
    · have := ih (by omega) p h
      omega
    · simp only [rowC, List.mem_map, List.mem_range] at h
      obtain ⟨i, hi, rfl⟩ := h
      have h1 := List.all_eq_true.1 hok k (List.mem_range.2 (by omega))
      simp only [decide_eq_true_eq] at h1
      have h2 : nextW cs (k + 1) = 2 * nextW cs k + (cs.getD k 0).toNat := rfl
      refine ⟨by simp, by simp, ?_⟩
      simp only
      omega
theorem codesW_zero (cs : List Int) : codesW cs 0 = [] := rfl
theorem codesW_succ (cs : List Int) (k : Nat) : codesW cs (k + 1) = codesW cs k ++ rowC cs k (cs.getD k 0).toNat := rfl
attribute [irreducible] codesW
end Go.Proofs.Ytlcpkngbpjfnjaa
