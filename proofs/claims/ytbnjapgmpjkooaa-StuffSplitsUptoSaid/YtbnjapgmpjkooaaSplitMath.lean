/- Splitting stuffed bytes: plain. -/
import Derived.Test.YtbnjapgmpjkooaaBytesV
import Derived.Test.YtbnjapgmpjkooaaUpd
namespace Go.Proofs.Ytbnjapgmpjkooaa
set_option linter.unusedVariables false
set_option linter.unusedSimpArgs false
open Go.RowKit
/-- pieces, marks; none: an error -/
def spGo : List Nat → List (List Nat) → List Nat → List Nat → Option (List (List Nat) × List Nat)
  | [], P, M, c => some (P ++ [c], M)
  | [x], P, M, c => if x = 255 then none else some (P ++ [c ++ [x]], M)
  | x :: y :: r, P, M, c => if x = 255 then (if y = 255 then none else if y = 0 then spGo r P M (c ++ [255, 0]) else spGo r (P ++ [c]) (M ++ [y]) []) else spGo (y :: r) P M (c ++ [x])
theorem sp_end {bs : List Nat} {i : Nat} {P : List (List Nat)} {M c : List Nat} (h : bs.length ≤ i) : spGo (bs.drop i) P M c = some (P ++ [c], M) := by
  rw [List.drop_of_length_le h, spGo]
theorem sp_plain {bs : List Nat} {i : Nat} {P : List (List Nat)} {M c : List Nat} (h : i < bs.length) (hx : bs[i] ≠ 255) : spGo (bs.drop i) P M c = spGo (bs.drop (i + 1)) P M (c ++ [bs[i]]) := by
  rw [List.drop_eq_getElem_cons h]
  cases hd : bs.drop (i + 1) with
  | nil => simp [spGo, hx]
  | cons y r => simp [spGo, hx]
theorem sp_two {bs : List Nat} {i : Nat} {P : List (List Nat)} {M c : List Nat} (h : i + 1 < bs.length) (hx : bs[i] = 255) :
    spGo (bs.drop i) P M c = if bs[i + 1] = 255 then none else if bs[i + 1] = 0 then spGo (bs.drop (i + 2)) P M (c ++ [255, 0]) else spGo (bs.drop (i + 2)) (P ++ [c]) (M ++ [bs[i + 1]]) [] := by
  rw [List.drop_eq_getElem_cons (by omega), List.drop_eq_getElem_cons h, spGo, if_pos hx]
theorem sp_last {bs : List Nat} {i : Nat} {P : List (List Nat)} {M c : List Nat} (h : i + 1 = bs.length) (hx : bs[i]'(by omega) = 255) : spGo (bs.drop i) P M c = none := by
  rw [List.drop_eq_getElem_cons (by omega), List.drop_of_length_le (by omega), spGo, if_pos hx]
/-- every piece and every mark takes room in the bytes -/
theorem sp_len : ∀ (r : List Nat) (P : List (List Nat)) (M c : List Nat) (z : List (List Nat) × List Nat), spGo r P M c = some z → z.1.length ≤ P.length + r.length + 1 ∧ z.2.length ≤ M.length + r.length
  | [], P, M, c, z, h => by simp [spGo] at h; subst h; simp
  | [x], P, M, c, z, h => by
    simp only [spGo] at h
    split at h
    · cases h
    · simp at h; subst h; simp
  | x :: y :: r, P, M, c, z, h => by
    simp only [spGo] at h
    split at h
    · split at h
      · cases h
      · split at h
        · have := sp_len r P M (c ++ [255, 0]) z h
          simp only [List.length_cons]; omega
        · have := sp_len r (P ++ [c]) (M ++ [y]) [] z h
          simp only [List.length_append, List.length_cons, List.length_nil] at this ⊢; omega
    · have := sp_len (y :: r) P M (c ++ [x]) z h
      simp only [List.length_cons] at this ⊢; omega
/-- a slice of slices of bytes -/
def Pieces (w : World) (VS : List Value) (P : List (List Nat)) : Prop :=
  VS.length = P.length ∧ ∀ i (h : i < P.length), ∃ A c, VS[i]? = some (.slice A P[i].length c) ∧ SL w 1 (.slice A P[i].length c) P[i].length (bytesV P[i])
theorem Pieces.ext {w w' : World} {VS : List Value} {P : List (List Nat)} (h : Pieces w VS P) (hx : Ext w w') : Pieces w' VS P :=
  ⟨h.1, fun i hi => by obtain ⟨A, c, h1, h2⟩ := h.2 i hi; exact ⟨A, c, h1, h2.ext hx⟩⟩
theorem Pieces.snoc {w : World} {VS : List Value} {P : List (List Nat)} (h : Pieces w VS P) {A : Option Addr} {n c : Nat} {l : List Nat} (hn : l.length = n) (hs : SL w 1 (.slice A n c) n (bytesV l)) : Pieces w (VS ++ [.slice A n c]) (P ++ [l]) := by
  subst hn
  refine ⟨by simp [h.1], fun i hi => ?_⟩
  by_cases hlt : i < P.length
  · obtain ⟨B, d, h1, h2⟩ := h.2 i hlt
    refine ⟨B, d, ?_, ?_⟩
    · rw [List.getElem?_append_left (by rw [h.1]; exact hlt), h1, List.getElem_append_left hlt]
    · rw [List.getElem_append_left hlt]; exact h2
  · have e : i = P.length := by simp at hi; omega
    subst e
    refine ⟨A, c, ?_, ?_⟩
    · rw [List.getElem?_append_right (by rw [h.1]; exact Nat.le_refl _), h.1]; simp
    · simpa using hs
end Go.Proofs.Ytbnjapgmpjkooaa
