/- Rows of three integers: tokens. Eq on equal lists of them. -/
import Derived.Deep.QuietTactic
import Derived.BigQuiet
import Derived.Test.YtdldkmplgfhnkaaBase
import Derived.Test.YtdldkmplgfhnkaaEqInt
namespace Go.Proofs.Ytdldkmplgfhnkaa
set_option linter.unusedVariables false
set_option linter.unusedSimpArgs false
open Go.RowKit
abbrev Tok := Int × Int × Int
def tokv (t : Tok) : List Value := [.int .i64 t.1, .int .i64 t.2.1, .int .i64 t.2.2]
def toks (T : List Tok) : List Value := T.flatMap tokv
theorem toks_len (T : List Tok) : (toks T).length = T.length * 3 := by
  induction T with
  | nil => rfl
  | cons t T ih => simp only [toks, List.flatMap_cons, List.length_append] at ih ⊢; rw [ih]; simp [tokv]; omega
theorem toks_app (T U : List Tok) : toks (T ++ U) = toks T ++ toks U := by simp [toks]
theorem toks_at (T : List Tok) (k : Nat) (h : k < T.length) :
    (toks T)[k * 3]? = some (.int .i64 T[k].1) ∧ (toks T)[k * 3 + 1]? = some (.int .i64 T[k].2.1) ∧ (toks T)[k * 3 + 2]? = some (.int .i64 T[k].2.2) := by
  induction T generalizing k with
  | nil => simp at h
  | cons t T ih =>
    have e : toks (t :: T) = tokv t ++ toks T := by simp [toks]
    rw [e]
    cases k with
    | zero => simp [tokv]
    | succ k =>
      have h2 : k < T.length := by simpa using h
      obtain ⟨a, b, c⟩ := ih k h2
      refine ⟨?_, ?_, ?_⟩
      · rw [List.getElem?_append_right (by simp [tokv]; omega), show (k + 1) * 3 - (tokv t).length = k * 3 by simp [tokv]; omega, a]; simp
      · rw [List.getElem?_append_right (by simp [tokv]; omega), show (k + 1) * 3 + 1 - (tokv t).length = k * 3 + 1 by simp [tokv]; omega, b]; simp
      · rw [List.getElem?_append_right (by simp [tokv]; omega), show (k + 1) * 3 + 2 - (tokv t).length = k * 3 + 2 by simp [tokv]; omega, c]; simp
theorem addr_next (ad : Addr) (i j : Nat) (hj : 0 < j) : (⟨(ad.add i).block, (ad.add i).off + j, none⟩ : Addr) = ad.add (i + j) := by
  unfold Addr.add
  rw [if_neg (show ¬ i + j = 0 by omega)]
  split
  · next h => subst h; simp
  · simp; omega
theorem SL.tok {w : World} {A : Option Addr} {n c : Nat} {T : List Tok} {k : Nat} (h : SL w 3 (.slice A n c) n (toks T)) (hk : k < n) (hn : T.length = n) (hkl : k < T.length) :
    ∃ ad, A = some ad ∧ ad.block < w.heap.size ∧ w.cell? (ad.add (k * 3)) = some (.int .i64 T[k].1) ∧ w.cell? ⟨(ad.add (k * 3)).block, (ad.add (k * 3)).off + 1, none⟩ = some (.int .i64 T[k].2.1) ∧ w.cell? ⟨(ad.add (k * 3)).block, (ad.add (k * 3)).off + 2, none⟩ = some (.int .i64 T[k].2.2) := by
  obtain ⟨A', c', e, _, _, h2, h3⟩ := h
  injection e with e1 e2 e3
  subst e1
  obtain ⟨ad, ea, hb, hc⟩ := h3 (by omega)
  obtain ⟨a, b, d⟩ := toks_at T k hkl
  exact ⟨ad, ea, hb, hc _ _ a, by rw [addr_next _ _ 1 (by omega)]; exact hc _ _ b, by rw [addr_next _ _ 2 (by omega)]; exact hc _ _ d⟩
end Go.Proofs.Ytdldkmplgfhnkaa
