/- The tokens of a block, in plain words. -/
import Derived.Test.YthnchhkiidlpkaaTok
import Derived.Test.YthnchhkiidlpkaaSize
import Derived.Test.YthnchhkiidlpkaaZigMath
namespace Go.Proofs.Ythnchhkiidlpkaa
open Go.RowKit
def tokZ (r n : Int) : Tok := (16 * r + (bitsZ n).1, (bitsZ n).1, (bitsZ n).2.1)
def long : Tok := (240, 0, 0)
def stepT (s : List Tok × Nat) (n : Int) : List Tok × Nat := if n = 0 then (s.1, s.2 + 1) else (s.1 ++ List.replicate (s.2 / 16) long ++ [tokZ ((s.2 % 16 : Nat) : Int) n], 0)
/-- behind the first k numbers of l -/
def accT (t0 : Tok) (l : List Int) (k : Nat) : List Tok × Nat := (l.take k).foldl stepT ([t0], 0)
theorem accT_zero (t0 : Tok) (l : List Int) : accT t0 l 0 = ([t0], 0) := rfl
theorem accT_succ (t0 : Tok) (l : List Int) (k : Nat) (h : k < l.length) : accT t0 l (k + 1) = stepT (accT t0 l k) l[k] := by
  unfold accT
  rw [List.take_succ_eq_append_getElem h, List.foldl_append]
  rfl
theorem accT_bd (t0 : Tok) (l : List Int) : ∀ k, k ≤ l.length → k ≤ 64 → (accT t0 l k).2 ≤ k ∧ (accT t0 l k).1.length ≤ 1 + 64 * k := by
  intro k
  induction k with
  | zero => intro _ _; simp [accT_zero]
  | succ k ih =>
    intro h1 h2
    obtain ⟨a, b⟩ := ih (by omega) (by omega)
    rw [accT_succ t0 l k (by omega)]
    unfold stepT
    split
    · simp; omega
    · simp; omega
theorem stepT_zero {s : List Tok × Nat} {n : Int} (h : n = 0) : stepT s n = (s.1, s.2 + 1) := by unfold stepT; rw [if_pos h]
theorem stepT_one {s : List Tok × Nat} {n : Int} (h : n ≠ 0) : stepT s n = (s.1 ++ List.replicate (s.2 / 16) long ++ [tokZ ((s.2 % 16 : Nat) : Int) n], 0) := by unfold stepT; rw [if_neg h]
/-- all tokens of a block (as a list in zig order), behind a number -/
def tokensZ (before : Int) (z : List Int) : List Tok :=
  let s := accT (tokZ 0 (z.getD 0 0 - before)) (z.drop 1) 63
  if 0 < s.2 then s.1 ++ [(0, 0, 0)] else s.1
end Go.Proofs.Ythnchhkiidlpkaa
