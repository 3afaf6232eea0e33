/- What the bound of an ..UptoSaid gives. -/
import Derived.Test.YtbnjapgmpjkooaaRows
import Derived.Test.YtbnjapgmpjkooaaOpenSlices
namespace Go.Proofs.Ytbnjapgmpjkooaa
set_option linter.unusedVariables false
set_option linter.unusedSimpArgs false
open Go.RowKit Go.ChangeShapes Go.WideShapes Go.ChangeAt
section
variable {H : Type}
theorem bulk_pos (d : DataW H) : 1 ≤ Rows.uptoBulk d := by
  cases d with
  | lit l => cases l <;> simp [Rows.uptoBulk]
  | _ => simp [Rows.uptoBulk]
theorem bulk_many (l : List (DataW H)) : l.length ≤ Rows.uptoBulkAll l := by
  induction l with
  | nil => simp [Rows.uptoBulkAll]
  | cons d l ih => have := bulk_pos d; simp only [Rows.uptoBulkAll, List.length_cons]; omega
theorem bulk_part {d : DataW H} : ∀ {l : List (DataW H)}, d ∈ l → Rows.uptoBulk d ≤ Rows.uptoBulkAll l
  | x :: l, h => by
    simp only [Rows.uptoBulkAll]
    rcases List.mem_cons.1 h with rfl | h
    · omega
    · have := bulk_part h; omega
variable {enc : TypeId × Value → H} {P : Program} {w : World} {base : Nat} {spare : Nat → Bool} {held : Bool}
theorem bulk_slice {t e : TypeId} {A : Option Addr} {n c : Nat} {d : DataW H} {p : List MemPlace} {l : List (DataW H)} (ht : P.underlying t = some (.slice e)) (h : DataW.Trod enc P w base spare held t (.slice A n c) d p) (hd : d ∈ l) (hk : Rows.uptoSmall H l = true) : n ≤ 1048576 := by
  have hb : Rows.uptoBulkAll l ≤ 1048576 := of_decide_eq_true hk
  have h1 := bulk_part hd
  obtain ⟨fuel, hf⟩ := h
  rcases Go.Deep.open_slice ht hf with ⟨h0, -⟩ | ⟨a, len, cap, m, k, D, Pl, hcs, -, hl, hm, hmm, hx, -⟩
  · have : n = 0 := by simpa [Value.cells] using congrArg (fun l => match l with | [Value.slice _ n _] => n | _ => 0) h0
    omega
  · have hn : n = len := by simpa [Value.cells] using congrArg (fun l => match l with | [Value.slice _ n _] => n | _ => 0) hcs
    have hdd : d = .slice ((List.range len).map D) ((List.range (m - len)).map fun j => D (len + j)) := congrArg Prod.fst hx
    rw [hdd] at h1
    have h2 := bulk_many ((List.range len).map D)
    simp only [List.length_map, List.length_range] at h2
    simp only [Rows.uptoBulk] at h1
    omega
theorem bulk_sl {t e : TypeId} {v : Value} {sz n : Nat} {xs : List Value} {w0 : World} {d : DataW H} {p : List MemPlace} {l : List (DataW H)} (hs : SL w0 sz v n xs) (ht : P.underlying t = some (.slice e)) (h : DataW.Trod enc P w base spare held t v d p) (hd : d ∈ l) (hk : Rows.uptoSmall H l = true) : n ≤ 1048576 := by
  obtain ⟨A, c, rfl, -⟩ := hs
  exact bulk_slice ht h hd hk
end
end Go.Proofs.Ytbnjapgmpjkooaa
