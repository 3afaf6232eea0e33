/- Opening a parameter that is a picture. -/
import Derived.Test.YtlepchdlkhogiaaOpenMulti
import Derived.Test.YtlepchdlkhogiaaPicture
namespace Go.Proofs.Ytlepchdlkhogiaa
set_option linter.unusedVariables false
set_option linter.unusedSimpArgs false
open Go.RowKit Go.ChangeShapes Go.WideShapes Go.ChangeAt
section
variable {H : Type} {enc : TypeId × Value → H} {w : World} {base : Nat} {spare : Nat → Bool} {held : Bool}
theorem trod_struct3 {P : Program} {t : TypeId} {f0 f1 f2 : Field} {fuel : Nat} {cs : List Value} {x : DataW H × List MemPlace} (ht : P.underlying t = some (.struct #[f0, f1, f2])) (h : DataW.trod enc P w base spare held fuel t cs = some x) :
    ∃ y0 y1 y2 n, cs.length = P.cellsOf t ∧ DataW.trod enc P w base spare held n f0.type ((cs.drop f0.offset).take (P.cellsOf f0.type)) = some y0 ∧
      DataW.trod enc P w base spare held n f1.type ((cs.drop f1.offset).take (P.cellsOf f1.type)) = some y1 ∧ DataW.trod enc P w base spare held n f2.type ((cs.drop f2.offset).take (P.cellsOf f2.type)) = some y2 := by
  obtain ⟨xs, n, _, rfl, hl, hlen, hf⟩ := DataW.trod_struct ht h
  match xs, hlen with
  | [y0, y1, y2], _ => exact ⟨y0, y1, y2, n, hl, by simpa using hf 0 f0 rfl, by simpa using hf 1 f1 rfl, by simpa using hf 2 f2 rfl⟩
theorem cellsRows : Try.prog.cellsOf 38 = 1 := by kernel_rfl
theorem cellsPic : Try.prog.cellsOf 40 = 3 := by kernel_rfl
theorem open_rowsX {fuel : Nat} {cs : List Value} {x : DataW H × List MemPlace} (h : DataW.trod enc Try.prog w base spare held fuel 38 cs = some x) :
    ∃ (A : Option Addr) (n c : Nat) (L : List (List Int)), cs = [.slice A n c] ∧ RowsS w A n c L ∧ ∀ l ∈ L, ∀ z ∈ l, inI64 z := by
  rcases Go.Deep.open_slice1 Try.underlying38 cellsSl h with ⟨rfl, -⟩ | ⟨a, len, cap, m, n, V, D, Pl, rfl, -, hl, hm, hmm, -, hx⟩
  · exact ⟨none, 0, 0, [], rfl, RowsS.nil w, by simp⟩
  · have hle : len ≤ m := by rw [hmm]; split <;> omega
    obtain ⟨Z, hZ⟩ := Go.Deep.choose_lt (α := List Int) (n := len) (p := fun i zs => w.cell? (a.add i) = some (V i) ∧ SL w 1 (V i) zs.length (ints zs) ∧ ∀ z ∈ zs, inI64 z) (fun i hi => by
      obtain ⟨h1, h2⟩ := hx i (by omega)
      obtain ⟨zs, v, hv, hs, hz⟩ := open_intsX h2
      injection hv with hv
      rw [← hv] at hs
      exact ⟨zs, h1, hs, hz⟩)
    refine ⟨some a, len, cap, (List.range len).map Z, rfl, ⟨(List.range len).map V, ⟨some a, cap, rfl, hl, by unfold maxLen at hm; omega, by simp, fun h0 => ⟨a, rfl, ?_, fun j u hu => ?_⟩⟩, by simp, fun k l hl => ?_⟩, fun l hl => ?_⟩
    · have h2 := World.block_lt_of_cell? w _ (hZ 0 h0).1
      rwa [block_of_add] at h2
    · have hj : j < len := by have := (List.getElem?_eq_some_iff.1 hu).1; simpa using this
      rw [List.getElem?_map, List.getElem?_range hj] at hu
      rw [(hZ j hj).1]
      exact hu
    · have hk : k < len := by have := (List.getElem?_eq_some_iff.1 hl).1; simpa using this
      rw [List.getElem?_map, List.getElem?_range hk] at hl ⊢
      have e : Z k = l := by simpa using hl
      obtain ⟨-, hs, -⟩ := hZ k hk
      rw [e] at hs
      have hs' := hs
      obtain ⟨B, d, e2, -⟩ := hs
      rw [e2] at hs'
      refine ⟨B, d, ?_, hs'⟩
      show some (V k) = _
      rw [e2]
    · obtain ⟨i, hi, rfl⟩ := List.mem_map.1 hl
      exact (hZ i (List.mem_range.1 hi)).2.2
set_option maxRecDepth 20000 in
theorem open_picture {b0 : Nat} {r : Reach} {v : Value} {d : DataW H} {p : List MemPlace} (hv : Value.okWide Try.prog w r b0 40 v) (h : DataW.Trod enc Try.prog w base spare held 40 v d p) :
    ∃ (wd hi : Int) (A : Option Addr) (n c : Nat) (L : List (List Int)), v = .agg (picV wd hi (.slice A n c)) ∧ RowsS w A n c L ∧ inI64 wd ∧ inI64 hi := by
  obtain ⟨cs, rfl, hsz⟩ := okWide_struct Try.underlying40 hv
  obtain ⟨fuel, hf⟩ := h
  obtain ⟨y0, y1, y2, n, hlen, h0, h1, h2⟩ := trod_struct3 Try.underlying40 hf
  have hL : cs.toList.length = 3 := by rw [show cs.toList.length = cs.size by simp, hsz, cellsPic]
  have hcs : (Value.agg cs).cells.toList = cs.toList := rfl
  rw [hcs] at h0 h1 h2
  dsimp only at h0 h1 h2
  rw [cellsInt] at h0 h1
  rw [cellsRows] at h2
  obtain ⟨wd, e0, w0⟩ := trod_int_cell Try.underlying3 h0
  obtain ⟨hi, e1, w1⟩ := trod_int_cell Try.underlying3 h1
  obtain ⟨A, m, c, L, e2, hr, -⟩ := open_rowsX h2
  refine ⟨wd, hi, A, m, c, L, ?_, hr, w0, w1⟩
  congr 1
  apply Array.ext'
  match hq : cs.toList, hL with
  | [a, b, d], _ =>
    rw [hq] at e0 e1 e2
    simp at e0 e1 e2
    subst e0 e1 e2
    rfl
end
end Go.Proofs.Ytlepchdlkhogiaa
