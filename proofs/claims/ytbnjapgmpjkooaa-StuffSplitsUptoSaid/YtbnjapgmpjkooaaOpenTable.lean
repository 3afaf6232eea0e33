/- Opening a parameter: a list of integers, a table. -/
import Derived.ChangeSlices
import Derived.Test.YtbnjapgmpjkooaaOpen
import Derived.Test.YtbnjapgmpjkooaaTable
namespace Go.Proofs.Ytbnjapgmpjkooaa
set_option linter.unusedVariables false
set_option linter.unusedSimpArgs false
open Go.RowKit Go.ChangeShapes Go.WideShapes Go.ChangeAt
section
variable {H : Type} {enc : TypeId × Value → H} {w : World} {base : Nat} {spare : Nat → Bool} {held : Bool}
theorem open_intsX {fuel : Nat} {cs : List Value} {x : DataW H × List MemPlace} (h : DataW.trod enc Try.prog w base spare held fuel 31 cs = some x) :
    ∃ (zs : List Int) (v : Value), cs = [v] ∧ SL w 1 v zs.length (ints zs) ∧ ∀ z ∈ zs, inI64 z := by
  rcases open_ints Try.underlying31 Try.underlying3 cellsInt h with ⟨rfl, -⟩ | ⟨a, len, cap, zs, rfl, -, hlc, hcm, hzl, -, hcell, hwf⟩
  · exact ⟨[], _, rfl, SL.nil w 1, by simp⟩
  · have hlen : len ≤ zs.length := by rw [hzl]; split <;> omega
    refine ⟨zs.take len, _, rfl, ?_, fun z hz => inI64_of_wf (hwf z (List.mem_of_mem_take hz))⟩
    have hl : (zs.take len).length = len := by rw [List.length_take]; omega
    rw [hl]
    refine ⟨some a, cap, rfl, hlc, by unfold maxLen at hcm; omega, by rw [ints_len, hl]; omega, fun h0 => ⟨a, rfl, ?_, fun j u hu => ?_⟩⟩
    · have := hcell 0 (by omega)
      have h2 := World.block_lt_of_cell? w _ this
      rwa [block_of_add] at h2
    · obtain ⟨hj, rfl⟩ := ints_at _ _ _ hu
      have hj2 : j < len := by omega
      rw [hcell j (by omega)]
      simp [List.getD_eq_getElem?_getD, show j < zs.length by omega]
theorem cells16 : Try.prog.cellsOf 36 = 16 := by kernel_rfl
theorem cellsSl : Try.prog.cellsOf 31 = 1 := by kernel_rfl
theorem cellsTbl : Try.prog.cellsOf 38 = 17 := by kernel_rfl
set_option maxRecDepth 20000 in
theorem open_table {b0 : Nat} {r : Reach} {v : Value} {d : DataW H} {p : List MemPlace} (hv : Value.okWide Try.prog w r b0 38 v) (h : DataW.Trod enc Try.prog w base spare held 38 v d p) :
    ∃ (zs xs : List Int) (sl : Value), v = .agg (tblv zs sl) ∧ zs.length = 16 ∧ (∀ z ∈ zs, inI64 z) ∧ SL w 1 sl xs.length (ints xs) ∧ ∀ z ∈ xs, inI64 z := by
  obtain ⟨cs, rfl, hsz⟩ := okWide_struct Try.underlying38 hv
  obtain ⟨fuel, hf⟩ := h
  obtain ⟨y0, y1, n, -, hlen, h0, h1⟩ := trod_struct2 Try.underlying38 hf
  have hL : cs.toList.length = 17 := by rw [show cs.toList.length = cs.size by simp, hsz, cellsTbl]
  have hcs : (Value.agg cs).cells.toList = cs.toList := rfl
  rw [hcs] at h0 h1
  dsimp only at h0 h1
  obtain ⟨zs, hz, hc, hq⟩ := trod_ints_arr Try.underlying36 Try.underlying3 cellsInt cells16 h0
  obtain ⟨xs, sl, hs, hsl, hxq⟩ := open_intsX h1
  rw [cells16, List.drop_zero] at hc
  rw [cellsSl] at hs
  refine ⟨zs, xs, sl, ?_, hz, hq, hsl, hxq⟩
  have e2 : cs.toList.drop 16 = [sl] := by
    rw [← hs]
    rw [List.take_of_length_le (by rw [List.length_drop, hL]; omega)]
  have e : cs.toList = ints zs ++ [sl] := by
    rw [← hc, ← e2, List.take_append_drop]
  congr 1
  apply Array.ext'
  rw [e]
  simp [tblv]
end
end Go.Proofs.Ytbnjapgmpjkooaa
