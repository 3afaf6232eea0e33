/- Opening a parameter that is a slice. -/
import Derived.Deep.SlicePairs
import Derived.Test.YtbnjapgmpjkooaaOpenTable
import Derived.Test.YtbnjapgmpjkooaaBytesV
namespace Go.Proofs.Ytbnjapgmpjkooaa
set_option linter.unusedVariables false
set_option linter.unusedSimpArgs false
open Go.RowKit Go.ChangeShapes Go.WideShapes Go.ChangeAt
section
variable {H : Type} {enc : TypeId × Value → H} {w : World} {base : Nat} {spare : Nat → Bool} {held : Bool}
theorem slice_value {P : Program} {r : Reach} {b0 : Nat} {t e : TypeId} {v : Value} {u : Value} (ht : P.underlying t = some (.slice e)) (hv : Value.okWide P w r b0 t v) (hc : v.cells.toList = [u]) (hu : ∀ cs, u ≠ .agg cs) : v = u := by
  cases v with
  | agg cs =>
    simp [Value.okWide, ht, Cell.okWide, Cell.ok] at hv
  | _ => simpa [Value.cells] using hc
set_option maxRecDepth 20000 in
theorem open_ints_v {b0 : Nat} {r : Reach} {v : Value} {d : DataW H} {p : List MemPlace} (hv : Value.okWide Try.prog w r b0 31 v) (h : DataW.Trod enc Try.prog w base spare held 31 v d p) :
    ∃ zs : List Int, SL w 1 v zs.length (ints zs) ∧ ∀ z ∈ zs, inI64 z := by
  obtain ⟨fuel, hf⟩ := h
  obtain ⟨zs, u, hcs, hs, hz⟩ := open_intsX hf
  have : v = u := slice_value Try.underlying31 hv hcs (by obtain ⟨A, c, rfl, -⟩ := hs; simp)
  subst this
  exact ⟨zs, hs, hz⟩
theorem bytes_of (zs : List Int) (h : ∀ n ∈ zs, (Lit.int .u8 n).wf = true) : ∃ bs : List Nat, zs.map (Value.int .u8) = bytesV bs ∧ ∀ b ∈ bs, b < 256 := by
  refine ⟨zs.map Int.toNat, ?_, ?_⟩
  · unfold bytesV
    rw [List.map_map]
    apply List.map_congr_left
    intro z hz
    have := h z hz
    simp [Lit.wf, IntKind.min, IntKind.max, IntKind.signed, IntKind.bits] at this
    simp; omega
  · intro b hb
    obtain ⟨z, hz, rfl⟩ := List.mem_map.1 hb
    have := h z hz
    simp [Lit.wf, IntKind.min, IntKind.max, IntKind.signed, IntKind.bits] at this
    omega
set_option maxRecDepth 20000 in
theorem open_bytes_v {b0 : Nat} {r : Reach} {v : Value} {d : DataW H} {p : List MemPlace} (hv : Value.okWide Try.prog w r b0 23 v) (h : DataW.Trod enc Try.prog w base spare held 23 v d p) :
    ∃ bs : List Nat, SL w 1 v bs.length (bytesV bs) ∧ ∀ b ∈ bs, b < 256 := by
  obtain ⟨fuel, hf⟩ := h
  rcases open_ints Try.underlying23 Try.underlying5 (by kernel_rfl) hf with ⟨hcs, -⟩ | ⟨a, len, cap, zs, hcs, -, hlc, hcm, hzl, -, hcell, hwf⟩
  · obtain rfl := slice_value Try.underlying23 hv hcs (by simp)
    exact ⟨[], SL.nil w 1, by simp⟩
  · obtain rfl := slice_value Try.underlying23 hv hcs (by simp)
    have hlen : len ≤ zs.length := by rw [hzl]; split <;> omega
    obtain ⟨bs, hbs, hlt⟩ := bytes_of (zs.take len) (fun n hn => hwf n (List.mem_of_mem_take hn))
    have hl : bs.length = len := by
      have := congrArg List.length hbs
      simp [bytesV] at this
      omega
    refine ⟨bs, ?_, hlt⟩
    rw [hl]
    refine ⟨some a, cap, rfl, hlc, by unfold maxLen at hcm; omega, by rw [bytesV_len, hl]; omega, fun h0 => ⟨a, rfl, ?_, fun j u hu => ?_⟩⟩
    · have := hcell 0 (by omega)
      have h2 := World.block_lt_of_cell? w _ this
      rwa [block_of_add] at h2
    · rw [← hbs, List.getElem?_map] at hu
      obtain ⟨z, hz, rfl⟩ := Option.map_eq_some_iff.1 hu
      have hj : j < len := by have := (List.getElem?_eq_some_iff.1 hz).1; simp at this; omega
      rw [List.getElem?_take_of_lt hj] at hz
      rw [hcell j (by omega)]
      simp [List.getD_eq_getElem?_getD, hz]
end
end Go.Proofs.Ytbnjapgmpjkooaa
