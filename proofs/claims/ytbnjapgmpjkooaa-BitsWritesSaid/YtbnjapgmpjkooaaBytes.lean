/- bits.Writer.Bytes. -/
import Derived.Test.YtbnjapgmpjkooaaWriter
namespace Go.Proofs.Ytbnjapgmpjkooaa
set_option linter.unusedVariables false
set_option linter.unusedSimpArgs false
open Go.RowKit
theorem padB_zero {L : List Bool} (h : L.length % 8 = 0) : padB L = L := by simp [padB, h]
theorem padB_digs {L : List Bool} {k : Nat} (h : L.length % 8 + k = 8) (h2 : 0 < L.length % 8) : padB L = L ++ digs (2 ^ k - 1) k := by
  rw [digs_ones]
  unfold padB
  congr 2
  omega
set_option maxRecDepth 20000 in
set_option maxHeartbeats 1000000 in
theorem bytes_any (gw : Nat) (L : List Bool) (r : Option Nat) (w : World) (h : WrS w gw L r) (hl : L.length ≤ 1000000000000) :
    Calls Try.prog 27 #[.pointer (some ⟨gw, 0, none⟩)] w fun e w' => ∃ A c, e = .returned (.slice A (packB (padB L)).length c) ∧ SL w' 1 (.slice A (packB (padB L)).length c) (packB (padB L)).length (bytesV (packB (padB L))) ∧
      (∀ ad, A = some ad → gw < ad.block) ∧ Upd (fun b => b = gw ∨ r = some b) w w' := by
  by_cases hm0 : L.length % 8 = 0
  · rw [padB_zero hm0]
    obtain ⟨A, c, hr, hB, hown⟩ := h
    have HPL := hid_ (packB_len L)
    rw [hm0] at hB
    generalize packB L = T at *
    generalize L.length / 8 = n at *
    have c0 := hB.cell 0
    have c2 := hB.cell 2
    simp only [List.getElem?_toArray, List.getElem?_cons_zero, List.getElem?_cons_succ] at c0 c2
    clear hm0
    go_enter Try.func27, Try.ntmps27
    go_wp2_with fail
    go_ret
    rw [HPL.out]
    obtain ⟨h1, h2⟩ := own_out' hown
    exact ⟨A, c, rfl, h1, fun ad h => by have := h2 ad h; omega, Upd.refl _ _⟩
  · have hw := h
    obtain ⟨A, c, hr, hB, hown⟩ := h
    obtain ⟨k, hk⟩ : ∃ k, L.length % 8 + k = 8 := ⟨8 - L.length % 8, by omega⟩
    rw [padB_digs hk (by omega)]
    have hPk := Nat.two_pow_pos k
    have hP8 : (2 : Nat) ^ k ≤ 2 ^ 8 := Nat.pow_le_pow_right (by omega) (by omega)
    have HPUT := hid_ (fun W (hW : WrS W gw L r) => put_any gw L r (2 ^ k - 1) k W hW (by omega) (by omega) hl)
    have HW1 : Hid (IntKind.i64.wrap (8 - ((L.length % 8 : Nat) : Int)) = (k : Int)) := hid_ (by rw [IntWalk.i64_in _ (by omega)]; omega)
    have HW2 : Hid (IntKind.i64.wrap ((2 : Int) ^ k) = ((2 ^ k : Nat) : Int)) := hid_ (by
      have : ((2 : Int) ^ k) = ((2 ^ k : Nat) : Int) := by push_cast; rfl
      rw [this, IntWalk.i64_in _ (by omega)])
    have HW3 : Hid (IntKind.i64.wrap (((2 ^ k : Nat) : Int) - 1) = ((2 ^ k - 1 : Nat) : Int)) := hid_ (by rw [IntWalk.i64_in _ (by omega)]; omega)
    have c0 := hB.cell 0
    have c2 := hB.cell 2
    simp only [List.getElem?_toArray, List.getElem?_cons_zero, List.getElem?_cons_succ] at c0 c2
    have HL8 := hid_ (packB_len (L ++ digs (2 ^ k - 1) k))
    generalize L ++ digs (2 ^ k - 1) k = L' at *
    generalize (2 : Nat) ^ k - 1 = p1 at *
    generalize hP : (2 : Nat) ^ k = P at *
    have hm1 : 0 < L.length % 8 := by omega
    generalize L.length % 8 = m at *
    clear hm0 hP hown hB hr
    go_enter Try.func27, Try.ntmps27
    go_wp2_with fail
    refine wp_region_lxt later_eq 13 (by kernel_rfl) (by kernel_rfl) ?_
    simp only [List.take_succ_cons, List.take_zero]
    iterate 13 (refine lx_ex (by rfl) ?_; apply Exists.intro; refine ⟨fun w hw => ?_, ?_⟩; · (subst hw; have h1 := HW1.out; have h2 := HW2.out; have h3 := HW3.out; go_simp; with_reducible rfl)
                simp only [Act.put, List.setIfInBounds_toArray, List.set_cons_succ, List.set_cons_zero])
    refine lx_nil ?_
    rintro w3 rfl
    try simp only [List.drop_succ_cons, List.drop_zero]
    have hwd := hw.drew
    clear c0 c2 HW1 HW2 HW3
    go_wp2_with (go_at_call 26; (with_reducible refine (HPUT.out _ hwd).mono ?_); rintro e w5 ⟨rfl, r', ⟨A5, c5, hr5, hB5, hown5⟩, hrr, hu5⟩; have c0 := hB5.cell 0; simp only [List.getElem?_toArray, List.getElem?_cons_zero] at c0)
    go_ret
    obtain ⟨h1, h2⟩ := own_out' hown5
    rw [HL8.out]
    exact ⟨A5, c5, rfl, h1, fun ad h => by have := h2 ad h; omega, (Upd.refl _ w).drew.trans hu5 (fun x hx => .inl hx)⟩
end Go.Proofs.Ytbnjapgmpjkooaa
