/- plane.Cut and PlaneCut of the reference: one contract each, for all arguments. -/
import Derived.Test.YtlepchdlkhogiaaCutGood
import Derived.Test.YtlepchdlkhogiaaRefCutGood
namespace Go.Proofs.Ytlepchdlkhogiaa
set_option linter.unusedVariables false
set_option linter.unusedSimpArgs false
open Go.RowKit
def cutRN (xs : List Int) (wd hi : Int) : Nat := if cutE xs wd hi = 0 then cutN wd.toNat hi.toNat else 0
def cutRZ (xs : List Int) (wd hi : Int) : List Int := if cutE xs wd hi = 0 then cutZ xs wd.toNat hi.toNat else []
theorem cutRZ_len (xs : List Int) (wd hi : Int) : (cutRZ xs wd hi).length = cutRN xs wd hi * 64 := by
  unfold cutRZ cutRN
  split
  · exact cutZ_len _ _ _
  · rfl
/-- what Cut answers -/
def CutIs (xs : List Int) (wd hi : Int) (w : World) (e : Ending) (w' : World) : Prop :=
  ∃ A c, e = .returned (.tuple #[.slice A (cutRN xs wd hi) c, .int .i64 (cutE xs wd hi)]) ∧ SL w' 64 (.slice A (cutRN xs wd hi) c) (cutRN xs wd hi) (ints (cutRZ xs wd hi)) ∧ Ext w w'
theorem cut_err {xs : List Int} {wd hi : Int} {w w' : World} {e : Ending} {k : Int} (hk : cutE xs wd hi = k) (h0 : k ≠ 0) (h : e = .returned (.tuple #[.slice none 0 0, .int .i64 k]) ∧ Ext w w') : CutIs xs wd hi w e w' := by
  have hn : cutRN xs wd hi = 0 := by unfold cutRN; rw [if_neg (by rw [hk]; exact h0)]
  have hz : cutRZ xs wd hi = [] := by unfold cutRZ; rw [if_neg (by rw [hk]; exact h0)]
  unfold CutIs
  rw [hn, hz, hk]
  exact ⟨none, 0, h.1, SL.nil _ _, h.2⟩
theorem cut_cases (xs : List Int) (wd hi : Int) : (sidesZ wd hi ≠ 0 ∧ cutE xs wd hi = 1) ∨ ∃ a b : Nat, wd = (a : Int) ∧ hi = (b : Int) ∧ 1 ≤ a ∧ a ≤ 64 ∧ 1 ≤ b ∧ b ≤ 64 ∧ sidesZ wd hi = 0 ∧
    ((xs.length ≠ a * b ∧ cutE xs wd hi = 4) ∨ (xs.length = a * b ∧ allIn xs 0 255 = false ∧ cutE xs wd hi = 1) ∨ (xs.length = a * b ∧ allIn xs 0 255 = true ∧ cutE xs wd hi = 0)) := by
  by_cases h : sidesZ wd hi = 0
  · right
    obtain ⟨a, b, ha, hb, h1, h2, h3, h4⟩ := sides_ok h
    refine ⟨a, b, ha, hb, h1, h2, h3, h4, h, ?_⟩
    unfold cutE
    rw [if_pos h]
    subst ha hb
    by_cases hl : xs.length = a * b
    · rw [if_pos (by rw [hl]; push_cast; rfl)]
      cases hq : allIn xs 0 255 with
      | false => exact .inr (.inl ⟨hl, rfl, by simp⟩)
      | true => exact .inr (.inr ⟨hl, rfl, by simp⟩)
    · rw [if_neg (fun he => hl (by exact_mod_cast he))]
      exact .inl ⟨hl, rfl⟩
  · left
    refine ⟨h, ?_⟩
    unfold cutE
    rw [if_neg h]
theorem cut_any (xs : List Int) (v : Value) (wd hi : Int) (w : World) (hv : SL w 1 v xs.length (ints xs)) : Calls Try.prog 10 #[v, .int .i64 wd, .int .i64 hi] w (CutIs xs wd hi w) := by
  rcases cut_cases xs wd hi with ⟨h, hE⟩ | ⟨a, b, rfl, rfl, h1, h2, h3, h4, h0, ⟨hl, hE⟩ | ⟨hl, hq, hE⟩ | ⟨hl, hq, hE⟩⟩
  · exact (cut_sides xs v wd hi w hv h).mono fun e w' h => cut_err hE (by decide) h
  · exact (cut_long xs v a b w hv h0 h2 h4 hl).mono fun e w' h => cut_err hE (by decide) h
  · exact (cut_out xs v a b w hv h0 h2 h4 hl hq).mono fun e w' h => cut_err hE (by decide) h
  · refine (cut_good xs v a b w hv h0 h1 h2 h3 h4 hl hq).mono fun e w' ⟨g, he, hb, hx⟩ => ?_
    have hn : cutRN xs a b = cutN a b := by unfold cutRN; rw [if_pos hE]; rfl
    have hz : cutRZ xs a b = cutZ xs a b := by unfold cutRZ; rw [if_pos hE]; rfl
    unfold CutIs
    rw [hn, hz, hE]
    refine ⟨some ⟨g, 0, none⟩, _, he, ?_, hx⟩
    have hc : cutN a b ≤ 8 * 8 := Nat.mul_le_mul (by omega) (by omega)
    have := hb.sl (size := 64) (n := cutN a b) (c := cutN a b) (by rw [bv_size, cutZ_len]) (by omega) (by omega)
    simpa [bv] using this
theorem rcut_any (xs : List Int) (v : Value) (wd hi : Int) (w : World) (hv : SL w 1 v xs.length (ints xs)) : Calls Try.prog 11 #[v, .int .i64 wd, .int .i64 hi] w (CutIs xs wd hi w) := by
  rcases cut_cases xs wd hi with ⟨h, hE⟩ | ⟨a, b, rfl, rfl, h1, h2, h3, h4, h0, ⟨hl, hE⟩ | ⟨hl, hq, hE⟩ | ⟨hl, hq, hE⟩⟩
  · exact (rcut_sides xs v wd hi w hv h).mono fun e w' h => cut_err hE (by decide) h
  · exact (rcut_long xs v a b w hv h0 h2 h4 hl).mono fun e w' h => cut_err hE (by decide) h
  · exact (rcut_out xs v a b w hv h0 h2 h4 hl hq).mono fun e w' h => cut_err hE (by decide) h
  · refine (rcut_good xs v a b w hv h0 h1 h2 h3 h4 hl hq).mono fun e w' ⟨A, c, he, hb, hx⟩ => ?_
    have hn : cutRN xs a b = cutN a b := by unfold cutRN; rw [if_pos hE]; rfl
    have hz : cutRZ xs a b = cutZ xs a b := by unfold cutRZ; rw [if_pos hE]; rfl
    unfold CutIs
    rw [hn, hz, hE]
    exact ⟨A, c, he, hb, hx⟩
end Go.Proofs.Ytlepchdlkhogiaa
