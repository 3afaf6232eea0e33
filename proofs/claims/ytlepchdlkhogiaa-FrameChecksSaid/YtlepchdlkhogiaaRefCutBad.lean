/- PlaneCut of the reference: the cases that answer an error; many of the reference. -/
import Derived.Test.YtlepchdlkhogiaaCutBad
namespace Go.Proofs.Ytlepchdlkhogiaa
set_option linter.unusedVariables false
set_option linter.unusedSimpArgs false
open Go.RowKit
theorem rmany_any (wd hi : Nat) (w : World) (a2 : wd ≤ 64) (b2 : hi ≤ 64) :
    Calls Try.prog 38 #[.int .i64 (wd : Int), .int .i64 (hi : Int)] w fun e w' => e = .returned (.int .i64 (((wd + 7) / 8 * ((hi + 7) / 8) : Nat) : Int)) ∧ w = w' := by
  have hm : (wd + 7) / 8 * ((hi + 7) / 8) ≤ 9 * 9 := Nat.mul_le_mul (by omega) (by omega)
  have hwr : IntKind.i64.wrap (((wd : Int) + 7) / 8 * (((hi : Int) + 7) / 8)) = (((wd + 7) / 8 * ((hi + 7) / 8) : Nat) : Int) := by
    have e : ((wd : Int) + 7) / 8 * (((hi : Int) + 7) / 8) = (((wd + 7) / 8 * ((hi + 7) / 8) : Nat) : Int) := by push_cast; rfl
    rw [e]
    exact IntWalk.i64_in _ (by omega)
  go_enter Try.func38, Try.ntmps38
  go_wp2_with fail
  go_ret
  refine ⟨?_, rfl⟩
  first
    | rfl
    | (rw [hwr]; rfl)
    | (congr 2)
set_option maxRecDepth 20000 in
set_option maxHeartbeats 1000000 in
theorem rcut_sides (xs : List Int) (v : Value) (wd hi : Int) (w : World) (hv : SL w 1 v xs.length (ints xs)) (h : sidesZ wd hi ≠ 0) :
    Calls Try.prog 11 #[v, .int .i64 wd, .int .i64 hi] w fun e w' => e = .returned (.tuple #[.slice none 0 0, .int .i64 1]) ∧ Ext w w' := by
  have HK := hid_ (fun W => sidesCheck_any wd hi W)
  rw [sides_no h] at HK
  clear h
  obtain ⟨A, c, rfl, hc1, hc2, -, -⟩ := hv
  go_enter Try.func11, Try.ntmps11
  go_wp2_with (go_at_call 16; (with_reducible refine (HK.out _).mono ?_); rintro e w3 ⟨rfl, rfl⟩)
  go_ret2
  exact ⟨rfl, Ext.refl _⟩
set_option maxRecDepth 20000 in
set_option maxHeartbeats 1000000 in
theorem rcut_long (xs : List Int) (v : Value) (wd hi : Nat) (w : World) (hv : SL w 1 v xs.length (ints xs)) (h0 : sidesZ wd hi = 0) (a2 : wd ≤ 64) (b2 : hi ≤ 64) (h : xs.length ≠ wd * hi) :
    Calls Try.prog 11 #[v, .int .i64 wd, .int .i64 hi] w fun e w' => e = .returned (.tuple #[.slice none 0 0, .int .i64 4]) ∧ Ext w w' := by
  have HK := hid_ (fun W => sidesCheck_any wd hi W)
  rw [h0] at HK
  clear h0
  have hm : wd * hi ≤ 64 * 64 := Nat.mul_le_mul a2 b2
  have hw1 : IntKind.i64.wrap ((wd : Int) * (hi : Int)) = (wd : Int) * (hi : Int) := by rw [← Int.natCast_mul]; exact IntWalk.i64_in _ (by omega)
  have hne : ((xs.length : Int) != (wd : Int) * (hi : Int)) = true := by rw [← Int.natCast_mul]; simp; omega
  obtain ⟨A, c, rfl, hc1, hc2, -, -⟩ := hv
  clear h hm
  go_enter Try.func11, Try.ntmps11
  go_wp2_with (go_at_call 16; (with_reducible refine (HK.out _).mono ?_); rintro e w3 ⟨rfl, rfl⟩)
  go_ret2
  exact ⟨rfl, Ext.refl _⟩
set_option maxRecDepth 20000 in
set_option maxHeartbeats 1000000 in
theorem rcut_out (xs : List Int) (v : Value) (wd hi : Nat) (w : World) (hv : SL w 1 v xs.length (ints xs)) (h0 : sidesZ wd hi = 0) (a2 : wd ≤ 64) (b2 : hi ≤ 64) (h : xs.length = wd * hi) (hq : allIn xs 0 255 = false) :
    Calls Try.prog 11 #[v, .int .i64 wd, .int .i64 hi] w fun e w' => e = .returned (.tuple #[.slice none 0 0, .int .i64 1]) ∧ Ext w w' := by
  have HK := hid_ (fun W => sidesCheck_any wd hi W)
  rw [h0] at HK
  clear h0
  have HQ := hid_ hq
  clear hq
  have hm : wd * hi ≤ 64 * 64 := Nat.mul_le_mul a2 b2
  have hw1 : IntKind.i64.wrap ((wd : Int) * (hi : Int)) = (wd : Int) * (hi : Int) := by rw [← Int.natCast_mul]; exact IntWalk.i64_in _ (by omega)
  have hne : ((xs.length : Int) != (wd : Int) * (hi : Int)) = false := by rw [← Int.natCast_mul]; simp; omega
  have hv' := hv
  obtain ⟨A, c, rfl, hc1, hc2, -, -⟩ := hv'
  clear h hm
  go_enter Try.func11, Try.ntmps11
  go_wp2_with (go_at_call 16; (with_reducible refine (HK.out _).mono ?_); rintro e w3 ⟨rfl, rfl⟩)
  go_loop [30] (fun i => ∃ k : Nat, k ≤ xs.length ∧ i = .int .i64 (k : Int) ∧ ∀ z ∈ xs.take k, 0 ≤ z ∧ z ≤ 255) (fun i => xs.length - (intOf i).toNat)
  case atStart => exact ⟨0, by omega, rfl, by simp⟩
  case round =>
    obtain ⟨k, hk, rfl, hin⟩ := hrel
    have HIN := hid_ hin
    clear hin
    by_cases hlt : k < xs.length
    · obtain ⟨ad, u, rfl, -, hxk, hcell⟩ := hv.at1 hlt
      obtain ⟨hkl, rfl⟩ := ints_at _ _ _ hxk
      clear hxk
      cases hq : inB xs[k] 0 255 with
      | true =>
        have HN := hid_ (allIn_take HIN.out hkl (inB_iff.1 hq))
        go_wp2_with (go_at_call 36; refine (outside_any _ _ _ _).mono ?_; rintro e w' ⟨rfl, rfl⟩)
        go_round
        case rel => exact ⟨k + 1, by omega, by go_num, HN.out⟩
        case measure => simp [intOf]; omega
      | false =>
        go_wp2_with (go_at_call 36; refine (outside_any _ _ _ _).mono ?_; rintro e w' ⟨rfl, rfl⟩)
        go_ret2
        exact ⟨rfl, Ext.refl _⟩
    · have emk : k = xs.length := by omega
      have hall : allIn xs 0 255 = true := allIn_iff.2 fun z hz => HIN.out z (by rw [emk, List.take_length]; exact hz)
      have h9 := HQ.out
      rw [hall] at h9
      cases h9
end Go.Proofs.Ytlepchdlkhogiaa
