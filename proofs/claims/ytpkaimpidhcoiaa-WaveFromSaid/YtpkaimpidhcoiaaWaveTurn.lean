/- wave.turn, wave.basis, wave.Basis. -/
import Derived.Test.YtpkaimpidhcoiaaBase
namespace Go.Proofs.Ytpkaimpidhcoiaa
set_option linter.unusedVariables false
set_option linter.unusedSimpArgs false
open Go.RowKit
def wl : List Int := [4096, 4017, 3784, 3406, 2896, 2276, 1567, 799, 0, -799, -1567, -2276, -2896, -3406, -3784, -4017, -4096, -4017, -3784, -3406, -2896, -2276, -1567, -799, 0, 799, 1567, 2276, 2896, 3406, 3784, 4017]
/-- the cosine of k sixteenths -/
def wv (k : Nat) : Int := wl.getD k 0
def basisZ (u x : Nat) : Int := if u = 0 then 2896 else wv (u * (2 * x + 1) % 32)
theorem wv_hi (k : Nat) (h1 : 16 < k) (h2 : k < 32) : wv (32 - k) = wv k :=
  (by decide : ∀ j : Fin 32, 16 < j.val → wv (32 - j.val) = wv j.val) ⟨k, h2⟩ h1
theorem wv_mid (k : Nat) (h1 : 8 < k) (h2 : k ≤ 16) : -wv (16 - k) = wv k :=
  (by decide : ∀ j : Fin 17, 8 < j.val → -wv (16 - j.val) = wv j.val) ⟨k, by omega⟩ h1
theorem wv_bounds (k : Nat) (h : k < 32) : -4096 ≤ wv k ∧ wv k ≤ 4096 :=
  (by decide : ∀ j : Fin 32, -4096 ≤ wv j.val ∧ wv j.val ≤ 4096) ⟨k, h⟩
theorem quarter_at : ∀ k, k ≤ 8 → (#[Value.int .i64 4096, .int .i64 4017, .int .i64 3784, .int .i64 3406, .int .i64 2896, .int .i64 2276, .int .i64 1567, .int .i64 799, .int .i64 0] : Array Value)[k]? = some (.int .i64 (wv k)) := by
  intro k hk
  have : k = 0 ∨ k = 1 ∨ k = 2 ∨ k = 3 ∨ k = 4 ∨ k = 5 ∨ k = 6 ∨ k = 7 ∨ k = 8 := by omega
  rcases this with rfl | rfl | rfl | rfl | rfl | rfl | rfl | rfl | rfl <;> rfl
theorem turn_low (k : Nat) (w : World) (hk : k ≤ 8) : Calls Try.prog 38 #[.int .i64 k] w fun e w' => e = .returned (.int .i64 (wv k)) ∧ Ext w w' := by
  have hq := quarter_at k hk
  go_enter Try.func38, Try.ntmps38
  go_wp2_with fail
  go_ret
  exact ⟨rfl, (Ext.refl w).alloc _⟩
theorem turn_mid (k : Nat) (w : World) (hk : k ≤ 16) : Calls Try.prog 38 #[.int .i64 k] w fun e w' => e = .returned (.int .i64 (wv k)) ∧ Ext w w' := by
  by_cases h8 : k ≤ 8
  · exact turn_low k w h8
  · have hb := wv_bounds (16 - k) (by omega)
    obtain ⟨hb1, hb2⟩ := hb
    have hm := hid_ (wv_mid k (by omega) hk)
    have hc := hid_ (fun W => turn_low (16 - k) W (by omega))
    rw [show ((16 - k : Nat) : Int) = 16 - (k : Int) by omega] at hc
    go_enter Try.func38, Try.ntmps38
    go_wp2_with fail
    refine (hc.out _).mono ?_
    rintro e w' ⟨rfl, hx⟩
    go_wp2_with fail
    go_ret
    exact ⟨by rw [← hm.out]; rfl, ((Ext.refl w).alloc _).trans hx⟩
theorem turn_any (k : Nat) (w : World) (hk : k < 32) : Calls Try.prog 38 #[.int .i64 k] w fun e w' => e = .returned (.int .i64 (wv k)) ∧ Ext w w' := by
  by_cases h8 : k ≤ 16
  · exact turn_mid k w h8
  · have hm := hid_ (wv_hi k (by omega) hk)
    have hc := hid_ (fun W => turn_mid (32 - k) W (by omega))
    rw [show ((32 - k : Nat) : Int) = 32 - (k : Int) by omega] at hc
    go_enter Try.func38, Try.ntmps38
    go_wp2_with fail
    refine (hc.out _).mono ?_
    rintro e w' ⟨rfl, hx⟩
    go_wp2_with fail
    go_ret
    exact ⟨by rw [← hm.out]; rfl, ((Ext.refl w).alloc _).trans hx⟩
theorem basis_any (u x : Nat) (w : World) (hu : u ≤ 7) (hx : x ≤ 7) : Calls Try.prog 26 #[.int .i64 u, .int .i64 x] w fun e w' => e = .returned (.int .i64 (basisZ u x)) ∧ Ext w w' := by
  by_cases h0 : u = 0
  · subst h0
    go_enter Try.func26, Try.ntmps26
    go_wp2_with fail
    go_ret
    exact ⟨rfl, Ext.refl w⟩
  · have hp : (u : Int) * (2 * x + 1) ≤ 7 * (2 * x + 1) := Int.mul_le_mul_of_nonneg_right (by omega) (by omega)
    have hp2 : 0 ≤ (u : Int) * (2 * x + 1) := Int.mul_nonneg (by omega) (by omega)
    have hm : (u : Int) * (2 * x + 1) % 32 = ((u * (2 * x + 1) % 32 : Nat) : Int) := by simp
    have hc := hid_ (fun W => turn_any (u * (2 * x + 1) % 32) W (Nat.mod_lt _ (by omega)))
    rw [← hm] at hc
    have hf : basisZ u x = wv (u * (2 * x + 1) % 32) := by unfold basisZ; rw [if_neg h0]
    have HF := hid_ hf
    have hne : ((u : Int) == 0) = false := by simpa using h0
    clear hm hf h0
    go_enter Try.func26, Try.ntmps26
    go_wp2_with fail
    refine (hc.out _).mono ?_
    rintro e w' ⟨rfl, hx⟩
    go_wp2_with fail
    go_ret
    exact ⟨by rw [HF.out]; rfl, hx⟩
theorem basisX_in (u x : Nat) (w : World) (hu : u ≤ 7) (hx : x ≤ 7) : Calls Try.prog 18 #[.int .i64 u, .int .i64 x] w fun e w' => e = .returned (.tuple #[.int .i64 (basisZ u x), .int .i64 0]) ∧ Ext w w' := by
  have hc := hid_ (fun W => basis_any u x W hu hx)
  go_enter Try.func18, Try.ntmps18
  go_wp2_with (go_at_call 26; refine (hc.out _).mono ?_; rintro e w' ⟨rfl, hx⟩)
  go_ret2
  exact ⟨rfl, hx⟩
theorem basisX_out (u x : Int) (w : World) (h : u < 0 ∨ (0 ≤ u ∧ 7 < u) ∨ (0 ≤ u ∧ u ≤ 7 ∧ x < 0) ∨ (0 ≤ u ∧ u ≤ 7 ∧ 0 ≤ x ∧ 7 < x)) :
    Calls Try.prog 18 #[.int .i64 u, .int .i64 x] w fun e w' => e = .returned (.tuple #[.int .i64 0, .int .i64 1]) ∧ Ext w w' := by
  rcases h with h | ⟨h1, h⟩ | ⟨h1, h2, h⟩ | ⟨h1, h2, h3, h⟩
  all_goals
    go_enter Try.func18, Try.ntmps18
    go_wp2_with fail
    go_ret2
    exact ⟨rfl, Ext.refl w⟩
end Go.Proofs.Ytpkaimpidhcoiaa
