/- size.Back, SizeBack of the reference. -/
import Derived.Test.YthnchhkiidlpkaaSize
import Derived.Test.YthnchhkiidlpkaaAppend
namespace Go.Proofs.Ythnchhkiidlpkaa
open Go.RowKit
/-- what Back answers -/
def backZ (k : Nat) (v : Int) : Int := if 0 < k ∧ v < 2 ^ (k - 1) then v - (2 ^ k - 1) else v
theorem backZ_hi (k : Nat) (v : Int) (hk : k ≤ 12) (h0 : 0 ≤ v) (h1 : v < 2 ^ k) (h : k = 0 ∨ 2 ^ (k - 1) ≤ v) : bitsZ v = ((k : Int), v, 0) ∧ backZ k v = v := by
  have p1 := pow_le k 12 hk
  rw [show (2 : Int) ^ 12 = 4096 from by decide] at p1
  have e : k = szN v := by
    refine szN_uniq v (by omega) (by omega) k ?_ ?_
    · have : (v.natAbs : Int) < 2 ^ k := by omega
      exact_mod_cast this
    · intro j hj
      have h2 : (2 : Int) ^ j ≤ 2 ^ (k - 1) := pow_le j (k - 1) (by omega)
      have : (2 : Int) ^ j ≤ (v.natAbs : Int) := by rcases h with h | h <;> omega
      exact_mod_cast this
  refine ⟨?_, ?_⟩
  · unfold bitsZ; rw [if_pos (by omega), if_neg (by omega), ← e]
  · unfold backZ; rw [if_neg (by omega)]
theorem backZ_lo (k : Nat) (v : Int) (hk : k ≤ 12) (h0 : 0 ≤ v) (hk0 : 0 < k) (h : v < 2 ^ (k - 1)) :
    (∃ s : Nat, s ≠ k ∧ bitsZ v = ((s : Int), v, 0)) ∧ bitsZ (v - 2 ^ k + 1) = ((k : Int), v, 0) ∧ backZ k v = v - (2 ^ k - 1) := by
  have p1 := pow_le k 12 hk
  rw [show (2 : Int) ^ 12 = 4096 from by decide] at p1
  have p2 : (2 : Int) ^ k = 2 * 2 ^ (k - 1) := by
    obtain ⟨j, rfl⟩ : ∃ j, k = j + 1 := ⟨k - 1, by omega⟩
    rw [Int.pow_succ]; simp; omega
  have p3 := pow_pos' (k - 1)
  refine ⟨⟨szN v, ?_, ?_⟩, ?_, ?_⟩
  · intro e
    obtain ⟨-, -, g3⟩ := szN_spec v (by omega) (by omega)
    by_cases hv : v = 0
    · subst hv
      have : szN 0 = 0 := by decide
      omega
    · have := (g3 hv).2
      rw [e] at this
      have : (2 : Int) ^ (k - 1) ≤ (v.natAbs : Int) := by exact_mod_cast this
      omega
  · unfold bitsZ; rw [if_pos (by omega), if_neg (by omega)]
  · have e : k = szN (v - 2 ^ k + 1) := by
      refine szN_uniq _ (by omega) (by omega) k ?_ ?_
      · have : ((v - 2 ^ k + 1).natAbs : Int) < 2 ^ k := by omega
        exact_mod_cast this
      · intro j hj
        have h2 : (2 : Int) ^ j ≤ 2 ^ (k - 1) := pow_le j (k - 1) (by omega)
        have : (2 : Int) ^ j ≤ ((v - 2 ^ k + 1).natAbs : Int) := by omega
        exact_mod_cast this
    unfold bitsZ
    rw [if_pos (by omega), if_pos (by omega), ← e]
    simp; omega
  · unfold backZ; rw [if_pos ⟨hk0, h⟩]
set_option maxHeartbeats 400000 in
theorem back_in (k : Nat) (v : Nat) (w : World) (hk : k ≤ 12) (h1 : (v : Int) < 2 ^ k) : Calls Try.prog 31 #[.int .i64 k, .int .i64 v] w fun e w' => e = .returned (.tuple #[.int .i64 (backZ k v), .int .i64 0]) ∧ w = w' := by
  have p1 := pow_le k 12 hk
  rw [show (2 : Int) ^ 12 = 4096 from by decide] at p1
  have p2 := pow_pos' k
  by_cases h0 : k = 0
  · subst h0
    have : v = 0 := by simp at h1; omega
    subst this
    go_enter Try.func31, Try.ntmps31
    go_wp2_with fail
    go_ret2
    exact ⟨rfl, rfl⟩
  · obtain ⟨j, rfl⟩ : ∃ j, k = j + 1 := ⟨k - 1, by omega⟩
    by_cases hv : (v : Int) < 2 ^ j
    · have hq : ((v : Int) / 2 ^ j == 0) = true := by rw [Int.ediv_eq_zero_of_lt (by omega) hv]; rfl
      have HF := hid_ (show backZ (j + 1) v = v - (2 ^ (j + 1) - 1) by unfold backZ; rw [if_pos ⟨by omega, hv⟩])
      clear hv
      go_enter Try.func31, Try.ntmps31
      go_wp2_with fail
      go_ret2
      exact ⟨by rw [HF.out]; rfl, rfl⟩
    · have hq : ((v : Int) / 2 ^ j == 0) = false := by
        have p3 := pow_pos' j
        have : (1 : Int) ≤ v / 2 ^ j := (Int.le_ediv_iff_mul_le (by omega)).2 (by omega)
        simp; omega
      have HF := hid_ (show backZ (j + 1) v = v by unfold backZ; rw [if_neg (by simp; omega)])
      clear hv
      go_enter Try.func31, Try.ntmps31
      go_wp2_with fail
      go_ret2
      exact ⟨by rw [HF.out]; rfl, rfl⟩
theorem back_out (n v : Int) (w : World) (h : n < 0 ∨ (¬ n < 0 ∧ 12 < n) ∨ (0 ≤ n ∧ n ≤ 12 ∧ v < 0) ∨ (0 ≤ n ∧ n ≤ 12 ∧ 0 ≤ v ∧ 2 ^ n.toNat ≤ v)) : Calls Try.prog 31 #[.int .i64 n, .int .i64 v] w fun e w' => e = .returned (.tuple #[.int .i64 0, .int .i64 1]) ∧ w = w' := by
  rcases h with h | ⟨h1, h⟩ | ⟨h1, h2, h⟩ | ⟨h1, h2, h3, h⟩
  · go_enter Try.func31, Try.ntmps31
    go_wp2_with fail
    go_ret2
    exact ⟨rfl, rfl⟩
  · go_enter Try.func31, Try.ntmps31
    go_wp2_with fail
    go_ret2
    exact ⟨rfl, rfl⟩
  · go_enter Try.func31, Try.ntmps31
    go_wp2_with fail
    go_ret2
    exact ⟨rfl, rfl⟩
  · obtain ⟨k, rfl⟩ : ∃ k : Nat, n = k := ⟨n.toNat, by omega⟩
    have hk : k ≤ 12 := by omega
    rw [Int.toNat_natCast] at h
    have p1 := pow_le k 12 hk
    rw [show (2 : Int) ^ 12 = 4096 from by decide] at p1
    have p2 := pow_pos' k
    go_enter Try.func31, Try.ntmps31
    go_wp2_with fail
    go_ret2
    exact ⟨rfl, rfl⟩
/-- what Back answers, at all arguments -/
def backR (n v : Int) : Int × Int := if 0 ≤ n ∧ n ≤ 12 ∧ 0 ≤ v ∧ v < 2 ^ n.toNat then (backZ n.toNat v, 0) else (0, 1)
theorem back_any (n v : Int) (w : World) : Calls Try.prog 31 #[.int .i64 n, .int .i64 v] w fun e w' => e = .returned (.tuple #[.int .i64 (backR n v).1, .int .i64 (backR n v).2]) ∧ w = w' := by
  unfold backR
  by_cases h : 0 ≤ n ∧ n ≤ 12 ∧ 0 ≤ v ∧ v < 2 ^ n.toNat
  · rw [if_pos h]
    obtain ⟨h1, h2, h3, h4⟩ := h
    obtain ⟨k, rfl⟩ : ∃ k : Nat, n = k := ⟨n.toNat, by omega⟩
    obtain ⟨v, rfl⟩ : ∃ k : Nat, v = k := ⟨v.toNat, by omega⟩
    rw [Int.toNat_natCast] at h4 ⊢
    exact back_in k v w (by omega) h4
  · rw [if_neg h]
    exact back_out n v w (by omega)
set_option maxHeartbeats 400000 in
theorem rback_in (k : Nat) (v : Int) (w : World) (hk : k ≤ 12) (h0 : 0 ≤ v) (h1 : v < 2 ^ k) : Calls Try.prog 32 #[.int .i64 k, .int .i64 v] w fun e w' => e = .returned (.tuple #[.int .i64 (backZ k v), .int .i64 0]) ∧ Ext w w' := by
  have p1 := pow_le k 12 hk
  rw [show (2 : Int) ^ 12 = 4096 from by decide] at p1
  have p2 := pow_pos' k
  have b1 : inB (k : Int) 0 12 = true := inB_iff.2 (by omega)
  have b2 : inB v 0 (2 ^ k - 1) = true := inB_iff.2 (by omega)
  have HP := hid_ (fun W => power_any k W (by omega))
  have HO1 := hid_ (fun W => outside_any (k : Int) 0 12 W)
  have HO2 := hid_ (fun W => outside_any v 0 (2 ^ k - 1) W)
  have HB1 := hid_ (fun W => rsizeBits_any v W)
  have HB2 := hid_ (fun W => rsizeBits_any (v - 2 ^ k + 1) W)
  rw [b1] at HO1
  rw [b2] at HO2
  clear b1 b2
  by_cases hc : k = 0 ∨ 2 ^ (k - 1) ≤ v
  · obtain ⟨e1, e2⟩ := backZ_hi k v hk h0 h1 hc
    have HF := hid_ e2
    rw [e1] at HB1
    have ek : ((k : Int) == k) = true := by simp
    have ev : (v == v) = true := by simp
    clear e1 e2 hc
    go_enter Try.func32, Try.ntmps32
    go_wp2_with (first
      | (go_at_call 45; (with_reducible refine (HO1.out _).mono ?_); rintro e w' ⟨rfl, rfl⟩)
      | (go_at_call 45; (with_reducible refine (HO2.out _).mono ?_); rintro e w' ⟨rfl, rfl⟩)
      | (go_at_call 46; (with_reducible refine (HP.out _).mono ?_); rintro e w' ⟨rfl, rfl⟩))
    have hn := Blk.new w 3 #[.int .i64 v, .int .i64 (v - 2 ^ k + 1)]
    have hc0 := hn.cell 0
    have hc1 := hn.cell 1
    simp only [show (#[Value.int .i64 v, .int .i64 (v - 2 ^ k + 1)] : Array Value)[0]? = some (.int .i64 v) from rfl] at hc0
    simp only [show (#[Value.int .i64 v, .int .i64 (v - 2 ^ k + 1)] : Array Value)[1]? = some (.int .i64 (v - 2 ^ k + 1)) from rfl] at hc1
    have hx := (Ext.refl w).alloc (.cells #[.int .i64 v, .int .i64 (v - 2 ^ k + 1)] 3)
    clear hn
    generalize w.alloc (.cells #[.int .i64 v, .int .i64 (v - 2 ^ k + 1)] 3) = w1 at *
    go_loop [28] (fun i => i = .int .i64 0) (fun _ => 1)
    case atStart => rfl
    case round =>
      subst hrel
      go_wp2_with (go_at_call 67; (with_reducible refine (HB1.out _).mono ?_); rintro e w' ⟨rfl, rfl⟩)
      go_ret2
      exact ⟨by rw [HF.out]; rfl, hx⟩
  · obtain ⟨⟨s, hs, e0⟩, e1, e2⟩ := backZ_lo k v hk h0 (by omega) (by omega)
    have HF := hid_ (e2.trans (show v - (2 ^ k - 1) = v - 2 ^ k + 1 by omega))
    rw [e0] at HB1
    rw [e1] at HB2
    have ek : ((k : Int) == k) = true := by simp
    have ev : (v == v) = true := by simp
    have es : ((s : Int) == k) = false := by simp; omega
    clear e1 e2 hc e0 hs
    go_enter Try.func32, Try.ntmps32
    go_wp2_with (first
      | (go_at_call 45; (with_reducible refine (HO1.out _).mono ?_); rintro e w' ⟨rfl, rfl⟩)
      | (go_at_call 45; (with_reducible refine (HO2.out _).mono ?_); rintro e w' ⟨rfl, rfl⟩)
      | (go_at_call 46; (with_reducible refine (HP.out _).mono ?_); rintro e w' ⟨rfl, rfl⟩))
    have hn := Blk.new w 3 #[.int .i64 v, .int .i64 (v - 2 ^ k + 1)]
    have hc0 := hn.cell 0
    have hc1 := hn.cell 1
    simp only [show (#[Value.int .i64 v, .int .i64 (v - 2 ^ k + 1)] : Array Value)[0]? = some (.int .i64 v) from rfl] at hc0
    simp only [show (#[Value.int .i64 v, .int .i64 (v - 2 ^ k + 1)] : Array Value)[1]? = some (.int .i64 (v - 2 ^ k + 1)) from rfl] at hc1
    have hx := (Ext.refl w).alloc (.cells #[.int .i64 v, .int .i64 (v - 2 ^ k + 1)] 3)
    clear hn
    generalize w.alloc (.cells #[.int .i64 v, .int .i64 (v - 2 ^ k + 1)] 3) = w1 at *
    go_loop [28] (fun i => ∃ j : Nat, j ≤ 1 ∧ i = .int .i64 j) (fun i => 2 - (intOf i).toNat)
    case atStart => exact ⟨0, by omega, rfl⟩
    case round =>
      obtain ⟨j, hj, rfl⟩ := hrel
      by_cases hj0 : j = 0
      · subst hj0
        go_wp2_with (go_at_call 67; (with_reducible refine (HB1.out _).mono ?_); rintro e w' ⟨rfl, rfl⟩)
        go_round
        case rel => exact ⟨1, by omega, rfl⟩
        case measure => simp [intOf]
      · obtain rfl : j = 1 := by omega
        go_wp2_with (go_at_call 67; (with_reducible refine (HB2.out _).mono ?_); rintro e w' ⟨rfl, rfl⟩)
        go_ret2
        exact ⟨by rw [HF.out]; rfl, hx⟩
theorem rback_any (n v : Int) (w : World) : Calls Try.prog 32 #[.int .i64 n, .int .i64 v] w fun e w' => e = .returned (.tuple #[.int .i64 (backR n v).1, .int .i64 (backR n v).2]) ∧ Ext w w' := by
  unfold backR
  by_cases h : 0 ≤ n ∧ n ≤ 12 ∧ 0 ≤ v ∧ v < 2 ^ n.toNat
  · rw [if_pos h]
    obtain ⟨h1, h2, h3, h4⟩ := h
    obtain ⟨k, rfl⟩ : ∃ k : Nat, n = k := ⟨n.toNat, by omega⟩
    rw [Int.toNat_natCast] at h4 ⊢
    exact rback_in k v w (by omega) h3 h4
  · rw [if_neg h]
    have HO1 := hid_ (fun W => outside_any n 0 12 W)
    cases hq : inB n 0 12 with
    | false =>
      rw [hq] at HO1
      clear h hq
      go_enter Try.func32, Try.ntmps32
      go_wp2_with (go_at_call 45; (with_reducible refine (HO1.out _).mono ?_); rintro e w' ⟨rfl, rfl⟩)
      go_ret2
      exact ⟨rfl, Ext.refl w⟩
    | true =>
      rw [hq] at HO1
      have hin := inB_iff.1 hq
      obtain ⟨k, rfl⟩ : ∃ k : Nat, n = k := ⟨n.toNat, by omega⟩
      have p1 := pow_le k 12 (by omega)
      rw [show (2 : Int) ^ 12 = 4096 from by decide] at p1
      have p2 := pow_pos' k
      rw [Int.toNat_natCast] at h
      have HP := hid_ (fun W => power_any k W (by omega))
      have HO2 := hid_ (fun W => outside_any v 0 (2 ^ k - 1) W)
      rw [inB_not.2 (by omega)] at HO2
      clear h hq
      go_enter Try.func32, Try.ntmps32
      go_wp2_with (first
        | (go_at_call 45; (with_reducible refine (HO1.out _).mono ?_); rintro e w' ⟨rfl, rfl⟩)
        | (go_at_call 45; (with_reducible refine (HO2.out _).mono ?_); rintro e w' ⟨rfl, rfl⟩)
        | (go_at_call 46; (with_reducible refine (HP.out _).mono ?_); rintro e w' ⟨rfl, rfl⟩))
      go_ret2
      exact ⟨rfl, Ext.refl w⟩
end Go.Proofs.Ythnchhkiidlpkaa
