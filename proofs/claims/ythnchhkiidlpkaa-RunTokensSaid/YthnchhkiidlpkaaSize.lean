/- size.Bits, size.Of, SizeBits of the reference. -/
import Derived.Test.YthnchhkiidlpkaaBase
import Derived.Test.YthnchhkiidlpkaaRefRound
import Derived.Test.YthnchhkiidlpkaaPower
import Derived.Test.YthnchhkiidlpkaaShelf
import Derived.Lib.BitFns
import Derived.Lib.ItoaNum
namespace Go.Proofs.Ythnchhkiidlpkaa
open Go.RowKit
theorem calls_back {P : Program} {f : FuncId} {args : Array Value} {w : World} {v : Value} (h : Calls P f args w fun e w' => e = .returned v ∧ w' = w) : Calls P f args w fun e w' => e = .returned v ∧ w = w' :=
  h.mono fun _ _ ⟨a, b⟩ => ⟨a, b.symm⟩
/-- the size of a number: the bits of its absolute value -/
def szN (n : Int) : Nat := Lib.bitLen n.natAbs
theorem szN_spec (n : Int) (h1 : -4095 ≤ n) (h2 : n ≤ 4095) : szN n ≤ 12 ∧ n.natAbs < 2 ^ szN n ∧ (n ≠ 0 → 1 ≤ szN n ∧ 2 ^ (szN n - 1) ≤ n.natAbs) := by
  have hb : n.natAbs < 2 ^ 12 := by omega
  refine ⟨Lib.bitLen_le _ 12 (by omega) hb, ?_, fun h0 => ?_⟩
  · by_cases h0 : n = 0
    · subst h0; decide
    · exact (Lib.bitLenAux_bounds 64 n.natAbs (by omega) (by omega)).2.2
  · have := Lib.bitLenAux_bounds 64 n.natAbs (by omega) (by omega)
    exact ⟨this.1, this.2.1⟩
theorem szN_uniq (n : Int) (h1 : -4095 ≤ n) (h2 : n ≤ 4095) (k : Nat) (ha : n.natAbs < 2 ^ k) (hb : ∀ j, j < k → 2 ^ j ≤ n.natAbs) : k = szN n := by
  obtain ⟨-, g2, g3⟩ := szN_spec n h1 h2
  rcases Nat.lt_trichotomy k (szN n) with h | h | h
  · by_cases h0 : n = 0
    · subst h0
      have : szN 0 = 0 := by decide
      omega
    · have := (g3 h0).2
      have := Nat.pow_le_pow_right (n := 2) (by omega) (show k ≤ szN n - 1 by omega)
      omega
  · exact h
  · have := hb (szN n) h
    omega
/-- what Bits answers -/
def bitsZ (n : Int) : Int × Int × Int := if -4095 ≤ n ∧ n ≤ 4095 then (szN n, if n < 0 then n + 2 ^ szN n - 1 else n, 0) else (0, 0, 1)
set_option maxHeartbeats 400000 in
theorem sizeBits_any (n : Int) (w : World) : Calls Try.prog 68 #[.int .i64 n] w fun e w' => e = .returned (.tuple #[.int .i64 (bitsZ n).1, .int .i64 (bitsZ n).2.1, .int .i64 (bitsZ n).2.2]) ∧ w = w' := by
  by_cases hin : -4095 ≤ n ∧ n ≤ 4095
  · obtain ⟨h1, h2⟩ := hin
    obtain ⟨g1, -, -⟩ := szN_spec n h1 h2
    have hl := hid_ (fun W => calls_back (Try.bits_Len n.natAbs W (by omega) (by omega)))
    have hf : bitsZ n = ((szN n : Int), (if n < 0 then n + 2 ^ szN n - 1 else n), (0 : Int)) := by unfold bitsZ; rw [if_pos ⟨h1, h2⟩]
    rw [hf]
    have hsz : Lib.bitLen ((n.natAbs : Int)).toNat = szN n := by simp [szN]
    have hmx : (n.natAbs : Int) = max n (-n) := by omega
    rw [hsz, hmx] at hl
    clear hf hsz hmx
    have p1 := pow_le (szN n) 12 g1
    have p2 := pow_pos' (szN n)
    have p3 : (2 : Int) ^ 12 = 4096 := by decide
    rw [p3] at p1
    clear p3
    generalize szN n = s at *
    by_cases hn : n < 0
    · rw [if_pos hn]
      go_enter Try.func68, Try.ntmps68
      go_wp2_with (go_at_call 84; refine (hl.out _).mono ?_; rintro e w' ⟨rfl, rfl⟩)
      refine bodyPost_ret (results_tmp3 rfl _ _ _) rfl ?_
      refine ⟨?_, rfl⟩
      have e : n + ((2 : Int) ^ s - 1) = n + 2 ^ s - 1 := by omega
      show Ending.returned (Value.tuple #[Value.int .i64 s, Value.int .i64 (n + ((2 : Int) ^ s - 1)), Value.int .i64 0]) = _
      rw [e]
    · rw [if_neg hn]
      go_enter Try.func68, Try.ntmps68
      go_wp2_with (go_at_call 84; refine (hl.out _).mono ?_; rintro e w' ⟨rfl, rfl⟩)
      refine bodyPost_ret (results_tmp3 rfl _ _ _) rfl ?_
      exact ⟨rfl, rfl⟩
  · have hf : bitsZ n = (0, 0, 1) := by unfold bitsZ; rw [if_neg hin]
    rw [hf]
    clear hf
    by_cases hn : n ≤ -4096
    · have hd : decide (n ≤ -4096) = true := by simpa using hn
      clear hin
      go_enter Try.func68, Try.ntmps68
      go_wp2_with fail
      refine bodyPost_ret (results_tmp3 rfl _ _ _) rfl ?_
      exact ⟨rfl, rfl⟩
    · have hd : decide (n ≤ -4096) = false := by simpa using hn
      have h4 : 4096 ≤ n := by omega
      clear hin
      go_enter Try.func68, Try.ntmps68
      go_wp2_with fail
      refine bodyPost_ret (results_tmp3 rfl _ _ _) rfl ?_
      exact ⟨rfl, rfl⟩
theorem sizeOf_any (n : Int) (w : World) : Calls Try.prog 33 #[.int .i64 n] w fun e w' => e = .returned (.tuple #[.int .i64 (bitsZ n).1, .int .i64 (bitsZ n).2.2]) ∧ w = w' := by
  have hl := hid_ (fun W => sizeBits_any n W)
  generalize bitsZ n = b at *
  go_enter Try.func33, Try.ntmps33
  go_wp2_with (go_at_call 68; refine (hl.out _).mono ?_; rintro e w' ⟨rfl, rfl⟩)
  go_ret2
  exact ⟨rfl, rfl⟩
set_option maxHeartbeats 400000 in
theorem rsizeBits_any (n : Int) (w : World) : Calls Try.prog 67 #[.int .i64 n] w fun e w' => e = .returned (.tuple #[.int .i64 (bitsZ n).1, .int .i64 (bitsZ n).2.1, .int .i64 (bitsZ n).2.2]) ∧ w = w' := by
  by_cases hin : -4095 ≤ n ∧ n ≤ 4095
  · have hb := inB_iff.2 hin
    obtain ⟨h1, h2⟩ := hin
    have HS := hid_ (szN_spec n h1 h2)
    have HU := hid_ (szN_uniq n h1 h2)
    have hf : bitsZ n = ((szN n : Int), (if n < 0 then n + 2 ^ szN n - 1 else n), (0 : Int)) := by unfold bitsZ; rw [if_pos ⟨h1, h2⟩]
    have HF := hid_ hf
    have HM : Hid ((n.natAbs : Int) = max n (-n)) := hid_ (by omega)
    clear hf
    go_enter Try.func67, Try.ntmps67
    go_wp2_with (go_at_call 45; refine (outside_any _ _ _ _).mono ?_; rintro e w' ⟨rfl, rfl⟩)
    go_loop [5] (fun i => ∃ k : Nat, k ≤ szN n ∧ i = .int .i64 k) (fun i => 13 - (intOf i).toNat)
    case atStart => exact ⟨0, by omega, rfl⟩
    case round =>
      obtain ⟨k, hk, rfl⟩ := hrel
      have hk12 : k ≤ 12 := by have := HS.out.1; omega
      have p1 := pow_le k 12 hk12
      have p2 := pow_pos' k
      have p3 : (2 : Int) ^ 12 = 4096 := by decide
      rw [p3] at p1
      clear p3
      by_cases hlt : (2 : Int) ^ k ≤ max n (-n)
      · have hks : k < szN n := by
          rcases Nat.lt_or_ge k (szN n) with h | h
          · exact h
          · have e : k = szN n := by omega
            have h9 := HS.out.2.1
            have h8 := HM.out
            rw [← e] at h9
            have h7 : (n.natAbs : Int) < 2 ^ k := by exact_mod_cast h9
            omega
        go_wp2_with (go_at_call 46; refine (power_any _ _ (by omega)).mono ?_; rintro e w' ⟨rfl, rfl⟩)
        go_round
        case rel => exact ⟨k + 1, by omega, by go_num⟩
        case measure => simp [intOf]; omega
      · have hks : k = szN n := by
          have h8 := HM.out
          have h7 : (n.natAbs : Int) < 2 ^ k := by omega
          have h6 : n.natAbs < 2 ^ k := by exact_mod_cast h7
          rcases Nat.lt_or_ge k (szN n) with h | h
          · have h9 := HS.out.2.2
            by_cases h0 : n = 0
            · subst h0
              have : szN 0 = 0 := by decide
              omega
            · have h5 := (h9 h0).2
              have := Nat.pow_le_pow_right (n := 2) (by omega) (show k ≤ szN n - 1 by omega)
              omega
          · omega
        have HK := hid_ hks
        clear hks
        by_cases hn : n < 0
        · go_wp2_with (go_at_call 46; refine (power_any _ _ (by omega)).mono ?_; rintro e w' ⟨rfl, rfl⟩)
          refine bodyPost_ret (results_tmp3 rfl _ _ _) rfl ?_
          refine ⟨?_, rfl⟩
          rw [HF.out, ← HK.out, if_pos hn]
          rfl
        · go_wp2_with (go_at_call 46; refine (power_any _ _ (by omega)).mono ?_; rintro e w' ⟨rfl, rfl⟩)
          refine bodyPost_ret (results_tmp3 rfl _ _ _) rfl ?_
          refine ⟨?_, rfl⟩
          rw [HF.out, ← HK.out, if_neg (by omega)]
          rfl
  · have hb : inB n (-4095) 4095 = false := inB_not.2 (by omega)
    have hf : bitsZ n = (0, 0, 1) := by unfold bitsZ; rw [if_neg hin]
    rw [hf]
    clear hf hin
    go_enter Try.func67, Try.ntmps67
    go_wp2_with (go_at_call 45; refine (outside_any _ _ _ _).mono ?_; rintro e w' ⟨rfl, rfl⟩)
    refine bodyPost_ret (results_tmp3 rfl _ _ _) rfl ?_
    exact ⟨rfl, rfl⟩
end Go.Proofs.Ythnchhkiidlpkaa
