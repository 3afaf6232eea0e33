/- Contracts for the law ScanDecodesUptoCard, part 9: what the functions that it reaches answer, for all arguments that the theorems name. -/
import Derived.Test.YtgmddhljgfbibaaGreatDoorMScanDecodesUptoCard1
import Derived.Test.YtgmddhljgfbibaaGreatDoorMScanDecodesUptoCard2
import Derived.Test.YtgmddhljgfbibaaGreatDoorMScanDecodesUptoCard4
import Derived.Test.YtgmddhljgfbibaaGreatDoorMScanDecodesUptoCard8
import Derived.Lib.BitFns
import Derived.Lib.ItoaNum
import Derived.WalkKit
/- size.Bits, size.Of, SizeBits of the reference. -/
namespace Go.Proofs.YtgmddhljgfbibaaGreatDoor
set_option linter.unusedVariables false
set_option linter.unusedSimpArgs false
open Go.RowKit
theorem calls_back {P : Program} {f : FuncId} {args : Array Value} {w : World} {v : Value} (h : Calls P f args w fun e w' => e = .returned v ∧ w' = w) : Calls P f args w fun e w' => e = .returned v ∧ w = w' :=
  h.mono fun _ _ ⟨a, b⟩ => ⟨a, b.symm⟩
/-- the size of a number: the bits of its absolute value -/
def szN (n : Int) : Nat := Lib.bitLen n.natAbs
theorem szN_spec (n : Int) (h1 : -4095 ≤ n) (h2 : n ≤ 4095) : szN n ≤ 12 ∧ n.natAbs < 2 ^ szN n ∧ (n ≠ 0 → 1 ≤ szN n ∧ 2 ^ (szN n - 1) ≤ n.natAbs) := by
  have hb : n.natAbs < 2 ^ 12 := by omega
  refine ⟨Lib.bitLen_le _ 12 (by omega) hb, ?_, fun h0 => ?_⟩
  · by_cases h0 : n = 0
    · subst h0; decide
    · exact (Lib.bitLenAux_bounds 64 n.natAbs (by omega) (by omega)).2.2
  · have := Lib.bitLenAux_bounds 64 n.natAbs (by omega) (by omega)
    exact ⟨this.1, this.2.1⟩
theorem szN_uniq (n : Int) (h1 : -4095 ≤ n) (h2 : n ≤ 4095) (k : Nat) (ha : n.natAbs < 2 ^ k) (hb : ∀ j, j < k → 2 ^ j ≤ n.natAbs) : k = szN n := by
  obtain ⟨-, g2, g3⟩ := szN_spec n h1 h2
  rcases Nat.lt_trichotomy k (szN n) with h | h | h
  · by_cases h0 : n = 0
    · subst h0
      have : szN 0 = 0 := by decide
      omega
    · have := (g3 h0).2
      have := Nat.pow_le_pow_right (n := 2) (by omega) (show k ≤ szN n - 1 by omega)
      omega
  · exact h
  · have := hb (szN n) h
    omega
/-- what Bits answers -/
def bitsZ (n : Int) : Int × Int × Int := if -4095 ≤ n ∧ n ≤ 4095 then (szN n, if n < 0 then n + 2 ^ szN n - 1 else n, 0) else (0, 0, 1)
set_option maxHeartbeats 400000 in
theorem sizeBits_any (n : Int) (w : World) : Calls Tryz.prog 89 #[.int .i64 n] w fun e w' => e = .returned (.tuple #[.int .i64 (bitsZ n).1, .int .i64 (bitsZ n).2.1, .int .i64 (bitsZ n).2.2]) ∧ w = w' := by
  by_cases hin : -4095 ≤ n ∧ n ≤ 4095
  · obtain ⟨h1, h2⟩ := hin
    obtain ⟨g1, -, -⟩ := szN_spec n h1 h2
    have hl := hid_ (fun W => calls_back (Tryz.bits_Len n.natAbs W (by omega) (by omega)))
    have hf : bitsZ n = ((szN n : Int), (if n < 0 then n + 2 ^ szN n - 1 else n), (0 : Int)) := by unfold bitsZ; rw [if_pos ⟨h1, h2⟩]
    rw [hf]
    have hsz : Lib.bitLen ((n.natAbs : Int)).toNat = szN n := by simp [szN]
    have hmx : (n.natAbs : Int) = max n (-n) := by omega
    rw [hsz, hmx] at hl
    clear hf hsz hmx
    have p1 := pow_le (szN n) 12 g1
    have p2 := pow_pos' (szN n)
    have p3 : (2 : Int) ^ 12 = 4096 := by decide
    rw [p3] at p1
    clear p3
    generalize szN n = s at *
    by_cases hn : n < 0
    · rw [if_pos hn]
      go_enter Tryz.func89, Tryz.ntmps89
      go_wp2_with (go_at_call 103; refine (hl.out _).mono ?_; rintro e w' ⟨rfl, rfl⟩)
      refine bodyPost_ret (results_tmp3 rfl _ _ _) rfl ?_
      refine ⟨?_, rfl⟩
      have e : n + ((2 : Int) ^ s - 1) = n + 2 ^ s - 1 := by omega
      show Ending.returned (Value.tuple #[Value.int .i64 s, Value.int .i64 (n + ((2 : Int) ^ s - 1)), Value.int .i64 0]) = _
      rw [e]
    · rw [if_neg hn]
      go_enter Tryz.func89, Tryz.ntmps89
      go_wp2_with (go_at_call 103; refine (hl.out _).mono ?_; rintro e w' ⟨rfl, rfl⟩)
      refine bodyPost_ret (results_tmp3 rfl _ _ _) rfl ?_
      exact ⟨rfl, rfl⟩
  · have hf : bitsZ n = (0, 0, 1) := by unfold bitsZ; rw [if_neg hin]
    rw [hf]
    clear hf
    by_cases hn : n ≤ -4096
    · have hd : decide (n ≤ -4096) = true := by simpa using hn
      clear hin
      go_enter Tryz.func89, Tryz.ntmps89
      go_wp2_with fail
      refine bodyPost_ret (results_tmp3 rfl _ _ _) rfl ?_
      exact ⟨rfl, rfl⟩
    · have hd : decide (n ≤ -4096) = false := by simpa using hn
      have h4 : 4096 ≤ n := by omega
      clear hin
      go_enter Tryz.func89, Tryz.ntmps89
      go_wp2_with fail
      refine bodyPost_ret (results_tmp3 rfl _ _ _) rfl ?_
      exact ⟨rfl, rfl⟩
set_option maxHeartbeats 400000 in
theorem rsizeBits_any (n : Int) (w : World) : Calls Tryz.prog 77 #[.int .i64 n] w fun e w' => e = .returned (.tuple #[.int .i64 (bitsZ n).1, .int .i64 (bitsZ n).2.1, .int .i64 (bitsZ n).2.2]) ∧ w = w' := by
  by_cases hin : -4095 ≤ n ∧ n ≤ 4095
  · have hb := inB_iff.2 hin
    obtain ⟨h1, h2⟩ := hin
    have HS := hid_ (szN_spec n h1 h2)
    have HU := hid_ (szN_uniq n h1 h2)
    have hf : bitsZ n = ((szN n : Int), (if n < 0 then n + 2 ^ szN n - 1 else n), (0 : Int)) := by unfold bitsZ; rw [if_pos ⟨h1, h2⟩]
    have HF := hid_ hf
    have HM : Hid ((n.natAbs : Int) = max n (-n)) := hid_ (by omega)
    clear hf
    go_enter Tryz.func77, Tryz.ntmps77
    go_wp2_with (go_at_call 29; refine (outside_any _ _ _ _).mono ?_; rintro e w' ⟨rfl, rfl⟩)
    go_loop [5] (fun i => ∃ k : Nat, k ≤ szN n ∧ i = .int .i64 k) (fun i => 13 - (intOf i).toNat)
    case atStart => exact ⟨0, by omega, rfl⟩
    case round =>
      obtain ⟨k, hk, rfl⟩ := hrel
      have hk12 : k ≤ 12 := by have := HS.out.1; omega
      have p1 := pow_le k 12 hk12
      have p2 := pow_pos' k
      have p3 : (2 : Int) ^ 12 = 4096 := by decide
      rw [p3] at p1
      clear p3
      by_cases hlt : (2 : Int) ^ k ≤ max n (-n)
      · have hks : k < szN n := by
          rcases Nat.lt_or_ge k (szN n) with h | h
          · exact h
          · have e : k = szN n := by omega
            have h9 := HS.out.2.1
            have h8 := HM.out
            rw [← e] at h9
            have h7 : (n.natAbs : Int) < 2 ^ k := by exact_mod_cast h9
            omega
        go_wp2_with (go_at_call 76; refine (power_any _ _ (by omega)).mono ?_; rintro e w' ⟨rfl, rfl⟩)
        go_round
        case rel => exact ⟨k + 1, by omega, by go_num⟩
        case measure => simp [intOf]; omega
      · have hks : k = szN n := by
          have h8 := HM.out
          have h7 : (n.natAbs : Int) < 2 ^ k := by omega
          have h6 : n.natAbs < 2 ^ k := by exact_mod_cast h7
          rcases Nat.lt_or_ge k (szN n) with h | h
          · have h9 := HS.out.2.2
            by_cases h0 : n = 0
            · subst h0
              have : szN 0 = 0 := by decide
              omega
            · have h5 := (h9 h0).2
              have := Nat.pow_le_pow_right (n := 2) (by omega) (show k ≤ szN n - 1 by omega)
              omega
          · omega
        have HK := hid_ hks
        clear hks
        by_cases hn : n < 0
        · go_wp2_with (go_at_call 76; refine (power_any _ _ (by omega)).mono ?_; rintro e w' ⟨rfl, rfl⟩)
          refine bodyPost_ret (results_tmp3 rfl _ _ _) rfl ?_
          refine ⟨?_, rfl⟩
          rw [HF.out, ← HK.out, if_pos hn]
          rfl
        · go_wp2_with (go_at_call 76; refine (power_any _ _ (by omega)).mono ?_; rintro e w' ⟨rfl, rfl⟩)
          refine bodyPost_ret (results_tmp3 rfl _ _ _) rfl ?_
          refine ⟨?_, rfl⟩
          rw [HF.out, ← HK.out, if_neg (by omega)]
          rfl
  · have hb : inB n (-4095) 4095 = false := inB_not.2 (by omega)
    have hf : bitsZ n = (0, 0, 1) := by unfold bitsZ; rw [if_neg hin]
    rw [hf]
    clear hf hin
    go_enter Tryz.func77, Tryz.ntmps77
    go_wp2_with (go_at_call 29; refine (outside_any _ _ _ _).mono ?_; rintro e w' ⟨rfl, rfl⟩)
    refine bodyPost_ret (results_tmp3 rfl _ _ _) rfl ?_
    exact ⟨rfl, rfl⟩
end Go.Proofs.YtgmddhljgfbibaaGreatDoor
/- The zigzag order, in plain words. -/
namespace Go.Proofs.YtgmddhljgfbibaaGreatDoor
set_option linter.unusedVariables false
set_option linter.unusedSimpArgs false
def zstep (s : Int × Int × Bool) : Int × Int × Bool :=
  if s.2.2 then (if s.2.1 = 7 then (s.1 + 1, s.2.1, false) else if s.1 = 0 then (s.1, s.2.1 + 1, false) else (s.1 - 1, s.2.1 + 1, true))
  else (if s.1 = 7 then (s.1, s.2.1 + 1, true) else if s.2.1 = 0 then (s.1 + 1, s.2.1, true) else (s.1 + 1, s.2.1 - 1, false))
def zst : Nat → Int × Int × Bool
  | 0 => (0, 0, true)
  | k + 1 => zstep (zst k)
def zigAt (k : Nat) : Int := 8 * (zst k).1 + (zst k).2.1
def zigL : List Int := (List.range 64).map zigAt
theorem zst_bd (k : Nat) (h : k < 64) : 0 ≤ (zst k).1 ∧ (zst k).1 ≤ 7 ∧ 0 ≤ (zst k).2.1 ∧ (zst k).2.1 ≤ 7 :=
  (by decide +kernel : ∀ j : Fin 64, 0 ≤ (zst j.val).1 ∧ (zst j.val).1 ≤ 7 ∧ 0 ≤ (zst j.val).2.1 ∧ (zst j.val).2.1 ≤ 7) ⟨k, h⟩
theorem zigL_len : zigL.length = 64 := by simp [zigL]
theorem zigL_take_succ (k : Nat) (h : k < 64) : zigL.take (k + 1) = zigL.take k ++ [zigAt k] := by
  rw [List.take_succ_eq_append_getElem (by rw [zigL_len]; exact h)]
  simp [zigL]
theorem zigL_get (k : Nat) (h : k < zigL.length) : zigL[k] = zigAt k := by simp [zigL]
theorem zigAt_bd (k : Nat) (h : k < 64) : 0 ≤ zigAt k ∧ zigAt k < 64 := by
  have := zst_bd k h
  unfold zigAt
  omega
/-- the reference's row k of a slant -/
def zrow (s k : Nat) : List Int := (List.range k).filterMap fun (j : Nat) =>
  let r : Int := if s % 2 = 0 then 7 - (j : Int) else (j : Int)
  if 0 ≤ (s : Int) - r ∧ (s : Int) - r ≤ 7 then some (8 * r + (s - r)) else none
theorem zrow_succ (s k : Nat) : zrow s (k + 1) = zrow s k ++ (if 0 ≤ (s : Int) - (if s % 2 = 0 then 7 - (k : Int) else k) ∧ (s : Int) - (if s % 2 = 0 then 7 - (k : Int) else k) ≤ 7 then [8 * (if s % 2 = 0 then 7 - (k : Int) else k) + (s - (if s % 2 = 0 then 7 - (k : Int) else k))] else []) := by
  unfold zrow
  rw [List.range_succ, List.filterMap_append]
  congr 1
  simp only [List.filterMap_cons, List.filterMap_nil]
  by_cases h : 0 ≤ (s : Int) - (if s % 2 = 0 then 7 - (k : Int) else k) ∧ (s : Int) - (if s % 2 = 0 then 7 - (k : Int) else k) ≤ 7
  · rw [if_pos h, if_pos h]
  · rw [if_neg h, if_neg h]
def zall (s : Nat) : List Int := (List.range s).flatMap fun s => zrow s 8
theorem zall_succ (s : Nat) : zall (s + 1) = zall s ++ zrow s 8 := by
  unfold zall
  rw [List.range_succ, List.flatMap_append]
  simp
theorem zall_15 : zall 15 = zigL := by decide +kernel
theorem zlen (s k : Nat) (hs : s ≤ 15) (hk : k ≤ 8) : (zall s ++ zrow s k).length ≤ 200 :=
  (by decide +kernel : ∀ (s : Fin 16) (k : Fin 9), (zall s.val ++ zrow s.val k.val).length ≤ 200) ⟨s, by omega⟩ ⟨k, by omega⟩
/-- the places, back: number i at place zigAt i -/
def zfrom (zs : List Int) (k : Nat) : List Int := (List.range k).foldl (fun l i => l.set (zigAt i).toNat (zs.getD i 0)) (List.replicate 64 0)
theorem zfrom_succ (zs : List Int) (k : Nat) : zfrom zs (k + 1) = (zfrom zs k).set (zigAt k).toNat (zs.getD k 0) := by
  unfold zfrom
  rw [List.range_succ, List.foldl_append]
  rfl
theorem zfrom_len (zs : List Int) (k : Nat) : (zfrom zs k).length = 64 := by
  induction k with
  | zero => simp [zfrom]
  | succ k ih => rw [zfrom_succ]; simpa using ih
/-- the numbers in zigzag order -/
def zto (zs : List Int) : List Int := (List.range 64).map fun i => zs.getD (zigAt i).toNat 0
theorem zto_len (zs : List Int) : (zto zs).length = 64 := by simp [zto]
theorem zto_set (zs : List Int) (k : Nat) (h : k < 64) : ((zto zs).take k ++ List.replicate (64 - k) 0).set k (zs.getD (zigAt k).toNat 0) = (zto zs).take (k + 1) ++ List.replicate (64 - (k + 1)) 0 := by
  have hl : ((zto zs).take k).length = k := by rw [List.length_take, zto_len]; omega
  rw [List.set_append_right _ _ (by omega), hl, Nat.sub_self, List.take_succ_eq_append_getElem (by rw [zto_len]; exact h)]
  obtain ⟨m, hm⟩ : ∃ m, 64 - k = m + 1 := ⟨64 - k - 1, by omega⟩
  have hm2 : 64 - (k + 1) = m := by omega
  rw [hm, hm2, List.replicate_succ, List.set_cons_zero]
  simp [zto]
end Go.Proofs.YtgmddhljgfbibaaGreatDoor
/- The tokens of a block, in plain words. -/
namespace Go.Proofs.YtgmddhljgfbibaaGreatDoor
set_option linter.unusedVariables false
set_option linter.unusedSimpArgs false
open Go.RowKit
def tokZ (r n : Int) : Tok := (16 * r + (bitsZ n).1, (bitsZ n).1, (bitsZ n).2.1)
def long : Tok := (240, 0, 0)
def stepT (s : List Tok × Nat) (n : Int) : List Tok × Nat := if n = 0 then (s.1, s.2 + 1) else (s.1 ++ List.replicate (s.2 / 16) long ++ [tokZ ((s.2 % 16 : Nat) : Int) n], 0)
/-- behind the first k numbers of l -/
def accT (t0 : Tok) (l : List Int) (k : Nat) : List Tok × Nat := (l.take k).foldl stepT ([t0], 0)
theorem accT_zero (t0 : Tok) (l : List Int) : accT t0 l 0 = ([t0], 0) := rfl
theorem accT_succ (t0 : Tok) (l : List Int) (k : Nat) (h : k < l.length) : accT t0 l (k + 1) = stepT (accT t0 l k) l[k] := by
  unfold accT
  rw [List.take_succ_eq_append_getElem h, List.foldl_append]
  rfl
theorem accT_bd (t0 : Tok) (l : List Int) : ∀ k, k ≤ l.length → k ≤ 64 → (accT t0 l k).2 ≤ k ∧ (accT t0 l k).1.length ≤ 1 + 64 * k := by
  intro k
  induction k with
  | zero => intro _ _; simp [accT_zero]
  | succ k ih =>
    intro h1 h2
    obtain ⟨a, b⟩ := ih (by omega) (by omega)
    rw [accT_succ t0 l k (by omega)]
    unfold stepT
    split
    · simp; omega
    · simp; omega
theorem stepT_zero {s : List Tok × Nat} {n : Int} (h : n = 0) : stepT s n = (s.1, s.2 + 1) := by unfold stepT; rw [if_pos h]
theorem stepT_one {s : List Tok × Nat} {n : Int} (h : n ≠ 0) : stepT s n = (s.1 ++ List.replicate (s.2 / 16) long ++ [tokZ ((s.2 % 16 : Nat) : Int) n], 0) := by unfold stepT; rw [if_neg h]
/-- all tokens of a block (as a list in zig order), behind a number -/
def tokensZ (before : Int) (z : List Int) : List Tok :=
  let s := accT (tokZ 0 (z.getD 0 0 - before)) (z.drop 1) 63
  if 0 < s.2 then s.1 ++ [(0, 0, 0)] else s.1
end Go.Proofs.YtgmddhljgfbibaaGreatDoor
/- size.Back, SizeBack of the reference. -/
namespace Go.Proofs.YtgmddhljgfbibaaGreatDoor
set_option linter.unusedVariables false
set_option linter.unusedSimpArgs false
open Go.RowKit
/-- what Back answers -/
def backZ (k : Nat) (v : Int) : Int := if 0 < k ∧ v < 2 ^ (k - 1) then v - (2 ^ k - 1) else v
theorem backZ_hi (k : Nat) (v : Int) (hk : k ≤ 12) (h0 : 0 ≤ v) (h1 : v < 2 ^ k) (h : k = 0 ∨ 2 ^ (k - 1) ≤ v) : bitsZ v = ((k : Int), v, 0) ∧ backZ k v = v := by
  have p1 := pow_le k 12 hk
  rw [show (2 : Int) ^ 12 = 4096 from by decide] at p1
  have e : k = szN v := by
    refine szN_uniq v (by omega) (by omega) k ?_ ?_
    · have : (v.natAbs : Int) < 2 ^ k := by omega
      exact_mod_cast this
    · intro j hj
      have h2 : (2 : Int) ^ j ≤ 2 ^ (k - 1) := pow_le j (k - 1) (by omega)
      have : (2 : Int) ^ j ≤ (v.natAbs : Int) := by rcases h with h | h <;> omega
      exact_mod_cast this
  refine ⟨?_, ?_⟩
  · unfold bitsZ; rw [if_pos (by omega), if_neg (by omega), ← e]
  · unfold backZ; rw [if_neg (by omega)]
theorem backZ_lo (k : Nat) (v : Int) (hk : k ≤ 12) (h0 : 0 ≤ v) (hk0 : 0 < k) (h : v < 2 ^ (k - 1)) :
    (∃ s : Nat, s ≠ k ∧ bitsZ v = ((s : Int), v, 0)) ∧ bitsZ (v - 2 ^ k + 1) = ((k : Int), v, 0) ∧ backZ k v = v - (2 ^ k - 1) := by
  have p1 := pow_le k 12 hk
  rw [show (2 : Int) ^ 12 = 4096 from by decide] at p1
  have p2 : (2 : Int) ^ k = 2 * 2 ^ (k - 1) := by
    obtain ⟨j, rfl⟩ : ∃ j, k = j + 1 := ⟨k - 1, by omega⟩
    rw [Int.pow_succ]; simp; omega
  have p3 := pow_pos' (k - 1)
  refine ⟨⟨szN v, ?_, ?_⟩, ?_, ?_⟩
  · intro e
    obtain ⟨-, -, g3⟩ := szN_spec v (by omega) (by omega)
    by_cases hv : v = 0
    · subst hv
      have : szN 0 = 0 := by decide
      omega
    · have := (g3 hv).2
      rw [e] at this
      have : (2 : Int) ^ (k - 1) ≤ (v.natAbs : Int) := by exact_mod_cast this
      omega
  · unfold bitsZ; rw [if_pos (by omega), if_neg (by omega)]
  · have e : k = szN (v - 2 ^ k + 1) := by
      refine szN_uniq _ (by omega) (by omega) k ?_ ?_
      · have : ((v - 2 ^ k + 1).natAbs : Int) < 2 ^ k := by omega
        exact_mod_cast this
      · intro j hj
        have h2 : (2 : Int) ^ j ≤ 2 ^ (k - 1) := pow_le j (k - 1) (by omega)
        have : (2 : Int) ^ j ≤ ((v - 2 ^ k + 1).natAbs : Int) := by omega
        exact_mod_cast this
    unfold bitsZ
    rw [if_pos (by omega), if_pos (by omega), ← e]
    simp; omega
  · unfold backZ; rw [if_pos ⟨hk0, h⟩]
set_option maxHeartbeats 400000 in
theorem back_in (k : Nat) (v : Nat) (w : World) (hk : k ≤ 12) (h1 : (v : Int) < 2 ^ k) : Calls Tryz.prog 52 #[.int .i64 k, .int .i64 v] w fun e w' => e = .returned (.tuple #[.int .i64 (backZ k v), .int .i64 0]) ∧ w = w' := by
  have p1 := pow_le k 12 hk
  rw [show (2 : Int) ^ 12 = 4096 from by decide] at p1
  have p2 := pow_pos' k
  by_cases h0 : k = 0
  · subst h0
    have : v = 0 := by simp at h1; omega
    subst this
    go_enter Tryz.func52, Tryz.ntmps52
    go_wp2_with fail
    go_ret2
    exact ⟨rfl, rfl⟩
  · obtain ⟨j, rfl⟩ : ∃ j, k = j + 1 := ⟨k - 1, by omega⟩
    by_cases hv : (v : Int) < 2 ^ j
    · have hq : ((v : Int) / 2 ^ j == 0) = true := by rw [Int.ediv_eq_zero_of_lt (by omega) hv]; rfl
      have HF := hid_ (show backZ (j + 1) v = v - (2 ^ (j + 1) - 1) by unfold backZ; rw [if_pos ⟨by omega, hv⟩])
      clear hv
      go_enter Tryz.func52, Tryz.ntmps52
      go_wp2_with fail
      go_ret2
      exact ⟨by rw [HF.out]; rfl, rfl⟩
    · have hq : ((v : Int) / 2 ^ j == 0) = false := by
        have p3 := pow_pos' j
        have : (1 : Int) ≤ v / 2 ^ j := (Int.le_ediv_iff_mul_le (by omega)).2 (by omega)
        simp; omega
      have HF := hid_ (show backZ (j + 1) v = v by unfold backZ; rw [if_neg (by simp; omega)])
      clear hv
      go_enter Tryz.func52, Tryz.ntmps52
      go_wp2_with fail
      go_ret2
      exact ⟨by rw [HF.out]; rfl, rfl⟩
theorem back_out (n v : Int) (w : World) (h : n < 0 ∨ (¬ n < 0 ∧ 12 < n) ∨ (0 ≤ n ∧ n ≤ 12 ∧ v < 0) ∨ (0 ≤ n ∧ n ≤ 12 ∧ 0 ≤ v ∧ 2 ^ n.toNat ≤ v)) : Calls Tryz.prog 52 #[.int .i64 n, .int .i64 v] w fun e w' => e = .returned (.tuple #[.int .i64 0, .int .i64 1]) ∧ w = w' := by
  rcases h with h | ⟨h1, h⟩ | ⟨h1, h2, h⟩ | ⟨h1, h2, h3, h⟩
  · go_enter Tryz.func52, Tryz.ntmps52
    go_wp2_with fail
    go_ret2
    exact ⟨rfl, rfl⟩
  · go_enter Tryz.func52, Tryz.ntmps52
    go_wp2_with fail
    go_ret2
    exact ⟨rfl, rfl⟩
  · go_enter Tryz.func52, Tryz.ntmps52
    go_wp2_with fail
    go_ret2
    exact ⟨rfl, rfl⟩
  · obtain ⟨k, rfl⟩ : ∃ k : Nat, n = k := ⟨n.toNat, by omega⟩
    have hk : k ≤ 12 := by omega
    rw [Int.toNat_natCast] at h
    have p1 := pow_le k 12 hk
    rw [show (2 : Int) ^ 12 = 4096 from by decide] at p1
    have p2 := pow_pos' k
    go_enter Tryz.func52, Tryz.ntmps52
    go_wp2_with fail
    go_ret2
    exact ⟨rfl, rfl⟩
/-- what Back answers, at all arguments -/
def backR (n v : Int) : Int × Int := if 0 ≤ n ∧ n ≤ 12 ∧ 0 ≤ v ∧ v < 2 ^ n.toNat then (backZ n.toNat v, 0) else (0, 1)
theorem back_any (n v : Int) (w : World) : Calls Tryz.prog 52 #[.int .i64 n, .int .i64 v] w fun e w' => e = .returned (.tuple #[.int .i64 (backR n v).1, .int .i64 (backR n v).2]) ∧ w = w' := by
  unfold backR
  by_cases h : 0 ≤ n ∧ n ≤ 12 ∧ 0 ≤ v ∧ v < 2 ^ n.toNat
  · rw [if_pos h]
    obtain ⟨h1, h2, h3, h4⟩ := h
    obtain ⟨k, rfl⟩ : ∃ k : Nat, n = k := ⟨n.toNat, by omega⟩
    obtain ⟨v, rfl⟩ : ∃ k : Nat, v = k := ⟨v.toNat, by omega⟩
    rw [Int.toNat_natCast] at h4 ⊢
    exact back_in k v w (by omega) h4
  · rw [if_neg h]
    exact back_out n v w (by omega)
set_option maxHeartbeats 400000 in
theorem rback_in (k : Nat) (v : Int) (w : World) (hk : k ≤ 12) (h0 : 0 ≤ v) (h1 : v < 2 ^ k) : Calls Tryz.prog 61 #[.int .i64 k, .int .i64 v] w fun e w' => e = .returned (.tuple #[.int .i64 (backZ k v), .int .i64 0]) ∧ Ext w w' := by
  have p1 := pow_le k 12 hk
  rw [show (2 : Int) ^ 12 = 4096 from by decide] at p1
  have p2 := pow_pos' k
  have b1 : inB (k : Int) 0 12 = true := inB_iff.2 (by omega)
  have b2 : inB v 0 (2 ^ k - 1) = true := inB_iff.2 (by omega)
  have HP := hid_ (fun W => power_any k W (by omega))
  have HO1 := hid_ (fun W => outside_any (k : Int) 0 12 W)
  have HO2 := hid_ (fun W => outside_any v 0 (2 ^ k - 1) W)
  have HB1 := hid_ (fun W => rsizeBits_any v W)
  have HB2 := hid_ (fun W => rsizeBits_any (v - 2 ^ k + 1) W)
  rw [b1] at HO1
  rw [b2] at HO2
  clear b1 b2
  by_cases hc : k = 0 ∨ 2 ^ (k - 1) ≤ v
  · obtain ⟨e1, e2⟩ := backZ_hi k v hk h0 h1 hc
    have HF := hid_ e2
    rw [e1] at HB1
    have ek : ((k : Int) == k) = true := by simp
    have ev : (v == v) = true := by simp
    clear e1 e2 hc
    go_enter Tryz.func61, Tryz.ntmps61
    go_wp2_with (first
      | (go_at_call 29; (with_reducible refine (HO1.out _).mono ?_); rintro e w' ⟨rfl, rfl⟩)
      | (go_at_call 29; (with_reducible refine (HO2.out _).mono ?_); rintro e w' ⟨rfl, rfl⟩)
      | (go_at_call 76; (with_reducible refine (HP.out _).mono ?_); rintro e w' ⟨rfl, rfl⟩))
    have hn := Blk.new w 3 #[.int .i64 v, .int .i64 (v - 2 ^ k + 1)]
    have hc0 := hn.cell 0
    have hc1 := hn.cell 1
    simp only [show (#[Value.int .i64 v, .int .i64 (v - 2 ^ k + 1)] : Array Value)[0]? = some (.int .i64 v) from rfl] at hc0
    simp only [show (#[Value.int .i64 v, .int .i64 (v - 2 ^ k + 1)] : Array Value)[1]? = some (.int .i64 (v - 2 ^ k + 1)) from rfl] at hc1
    have hx := (Ext.refl w).alloc (.cells #[.int .i64 v, .int .i64 (v - 2 ^ k + 1)] 3)
    clear hn
    generalize w.alloc (.cells #[.int .i64 v, .int .i64 (v - 2 ^ k + 1)] 3) = w1 at *
    go_loop [28] (fun i => i = .int .i64 0) (fun _ => 1)
    case atStart => rfl
    case round =>
      subst hrel
      go_wp2_with (go_at_call 77; (with_reducible refine (HB1.out _).mono ?_); rintro e w' ⟨rfl, rfl⟩)
      go_ret2
      exact ⟨by rw [HF.out]; rfl, hx⟩
  · obtain ⟨⟨s, hs, e0⟩, e1, e2⟩ := backZ_lo k v hk h0 (by omega) (by omega)
    have HF := hid_ (e2.trans (show v - (2 ^ k - 1) = v - 2 ^ k + 1 by omega))
    rw [e0] at HB1
    rw [e1] at HB2
    have ek : ((k : Int) == k) = true := by simp
    have ev : (v == v) = true := by simp
    have es : ((s : Int) == k) = false := by simp; omega
    clear e1 e2 hc e0 hs
    go_enter Tryz.func61, Tryz.ntmps61
    go_wp2_with (first
      | (go_at_call 29; (with_reducible refine (HO1.out _).mono ?_); rintro e w' ⟨rfl, rfl⟩)
      | (go_at_call 29; (with_reducible refine (HO2.out _).mono ?_); rintro e w' ⟨rfl, rfl⟩)
      | (go_at_call 76; (with_reducible refine (HP.out _).mono ?_); rintro e w' ⟨rfl, rfl⟩))
    have hn := Blk.new w 3 #[.int .i64 v, .int .i64 (v - 2 ^ k + 1)]
    have hc0 := hn.cell 0
    have hc1 := hn.cell 1
    simp only [show (#[Value.int .i64 v, .int .i64 (v - 2 ^ k + 1)] : Array Value)[0]? = some (.int .i64 v) from rfl] at hc0
    simp only [show (#[Value.int .i64 v, .int .i64 (v - 2 ^ k + 1)] : Array Value)[1]? = some (.int .i64 (v - 2 ^ k + 1)) from rfl] at hc1
    have hx := (Ext.refl w).alloc (.cells #[.int .i64 v, .int .i64 (v - 2 ^ k + 1)] 3)
    clear hn
    generalize w.alloc (.cells #[.int .i64 v, .int .i64 (v - 2 ^ k + 1)] 3) = w1 at *
    go_loop [28] (fun i => ∃ j : Nat, j ≤ 1 ∧ i = .int .i64 j) (fun i => 2 - (intOf i).toNat)
    case atStart => exact ⟨0, by omega, rfl⟩
    case round =>
      obtain ⟨j, hj, rfl⟩ := hrel
      by_cases hj0 : j = 0
      · subst hj0
        go_wp2_with (go_at_call 77; (with_reducible refine (HB1.out _).mono ?_); rintro e w' ⟨rfl, rfl⟩)
        go_round
        case rel => exact ⟨1, by omega, rfl⟩
        case measure => simp [intOf]
      · obtain rfl : j = 1 := by omega
        go_wp2_with (go_at_call 77; (with_reducible refine (HB2.out _).mono ?_); rintro e w' ⟨rfl, rfl⟩)
        go_ret2
        exact ⟨by rw [HF.out]; rfl, hx⟩
theorem rback_any (n v : Int) (w : World) : Calls Tryz.prog 61 #[.int .i64 n, .int .i64 v] w fun e w' => e = .returned (.tuple #[.int .i64 (backR n v).1, .int .i64 (backR n v).2]) ∧ Ext w w' := by
  unfold backR
  by_cases h : 0 ≤ n ∧ n ≤ 12 ∧ 0 ≤ v ∧ v < 2 ^ n.toNat
  · rw [if_pos h]
    obtain ⟨h1, h2, h3, h4⟩ := h
    obtain ⟨k, rfl⟩ : ∃ k : Nat, n = k := ⟨n.toNat, by omega⟩
    rw [Int.toNat_natCast] at h4 ⊢
    exact rback_in k v w (by omega) h3 h4
  · rw [if_neg h]
    have HO1 := hid_ (fun W => outside_any n 0 12 W)
    cases hq : inB n 0 12 with
    | false =>
      rw [hq] at HO1
      clear h hq
      go_enter Tryz.func61, Tryz.ntmps61
      go_wp2_with (go_at_call 29; (with_reducible refine (HO1.out _).mono ?_); rintro e w' ⟨rfl, rfl⟩)
      go_ret2
      exact ⟨rfl, Ext.refl w⟩
    | true =>
      rw [hq] at HO1
      have hin := inB_iff.1 hq
      obtain ⟨k, rfl⟩ : ∃ k : Nat, n = k := ⟨n.toNat, by omega⟩
      have p1 := pow_le k 12 (by omega)
      rw [show (2 : Int) ^ 12 = 4096 from by decide] at p1
      have p2 := pow_pos' k
      rw [Int.toNat_natCast] at h
      have HP := hid_ (fun W => power_any k W (by omega))
      have HO2 := hid_ (fun W => outside_any v 0 (2 ^ k - 1) W)
      rw [inB_not.2 (by omega)] at HO2
      clear h hq
      go_enter Tryz.func61, Tryz.ntmps61
      go_wp2_with (first
        | (go_at_call 29; (with_reducible refine (HO1.out _).mono ?_); rintro e w' ⟨rfl, rfl⟩)
        | (go_at_call 29; (with_reducible refine (HO2.out _).mono ?_); rintro e w' ⟨rfl, rfl⟩)
        | (go_at_call 76; (with_reducible refine (HP.out _).mono ?_); rintro e w' ⟨rfl, rfl⟩))
      go_ret2
      exact ⟨rfl, Ext.refl w⟩
end Go.Proofs.YtgmddhljgfbibaaGreatDoor
/- What From and BlockOf make of a source of tokens, in plain words. -/
namespace Go.Proofs.YtgmddhljgfbibaaGreatDoor
set_option linter.unusedVariables false
set_option linter.unusedSimpArgs false
open Go.RowKit
theorem zigAt_inj : ∀ i j : Fin 64, zigAt i.val = zigAt j.val → i = j := by decide +kernel
theorem zfrom_get (z : List Int) : ∀ (k i : Nat), k ≤ 64 → i < k → (zfrom z k).getD (zigAt i).toNat 0 = z.getD i 0 := by
  intro k
  induction k with
  | zero => intro i _ h; omega
  | succ k ih =>
    intro i hk hi
    rw [zfrom_succ]
    have bi := zigAt_bd i (by omega)
    have bk := zigAt_bd k (by omega)
    have hl := zfrom_len z k
    by_cases e : i = k
    · subst e
      simp [List.getD_eq_getElem?_getD, List.getElem?_set, hl, show (zigAt i).toNat < 64 by omega]
    · have hne : (zigAt k).toNat ≠ (zigAt i).toNat := by
        intro h
        have : zigAt k = zigAt i := by omega
        have := zigAt_inj ⟨k, by omega⟩ ⟨i, by omega⟩ this
        exact e (by simpa using (congrArg Fin.val this).symm)
      have := ih i (by omega) (by omega)
      simpa [List.getD_eq_getElem?_getD, List.getElem?_set, hne] using this
theorem zto_zfrom (z : List Int) (hz : z.length = 64) : zto (zfrom z 64) = z := by
  refine List.ext_getElem (by rw [zto_len, hz]) fun i h1 h2 => ?_
  have := zfrom_get z 64 i (by omega) (by rw [zto_len] at h1; exact h1)
  simp only [zto, List.getElem_map, List.getElem_range]
  rw [this]
  simp [List.getD_eq_getElem?_getD, h2]
theorem zfrom_all (z : List Int) (P : Int → Prop) (h0 : P 0) (h : ∀ x ∈ z, P x) : ∀ k, ∀ x ∈ zfrom z k, P x := by
  intro k
  induction k with
  | zero => intro x hx; simp [zfrom] at hx; rw [hx]; exact h0
  | succ k ih =>
    intro x hx
    rw [zfrom_succ] at hx
    rcases List.mem_or_eq_of_mem_set hx with h1 | h1
    · exact ih x h1
    · rw [h1, List.getD_eq_getElem?_getD]
      cases hq : z[k]? with
      | none => exact h0
      | some y => exact h y (List.mem_of_getElem? hq)
/-- a block's later token that may be -/
def tokOk (t : Tok) : Bool := decide ((backR t.2.1 t.2.2).2 = 0 ∧ t.2.1 = t.1 % 16 ∧ t.2.1 ≤ 11 ∧ 0 ≤ t.1 ∧ t.1 ≤ 255 ∧ (t.2.1 = 0 → t.1 = 0 ∨ t.1 = 240))
/-- a block's first token that may be -/
def tokOk1 (before : Int) (t : Tok) : Bool := decide ((backR t.2.1 t.2.2).2 = 0 ∧ t.1 = t.2.1 ∧ -2047 ≤ before + (backR t.2.1 t.2.2).1 ∧ before + (backR t.2.1 t.2.2).1 ≤ 2047)
theorem backR_bd (n v : Int) : -4095 ≤ (backR n v).1 ∧ (backR n v).1 ≤ 4095 ∧ ((backR n v).2 = 0 ∨ (backR n v).2 = 1) := by
  unfold backR
  split
  · next h =>
    obtain ⟨h1, h2, h3, h4⟩ := h
    have p1 := pow_le n.toNat 12 (by omega)
    rw [show (2 : Int) ^ 12 = 4096 from by decide] at p1
    have p2 := pow_pos' n.toNat
    refine ⟨?_, ?_, .inl rfl⟩
    · show -4095 ≤ backZ _ _
      unfold backZ; split <;> omega
    · show backZ _ _ ≤ 4095
      unfold backZ; split <;> omega
  · simp
theorem backR_11 {n v : Int} (h : (backR n v).2 = 0) (h11 : n ≤ 11) : -2047 ≤ (backR n v).1 ∧ (backR n v).1 ≤ 2047 ∧ 0 ≤ n ∧ (n = 0 → (backR n v).1 = 0) := by
  unfold backR at h ⊢
  split at h
  · next hh =>
    rw [if_pos hh]
    obtain ⟨h1, h2, h3, h4⟩ := hh
    have p1 := pow_le n.toNat 11 (by omega)
    rw [show (2 : Int) ^ 11 = 2048 from by decide] at p1
    have p2 := pow_pos' n.toNat
    refine ⟨?_, ?_, h1, ?_⟩
    · show -2047 ≤ backZ _ _
      unfold backZ; split <;> omega
    · show backZ _ _ ≤ 2047
      unfold backZ; split <;> omega
    · intro e
      subst e
      simp at h4
      unfold backZ
      simp
      omega
  · simp at h
theorem tokOk_iff {t : Tok} : tokOk t = true ↔ (backR t.2.1 t.2.2).2 = 0 ∧ t.2.1 = t.1 % 16 ∧ t.2.1 ≤ 11 ∧ 0 ≤ t.1 ∧ t.1 ≤ 255 ∧ (t.2.1 = 0 → t.1 = 0 ∨ t.1 = 240) := decide_eq_true_iff
theorem tokOk_def (t : Tok) : tokOk t = decide ((backR t.2.1 t.2.2).2 = 0 ∧ t.2.1 = t.1 % 16 ∧ t.2.1 ≤ 11 ∧ 0 ≤ t.1 ∧ t.1 ≤ 255 ∧ (t.2.1 = 0 → t.1 = 0 ∨ t.1 = 240)) := rfl
theorem tokOk1_def (before : Int) (t : Tok) : tokOk1 before t = decide ((backR t.2.1 t.2.2).2 = 0 ∧ t.1 = t.2.1 ∧ -2047 ≤ before + (backR t.2.1 t.2.2).1 ∧ before + (backR t.2.1 t.2.2).1 ≤ 2047) := rfl
theorem tokOk1_iff {before : Int} {t : Tok} : tokOk1 before t = true ↔ (backR t.2.1 t.2.2).2 = 0 ∧ t.1 = t.2.1 ∧ -2047 ≤ before + (backR t.2.1 t.2.2).1 ∧ before + (backR t.2.1 t.2.2).1 ≤ 2047 := by simp [tokOk1]
section
variable {σ : Type}
/-- the tokens behind the first: the errno, the block in zig order, all tokens, the source -/
def goB (next : σ → Tok × Int × σ) (i : Nat) (z : List Int) (all : List Tok) (s : σ) : Int × List Int × List Tok × σ :=
  if h : i < 64 then
    if (next s).2.1 ≠ 0 then ((next s).2.1, z, all, (next s).2.2)
    else if tokOk (next s).1 = false then (4, z, all, (next s).2.2)
    else if (next s).1.1 = 0 then (0, z, all ++ [(next s).1], (next s).2.2)
    else if 64 < i + ((next s).1.1 / 16).toNat + 1 then (4, z, all, (next s).2.2)
    else goB next (i + ((next s).1.1 / 16).toNat + 1) (z.set (i + ((next s).1.1 / 16).toNat) (backR (next s).1.2.1 (next s).1.2.2).1) (all ++ [(next s).1]) (next s).2.2
  else (0, z, all, s)
termination_by 64 - i
variable {next : σ → Tok × Int × σ} {i : Nat} {z : List Int} {all : List Tok} {s s' : σ} {t : Tok} {e : Int}
theorem goB_err (hi : i < 64) (h : next s = (t, e, s')) (he : e ≠ 0) : goB next i z all s = (e, z, all, s') := by
  unfold goB; rw [dif_pos hi, h, if_pos he]
theorem goB_bad (hi : i < 64) (h : next s = (t, 0, s')) (ht : tokOk t = false) : goB next i z all s = (4, z, all, s') := by
  unfold goB; rw [dif_pos hi, h, if_neg (by simp), if_pos ht]
theorem goB_end (hi : i < 64) (h : next s = (t, 0, s')) (ht : tokOk t = true) (h0 : t.1 = 0) : goB next i z all s = (0, z, all ++ [t], s') := by
  unfold goB; rw [dif_pos hi, h, if_neg (by simp), if_neg (by simp [ht]), if_pos h0]
theorem goB_far (hi : i < 64) (h : next s = (t, 0, s')) (ht : tokOk t = true) (h0 : t.1 ≠ 0) (hf : 64 < i + (t.1 / 16).toNat + 1) : goB next i z all s = (4, z, all, s') := by
  unfold goB; rw [dif_pos hi, h, if_neg (by simp), if_neg (by simp [ht]), if_neg h0, if_pos hf]
theorem goB_step (hi : i < 64) (h : next s = (t, 0, s')) (ht : tokOk t = true) (h0 : t.1 ≠ 0) (hf : ¬ 64 < i + (t.1 / 16).toNat + 1) :
    goB next i z all s = goB next (i + (t.1 / 16).toNat + 1) (z.set (i + (t.1 / 16).toNat) (backR t.2.1 t.2.2).1) (all ++ [t]) s' := by
  rw [goB, dif_pos hi, h, if_neg (by simp), if_neg (by simp [ht]), if_neg h0, if_neg hf]
theorem goB_done (hi : ¬ i < 64) : goB next i z all s = (0, z, all, s) := by
  unfold goB; rw [dif_neg hi]
/-- what From and BlockOf answer: the errno, the block, its tokens, the source -/
def blkZ (next : Bool → σ → Tok × Int × σ) (before : Int) (s : σ) : Int × List Int × List Tok × σ :=
  if (next true s).2.1 ≠ 0 then ((next true s).2.1, List.replicate 64 0, [], (next true s).2.2)
  else if tokOk1 before (next true s).1 = false then (4, List.replicate 64 0, [], (next true s).2.2)
  else
    let g := goB (next false) 1 ((List.replicate 64 0).set 0 (before + (backR (next true s).1.2.1 (next true s).1.2.2).1)) [(next true s).1] (next true s).2.2
    if g.1 ≠ 0 then (g.1, List.replicate 64 0, [], g.2.2.2)
    else if tokensZ before g.2.1 = g.2.2.1 then (0, zfrom g.2.1 64, g.2.2.1, g.2.2.2)
    else (4, List.replicate 64 0, [], g.2.2.2)
variable {nextB : Bool → σ → Tok × Int × σ} {before : Int}
theorem blkZ_err (h : nextB true s = (t, e, s')) (he : e ≠ 0) : blkZ nextB before s = (e, List.replicate 64 0, [], s') := by
  unfold blkZ; rw [h, if_pos he]
theorem blkZ_bad (h : nextB true s = (t, 0, s')) (ht : tokOk1 before t = false) : blkZ nextB before s = (4, List.replicate 64 0, [], s') := by
  unfold blkZ; rw [h, if_neg (by simp), if_pos ht]
theorem blkZ_go (h : nextB true s = (t, 0, s')) (ht : tokOk1 before t = true) {g : Int × List Int × List Tok × σ} (hg : goB (nextB false) 1 ((List.replicate 64 0).set 0 (before + (backR t.2.1 t.2.2).1)) [t] s' = g) :
    blkZ nextB before s = if g.1 ≠ 0 then (g.1, List.replicate 64 0, [], g.2.2.2) else if tokensZ before g.2.1 = g.2.2.1 then (0, zfrom g.2.1 64, g.2.2.1, g.2.2.2) else (4, List.replicate 64 0, [], g.2.2.2) := by
  unfold blkZ
  rw [h, if_neg (by simp), if_neg (by simp [ht])]
  simp only
  rw [hg]
/-- what is made of the end of goB -/
def finZ (before : Int) (g : Int × List Int × List Tok × σ) : Int × List Int × List Tok × σ :=
  if g.1 ≠ 0 then (g.1, List.replicate 64 0, [], g.2.2.2) else if tokensZ before g.2.1 = g.2.2.1 then (0, zfrom g.2.1 64, g.2.2.1, g.2.2.2) else (4, List.replicate 64 0, [], g.2.2.2)
theorem blkZ_fin (h : nextB true s = (t, 0, s')) (ht : tokOk1 before t = true) : blkZ nextB before s = finZ before (goB (nextB false) 1 ((List.replicate 64 0).set 0 (before + (backR t.2.1 t.2.2).1)) [t] s') := blkZ_go h ht rfl
theorem finZ_err {x : Int} (hx : x ≠ 0) : finZ before (x, z, all, s) = (x, List.replicate 64 0, [], s) := if_pos hx
theorem finZ_good (h : tokensZ before z = all) : finZ before ((0 : Int), z, all, s) = (0, zfrom z 64, all, s) := by
  unfold finZ
  dsimp only
  rw [if_neg (show ¬ ((0 : Int) ≠ 0) by simp), if_pos h]
theorem finZ_ne (h : tokensZ before z ≠ all) : finZ before ((0 : Int), z, all, s) = (4, List.replicate 64 0, [], s) := by
  unfold finZ
  dsimp only
  rw [if_neg (show ¬ ((0 : Int) ≠ 0) by simp), if_neg h]
/-- the block under way: its length, its bounds, noughts from i on -/
structure Half (z : List Int) (i : Nat) : Prop where
  len : z.length = 64
  lo : ∀ x ∈ z, -2047 ≤ x ∧ x ≤ 2047
  zero : ∀ j, i ≤ j → j < 64 → z[j]? = some 0
theorem Half.set {z : List Int} {i k : Nat} (h : Half z i) (hk : i ≤ k) (hk2 : k < 64) {x : Int} (h1 : -2047 ≤ x) (h2 : x ≤ 2047) : Half (z.set k x) (k + 1) :=
  ⟨by simp [h.len], fun y hy => by
    rcases List.mem_or_eq_of_mem_set hy with h3 | h3
    · exact h.lo y h3
    · rw [h3]; exact ⟨h1, h2⟩, fun j hj hj2 => by
    rw [List.getElem?_set_ne (by omega)]; exact h.zero j (by omega) hj2⟩
theorem Half.same {z : List Int} {i k : Nat} (h : Half z i) (hk : i ≤ k) (hk2 : k < 64) : z.set k 0 = z := by
  have := h.zero k hk hk2
  obtain ⟨h1, h2⟩ := List.getElem?_eq_some_iff.1 this
  exact List.ext_getElem (by simp) fun j a b => by
    by_cases e : j = k
    · subst e; simp [h2]
    · simp [List.getElem_set, show ¬ k = j by omega]
theorem Half.init (x : Int) (h1 : -2047 ≤ x) (h2 : x ≤ 2047) : Half ((List.replicate 64 0).set 0 x) 1 :=
  ⟨by simp, fun y hy => by
    rcases List.mem_or_eq_of_mem_set hy with h3 | h3
    · simp at h3; omega
    · omega, fun j hj hj2 => by
    rw [List.getElem?_set_ne (by omega), List.getElem?_replicate, if_pos hj2]⟩
/-- the block at the end is such a one, too -/
theorem goB_half (next : σ → Tok × Int × σ) : ∀ (n i : Nat) (z : List Int) (all : List Tok) (s : σ), 64 - i = n → i ≤ 64 → Half z i → (goB next i z all s).1 = 0 → Half (goB next i z all s).2.1 64 := by
  intro n
  induction n using Nat.strongRecOn with
  | ind n ih =>
    intro i z all s hn hi hz h0
    by_cases hlt : i < 64
    · rcases hq : next s with ⟨t, e, s'⟩
      by_cases he : e = 0
      · subst he
        cases ht : tokOk t with
        | false => rw [goB_bad hlt hq ht] at h0; simp at h0
        | true =>
          have ht' := tokOk_iff.1 ht
          by_cases h1 : t.1 = 0
          · rw [goB_end hlt hq ht h1]
            exact ⟨hz.len, hz.lo, fun j a b => by omega⟩
          · by_cases hf : 64 < i + (t.1 / 16).toNat + 1
            · rw [goB_far hlt hq ht h1 hf] at h0; simp at h0
            · rw [goB_step hlt hq ht h1 hf] at h0 ⊢
              have b := backR_11 ht'.1 ht'.2.2.1
              exact ih _ (by omega) _ _ _ _ rfl (by omega) (hz.set (by omega) (by omega) b.1 b.2.1) h0
      · rw [goB_err hlt hq he] at h0; exact absurd h0 he
    · rw [goB_done hlt]
      exact ⟨hz.len, hz.lo, fun j a b => by omega⟩
end
end Go.Proofs.YtgmddhljgfbibaaGreatDoor
