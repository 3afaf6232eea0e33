/- Contracts for the law ScanEncodesCard, part 3: what the functions that it reaches answer, for all arguments that the theorems name. -/
import Derived.Test.YtgmddhljgfbibaaDoorMScanEncodesCard1
import Derived.Test.YtgmddhljgfbibaaDoorMScanEncodesCard2
import Derived.Lib.BitFns
import Derived.Lib.ItoaNum
import Derived.WalkKit
import Derived.Maps.AppendAt
/- size.Bits, size.Of, SizeBits of the reference. -/
namespace Go.Proofs.YtgmddhljgfbibaaDoor
set_option linter.unusedVariables false
set_option linter.unusedSimpArgs false
open Go.RowKit
theorem calls_back {P : Program} {f : FuncId} {args : Array Value} {w : World} {v : Value} (h : Calls P f args w fun e w' => e = .returned v ∧ w' = w) : Calls P f args w fun e w' => e = .returned v ∧ w = w' :=
  h.mono fun _ _ ⟨a, b⟩ => ⟨a, b.symm⟩
/-- the size of a number: the bits of its absolute value -/
def szN (n : Int) : Nat := Lib.bitLen n.natAbs
theorem szN_spec (n : Int) (h1 : -4095 ≤ n) (h2 : n ≤ 4095) : szN n ≤ 12 ∧ n.natAbs < 2 ^ szN n ∧ (n ≠ 0 → 1 ≤ szN n ∧ 2 ^ (szN n - 1) ≤ n.natAbs) := by
  have hb : n.natAbs < 2 ^ 12 := by omega
  refine ⟨Lib.bitLen_le _ 12 (by omega) hb, ?_, fun h0 => ?_⟩
  · by_cases h0 : n = 0
    · subst h0; decide
    · exact (Lib.bitLenAux_bounds 64 n.natAbs (by omega) (by omega)).2.2
  · have := Lib.bitLenAux_bounds 64 n.natAbs (by omega) (by omega)
    exact ⟨this.1, this.2.1⟩
theorem szN_uniq (n : Int) (h1 : -4095 ≤ n) (h2 : n ≤ 4095) (k : Nat) (ha : n.natAbs < 2 ^ k) (hb : ∀ j, j < k → 2 ^ j ≤ n.natAbs) : k = szN n := by
  obtain ⟨-, g2, g3⟩ := szN_spec n h1 h2
  rcases Nat.lt_trichotomy k (szN n) with h | h | h
  · by_cases h0 : n = 0
    · subst h0
      have : szN 0 = 0 := by decide
      omega
    · have := (g3 h0).2
      have := Nat.pow_le_pow_right (n := 2) (by omega) (show k ≤ szN n - 1 by omega)
      omega
  · exact h
  · have := hb (szN n) h
    omega
/-- what Bits answers -/
def bitsZ (n : Int) : Int × Int × Int := if -4095 ≤ n ∧ n ≤ 4095 then (szN n, if n < 0 then n + 2 ^ szN n - 1 else n, 0) else (0, 0, 1)
set_option maxHeartbeats 400000 in
theorem sizeBits_any (n : Int) (w : World) : Calls Tryd.prog 100 #[.int .i64 n] w fun e w' => e = .returned (.tuple #[.int .i64 (bitsZ n).1, .int .i64 (bitsZ n).2.1, .int .i64 (bitsZ n).2.2]) ∧ w = w' := by
  by_cases hin : -4095 ≤ n ∧ n ≤ 4095
  · obtain ⟨h1, h2⟩ := hin
    obtain ⟨g1, -, -⟩ := szN_spec n h1 h2
    have hl := hid_ (fun W => calls_back (Tryd.bits_Len n.natAbs W (by omega) (by omega)))
    have hf : bitsZ n = ((szN n : Int), (if n < 0 then n + 2 ^ szN n - 1 else n), (0 : Int)) := by unfold bitsZ; rw [if_pos ⟨h1, h2⟩]
    rw [hf]
    have hsz : Lib.bitLen ((n.natAbs : Int)).toNat = szN n := by simp [szN]
    have hmx : (n.natAbs : Int) = max n (-n) := by omega
    rw [hsz, hmx] at hl
    clear hf hsz hmx
    have p1 := pow_le (szN n) 12 g1
    have p2 := pow_pos' (szN n)
    have p3 : (2 : Int) ^ 12 = 4096 := by decide
    rw [p3] at p1
    clear p3
    generalize szN n = s at *
    by_cases hn : n < 0
    · rw [if_pos hn]
      go_enter Tryd.func100, Tryd.ntmps100
      go_wp2_with (go_at_call 107; refine (hl.out _).mono ?_; rintro e w' ⟨rfl, rfl⟩)
      refine bodyPost_ret (results_tmp3 rfl _ _ _) rfl ?_
      refine ⟨?_, rfl⟩
      have e : n + ((2 : Int) ^ s - 1) = n + 2 ^ s - 1 := by omega
      show Ending.returned (Value.tuple #[Value.int .i64 s, Value.int .i64 (n + ((2 : Int) ^ s - 1)), Value.int .i64 0]) = _
      rw [e]
    · rw [if_neg hn]
      go_enter Tryd.func100, Tryd.ntmps100
      go_wp2_with (go_at_call 107; refine (hl.out _).mono ?_; rintro e w' ⟨rfl, rfl⟩)
      refine bodyPost_ret (results_tmp3 rfl _ _ _) rfl ?_
      exact ⟨rfl, rfl⟩
  · have hf : bitsZ n = (0, 0, 1) := by unfold bitsZ; rw [if_neg hin]
    rw [hf]
    clear hf
    by_cases hn : n ≤ -4096
    · have hd : decide (n ≤ -4096) = true := by simpa using hn
      clear hin
      go_enter Tryd.func100, Tryd.ntmps100
      go_wp2_with fail
      refine bodyPost_ret (results_tmp3 rfl _ _ _) rfl ?_
      exact ⟨rfl, rfl⟩
    · have hd : decide (n ≤ -4096) = false := by simpa using hn
      have h4 : 4096 ≤ n := by omega
      clear hin
      go_enter Tryd.func100, Tryd.ntmps100
      go_wp2_with fail
      refine bodyPost_ret (results_tmp3 rfl _ _ _) rfl ?_
      exact ⟨rfl, rfl⟩
set_option maxHeartbeats 400000 in
theorem rsizeBits_any (n : Int) (w : World) : Calls Tryd.prog 83 #[.int .i64 n] w fun e w' => e = .returned (.tuple #[.int .i64 (bitsZ n).1, .int .i64 (bitsZ n).2.1, .int .i64 (bitsZ n).2.2]) ∧ w = w' := by
  by_cases hin : -4095 ≤ n ∧ n ≤ 4095
  · have hb := inB_iff.2 hin
    obtain ⟨h1, h2⟩ := hin
    have HS := hid_ (szN_spec n h1 h2)
    have HU := hid_ (szN_uniq n h1 h2)
    have hf : bitsZ n = ((szN n : Int), (if n < 0 then n + 2 ^ szN n - 1 else n), (0 : Int)) := by unfold bitsZ; rw [if_pos ⟨h1, h2⟩]
    have HF := hid_ hf
    have HM : Hid ((n.natAbs : Int) = max n (-n)) := hid_ (by omega)
    clear hf
    go_enter Tryd.func83, Tryd.ntmps83
    go_wp2_with (go_at_call 41; refine (outside_any _ _ _ _).mono ?_; rintro e w' ⟨rfl, rfl⟩)
    go_loop [5] (fun i => ∃ k : Nat, k ≤ szN n ∧ i = .int .i64 k) (fun i => 13 - (intOf i).toNat)
    case atStart => exact ⟨0, by omega, rfl⟩
    case round =>
      obtain ⟨k, hk, rfl⟩ := hrel
      have hk12 : k ≤ 12 := by have := HS.out.1; omega
      have p1 := pow_le k 12 hk12
      have p2 := pow_pos' k
      have p3 : (2 : Int) ^ 12 = 4096 := by decide
      rw [p3] at p1
      clear p3
      by_cases hlt : (2 : Int) ^ k ≤ max n (-n)
      · have hks : k < szN n := by
          rcases Nat.lt_or_ge k (szN n) with h | h
          · exact h
          · have e : k = szN n := by omega
            have h9 := HS.out.2.1
            have h8 := HM.out
            rw [← e] at h9
            have h7 : (n.natAbs : Int) < 2 ^ k := by exact_mod_cast h9
            omega
        go_wp2_with (go_at_call 84; refine (power_any _ _ (by omega)).mono ?_; rintro e w' ⟨rfl, rfl⟩)
        go_round
        case rel => exact ⟨k + 1, by omega, by go_num⟩
        case measure => simp [intOf]; omega
      · have hks : k = szN n := by
          have h8 := HM.out
          have h7 : (n.natAbs : Int) < 2 ^ k := by omega
          have h6 : n.natAbs < 2 ^ k := by exact_mod_cast h7
          rcases Nat.lt_or_ge k (szN n) with h | h
          · have h9 := HS.out.2.2
            by_cases h0 : n = 0
            · subst h0
              have : szN 0 = 0 := by decide
              omega
            · have h5 := (h9 h0).2
              have := Nat.pow_le_pow_right (n := 2) (by omega) (show k ≤ szN n - 1 by omega)
              omega
          · omega
        have HK := hid_ hks
        clear hks
        by_cases hn : n < 0
        · go_wp2_with (go_at_call 84; refine (power_any _ _ (by omega)).mono ?_; rintro e w' ⟨rfl, rfl⟩)
          refine bodyPost_ret (results_tmp3 rfl _ _ _) rfl ?_
          refine ⟨?_, rfl⟩
          rw [HF.out, ← HK.out, if_pos hn]
          rfl
        · go_wp2_with (go_at_call 84; refine (power_any _ _ (by omega)).mono ?_; rintro e w' ⟨rfl, rfl⟩)
          refine bodyPost_ret (results_tmp3 rfl _ _ _) rfl ?_
          refine ⟨?_, rfl⟩
          rw [HF.out, ← HK.out, if_neg (by omega)]
          rfl
  · have hb : inB n (-4095) 4095 = false := inB_not.2 (by omega)
    have hf : bitsZ n = (0, 0, 1) := by unfold bitsZ; rw [if_neg hin]
    rw [hf]
    clear hf hin
    go_enter Tryd.func83, Tryd.ntmps83
    go_wp2_with (go_at_call 41; refine (outside_any _ _ _ _).mono ?_; rintro e w' ⟨rfl, rfl⟩)
    refine bodyPost_ret (results_tmp3 rfl _ _ _) rfl ?_
    exact ⟨rfl, rfl⟩
end Go.Proofs.YtgmddhljgfbibaaDoor
/- The zigzag order, in plain words. -/
namespace Go.Proofs.YtgmddhljgfbibaaDoor
set_option linter.unusedVariables false
set_option linter.unusedSimpArgs false
def zstep (s : Int × Int × Bool) : Int × Int × Bool :=
  if s.2.2 then (if s.2.1 = 7 then (s.1 + 1, s.2.1, false) else if s.1 = 0 then (s.1, s.2.1 + 1, false) else (s.1 - 1, s.2.1 + 1, true))
  else (if s.1 = 7 then (s.1, s.2.1 + 1, true) else if s.2.1 = 0 then (s.1 + 1, s.2.1, true) else (s.1 + 1, s.2.1 - 1, false))
def zst : Nat → Int × Int × Bool
  | 0 => (0, 0, true)
  | k + 1 => zstep (zst k)
def zigAt (k : Nat) : Int := 8 * (zst k).1 + (zst k).2.1
def zigL : List Int := (List.range 64).map zigAt
theorem zst_bd (k : Nat) (h : k < 64) : 0 ≤ (zst k).1 ∧ (zst k).1 ≤ 7 ∧ 0 ≤ (zst k).2.1 ∧ (zst k).2.1 ≤ 7 :=
  (by decide +kernel : ∀ j : Fin 64, 0 ≤ (zst j.val).1 ∧ (zst j.val).1 ≤ 7 ∧ 0 ≤ (zst j.val).2.1 ∧ (zst j.val).2.1 ≤ 7) ⟨k, h⟩
theorem zigL_len : zigL.length = 64 := by simp [zigL]
theorem zigL_take_succ (k : Nat) (h : k < 64) : zigL.take (k + 1) = zigL.take k ++ [zigAt k] := by
  rw [List.take_succ_eq_append_getElem (by rw [zigL_len]; exact h)]
  simp [zigL]
theorem zigL_get (k : Nat) (h : k < zigL.length) : zigL[k] = zigAt k := by simp [zigL]
theorem zigAt_bd (k : Nat) (h : k < 64) : 0 ≤ zigAt k ∧ zigAt k < 64 := by
  have := zst_bd k h
  unfold zigAt
  omega
/-- the reference's row k of a slant -/
def zrow (s k : Nat) : List Int := (List.range k).filterMap fun (j : Nat) =>
  let r : Int := if s % 2 = 0 then 7 - (j : Int) else (j : Int)
  if 0 ≤ (s : Int) - r ∧ (s : Int) - r ≤ 7 then some (8 * r + (s - r)) else none
theorem zrow_succ (s k : Nat) : zrow s (k + 1) = zrow s k ++ (if 0 ≤ (s : Int) - (if s % 2 = 0 then 7 - (k : Int) else k) ∧ (s : Int) - (if s % 2 = 0 then 7 - (k : Int) else k) ≤ 7 then [8 * (if s % 2 = 0 then 7 - (k : Int) else k) + (s - (if s % 2 = 0 then 7 - (k : Int) else k))] else []) := by
  unfold zrow
  rw [List.range_succ, List.filterMap_append]
  congr 1
  simp only [List.filterMap_cons, List.filterMap_nil]
  by_cases h : 0 ≤ (s : Int) - (if s % 2 = 0 then 7 - (k : Int) else k) ∧ (s : Int) - (if s % 2 = 0 then 7 - (k : Int) else k) ≤ 7
  · rw [if_pos h, if_pos h]
  · rw [if_neg h, if_neg h]
def zall (s : Nat) : List Int := (List.range s).flatMap fun s => zrow s 8
theorem zall_succ (s : Nat) : zall (s + 1) = zall s ++ zrow s 8 := by
  unfold zall
  rw [List.range_succ, List.flatMap_append]
  simp
theorem zall_15 : zall 15 = zigL := by decide +kernel
theorem zlen (s k : Nat) (hs : s ≤ 15) (hk : k ≤ 8) : (zall s ++ zrow s k).length ≤ 200 :=
  (by decide +kernel : ∀ (s : Fin 16) (k : Fin 9), (zall s.val ++ zrow s.val k.val).length ≤ 200) ⟨s, by omega⟩ ⟨k, by omega⟩
/-- the places, back: number i at place zigAt i -/
def zfrom (zs : List Int) (k : Nat) : List Int := (List.range k).foldl (fun l i => l.set (zigAt i).toNat (zs.getD i 0)) (List.replicate 64 0)
theorem zfrom_succ (zs : List Int) (k : Nat) : zfrom zs (k + 1) = (zfrom zs k).set (zigAt k).toNat (zs.getD k 0) := by
  unfold zfrom
  rw [List.range_succ, List.foldl_append]
  rfl
theorem zfrom_len (zs : List Int) (k : Nat) : (zfrom zs k).length = 64 := by
  induction k with
  | zero => simp [zfrom]
  | succ k ih => rw [zfrom_succ]; simpa using ih
/-- the numbers in zigzag order -/
def zto (zs : List Int) : List Int := (List.range 64).map fun i => zs.getD (zigAt i).toNat 0
theorem zto_len (zs : List Int) : (zto zs).length = 64 := by simp [zto]
theorem zto_set (zs : List Int) (k : Nat) (h : k < 64) : ((zto zs).take k ++ List.replicate (64 - k) 0).set k (zs.getD (zigAt k).toNat 0) = (zto zs).take (k + 1) ++ List.replicate (64 - (k + 1)) 0 := by
  have hl : ((zto zs).take k).length = k := by rw [List.length_take, zto_len]; omega
  rw [List.set_append_right _ _ (by omega), hl, Nat.sub_self, List.take_succ_eq_append_getElem (by rw [zto_len]; exact h)]
  obtain ⟨m, hm⟩ : ∃ m, 64 - k = m + 1 := ⟨64 - k - 1, by omega⟩
  have hm2 : 64 - (k + 1) = m := by omega
  rw [hm, hm2, List.replicate_succ, List.set_cons_zero]
  simp [zto]
end Go.Proofs.YtgmddhljgfbibaaDoor
/- The tokens of a block, in plain words. -/
namespace Go.Proofs.YtgmddhljgfbibaaDoor
set_option linter.unusedVariables false
set_option linter.unusedSimpArgs false
open Go.RowKit
def tokZ (r n : Int) : Tok := (16 * r + (bitsZ n).1, (bitsZ n).1, (bitsZ n).2.1)
def long : Tok := (240, 0, 0)
def stepT (s : List Tok × Nat) (n : Int) : List Tok × Nat := if n = 0 then (s.1, s.2 + 1) else (s.1 ++ List.replicate (s.2 / 16) long ++ [tokZ ((s.2 % 16 : Nat) : Int) n], 0)
/-- behind the first k numbers of l -/
def accT (t0 : Tok) (l : List Int) (k : Nat) : List Tok × Nat := (l.take k).foldl stepT ([t0], 0)
theorem accT_zero (t0 : Tok) (l : List Int) : accT t0 l 0 = ([t0], 0) := rfl
theorem accT_succ (t0 : Tok) (l : List Int) (k : Nat) (h : k < l.length) : accT t0 l (k + 1) = stepT (accT t0 l k) l[k] := by
  unfold accT
  rw [List.take_succ_eq_append_getElem h, List.foldl_append]
  rfl
theorem accT_bd (t0 : Tok) (l : List Int) : ∀ k, k ≤ l.length → k ≤ 64 → (accT t0 l k).2 ≤ k ∧ (accT t0 l k).1.length ≤ 1 + 64 * k := by
  intro k
  induction k with
  | zero => intro _ _; simp [accT_zero]
  | succ k ih =>
    intro h1 h2
    obtain ⟨a, b⟩ := ih (by omega) (by omega)
    rw [accT_succ t0 l k (by omega)]
    unfold stepT
    split
    · simp; omega
    · simp; omega
theorem stepT_zero {s : List Tok × Nat} {n : Int} (h : n = 0) : stepT s n = (s.1, s.2 + 1) := by unfold stepT; rw [if_pos h]
theorem stepT_one {s : List Tok × Nat} {n : Int} (h : n ≠ 0) : stepT s n = (s.1 ++ List.replicate (s.2 / 16) long ++ [tokZ ((s.2 % 16 : Nat) : Int) n], 0) := by unfold stepT; rw [if_neg h]
/-- all tokens of a block (as a list in zig order), behind a number -/
def tokensZ (before : Int) (z : List Int) : List Tok :=
  let s := accT (tokZ 0 (z.getD 0 0 - before)) (z.drop 1) 63
  if 0 < s.2 then s.1 ++ [(0, 0, 0)] else s.1
end Go.Proofs.YtgmddhljgfbibaaDoor
/- The tokens of blocks, one behind the other, and whoever eats them, in plain words. -/
namespace Go.Proofs.YtgmddhljgfbibaaDoor
set_option linter.unusedVariables false
set_option linter.unusedSimpArgs false
open Go.RowKit
/-- a token whose symbol is a byte and whose value fits its width -/
def tokWf (t : Tok) : Prop := 0 ≤ t.1 ∧ t.1 ≤ 255 ∧ 0 ≤ t.2.1 ∧ t.2.1 ≤ 12 ∧ 0 ≤ t.2.2 ∧ t.2.2 < 2 ^ t.2.1.toNat
theorem bitsZ_wf (n : Int) : 0 ≤ (bitsZ n).1 ∧ (bitsZ n).1 ≤ 12 ∧ 0 ≤ (bitsZ n).2.1 ∧ (bitsZ n).2.1 < 2 ^ (bitsZ n).1.toNat := by
  unfold bitsZ
  split
  · next h =>
    obtain ⟨s1, s2, s3⟩ := szN_spec n h.1 h.2
    have p := pow_pos' (szN n)
    have s2' : (n.natAbs : Int) < 2 ^ szN n := by exact_mod_cast s2
    refine ⟨by simp, by simp; omega, ?_, ?_⟩
    · show 0 ≤ (if n < 0 then n + 2 ^ szN n - 1 else n)
      split <;> omega
    · show (if n < 0 then n + 2 ^ szN n - 1 else n) < 2 ^ ((szN n : Nat) : Int).toNat
      rw [Int.toNat_natCast]
      split <;> omega
  · simp
theorem tokZ_wf (r : Nat) (n : Int) (h : r ≤ 15) : tokWf (tokZ (r : Int) n) := by
  obtain ⟨a, b, c, d⟩ := bitsZ_wf n
  unfold tokWf tokZ
  dsimp only
  exact ⟨by omega, by omega, a, b, c, d⟩
theorem accT_wf (t0 : Tok) (l : List Int) (h0 : tokWf t0) : ∀ k, k ≤ l.length → ∀ t ∈ (accT t0 l k).1, tokWf t := by
  intro k
  induction k with
  | zero => intro _ t ht; rw [accT_zero] at ht; simp at ht; subst ht; exact h0
  | succ k ih =>
    intro hk t ht
    have ih := ih (by omega)
    rw [accT_succ t0 l k (by omega)] at ht
    generalize accT t0 l k = s at *
    by_cases hz : l[k] = 0
    · rw [stepT_zero hz] at ht; exact ih t ht
    · rw [stepT_one hz] at ht
      simp only [List.mem_append, List.mem_replicate, List.mem_singleton] at ht
      rcases ht with (ht | ⟨-, rfl⟩) | rfl
      · exact ih t ht
      · unfold tokWf long; decide
      · exact tokZ_wf _ _ (by omega)
theorem tokensZ_wf (before : Int) (z : List Int) (hz : z.length = 64) : ∀ t ∈ tokensZ before z, tokWf t := by
  intro t ht
  have h := accT_wf (tokZ 0 (z.getD 0 0 - before)) (z.drop 1) (tokZ_wf 0 _ (by omega)) 63 (by simp; omega)
  unfold tokensZ at ht
  simp only at ht
  split at ht
  · rcases List.mem_append.1 ht with h1 | h1
    · exact h t h1
    · simp at h1; subst h1; unfold tokWf; decide
  · exact h t ht
/-- block k of a flat list -/
def blkAt (Z : List Int) (k : Nat) : List Int := (Z.drop (k * 64)).take 64
/-- the first number of the block ahead -/
def befAt (Z : List Int) (k : Nat) : Int := if k = 0 then 0 else (blkAt Z (k - 1)).getD 0 0
/-- the tokens of block k -/
def toksAt (Z : List Int) (k : Nat) : List Tok := tokensZ (befAt Z k) (zto (blkAt Z k))
/-- tokens, each with whether it is the first -/
def flagT (T : List Tok) : List (Tok × Bool) := T.zipIdx.map fun p => (p.1, p.2 == 0)
theorem flagT_len (T : List Tok) : (flagT T).length = T.length := by simp [flagT]
theorem flagT_drop (T : List Tok) (j : Nat) (h : j < T.length) : (flagT T).drop j = (T[j], j == 0) :: (flagT T).drop (j + 1) := by
  rw [List.drop_eq_getElem_cons (by rw [flagT_len]; exact h)]
  simp [flagT]
/-- all tokens from block k on -/
def flagsAt (Z : List Int) (n k : Nat) : List (Tok × Bool) := (List.range' k (n - k)).flatMap fun i => flagT (toksAt Z i)
theorem flagsAt_succ (Z : List Int) (n k : Nat) (h : k < n) : flagsAt Z n k = flagT (toksAt Z k) ++ flagsAt Z n (k + 1) := by
  unfold flagsAt
  rw [show n - k = (n - (k + 1)) + 1 by omega, List.range'_succ, List.flatMap_cons]
theorem flagsAt_end (Z : List Int) (n : Nat) : flagsAt Z n n = [] := by unfold flagsAt; simp
section
variable {σ : Type}
/-- who eats tokens, until an error -/
def eatGo (step : σ → Tok → Bool → Int × σ) : List (Tok × Bool) → σ → Int × σ
  | [], s => (0, s)
  | (t, b) :: r, s => if (step s t b).1 ≠ 0 then step s t b else eatGo step r (step s t b).2
def eachZ (step : σ → Tok → Bool → Int × σ) (n : Nat) (Z : List Int) (s : σ) : Int × σ :=
  if 400 < n then (2, s) else if allIn Z (-2047) 2047 = false then (1, s) else eatGo step (flagsAt Z n 0) s
theorem eatGo_err {step : σ → Tok → Bool → Int × σ} {t : Tok} {b : Bool} {r : List (Tok × Bool)} {s : σ} (h : (step s t b).1 ≠ 0) : eatGo step ((t, b) :: r) s = step s t b := by unfold eatGo; rw [if_pos h]
theorem eatGo_ok {step : σ → Tok → Bool → Int × σ} {t : Tok} {b : Bool} {r : List (Tok × Bool)} {s : σ} (h : (step s t b).1 = 0) : eatGo step ((t, b) :: r) s = eatGo step r (step s t b).2 := by rw [eatGo, if_neg (by simp [h])]
end
theorem blkAt_len (Z : List Int) (n k : Nat) (hz : Z.length = n * 64) (h : k < n) : (blkAt Z k).length = 64 := by
  unfold blkAt
  rw [List.length_take, List.length_drop]
  omega
theorem blkAt_mem {Z : List Int} {k : Nat} {x : Int} (h : x ∈ blkAt Z k) : x ∈ Z := List.mem_of_mem_drop (List.mem_of_mem_take h)
theorem blkAt_in (Z : List Int) (n : Nat) (hz : Z.length = n * 64) : allIn Z (-2047) 2047 = true ↔ ∀ k, k < n → allIn (blkAt Z k) (-2047) 2047 = true := by
  constructor
  · intro h k _
    rw [allIn_iff] at h ⊢
    exact fun x hx => h x (blkAt_mem hx)
  · intro h
    rw [allIn_iff]
    intro x hx
    obtain ⟨i, hi, rfl⟩ := List.getElem_of_mem hx
    have h1 := allIn_iff.1 (h (i / 64) (by omega))
    have h2 : (blkAt Z (i / 64))[i % 64]? = some Z[i] := by
      unfold blkAt
      rw [List.getElem?_take_of_lt (by omega), List.getElem?_drop, show i / 64 * 64 + i % 64 = i by omega, List.getElem?_eq_getElem hi]
    exact h1 _ (List.mem_of_getElem? h2)
end Go.Proofs.YtgmddhljgfbibaaDoor
/- append onto a row of the call's own. -/
namespace Go.Proofs.YtgmddhljgfbibaaDoor
set_option linter.unusedVariables false
set_option linter.unusedSimpArgs false
open Go.RowKit
section
variable {P : Program} (w : World)
theorem run_append_of_nil (base : Nat) (t ty e : TypeId) (i : TypeInfo) (size : Nat) (ht : P.underlying t = some (.slice e)) (hi : P.info? e = some i)
    (v : Value) (n : Nat) (xs : List Value) (hown : w.ownsRow base e size v n xs) (c : Nat) : (Builtin.append_ #[t, t] ty #[v, .slice none 0 c]).run P w = .ok v w := by
  rcases hown.2 with ⟨rfl, rfl⟩ | ⟨g, cap, cur, rfl, _, _, hnc, _⟩
  · simp [Builtin.append_, run_underlying ht, sizeOf, typeInfo, hi, Builtin.lenOf, Builtin.firstCells]
  · simp [Builtin.append_, run_underlying ht, sizeOf, typeInfo, hi, Builtin.lenOf, Builtin.firstCells, hnc, storeCells]
theorem run_append_sl (base : Nat) (t ty e : TypeId) (i : TypeInfo) (z : Value) (size bytes : Nat) (ht : P.underlying t = some (.slice e)) (hi : P.info? e = some i) (hz : i.zero = some z)
    (hsize : i.size = size) (hby : i.bytes = bytes) (hzs : z.cells.size = size) (hsz : 0 < size)
    (v : Value) (n : Nat) (xs : List Value) (hown : w.ownsRow base e size v n xs)
    (x : Value) (m : Nat) (news : List Value) (hr : SL w size x m news) (h1 : ∀ u ∈ news, u.oneCell' = true)
    (h63 : n + m ≤ maxLen) (hbytes : (n + m) * bytes ≤ 140737488355328) (hbase : base ≤ w.heap.size) :
    ∃ v' w', (Builtin.append_ #[t, t] ty #[v, x]).run P w = .ok v' w' ∧ w'.ownsRow base e size v' (n + m) (xs ++ news) ∧ w.grownBy w' v.ownBlock ∧
      (v'.ownBlock = v.ownBlock ∨ v'.ownBlock = some w.heap.size) := by
  obtain ⟨A, c, rfl, -, -, hl, hc⟩ := hr
  rcases A with _ | ad
  · have hm : m = 0 := by
      rcases Nat.eq_zero_or_pos m with h0 | h0
      · exact h0
      · obtain ⟨ad, h, _⟩ := hc h0
        cases h
    subst hm
    have hn : news = [] := List.eq_nil_of_length_eq_zero (by simpa using hl)
    subst hn
    exact ⟨v, w, run_append_of_nil w base t ty e i size ht hi v n xs hown c, by simpa using hown, World.grownBy.refl w _, .inl rfl⟩
  · have hcells : ∀ j u, news[j]? = some u → w.cell? (ad.add j) = some u := by
      intro j u hu
      rcases Nat.eq_zero_or_pos m with h0 | h0
      · subst h0
        have hn : news = [] := List.eq_nil_of_length_eq_zero (by simpa using hl)
        subst hn
        simp at hu
      · obtain ⟨ad', h, _, hcc⟩ := hc h0
        injection h with h
        subst h
        exact hcc j u hu
    obtain ⟨v', w', hrun, h2, h3, _, h5⟩ := run_append_own_at (P := P) w base t ty e i z size bytes ht hi hz hsize hby hzs hsz v n xs hown ad m c news hl hcells h1 h63 hbytes hbase
    exact ⟨v', w', hrun, h2, h3, h5⟩
theorem wp_append_sl {o : Oper} {a : Act} {K : Act → World → Prop} {Q : Exit → Act → World → Prop} (s x : Operand) (t : TypeId)
    (ho : o.op = .call { callee := .builtin .append, args := #[s, x], argTypes := #[t, t] })
    (base : Nat) (e : TypeId) (i : TypeInfo) (z : Value) (size bytes : Nat) (ht : P.underlying t = some (.slice e)) (hi : P.info? e = some i) (hz : i.zero = some z)
    (hsize : i.size = size) (hby : i.bytes = bytes) (hzs : z.cells.size = size) (hsz : 0 < size)
    (v : Value) (n : Nat) (xs : List Value) (hs : a.eval s = v) (hown : w.ownsRow base e size v n xs)
    (u : Value) (m : Nat) (news : List Value) (hx : a.eval x = u) (hr : SL w size u m news) (h1 : ∀ u ∈ news, u.oneCell' = true)
    (h63 : n + m ≤ maxLen) (hbytes : (n + m) * bytes ≤ 140737488355328) (hbase : base ≤ w.heap.size)
    (h : ∀ v' w', w'.ownsRow base e size v' (n + m) (xs ++ news) → w.grownBy w' v.ownBlock → (v'.ownBlock = v.ownBlock ∨ v'.ownBlock = some w.heap.size) → K (a.put o.dst v') w') : o.wp P a w K Q := by
  obtain ⟨v', w', hrun, h2, h3, h4⟩ := run_append_sl (P := P) w base t o.type e i z size bytes ht hi hz hsize hby hzs hsz v n xs hown u m news hr h1 h63 hbytes hbase
  unfold Oper.wp execOp
  simp only [ho, resolve, invoke, builtin, Sem.run_bind, Sem.run_pure, Result.andThen_ok, List.map_toArray, List.map_cons, List.map_nil, hs, hx, hrun]
  exact h v' w' h2 h3 h4
/-- the words of one element type, said once -/
structure Elt (P : Program) (t e : TypeId) (size bytes : Nat) : Prop where
  ht : P.underlying t = some (.slice e)
  hi : (P.info? e).map (fun i => (i.zero.map fun z => z.cells.size, i.size, i.bytes)) = some (some size, size, bytes)
  hsz : 0 < size
variable {w}
theorem wpList_append_sl {ops : Array Oper} {rest : List Oper} {o : Oper} {a : Act} {Q : Exit → Act → World → Prop} {t e : TypeId} {size bytes : Nat} (he : Elt P t e size bytes) (hgd : o.guard = none) (s x : Operand)
    (ho : o.op = .call { callee := .builtin .append, args := #[s, x], argTypes := #[t, t] })
    (base : Nat) (v : Value) (n : Nat) (xs : List Value) (hs : a.eval s = v) (hown : w.ownsRow base e size v n xs)
    (u : Value) (m : Nat) (news : List Value) (hx : a.eval x = u) (hr : SL w size u m news) (h1 : ∀ u ∈ news, u.oneCell' = true)
    (h63 : n + m ≤ 9223372036854775807) (hbytes : (n + m) * bytes ≤ 140737488355328) (hbase : base ≤ w.heap.size)
    (h : ∀ v' w', w'.ownsRow base e size v' (n + m) (xs ++ news) → Below base w w' → wpList P ops Q rest (a.put o.dst v') w') : wpList P ops Q (o :: rest) a w := by
  obtain ⟨ht, hi, hsz⟩ := he
  cases hq : P.info? e with
  | none => simp [hq] at hi
  | some i =>
    cases hzq : i.zero with
    | none => simp [hq, hzq] at hi
    | some z =>
      have hi' : z.cells.size = size ∧ i.size = size ∧ i.bytes = bytes := by simpa [hq, hzq] using hi
      refine wpList_plain hgd fun _ hK => wp_append_sl w s x t ho base e i z size bytes ht hq hzq hi'.2.1 hi'.2.2 hi'.1 hsz v n xs hs hown u m news hx hr h1 (by unfold maxLen; omega) hbytes hbase fun v' w' h2 h3 h4 => hK _ _ (h v' w' h2 ?_)
      exact (Below.refl base w).grown h3 hbase (fun k hk => ((hown.lt k hk).1))
theorem wpList_append_slr {ops : Array Oper} {rest : List Oper} {o : Oper} {a : Act} {Q : Exit → Act → World → Prop} {t e : TypeId} {size bytes : Nat} (he : Elt P t e size bytes) (hgd : o.guard = none) (s x : Operand)
    (ho : o.op = .call { callee := .builtin .append, args := #[s, x], argTypes := #[t, t] })
    (base : Nat) (v : Value) (n : Nat) (xs : List Value) (hs : a.eval s = v) (hown : w.ownsRow base e size v n xs)
    (u : Value) (m : Nat) (news : List Value) (hx : a.eval x = u) (hr : SL w size u m news) (h1 : ∀ u ∈ news, u.oneCell' = true)
    (h63 : n + m ≤ 9223372036854775807) (hbytes : (n + m) * bytes ≤ 140737488355328) (hbase : base ≤ w.heap.size)
    (h : ∀ v' w', w'.ownsRow base e size v' (n + m) (xs ++ news) → w.grownBy w' v.ownBlock → (v'.ownBlock = v.ownBlock ∨ v'.ownBlock = some w.heap.size) → wpList P ops Q rest (a.put o.dst v') w') : wpList P ops Q (o :: rest) a w := by
  obtain ⟨ht, hi, hsz⟩ := he
  cases hq : P.info? e with
  | none => simp [hq] at hi
  | some i =>
    cases hzq : i.zero with
    | none => simp [hq, hzq] at hi
    | some z =>
      have hi' : z.cells.size = size ∧ i.size = size ∧ i.bytes = bytes := by simpa [hq, hzq] using hi
      refine wpList_plain hgd fun _ hK => wp_append_sl w s x t ho base e i z size bytes ht hq hzq hi'.2.1 hi'.2.2 hi'.1 hsz v n xs hs hown u m news hx hr h1 (by unfold maxLen; omega) hbytes hbase fun v' w' h2 h3 h4 => hK _ _ (h v' w' h2 h3 h4)
/-- the new slice's form written out -/
theorem wpList_append_slf {ops : Array Oper} {rest : List Oper} {o : Oper} {a : Act} {Q : Exit → Act → World → Prop} {t e : TypeId} {size bytes : Nat} (he : Elt P t e size bytes) (hgd : o.guard = none) (s x : Operand)
    (ho : o.op = .call { callee := .builtin .append, args := #[s, x], argTypes := #[t, t] })
    (base : Nat) (v : Value) (n : Nat) (xs : List Value) (hs : a.eval s = v) (hown : w.ownsRow base e size v n xs)
    (u : Value) (m : Nat) (news : List Value) (hx : a.eval x = u) (hr : SL w size u m news) (h1 : ∀ u ∈ news, u.oneCell' = true)
    (h63 : n + m ≤ 9223372036854775807) (hbytes : (n + m) * bytes ≤ 140737488355328) (hbase : base ≤ w.heap.size)
    (h : ∀ A c w', w'.ownsRow base e size (.slice A (n + m) c) (n + m) (xs ++ news) → w.grownBy w' v.ownBlock → (A.map (·.block) = v.ownBlock ∨ A.map (·.block) = some w.heap.size) → wpList P ops Q rest (a.put o.dst (.slice A (n + m) c)) w') : wpList P ops Q (o :: rest) a w :=
  wpList_append_slr he hgd s x ho base v n xs hs hown u m news hx hr h1 h63 hbytes hbase fun v' w' h2 h3 h4 => by
    have h2' := h2.2
    rcases h2' with ⟨rfl, h0⟩ | ⟨g, cap, cur, rfl, _⟩
    · have hz : n + m = 0 ∨ ¬ n + m = 0 := by omega
      have hl := h2.1
      rw [h0] at hl
      have h5 : n + m = 0 := by
        have := he.hsz
        rcases Nat.eq_zero_or_pos (n + m) with h6 | h6
        · exact h6
        · have := Nat.mul_pos h6 this
          simp at hl
          omega
      have key := h none 0 w'
      rw [h5] at key
      rw [h5] at h2
      exact key h2 h3 (by simpa [Value.ownBlock] using h4)
    · exact h _ _ w' h2 h3 (by simpa [Value.ownBlock] using h4)
end
/-- a row of the call's own, read as a slice -/
theorem own_sl {w : World} {base : Nat} {e : TypeId} {size n : Nat} {v : Value} {xs : List Value} (h : w.ownsRow base e size v n xs) : SL w size v n xs := by
  obtain ⟨hl, hh⟩ := h
  rcases hh with ⟨rfl, rfl⟩ | ⟨g, cap, cur, rfl, hb, hg, hn, hm, hc, hx⟩
  · have : xs = [] := List.eq_nil_of_length_eq_zero (by simpa using hl)
    subst this
    exact SL.nil w size
  · refine ⟨_, _, rfl, hn, by unfold maxLen at hm; omega, hl, fun _ => ⟨_, rfl, Blk.lt (w := w) (t := e) (cs := cur) hg, fun j u hu => ?_⟩⟩
    have hj : j < xs.length := (List.getElem?_eq_some_iff.1 hu).1
    have e1 : (⟨g, 0, none⟩ : Addr).add j = ⟨g, j, none⟩ := by
      unfold Addr.add
      by_cases h0 : j = 0
      · subst h0; rfl
      · rw [if_neg h0]; simp
    rw [e1, cell_of_row w g j cur e (0, 0) hg, ← hu, ← hx, List.getElem?_take_of_lt (by omega)]
    simp
theorem own_snoc {w : World} {base : Nat} {e : TypeId} {v : Value} {L : List Int} {z : Int} (h : w.ownsRow base e 1 v (L.length + 1) (ints L ++ [.int .i64 z])) : w.ownsRow base e 1 v (L ++ [z]).length (ints (L ++ [z])) := by
  simpa [ints] using h
theorem Ext.trans' {a w w' : World} (h : Ext a w) (k : Below a.heap.size w w') : Ext a w' := Below.trans h k
theorem int_one (z : Int) : ∀ u ∈ [Value.int .i64 z], u.oneCell' = true := by
  intro u hu
  simp at hu
  subst hu
  rfl
/-- the one cell that 'append(out, x)' lays first -/
theorem one_sl (w : World) (T : TypeId) (v : Value) : SL (w.alloc (.cells #[v] T)) 1 (.slice (some ⟨w.heap.size, 0, none⟩) 1 1) 1 [v] := by
  have := (Blk.new w T #[v]).sl (size := 1) (n := 1) (c := 1) rfl (by omega) (by omega)
  simpa using this
theorem own_form {w : World} {base : Nat} {e : TypeId} {size n : Nat} {v : Value} {xs : List Value} (h : w.ownsRow base e size v n xs) : ∃ A c, v = .slice A n c ∧ SL w size (.slice A n c) n xs ∧ ∀ ad, A = some ad → base ≤ ad.block := by
  have hs := own_sl h
  obtain ⟨hl, hh⟩ := h
  rcases hh with ⟨rfl, rfl⟩ | ⟨g, cap, cur, rfl, hb, hg, hn, hm, hc, hx⟩
  · exact ⟨none, 0, rfl, hs, by intro ad h; cases h⟩
  · exact ⟨some ⟨g, 0, none⟩, cap, rfl, hs, by intro ad h; injection h with h; subst h; exact hb⟩
theorem SL.far {w : World} {size n c : Nat} {A : Option Addr} {xs : List Value} (h : SL w size (.slice A n c) n xs) {p : Addr} (hne : ∀ ad, A = some ad → ad.block ≠ p.block) (u : Value) : SL (w.setCell p u) size (.slice A n c) n xs := by
  obtain ⟨A', c', e, h1, h1', h2, h3⟩ := h
  injection e with e1 e2 e3
  subst e1 e3
  refine ⟨A, c, rfl, h1, h1', h2, fun hn => ?_⟩
  obtain ⟨ad, ea, hlt, hc⟩ := h3 hn
  exact ⟨ad, ea, by simpa [World.setCell] using hlt, fun j u' hu => (World.cell?_setCell_other w p (ad.add j) u (fun e => hne ad ea (by rw [e, block_of_add]))).trans (hc j u' hu)⟩
end Go.Proofs.YtgmddhljgfbibaaDoor
/- size.Back, SizeBack of the reference. -/
namespace Go.Proofs.YtgmddhljgfbibaaDoor
set_option linter.unusedVariables false
set_option linter.unusedSimpArgs false
open Go.RowKit
/-- what Back answers -/
def backZ (k : Nat) (v : Int) : Int := if 0 < k ∧ v < 2 ^ (k - 1) then v - (2 ^ k - 1) else v
theorem backZ_hi (k : Nat) (v : Int) (hk : k ≤ 12) (h0 : 0 ≤ v) (h1 : v < 2 ^ k) (h : k = 0 ∨ 2 ^ (k - 1) ≤ v) : bitsZ v = ((k : Int), v, 0) ∧ backZ k v = v := by
  have p1 := pow_le k 12 hk
  rw [show (2 : Int) ^ 12 = 4096 from by decide] at p1
  have e : k = szN v := by
    refine szN_uniq v (by omega) (by omega) k ?_ ?_
    · have : (v.natAbs : Int) < 2 ^ k := by omega
      exact_mod_cast this
    · intro j hj
      have h2 : (2 : Int) ^ j ≤ 2 ^ (k - 1) := pow_le j (k - 1) (by omega)
      have : (2 : Int) ^ j ≤ (v.natAbs : Int) := by rcases h with h | h <;> omega
      exact_mod_cast this
  refine ⟨?_, ?_⟩
  · unfold bitsZ; rw [if_pos (by omega), if_neg (by omega), ← e]
  · unfold backZ; rw [if_neg (by omega)]
theorem backZ_lo (k : Nat) (v : Int) (hk : k ≤ 12) (h0 : 0 ≤ v) (hk0 : 0 < k) (h : v < 2 ^ (k - 1)) :
    (∃ s : Nat, s ≠ k ∧ bitsZ v = ((s : Int), v, 0)) ∧ bitsZ (v - 2 ^ k + 1) = ((k : Int), v, 0) ∧ backZ k v = v - (2 ^ k - 1) := by
  have p1 := pow_le k 12 hk
  rw [show (2 : Int) ^ 12 = 4096 from by decide] at p1
  have p2 : (2 : Int) ^ k = 2 * 2 ^ (k - 1) := by
    obtain ⟨j, rfl⟩ : ∃ j, k = j + 1 := ⟨k - 1, by omega⟩
    rw [Int.pow_succ]; simp; omega
  have p3 := pow_pos' (k - 1)
  refine ⟨⟨szN v, ?_, ?_⟩, ?_, ?_⟩
  · intro e
    obtain ⟨-, -, g3⟩ := szN_spec v (by omega) (by omega)
    by_cases hv : v = 0
    · subst hv
      have : szN 0 = 0 := by decide
      omega
    · have := (g3 hv).2
      rw [e] at this
      have : (2 : Int) ^ (k - 1) ≤ (v.natAbs : Int) := by exact_mod_cast this
      omega
  · unfold bitsZ; rw [if_pos (by omega), if_neg (by omega)]
  · have e : k = szN (v - 2 ^ k + 1) := by
      refine szN_uniq _ (by omega) (by omega) k ?_ ?_
      · have : ((v - 2 ^ k + 1).natAbs : Int) < 2 ^ k := by omega
        exact_mod_cast this
      · intro j hj
        have h2 : (2 : Int) ^ j ≤ 2 ^ (k - 1) := pow_le j (k - 1) (by omega)
        have : (2 : Int) ^ j ≤ ((v - 2 ^ k + 1).natAbs : Int) := by omega
        exact_mod_cast this
    unfold bitsZ
    rw [if_pos (by omega), if_pos (by omega), ← e]
    simp; omega
  · unfold backZ; rw [if_pos ⟨hk0, h⟩]
set_option maxHeartbeats 400000 in
theorem back_in (k : Nat) (v : Nat) (w : World) (hk : k ≤ 12) (h1 : (v : Int) < 2 ^ k) : Calls Tryd.prog 63 #[.int .i64 k, .int .i64 v] w fun e w' => e = .returned (.tuple #[.int .i64 (backZ k v), .int .i64 0]) ∧ w = w' := by
  have p1 := pow_le k 12 hk
  rw [show (2 : Int) ^ 12 = 4096 from by decide] at p1
  have p2 := pow_pos' k
  by_cases h0 : k = 0
  · subst h0
    have : v = 0 := by simp at h1; omega
    subst this
    go_enter Tryd.func63, Tryd.ntmps63
    go_wp2_with fail
    go_ret2
    exact ⟨rfl, rfl⟩
  · obtain ⟨j, rfl⟩ : ∃ j, k = j + 1 := ⟨k - 1, by omega⟩
    by_cases hv : (v : Int) < 2 ^ j
    · have hq : ((v : Int) / 2 ^ j == 0) = true := by rw [Int.ediv_eq_zero_of_lt (by omega) hv]; rfl
      have HF := hid_ (show backZ (j + 1) v = v - (2 ^ (j + 1) - 1) by unfold backZ; rw [if_pos ⟨by omega, hv⟩])
      clear hv
      go_enter Tryd.func63, Tryd.ntmps63
      go_wp2_with fail
      go_ret2
      exact ⟨by rw [HF.out]; rfl, rfl⟩
    · have hq : ((v : Int) / 2 ^ j == 0) = false := by
        have p3 := pow_pos' j
        have : (1 : Int) ≤ v / 2 ^ j := (Int.le_ediv_iff_mul_le (by omega)).2 (by omega)
        simp; omega
      have HF := hid_ (show backZ (j + 1) v = v by unfold backZ; rw [if_neg (by simp; omega)])
      clear hv
      go_enter Tryd.func63, Tryd.ntmps63
      go_wp2_with fail
      go_ret2
      exact ⟨by rw [HF.out]; rfl, rfl⟩
theorem back_out (n v : Int) (w : World) (h : n < 0 ∨ (¬ n < 0 ∧ 12 < n) ∨ (0 ≤ n ∧ n ≤ 12 ∧ v < 0) ∨ (0 ≤ n ∧ n ≤ 12 ∧ 0 ≤ v ∧ 2 ^ n.toNat ≤ v)) : Calls Tryd.prog 63 #[.int .i64 n, .int .i64 v] w fun e w' => e = .returned (.tuple #[.int .i64 0, .int .i64 1]) ∧ w = w' := by
  rcases h with h | ⟨h1, h⟩ | ⟨h1, h2, h⟩ | ⟨h1, h2, h3, h⟩
  · go_enter Tryd.func63, Tryd.ntmps63
    go_wp2_with fail
    go_ret2
    exact ⟨rfl, rfl⟩
  · go_enter Tryd.func63, Tryd.ntmps63
    go_wp2_with fail
    go_ret2
    exact ⟨rfl, rfl⟩
  · go_enter Tryd.func63, Tryd.ntmps63
    go_wp2_with fail
    go_ret2
    exact ⟨rfl, rfl⟩
  · obtain ⟨k, rfl⟩ : ∃ k : Nat, n = k := ⟨n.toNat, by omega⟩
    have hk : k ≤ 12 := by omega
    rw [Int.toNat_natCast] at h
    have p1 := pow_le k 12 hk
    rw [show (2 : Int) ^ 12 = 4096 from by decide] at p1
    have p2 := pow_pos' k
    go_enter Tryd.func63, Tryd.ntmps63
    go_wp2_with fail
    go_ret2
    exact ⟨rfl, rfl⟩
/-- what Back answers, at all arguments -/
def backR (n v : Int) : Int × Int := if 0 ≤ n ∧ n ≤ 12 ∧ 0 ≤ v ∧ v < 2 ^ n.toNat then (backZ n.toNat v, 0) else (0, 1)
theorem back_any (n v : Int) (w : World) : Calls Tryd.prog 63 #[.int .i64 n, .int .i64 v] w fun e w' => e = .returned (.tuple #[.int .i64 (backR n v).1, .int .i64 (backR n v).2]) ∧ w = w' := by
  unfold backR
  by_cases h : 0 ≤ n ∧ n ≤ 12 ∧ 0 ≤ v ∧ v < 2 ^ n.toNat
  · rw [if_pos h]
    obtain ⟨h1, h2, h3, h4⟩ := h
    obtain ⟨k, rfl⟩ : ∃ k : Nat, n = k := ⟨n.toNat, by omega⟩
    obtain ⟨v, rfl⟩ : ∃ k : Nat, v = k := ⟨v.toNat, by omega⟩
    rw [Int.toNat_natCast] at h4 ⊢
    exact back_in k v w (by omega) h4
  · rw [if_neg h]
    exact back_out n v w (by omega)
set_option maxHeartbeats 400000 in
theorem rback_in (k : Nat) (v : Int) (w : World) (hk : k ≤ 12) (h0 : 0 ≤ v) (h1 : v < 2 ^ k) : Calls Tryd.prog 68 #[.int .i64 k, .int .i64 v] w fun e w' => e = .returned (.tuple #[.int .i64 (backZ k v), .int .i64 0]) ∧ Ext w w' := by
  have p1 := pow_le k 12 hk
  rw [show (2 : Int) ^ 12 = 4096 from by decide] at p1
  have p2 := pow_pos' k
  have b1 : inB (k : Int) 0 12 = true := inB_iff.2 (by omega)
  have b2 : inB v 0 (2 ^ k - 1) = true := inB_iff.2 (by omega)
  have HP := hid_ (fun W => power_any k W (by omega))
  have HO1 := hid_ (fun W => outside_any (k : Int) 0 12 W)
  have HO2 := hid_ (fun W => outside_any v 0 (2 ^ k - 1) W)
  have HB1 := hid_ (fun W => rsizeBits_any v W)
  have HB2 := hid_ (fun W => rsizeBits_any (v - 2 ^ k + 1) W)
  rw [b1] at HO1
  rw [b2] at HO2
  clear b1 b2
  by_cases hc : k = 0 ∨ 2 ^ (k - 1) ≤ v
  · obtain ⟨e1, e2⟩ := backZ_hi k v hk h0 h1 hc
    have HF := hid_ e2
    rw [e1] at HB1
    have ek : ((k : Int) == k) = true := by simp
    have ev : (v == v) = true := by simp
    clear e1 e2 hc
    go_enter Tryd.func68, Tryd.ntmps68
    go_wp2_with (first
      | (go_at_call 41; (with_reducible refine (HO1.out _).mono ?_); rintro e w' ⟨rfl, rfl⟩)
      | (go_at_call 41; (with_reducible refine (HO2.out _).mono ?_); rintro e w' ⟨rfl, rfl⟩)
      | (go_at_call 84; (with_reducible refine (HP.out _).mono ?_); rintro e w' ⟨rfl, rfl⟩))
    have hn := Blk.new w 3 #[.int .i64 v, .int .i64 (v - 2 ^ k + 1)]
    have hc0 := hn.cell 0
    have hc1 := hn.cell 1
    simp only [show (#[Value.int .i64 v, .int .i64 (v - 2 ^ k + 1)] : Array Value)[0]? = some (.int .i64 v) from rfl] at hc0
    simp only [show (#[Value.int .i64 v, .int .i64 (v - 2 ^ k + 1)] : Array Value)[1]? = some (.int .i64 (v - 2 ^ k + 1)) from rfl] at hc1
    have hx := (Ext.refl w).alloc (.cells #[.int .i64 v, .int .i64 (v - 2 ^ k + 1)] 3)
    clear hn
    generalize w.alloc (.cells #[.int .i64 v, .int .i64 (v - 2 ^ k + 1)] 3) = w1 at *
    go_loop [28] (fun i => i = .int .i64 0) (fun _ => 1)
    case atStart => rfl
    case round =>
      subst hrel
      go_wp2_with (go_at_call 83; (with_reducible refine (HB1.out _).mono ?_); rintro e w' ⟨rfl, rfl⟩)
      go_ret2
      exact ⟨by rw [HF.out]; rfl, hx⟩
  · obtain ⟨⟨s, hs, e0⟩, e1, e2⟩ := backZ_lo k v hk h0 (by omega) (by omega)
    have HF := hid_ (e2.trans (show v - (2 ^ k - 1) = v - 2 ^ k + 1 by omega))
    rw [e0] at HB1
    rw [e1] at HB2
    have ek : ((k : Int) == k) = true := by simp
    have ev : (v == v) = true := by simp
    have es : ((s : Int) == k) = false := by simp; omega
    clear e1 e2 hc e0 hs
    go_enter Tryd.func68, Tryd.ntmps68
    go_wp2_with (first
      | (go_at_call 41; (with_reducible refine (HO1.out _).mono ?_); rintro e w' ⟨rfl, rfl⟩)
      | (go_at_call 41; (with_reducible refine (HO2.out _).mono ?_); rintro e w' ⟨rfl, rfl⟩)
      | (go_at_call 84; (with_reducible refine (HP.out _).mono ?_); rintro e w' ⟨rfl, rfl⟩))
    have hn := Blk.new w 3 #[.int .i64 v, .int .i64 (v - 2 ^ k + 1)]
    have hc0 := hn.cell 0
    have hc1 := hn.cell 1
    simp only [show (#[Value.int .i64 v, .int .i64 (v - 2 ^ k + 1)] : Array Value)[0]? = some (.int .i64 v) from rfl] at hc0
    simp only [show (#[Value.int .i64 v, .int .i64 (v - 2 ^ k + 1)] : Array Value)[1]? = some (.int .i64 (v - 2 ^ k + 1)) from rfl] at hc1
    have hx := (Ext.refl w).alloc (.cells #[.int .i64 v, .int .i64 (v - 2 ^ k + 1)] 3)
    clear hn
    generalize w.alloc (.cells #[.int .i64 v, .int .i64 (v - 2 ^ k + 1)] 3) = w1 at *
    go_loop [28] (fun i => ∃ j : Nat, j ≤ 1 ∧ i = .int .i64 j) (fun i => 2 - (intOf i).toNat)
    case atStart => exact ⟨0, by omega, rfl⟩
    case round =>
      obtain ⟨j, hj, rfl⟩ := hrel
      by_cases hj0 : j = 0
      · subst hj0
        go_wp2_with (go_at_call 83; (with_reducible refine (HB1.out _).mono ?_); rintro e w' ⟨rfl, rfl⟩)
        go_round
        case rel => exact ⟨1, by omega, rfl⟩
        case measure => simp [intOf]
      · obtain rfl : j = 1 := by omega
        go_wp2_with (go_at_call 83; (with_reducible refine (HB2.out _).mono ?_); rintro e w' ⟨rfl, rfl⟩)
        go_ret2
        exact ⟨by rw [HF.out]; rfl, hx⟩
theorem rback_any (n v : Int) (w : World) : Calls Tryd.prog 68 #[.int .i64 n, .int .i64 v] w fun e w' => e = .returned (.tuple #[.int .i64 (backR n v).1, .int .i64 (backR n v).2]) ∧ Ext w w' := by
  unfold backR
  by_cases h : 0 ≤ n ∧ n ≤ 12 ∧ 0 ≤ v ∧ v < 2 ^ n.toNat
  · rw [if_pos h]
    obtain ⟨h1, h2, h3, h4⟩ := h
    obtain ⟨k, rfl⟩ : ∃ k : Nat, n = k := ⟨n.toNat, by omega⟩
    rw [Int.toNat_natCast] at h4 ⊢
    exact rback_in k v w (by omega) h3 h4
  · rw [if_neg h]
    have HO1 := hid_ (fun W => outside_any n 0 12 W)
    cases hq : inB n 0 12 with
    | false =>
      rw [hq] at HO1
      clear h hq
      go_enter Tryd.func68, Tryd.ntmps68
      go_wp2_with (go_at_call 41; (with_reducible refine (HO1.out _).mono ?_); rintro e w' ⟨rfl, rfl⟩)
      go_ret2
      exact ⟨rfl, Ext.refl w⟩
    | true =>
      rw [hq] at HO1
      have hin := inB_iff.1 hq
      obtain ⟨k, rfl⟩ : ∃ k : Nat, n = k := ⟨n.toNat, by omega⟩
      have p1 := pow_le k 12 (by omega)
      rw [show (2 : Int) ^ 12 = 4096 from by decide] at p1
      have p2 := pow_pos' k
      rw [Int.toNat_natCast] at h
      have HP := hid_ (fun W => power_any k W (by omega))
      have HO2 := hid_ (fun W => outside_any v 0 (2 ^ k - 1) W)
      rw [inB_not.2 (by omega)] at HO2
      clear h hq
      go_enter Tryd.func68, Tryd.ntmps68
      go_wp2_with (first
        | (go_at_call 41; (with_reducible refine (HO1.out _).mono ?_); rintro e w' ⟨rfl, rfl⟩)
        | (go_at_call 41; (with_reducible refine (HO2.out _).mono ?_); rintro e w' ⟨rfl, rfl⟩)
        | (go_at_call 84; (with_reducible refine (HP.out _).mono ?_); rintro e w' ⟨rfl, rfl⟩))
      go_ret2
      exact ⟨rfl, Ext.refl w⟩
end Go.Proofs.YtgmddhljgfbibaaDoor
