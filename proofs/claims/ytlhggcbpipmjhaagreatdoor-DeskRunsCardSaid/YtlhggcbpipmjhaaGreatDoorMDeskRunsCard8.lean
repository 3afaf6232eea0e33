/- Contracts for the law DeskRunsCard, part 8: what the functions that it reaches answer, for all arguments that the theorems name. -/
import Derived.Test.YtlhggcbpipmjhaaGreatDoorMDeskRunsCard1
import Derived.Test.YtlhggcbpipmjhaaGreatDoorMDeskRunsCard7
namespace Go.Proofs.YtlhggcbpipmjhaaGreatDoor
set_option linter.unusedVariables false
set_option linter.unusedSimpArgs false
open Go.RowKit
theorem round_pos (n d : Int) (w : World) (h0 : 0 ≤ n) (hn : n ≤ 1000000000000000000) (hd : 1 ≤ d) (hd2 : d ≤ 1000000000000000000) :
 Calls Tryz.prog 74 #[.int .i64 n, .int .i64 d] w fun e w' => e = .returned (.int .i64 (rp n d)) ∧ w = w' := by
 go_enter Tryz.func74, Tryz.ntmps74
 go_wp2_with fail
 go_ret
 exact ⟨rfl, rfl⟩
theorem round_any (n d : Int) (w : World) (hn1 : -1000000000000000000 ≤ n) (hn : n ≤ 1000000000000000000) (hd : 1 ≤ d) (hd2 : d ≤ 1000000000000000000) :
 Calls Tryz.prog 74 #[.int .i64 n, .int .i64 d] w fun e w' => e = .returned (.int .i64 (rnd n d)) ∧ w = w' := by
 by_cases h : n < 0
 ·have hb := rp_bounds (-n) d (by omega) hd
  obtain ⟨hb1, hb2⟩ := hb
  go_enter Tryz.func74, Tryz.ntmps74
  go_wp2_with (go_at_call 74; refine (round_pos _ _ _ (by omega) (by omega) hd hd2).mono ?_; rintro e w' ⟨rfl, rfl⟩)
  go_ret
  exact ⟨by simp [rnd, h], rfl⟩
 ·unfold rnd; rw [if_neg h]
  exact round_pos n d w (by omega) hn hd hd2
theorem within_any (n most : Int) (w : World) (h0 : 0 ≤ most) (h1 : most ≤ 1000000000000000000) :
 Calls Tryz.prog 68 #[.int .i64 n, .int .i64 most] w fun e w' => e = .returned (.int .i64 (clampZ n (-most) most)) ∧ w = w' := by
 have hd : n < -most ∨ (-most ≤ n ∧ n ≤ most) ∨ most < n := by omega
 rcases hd with hd | ⟨hd1, hd2⟩ | hd
 ·have e : clampZ n (-most) most = -most := by unfold clampZ; rw [if_pos hd]
  rw [e]; clear e
  go_enter Tryz.func68, Tryz.ntmps68
  go_wp2
  all_goals
   go_ret
   refine ⟨?_, rfl⟩
   first
    | rfl
    | (show Ending.returned (.int .i64 (min (max n (-most)) most)) = _; congr 2; omega)
 ·have e : clampZ n (-most) most = n := by unfold clampZ; rw [if_neg (by omega), if_neg (by omega)]
  rw [e]; clear e
  go_enter Tryz.func68, Tryz.ntmps68
  go_wp2
  all_goals
   go_ret
   refine ⟨?_, rfl⟩
   first
    | (show Ending.returned (.int .i64 (min (max n (-most)) most)) = _; congr 2; omega)
    | (congr 2; try omega)
 ·have e : clampZ n (-most) most = most := by unfold clampZ; rw [if_neg (by omega), if_pos hd]
  rw [e]; clear e
  have hd' : ¬ n < -most := by omega
  go_enter Tryz.func68, Tryz.ntmps68
  go_wp2
  all_goals
   go_ret
   refine ⟨?_, rfl⟩
   first
    | rfl
    | (show Ending.returned (.int .i64 (min (max n (-most)) most)) = _; congr 2; omega)
def wl : List Int := [4096, 4017, 3784, 3406, 2896, 2276, 1567, 799, 0, -799, -1567, -2276, -2896, -3406, -3784, -4017, -4096, -4017, -3784, -3406, -2896, -2276, -1567, -799, 0, 799, 1567, 2276, 2896, 3406, 3784, 4017]
def wv (k : Nat) : Int := wl.getD k 0
def basisZ (u x : Nat) : Int := if u = 0 then 2896 else wv (u * (2 * x + 1) % 32)
theorem wv_hi (k : Nat) (h1 : 16 < k) (h2 : k < 32) : wv (32 - k) = wv k :=
 (by decide : ∀ j : Fin 32, 16 < j.val → wv (32 - j.val) = wv j.val) ⟨k, h2⟩ h1
theorem wv_mid (k : Nat) (h1 : 8 < k) (h2 : k ≤ 16) : -wv (16 - k) = wv k :=
 (by decide : ∀ j : Fin 17, 8 < j.val → -wv (16 - j.val) = wv j.val) ⟨k, by omega⟩ h1
theorem wv_bounds (k : Nat) (h : k < 32) : -4096 ≤ wv k ∧ wv k ≤ 4096 :=
 (by decide : ∀ j : Fin 32, -4096 ≤ wv j.val ∧ wv j.val ≤ 4096) ⟨k, h⟩
theorem quarter_at : ∀ k, k ≤ 8 → (#[Value.int .i64 4096, .int .i64 4017, .int .i64 3784, .int .i64 3406, .int .i64 2896, .int .i64 2276, .int .i64 1567, .int .i64 799, .int .i64 0] : Array Value)[k]? = some (.int .i64 (wv k)) := by
 intro k hk
 have : k = 0 ∨ k = 1 ∨ k = 2 ∨ k = 3 ∨ k = 4 ∨ k = 5 ∨ k = 6 ∨ k = 7 ∨ k = 8 := by omega
 rcases this with rfl | rfl | rfl | rfl | rfl | rfl | rfl | rfl | rfl <;> rfl
theorem turn_low (k : Nat) (w : World) (hk : k ≤ 8) : Calls Tryz.prog 101 #[.int .i64 k] w fun e w' => e = .returned (.int .i64 (wv k)) ∧ Ext w w' := by
 have hq := quarter_at k hk
 go_enter Tryz.func101, Tryz.ntmps101
 go_wp2_with fail
 go_ret
 exact ⟨rfl, (Ext.refl w).alloc _⟩
theorem turn_mid (k : Nat) (w : World) (hk : k ≤ 16) : Calls Tryz.prog 101 #[.int .i64 k] w fun e w' => e = .returned (.int .i64 (wv k)) ∧ Ext w w' := by
 by_cases h8 : k ≤ 8
 ·exact turn_low k w h8
 ·have hb := wv_bounds (16 - k) (by omega)
  obtain ⟨hb1, hb2⟩ := hb
  have hm := hid_ (wv_mid k (by omega) hk)
  have hc := hid_ (fun W => turn_low (16 - k) W (by omega))
  rw [show ((16 - k : Nat) : Int) = 16 - (k : Int) by omega] at hc
  go_enter Tryz.func101, Tryz.ntmps101
  go_wp2_with fail
  refine (hc.out _).mono ?_
  rintro e w' ⟨rfl, hx⟩
  go_wp2_with fail
  go_ret
  exact ⟨by rw [← hm.out]; rfl, ((Ext.refl w).alloc _).trans hx⟩
theorem turn_any (k : Nat) (w : World) (hk : k < 32) : Calls Tryz.prog 101 #[.int .i64 k] w fun e w' => e = .returned (.int .i64 (wv k)) ∧ Ext w w' := by
 by_cases h8 : k ≤ 16
 ·exact turn_mid k w h8
 ·have hm := hid_ (wv_hi k (by omega) hk)
  have hc := hid_ (fun W => turn_mid (32 - k) W (by omega))
  rw [show ((32 - k : Nat) : Int) = 32 - (k : Int) by omega] at hc
  go_enter Tryz.func101, Tryz.ntmps101
  go_wp2_with fail
  refine (hc.out _).mono ?_
  rintro e w' ⟨rfl, hx⟩
  go_wp2_with fail
  go_ret
  exact ⟨by rw [← hm.out]; rfl, ((Ext.refl w).alloc _).trans hx⟩
theorem basis_any (u x : Nat) (w : World) (hu : u ≤ 7) (hx : x ≤ 7) : Calls Tryz.prog 70 #[.int .i64 u, .int .i64 x] w fun e w' => e = .returned (.int .i64 (basisZ u x)) ∧ Ext w w' := by
 by_cases h0 : u = 0
 ·subst h0
  go_enter Tryz.func70, Tryz.ntmps70
  go_wp2_with fail
  go_ret
  exact ⟨rfl, Ext.refl w⟩
 ·have hp : (u : Int) * (2 * x + 1) ≤ 7 * (2 * x + 1) := Int.mul_le_mul_of_nonneg_right (by omega) (by omega)
  have hp2 : 0 ≤ (u : Int) * (2 * x + 1) := Int.mul_nonneg (by omega) (by omega)
  have hm : (u : Int) * (2 * x + 1) % 32 = ((u * (2 * x + 1) % 32 : Nat) : Int) := by simp
  have hc := hid_ (fun W => turn_any (u * (2 * x + 1) % 32) W (Nat.mod_lt _ (by omega)))
  rw [← hm] at hc
  have hf : basisZ u x = wv (u * (2 * x + 1) % 32) := by unfold basisZ; rw [if_neg h0]
  have HF := hid_ hf
  have hne : ((u : Int) == 0) = false := by simpa using h0
  clear hm hf h0
  go_enter Tryz.func70, Tryz.ntmps70
  go_wp2_with fail
  refine (hc.out _).mono ?_
  rintro e w' ⟨rfl, hx⟩
  go_wp2_with fail
  go_ret
  exact ⟨by rw [HF.out]; rfl, hx⟩
def roundF (n : Int) : Int := rnd n 67108864
def waveL (C : Nat → Nat → Int) (zs : List Int) : List Int := (alongZ C (alongZ C zs)).map roundF
theorem waveL_len (C : Nat → Nat → Int) (zs : List Int) : (waveL C zs).length = 64 := by simp [waveL, alongZ_len]
theorem both1_any (z : Int) (w : World) : Calls Tryz.prog 99 (#[.int .i64 z] ++ #[]) w fun e w' => e = .returned (.bool (!inB z (-40000) 40000)) ∧ w = w' := by
 by_cases h : z < -40000
 ·have h' : decide (z < -40000) = true := by simpa using h
  have e : (!inB z (-40000) 40000) = true := by rw [inB_not.2 (.inl h)]; rfl
  rw [e]; clear e
  go_enter Tryz.func99, Tryz.ntmps99
  go_wp2_with fail
  go_ret
  exact ⟨rfl, rfl⟩
 ·have h' : decide (z < -40000) = false := by simpa using h
  have e : (!inB z (-40000) 40000) = decide (40000 < z) := by rw [Bool.eq_iff_iff, Bool.not_eq_true', inB_not]; simp; omega
  rw [e]; clear e
  go_enter Tryz.func99, Tryz.ntmps99
  go_wp2_with fail
  go_ret
  exact ⟨rfl, rfl⟩
theorem enters_both1 : Enters Tryz.prog 99 := enters_of Tryz.func99 (by kernel_rfl) rfl
set_option maxHeartbeats 800000 in
theorem wboth_in (gf : Nat) (eg : Enters Tryz.prog gf) (C : Nat → Nat → Int) (zs : List Int) (w : World) (hz : zs.length = 64) (hal : allIn zs (-40000) 40000 = true)
 (hC : ∀ i k, i < 8 → k < 8 → -4096 ≤ C i k ∧ C i k ≤ 4096)
 (hF : ∀ i k W, i < 8 → k < 8 → Calls Tryz.prog gf (#[.int .i64 (i : Nat), .int .i64 (k : Nat)] ++ #[]) W fun e w' => e = .returned (.int .i64 (C i k)) ∧ Ext W w') :
 Calls Tryz.prog 69 #[.agg (bv zs), .func (.func gf) #[] #[]] w fun e w' => e = .returned (.tuple #[.agg (bv (waveL C zs)), .int .i64 0]) ∧ Ext w w' := by
 have hzb : ∀ z ∈ zs, -40000 ≤ z ∧ z ≤ 40000 := allIn_iff.1 hal
 have hb1 := alongZ_bd C zs 40000 (by omega) hzb hC
 have hb2 := alongZ_bd C (alongZ C zs) (8 * (40000 * 4096)) (by omega) hb1 hC
 have H1 := hid_ (fun W => along_any gf eg C zs 40000 W hz (by omega) (by omega) hzb hC hF)
 have H2 := hid_ (fun W => along_any gf eg C (alongZ C zs) (8 * (40000 * 4096)) W (alongZ_len _ _) (by omega) (by omega) hb1 hC hF)
 have HSL := hid_ (fun (W : World) g (h : Blk W g 30 (bv zs)) => h.bsl (c := 64) (by omega) (by omega))
 rw [hz] at HSL
 have HCF := hid_ (fun W v (hs : SL W 1 v 64 (ints zs)) => containsFunc_any 99 #[] (fun z => !inB z (-40000) 40000) enters_both1 v zs W (by rw [hz]; exact hs) (fun z _ => both1_any z W))
 simp only [inB_any, hal] at HCF
 have HW := hid_ (show waveL C zs = (alongZ C (alongZ C zs)).map roundF from rfl)
 have hsz := hid_ ((bv_size zs).trans hz)
 have hVl := alongZ_len C (alongZ C zs)
 generalize hV : alongZ C (alongZ C zs) = V at *
 generalize alongZ C zs = U at *
 have HVB := hid_ hb2
 have HVL := hid_ hVl
 have hsv := hid_ ((bv_size V).trans hVl)
 have hov := hid_ (bv_one V)
 clear hV hb1 hb2 hzb hal hC hF eg hVl
 generalize bv zs = cz at *
 generalize bv U = cu at *
 generalize hcv : bv V = cv at *
 have HCV := hid_ hcv
 clear hcv hz
 go_enter Tryz.func69, Tryz.ntmps69
 go_wp2_with (first
  | (refine wBox rfl 30 (.tmp 0) rfl cz rfl ?_; intro w1 gz hbz1 hx1 hgz)
  | (refine wAlo' rfl (some 4) rfl 30 rfl _ zero48 ?_; intro w2 gr hbr2 hx2 hgr; have hbz2 := hbz1.ext hx2; have hsl := HSL.out _ _ hbz2)
  | (go_at_call 96; (with_reducible refine (HCF.out _ _ hsl).mono ?_); rintro e w' ⟨rfl, rfl⟩)
  | (refine wLdB rfl 30 (.tmp 2) rfl _ rfl hbz2 _ Tryz.underlying30 rfl 64 size48 hsz.out ?_)
  | (go_at_call 100; (with_reducible refine (H1.out _).mono ?_); rintro e w3 ⟨rfl, hx3⟩)
  | (go_at_call 100; (with_reducible refine (H2.out _).mono ?_); rintro e w4 ⟨rfl, hx4⟩; have hbz4 := (hbz2.ext hx3).ext hx4; have hbr4 := (hbr2.ext hx3).ext hx4)
  | (refine wStB rfl 30 (.tmp 2) (.tmp 15) rfl _ _ rfl rfl hbz4 64 size48 hsv.out hsz.out hov.out ?_; intro w5 hbz5 hg5; have hbr5 := hbr4.grown hg5 (by have := hbz1.lt; simp; omega))
  | (refine wLdB rfl 30 (.tmp 2) rfl _ rfl hbz5 _ Tryz.underlying30 rfl 64 size48 hsv.out ?_))
 have hne1 : gz ≠ gr := by have := hbz1.lt; omega
 have hxx : Ext w w5 := (((hx1.trans hx2).trans hx3).trans hx4).grown hg5 hgz
 have hw02 : w.heap.size ≤ gr := by have := hx1.size; omega
 clear hbz1 hbz2 hbz4 hbr2 hbr4 hx1 hx2 hx3 hx4 hg5 hsl
 go_loopw [17] (fun i wr => ∃ k : Nat, k ≤ 64 ∧ i = .int .i64 k ∧ Blk wr gz 30 (bv ((V.take k).map roundF ++ V.drop k)) ∧ Blk wr gr 30 (bv zeros64) ∧ Ext w wr) (fun i _ => 64 - (intOf i).toNat)
 case atStart => exact ⟨0, by omega, rfl, by rw [← HCV.out] at hbz5; simpa using hbz5, hbr5, hxx⟩
 case round =>
  obtain ⟨k, hk, rfl, hb1, hb3, hxr⟩ := hrel
  by_cases hlt : k < 64
  ·have hzl : k < V.length := by have := HVL.out; omega
   have hix := fun W => run_index48 cv k (.int .i64 V[k]) hlt (by rw [← HCV.out]; exact bv_at V k hzl) W
   obtain ⟨z1, z2⟩ := HVB.out V[k] (List.getElem_mem hzl)
   have HR : Hid (∀ W, Calls Tryz.prog 74 #[.int .i64 V[k], .int .i64 67108864] W fun e w' => e = .returned (.int .i64 (roundF V[k])) ∧ W = w') := hid_ (fun W => round_any V[k] 67108864 W (by omega) (by omega) (by omega) (by omega))
   obtain ⟨old, hold⟩ : ∃ u, wr.cell? ⟨gz, k, none⟩ = some u := by
    rw [hb1.cell k]
    have hl := mid_len roundF V k (by omega)
    exact ⟨_, bv_at _ k (by omega)⟩
   have hfr := hb1.frozen k
   clear z1 z2
   go_wp2_with (go_at_call 74; (with_reducible refine (HR.out _).mono ?_); rintro e w' ⟨rfl, rfl⟩)
   go_roundw
   case rel =>
    refine ⟨k + 1, by omega, by go_num, ?_, hb3.far (p := ⟨gz, k, none⟩) (by simpa using hne1.symm) _, hxr.setCell (by omega) _⟩
    have := hb1.set_ k (.int .i64 (roundF V[k]))
    rw [bv_set, mid_set roundF V k hzl] at this
    exact this
   case measure => simp [intOf]; omega
  ·obtain rfl : k = 64 := by omega
   have hfin : (V.take 64).map roundF ++ V.drop 64 = V.map roundF := by
    rw [List.take_of_length_le (by have := HVL.out; omega), List.drop_eq_nil_of_le (by have := HVL.out; omega), List.append_nil]
   have hlz : (bv (V.map roundF)).size = 64 := by have := HVL.out; rw [bv_size]; simp; omega
   rw [hfin] at hb1
   have hone := bv_one (V.map roundF)
   generalize hcr : bv (V.map roundF) = cr at *
   have HCR := hid_ hcr
   have hlz' := hid_ hlz
   have hone' := hid_ hone
   clear hfin hlz hone hcr
   go_wp2_with (first
    | (refine wLdB rfl 30 (.tmp 2) rfl _ rfl hb1 _ Tryz.underlying30 rfl 64 size48 hlz'.out ?_)
    | (refine wStB rfl 30 (.tmp 4) (.tmp 26) rfl _ _ rfl rfl hb3 64 size48 hlz'.out (by rw [bv_size]; rfl) hone'.out ?_; intro w7 hb7 hg7))
   refine ret_cell_tmp rfl rfl _ rfl hb7 _ Tryz.underlying30 rfl 64 size48 hlz'.out ⟨by rw [HW.out, HCR.out]; rfl, hxr.grown hg7 hw02⟩
set_option maxHeartbeats 400000 in
theorem wboth_out (gf : Nat) (zs : List Int) (w : World) (hz : zs.length = 64) (hal : allIn zs (-40000) 40000 = false) :
 Calls Tryz.prog 69 #[.agg (bv zs), .func (.func gf) #[] #[]] w fun e w' => e = .returned (.tuple #[.agg (bv zeros64), .int .i64 1]) ∧ Ext w w' := by
 have HSL := hid_ (fun (W : World) g (h : Blk W g 30 (bv zs)) => h.bsl (c := 64) (by omega) (by omega))
 rw [hz] at HSL
 have HCF := hid_ (fun W v (hs : SL W 1 v 64 (ints zs)) => containsFunc_any 99 #[] (fun z => !inB z (-40000) 40000) enters_both1 v zs W (by rw [hz]; exact hs) (fun z _ => both1_any z W))
 simp only [inB_any, hal] at HCF
 have hs0 : Hid ((bv zeros64).size = 64) := hid_ (by rw [bv_size]; rfl)
 have ho0 := hid_ (bv_one zeros64)
 have hbt := hid_ built48
 generalize bv zs = cz at *
 generalize hc0 : bv zeros64 = c0 at *
 have HC0 := hid_ hc0
 clear hz hal hc0
 go_enter Tryz.func69, Tryz.ntmps69
 go_wp2_with (first
  | (refine wBox rfl 30 (.tmp 0) rfl cz rfl ?_; intro w1 gz hbz1 hx1 hgz)
  | (refine wAlo' rfl (some 4) rfl 30 rfl _ zero48 ?_; intro w2 gr hbr2 hx2 hgr; have hbz2 := hbz1.ext hx2; have hsl := HSL.out _ _ hbz2)
  | (go_at_call 96; (with_reducible refine (HCF.out _ _ hsl).mono ?_); rintro e w' ⟨rfl, rfl⟩)
  | (refine wpList_build0 rfl 30 rfl _ hbt.out ?_)
  | (refine wStB rfl 30 (.tmp 4) (.tmp 10) rfl _ _ rfl rfl hbr2 64 size48 hs0.out (by rw [show (Value.agg (bv zeros64)).cells = bv zeros64 from rfl, HC0.out]; exact hs0.out) ho0.out ?_; intro w7 hb7 hg7))
 exact ret_cell_tmp rfl rfl _ rfl hb7 _ Tryz.underlying30 rfl 64 size48 hs0.out ⟨rfl, (hx1.trans hx2).grown hg7 (by have := hx1.size; omega)⟩
def waveR (C : Nat → Nat → Int) (zs : List Int) : List Int × Int := if allIn zs (-40000) 40000 then (waveL C zs, 0) else (zeros64, 1)
theorem waveR_len (C : Nat → Nat → Int) (zs : List Int) : (waveR C zs).1.length = 64 := by
 unfold waveR
 split
 ·exact waveL_len C zs
 ·rfl
theorem wboth_any (gf : Nat) (eg : Enters Tryz.prog gf) (C : Nat → Nat → Int) (zs : List Int) (w : World) (hz : zs.length = 64)
 (hC : ∀ i k, i < 8 → k < 8 → -4096 ≤ C i k ∧ C i k ≤ 4096)
 (hF : ∀ i k W, i < 8 → k < 8 → Calls Tryz.prog gf (#[.int .i64 (i : Nat), .int .i64 (k : Nat)] ++ #[]) W fun e w' => e = .returned (.int .i64 (C i k)) ∧ Ext W w') :
 Calls Tryz.prog 69 #[.agg (bv zs), .func (.func gf) #[] #[]] w fun e w' => e = .returned (.tuple #[.agg (bv (waveR C zs).1), .int .i64 (waveR C zs).2]) ∧ Ext w w' := by
 unfold waveR
 cases h : allIn zs (-40000) 40000 with
 | true => simpa using wboth_in gf eg C zs w hz h hC hF
 | false => simpa using wboth_out gf zs w hz h
theorem basisZ_bd (i k : Nat) : -4096 ≤ basisZ i k ∧ basisZ i k ≤ 4096 := by
 unfold basisZ
 split
 ·omega
 ·exact wv_bounds _ (Nat.mod_lt _ (by omega))
theorem enters_basis : Enters Tryz.prog 70 := enters_of Tryz.func70 (by kernel_rfl) rfl
def toC (i k : Nat) : Int := basisZ i k
def frC (i k : Nat) : Int := basisZ k i
set_option maxHeartbeats 400000 in
theorem waveTo_any (zs : List Int) (w : World) (hz : zs.length = 64) :
 Calls Tryz.prog 38 #[.agg (bv zs)] w fun e w' => e = .returned (.tuple #[.agg (bv (waveR toC zs).1), .int .i64 (waveR toC zs).2]) ∧ Ext w w' := by
 have HB := hid_ (fun W => wboth_any 70 enters_basis toC zs W hz (fun i k _ _ => basisZ_bd i k) (fun i k W hi hk => by simpa [toC] using basis_any i k W (by omega) (by omega)))
 have hsz := hid_ ((bv_size zs).trans hz)
 have hsr := hid_ ((bv_size _).trans (waveR_len toC zs))
 have hor := hid_ (bv_one (waveR toC zs).1)
 generalize bv (waveR toC zs).1 = cr at *
 generalize (waveR toC zs).2 = er at *
 generalize bv zs = cz at *
 clear hz
 go_enter Tryz.func38, Tryz.ntmps38
 go_wp2_with (first
  | (refine wBox rfl 30 (.tmp 0) rfl cz rfl ?_; intro w1 gz hbz1 hx1 hgz)
  | (refine wpList_alloc_abs rfl 30 rfl _ zero48 ?_; intro w3 gr hbr3 hx3 hgr; have hbz3 := hbz1.ext hx3)
  | (refine wLdB rfl 30 (.tmp 1) rfl _ rfl hbz3 _ Tryz.underlying30 rfl 64 size48 hsz.out ?_)
  | (go_at_call 69; (with_reducible refine (HB.out _).mono ?_); rintro e w4 ⟨rfl, hx4⟩; have hbr4 := hbr3.ext hx4)
  | (refine wStB rfl 30 (.tmp 2) (.tmp 6) rfl _ _ rfl rfl hbr4 64 size48 hsr.out (by rw [show (Value.agg (bv zeros64)).cells = bv zeros64 from rfl, bv_size]; rfl) hor.out ?_; intro w7 hb7 hg7))
 exact ret_cell_tmp rfl rfl _ rfl hb7 _ Tryz.underlying30 rfl 64 size48 hsr.out ⟨rfl, ((hx1.trans hx3).trans hx4).grown hg7 (by have := hx1.size; omega)⟩
theorem from1_any (i k : Nat) (w : World) (hi : i < 8) (hk : k < 8) : Calls Tryz.prog 71 (#[.int .i64 (i : Nat), .int .i64 (k : Nat)] ++ #[]) w fun e w' => e = .returned (.int .i64 (frC i k)) ∧ Ext w w' := by
 have HB : Hid (∀ W, Calls Tryz.prog 70 #[.int .i64 (k : Nat), .int .i64 (i : Nat)] W fun e w' => e = .returned (.int .i64 (frC i k)) ∧ Ext W w') := hid_ (fun W => basis_any k i W (by omega) (by omega))
 generalize frC i k = c at *
 go_enter Tryz.func71, Tryz.ntmps71
 go_wp2_with (go_at_call 70; (with_reducible refine (HB.out _).mono ?_); rintro e w4 ⟨rfl, hx4⟩)
 go_ret
 exact ⟨rfl, hx4⟩
theorem enters_from1 : Enters Tryz.prog 71 := enters_of Tryz.func71 (by kernel_rfl) rfl
set_option maxHeartbeats 400000 in
theorem waveFrom_any (zs : List Int) (w : World) (hz : zs.length = 64) :
 Calls Tryz.prog 40 #[.agg (bv zs)] w fun e w' => e = .returned (.tuple #[.agg (bv (waveR frC zs).1), .int .i64 (waveR frC zs).2]) ∧ Ext w w' := by
 have HB := hid_ (fun W => wboth_any 71 enters_from1 frC zs W hz (fun i k _ _ => basisZ_bd k i) (fun i k W hi hk => from1_any i k W hi hk))
 have hsz := hid_ ((bv_size zs).trans hz)
 have hsr := hid_ ((bv_size _).trans (waveR_len frC zs))
 have hor := hid_ (bv_one (waveR frC zs).1)
 generalize bv (waveR frC zs).1 = cr at *
 generalize (waveR frC zs).2 = er at *
 generalize bv zs = cz at *
 clear hz
 go_enter Tryz.func40, Tryz.ntmps40
 go_wp2_with (first
  | (refine wBox rfl 30 (.tmp 0) rfl cz rfl ?_; intro w1 gz hbz1 hx1 hgz)
  | (refine wpList_alloc_abs rfl 30 rfl _ zero48 ?_; intro w3 gr hbr3 hx3 hgr; have hbz3 := hbz1.ext hx3)
  | (refine wLdB rfl 30 (.tmp 1) rfl _ rfl hbz3 _ Tryz.underlying30 rfl 64 size48 hsz.out ?_)
  | (go_at_call 69; (with_reducible refine (HB.out _).mono ?_); rintro e w4 ⟨rfl, hx4⟩; have hbr4 := hbr3.ext hx4)
  | (refine wStB rfl 30 (.tmp 2) (.tmp 6) rfl _ _ rfl rfl hbr4 64 size48 hsr.out (by rw [show (Value.agg (bv zeros64)).cells = bv zeros64 from rfl, bv_size]; rfl) hor.out ?_; intro w7 hb7 hg7))
 exact ret_cell_tmp rfl rfl _ rfl hb7 _ Tryz.underlying30 rfl 64 size48 hsr.out ⟨rfl, ((hx1.trans hx3).trans hx4).grown hg7 (by have := hx1.size; omega)⟩
theorem allWithin1_any (g1 g2 : Nat) (z lo hi : Int) (w : World) (h1 : w.cell? ⟨g1, 0, none⟩ = some (.int .i64 lo)) (h2 : w.cell? ⟨g2, 0, none⟩ = some (.int .i64 hi)) :
 Calls Tryz.prog 125 (#[.int .i64 z] ++ #[.pointer (some ⟨g1, 0, none⟩), .pointer (some ⟨g2, 0, none⟩)]) w fun e w' => e = .returned (.bool (decide (z < lo) || decide (hi < z))) ∧ w = w' := by
 by_cases h : z < lo
 ·have h' : decide (z < lo) = true := by simpa using h
  go_enter Tryz.func125, Tryz.ntmps125
  go_wp2
  go_ret
  exact ⟨by rw [h']; rfl, rfl⟩
 ·have h' : decide (z < lo) = false := by simpa using h
  go_enter Tryz.func125, Tryz.ntmps125
  go_wp2
  go_ret
  exact ⟨by simp, rfl⟩
theorem enters_aw1 : Enters Tryz.prog 125 := enters_of Tryz.func125 (by kernel_rfl) rfl
set_option maxHeartbeats 400000 in
theorem allWithin_any (zs : List Int) (lo hi : Int) (w : World) (hz : zs.length = 64) :
 Calls Tryz.prog 93 #[.agg (bv zs), .int .i64 lo, .int .i64 hi] w fun e w' => e = .returned (.bool (allIn zs lo hi)) ∧ Ext w w' := by
 have HZ : Hid (zs.length = 64) := hz
 have hs := (bv_size zs).trans hz
 have HS : Hid ((bv zs).size = 64) := hs
 have hmf : ∀ (fn : Fn) (first cap : Array Value) (w : World), (Instr.makeFunc fn first cap).run Tryz.prog w = .ok (.func fn first cap) w := fun _ _ _ _ => rfl
 have hcont := containsFunc_any 125 #[.pointer (some ⟨w.heap.size + 1, 0, none⟩), .pointer (some ⟨w.heap.size + 1 + 1, 0, none⟩)] (fun z => decide (z < lo) || decide (hi < z)) enters_aw1
  (.slice (some ⟨w.heap.size, 0, none⟩) 64 64) zs (((w.alloc (.cells (bv zs) 30)).alloc (.cells #[.int .i64 lo] 3)).alloc (.cells #[.int .i64 hi] 3))
  (by
    have h := (((Blk.new w 30 (bv zs)).alloc (.cells #[.int .i64 lo] 3)).alloc (.cells #[.int .i64 hi] 3)).bsl (c := 64) (by omega) (by omega)
    rwa [hz] at h ⊢)
  (fun z _ => allWithin1_any (w.heap.size + 1) (w.heap.size + 1 + 1) z lo hi _ (by
    have h := ((Blk.new (w.alloc (.cells (bv zs) 30)) 3 #[.int .i64 lo]).alloc (.cells #[.int .i64 hi] 3)).cell 0
    rwa [World.size_alloc] at h) (by
    have h := (Blk.new ((w.alloc (.cells (bv zs) 30)).alloc (.cells #[.int .i64 lo] 3)) 3 #[.int .i64 hi]).cell 0
    rwa [World.size_alloc, World.size_alloc] at h))
 have HC := hid_ hcont
 generalize hcs : bv zs = cs at *
 clear hs hz hcs hcont
 go_enter Tryz.func93, Tryz.ntmps93
 go_wp2_with fail
 refine HC.out.mono ?_
 rintro e w' ⟨rfl, rfl⟩
 go_wp2_with fail
 go_ret
 refine ⟨?_, ((Ext.refl w).alloc _).alloc _ |>.alloc _⟩
 rw [← allIn_not]
 rfl
set_option maxHeartbeats 400000 in
theorem qcheck_any (zs : List Int) (w : World) (hz : zs.length = 64) :
 Calls Tryz.prog 64 #[.agg (bv zs)] w fun e w' => e = .returned (.int .i64 (if allIn zs 1 255 then 0 else 1)) ∧ Ext w w' := by
 have hs := (bv_size zs).trans hz
 have HS : Hid ((bv zs).size = 64) := hs
 have hc := hid_ (fun W => allWithin_any zs 1 255 W hz)
 generalize hcs : bv zs = cs at *
 clear hs hz hcs
 cases hb : allIn zs 1 255 with
 | true =>
   rw [hb] at hc
   go_enter Tryz.func64, Tryz.ntmps64
   go_wp2_with (first | (refine wLdB rfl 30 _ rfl _ rfl (Blk.new w 30 cs) _ Tryz.underlying30 rfl 64 size48 HS.out ?_) | (go_at_call 93; refine (hc.out _).mono ?_; rintro e w' ⟨rfl, hx⟩))
   go_ret
   exact ⟨rfl, ((Ext.refl w).alloc _).trans hx⟩
 | false =>
   rw [hb] at hc
   go_enter Tryz.func64, Tryz.ntmps64
   go_wp2_with (first | (refine wLdB rfl 30 _ rfl _ rfl (Blk.new w 30 cs) _ Tryz.underlying30 rfl 64 size48 HS.out ?_) | (go_at_call 93; refine (hc.out _).mono ?_; rintro e w' ⟨rfl, hx⟩))
   go_ret
   exact ⟨rfl, ((Ext.refl w).alloc _).trans hx⟩
set_option maxHeartbeats 400000
theorem zip_set (F : Int → Int → Int) (zs qs : List Int) (k : Nat) (hz : k < zs.length) (hq : k < qs.length) :
 (List.zipWith F (zs.take k) (qs.take k) ++ zs.drop k).set k (F zs[k] qs[k]) = List.zipWith F (zs.take (k + 1)) (qs.take (k + 1)) ++ zs.drop (k + 1) := by
 have hl : (List.zipWith F (zs.take k) (qs.take k)).length = k := by simp; omega
 rw [List.set_append_right _ _ (by omega), hl, Nat.sub_self, List.drop_eq_getElem_cons hz, List.set_cons_zero, List.take_succ_eq_append_getElem hz, List.take_succ_eq_append_getElem hq,
  List.zipWith_append (by simp; omega)]
 simp
theorem zip_len (F : Int → Int → Int) (zs qs : List Int) (k : Nat) (hz : zs.length = 64) (hq : qs.length = 64) (hk : k ≤ 64) : (List.zipWith F (zs.take k) (qs.take k) ++ zs.drop k).length = 64 := by
 simp; omega
theorem both_in (g : Nat) (F : Int → Int → Int) (eg : Enters Tryz.prog g) (zs qs : List Int) (most : Int) (w : World) (hz : zs.length = 64) (hq : qs.length = 64) (hm0 : 0 ≤ most) (hm : most ≤ 1000000000)
 (h1 : allIn qs 1 255 = true) (h2 : allIn zs (-most) most = true)
 (hF : ∀ n d W, -most ≤ n → n ≤ most → 1 ≤ d → d ≤ 255 → Calls Tryz.prog g (#[.int .i64 n, .int .i64 d] ++ #[]) W fun e w' => e = .returned (.int .i64 (F n d)) ∧ W = w') :
 Calls Tryz.prog 72 #[.agg (bv zs), .agg (bv qs), .int .i64 most, .func (.func g) #[] #[]] w fun e w' => e = .returned (.tuple #[.agg (bv (List.zipWith F zs qs)), .int .i64 0]) ∧ Ext w w' := by
 have HC := hid_ (fun W => qcheck_any qs W hq)
 have HW := hid_ (fun W => allWithin_any zs (-most) most W hz)
 rw [h1] at HC
 rw [h2] at HW
 have HZ := hid_ hz
 have HQ := hid_ hq
 have hsz := hid_ ((bv_size zs).trans hz)
 have hsq := hid_ ((bv_size qs).trans hq)
 have H1 := hid_ h1
 have H2 := hid_ h2
 have HF := hid_ hF
 unfold Enters at eg
 clear hz hq h1 h2 hF
 generalize hzc : bv zs = cz at *
 generalize hqc : bv qs = cq at *
 have HZC := hid_ hzc
 have HQC := hid_ hqc
 clear hzc hqc
 go_enter Tryz.func72, Tryz.ntmps72
 go_wp2_with (first
  | (refine wBox rfl 30 (.tmp 0) rfl cz rfl ?_; intro w1 gz hbz1 hx1 hgz)
  | (refine wBox rfl 30 (.tmp 1) rfl cq rfl ?_; intro w2 gq hbq2 hx2 hgq; have hbz2 := hbz1.ext hx2)
  | (refine wpList_alloc_abs rfl 30 rfl _ zero48 ?_; intro w3 gr hbr3 hx3 hgr; have hbz3 := hbz2.ext hx3; have hbq3 := hbq2.ext hx3)
  | (refine wLdB rfl 30 (.tmp 5) rfl _ rfl hbq3 _ Tryz.underlying30 rfl 64 size48 hsq.out ?_)
  | (go_at_call 64; refine (HC.out _).mono ?_; rintro e w4 ⟨rfl, hx4⟩; have hbz4 := hbz3.ext hx4; have hbq4 := hbq3.ext hx4; have hbr4 := hbr3.ext hx4)
  | (refine wLdB rfl 30 (.tmp 4) rfl _ rfl hbz4 _ Tryz.underlying30 rfl 64 size48 hsz.out ?_)
  | (go_at_call 93; refine (HW.out _).mono ?_; rintro e w5 ⟨rfl, hx5⟩; have hbz5 := hbz4.ext hx5; have hbq5 := hbq4.ext hx5; have hbr5 := hbr4.ext hx5)
  | (refine wLdB rfl 30 (.tmp 4) rfl _ rfl hbz5 _ Tryz.underlying30 rfl 64 size48 hsz.out ?_))
 have hne1 : gz ≠ gq := by have := hbz1.lt; omega
 have hne2 : gz ≠ gr := by have := hbz2.lt; omega
 have hxx : Ext w w5 := ((((hx1.trans hx2).trans hx3).trans hx4).trans hx5)
 have hw0 : w.heap.size ≤ w1.heap.size := hx1.size
 have hw02 : w.heap.size ≤ gr := by have := hx2.size; omega
 clear hbz1 hbz2 hbz3 hbz4 hbq2 hbq3 hbq4 hbr3 hbr4 hx1 hx2 hx3 hx4 hx5
 go_loopw [27] (fun i wr => ∃ k : Nat, k ≤ 64 ∧ i = .int .i64 k ∧ Blk wr gz 30 (bv (List.zipWith F (zs.take k) (qs.take k) ++ zs.drop k)) ∧ Blk wr gq 30 cq ∧ Blk wr gr 30 (bv zeros64) ∧ Ext w wr) (fun i _ => 64 - (intOf i).toNat)
 case atStart => exact ⟨0, by omega, rfl, by rw [← HZC.out] at hbz5; simpa using hbz5, hbq5, hbr5, hxx⟩
 case round =>
  obtain ⟨k, hk, rfl, hb1, hb2, hb3, hxr⟩ := hrel
  by_cases hlt : k < 64
  ·have hzl : k < zs.length := by have := HZ.out; omega
   have hql : k < qs.length := by have := HQ.out; omega
   have hix := fun W => run_index48 cz k (.int .i64 zs[k]) hlt (by rw [← HZC.out]; exact bv_at zs k hzl) W
   have hlq : wr.cell? ⟨gq, k, none⟩ = some (.int .i64 qs[k]) := (hb2.cell k).trans (by rw [← HQC.out]; exact bv_at qs k hql)
   have hz0 := allIn_iff.1 H2.out zs[k] (List.getElem_mem hzl)
   have hq0 := allIn_iff.1 H1.out qs[k] (List.getElem_mem hql)
   have hcall := hid_ (fun W => HF.out zs[k] qs[k] W hz0.1 hz0.2 hq0.1 hq0.2)
   obtain ⟨old, hold⟩ : ∃ u, wr.cell? ⟨gz, k, none⟩ = some u := by
    rw [hb1.cell k]
    have hl := zip_len F zs qs k HZ.out HQ.out hk
    exact ⟨_, bv_at _ k (by omega)⟩
   have hfr := hb1.frozen k
   clear hz0 hq0
   go_wp2_with fail
   refine (hcall.out _).mono ?_
   rintro e w' ⟨rfl, rfl⟩
   go_wp2_with fail
   go_roundw
   case rel =>
    refine ⟨k + 1, by omega, by go_num, ?_, hb2.far (p := ⟨gz, k, none⟩) (by simpa using hne1.symm) _, hb3.far (p := ⟨gz, k, none⟩) (by simpa using hne2.symm) _, hxr.setCell (by omega) _⟩
    have := hb1.set_ k (.int .i64 (F zs[k] qs[k]))
    rwa [bv_set, zip_set F zs qs k hzl hql] at this
   case measure => simp [intOf]; omega
  ·obtain rfl : k = 64 := by omega
   have hfin : List.zipWith F (zs.take 64) (qs.take 64) ++ zs.drop 64 = List.zipWith F zs qs := by
    rw [List.take_of_length_le (by have := HZ.out; omega), List.take_of_length_le (by have := HQ.out; omega), List.drop_eq_nil_of_le (by have := HZ.out; omega), List.append_nil]
   have hlz : (bv (List.zipWith F zs qs)).size = 64 := by have := HZ.out; have := HQ.out; rw [bv_size]; simp; omega
   rw [hfin] at hb1
   have hone := bv_one (List.zipWith F zs qs)
   generalize hcr : bv (List.zipWith F zs qs) = cr at *
   have HCR := hid_ hcr
   have hlz' := hid_ hlz
   have hone' := hid_ hone
   clear hfin hlz hone hcr
   go_wp2_with (first
    | (refine wLdB rfl 30 (.tmp 4) rfl _ rfl hb1 _ Tryz.underlying30 rfl 64 size48 hlz'.out ?_)
    | (refine wStB rfl 30 (.tmp 8) (.tmp 40) rfl _ _ rfl rfl hb3 64 size48 hlz'.out (by rw [bv_size]; rfl) hone'.out ?_; intro w7 hb7 hg7))
   refine ret_cell_tmp rfl rfl _ rfl hb7 _ Tryz.underlying30 rfl 64 size48 hlz'.out ⟨by rw [HCR.out]; rfl, hxr.grown hg7 hw02⟩
set_option maxHeartbeats 400000 in

theorem both_out (g : Nat) (zs qs : List Int) (most : Int) (w : World) (hz : zs.length = 64) (hq : qs.length = 64) (hm0 : 0 ≤ most) (hm : most ≤ 1000000000)
 (h : allIn qs 1 255 = false ∨ (allIn qs 1 255 = true ∧ allIn zs (-most) most = false)) :
 Calls Tryz.prog 72 #[.agg (bv zs), .agg (bv qs), .int .i64 most, .func (.func g) #[] #[]] w fun e w' => e = .returned (.tuple #[.agg (bv zeros64), .int .i64 1]) ∧ Ext w w' := by
 have HC := hid_ (fun W => qcheck_any qs W hq)
 have HW := hid_ (fun W => allWithin_any zs (-most) most W hz)
 have hsz := hid_ ((bv_size zs).trans hz)
 have hsq := hid_ ((bv_size qs).trans hq)
 have hs0 : Hid ((bv zeros64).size = 64) := hid_ (by rw [bv_size]; rfl)
 have ho0 := hid_ (bv_one zeros64)
 have hbt := hid_ built48
 generalize bv zs = cz at *
 generalize bv qs = cq at *
 generalize hc0 : bv zeros64 = c0 at *
 have HC0 := hid_ hc0
 clear hz hq hc0
 rcases h with h | ⟨h, h2⟩
 ·rw [h] at HC
  clear h
  go_enter Tryz.func72, Tryz.ntmps72
  go_wp2_with (first
   | (refine wBox rfl 30 (.tmp 0) rfl cz rfl ?_; intro w1 gz hbz1 hx1 hgz)
   | (refine wBox rfl 30 (.tmp 1) rfl cq rfl ?_; intro w2 gq hbq2 hx2 hgq; have hbz2 := hbz1.ext hx2)
   | (refine wpList_alloc_abs rfl 30 rfl _ zero48 ?_; intro w3 gr hbr3 hx3 hgr; have hbz3 := hbz2.ext hx3; have hbq3 := hbq2.ext hx3)
   | (refine wLdB rfl 30 (.tmp 5) rfl _ rfl hbq3 _ Tryz.underlying30 rfl 64 size48 hsq.out ?_)
   | (go_at_call 64; refine (HC.out _).mono ?_; rintro e w4 ⟨rfl, hx4⟩; have hbr4 := hbr3.ext hx4)
   | (refine wpList_build0 rfl 30 rfl _ hbt.out ?_)
   | (refine wStB rfl 30 (.tmp 8) (.tmp 17) rfl _ _ rfl rfl hbr4 64 size48 hs0.out (by rw [show (Value.agg (bv zeros64)).cells = bv zeros64 from rfl, HC0.out]; exact hs0.out) ho0.out ?_; intro w7 hb7 hg7))
  exact ret_cell_tmp rfl rfl _ rfl hb7 _ Tryz.underlying30 rfl 64 size48 hs0.out ⟨rfl, (((hx1.trans hx2).trans hx3).trans hx4).grown hg7 (by have := hx1.size; have := hx2.size; omega)⟩
 ·rw [h] at HC
  rw [h2] at HW
  clear h h2
  go_enter Tryz.func72, Tryz.ntmps72
  go_wp2_with (first
   | (refine wBox rfl 30 (.tmp 0) rfl cz rfl ?_; intro w1 gz hbz1 hx1 hgz)
   | (refine wBox rfl 30 (.tmp 1) rfl cq rfl ?_; intro w2 gq hbq2 hx2 hgq; have hbz2 := hbz1.ext hx2)
   | (refine wpList_alloc_abs rfl 30 rfl _ zero48 ?_; intro w3 gr hbr3 hx3 hgr; have hbz3 := hbz2.ext hx3; have hbq3 := hbq2.ext hx3)
   | (refine wLdB rfl 30 (.tmp 5) rfl _ rfl hbq3 _ Tryz.underlying30 rfl 64 size48 hsq.out ?_)
   | (go_at_call 64; refine (HC.out _).mono ?_; rintro e w4 ⟨rfl, hx4⟩; have hbz4 := hbz3.ext hx4; have hbr4 := hbr3.ext hx4)
   | (refine wLdB rfl 30 (.tmp 4) rfl _ rfl hbz4 _ Tryz.underlying30 rfl 64 size48 hsz.out ?_)
   | (go_at_call 93; refine (HW.out _).mono ?_; rintro e w5 ⟨rfl, hx5⟩; have hbr5 := hbr4.ext hx5)
   | (refine wpList_build0 rfl 30 rfl _ hbt.out ?_)
   | (refine wStB rfl 30 (.tmp 8) (.tmp 25) rfl _ _ rfl rfl hbr5 64 size48 hs0.out (by rw [show (Value.agg (bv zeros64)).cells = bv zeros64 from rfl, HC0.out]; exact hs0.out) ho0.out ?_; intro w7 hb7 hg7))
  exact ret_cell_tmp rfl rfl _ rfl hb7 _ Tryz.underlying30 rfl 64 size48 hs0.out ⟨rfl, ((((hx1.trans hx2).trans hx3).trans hx4).trans hx5).grown hg7 (by have := hx1.size; have := hx2.size; omega)⟩
def bothZ (F : Int → Int → Int) (zs qs : List Int) (most : Int) : List Int × Int :=
 if allIn qs 1 255 then (if allIn zs (-most) most then (List.zipWith F zs qs, 0) else (zeros64, 1)) else (zeros64, 1)
theorem both_any (g : Nat) (F : Int → Int → Int) (eg : Enters Tryz.prog g) (zs qs : List Int) (most : Int) (w : World) (hz : zs.length = 64) (hq : qs.length = 64) (hm0 : 0 ≤ most) (hm : most ≤ 1000000000)
 (hF : ∀ n d W, -most ≤ n → n ≤ most → 1 ≤ d → d ≤ 255 → Calls Tryz.prog g (#[.int .i64 n, .int .i64 d] ++ #[]) W fun e w' => e = .returned (.int .i64 (F n d)) ∧ W = w') :
 Calls Tryz.prog 72 #[.agg (bv zs), .agg (bv qs), .int .i64 most, .func (.func g) #[] #[]] w fun e w' => e = .returned (.tuple #[.agg (bv (bothZ F zs qs most).1), .int .i64 (bothZ F zs qs most).2]) ∧ Ext w w' := by
 unfold bothZ
 cases h1 : allIn qs 1 255 with
 | false => simpa using both_out g zs qs most w hz hq hm0 hm (Or.inl h1)
 | true =>
   cases h2 : allIn zs (-most) most with
   | false => simpa using both_out g zs qs most w hz hq hm0 hm (Or.inr ⟨h1, h2⟩)
   | true => simpa using both_in g F eg zs qs most w hz hq hm0 hm h1 h2 hF
def upF (n d : Int) : Int := clampZ (n * d) (-40000) 40000
def downF (n d : Int) : Int := clampZ (rnd n d) (-2047) 2047
theorem mul_bd (n d m : Int) (hn1 : -m ≤ n) (hn2 : n ≤ m) (hd1 : 1 ≤ d) (hd2 : d ≤ 255) (hm : 0 ≤ m) : -(m * 255) ≤ n * d ∧ n * d ≤ m * 255 := by
 have h1 : n * d ≤ m * d := Int.mul_le_mul_of_nonneg_right hn2 (by omega)
 have h2 : m * d ≤ m * 255 := Int.mul_le_mul_of_nonneg_left hd2 hm
 have h3 : -m * d ≤ n * d := Int.mul_le_mul_of_nonneg_right hn1 (by omega)
 rw [Int.neg_mul] at h3
 omega
theorem bothZ_len (F : Int → Int → Int) (zs qs : List Int) (most : Int) (hz : zs.length = 64) (hq : qs.length = 64) : (bothZ F zs qs most).1.length = 64 := by
 unfold bothZ
 split <;> (try split) <;> simp [hz, hq, zeros64]
theorem up1_any (n d : Int) (w : World) (hn1 : -2047 ≤ n) (hn2 : n ≤ 2047) (hd1 : 1 ≤ d) (hd2 : d ≤ 255) :
 Calls Tryz.prog 75 (#[.int .i64 n, .int .i64 d] ++ #[]) w fun e w' => e = .returned (.int .i64 (upF n d)) ∧ w = w' := by
 obtain ⟨h1, h2⟩ := mul_bd n d 2047 hn1 hn2 hd1 hd2 (by omega)
 go_enter Tryz.func75, Tryz.ntmps75
 go_wp2_with (go_at_call 68; refine (within_any _ _ _ (by omega) (by omega)).mono ?_; rintro e w' ⟨rfl, rfl⟩)
 go_ret
 exact ⟨rfl, rfl⟩
theorem enters_up1 : Enters Tryz.prog 75 := enters_of Tryz.func75 (by kernel_rfl) rfl
set_option maxHeartbeats 400000 in
theorem up_any (zs qs : List Int) (w : World) (hz : zs.length = 64) (hq : qs.length = 64) :
 Calls Tryz.prog 44 #[.agg (bv zs), .agg (bv qs)] w fun e w' => e = .returned (.tuple #[.agg (bv (bothZ upF zs qs 2047).1), .int .i64 (bothZ upF zs qs 2047).2]) ∧ Ext w w' := by
 have HB := hid_ (fun W => both_any 75 upF enters_up1 zs qs 2047 W hz hq (by omega) (by omega) (fun n d W a b c e => up1_any n d W a b c e))
 have hsz := hid_ ((bv_size zs).trans hz)
 have hsq := hid_ ((bv_size qs).trans hq)
 have hsr := hid_ ((bv_size _).trans (bothZ_len upF zs qs 2047 hz hq))
 have hor := hid_ (bv_one (bothZ upF zs qs 2047).1)
 generalize bv (bothZ upF zs qs 2047).1 = cr at *
 generalize (bothZ upF zs qs 2047).2 = er at *
 generalize bv zs = cz at *
 generalize bv qs = cq at *
 clear hz hq
 go_enter Tryz.func44, Tryz.ntmps44
 go_wp2_with (first
  | (refine wBox rfl 30 (.tmp 0) rfl cz rfl ?_; intro w1 gz hbz1 hx1 hgz)
  | (refine wBox rfl 30 (.tmp 1) rfl cq rfl ?_; intro w2 gq hbq2 hx2 hgq; have hbz2 := hbz1.ext hx2)
  | (refine wpList_alloc_abs rfl 30 rfl _ zero48 ?_; intro w3 gr hbr3 hx3 hgr; have hbz3 := hbz2.ext hx3; have hbq3 := hbq2.ext hx3)
  | (refine wLdB rfl 30 (.tmp 2) rfl _ rfl hbz3 _ Tryz.underlying30 rfl 64 size48 hsz.out ?_)
  | (refine wLdB rfl 30 (.tmp 3) rfl _ rfl hbq3 _ Tryz.underlying30 rfl 64 size48 hsq.out ?_)
  | (go_at_call 72; refine (HB.out _).mono ?_; rintro e w4 ⟨rfl, hx4⟩; have hbr4 := hbr3.ext hx4)
  | (refine wStB rfl 30 (.tmp 4) (.tmp 9) rfl _ _ rfl rfl hbr4 64 size48 hsr.out (by rw [show (Value.agg (bv zeros64)).cells = bv zeros64 from rfl, bv_size]; rfl) hor.out ?_; intro w7 hb7 hg7))
 exact ret_cell_tmp rfl rfl _ rfl hb7 _ Tryz.underlying30 rfl 64 size48 hsr.out ⟨rfl, (((hx1.trans hx2).trans hx3).trans hx4).grown hg7 (by have := hx1.size; have := hx2.size; omega)⟩
theorem down1_any (n d : Int) (w : World) (hn1 : -40000 ≤ n) (hn2 : n ≤ 40000) (hd1 : 1 ≤ d) (hd2 : d ≤ 255) :
 Calls Tryz.prog 73 (#[.int .i64 n, .int .i64 d] ++ #[]) w fun e w' => e = .returned (.int .i64 (downF n d)) ∧ w = w' := by
 go_enter Tryz.func73, Tryz.ntmps73
 go_wp2_with (first | (go_at_call 74; refine (round_any n d _ (by omega) (by omega) (by omega) (by omega)).mono ?_; rintro e w' ⟨rfl, rfl⟩) | (go_at_call 68; refine (within_any _ _ _ (by omega) (by omega)).mono ?_; rintro e w' ⟨rfl, rfl⟩))
 go_ret
 exact ⟨rfl, rfl⟩
theorem enters_down1 : Enters Tryz.prog 73 := enters_of Tryz.func73 (by kernel_rfl) rfl
set_option maxHeartbeats 400000 in
theorem down_any (zs qs : List Int) (w : World) (hz : zs.length = 64) (hq : qs.length = 64) :
 Calls Tryz.prog 42 #[.agg (bv zs), .agg (bv qs)] w fun e w' => e = .returned (.tuple #[.agg (bv (bothZ downF zs qs 40000).1), .int .i64 (bothZ downF zs qs 40000).2]) ∧ Ext w w' := by
 have HB := hid_ (fun W => both_any 73 downF enters_down1 zs qs 40000 W hz hq (by omega) (by omega) (fun n d W a b c e => down1_any n d W a b c e))
 have hsz := hid_ ((bv_size zs).trans hz)
 have hsq := hid_ ((bv_size qs).trans hq)
 have hsr := hid_ ((bv_size _).trans (bothZ_len downF zs qs 40000 hz hq))
 have hor := hid_ (bv_one (bothZ downF zs qs 40000).1)
 generalize bv (bothZ downF zs qs 40000).1 = cr at *
 generalize (bothZ downF zs qs 40000).2 = er at *
 generalize bv zs = cz at *
 generalize bv qs = cq at *
 clear hz hq
 go_enter Tryz.func42, Tryz.ntmps42
 go_wp2_with (first
  | (refine wBox rfl 30 (.tmp 0) rfl cz rfl ?_; intro w1 gz hbz1 hx1 hgz)
  | (refine wBox rfl 30 (.tmp 1) rfl cq rfl ?_; intro w2 gq hbq2 hx2 hgq; have hbz2 := hbz1.ext hx2)
  | (refine wpList_alloc_abs rfl 30 rfl _ zero48 ?_; intro w3 gr hbr3 hx3 hgr; have hbz3 := hbz2.ext hx3; have hbq3 := hbq2.ext hx3)
  | (refine wLdB rfl 30 (.tmp 2) rfl _ rfl hbz3 _ Tryz.underlying30 rfl 64 size48 hsz.out ?_)
  | (refine wLdB rfl 30 (.tmp 3) rfl _ rfl hbq3 _ Tryz.underlying30 rfl 64 size48 hsq.out ?_)
  | (go_at_call 72; refine (HB.out _).mono ?_; rintro e w4 ⟨rfl, hx4⟩; have hbr4 := hbr3.ext hx4)
  | (refine wStB rfl 30 (.tmp 4) (.tmp 9) rfl _ _ rfl rfl hbr4 64 size48 hsr.out (by rw [show (Value.agg (bv zeros64)).cells = bv zeros64 from rfl, bv_size]; rfl) hor.out ?_; intro w7 hb7 hg7))
 exact ret_cell_tmp rfl rfl _ rfl hb7 _ Tryz.underlying30 rfl 64 size48 hsr.out ⟨rfl, (((hx1.trans hx2).trans hx3).trans hx4).grown hg7 (by have := hx1.size; have := hx2.size; omega)⟩
end Go.Proofs.YtlhggcbpipmjhaaGreatDoor
