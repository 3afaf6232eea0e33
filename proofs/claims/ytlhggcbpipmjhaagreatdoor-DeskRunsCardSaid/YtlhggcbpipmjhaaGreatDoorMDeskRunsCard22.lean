/- Contracts for the law DeskRunsCard, part 22: what the functions that it reaches answer, for all arguments that the theorems name. -/
import Derived.StillTailTactics
import Derived.Test.YtlhggcbpipmjhaaGreatDoorMDeskRunsCard8
import Derived.Test.YtlhggcbpipmjhaaGreatDoorMDeskRunsCard1
import Derived.Test.YtlhggcbpipmjhaaGreatDoorMDeskRunsCard4
import Derived.Test.YtlhggcbpipmjhaaGreatDoorMDeskRunsCard18
namespace Go.Proofs.YtlhggcbpipmjhaaGreatDoor
set_option linter.unusedVariables false
set_option linter.unusedSimpArgs false
open Go.RowKit
set_option maxRecDepth 20000
theorem zip_mid (F : Int → Int → Int) (zs qs : List Int) (k : Nat) (hz : zs.length = 64) (hq : qs.length = 64) (hk : k < 64) (hzl : k < zs.length) :
 (bv (List.zipWith F (zs.take k) (qs.take k) ++ zs.drop k))[k]? = some (.int .i64 zs[k]) := by
 have hl : (List.zipWith F (zs.take k) (qs.take k)).length = k := by simp; omega
 have e : (List.zipWith F (zs.take k) (qs.take k) ++ zs.drop k)[k]? = some zs[k] := by
  rw [List.getElem?_append_right (by omega), hl, Nat.sub_self, List.getElem?_drop]
  simp
 unfold bv ints
 rw [List.getElem?_toArray, List.getElem?_map, e]
 rfl
set_option maxHeartbeats 400000 in
theorem rup_in (zs qs : List Int) (w : World) (hz : zs.length = 64) (hq : qs.length = 64) (h1 : allIn qs 1 255 = true) (h2 : allIn zs (-2047) 2047 = true) :
 Calls Tryz.prog 30 #[.agg (bv zs), .agg (bv qs)] w fun e w' => e = .returned (.tuple #[.agg (bv (List.zipWith upF zs qs)), .int .i64 0]) ∧ Ext w w' := by
 have HC := hid_ (fun W => blockWithin_any qs 1 255 W hq)
 have HW := hid_ (fun W => blockWithin_any zs (-2047) 2047 W hz)
 rw [h1] at HC
 rw [h2] at HW
 have HZ := hid_ hz
 have HQ := hid_ hq
 have hsz := hid_ ((bv_size zs).trans hz)
 have hsq := hid_ ((bv_size qs).trans hq)
 have H1 := hid_ h1
 have H2 := hid_ h2
 clear hz hq h1 h2
 generalize hzc : bv zs = cz at *
 generalize hqc : bv qs = cq at *
 have HZC := hid_ hzc
 have HQC := hid_ hqc
 clear hzc hqc
 go_enter Tryz.func30, Tryz.ntmps30
 go_wp2_with (first
  | (refine wBox rfl 30 (.tmp 0) rfl cz rfl ?_; intro w1 gz hbz1 hx1 hgz)
  | (refine wBox rfl 30 (.tmp 1) rfl cq rfl ?_; intro w2 gq hbq2 hx2 hgq; have hbz2 := hbz1.ext hx2)
  | (refine wpList_alloc_abs rfl 30 rfl _ zero48 ?_; intro w3 gr hbr3 hx3 hgr; have hbz3 := hbz2.ext hx3; have hbq3 := hbq2.ext hx3)
  | (refine wLdB rfl 30 (.tmp 3) rfl _ rfl hbq3 _ Tryz.underlying30 rfl 64 size48 hsq.out ?_)
  | (go_at_call 56; (with_reducible refine (HC.out _).mono ?_); rintro e w4 ⟨rfl, hx4⟩; have hbz4 := hbz3.ext hx4; have hbq4 := hbq3.ext hx4; have hbr4 := hbr3.ext hx4)
  | (refine wpList_load_blk_g (by rfl) 30 (.tmp 2) rfl _ rfl hbz4 _ Tryz.underlying30 rfl 64 size48 hsz.out ?_)
  | (go_at_call 56; (with_reducible refine (HW.out _).mono ?_); rintro e w5 ⟨rfl, hx5⟩; have hbz5 := hbz4.ext hx5; have hbq5 := hbq4.ext hx5; have hbr5 := hbr4.ext hx5))
 have hne1 : gz ≠ gq := by have := hbz1.lt; omega
 have hne2 : gz ≠ gr := by have := hbz2.lt; omega
 have hxx : Ext w w5 := ((((hx1.trans hx2).trans hx3).trans hx4).trans hx5)
 have hw02 : w.heap.size ≤ gr := by have := hx1.size; have := hx2.size; omega
 clear hbz1 hbz2 hbz3 hbz4 hbq2 hbq3 hbq4 hbr3 hbr4 hx1 hx2 hx3 hx4 hx5
 go_loopw [16] (fun i wr => ∃ k : Nat, k ≤ 64 ∧ i = .int .i64 k ∧ Blk wr gz 30 (bv (List.zipWith upF (zs.take k) (qs.take k) ++ zs.drop k)) ∧ Blk wr gq 30 cq ∧ Blk wr gr 30 (bv zeros64) ∧ Ext w wr) (fun i _ => 64 - (intOf i).toNat)
 case atStart => exact ⟨0, by omega, rfl, by rw [← HZC.out] at hbz5; simpa using hbz5, hbq5, hbr5, hxx⟩
 case round =>
  obtain ⟨k, hk, rfl, hb1, hb2, hb3, hxr⟩ := hrel
  by_cases hlt : k < 64
  ·have hzl : k < zs.length := by have := HZ.out; omega
   have hql : k < qs.length := by have := HQ.out; omega
   have hlq : wr.cell? ⟨gq, k, none⟩ = some (.int .i64 qs[k]) := (hb2.cell k).trans (by rw [← HQC.out]; exact bv_at qs k hql)
   have hlz : wr.cell? ⟨gz, k, none⟩ = some (.int .i64 zs[k]) := (hb1.cell k).trans (zip_mid upF zs qs k HZ.out HQ.out hlt hzl)
   obtain ⟨z1, z2⟩ := allIn_iff.1 H2.out zs[k] (List.getElem_mem hzl)
   obtain ⟨q1, q2⟩ := allIn_iff.1 H1.out qs[k] (List.getElem_mem hql)
   have hfr := hb1.frozen k
   obtain ⟨m1, m2⟩ := mul_bd zs[k] qs[k] 2047 z1 z2 q1 q2 (by omega)
   have hwr : IntKind.i64.wrap (zs[k] * qs[k]) = zs[k] * qs[k] := IntWalk.i64_in _ (by omega)
   go_wp2_with fail
   go_still_tail 10, (by kernel_rfl)
   still_call (calls_turn (clamp_any (zs[k] * qs[k]) (-40000) 40000 _))
   repeat still_step
   refine wpStill_nil ?_
   clear hwr
   have hlz' : wr.drew.cell? ⟨gz, k, none⟩ = some (.int .i64 zs[k]) := hlz
   have hfr' : wr.drew.frozen? ⟨gz, k, none⟩ = false := hfr
   have hb1' := hb1.drew
   have hb2' := hb2.drew
   have hb3' := hb3.drew
   have hxr' := hxr.drew
   change wpList _ _ _ _ _ wr.drew
   generalize wr.drew = w6 at *
   go_wp2_with fail
   go_roundw
   case rel =>
    refine ⟨k + 1, by omega, by go_num, ?_, hb2'.far (p := ⟨gz, k, none⟩) (by simpa using hne1.symm) _, hb3'.far (p := ⟨gz, k, none⟩) (by simpa using hne2.symm) _, hxr'.setCell (by omega) _⟩
    have := hb1'.set_ k (.int .i64 (upF zs[k] qs[k]))
    rwa [bv_set, zip_set upF zs qs k hzl hql] at this
   case measure => simp [intOf]; omega
  ·obtain rfl : k = 64 := by omega
   have hfin : List.zipWith upF (zs.take 64) (qs.take 64) ++ zs.drop 64 = List.zipWith upF zs qs := by
    rw [List.take_of_length_le (by have := HZ.out; omega), List.take_of_length_le (by have := HQ.out; omega), List.drop_eq_nil_of_le (by have := HZ.out; omega), List.append_nil]
   have hlz : (bv (List.zipWith upF zs qs)).size = 64 := by have := HZ.out; have := HQ.out; rw [bv_size]; simp; omega
   rw [hfin] at hb1
   have hone := bv_one (List.zipWith upF zs qs)
   generalize hcr : bv (List.zipWith upF zs qs) = cr at *
   have HCR := hid_ hcr
   have hlz' := hid_ hlz
   have hone' := hid_ hone
   clear hfin hlz hone hcr
   go_wp2_with (first
    | (refine wLdB rfl 30 (.tmp 2) rfl _ rfl hb1 _ Tryz.underlying30 rfl 64 size48 hlz'.out ?_)
    | (refine wStB rfl 30 (.tmp 4) (.tmp 30) rfl _ _ rfl rfl hb3 64 size48 hlz'.out (by rw [bv_size]; rfl) hone'.out ?_; intro w7 hb7 hg7))
   refine ret_cell_tmp rfl rfl _ rfl hb7 _ Tryz.underlying30 rfl 64 size48 hlz'.out ⟨by rw [HCR.out]; rfl, hxr.grown hg7 hw02⟩
set_option maxHeartbeats 400000 in
theorem rup_out (zs qs : List Int) (w : World) (hz : zs.length = 64) (hq : qs.length = 64)
 (h : allIn qs 1 255 = false ∨ (allIn qs 1 255 = true ∧ allIn zs (-2047) 2047 = false)) :
 Calls Tryz.prog 30 #[.agg (bv zs), .agg (bv qs)] w fun e w' => e = .returned (.tuple #[.agg (bv zeros64), .int .i64 1]) ∧ Ext w w' := by
 have HC := hid_ (fun W => blockWithin_any qs 1 255 W hq)
 have HW := hid_ (fun W => blockWithin_any zs (-2047) 2047 W hz)
 have hsz := hid_ ((bv_size zs).trans hz)
 have hsq := hid_ ((bv_size qs).trans hq)
 have hs0 : Hid ((bv zeros64).size = 64) := hid_ (by rw [bv_size]; rfl)
 have ho0 := hid_ (bv_one zeros64)
 have hbt := hid_ built48
 generalize bv zs = cz at *
 generalize bv qs = cq at *
 generalize hc0 : bv zeros64 = c0 at *
 have HC0 := hid_ hc0
 clear hz hq hc0
 rcases h with h | ⟨h, h2⟩
 ·rw [h] at HC
  clear h
  go_enter Tryz.func30, Tryz.ntmps30
  go_wp2_with (first
   | (refine wBox rfl 30 (.tmp 0) rfl cz rfl ?_; intro w1 gz hbz1 hx1 hgz)
   | (refine wBox rfl 30 (.tmp 1) rfl cq rfl ?_; intro w2 gq hbq2 hx2 hgq; have hbz2 := hbz1.ext hx2)
   | (refine wpList_alloc_abs rfl 30 rfl _ zero48 ?_; intro w3 gr hbr3 hx3 hgr; have hbz3 := hbz2.ext hx3; have hbq3 := hbq2.ext hx3)
   | (refine wLdB rfl 30 (.tmp 3) rfl _ rfl hbq3 _ Tryz.underlying30 rfl 64 size48 hsq.out ?_)
   | (go_at_call 56; (with_reducible refine (HC.out _).mono ?_); rintro e w4 ⟨rfl, hx4⟩; have hbr4 := hbr3.ext hx4)
   | (refine wpList_build0 rfl 30 rfl _ hbt.out ?_)
   | (refine wStB rfl 30 (.tmp 4) (.tmp 15) rfl _ _ rfl rfl hbr4 64 size48 hs0.out (by rw [show (Value.agg (bv zeros64)).cells = bv zeros64 from rfl, HC0.out]; exact hs0.out) ho0.out ?_; intro w7 hb7 hg7))
  exact ret_cell_tmp rfl rfl _ rfl hb7 _ Tryz.underlying30 rfl 64 size48 hs0.out ⟨rfl, (((hx1.trans hx2).trans hx3).trans hx4).grown hg7 (by have := hx1.size; have := hx2.size; omega)⟩
 ·rw [h] at HC
  rw [h2] at HW
  clear h h2
  go_enter Tryz.func30, Tryz.ntmps30
  go_wp2_with (first
   | (refine wBox rfl 30 (.tmp 0) rfl cz rfl ?_; intro w1 gz hbz1 hx1 hgz)
   | (refine wBox rfl 30 (.tmp 1) rfl cq rfl ?_; intro w2 gq hbq2 hx2 hgq; have hbz2 := hbz1.ext hx2)
   | (refine wpList_alloc_abs rfl 30 rfl _ zero48 ?_; intro w3 gr hbr3 hx3 hgr; have hbz3 := hbz2.ext hx3; have hbq3 := hbq2.ext hx3)
   | (refine wLdB rfl 30 (.tmp 3) rfl _ rfl hbq3 _ Tryz.underlying30 rfl 64 size48 hsq.out ?_)
   | (go_at_call 56; (with_reducible refine (HC.out _).mono ?_); rintro e w4 ⟨rfl, hx4⟩; have hbz4 := hbz3.ext hx4; have hbr4 := hbr3.ext hx4)
   | (refine wpList_load_blk_g (by rfl) 30 (.tmp 2) rfl _ rfl hbz4 _ Tryz.underlying30 rfl 64 size48 hsz.out ?_)
   | (go_at_call 56; (with_reducible refine (HW.out _).mono ?_); rintro e w5 ⟨rfl, hx5⟩; have hbr5 := hbr4.ext hx5)
   | (refine wpList_build0 rfl 30 rfl _ hbt.out ?_)
   | (refine wStB rfl 30 (.tmp 4) (.tmp 15) rfl _ _ rfl rfl hbr5 64 size48 hs0.out (by rw [show (Value.agg (bv zeros64)).cells = bv zeros64 from rfl, HC0.out]; exact hs0.out) ho0.out ?_; intro w7 hb7 hg7))
  exact ret_cell_tmp rfl rfl _ rfl hb7 _ Tryz.underlying30 rfl 64 size48 hs0.out ⟨rfl, ((((hx1.trans hx2).trans hx3).trans hx4).trans hx5).grown hg7 (by have := hx1.size; have := hx2.size; omega)⟩
theorem rup_any (zs qs : List Int) (w : World) (hz : zs.length = 64) (hq : qs.length = 64) :
 Calls Tryz.prog 30 #[.agg (bv zs), .agg (bv qs)] w fun e w' => e = .returned (.tuple #[.agg (bv (bothZ upF zs qs 2047).1), .int .i64 (bothZ upF zs qs 2047).2]) ∧ Ext w w' := by
 unfold bothZ
 cases h1 : allIn qs 1 255 with
 | false => simpa using rup_out zs qs w hz hq (Or.inl h1)
 | true =>
   cases h2 : allIn zs (-2047) 2047 with
   | false => simpa using rup_out zs qs w hz hq (Or.inr ⟨h1, h2⟩)
   | true => simpa using rup_in zs qs w hz hq h1 h2
set_option maxHeartbeats 400000 in
theorem rdown_in (zs qs : List Int) (w : World) (hz : zs.length = 64) (hq : qs.length = 64) (h1 : allIn qs 1 255 = true) (h2 : allIn zs (-40000) 40000 = true) :
 Calls Tryz.prog 29 #[.agg (bv zs), .agg (bv qs)] w fun e w' => e = .returned (.tuple #[.agg (bv (List.zipWith downF zs qs)), .int .i64 0]) ∧ Ext w w' := by
 have HC := hid_ (fun W => blockWithin_any qs 1 255 W hq)
 have HW := hid_ (fun W => blockWithin_any zs (-40000) 40000 W hz)
 rw [h1] at HC
 rw [h2] at HW
 have HZ := hid_ hz
 have HQ := hid_ hq
 have hsz := hid_ ((bv_size zs).trans hz)
 have hsq := hid_ ((bv_size qs).trans hq)
 have H1 := hid_ h1
 have H2 := hid_ h2
 clear hz hq h1 h2
 generalize hzc : bv zs = cz at *
 generalize hqc : bv qs = cq at *
 have HZC := hid_ hzc
 have HQC := hid_ hqc
 clear hzc hqc
 go_enter Tryz.func29, Tryz.ntmps29
 go_wp2_with (first
  | (refine wBox rfl 30 (.tmp 0) rfl cz rfl ?_; intro w1 gz hbz1 hx1 hgz)
  | (refine wBox rfl 30 (.tmp 1) rfl cq rfl ?_; intro w2 gq hbq2 hx2 hgq; have hbz2 := hbz1.ext hx2)
  | (refine wpList_alloc_abs rfl 30 rfl _ zero48 ?_; intro w3 gr hbr3 hx3 hgr; have hbz3 := hbz2.ext hx3; have hbq3 := hbq2.ext hx3)
  | (refine wLdB rfl 30 (.tmp 3) rfl _ rfl hbq3 _ Tryz.underlying30 rfl 64 size48 hsq.out ?_)
  | (go_at_call 56; (with_reducible refine (HC.out _).mono ?_); rintro e w4 ⟨rfl, hx4⟩; have hbz4 := hbz3.ext hx4; have hbq4 := hbq3.ext hx4; have hbr4 := hbr3.ext hx4)
  | (refine wpList_load_blk_g (by rfl) 30 (.tmp 2) rfl _ rfl hbz4 _ Tryz.underlying30 rfl 64 size48 hsz.out ?_)
  | (go_at_call 56; (with_reducible refine (HW.out _).mono ?_); rintro e w5 ⟨rfl, hx5⟩; have hbz5 := hbz4.ext hx5; have hbq5 := hbq4.ext hx5; have hbr5 := hbr4.ext hx5))
 have hne1 : gz ≠ gq := by have := hbz1.lt; omega
 have hne2 : gz ≠ gr := by have := hbz2.lt; omega
 have hxx : Ext w w5 := ((((hx1.trans hx2).trans hx3).trans hx4).trans hx5)
 have hw02 : w.heap.size ≤ gr := by have := hx1.size; have := hx2.size; omega
 clear hbz1 hbz2 hbz3 hbz4 hbq2 hbq3 hbq4 hbr3 hbr4 hx1 hx2 hx3 hx4 hx5
 go_loopw [16] (fun i wr => ∃ k : Nat, k ≤ 64 ∧ i = .int .i64 k ∧ Blk wr gz 30 (bv (List.zipWith downF (zs.take k) (qs.take k) ++ zs.drop k)) ∧ Blk wr gq 30 cq ∧ Blk wr gr 30 (bv zeros64) ∧ Ext w wr) (fun i _ => 64 - (intOf i).toNat)
 case atStart => exact ⟨0, by omega, rfl, by rw [← HZC.out] at hbz5; simpa using hbz5, hbq5, hbr5, hxx⟩
 case round =>
  obtain ⟨k, hk, rfl, hb1, hb2, hb3, hxr⟩ := hrel
  by_cases hlt : k < 64
  ·have hzl : k < zs.length := by have := HZ.out; omega
   have hql : k < qs.length := by have := HQ.out; omega
   have hlq : wr.cell? ⟨gq, k, none⟩ = some (.int .i64 qs[k]) := (hb2.cell k).trans (by rw [← HQC.out]; exact bv_at qs k hql)
   have hlz : wr.cell? ⟨gz, k, none⟩ = some (.int .i64 zs[k]) := (hb1.cell k).trans (zip_mid downF zs qs k HZ.out HQ.out hlt hzl)
   obtain ⟨z1, z2⟩ := allIn_iff.1 H2.out zs[k] (List.getElem_mem hzl)
   obtain ⟨q1, q2⟩ := allIn_iff.1 H1.out qs[k] (List.getElem_mem hql)
   have hfr := hb1.frozen k
   go_wp2_with fail
   go_still_tail 10, (by kernel_rfl)
   still_call (calls_turn (rround_any zs[k] qs[k] _ (by omega) (by omega) q1 (by omega)))
   repeat still_step
   still_call (calls_turn (clamp_any (rnd zs[k] qs[k]) (-2047) 2047 _))
   repeat still_step
   refine wpStill_nil ?_
   have hlz' : wr.drew.cell? ⟨gz, k, none⟩ = some (.int .i64 zs[k]) := hlz
   have hfr' : wr.drew.frozen? ⟨gz, k, none⟩ = false := hfr
   have hb1' := hb1.drew
   have hb2' := hb2.drew
   have hb3' := hb3.drew
   have hxr' := hxr.drew
   change wpList _ _ _ _ _ wr.drew
   generalize wr.drew = w6 at *
   go_wp2_with fail
   go_roundw
   case rel =>
    refine ⟨k + 1, by omega, by go_num, ?_, hb2'.far (p := ⟨gz, k, none⟩) (by simpa using hne1.symm) _, hb3'.far (p := ⟨gz, k, none⟩) (by simpa using hne2.symm) _, hxr'.setCell (by omega) _⟩
    have := hb1'.set_ k (.int .i64 (downF zs[k] qs[k]))
    rwa [bv_set, zip_set downF zs qs k hzl hql] at this
   case measure => simp [intOf]; omega
  ·obtain rfl : k = 64 := by omega
   have hfin : List.zipWith downF (zs.take 64) (qs.take 64) ++ zs.drop 64 = List.zipWith downF zs qs := by
    rw [List.take_of_length_le (by have := HZ.out; omega), List.take_of_length_le (by have := HQ.out; omega), List.drop_eq_nil_of_le (by have := HZ.out; omega), List.append_nil]
   have hlz : (bv (List.zipWith downF zs qs)).size = 64 := by have := HZ.out; have := HQ.out; rw [bv_size]; simp; omega
   rw [hfin] at hb1
   have hone := bv_one (List.zipWith downF zs qs)
   generalize hcr : bv (List.zipWith downF zs qs) = cr at *
   have HCR := hid_ hcr
   have hlz' := hid_ hlz
   have hone' := hid_ hone
   clear hfin hlz hone hcr
   go_wp2_with (first
    | (refine wLdB rfl 30 (.tmp 2) rfl _ rfl hb1 _ Tryz.underlying30 rfl 64 size48 hlz'.out ?_)
    | (refine wStB rfl 30 (.tmp 4) (.tmp 30) rfl _ _ rfl rfl hb3 64 size48 hlz'.out (by rw [bv_size]; rfl) hone'.out ?_; intro w7 hb7 hg7))
   refine ret_cell_tmp rfl rfl _ rfl hb7 _ Tryz.underlying30 rfl 64 size48 hlz'.out ⟨by rw [HCR.out]; rfl, hxr.grown hg7 hw02⟩
set_option maxHeartbeats 400000 in
theorem rdown_out (zs qs : List Int) (w : World) (hz : zs.length = 64) (hq : qs.length = 64)
 (h : allIn qs 1 255 = false ∨ (allIn qs 1 255 = true ∧ allIn zs (-40000) 40000 = false)) :
 Calls Tryz.prog 29 #[.agg (bv zs), .agg (bv qs)] w fun e w' => e = .returned (.tuple #[.agg (bv zeros64), .int .i64 1]) ∧ Ext w w' := by
 have HC := hid_ (fun W => blockWithin_any qs 1 255 W hq)
 have HW := hid_ (fun W => blockWithin_any zs (-40000) 40000 W hz)
 have hsz := hid_ ((bv_size zs).trans hz)
 have hsq := hid_ ((bv_size qs).trans hq)
 have hs0 : Hid ((bv zeros64).size = 64) := hid_ (by rw [bv_size]; rfl)
 have ho0 := hid_ (bv_one zeros64)
 have hbt := hid_ built48
 generalize bv zs = cz at *
 generalize bv qs = cq at *
 generalize hc0 : bv zeros64 = c0 at *
 have HC0 := hid_ hc0
 clear hz hq hc0
 rcases h with h | ⟨h, h2⟩
 ·rw [h] at HC
  clear h
  go_enter Tryz.func29, Tryz.ntmps29
  go_wp2_with (first
   | (refine wBox rfl 30 (.tmp 0) rfl cz rfl ?_; intro w1 gz hbz1 hx1 hgz)
   | (refine wBox rfl 30 (.tmp 1) rfl cq rfl ?_; intro w2 gq hbq2 hx2 hgq; have hbz2 := hbz1.ext hx2)
   | (refine wpList_alloc_abs rfl 30 rfl _ zero48 ?_; intro w3 gr hbr3 hx3 hgr; have hbz3 := hbz2.ext hx3; have hbq3 := hbq2.ext hx3)
   | (refine wLdB rfl 30 (.tmp 3) rfl _ rfl hbq3 _ Tryz.underlying30 rfl 64 size48 hsq.out ?_)
   | (go_at_call 56; (with_reducible refine (HC.out _).mono ?_); rintro e w4 ⟨rfl, hx4⟩; have hbr4 := hbr3.ext hx4)
   | (refine wpList_build0 rfl 30 rfl _ hbt.out ?_)
   | (refine wStB rfl 30 (.tmp 4) (.tmp 15) rfl _ _ rfl rfl hbr4 64 size48 hs0.out (by rw [show (Value.agg (bv zeros64)).cells = bv zeros64 from rfl, HC0.out]; exact hs0.out) ho0.out ?_; intro w7 hb7 hg7))
  exact ret_cell_tmp rfl rfl _ rfl hb7 _ Tryz.underlying30 rfl 64 size48 hs0.out ⟨rfl, (((hx1.trans hx2).trans hx3).trans hx4).grown hg7 (by have := hx1.size; have := hx2.size; omega)⟩
 ·rw [h] at HC
  rw [h2] at HW
  clear h h2
  go_enter Tryz.func29, Tryz.ntmps29
  go_wp2_with (first
   | (refine wBox rfl 30 (.tmp 0) rfl cz rfl ?_; intro w1 gz hbz1 hx1 hgz)
   | (refine wBox rfl 30 (.tmp 1) rfl cq rfl ?_; intro w2 gq hbq2 hx2 hgq; have hbz2 := hbz1.ext hx2)
   | (refine wpList_alloc_abs rfl 30 rfl _ zero48 ?_; intro w3 gr hbr3 hx3 hgr; have hbz3 := hbz2.ext hx3; have hbq3 := hbq2.ext hx3)
   | (refine wLdB rfl 30 (.tmp 3) rfl _ rfl hbq3 _ Tryz.underlying30 rfl 64 size48 hsq.out ?_)
   | (go_at_call 56; (with_reducible refine (HC.out _).mono ?_); rintro e w4 ⟨rfl, hx4⟩; have hbz4 := hbz3.ext hx4; have hbr4 := hbr3.ext hx4)
   | (refine wpList_load_blk_g (by rfl) 30 (.tmp 2) rfl _ rfl hbz4 _ Tryz.underlying30 rfl 64 size48 hsz.out ?_)
   | (go_at_call 56; (with_reducible refine (HW.out _).mono ?_); rintro e w5 ⟨rfl, hx5⟩; have hbr5 := hbr4.ext hx5)
   | (refine wpList_build0 rfl 30 rfl _ hbt.out ?_)
   | (refine wStB rfl 30 (.tmp 4) (.tmp 15) rfl _ _ rfl rfl hbr5 64 size48 hs0.out (by rw [show (Value.agg (bv zeros64)).cells = bv zeros64 from rfl, HC0.out]; exact hs0.out) ho0.out ?_; intro w7 hb7 hg7))
  exact ret_cell_tmp rfl rfl _ rfl hb7 _ Tryz.underlying30 rfl 64 size48 hs0.out ⟨rfl, ((((hx1.trans hx2).trans hx3).trans hx4).trans hx5).grown hg7 (by have := hx1.size; have := hx2.size; omega)⟩
theorem rdown_any (zs qs : List Int) (w : World) (hz : zs.length = 64) (hq : qs.length = 64) :
 Calls Tryz.prog 29 #[.agg (bv zs), .agg (bv qs)] w fun e w' => e = .returned (.tuple #[.agg (bv (bothZ downF zs qs 40000).1), .int .i64 (bothZ downF zs qs 40000).2]) ∧ Ext w w' := by
 unfold bothZ
 cases h1 : allIn qs 1 255 with
 | false => simpa using rdown_out zs qs w hz hq (Or.inl h1)
 | true =>
   cases h2 : allIn zs (-40000) 40000 with
   | false => simpa using rdown_out zs qs w hz hq (Or.inr ⟨h1, h2⟩)
   | true => simpa using rdown_in zs qs w hz hq h1 h2
section
open SM
def ng (z : Int) : Int := -z
theorem desc_of_sorted {X : List Nat} {m : Nat} (hm : X.length = m) (h : Sorted 0 ng (X.map Int.ofNat) 0 m) : X.Pairwise (fun a b => b ≤ a) := by
 rw [List.pairwise_iff_getElem]
 intro i j hi hj hij
 have := h i j (Nat.zero_le _) hij (by omega)
 unfold wA ng at this
 rw [at_get 0 _ i (by rw [List.length_map]; omega), at_get 0 _ j (by rw [List.length_map]; omega), List.getElem_map, List.getElem_map] at this
 simp at this
 omega
def restL (W : Nat → Nat) (N p : Nat) : List Int := (List.range (N + 1)).map fun j => if p ≤ j then ((W (N - j) : Nat) : Int) else 0
theorem restL_len (W : Nat → Nat) (N p : Nat) : (restL W N p).length = N + 1 := by simp [restL]
theorem restL_get (W : Nat → Nat) (N p j : Nat) (hj : j < (restL W N p).length) : (restL W N p)[j] = if p ≤ j then ((W (N - j) : Nat) : Int) else 0 := by simp [restL]
theorem restL_start {W : Nat → Nat} (h0 : W 0 = 0) (N : Nat) : restL W N N = List.replicate (N + 1) 0 := by
 rw [List.eq_replicate_iff]
 refine ⟨restL_len W N N, fun b hb => ?_⟩
 obtain ⟨j, hj, rfl⟩ := List.mem_map.1 hb
 have := List.mem_range.1 hj
 by_cases h : N ≤ j
 ·rw [if_pos h, show N - j = 0 by omega, h0]; rfl
 ·rw [if_neg h]
theorem restL_set (W : Nat → Nat) (N q : Nat) (hq : q ≤ N) : (restL W N (q + 1)).set q ((W (N - q) : Nat) : Int) = restL W N q := by
 apply List.ext_getElem
 ·rw [List.length_set, restL_len, restL_len]
 ·intro j h1 h2
  rw [List.getElem_set, restL_get, restL_get]
  by_cases h : q = j
  ·subst h; rw [if_pos rfl, if_pos (Nat.le_refl _)]
  ·rw [if_neg h]
   by_cases h3 : q + 1 ≤ j
   ·rw [if_pos h3, if_pos (by omega)]
   ·rw [if_neg h3, if_neg (by omega)]
def rowP (R : Nat → Nat) (n q : Nat) : List Int := (List.range n).map fun m => if m < q then ((R m : Nat) : Int) else 0
theorem rowP_len (R : Nat → Nat) (n q : Nat) : (rowP R n q).length = n := by simp [rowP]
theorem rowP_get (R : Nat → Nat) (n q j : Nat) (hj : j < (rowP R n q).length) : (rowP R n q)[j] = if j < q then ((R j : Nat) : Int) else 0 := by simp [rowP]
theorem rowP_start (R : Nat → Nat) (n : Nat) : rowP R n 0 = List.replicate n 0 := by
 rw [List.eq_replicate_iff]
 refine ⟨rowP_len R n 0, fun b hb => ?_⟩
 obtain ⟨j, hj, rfl⟩ := List.mem_map.1 hb
 rw [if_neg (by omega)]
theorem rowP_set (R : Nat → Nat) (n q : Nat) : (rowP R n q).set q ((R q : Nat) : Int) = rowP R n (q + 1) := by
 apply List.ext_getElem
 ·rw [List.length_set, rowP_len, rowP_len]
 ·intro j h1 h2
  rw [List.getElem_set, rowP_get, rowP_get]
  by_cases h : q = j
  ·subst h; rw [if_pos rfl, if_pos (by omega)]
  ·rw [if_neg h]
   by_cases h3 : j < q
   ·rw [if_pos h3, if_pos (by omega)]
   ·rw [if_neg h3, if_neg (by omega)]
def rowsV (G : Nat → Nat) (n i : Nat) : List Value := (List.range n).map fun j => if j < i then Value.slice (some ⟨G j, 0, none⟩) n n else .slice none 0 0
theorem rowsV_len (G : Nat → Nat) (n i : Nat) : (rowsV G n i).length = n := by simp [rowsV]
theorem rowsV_get (G : Nat → Nat) (n i j : Nat) (hj : j < (rowsV G n i).length) : (rowsV G n i)[j] = if j < i then Value.slice (some ⟨G j, 0, none⟩) n n else .slice none 0 0 := by simp [rowsV]
theorem rowsV_start (G : Nat → Nat) (n : Nat) : rowsV G n 0 = List.replicate n (.slice none 0 0) := by
 rw [List.eq_replicate_iff]
 refine ⟨rowsV_len G n 0, fun b hb => ?_⟩
 obtain ⟨j, hj, rfl⟩ := List.mem_map.1 hb
 rw [if_neg (by omega)]
def putG (G : Nat → Nat) (i g : Nat) (j : Nat) : Nat := if j = i then g else G j
theorem rowsV_set (G : Nat → Nat) (n i g : Nat) : (rowsV G n i).set i (Value.slice (some ⟨g, 0, none⟩) n n) = rowsV (putG G i g) n (i + 1) := by
 apply List.ext_getElem
 ·rw [List.length_set, rowsV_len, rowsV_len]
 ·intro j h1 h2
  rw [List.getElem_set, rowsV_get, rowsV_get]
  unfold putG
  by_cases h : i = j
  ·subst h; rw [if_pos rfl, if_pos (by omega), if_pos rfl]
  ·rw [if_neg h]
   by_cases h3 : j < i
   ·rw [if_pos h3, if_pos (by omega), if_neg (by omega)]
   ·rw [if_neg h3, if_neg (by omega)]
def TabAt (w : World) (v : Value) (n : Nat) (T : Nat → Nat → Nat) : Prop :=
 ∃ g, v = .slice (some ⟨g, 0, none⟩) n n ∧ ∀ i, i < n → ∃ gi, w.cell? ⟨g, i, none⟩ = some (.slice (some ⟨gi, 0, none⟩) n n) ∧ ∀ m, m < n → w.cell? ⟨gi, m, none⟩ = some (.int .i64 ((T i m : Nat) : Int))
theorem TabAt.ext {w w' : World} {v : Value} {n : Nat} {T : Nat → Nat → Nat} (h : TabAt w v n T) (hx : Ext w w') : TabAt w' v n T := by
 obtain ⟨g, rfl, h⟩ := h
 refine ⟨g, rfl, fun i hi => ?_⟩
 obtain ⟨gi, h1, h2⟩ := h i hi
 exact ⟨gi, cell_later hx h1, fun m hm => cell_later hx (h2 m hm)⟩
theorem TabAt.made {w : World} {gn n : Nat} {T : Nat → Nat → Nat} {G : Nat → Nat} (hb : Blk w gn 47 (rowsV G n n).toArray) (hr : ∀ j, j < n → Blk w (G j) 3 (ints (rowP (T j) n n)).toArray) : TabAt w (.slice (some ⟨gn, 0, none⟩) n n) n T := by
 refine ⟨gn, rfl, fun i hi => ⟨G i, ?_, fun m hm => ?_⟩⟩
 ·rw [hb.cell, List.getElem?_toArray, List.getElem?_eq_getElem (by rw [rowsV_len]; exact hi), rowsV_get, if_pos hi]
 ·have hl : m < (rowP (T i) n n).length := by rw [rowP_len]; exact hm
  rw [(hr i hi).cell, List.getElem?_toArray]
  unfold ints
  rw [List.getElem?_map, List.getElem?_eq_getElem hl, rowP_get, if_pos hm]
  rfl
theorem blk_ints {w : World} {g : Nat} {L : List Int} (h : Blk w g 3 (ints L).toArray) (j : Nat) (hj : j < L.length) : w.cell? ⟨g, j, none⟩ = some (.int .i64 L[j]) := by
 rw [h.cell, List.getElem?_toArray]
 unfold ints
 rw [List.getElem?_map, List.getElem?_eq_getElem hj]
 rfl
theorem blk_ints_set {w : World} {g : Nat} {L : List Int} (h : Blk w g 3 (ints L).toArray) (j : Nat) (z : Int) : Blk (w.setCell ⟨g, j, none⟩ (.int .i64 z)) g 3 (ints (L.set j z)).toArray := by
 have := h.set_ j (.int .i64 z)
 rw [List.setIfInBounds_toArray] at this
 unfold ints at this ⊢
 rwa [List.map_set]
theorem putG_self (G : Nat → Nat) (i g : Nat) : putG G i g i = g := by unfold putG; rw [if_pos rfl]
theorem rows_at {w : World} {gn n i a : Nat} {G : Nat → Nat} (h : Blk w gn 47 (rowsV G n i).toArray) (ha : a < n) (hi : a < i) : w.cell? ⟨gn, a, none⟩ = some (.slice (some ⟨G a, 0, none⟩) n n) := by
 rw [h.cell, List.getElem?_toArray, List.getElem?_eq_getElem (by rw [rowsV_len]; exact ha), rowsV_get, if_pos hi]
theorem ex_addB {o : Oper} {a : Act} {x y : Operand} {t2 : TypeId} (ho : o.op = .binOp .add 3 x y t2) {i d : Nat} (hx : a.eval x = .int .i64 (i : Int)) (hy : a.eval y = .int .i64 (d : Int)) (h : i + d < 9000000000000000000) (w : World) :
 (execOp a.eval o).run Tryz.prog w = .ok (.value (.int .i64 ((i + d : Nat) : Int))) w := by
 rw [Int.natCast_add]
 exact ex_addI ho hx hy (by omega) w
theorem bestC_last (W : Nat → Nat) (f left q : Nat) : BM.bestC W f left q (left + 1) = 0 := by unfold BM.bestC; rw [if_pos rfl]
theorem bestC_zero (W : Nat → Nat) (left q c : Nat) (h : c ≠ left) : BM.bestC W 0 left q (c + 1) = BM.bestC W 0 left q c := by
 conv => lhs; unfold BM.bestC
 rw [if_neg h]
theorem bestC_next (W : Nat → Nat) (f left q c : Nat) (h : c ≠ left) : BM.bestC W (f + 1) left q (c + 1) = min (BM.bestC W (f + 1) left q c) (W (left - c) + BM.D W BM.far f (left - c) (min (2 * (q - c)) (left - c))) := by
 conv => lhs; unfold BM.bestC
 rw [if_neg h]
theorem bestC_first (W : Nat → Nat) (f left q : Nat) (h : 0 < left) : BM.bestC W f left q 0 = BM.far := by unfold BM.bestC; rw [if_neg (by omega)]
theorem D_none (W : Nat → Nat) (fr f q : Nat) : BM.D W fr f 0 q = 0 := BM.D_fit W fr f 0 q (Nat.zero_le _)
theorem sizeLB : (Tryz.prog.info? 47).map (·.size) = some 1 := by kernel_rfl
theorem listNeI : 3 ≠ 47 := by decide
end
end Go.Proofs.YtlhggcbpipmjhaaGreatDoor
