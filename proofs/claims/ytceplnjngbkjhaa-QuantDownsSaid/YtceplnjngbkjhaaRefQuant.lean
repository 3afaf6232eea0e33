/- QuantUp, QuantDown of the reference. -/
import Derived.StillTailTactics
import Derived.Test.YtceplnjngbkjhaaQuantUp
import Derived.Test.YtceplnjngbkjhaaRefRound
namespace Go.Proofs.Ytceplnjngbkjhaa
open Go.RowKit
theorem zip_mid (F : Int → Int → Int) (zs qs : List Int) (k : Nat) (hz : zs.length = 64) (hq : qs.length = 64) (hk : k < 64) (hzl : k < zs.length) :
    (bv (List.zipWith F (zs.take k) (qs.take k) ++ zs.drop k))[k]? = some (.int .i64 zs[k]) := by
  have hl : (List.zipWith F (zs.take k) (qs.take k)).length = k := by simp; omega
  have e : (List.zipWith F (zs.take k) (qs.take k) ++ zs.drop k)[k]? = some zs[k] := by
    rw [List.getElem?_append_right (by omega), hl, Nat.sub_self, List.getElem?_drop]
    simp
  unfold bv ints
  rw [List.getElem?_toArray, List.getElem?_map, e]
  rfl
set_option maxHeartbeats 400000 in
theorem rup_in (zs qs : List Int) (w : World) (hz : zs.length = 64) (hq : qs.length = 64) (h1 : allIn qs 1 255 = true) (h2 : allIn zs (-2047) 2047 = true) :
    Calls Try.prog 35 #[.agg (bv zs), .agg (bv qs)] w fun e w' => e = .returned (.tuple #[.agg (bv (List.zipWith upF zs qs)), .int .i64 0]) ∧ Ext w w' := by
  have HC := hid_ (fun W => blockWithin_any qs 1 255 W hq)
  have HW := hid_ (fun W => blockWithin_any zs (-2047) 2047 W hz)
  rw [h1] at HC
  rw [h2] at HW
  have HZ := hid_ hz
  have HQ := hid_ hq
  have hsz := hid_ ((bv_size zs).trans hz)
  have hsq := hid_ ((bv_size qs).trans hq)
  have H1 := hid_ h1
  have H2 := hid_ h2
  clear hz hq h1 h2
  generalize hzc : bv zs = cz at *
  generalize hqc : bv qs = cq at *
  have HZC := hid_ hzc
  have HQC := hid_ hqc
  clear hzc hqc
  go_enter Try.func35, Try.ntmps35
  go_wp2_with (first
    | (refine wpList_box_abs rfl 48 (.tmp 0) rfl cz rfl ?_; intro w1 gz hbz1 hx1 hgz)
    | (refine wpList_box_abs rfl 48 (.tmp 1) rfl cq rfl ?_; intro w2 gq hbq2 hx2 hgq; have hbz2 := hbz1.ext hx2)
    | (refine wpList_alloc_abs rfl 48 rfl _ zero48 ?_; intro w3 gr hbr3 hx3 hgr; have hbz3 := hbz2.ext hx3; have hbq3 := hbq2.ext hx3)
    | (refine wpList_load_blk rfl 48 (.tmp 3) rfl _ rfl hbq3 _ Try.underlying48 rfl 64 size48 hsq.out ?_)
    | (go_at_call 41; (with_reducible refine (HC.out _).mono ?_); rintro e w4 ⟨rfl, hx4⟩; have hbz4 := hbz3.ext hx4; have hbq4 := hbq3.ext hx4; have hbr4 := hbr3.ext hx4)
    | (refine wpList_load_blk_g (by rfl) 48 (.tmp 2) rfl _ rfl hbz4 _ Try.underlying48 rfl 64 size48 hsz.out ?_)
    | (go_at_call 41; (with_reducible refine (HW.out _).mono ?_); rintro e w5 ⟨rfl, hx5⟩; have hbz5 := hbz4.ext hx5; have hbq5 := hbq4.ext hx5; have hbr5 := hbr4.ext hx5))
  have hne1 : gz ≠ gq := by have := hbz1.lt; omega
  have hne2 : gz ≠ gr := by have := hbz2.lt; omega
  have hxx : Ext w w5 := ((((hx1.trans hx2).trans hx3).trans hx4).trans hx5)
  have hw02 : w.heap.size ≤ gr := by have := hx1.size; have := hx2.size; omega
  clear hbz1 hbz2 hbz3 hbz4 hbq2 hbq3 hbq4 hbr3 hbr4 hx1 hx2 hx3 hx4 hx5
  go_loopw [16] (fun i wr => ∃ k : Nat, k ≤ 64 ∧ i = .int .i64 k ∧ Blk wr gz 48 (bv (List.zipWith upF (zs.take k) (qs.take k) ++ zs.drop k)) ∧ Blk wr gq 48 cq ∧ Blk wr gr 48 (bv zeros64) ∧ Ext w wr) (fun i _ => 64 - (intOf i).toNat)
  case atStart => exact ⟨0, by omega, rfl, by rw [← HZC.out] at hbz5; simpa using hbz5, hbq5, hbr5, hxx⟩
  case round =>
    obtain ⟨k, hk, rfl, hb1, hb2, hb3, hxr⟩ := hrel
    by_cases hlt : k < 64
    · have hzl : k < zs.length := by have := HZ.out; omega
      have hql : k < qs.length := by have := HQ.out; omega
      have hlq : wr.cell? ⟨gq, k, none⟩ = some (.int .i64 qs[k]) := (hb2.cell k).trans (by rw [← HQC.out]; exact bv_at qs k hql)
      have hlz : wr.cell? ⟨gz, k, none⟩ = some (.int .i64 zs[k]) := (hb1.cell k).trans (zip_mid upF zs qs k HZ.out HQ.out hlt hzl)
      obtain ⟨z1, z2⟩ := allIn_iff.1 H2.out zs[k] (List.getElem_mem hzl)
      obtain ⟨q1, q2⟩ := allIn_iff.1 H1.out qs[k] (List.getElem_mem hql)
      have hfr := hb1.frozen k
      obtain ⟨m1, m2⟩ := mul_bd zs[k] qs[k] 2047 z1 z2 q1 q2 (by omega)
      have hwr : IntKind.i64.wrap (zs[k] * qs[k]) = zs[k] * qs[k] := IntWalk.i64_in _ (by omega)
      go_wp2_with fail
      go_still_tail 10, (by kernel_rfl)
      still_call (calls_turn (clamp_any (zs[k] * qs[k]) (-40000) 40000 _))
      repeat still_step
      refine wpStill_nil ?_
      clear hwr
      have hlz' : wr.drew.cell? ⟨gz, k, none⟩ = some (.int .i64 zs[k]) := hlz
      have hfr' : wr.drew.frozen? ⟨gz, k, none⟩ = false := hfr
      have hb1' := hb1.drew
      have hb2' := hb2.drew
      have hb3' := hb3.drew
      have hxr' := hxr.drew
      change wpList _ _ _ _ _ wr.drew
      generalize wr.drew = w6 at *
      go_wp2_with fail
      go_roundw
      case rel =>
        refine ⟨k + 1, by omega, by go_num, ?_, hb2'.far (p := ⟨gz, k, none⟩) (by simpa using hne1.symm) _, hb3'.far (p := ⟨gz, k, none⟩) (by simpa using hne2.symm) _, hxr'.setCell (by omega) _⟩
        have := hb1'.set_ k (.int .i64 (upF zs[k] qs[k]))
        rwa [bv_set, zip_set upF zs qs k hzl hql] at this
      case measure => simp [intOf]; omega
    · obtain rfl : k = 64 := by omega
      have hfin : List.zipWith upF (zs.take 64) (qs.take 64) ++ zs.drop 64 = List.zipWith upF zs qs := by
        rw [List.take_of_length_le (by have := HZ.out; omega), List.take_of_length_le (by have := HQ.out; omega), List.drop_eq_nil_of_le (by have := HZ.out; omega), List.append_nil]
      have hlz : (bv (List.zipWith upF zs qs)).size = 64 := by have := HZ.out; have := HQ.out; rw [bv_size]; simp; omega
      rw [hfin] at hb1
      have hone := bv_one (List.zipWith upF zs qs)
      generalize hcr : bv (List.zipWith upF zs qs) = cr at *
      have HCR := hid_ hcr
      have hlz' := hid_ hlz
      have hone' := hid_ hone
      clear hfin hlz hone hcr
      go_wp2_with (first
        | (refine wpList_load_blk rfl 48 (.tmp 2) rfl _ rfl hb1 _ Try.underlying48 rfl 64 size48 hlz'.out ?_)
        | (refine wpList_store_blk rfl 48 (.tmp 4) (.tmp 30) rfl _ _ rfl rfl hb3 64 size48 hlz'.out (by rw [bv_size]; rfl) hone'.out ?_; intro w7 hb7 hg7))
      refine ret_cell_tmp rfl rfl _ rfl hb7 _ Try.underlying48 rfl 64 size48 hlz'.out ⟨by rw [HCR.out]; rfl, hxr.grown hg7 hw02⟩
set_option maxHeartbeats 400000 in
theorem rup_out (zs qs : List Int) (w : World) (hz : zs.length = 64) (hq : qs.length = 64)
    (h : allIn qs 1 255 = false ∨ (allIn qs 1 255 = true ∧ allIn zs (-2047) 2047 = false)) :
    Calls Try.prog 35 #[.agg (bv zs), .agg (bv qs)] w fun e w' => e = .returned (.tuple #[.agg (bv zeros64), .int .i64 1]) ∧ Ext w w' := by
  have HC := hid_ (fun W => blockWithin_any qs 1 255 W hq)
  have HW := hid_ (fun W => blockWithin_any zs (-2047) 2047 W hz)
  have hsz := hid_ ((bv_size zs).trans hz)
  have hsq := hid_ ((bv_size qs).trans hq)
  have hs0 : Hid ((bv zeros64).size = 64) := hid_ (by rw [bv_size]; rfl)
  have ho0 := hid_ (bv_one zeros64)
  have hbt := hid_ built48
  generalize bv zs = cz at *
  generalize bv qs = cq at *
  generalize hc0 : bv zeros64 = c0 at *
  have HC0 := hid_ hc0
  clear hz hq hc0
  rcases h with h | ⟨h, h2⟩
  · rw [h] at HC
    clear h
    go_enter Try.func35, Try.ntmps35
    go_wp2_with (first
      | (refine wpList_box_abs rfl 48 (.tmp 0) rfl cz rfl ?_; intro w1 gz hbz1 hx1 hgz)
      | (refine wpList_box_abs rfl 48 (.tmp 1) rfl cq rfl ?_; intro w2 gq hbq2 hx2 hgq; have hbz2 := hbz1.ext hx2)
      | (refine wpList_alloc_abs rfl 48 rfl _ zero48 ?_; intro w3 gr hbr3 hx3 hgr; have hbz3 := hbz2.ext hx3; have hbq3 := hbq2.ext hx3)
      | (refine wpList_load_blk rfl 48 (.tmp 3) rfl _ rfl hbq3 _ Try.underlying48 rfl 64 size48 hsq.out ?_)
      | (go_at_call 41; (with_reducible refine (HC.out _).mono ?_); rintro e w4 ⟨rfl, hx4⟩; have hbr4 := hbr3.ext hx4)
      | (refine wpList_build0 rfl 48 rfl _ hbt.out ?_)
      | (refine wpList_store_blk rfl 48 (.tmp 4) (.tmp 15) rfl _ _ rfl rfl hbr4 64 size48 hs0.out (by rw [show (Value.agg (bv zeros64)).cells = bv zeros64 from rfl, HC0.out]; exact hs0.out) ho0.out ?_; intro w7 hb7 hg7))
    exact ret_cell_tmp rfl rfl _ rfl hb7 _ Try.underlying48 rfl 64 size48 hs0.out ⟨rfl, (((hx1.trans hx2).trans hx3).trans hx4).grown hg7 (by have := hx1.size; have := hx2.size; omega)⟩
  · rw [h] at HC
    rw [h2] at HW
    clear h h2
    go_enter Try.func35, Try.ntmps35
    go_wp2_with (first
      | (refine wpList_box_abs rfl 48 (.tmp 0) rfl cz rfl ?_; intro w1 gz hbz1 hx1 hgz)
      | (refine wpList_box_abs rfl 48 (.tmp 1) rfl cq rfl ?_; intro w2 gq hbq2 hx2 hgq; have hbz2 := hbz1.ext hx2)
      | (refine wpList_alloc_abs rfl 48 rfl _ zero48 ?_; intro w3 gr hbr3 hx3 hgr; have hbz3 := hbz2.ext hx3; have hbq3 := hbq2.ext hx3)
      | (refine wpList_load_blk rfl 48 (.tmp 3) rfl _ rfl hbq3 _ Try.underlying48 rfl 64 size48 hsq.out ?_)
      | (go_at_call 41; (with_reducible refine (HC.out _).mono ?_); rintro e w4 ⟨rfl, hx4⟩; have hbz4 := hbz3.ext hx4; have hbr4 := hbr3.ext hx4)
      | (refine wpList_load_blk_g (by rfl) 48 (.tmp 2) rfl _ rfl hbz4 _ Try.underlying48 rfl 64 size48 hsz.out ?_)
      | (go_at_call 41; (with_reducible refine (HW.out _).mono ?_); rintro e w5 ⟨rfl, hx5⟩; have hbr5 := hbr4.ext hx5)
      | (refine wpList_build0 rfl 48 rfl _ hbt.out ?_)
      | (refine wpList_store_blk rfl 48 (.tmp 4) (.tmp 15) rfl _ _ rfl rfl hbr5 64 size48 hs0.out (by rw [show (Value.agg (bv zeros64)).cells = bv zeros64 from rfl, HC0.out]; exact hs0.out) ho0.out ?_; intro w7 hb7 hg7))
    exact ret_cell_tmp rfl rfl _ rfl hb7 _ Try.underlying48 rfl 64 size48 hs0.out ⟨rfl, ((((hx1.trans hx2).trans hx3).trans hx4).trans hx5).grown hg7 (by have := hx1.size; have := hx2.size; omega)⟩
theorem rup_any (zs qs : List Int) (w : World) (hz : zs.length = 64) (hq : qs.length = 64) :
    Calls Try.prog 35 #[.agg (bv zs), .agg (bv qs)] w fun e w' => e = .returned (.tuple #[.agg (bv (bothZ upF zs qs 2047).1), .int .i64 (bothZ upF zs qs 2047).2]) ∧ Ext w w' := by
  unfold bothZ
  cases h1 : allIn qs 1 255 with
  | false => simpa using rup_out zs qs w hz hq (Or.inl h1)
  | true =>
    cases h2 : allIn zs (-2047) 2047 with
    | false => simpa using rup_out zs qs w hz hq (Or.inr ⟨h1, h2⟩)
    | true => simpa using rup_in zs qs w hz hq h1 h2
set_option maxHeartbeats 400000 in
theorem rdown_in (zs qs : List Int) (w : World) (hz : zs.length = 64) (hq : qs.length = 64) (h1 : allIn qs 1 255 = true) (h2 : allIn zs (-40000) 40000 = true) :
    Calls Try.prog 40 #[.agg (bv zs), .agg (bv qs)] w fun e w' => e = .returned (.tuple #[.agg (bv (List.zipWith downF zs qs)), .int .i64 0]) ∧ Ext w w' := by
  have HC := hid_ (fun W => blockWithin_any qs 1 255 W hq)
  have HW := hid_ (fun W => blockWithin_any zs (-40000) 40000 W hz)
  rw [h1] at HC
  rw [h2] at HW
  have HZ := hid_ hz
  have HQ := hid_ hq
  have hsz := hid_ ((bv_size zs).trans hz)
  have hsq := hid_ ((bv_size qs).trans hq)
  have H1 := hid_ h1
  have H2 := hid_ h2
  clear hz hq h1 h2
  generalize hzc : bv zs = cz at *
  generalize hqc : bv qs = cq at *
  have HZC := hid_ hzc
  have HQC := hid_ hqc
  clear hzc hqc
  go_enter Try.func40, Try.ntmps40
  go_wp2_with (first
    | (refine wpList_box_abs rfl 48 (.tmp 0) rfl cz rfl ?_; intro w1 gz hbz1 hx1 hgz)
    | (refine wpList_box_abs rfl 48 (.tmp 1) rfl cq rfl ?_; intro w2 gq hbq2 hx2 hgq; have hbz2 := hbz1.ext hx2)
    | (refine wpList_alloc_abs rfl 48 rfl _ zero48 ?_; intro w3 gr hbr3 hx3 hgr; have hbz3 := hbz2.ext hx3; have hbq3 := hbq2.ext hx3)
    | (refine wpList_load_blk rfl 48 (.tmp 3) rfl _ rfl hbq3 _ Try.underlying48 rfl 64 size48 hsq.out ?_)
    | (go_at_call 41; (with_reducible refine (HC.out _).mono ?_); rintro e w4 ⟨rfl, hx4⟩; have hbz4 := hbz3.ext hx4; have hbq4 := hbq3.ext hx4; have hbr4 := hbr3.ext hx4)
    | (refine wpList_load_blk_g (by rfl) 48 (.tmp 2) rfl _ rfl hbz4 _ Try.underlying48 rfl 64 size48 hsz.out ?_)
    | (go_at_call 41; (with_reducible refine (HW.out _).mono ?_); rintro e w5 ⟨rfl, hx5⟩; have hbz5 := hbz4.ext hx5; have hbq5 := hbq4.ext hx5; have hbr5 := hbr4.ext hx5))
  have hne1 : gz ≠ gq := by have := hbz1.lt; omega
  have hne2 : gz ≠ gr := by have := hbz2.lt; omega
  have hxx : Ext w w5 := ((((hx1.trans hx2).trans hx3).trans hx4).trans hx5)
  have hw02 : w.heap.size ≤ gr := by have := hx1.size; have := hx2.size; omega
  clear hbz1 hbz2 hbz3 hbz4 hbq2 hbq3 hbq4 hbr3 hbr4 hx1 hx2 hx3 hx4 hx5
  go_loopw [16] (fun i wr => ∃ k : Nat, k ≤ 64 ∧ i = .int .i64 k ∧ Blk wr gz 48 (bv (List.zipWith downF (zs.take k) (qs.take k) ++ zs.drop k)) ∧ Blk wr gq 48 cq ∧ Blk wr gr 48 (bv zeros64) ∧ Ext w wr) (fun i _ => 64 - (intOf i).toNat)
  case atStart => exact ⟨0, by omega, rfl, by rw [← HZC.out] at hbz5; simpa using hbz5, hbq5, hbr5, hxx⟩
  case round =>
    obtain ⟨k, hk, rfl, hb1, hb2, hb3, hxr⟩ := hrel
    by_cases hlt : k < 64
    · have hzl : k < zs.length := by have := HZ.out; omega
      have hql : k < qs.length := by have := HQ.out; omega
      have hlq : wr.cell? ⟨gq, k, none⟩ = some (.int .i64 qs[k]) := (hb2.cell k).trans (by rw [← HQC.out]; exact bv_at qs k hql)
      have hlz : wr.cell? ⟨gz, k, none⟩ = some (.int .i64 zs[k]) := (hb1.cell k).trans (zip_mid downF zs qs k HZ.out HQ.out hlt hzl)
      obtain ⟨z1, z2⟩ := allIn_iff.1 H2.out zs[k] (List.getElem_mem hzl)
      obtain ⟨q1, q2⟩ := allIn_iff.1 H1.out qs[k] (List.getElem_mem hql)
      have hfr := hb1.frozen k
      go_wp2_with fail
      go_still_tail 10, (by kernel_rfl)
      still_call (calls_turn (rround_any zs[k] qs[k] _ (by omega) (by omega) q1 (by omega)))
      repeat still_step
      still_call (calls_turn (clamp_any (rnd zs[k] qs[k]) (-2047) 2047 _))
      repeat still_step
      refine wpStill_nil ?_
      have hlz' : wr.drew.cell? ⟨gz, k, none⟩ = some (.int .i64 zs[k]) := hlz
      have hfr' : wr.drew.frozen? ⟨gz, k, none⟩ = false := hfr
      have hb1' := hb1.drew
      have hb2' := hb2.drew
      have hb3' := hb3.drew
      have hxr' := hxr.drew
      change wpList _ _ _ _ _ wr.drew
      generalize wr.drew = w6 at *
      go_wp2_with fail
      go_roundw
      case rel =>
        refine ⟨k + 1, by omega, by go_num, ?_, hb2'.far (p := ⟨gz, k, none⟩) (by simpa using hne1.symm) _, hb3'.far (p := ⟨gz, k, none⟩) (by simpa using hne2.symm) _, hxr'.setCell (by omega) _⟩
        have := hb1'.set_ k (.int .i64 (downF zs[k] qs[k]))
        rwa [bv_set, zip_set downF zs qs k hzl hql] at this
      case measure => simp [intOf]; omega
    · obtain rfl : k = 64 := by omega
      have hfin : List.zipWith downF (zs.take 64) (qs.take 64) ++ zs.drop 64 = List.zipWith downF zs qs := by
        rw [List.take_of_length_le (by have := HZ.out; omega), List.take_of_length_le (by have := HQ.out; omega), List.drop_eq_nil_of_le (by have := HZ.out; omega), List.append_nil]
      have hlz : (bv (List.zipWith downF zs qs)).size = 64 := by have := HZ.out; have := HQ.out; rw [bv_size]; simp; omega
      rw [hfin] at hb1
      have hone := bv_one (List.zipWith downF zs qs)
      generalize hcr : bv (List.zipWith downF zs qs) = cr at *
      have HCR := hid_ hcr
      have hlz' := hid_ hlz
      have hone' := hid_ hone
      clear hfin hlz hone hcr
      go_wp2_with (first
        | (refine wpList_load_blk rfl 48 (.tmp 2) rfl _ rfl hb1 _ Try.underlying48 rfl 64 size48 hlz'.out ?_)
        | (refine wpList_store_blk rfl 48 (.tmp 4) (.tmp 30) rfl _ _ rfl rfl hb3 64 size48 hlz'.out (by rw [bv_size]; rfl) hone'.out ?_; intro w7 hb7 hg7))
      refine ret_cell_tmp rfl rfl _ rfl hb7 _ Try.underlying48 rfl 64 size48 hlz'.out ⟨by rw [HCR.out]; rfl, hxr.grown hg7 hw02⟩
set_option maxHeartbeats 400000 in
theorem rdown_out (zs qs : List Int) (w : World) (hz : zs.length = 64) (hq : qs.length = 64)
    (h : allIn qs 1 255 = false ∨ (allIn qs 1 255 = true ∧ allIn zs (-40000) 40000 = false)) :
    Calls Try.prog 40 #[.agg (bv zs), .agg (bv qs)] w fun e w' => e = .returned (.tuple #[.agg (bv zeros64), .int .i64 1]) ∧ Ext w w' := by
  have HC := hid_ (fun W => blockWithin_any qs 1 255 W hq)
  have HW := hid_ (fun W => blockWithin_any zs (-40000) 40000 W hz)
  have hsz := hid_ ((bv_size zs).trans hz)
  have hsq := hid_ ((bv_size qs).trans hq)
  have hs0 : Hid ((bv zeros64).size = 64) := hid_ (by rw [bv_size]; rfl)
  have ho0 := hid_ (bv_one zeros64)
  have hbt := hid_ built48
  generalize bv zs = cz at *
  generalize bv qs = cq at *
  generalize hc0 : bv zeros64 = c0 at *
  have HC0 := hid_ hc0
  clear hz hq hc0
  rcases h with h | ⟨h, h2⟩
  · rw [h] at HC
    clear h
    go_enter Try.func40, Try.ntmps40
    go_wp2_with (first
      | (refine wpList_box_abs rfl 48 (.tmp 0) rfl cz rfl ?_; intro w1 gz hbz1 hx1 hgz)
      | (refine wpList_box_abs rfl 48 (.tmp 1) rfl cq rfl ?_; intro w2 gq hbq2 hx2 hgq; have hbz2 := hbz1.ext hx2)
      | (refine wpList_alloc_abs rfl 48 rfl _ zero48 ?_; intro w3 gr hbr3 hx3 hgr; have hbz3 := hbz2.ext hx3; have hbq3 := hbq2.ext hx3)
      | (refine wpList_load_blk rfl 48 (.tmp 3) rfl _ rfl hbq3 _ Try.underlying48 rfl 64 size48 hsq.out ?_)
      | (go_at_call 41; (with_reducible refine (HC.out _).mono ?_); rintro e w4 ⟨rfl, hx4⟩; have hbr4 := hbr3.ext hx4)
      | (refine wpList_build0 rfl 48 rfl _ hbt.out ?_)
      | (refine wpList_store_blk rfl 48 (.tmp 4) (.tmp 15) rfl _ _ rfl rfl hbr4 64 size48 hs0.out (by rw [show (Value.agg (bv zeros64)).cells = bv zeros64 from rfl, HC0.out]; exact hs0.out) ho0.out ?_; intro w7 hb7 hg7))
    exact ret_cell_tmp rfl rfl _ rfl hb7 _ Try.underlying48 rfl 64 size48 hs0.out ⟨rfl, (((hx1.trans hx2).trans hx3).trans hx4).grown hg7 (by have := hx1.size; have := hx2.size; omega)⟩
  · rw [h] at HC
    rw [h2] at HW
    clear h h2
    go_enter Try.func40, Try.ntmps40
    go_wp2_with (first
      | (refine wpList_box_abs rfl 48 (.tmp 0) rfl cz rfl ?_; intro w1 gz hbz1 hx1 hgz)
      | (refine wpList_box_abs rfl 48 (.tmp 1) rfl cq rfl ?_; intro w2 gq hbq2 hx2 hgq; have hbz2 := hbz1.ext hx2)
      | (refine wpList_alloc_abs rfl 48 rfl _ zero48 ?_; intro w3 gr hbr3 hx3 hgr; have hbz3 := hbz2.ext hx3; have hbq3 := hbq2.ext hx3)
      | (refine wpList_load_blk rfl 48 (.tmp 3) rfl _ rfl hbq3 _ Try.underlying48 rfl 64 size48 hsq.out ?_)
      | (go_at_call 41; (with_reducible refine (HC.out _).mono ?_); rintro e w4 ⟨rfl, hx4⟩; have hbz4 := hbz3.ext hx4; have hbr4 := hbr3.ext hx4)
      | (refine wpList_load_blk_g (by rfl) 48 (.tmp 2) rfl _ rfl hbz4 _ Try.underlying48 rfl 64 size48 hsz.out ?_)
      | (go_at_call 41; (with_reducible refine (HW.out _).mono ?_); rintro e w5 ⟨rfl, hx5⟩; have hbr5 := hbr4.ext hx5)
      | (refine wpList_build0 rfl 48 rfl _ hbt.out ?_)
      | (refine wpList_store_blk rfl 48 (.tmp 4) (.tmp 15) rfl _ _ rfl rfl hbr5 64 size48 hs0.out (by rw [show (Value.agg (bv zeros64)).cells = bv zeros64 from rfl, HC0.out]; exact hs0.out) ho0.out ?_; intro w7 hb7 hg7))
    exact ret_cell_tmp rfl rfl _ rfl hb7 _ Try.underlying48 rfl 64 size48 hs0.out ⟨rfl, ((((hx1.trans hx2).trans hx3).trans hx4).trans hx5).grown hg7 (by have := hx1.size; have := hx2.size; omega)⟩
theorem rdown_any (zs qs : List Int) (w : World) (hz : zs.length = 64) (hq : qs.length = 64) :
    Calls Try.prog 40 #[.agg (bv zs), .agg (bv qs)] w fun e w' => e = .returned (.tuple #[.agg (bv (bothZ downF zs qs 40000).1), .int .i64 (bothZ downF zs qs 40000).2]) ∧ Ext w w' := by
  unfold bothZ
  cases h1 : allIn qs 1 255 with
  | false => simpa using rdown_out zs qs w hz hq (Or.inl h1)
  | true =>
    cases h2 : allIn zs (-40000) 40000 with
    | false => simpa using rdown_out zs qs w hz hq (Or.inr ⟨h1, h2⟩)
    | true => simpa using rdown_in zs qs w hz hq h1 h2
end Go.Proofs.Ytceplnjngbkjhaa
