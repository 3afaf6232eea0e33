/- quant.both: number by number, by whatever function value. -/
import Derived.Test.YtceplnjngbkjhaaAllWithin
namespace Go.Proofs.Ytceplnjngbkjhaa
open Go.RowKit
def zeros64 : List Int := List.replicate 64 0
theorem built48 : Try.prog.built 48 [] = some (bv zeros64) := by kernel_rfl
theorem zero48 : (Try.prog.info? 48).bind (·.zero) = some (.agg (bv zeros64)) := by kernel_rfl
set_option maxHeartbeats 400000
theorem zip_set (F : Int → Int → Int) (zs qs : List Int) (k : Nat) (hz : k < zs.length) (hq : k < qs.length) :
    (List.zipWith F (zs.take k) (qs.take k) ++ zs.drop k).set k (F zs[k] qs[k]) = List.zipWith F (zs.take (k + 1)) (qs.take (k + 1)) ++ zs.drop (k + 1) := by
  have hl : (List.zipWith F (zs.take k) (qs.take k)).length = k := by simp; omega
  rw [List.set_append_right _ _ (by omega), hl, Nat.sub_self, List.drop_eq_getElem_cons hz, List.set_cons_zero, List.take_succ_eq_append_getElem hz, List.take_succ_eq_append_getElem hq,
    List.zipWith_append (by simp; omega)]
  simp
theorem zip_len (F : Int → Int → Int) (zs qs : List Int) (k : Nat) (hz : zs.length = 64) (hq : qs.length = 64) (hk : k ≤ 64) : (List.zipWith F (zs.take k) (qs.take k) ++ zs.drop k).length = 64 := by
  simp; omega
/-- both blocks within bounds -/
theorem both_in (g : Nat) (F : Int → Int → Int) (eg : Enters Try.prog g) (zs qs : List Int) (most : Int) (w : World) (hz : zs.length = 64) (hq : qs.length = 64) (hm0 : 0 ≤ most) (hm : most ≤ 1000000000)
    (h1 : allIn qs 1 255 = true) (h2 : allIn zs (-most) most = true)
    (hF : ∀ n d W, -most ≤ n → n ≤ most → 1 ≤ d → d ≤ 255 → Calls Try.prog g (#[.int .i64 n, .int .i64 d] ++ #[]) W fun e w' => e = .returned (.int .i64 (F n d)) ∧ W = w') :
    Calls Try.prog 55 #[.agg (bv zs), .agg (bv qs), .int .i64 most, .func (.func g) #[] #[]] w fun e w' => e = .returned (.tuple #[.agg (bv (List.zipWith F zs qs)), .int .i64 0]) ∧ Ext w w' := by
  have HC := hid_ (fun W => qcheck_any qs W hq)
  have HW := hid_ (fun W => allWithin_any zs (-most) most W hz)
  rw [h1] at HC
  rw [h2] at HW
  have HZ := hid_ hz
  have HQ := hid_ hq
  have hsz := hid_ ((bv_size zs).trans hz)
  have hsq := hid_ ((bv_size qs).trans hq)
  have H1 := hid_ h1
  have H2 := hid_ h2
  have HF := hid_ hF
  unfold Enters at eg
  clear hz hq h1 h2 hF
  generalize hzc : bv zs = cz at *
  generalize hqc : bv qs = cq at *
  have HZC := hid_ hzc
  have HQC := hid_ hqc
  clear hzc hqc
  go_enter Try.func55, Try.ntmps55
  go_wp2_with (first
    | (refine wpList_box_abs rfl 48 (.tmp 0) rfl cz rfl ?_; intro w1 gz hbz1 hx1 hgz)
    | (refine wpList_box_abs rfl 48 (.tmp 1) rfl cq rfl ?_; intro w2 gq hbq2 hx2 hgq; have hbz2 := hbz1.ext hx2)
    | (refine wpList_alloc_abs rfl 48 rfl _ zero48 ?_; intro w3 gr hbr3 hx3 hgr; have hbz3 := hbz2.ext hx3; have hbq3 := hbq2.ext hx3)
    | (refine wpList_load_blk rfl 48 (.tmp 5) rfl _ rfl hbq3 _ Try.underlying48 rfl 64 size48 hsq.out ?_)
    | (go_at_call 36; refine (HC.out _).mono ?_; rintro e w4 ⟨rfl, hx4⟩; have hbz4 := hbz3.ext hx4; have hbq4 := hbq3.ext hx4; have hbr4 := hbr3.ext hx4)
    | (refine wpList_load_blk rfl 48 (.tmp 4) rfl _ rfl hbz4 _ Try.underlying48 rfl 64 size48 hsz.out ?_)
    | (go_at_call 59; refine (HW.out _).mono ?_; rintro e w5 ⟨rfl, hx5⟩; have hbz5 := hbz4.ext hx5; have hbq5 := hbq4.ext hx5; have hbr5 := hbr4.ext hx5)
    | (refine wpList_load_blk rfl 48 (.tmp 4) rfl _ rfl hbz5 _ Try.underlying48 rfl 64 size48 hsz.out ?_))
  have hne1 : gz ≠ gq := by have := hbz1.lt; omega
  have hne2 : gz ≠ gr := by have := hbz2.lt; omega
  have hxx : Ext w w5 := ((((hx1.trans hx2).trans hx3).trans hx4).trans hx5)
  have hw0 : w.heap.size ≤ w1.heap.size := hx1.size
  have hw02 : w.heap.size ≤ gr := by have := hx2.size; omega
  clear hbz1 hbz2 hbz3 hbz4 hbq2 hbq3 hbq4 hbr3 hbr4 hx1 hx2 hx3 hx4 hx5
  go_loopw [27] (fun i wr => ∃ k : Nat, k ≤ 64 ∧ i = .int .i64 k ∧ Blk wr gz 48 (bv (List.zipWith F (zs.take k) (qs.take k) ++ zs.drop k)) ∧ Blk wr gq 48 cq ∧ Blk wr gr 48 (bv zeros64) ∧ Ext w wr) (fun i _ => 64 - (intOf i).toNat)
  case atStart => exact ⟨0, by omega, rfl, by rw [← HZC.out] at hbz5; simpa using hbz5, hbq5, hbr5, hxx⟩
  case round =>
    obtain ⟨k, hk, rfl, hb1, hb2, hb3, hxr⟩ := hrel
    by_cases hlt : k < 64
    · have hzl : k < zs.length := by have := HZ.out; omega
      have hql : k < qs.length := by have := HQ.out; omega
      have hix := fun W => run_index48 cz k (.int .i64 zs[k]) hlt (by rw [← HZC.out]; exact bv_at zs k hzl) W
      have hlq : wr.cell? ⟨gq, k, none⟩ = some (.int .i64 qs[k]) := (hb2.cell k).trans (by rw [← HQC.out]; exact bv_at qs k hql)
      have hz0 := allIn_iff.1 H2.out zs[k] (List.getElem_mem hzl)
      have hq0 := allIn_iff.1 H1.out qs[k] (List.getElem_mem hql)
      have hcall := hid_ (fun W => HF.out zs[k] qs[k] W hz0.1 hz0.2 hq0.1 hq0.2)
      obtain ⟨old, hold⟩ : ∃ u, wr.cell? ⟨gz, k, none⟩ = some u := by
        rw [hb1.cell k]
        have hl := zip_len F zs qs k HZ.out HQ.out hk
        exact ⟨_, bv_at _ k (by omega)⟩
      have hfr := hb1.frozen k
      clear hz0 hq0
      go_wp2_with fail
      refine (hcall.out _).mono ?_
      rintro e w' ⟨rfl, rfl⟩
      go_wp2_with fail
      go_roundw
      case rel =>
        refine ⟨k + 1, by omega, by go_num, ?_, hb2.far (p := ⟨gz, k, none⟩) (by simpa using hne1.symm) _, hb3.far (p := ⟨gz, k, none⟩) (by simpa using hne2.symm) _, hxr.setCell (by omega) _⟩
        have := hb1.set_ k (.int .i64 (F zs[k] qs[k]))
        rwa [bv_set, zip_set F zs qs k hzl hql] at this
      case measure => simp [intOf]; omega
    · obtain rfl : k = 64 := by omega
      have hfin : List.zipWith F (zs.take 64) (qs.take 64) ++ zs.drop 64 = List.zipWith F zs qs := by
        rw [List.take_of_length_le (by have := HZ.out; omega), List.take_of_length_le (by have := HQ.out; omega), List.drop_eq_nil_of_le (by have := HZ.out; omega), List.append_nil]
      have hlz : (bv (List.zipWith F zs qs)).size = 64 := by have := HZ.out; have := HQ.out; rw [bv_size]; simp; omega
      rw [hfin] at hb1
      have hone := bv_one (List.zipWith F zs qs)
      generalize hcr : bv (List.zipWith F zs qs) = cr at *
      have HCR := hid_ hcr
      have hlz' := hid_ hlz
      have hone' := hid_ hone
      clear hfin hlz hone hcr
      go_wp2_with (first
        | (refine wpList_load_blk rfl 48 (.tmp 4) rfl _ rfl hb1 _ Try.underlying48 rfl 64 size48 hlz'.out ?_)
        | (refine wpList_store_blk rfl 48 (.tmp 8) (.tmp 40) rfl _ _ rfl rfl hb3 64 size48 hlz'.out (by rw [bv_size]; rfl) hone'.out ?_; intro w7 hb7 hg7))
      refine ret_cell_tmp rfl rfl _ rfl hb7 _ Try.underlying48 rfl 64 size48 hlz'.out ⟨by rw [HCR.out]; rfl, hxr.grown hg7 hw02⟩
set_option maxHeartbeats 400000 in
/-- a number out of its bounds: the error -/
theorem both_out (g : Nat) (zs qs : List Int) (most : Int) (w : World) (hz : zs.length = 64) (hq : qs.length = 64) (hm0 : 0 ≤ most) (hm : most ≤ 1000000000)
    (h : allIn qs 1 255 = false ∨ (allIn qs 1 255 = true ∧ allIn zs (-most) most = false)) :
    Calls Try.prog 55 #[.agg (bv zs), .agg (bv qs), .int .i64 most, .func (.func g) #[] #[]] w fun e w' => e = .returned (.tuple #[.agg (bv zeros64), .int .i64 1]) ∧ Ext w w' := by
  have HC := hid_ (fun W => qcheck_any qs W hq)
  have HW := hid_ (fun W => allWithin_any zs (-most) most W hz)
  have hsz := hid_ ((bv_size zs).trans hz)
  have hsq := hid_ ((bv_size qs).trans hq)
  have hs0 : Hid ((bv zeros64).size = 64) := hid_ (by rw [bv_size]; rfl)
  have ho0 := hid_ (bv_one zeros64)
  have hbt := hid_ built48
  generalize bv zs = cz at *
  generalize bv qs = cq at *
  generalize hc0 : bv zeros64 = c0 at *
  have HC0 := hid_ hc0
  clear hz hq hc0
  rcases h with h | ⟨h, h2⟩
  · rw [h] at HC
    clear h
    go_enter Try.func55, Try.ntmps55
    go_wp2_with (first
      | (refine wpList_box_abs rfl 48 (.tmp 0) rfl cz rfl ?_; intro w1 gz hbz1 hx1 hgz)
      | (refine wpList_box_abs rfl 48 (.tmp 1) rfl cq rfl ?_; intro w2 gq hbq2 hx2 hgq; have hbz2 := hbz1.ext hx2)
      | (refine wpList_alloc_abs rfl 48 rfl _ zero48 ?_; intro w3 gr hbr3 hx3 hgr; have hbz3 := hbz2.ext hx3; have hbq3 := hbq2.ext hx3)
      | (refine wpList_load_blk rfl 48 (.tmp 5) rfl _ rfl hbq3 _ Try.underlying48 rfl 64 size48 hsq.out ?_)
      | (go_at_call 36; refine (HC.out _).mono ?_; rintro e w4 ⟨rfl, hx4⟩; have hbr4 := hbr3.ext hx4)
      | (refine wpList_build0 rfl 48 rfl _ hbt.out ?_)
      | (refine wpList_store_blk rfl 48 (.tmp 8) (.tmp 17) rfl _ _ rfl rfl hbr4 64 size48 hs0.out (by rw [show (Value.agg (bv zeros64)).cells = bv zeros64 from rfl, HC0.out]; exact hs0.out) ho0.out ?_; intro w7 hb7 hg7))
    exact ret_cell_tmp rfl rfl _ rfl hb7 _ Try.underlying48 rfl 64 size48 hs0.out ⟨rfl, (((hx1.trans hx2).trans hx3).trans hx4).grown hg7 (by have := hx1.size; have := hx2.size; omega)⟩
  · rw [h] at HC
    rw [h2] at HW
    clear h h2
    go_enter Try.func55, Try.ntmps55
    go_wp2_with (first
      | (refine wpList_box_abs rfl 48 (.tmp 0) rfl cz rfl ?_; intro w1 gz hbz1 hx1 hgz)
      | (refine wpList_box_abs rfl 48 (.tmp 1) rfl cq rfl ?_; intro w2 gq hbq2 hx2 hgq; have hbz2 := hbz1.ext hx2)
      | (refine wpList_alloc_abs rfl 48 rfl _ zero48 ?_; intro w3 gr hbr3 hx3 hgr; have hbz3 := hbz2.ext hx3; have hbq3 := hbq2.ext hx3)
      | (refine wpList_load_blk rfl 48 (.tmp 5) rfl _ rfl hbq3 _ Try.underlying48 rfl 64 size48 hsq.out ?_)
      | (go_at_call 36; refine (HC.out _).mono ?_; rintro e w4 ⟨rfl, hx4⟩; have hbz4 := hbz3.ext hx4; have hbr4 := hbr3.ext hx4)
      | (refine wpList_load_blk rfl 48 (.tmp 4) rfl _ rfl hbz4 _ Try.underlying48 rfl 64 size48 hsz.out ?_)
      | (go_at_call 59; refine (HW.out _).mono ?_; rintro e w5 ⟨rfl, hx5⟩; have hbr5 := hbr4.ext hx5)
      | (refine wpList_build0 rfl 48 rfl _ hbt.out ?_)
      | (refine wpList_store_blk rfl 48 (.tmp 8) (.tmp 25) rfl _ _ rfl rfl hbr5 64 size48 hs0.out (by rw [show (Value.agg (bv zeros64)).cells = bv zeros64 from rfl, HC0.out]; exact hs0.out) ho0.out ?_; intro w7 hb7 hg7))
    exact ret_cell_tmp rfl rfl _ rfl hb7 _ Try.underlying48 rfl 64 size48 hs0.out ⟨rfl, ((((hx1.trans hx2).trans hx3).trans hx4).trans hx5).grown hg7 (by have := hx1.size; have := hx2.size; omega)⟩
/-- what both answers -/
def bothZ (F : Int → Int → Int) (zs qs : List Int) (most : Int) : List Int × Int :=
  if allIn qs 1 255 then (if allIn zs (-most) most then (List.zipWith F zs qs, 0) else (zeros64, 1)) else (zeros64, 1)
theorem both_any (g : Nat) (F : Int → Int → Int) (eg : Enters Try.prog g) (zs qs : List Int) (most : Int) (w : World) (hz : zs.length = 64) (hq : qs.length = 64) (hm0 : 0 ≤ most) (hm : most ≤ 1000000000)
    (hF : ∀ n d W, -most ≤ n → n ≤ most → 1 ≤ d → d ≤ 255 → Calls Try.prog g (#[.int .i64 n, .int .i64 d] ++ #[]) W fun e w' => e = .returned (.int .i64 (F n d)) ∧ W = w') :
    Calls Try.prog 55 #[.agg (bv zs), .agg (bv qs), .int .i64 most, .func (.func g) #[] #[]] w fun e w' => e = .returned (.tuple #[.agg (bv (bothZ F zs qs most).1), .int .i64 (bothZ F zs qs most).2]) ∧ Ext w w' := by
  unfold bothZ
  cases h1 : allIn qs 1 255 with
  | false => simpa using both_out g zs qs most w hz hq hm0 hm (Or.inl h1)
  | true =>
    cases h2 : allIn zs (-most) most with
    | false => simpa using both_out g zs qs most w hz hq hm0 hm (Or.inr ⟨h1, h2⟩)
    | true => simpa using both_in g F eg zs qs most w hz hq hm0 hm h1 h2 hF
end Go.Proofs.Ytceplnjngbkjhaa
