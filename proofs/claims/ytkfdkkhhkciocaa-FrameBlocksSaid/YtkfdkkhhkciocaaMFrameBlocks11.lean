/- Contracts for the law FrameBlocks, part 11: what the functions that it reaches answer, for all arguments that the theorems name. -/
import Derived.Test.YtkfdkkhhkciocaaMFrameBlocks3
import Derived.Test.YtkfdkkhhkciocaaMFrameBlocks5
import Derived.Test.YtkfdkkhhkciocaaMFrameBlocks7
import Derived.StillTailTactics
import Derived.Test.YtkfdkkhhkciocaaMFrameBlocks1
/- quant.allWithin, quant.Check. -/
namespace Go.Proofs.Ytkfdkkhhkciocaa
set_option linter.unusedVariables false
set_option linter.unusedSimpArgs false
open Go.RowKit
theorem allWithin1_any (g1 g2 : Nat) (z lo hi : Int) (w : World) (h1 : w.cell? ⟨g1, 0, none⟩ = some (.int .i64 lo)) (h2 : w.cell? ⟨g2, 0, none⟩ = some (.int .i64 hi)) :
    Calls Try.prog 113 (#[.int .i64 z] ++ #[.pointer (some ⟨g1, 0, none⟩), .pointer (some ⟨g2, 0, none⟩)]) w fun e w' => e = .returned (.bool (decide (z < lo) || decide (hi < z))) ∧ w = w' := by
  by_cases h : z < lo
  · have h' : decide (z < lo) = true := by simpa using h
    go_enter Try.func113, Try.ntmps113
    go_wp2
    go_ret
    exact ⟨by rw [h']; rfl, rfl⟩
  · have h' : decide (z < lo) = false := by simpa using h
    go_enter Try.func113, Try.ntmps113
    go_wp2
    go_ret
    exact ⟨by simp, rfl⟩
theorem enters_aw1 : Enters Try.prog 113 := enters_of Try.func113 (by kernel_rfl) rfl
set_option maxHeartbeats 400000 in
theorem allWithin_any (zs : List Int) (lo hi : Int) (w : World) (hz : zs.length = 64) :
    Calls Try.prog 81 #[.agg (bv zs), .int .i64 lo, .int .i64 hi] w fun e w' => e = .returned (.bool (allIn zs lo hi)) ∧ Ext w w' := by
  have HZ : Hid (zs.length = 64) := hz
  have hs := (bv_size zs).trans hz
  have HS : Hid ((bv zs).size = 64) := hs
  have hmf : ∀ (fn : Fn) (first cap : Array Value) (w : World), (Instr.makeFunc fn first cap).run Try.prog w = .ok (.func fn first cap) w := fun _ _ _ _ => rfl
  have hcont := containsFunc_any 113 #[.pointer (some ⟨w.heap.size + 1, 0, none⟩), .pointer (some ⟨w.heap.size + 1 + 1, 0, none⟩)] (fun z => decide (z < lo) || decide (hi < z)) enters_aw1
    (.slice (some ⟨w.heap.size, 0, none⟩) 64 64) zs (((w.alloc (.cells (bv zs) 24)).alloc (.cells #[.int .i64 lo] 3)).alloc (.cells #[.int .i64 hi] 3))
    (by
      have h := (((Blk.new w 24 (bv zs)).alloc (.cells #[.int .i64 lo] 3)).alloc (.cells #[.int .i64 hi] 3)).bsl (c := 64) (by omega) (by omega)
      rwa [hz] at h ⊢)
    (fun z _ => allWithin1_any (w.heap.size + 1) (w.heap.size + 1 + 1) z lo hi _ (by
        have h := ((Blk.new (w.alloc (.cells (bv zs) 24)) 3 #[.int .i64 lo]).alloc (.cells #[.int .i64 hi] 3)).cell 0
        rwa [World.size_alloc] at h) (by
        have h := (Blk.new ((w.alloc (.cells (bv zs) 24)).alloc (.cells #[.int .i64 lo] 3)) 3 #[.int .i64 hi]).cell 0
        rwa [World.size_alloc, World.size_alloc] at h))
  have HC := hid_ hcont
  generalize hcs : bv zs = cs at *
  clear hs hz hcs hcont
  go_enter Try.func81, Try.ntmps81
  go_wp2_with fail
  refine HC.out.mono ?_
  rintro e w' ⟨rfl, rfl⟩
  go_wp2_with fail
  go_ret
  refine ⟨?_, ((Ext.refl w).alloc _).alloc _ |>.alloc _⟩
  rw [← allIn_not]
  rfl
set_option maxHeartbeats 400000 in
theorem qcheck_any (zs : List Int) (w : World) (hz : zs.length = 64) :
    Calls Try.prog 46 #[.agg (bv zs)] w fun e w' => e = .returned (.int .i64 (if allIn zs 1 255 then 0 else 1)) ∧ Ext w w' := by
  have hs := (bv_size zs).trans hz
  have HS : Hid ((bv zs).size = 64) := hs
  have hc := hid_ (fun W => allWithin_any zs 1 255 W hz)
  generalize hcs : bv zs = cs at *
  clear hs hz hcs
  cases hb : allIn zs 1 255 with
  | true =>
    rw [hb] at hc
    go_enter Try.func46, Try.ntmps46
    go_wp2_with (first | (refine wpList_load_blk rfl 24 _ rfl _ rfl (Blk.new w 24 cs) _ Try.underlying24 rfl 64 size48 HS.out ?_) | (go_at_call 81; refine (hc.out _).mono ?_; rintro e w' ⟨rfl, hx⟩))
    go_ret
    exact ⟨rfl, ((Ext.refl w).alloc _).trans hx⟩
  | false =>
    rw [hb] at hc
    go_enter Try.func46, Try.ntmps46
    go_wp2_with (first | (refine wpList_load_blk rfl 24 _ rfl _ rfl (Blk.new w 24 cs) _ Try.underlying24 rfl 64 size48 HS.out ?_) | (go_at_call 81; refine (hc.out _).mono ?_; rintro e w' ⟨rfl, hx⟩))
    go_ret
    exact ⟨rfl, ((Ext.refl w).alloc _).trans hx⟩
end Go.Proofs.Ytkfdkkhhkciocaa
/- quant.both: number by number, by whatever function value. -/
namespace Go.Proofs.Ytkfdkkhhkciocaa
set_option linter.unusedVariables false
set_option linter.unusedSimpArgs false
open Go.RowKit
set_option maxHeartbeats 400000
theorem zip_set (F : Int → Int → Int) (zs qs : List Int) (k : Nat) (hz : k < zs.length) (hq : k < qs.length) :
    (List.zipWith F (zs.take k) (qs.take k) ++ zs.drop k).set k (F zs[k] qs[k]) = List.zipWith F (zs.take (k + 1)) (qs.take (k + 1)) ++ zs.drop (k + 1) := by
  have hl : (List.zipWith F (zs.take k) (qs.take k)).length = k := by simp; omega
  rw [List.set_append_right _ _ (by omega), hl, Nat.sub_self, List.drop_eq_getElem_cons hz, List.set_cons_zero, List.take_succ_eq_append_getElem hz, List.take_succ_eq_append_getElem hq,
    List.zipWith_append (by simp; omega)]
  simp
theorem zip_len (F : Int → Int → Int) (zs qs : List Int) (k : Nat) (hz : zs.length = 64) (hq : qs.length = 64) (hk : k ≤ 64) : (List.zipWith F (zs.take k) (qs.take k) ++ zs.drop k).length = 64 := by
  simp; omega
/-- both blocks within bounds -/
theorem both_in (g : Nat) (F : Int → Int → Int) (eg : Enters Try.prog g) (zs qs : List Int) (most : Int) (w : World) (hz : zs.length = 64) (hq : qs.length = 64) (hm0 : 0 ≤ most) (hm : most ≤ 1000000000)
    (h1 : allIn qs 1 255 = true) (h2 : allIn zs (-most) most = true)
    (hF : ∀ n d W, -most ≤ n → n ≤ most → 1 ≤ d → d ≤ 255 → Calls Try.prog g (#[.int .i64 n, .int .i64 d] ++ #[]) W fun e w' => e = .returned (.int .i64 (F n d)) ∧ W = w') :
    Calls Try.prog 91 #[.agg (bv zs), .agg (bv qs), .int .i64 most, .func (.func g) #[] #[]] w fun e w' => e = .returned (.tuple #[.agg (bv (List.zipWith F zs qs)), .int .i64 0]) ∧ Ext w w' := by
  have HC := hid_ (fun W => qcheck_any qs W hq)
  have HW := hid_ (fun W => allWithin_any zs (-most) most W hz)
  rw [h1] at HC
  rw [h2] at HW
  have HZ := hid_ hz
  have HQ := hid_ hq
  have hsz := hid_ ((bv_size zs).trans hz)
  have hsq := hid_ ((bv_size qs).trans hq)
  have H1 := hid_ h1
  have H2 := hid_ h2
  have HF := hid_ hF
  unfold Enters at eg
  clear hz hq h1 h2 hF
  generalize hzc : bv zs = cz at *
  generalize hqc : bv qs = cq at *
  have HZC := hid_ hzc
  have HQC := hid_ hqc
  clear hzc hqc
  go_enter Try.func91, Try.ntmps91
  go_wp2_with (first
    | (refine wpList_box_abs rfl 24 (.tmp 0) rfl cz rfl ?_; intro w1 gz hbz1 hx1 hgz)
    | (refine wpList_box_abs rfl 24 (.tmp 1) rfl cq rfl ?_; intro w2 gq hbq2 hx2 hgq; have hbz2 := hbz1.ext hx2)
    | (refine wpList_alloc_abs rfl 24 rfl _ zero48 ?_; intro w3 gr hbr3 hx3 hgr; have hbz3 := hbz2.ext hx3; have hbq3 := hbq2.ext hx3)
    | (refine wpList_load_blk rfl 24 (.tmp 5) rfl _ rfl hbq3 _ Try.underlying24 rfl 64 size48 hsq.out ?_)
    | (go_at_call 46; refine (HC.out _).mono ?_; rintro e w4 ⟨rfl, hx4⟩; have hbz4 := hbz3.ext hx4; have hbq4 := hbq3.ext hx4; have hbr4 := hbr3.ext hx4)
    | (refine wpList_load_blk rfl 24 (.tmp 4) rfl _ rfl hbz4 _ Try.underlying24 rfl 64 size48 hsz.out ?_)
    | (go_at_call 81; refine (HW.out _).mono ?_; rintro e w5 ⟨rfl, hx5⟩; have hbz5 := hbz4.ext hx5; have hbq5 := hbq4.ext hx5; have hbr5 := hbr4.ext hx5)
    | (refine wpList_load_blk rfl 24 (.tmp 4) rfl _ rfl hbz5 _ Try.underlying24 rfl 64 size48 hsz.out ?_))
  have hne1 : gz ≠ gq := by have := hbz1.lt; omega
  have hne2 : gz ≠ gr := by have := hbz2.lt; omega
  have hxx : Ext w w5 := ((((hx1.trans hx2).trans hx3).trans hx4).trans hx5)
  have hw0 : w.heap.size ≤ w1.heap.size := hx1.size
  have hw02 : w.heap.size ≤ gr := by have := hx2.size; omega
  clear hbz1 hbz2 hbz3 hbz4 hbq2 hbq3 hbq4 hbr3 hbr4 hx1 hx2 hx3 hx4 hx5
  go_loopw [27] (fun i wr => ∃ k : Nat, k ≤ 64 ∧ i = .int .i64 k ∧ Blk wr gz 24 (bv (List.zipWith F (zs.take k) (qs.take k) ++ zs.drop k)) ∧ Blk wr gq 24 cq ∧ Blk wr gr 24 (bv zeros64) ∧ Ext w wr) (fun i _ => 64 - (intOf i).toNat)
  case atStart => exact ⟨0, by omega, rfl, by rw [← HZC.out] at hbz5; simpa using hbz5, hbq5, hbr5, hxx⟩
  case round =>
    obtain ⟨k, hk, rfl, hb1, hb2, hb3, hxr⟩ := hrel
    by_cases hlt : k < 64
    · have hzl : k < zs.length := by have := HZ.out; omega
      have hql : k < qs.length := by have := HQ.out; omega
      have hix := fun W => run_index48 cz k (.int .i64 zs[k]) hlt (by rw [← HZC.out]; exact bv_at zs k hzl) W
      have hlq : wr.cell? ⟨gq, k, none⟩ = some (.int .i64 qs[k]) := (hb2.cell k).trans (by rw [← HQC.out]; exact bv_at qs k hql)
      have hz0 := allIn_iff.1 H2.out zs[k] (List.getElem_mem hzl)
      have hq0 := allIn_iff.1 H1.out qs[k] (List.getElem_mem hql)
      have hcall := hid_ (fun W => HF.out zs[k] qs[k] W hz0.1 hz0.2 hq0.1 hq0.2)
      obtain ⟨old, hold⟩ : ∃ u, wr.cell? ⟨gz, k, none⟩ = some u := by
        rw [hb1.cell k]
        have hl := zip_len F zs qs k HZ.out HQ.out hk
        exact ⟨_, bv_at _ k (by omega)⟩
      have hfr := hb1.frozen k
      clear hz0 hq0
      go_wp2_with fail
      refine (hcall.out _).mono ?_
      rintro e w' ⟨rfl, rfl⟩
      go_wp2_with fail
      go_roundw
      case rel =>
        refine ⟨k + 1, by omega, by go_num, ?_, hb2.far (p := ⟨gz, k, none⟩) (by simpa using hne1.symm) _, hb3.far (p := ⟨gz, k, none⟩) (by simpa using hne2.symm) _, hxr.setCell (by omega) _⟩
        have := hb1.set_ k (.int .i64 (F zs[k] qs[k]))
        rwa [bv_set, zip_set F zs qs k hzl hql] at this
      case measure => simp [intOf]; omega
    · obtain rfl : k = 64 := by omega
      have hfin : List.zipWith F (zs.take 64) (qs.take 64) ++ zs.drop 64 = List.zipWith F zs qs := by
        rw [List.take_of_length_le (by have := HZ.out; omega), List.take_of_length_le (by have := HQ.out; omega), List.drop_eq_nil_of_le (by have := HZ.out; omega), List.append_nil]
      have hlz : (bv (List.zipWith F zs qs)).size = 64 := by have := HZ.out; have := HQ.out; rw [bv_size]; simp; omega
      rw [hfin] at hb1
      have hone := bv_one (List.zipWith F zs qs)
      generalize hcr : bv (List.zipWith F zs qs) = cr at *
      have HCR := hid_ hcr
      have hlz' := hid_ hlz
      have hone' := hid_ hone
      clear hfin hlz hone hcr
      go_wp2_with (first
        | (refine wpList_load_blk rfl 24 (.tmp 4) rfl _ rfl hb1 _ Try.underlying24 rfl 64 size48 hlz'.out ?_)
        | (refine wpList_store_blk rfl 24 (.tmp 8) (.tmp 40) rfl _ _ rfl rfl hb3 64 size48 hlz'.out (by rw [bv_size]; rfl) hone'.out ?_; intro w7 hb7 hg7))
      refine ret_cell_tmp rfl rfl _ rfl hb7 _ Try.underlying24 rfl 64 size48 hlz'.out ⟨by rw [HCR.out]; rfl, hxr.grown hg7 hw02⟩
set_option maxHeartbeats 400000 in
/-- a number out of its bounds: the error -/
theorem both_out (g : Nat) (zs qs : List Int) (most : Int) (w : World) (hz : zs.length = 64) (hq : qs.length = 64) (hm0 : 0 ≤ most) (hm : most ≤ 1000000000)
    (h : allIn qs 1 255 = false ∨ (allIn qs 1 255 = true ∧ allIn zs (-most) most = false)) :
    Calls Try.prog 91 #[.agg (bv zs), .agg (bv qs), .int .i64 most, .func (.func g) #[] #[]] w fun e w' => e = .returned (.tuple #[.agg (bv zeros64), .int .i64 1]) ∧ Ext w w' := by
  have HC := hid_ (fun W => qcheck_any qs W hq)
  have HW := hid_ (fun W => allWithin_any zs (-most) most W hz)
  have hsz := hid_ ((bv_size zs).trans hz)
  have hsq := hid_ ((bv_size qs).trans hq)
  have hs0 : Hid ((bv zeros64).size = 64) := hid_ (by rw [bv_size]; rfl)
  have ho0 := hid_ (bv_one zeros64)
  have hbt := hid_ built48
  generalize bv zs = cz at *
  generalize bv qs = cq at *
  generalize hc0 : bv zeros64 = c0 at *
  have HC0 := hid_ hc0
  clear hz hq hc0
  rcases h with h | ⟨h, h2⟩
  · rw [h] at HC
    clear h
    go_enter Try.func91, Try.ntmps91
    go_wp2_with (first
      | (refine wpList_box_abs rfl 24 (.tmp 0) rfl cz rfl ?_; intro w1 gz hbz1 hx1 hgz)
      | (refine wpList_box_abs rfl 24 (.tmp 1) rfl cq rfl ?_; intro w2 gq hbq2 hx2 hgq; have hbz2 := hbz1.ext hx2)
      | (refine wpList_alloc_abs rfl 24 rfl _ zero48 ?_; intro w3 gr hbr3 hx3 hgr; have hbz3 := hbz2.ext hx3; have hbq3 := hbq2.ext hx3)
      | (refine wpList_load_blk rfl 24 (.tmp 5) rfl _ rfl hbq3 _ Try.underlying24 rfl 64 size48 hsq.out ?_)
      | (go_at_call 46; refine (HC.out _).mono ?_; rintro e w4 ⟨rfl, hx4⟩; have hbr4 := hbr3.ext hx4)
      | (refine wpList_build0 rfl 24 rfl _ hbt.out ?_)
      | (refine wpList_store_blk rfl 24 (.tmp 8) (.tmp 17) rfl _ _ rfl rfl hbr4 64 size48 hs0.out (by rw [show (Value.agg (bv zeros64)).cells = bv zeros64 from rfl, HC0.out]; exact hs0.out) ho0.out ?_; intro w7 hb7 hg7))
    exact ret_cell_tmp rfl rfl _ rfl hb7 _ Try.underlying24 rfl 64 size48 hs0.out ⟨rfl, (((hx1.trans hx2).trans hx3).trans hx4).grown hg7 (by have := hx1.size; have := hx2.size; omega)⟩
  · rw [h] at HC
    rw [h2] at HW
    clear h h2
    go_enter Try.func91, Try.ntmps91
    go_wp2_with (first
      | (refine wpList_box_abs rfl 24 (.tmp 0) rfl cz rfl ?_; intro w1 gz hbz1 hx1 hgz)
      | (refine wpList_box_abs rfl 24 (.tmp 1) rfl cq rfl ?_; intro w2 gq hbq2 hx2 hgq; have hbz2 := hbz1.ext hx2)
      | (refine wpList_alloc_abs rfl 24 rfl _ zero48 ?_; intro w3 gr hbr3 hx3 hgr; have hbz3 := hbz2.ext hx3; have hbq3 := hbq2.ext hx3)
      | (refine wpList_load_blk rfl 24 (.tmp 5) rfl _ rfl hbq3 _ Try.underlying24 rfl 64 size48 hsq.out ?_)
      | (go_at_call 46; refine (HC.out _).mono ?_; rintro e w4 ⟨rfl, hx4⟩; have hbz4 := hbz3.ext hx4; have hbr4 := hbr3.ext hx4)
      | (refine wpList_load_blk rfl 24 (.tmp 4) rfl _ rfl hbz4 _ Try.underlying24 rfl 64 size48 hsz.out ?_)
      | (go_at_call 81; refine (HW.out _).mono ?_; rintro e w5 ⟨rfl, hx5⟩; have hbr5 := hbr4.ext hx5)
      | (refine wpList_build0 rfl 24 rfl _ hbt.out ?_)
      | (refine wpList_store_blk rfl 24 (.tmp 8) (.tmp 25) rfl _ _ rfl rfl hbr5 64 size48 hs0.out (by rw [show (Value.agg (bv zeros64)).cells = bv zeros64 from rfl, HC0.out]; exact hs0.out) ho0.out ?_; intro w7 hb7 hg7))
    exact ret_cell_tmp rfl rfl _ rfl hb7 _ Try.underlying24 rfl 64 size48 hs0.out ⟨rfl, ((((hx1.trans hx2).trans hx3).trans hx4).trans hx5).grown hg7 (by have := hx1.size; have := hx2.size; omega)⟩
/-- what both answers -/
def bothZ (F : Int → Int → Int) (zs qs : List Int) (most : Int) : List Int × Int :=
  if allIn qs 1 255 then (if allIn zs (-most) most then (List.zipWith F zs qs, 0) else (zeros64, 1)) else (zeros64, 1)
theorem both_any (g : Nat) (F : Int → Int → Int) (eg : Enters Try.prog g) (zs qs : List Int) (most : Int) (w : World) (hz : zs.length = 64) (hq : qs.length = 64) (hm0 : 0 ≤ most) (hm : most ≤ 1000000000)
    (hF : ∀ n d W, -most ≤ n → n ≤ most → 1 ≤ d → d ≤ 255 → Calls Try.prog g (#[.int .i64 n, .int .i64 d] ++ #[]) W fun e w' => e = .returned (.int .i64 (F n d)) ∧ W = w') :
    Calls Try.prog 91 #[.agg (bv zs), .agg (bv qs), .int .i64 most, .func (.func g) #[] #[]] w fun e w' => e = .returned (.tuple #[.agg (bv (bothZ F zs qs most).1), .int .i64 (bothZ F zs qs most).2]) ∧ Ext w w' := by
  unfold bothZ
  cases h1 : allIn qs 1 255 with
  | false => simpa using both_out g zs qs most w hz hq hm0 hm (Or.inl h1)
  | true =>
    cases h2 : allIn zs (-most) most with
    | false => simpa using both_out g zs qs most w hz hq hm0 hm (Or.inr ⟨h1, h2⟩)
    | true => simpa using both_in g F eg zs qs most w hz hq hm0 hm h1 h2 hF
end Go.Proofs.Ytkfdkkhhkciocaa
/- quant.Up, quant.Down. -/
namespace Go.Proofs.Ytkfdkkhhkciocaa
set_option linter.unusedVariables false
set_option linter.unusedSimpArgs false
open Go.RowKit
def upF (n d : Int) : Int := clampZ (n * d) (-40000) 40000
def downF (n d : Int) : Int := clampZ (rnd n d) (-2047) 2047
theorem mul_bd (n d m : Int) (hn1 : -m ≤ n) (hn2 : n ≤ m) (hd1 : 1 ≤ d) (hd2 : d ≤ 255) (hm : 0 ≤ m) : -(m * 255) ≤ n * d ∧ n * d ≤ m * 255 := by
  have h1 : n * d ≤ m * d := Int.mul_le_mul_of_nonneg_right hn2 (by omega)
  have h2 : m * d ≤ m * 255 := Int.mul_le_mul_of_nonneg_left hd2 hm
  have h3 : -m * d ≤ n * d := Int.mul_le_mul_of_nonneg_right hn1 (by omega)
  rw [Int.neg_mul] at h3
  omega
theorem bothZ_len (F : Int → Int → Int) (zs qs : List Int) (most : Int) (hz : zs.length = 64) (hq : qs.length = 64) : (bothZ F zs qs most).1.length = 64 := by
  unfold bothZ
  split <;> (try split) <;> simp [hz, hq, zeros64]
theorem down1_any (n d : Int) (w : World) (hn1 : -40000 ≤ n) (hn2 : n ≤ 40000) (hd1 : 1 ≤ d) (hd2 : d ≤ 255) :
    Calls Try.prog 92 (#[.int .i64 n, .int .i64 d] ++ #[]) w fun e w' => e = .returned (.int .i64 (downF n d)) ∧ w = w' := by
  go_enter Try.func92, Try.ntmps92
  go_wp2_with (first | (go_at_call 94; refine (round_any n d _ (by omega) (by omega) (by omega) (by omega)).mono ?_; rintro e w' ⟨rfl, rfl⟩) | (go_at_call 93; refine (within_any _ _ _ (by omega) (by omega)).mono ?_; rintro e w' ⟨rfl, rfl⟩))
  go_ret
  exact ⟨rfl, rfl⟩
theorem enters_down1 : Enters Try.prog 92 := enters_of Try.func92 (by kernel_rfl) rfl
set_option maxHeartbeats 400000 in
theorem down_any (zs qs : List Int) (w : World) (hz : zs.length = 64) (hq : qs.length = 64) :
    Calls Try.prog 52 #[.agg (bv zs), .agg (bv qs)] w fun e w' => e = .returned (.tuple #[.agg (bv (bothZ downF zs qs 40000).1), .int .i64 (bothZ downF zs qs 40000).2]) ∧ Ext w w' := by
  have HB := hid_ (fun W => both_any 92 downF enters_down1 zs qs 40000 W hz hq (by omega) (by omega) (fun n d W a b c e => down1_any n d W a b c e))
  have hsz := hid_ ((bv_size zs).trans hz)
  have hsq := hid_ ((bv_size qs).trans hq)
  have hsr := hid_ ((bv_size _).trans (bothZ_len downF zs qs 40000 hz hq))
  have hor := hid_ (bv_one (bothZ downF zs qs 40000).1)
  generalize bv (bothZ downF zs qs 40000).1 = cr at *
  generalize (bothZ downF zs qs 40000).2 = er at *
  generalize bv zs = cz at *
  generalize bv qs = cq at *
  clear hz hq
  go_enter Try.func52, Try.ntmps52
  go_wp2_with (first
    | (refine wpList_box_abs rfl 24 (.tmp 0) rfl cz rfl ?_; intro w1 gz hbz1 hx1 hgz)
    | (refine wpList_box_abs rfl 24 (.tmp 1) rfl cq rfl ?_; intro w2 gq hbq2 hx2 hgq; have hbz2 := hbz1.ext hx2)
    | (refine wpList_alloc_abs rfl 24 rfl _ zero48 ?_; intro w3 gr hbr3 hx3 hgr; have hbz3 := hbz2.ext hx3; have hbq3 := hbq2.ext hx3)
    | (refine wpList_load_blk rfl 24 (.tmp 2) rfl _ rfl hbz3 _ Try.underlying24 rfl 64 size48 hsz.out ?_)
    | (refine wpList_load_blk rfl 24 (.tmp 3) rfl _ rfl hbq3 _ Try.underlying24 rfl 64 size48 hsq.out ?_)
    | (go_at_call 91; refine (HB.out _).mono ?_; rintro e w4 ⟨rfl, hx4⟩; have hbr4 := hbr3.ext hx4)
    | (refine wpList_store_blk rfl 24 (.tmp 4) (.tmp 9) rfl _ _ rfl rfl hbr4 64 size48 hsr.out (by rw [show (Value.agg (bv zeros64)).cells = bv zeros64 from rfl, bv_size]; rfl) hor.out ?_; intro w7 hb7 hg7))
  exact ret_cell_tmp rfl rfl _ rfl hb7 _ Try.underlying24 rfl 64 size48 hsr.out ⟨rfl, (((hx1.trans hx2).trans hx3).trans hx4).grown hg7 (by have := hx1.size; have := hx2.size; omega)⟩
end Go.Proofs.Ytkfdkkhhkciocaa
/- QuantUp, QuantDown of the reference. -/
namespace Go.Proofs.Ytkfdkkhhkciocaa
set_option linter.unusedVariables false
set_option linter.unusedSimpArgs false
open Go.RowKit
set_option maxRecDepth 20000
theorem zip_mid (F : Int → Int → Int) (zs qs : List Int) (k : Nat) (hz : zs.length = 64) (hq : qs.length = 64) (hk : k < 64) (hzl : k < zs.length) :
    (bv (List.zipWith F (zs.take k) (qs.take k) ++ zs.drop k))[k]? = some (.int .i64 zs[k]) := by
  have hl : (List.zipWith F (zs.take k) (qs.take k)).length = k := by simp; omega
  have e : (List.zipWith F (zs.take k) (qs.take k) ++ zs.drop k)[k]? = some zs[k] := by
    rw [List.getElem?_append_right (by omega), hl, Nat.sub_self, List.getElem?_drop]
    simp
  unfold bv ints
  rw [List.getElem?_toArray, List.getElem?_map, e]
  rfl
set_option maxHeartbeats 400000 in
theorem rdown_in (zs qs : List Int) (w : World) (hz : zs.length = 64) (hq : qs.length = 64) (h1 : allIn qs 1 255 = true) (h2 : allIn zs (-40000) 40000 = true) :
    Calls Try.prog 58 #[.agg (bv zs), .agg (bv qs)] w fun e w' => e = .returned (.tuple #[.agg (bv (List.zipWith downF zs qs)), .int .i64 0]) ∧ Ext w w' := by
  have HC := hid_ (fun W => blockWithin_any qs 1 255 W hq)
  have HW := hid_ (fun W => blockWithin_any zs (-40000) 40000 W hz)
  rw [h1] at HC
  rw [h2] at HW
  have HZ := hid_ hz
  have HQ := hid_ hq
  have hsz := hid_ ((bv_size zs).trans hz)
  have hsq := hid_ ((bv_size qs).trans hq)
  have H1 := hid_ h1
  have H2 := hid_ h2
  clear hz hq h1 h2
  generalize hzc : bv zs = cz at *
  generalize hqc : bv qs = cq at *
  have HZC := hid_ hzc
  have HQC := hid_ hqc
  clear hzc hqc
  go_enter Try.func58, Try.ntmps58
  go_wp2_with (first
    | (refine wpList_box_abs rfl 24 (.tmp 0) rfl cz rfl ?_; intro w1 gz hbz1 hx1 hgz)
    | (refine wpList_box_abs rfl 24 (.tmp 1) rfl cq rfl ?_; intro w2 gq hbq2 hx2 hgq; have hbz2 := hbz1.ext hx2)
    | (refine wpList_alloc_abs rfl 24 rfl _ zero48 ?_; intro w3 gr hbr3 hx3 hgr; have hbz3 := hbz2.ext hx3; have hbq3 := hbq2.ext hx3)
    | (refine wpList_load_blk rfl 24 (.tmp 3) rfl _ rfl hbq3 _ Try.underlying24 rfl 64 size48 hsq.out ?_)
    | (go_at_call 33; (with_reducible refine (HC.out _).mono ?_); rintro e w4 ⟨rfl, hx4⟩; have hbz4 := hbz3.ext hx4; have hbq4 := hbq3.ext hx4; have hbr4 := hbr3.ext hx4)
    | (refine wpList_load_blk_g (by rfl) 24 (.tmp 2) rfl _ rfl hbz4 _ Try.underlying24 rfl 64 size48 hsz.out ?_)
    | (go_at_call 33; (with_reducible refine (HW.out _).mono ?_); rintro e w5 ⟨rfl, hx5⟩; have hbz5 := hbz4.ext hx5; have hbq5 := hbq4.ext hx5; have hbr5 := hbr4.ext hx5))
  have hne1 : gz ≠ gq := by have := hbz1.lt; omega
  have hne2 : gz ≠ gr := by have := hbz2.lt; omega
  have hxx : Ext w w5 := ((((hx1.trans hx2).trans hx3).trans hx4).trans hx5)
  have hw02 : w.heap.size ≤ gr := by have := hx1.size; have := hx2.size; omega
  clear hbz1 hbz2 hbz3 hbz4 hbq2 hbq3 hbq4 hbr3 hbr4 hx1 hx2 hx3 hx4 hx5
  go_loopw [16] (fun i wr => ∃ k : Nat, k ≤ 64 ∧ i = .int .i64 k ∧ Blk wr gz 24 (bv (List.zipWith downF (zs.take k) (qs.take k) ++ zs.drop k)) ∧ Blk wr gq 24 cq ∧ Blk wr gr 24 (bv zeros64) ∧ Ext w wr) (fun i _ => 64 - (intOf i).toNat)
  case atStart => exact ⟨0, by omega, rfl, by rw [← HZC.out] at hbz5; simpa using hbz5, hbq5, hbr5, hxx⟩
  case round =>
    obtain ⟨k, hk, rfl, hb1, hb2, hb3, hxr⟩ := hrel
    by_cases hlt : k < 64
    · have hzl : k < zs.length := by have := HZ.out; omega
      have hql : k < qs.length := by have := HQ.out; omega
      have hlq : wr.cell? ⟨gq, k, none⟩ = some (.int .i64 qs[k]) := (hb2.cell k).trans (by rw [← HQC.out]; exact bv_at qs k hql)
      have hlz : wr.cell? ⟨gz, k, none⟩ = some (.int .i64 zs[k]) := (hb1.cell k).trans (zip_mid downF zs qs k HZ.out HQ.out hlt hzl)
      obtain ⟨z1, z2⟩ := allIn_iff.1 H2.out zs[k] (List.getElem_mem hzl)
      obtain ⟨q1, q2⟩ := allIn_iff.1 H1.out qs[k] (List.getElem_mem hql)
      have hfr := hb1.frozen k
      go_wp2_with fail
      go_still_tail 10, (by kernel_rfl)
      still_call (calls_turn (rround_any zs[k] qs[k] _ (by omega) (by omega) q1 (by omega)))
      repeat still_step
      still_call (calls_turn (clamp_any (rnd zs[k] qs[k]) (-2047) 2047 _))
      repeat still_step
      refine wpStill_nil ?_
      have hlz' : wr.drew.cell? ⟨gz, k, none⟩ = some (.int .i64 zs[k]) := hlz
      have hfr' : wr.drew.frozen? ⟨gz, k, none⟩ = false := hfr
      have hb1' := hb1.drew
      have hb2' := hb2.drew
      have hb3' := hb3.drew
      have hxr' := hxr.drew
      change wpList _ _ _ _ _ wr.drew
      generalize wr.drew = w6 at *
      go_wp2_with fail
      go_roundw
      case rel =>
        refine ⟨k + 1, by omega, by go_num, ?_, hb2'.far (p := ⟨gz, k, none⟩) (by simpa using hne1.symm) _, hb3'.far (p := ⟨gz, k, none⟩) (by simpa using hne2.symm) _, hxr'.setCell (by omega) _⟩
        have := hb1'.set_ k (.int .i64 (downF zs[k] qs[k]))
        rwa [bv_set, zip_set downF zs qs k hzl hql] at this
      case measure => simp [intOf]; omega
    · obtain rfl : k = 64 := by omega
      have hfin : List.zipWith downF (zs.take 64) (qs.take 64) ++ zs.drop 64 = List.zipWith downF zs qs := by
        rw [List.take_of_length_le (by have := HZ.out; omega), List.take_of_length_le (by have := HQ.out; omega), List.drop_eq_nil_of_le (by have := HZ.out; omega), List.append_nil]
      have hlz : (bv (List.zipWith downF zs qs)).size = 64 := by have := HZ.out; have := HQ.out; rw [bv_size]; simp; omega
      rw [hfin] at hb1
      have hone := bv_one (List.zipWith downF zs qs)
      generalize hcr : bv (List.zipWith downF zs qs) = cr at *
      have HCR := hid_ hcr
      have hlz' := hid_ hlz
      have hone' := hid_ hone
      clear hfin hlz hone hcr
      go_wp2_with (first
        | (refine wpList_load_blk rfl 24 (.tmp 2) rfl _ rfl hb1 _ Try.underlying24 rfl 64 size48 hlz'.out ?_)
        | (refine wpList_store_blk rfl 24 (.tmp 4) (.tmp 30) rfl _ _ rfl rfl hb3 64 size48 hlz'.out (by rw [bv_size]; rfl) hone'.out ?_; intro w7 hb7 hg7))
      refine ret_cell_tmp rfl rfl _ rfl hb7 _ Try.underlying24 rfl 64 size48 hlz'.out ⟨by rw [HCR.out]; rfl, hxr.grown hg7 hw02⟩
set_option maxHeartbeats 400000 in
theorem rdown_out (zs qs : List Int) (w : World) (hz : zs.length = 64) (hq : qs.length = 64)
    (h : allIn qs 1 255 = false ∨ (allIn qs 1 255 = true ∧ allIn zs (-40000) 40000 = false)) :
    Calls Try.prog 58 #[.agg (bv zs), .agg (bv qs)] w fun e w' => e = .returned (.tuple #[.agg (bv zeros64), .int .i64 1]) ∧ Ext w w' := by
  have HC := hid_ (fun W => blockWithin_any qs 1 255 W hq)
  have HW := hid_ (fun W => blockWithin_any zs (-40000) 40000 W hz)
  have hsz := hid_ ((bv_size zs).trans hz)
  have hsq := hid_ ((bv_size qs).trans hq)
  have hs0 : Hid ((bv zeros64).size = 64) := hid_ (by rw [bv_size]; rfl)
  have ho0 := hid_ (bv_one zeros64)
  have hbt := hid_ built48
  generalize bv zs = cz at *
  generalize bv qs = cq at *
  generalize hc0 : bv zeros64 = c0 at *
  have HC0 := hid_ hc0
  clear hz hq hc0
  rcases h with h | ⟨h, h2⟩
  · rw [h] at HC
    clear h
    go_enter Try.func58, Try.ntmps58
    go_wp2_with (first
      | (refine wpList_box_abs rfl 24 (.tmp 0) rfl cz rfl ?_; intro w1 gz hbz1 hx1 hgz)
      | (refine wpList_box_abs rfl 24 (.tmp 1) rfl cq rfl ?_; intro w2 gq hbq2 hx2 hgq; have hbz2 := hbz1.ext hx2)
      | (refine wpList_alloc_abs rfl 24 rfl _ zero48 ?_; intro w3 gr hbr3 hx3 hgr; have hbz3 := hbz2.ext hx3; have hbq3 := hbq2.ext hx3)
      | (refine wpList_load_blk rfl 24 (.tmp 3) rfl _ rfl hbq3 _ Try.underlying24 rfl 64 size48 hsq.out ?_)
      | (go_at_call 33; (with_reducible refine (HC.out _).mono ?_); rintro e w4 ⟨rfl, hx4⟩; have hbr4 := hbr3.ext hx4)
      | (refine wpList_build0 rfl 24 rfl _ hbt.out ?_)
      | (refine wpList_store_blk rfl 24 (.tmp 4) (.tmp 15) rfl _ _ rfl rfl hbr4 64 size48 hs0.out (by rw [show (Value.agg (bv zeros64)).cells = bv zeros64 from rfl, HC0.out]; exact hs0.out) ho0.out ?_; intro w7 hb7 hg7))
    exact ret_cell_tmp rfl rfl _ rfl hb7 _ Try.underlying24 rfl 64 size48 hs0.out ⟨rfl, (((hx1.trans hx2).trans hx3).trans hx4).grown hg7 (by have := hx1.size; have := hx2.size; omega)⟩
  · rw [h] at HC
    rw [h2] at HW
    clear h h2
    go_enter Try.func58, Try.ntmps58
    go_wp2_with (first
      | (refine wpList_box_abs rfl 24 (.tmp 0) rfl cz rfl ?_; intro w1 gz hbz1 hx1 hgz)
      | (refine wpList_box_abs rfl 24 (.tmp 1) rfl cq rfl ?_; intro w2 gq hbq2 hx2 hgq; have hbz2 := hbz1.ext hx2)
      | (refine wpList_alloc_abs rfl 24 rfl _ zero48 ?_; intro w3 gr hbr3 hx3 hgr; have hbz3 := hbz2.ext hx3; have hbq3 := hbq2.ext hx3)
      | (refine wpList_load_blk rfl 24 (.tmp 3) rfl _ rfl hbq3 _ Try.underlying24 rfl 64 size48 hsq.out ?_)
      | (go_at_call 33; (with_reducible refine (HC.out _).mono ?_); rintro e w4 ⟨rfl, hx4⟩; have hbz4 := hbz3.ext hx4; have hbr4 := hbr3.ext hx4)
      | (refine wpList_load_blk_g (by rfl) 24 (.tmp 2) rfl _ rfl hbz4 _ Try.underlying24 rfl 64 size48 hsz.out ?_)
      | (go_at_call 33; (with_reducible refine (HW.out _).mono ?_); rintro e w5 ⟨rfl, hx5⟩; have hbr5 := hbr4.ext hx5)
      | (refine wpList_build0 rfl 24 rfl _ hbt.out ?_)
      | (refine wpList_store_blk rfl 24 (.tmp 4) (.tmp 15) rfl _ _ rfl rfl hbr5 64 size48 hs0.out (by rw [show (Value.agg (bv zeros64)).cells = bv zeros64 from rfl, HC0.out]; exact hs0.out) ho0.out ?_; intro w7 hb7 hg7))
    exact ret_cell_tmp rfl rfl _ rfl hb7 _ Try.underlying24 rfl 64 size48 hs0.out ⟨rfl, ((((hx1.trans hx2).trans hx3).trans hx4).trans hx5).grown hg7 (by have := hx1.size; have := hx2.size; omega)⟩
theorem rdown_any (zs qs : List Int) (w : World) (hz : zs.length = 64) (hq : qs.length = 64) :
    Calls Try.prog 58 #[.agg (bv zs), .agg (bv qs)] w fun e w' => e = .returned (.tuple #[.agg (bv (bothZ downF zs qs 40000).1), .int .i64 (bothZ downF zs qs 40000).2]) ∧ Ext w w' := by
  unfold bothZ
  cases h1 : allIn qs 1 255 with
  | false => simpa using rdown_out zs qs w hz hq (Or.inl h1)
  | true =>
    cases h2 : allIn zs (-40000) 40000 with
    | false => simpa using rdown_out zs qs w hz hq (Or.inr ⟨h1, h2⟩)
    | true => simpa using rdown_in zs qs w hz hq h1 h2
end Go.Proofs.Ytkfdkkhhkciocaa
/- plane.area: check, across. -/
namespace Go.Proofs.Ytkfdkkhhkciocaa
set_option linter.unusedVariables false
set_option linter.unusedSimpArgs false
open Go.RowKit
theorem sizeArea : (Try.prog.info? 134).map (·.size) = some 2 := by kernel_rfl
def areaV (wd hi : Int) : Array Value := #[.int .i64 wd, .int .i64 hi]
def sidesZ (wd hi : Int) : Int := if inB wd 1 64 && inB hi 1 64 then 0 else 1
theorem inB_val (n lo hi : Int) : inB n lo hi = (!decide (n < lo) && !decide (hi < n)) := by
  rw [Bool.eq_iff_iff, inB_iff]
  simp
theorem area_cells {w : World} {g : Nat} {T : TypeId} {wd hi : Int} (h : Blk w g T (areaV wd hi)) : w.cell? ⟨g, 0, none⟩ = some (.int .i64 wd) ∧ w.cell? ⟨g, 1, none⟩ = some (.int .i64 hi) := by
  rw [h.cell, h.cell]
  exact ⟨rfl, rfl⟩
set_option maxRecDepth 20000 in
set_option maxHeartbeats 1000000 in
theorem areaCheck_any (wd hi : Int) (w : World) :
    Calls Try.prog 84 #[.agg (areaV wd hi)] w fun e w' => e = .returned (.int .i64 (sidesZ wd hi)) ∧ Ext w w' := by
  have HC := hid_ (fun W g (h : Blk W g 134 (areaV wd hi)) => area_cells h)
  have e : sidesZ wd hi = if wd < 1 then 1 else if 64 < wd then 1 else if hi < 1 then 1 else if 64 < hi then 1 else 0 := by
    unfold sidesZ
    rw [inB_val, inB_val]
    by_cases h1 : wd < 1 <;> by_cases h2 : 64 < wd <;> by_cases h3 : hi < 1 <;> by_cases h4 : 64 < hi <;> simp [h1, h2, h3, h4]
  rw [e]
  clear e
  generalize areaV wd hi = av at *
  by_cases h1 : wd < 1
  · rw [if_pos h1]
    go_enter Try.func84, Try.ntmps84
    go_wp2_with (refine wpList_box_abs rfl 134 (.tmp 0) rfl av rfl ?_; intro w1 g hb1 hx1 hg; obtain ⟨c0, c1⟩ := HC.out _ _ hb1)
    go_ret
    exact ⟨rfl, hx1⟩
  · rw [if_neg h1]
    by_cases h2 : 64 < wd
    · rw [if_pos h2]
      go_enter Try.func84, Try.ntmps84
      go_wp2_with (refine wpList_box_abs rfl 134 (.tmp 0) rfl av rfl ?_; intro w1 g hb1 hx1 hg; obtain ⟨c0, c1⟩ := HC.out _ _ hb1)
      go_ret
      exact ⟨rfl, hx1⟩
    · rw [if_neg h2]
      by_cases h3 : hi < 1
      · rw [if_pos h3]
        go_enter Try.func84, Try.ntmps84
        go_wp2_with (refine wpList_box_abs rfl 134 (.tmp 0) rfl av rfl ?_; intro w1 g hb1 hx1 hg; obtain ⟨c0, c1⟩ := HC.out _ _ hb1)
        go_ret
        exact ⟨rfl, hx1⟩
      · rw [if_neg h3]
        by_cases h4 : 64 < hi
        · rw [if_pos h4]
          go_enter Try.func84, Try.ntmps84
          go_wp2_with (refine wpList_box_abs rfl 134 (.tmp 0) rfl av rfl ?_; intro w1 g hb1 hx1 hg; obtain ⟨c0, c1⟩ := HC.out _ _ hb1)
          go_ret
          exact ⟨rfl, hx1⟩
        · rw [if_neg h4]
          go_enter Try.func84, Try.ntmps84
          go_wp2_with (refine wpList_box_abs rfl 134 (.tmp 0) rfl av rfl ?_; intro w1 g hb1 hx1 hg; obtain ⟨c0, c1⟩ := HC.out _ _ hb1)
          go_ret
          exact ⟨rfl, hx1⟩
theorem across_any (wd : Nat) (hi : Int) (w : World) (h1 : 1 ≤ wd) (h2 : wd ≤ 64) :
    Calls Try.prog 115 #[.agg (areaV wd hi)] w fun e w' => e = .returned (.int .i64 (((wd + 7) / 8 : Nat) : Int)) ∧ Ext w w' := by
  have HC := hid_ (fun W g (h : Blk W g 134 (areaV wd hi)) => area_cells h)
  generalize areaV wd hi = av at *
  go_enter Try.func115, Try.ntmps115
  go_wp2_with (refine wpList_box_abs rfl 134 (.tmp 0) rfl av rfl ?_; intro w1 g hb1 hx1 hg; obtain ⟨c0, c1⟩ := HC.out _ _ hb1)
  go_ret
  refine ⟨?_, hx1⟩
  congr 2
  go_num
theorem sidesCheck_any (wd hi : Int) (w : World) :
    Calls Try.prog 95 #[.int .i64 wd, .int .i64 hi] w fun e w' => e = .returned (.int .i64 (sidesZ wd hi)) ∧ w = w' := by
  have W1 := hid_ (fun W => outside_any wd 1 64 W)
  have W2 := hid_ (fun W => outside_any hi 1 64 W)
  unfold sidesZ
  generalize inB wd 1 64 = b1 at *
  generalize inB hi 1 64 = b2 at *
  cases b1 with
  | false =>
    go_enter Try.func95, Try.ntmps95
    go_wp2_with (first
      | (go_at_call 28; (with_reducible refine (W1.out _).mono ?_); rintro e w2 ⟨rfl, rfl⟩)
      | (go_at_call 28; (with_reducible refine (W2.out _).mono ?_); rintro e w2 ⟨rfl, rfl⟩))
    go_ret
    exact ⟨rfl, rfl⟩
  | true =>
    cases b2 with
    | false =>
      go_enter Try.func95, Try.ntmps95
      go_wp2_with (first
        | (go_at_call 28; (with_reducible refine (W1.out _).mono ?_); rintro e w2 ⟨rfl, rfl⟩)
        | (go_at_call 28; (with_reducible refine (W2.out _).mono ?_); rintro e w2 ⟨rfl, rfl⟩))
      go_ret
      exact ⟨rfl, rfl⟩
    | true =>
      go_enter Try.func95, Try.ntmps95
      go_wp2_with (first
        | (go_at_call 28; (with_reducible refine (W1.out _).mono ?_); rintro e w2 ⟨rfl, rfl⟩)
        | (go_at_call 28; (with_reducible refine (W2.out _).mono ?_); rintro e w2 ⟨rfl, rfl⟩))
      go_ret
      exact ⟨rfl, rfl⟩
end Go.Proofs.Ytkfdkkhhkciocaa
/- plane.area: many, place; plane.Many. -/
namespace Go.Proofs.Ytkfdkkhhkciocaa
set_option linter.unusedVariables false
set_option linter.unusedSimpArgs false
open Go.RowKit
theorem areaV_size (wd hi : Int) : (areaV wd hi).size = 2 := rfl
set_option maxRecDepth 20000 in
set_option maxHeartbeats 1000000 in
theorem many_any (wd hi : Nat) (w : World) (h1 : 1 ≤ wd) (h2 : wd ≤ 64) (h3 : 1 ≤ hi) (h4 : hi ≤ 64) :
    Calls Try.prog 87 #[.agg (areaV wd hi)] w fun e w' => e = .returned (.int .i64 (((wd + 7) / 8 * ((hi + 7) / 8) : Nat) : Int)) ∧ Ext w w' := by
  have HC := hid_ (fun W g (h : Blk W g 134 (areaV wd hi)) => area_cells h)
  have HA := hid_ (fun W => across_any wd hi W h1 h2)
  have hts := hid_ (areaV_size wd hi)
  have hm : (wd + 7) / 8 * ((hi + 7) / 8) ≤ 8 * 8 := Nat.mul_le_mul (by omega) (by omega)
  generalize areaV wd hi = av at *
  go_enter Try.func87, Try.ntmps87
  go_wp2_with (refine wpList_box_abs rfl 134 (.tmp 0) rfl av rfl ?_; intro w1 g hb1 hx1 hg)
  have hx1' := hx1.drew
  have hb1' := hb1.drew
  refine wp_region_lx later_ext (by kernel_rfl) (by kernel_rfl) ?_
  refine lx_load_blk (by rfl) 134 (.tmp 1) rfl g rfl (fun w h => hb1'.ext h) _ Try.underlying134 rfl 2 sizeArea hts.out ?_
  simp only [Act.put, List.setIfInBounds_toArray, List.set_cons_succ, List.set_cons_zero]
  refine lx_callF (by rfl) 115 Try.func115 rfl rfl _ _ rfl #[.agg av] (by simp [Act.eval]) (.int .i64 (((wd + 7) / 8 : Nat) : Int)) (fun W h => HA.out W) ?_
  simp only [Act.put, List.setIfInBounds_toArray, List.set_cons_succ, List.set_cons_zero]
  refine lx_ex (by rfl) ?_; apply Exists.intro; refine ⟨fun w hw => ?_, ?_⟩; · (go_simp; with_reducible rfl)
  simp only [Act.put, List.setIfInBounds_toArray, List.set_cons_succ, List.set_cons_zero]
  refine lx_ex (by rfl) ?_; apply Exists.intro; refine ⟨fun w hw => ?_, ?_⟩; · (obtain ⟨c0, c1⟩ := HC.out _ _ (hb1'.ext hw); go_simp; with_reducible rfl)
  simp only [Act.put, List.setIfInBounds_toArray, List.set_cons_succ, List.set_cons_zero]
  refine lx_binOp (by rfl) .add 3 _ _ _ rfl (.int .i64 (hi : Int)) (.int .i64 ((8 : Nat) : Int)) rfl rfl (.int .i64 ((hi + 8 : Nat) : Int)) (guardN _ _ _ _ _) (run_addN _ _ (by omega)) ?_
  simp only [Act.put, List.setIfInBounds_toArray, List.set_cons_succ, List.set_cons_zero]
  refine lx_binOp (by rfl) .sub 3 _ _ _ rfl (.int .i64 ((hi + 8 : Nat) : Int)) (.int .i64 ((1 : Nat) : Int)) rfl rfl (.int .i64 ((hi + 7 : Nat) : Int)) (guardN _ _ _ _ _) (run_subN (hi + 8) 1 (by omega) (by omega)) ?_
  simp only [Act.put, List.setIfInBounds_toArray, List.set_cons_succ, List.set_cons_zero]
  refine lx_binOp (by rfl) .quo 3 _ _ _ rfl (.int .i64 ((hi + 7 : Nat) : Int)) (.int .i64 ((8 : Nat) : Int)) rfl rfl (.int .i64 (((hi + 7) / 8 : Nat) : Int)) (guardN _ _ _ _ _) (run_quoN _ _ (by omega) (by omega)) ?_
  simp only [Act.put, List.setIfInBounds_toArray, List.set_cons_succ, List.set_cons_zero]
  refine lx_binOp (by rfl) .mul 3 _ _ _ rfl (.int .i64 (((wd + 7) / 8 : Nat) : Int)) (.int .i64 (((hi + 7) / 8 : Nat) : Int)) rfl rfl (.int .i64 (((wd + 7) / 8 * ((hi + 7) / 8) : Nat) : Int)) (guardN _ _ _ _ _) (run_mulN _ _ _ rfl (by omega)) ?_
  simp only [Act.put, List.setIfInBounds_toArray, List.set_cons_succ, List.set_cons_zero]
  generalize hmm : (wd + 7) / 8 * ((hi + 7) / 8) = m at *
  have HMM := hid_ hmm
  clear hmm
  repeat (refine lx_ex (by rfl) ?_; apply Exists.intro; refine ⟨fun w hw => ?_, ?_⟩; · (go_simp; with_reducible rfl)
          simp only [Act.put, List.setIfInBounds_toArray, List.set_cons_succ, List.set_cons_zero])
  refine lx_nil ?_
  intro w3 hx3
  go_wp2_with fail
  go_ret
  rw [HMM.out]
  exact ⟨rfl, hx1'.trans hx3⟩
end Go.Proofs.Ytkfdkkhhkciocaa
