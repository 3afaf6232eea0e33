/- quant.Up, quant.Down. -/
import Derived.Test.YtceplnjngbkjhaaQuantBoth
import Derived.Test.YtceplnjngbkjhaaQuantRound
namespace Go.Proofs.Ytceplnjngbkjhaa
open Go.RowKit
def upF (n d : Int) : Int := clampZ (n * d) (-40000) 40000
def downF (n d : Int) : Int := clampZ (rnd n d) (-2047) 2047
theorem mul_bd (n d m : Int) (hn1 : -m ≤ n) (hn2 : n ≤ m) (hd1 : 1 ≤ d) (hd2 : d ≤ 255) (hm : 0 ≤ m) : -(m * 255) ≤ n * d ∧ n * d ≤ m * 255 := by
  have h1 : n * d ≤ m * d := Int.mul_le_mul_of_nonneg_right hn2 (by omega)
  have h2 : m * d ≤ m * 255 := Int.mul_le_mul_of_nonneg_left hd2 hm
  have h3 : -m * d ≤ n * d := Int.mul_le_mul_of_nonneg_right hn1 (by omega)
  rw [Int.neg_mul] at h3
  omega
theorem bothZ_len (F : Int → Int → Int) (zs qs : List Int) (most : Int) (hz : zs.length = 64) (hq : qs.length = 64) : (bothZ F zs qs most).1.length = 64 := by
  unfold bothZ
  split <;> (try split) <;> simp [hz, hq, zeros64]
theorem up1_any (n d : Int) (w : World) (hn1 : -2047 ≤ n) (hn2 : n ≤ 2047) (hd1 : 1 ≤ d) (hd2 : d ≤ 255) :
    Calls Try.prog 56 (#[.int .i64 n, .int .i64 d] ++ #[]) w fun e w' => e = .returned (.int .i64 (upF n d)) ∧ w = w' := by
  obtain ⟨h1, h2⟩ := mul_bd n d 2047 hn1 hn2 hd1 hd2 (by omega)
  go_enter Try.func56, Try.ntmps56
  go_wp2_with (go_at_call 57; refine (within_any _ _ _ (by omega) (by omega)).mono ?_; rintro e w' ⟨rfl, rfl⟩)
  go_ret
  exact ⟨rfl, rfl⟩
theorem enters_up1 : Enters Try.prog 56 := enters_of Try.func56 (by kernel_rfl) rfl
set_option maxHeartbeats 400000 in
theorem up_any (zs qs : List Int) (w : World) (hz : zs.length = 64) (hq : qs.length = 64) :
    Calls Try.prog 34 #[.agg (bv zs), .agg (bv qs)] w fun e w' => e = .returned (.tuple #[.agg (bv (bothZ upF zs qs 2047).1), .int .i64 (bothZ upF zs qs 2047).2]) ∧ Ext w w' := by
  have HB := hid_ (fun W => both_any 56 upF enters_up1 zs qs 2047 W hz hq (by omega) (by omega) (fun n d W a b c e => up1_any n d W a b c e))
  have hsz := hid_ ((bv_size zs).trans hz)
  have hsq := hid_ ((bv_size qs).trans hq)
  have hsr := hid_ ((bv_size _).trans (bothZ_len upF zs qs 2047 hz hq))
  have hor := hid_ (bv_one (bothZ upF zs qs 2047).1)
  generalize bv (bothZ upF zs qs 2047).1 = cr at *
  generalize (bothZ upF zs qs 2047).2 = er at *
  generalize bv zs = cz at *
  generalize bv qs = cq at *
  clear hz hq
  go_enter Try.func34, Try.ntmps34
  go_wp2_with (first
    | (refine wpList_box_abs rfl 48 (.tmp 0) rfl cz rfl ?_; intro w1 gz hbz1 hx1 hgz)
    | (refine wpList_box_abs rfl 48 (.tmp 1) rfl cq rfl ?_; intro w2 gq hbq2 hx2 hgq; have hbz2 := hbz1.ext hx2)
    | (refine wpList_alloc_abs rfl 48 rfl _ zero48 ?_; intro w3 gr hbr3 hx3 hgr; have hbz3 := hbz2.ext hx3; have hbq3 := hbq2.ext hx3)
    | (refine wpList_load_blk rfl 48 (.tmp 2) rfl _ rfl hbz3 _ Try.underlying48 rfl 64 size48 hsz.out ?_)
    | (refine wpList_load_blk rfl 48 (.tmp 3) rfl _ rfl hbq3 _ Try.underlying48 rfl 64 size48 hsq.out ?_)
    | (go_at_call 55; refine (HB.out _).mono ?_; rintro e w4 ⟨rfl, hx4⟩; have hbr4 := hbr3.ext hx4)
    | (refine wpList_store_blk rfl 48 (.tmp 4) (.tmp 9) rfl _ _ rfl rfl hbr4 64 size48 hsr.out (by rw [show (Value.agg (bv zeros64)).cells = bv zeros64 from rfl, bv_size]; rfl) hor.out ?_; intro w7 hb7 hg7))
  exact ret_cell_tmp rfl rfl _ rfl hb7 _ Try.underlying48 rfl 64 size48 hsr.out ⟨rfl, (((hx1.trans hx2).trans hx3).trans hx4).grown hg7 (by have := hx1.size; have := hx2.size; omega)⟩
theorem down1_any (n d : Int) (w : World) (hn1 : -40000 ≤ n) (hn2 : n ≤ 40000) (hd1 : 1 ≤ d) (hd2 : d ≤ 255) :
    Calls Try.prog 62 (#[.int .i64 n, .int .i64 d] ++ #[]) w fun e w' => e = .returned (.int .i64 (downF n d)) ∧ w = w' := by
  go_enter Try.func62, Try.ntmps62
  go_wp2_with (first | (go_at_call 60; refine (round_any n d _ (by omega) (by omega) (by omega) (by omega)).mono ?_; rintro e w' ⟨rfl, rfl⟩) | (go_at_call 57; refine (within_any _ _ _ (by omega) (by omega)).mono ?_; rintro e w' ⟨rfl, rfl⟩))
  go_ret
  exact ⟨rfl, rfl⟩
theorem enters_down1 : Enters Try.prog 62 := enters_of Try.func62 (by kernel_rfl) rfl
set_option maxHeartbeats 400000 in
theorem down_any (zs qs : List Int) (w : World) (hz : zs.length = 64) (hq : qs.length = 64) :
    Calls Try.prog 39 #[.agg (bv zs), .agg (bv qs)] w fun e w' => e = .returned (.tuple #[.agg (bv (bothZ downF zs qs 40000).1), .int .i64 (bothZ downF zs qs 40000).2]) ∧ Ext w w' := by
  have HB := hid_ (fun W => both_any 62 downF enters_down1 zs qs 40000 W hz hq (by omega) (by omega) (fun n d W a b c e => down1_any n d W a b c e))
  have hsz := hid_ ((bv_size zs).trans hz)
  have hsq := hid_ ((bv_size qs).trans hq)
  have hsr := hid_ ((bv_size _).trans (bothZ_len downF zs qs 40000 hz hq))
  have hor := hid_ (bv_one (bothZ downF zs qs 40000).1)
  generalize bv (bothZ downF zs qs 40000).1 = cr at *
  generalize (bothZ downF zs qs 40000).2 = er at *
  generalize bv zs = cz at *
  generalize bv qs = cq at *
  clear hz hq
  go_enter Try.func39, Try.ntmps39
  go_wp2_with (first
    | (refine wpList_box_abs rfl 48 (.tmp 0) rfl cz rfl ?_; intro w1 gz hbz1 hx1 hgz)
    | (refine wpList_box_abs rfl 48 (.tmp 1) rfl cq rfl ?_; intro w2 gq hbq2 hx2 hgq; have hbz2 := hbz1.ext hx2)
    | (refine wpList_alloc_abs rfl 48 rfl _ zero48 ?_; intro w3 gr hbr3 hx3 hgr; have hbz3 := hbz2.ext hx3; have hbq3 := hbq2.ext hx3)
    | (refine wpList_load_blk rfl 48 (.tmp 2) rfl _ rfl hbz3 _ Try.underlying48 rfl 64 size48 hsz.out ?_)
    | (refine wpList_load_blk rfl 48 (.tmp 3) rfl _ rfl hbq3 _ Try.underlying48 rfl 64 size48 hsq.out ?_)
    | (go_at_call 55; refine (HB.out _).mono ?_; rintro e w4 ⟨rfl, hx4⟩; have hbr4 := hbr3.ext hx4)
    | (refine wpList_store_blk rfl 48 (.tmp 4) (.tmp 9) rfl _ _ rfl rfl hbr4 64 size48 hsr.out (by rw [show (Value.agg (bv zeros64)).cells = bv zeros64 from rfl, bv_size]; rfl) hor.out ?_; intro w7 hb7 hg7))
  exact ret_cell_tmp rfl rfl _ rfl hb7 _ Try.underlying48 rfl 64 size48 hsr.out ⟨rfl, (((hx1.trans hx2).trans hx3).trans hx4).grown hg7 (by have := hx1.size; have := hx2.size; omega)⟩
end Go.Proofs.Ytceplnjngbkjhaa
