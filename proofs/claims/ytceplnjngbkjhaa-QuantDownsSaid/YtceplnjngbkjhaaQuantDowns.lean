/- The walk of the law QuantDowns. -/
import Derived.Test.YtceplnjngbkjhaaEqArr
import Derived.Test.YtceplnjngbkjhaaRefQuant
import Derived.Test.YtceplnjngbkjhaaOpen
namespace Go.Proofs.Ytceplnjngbkjhaa.quantDowns
open Go.RowKit
set_option maxHeartbeats 800000 in
theorem walk (zs : List Int) (hz : zs.length = 64) (_ : ∀ z ∈ zs, inI64 z) (qs : List Int) (hq : qs.length = 64) (_ : ∀ z ∈ qs, inI64 z) (w : World) :
    Calls Try.prog 13 #[.agg (bv zs), .agg (bv qs)] w fun e w' => e = .returned (.bool true) ∧ Ext w w' := by
  have HU := hid_ (fun W => down_any zs qs W hz hq)
  have HR := hid_ (fun W => rdown_any zs qs W hz hq)
  have HC := hid_ (fun W => qcheck_any zeros64 W rfl)
  have HQ := hid_ (fun W => qcheck_any qs W hq)
  have HB := hid_ (fun W => blockWithin_any qs 1 255 W hq)
  have hal : allIn zeros64 1 255 = false := by decide
  rw [hal] at HC
  have hsz := hid_ ((bv_size zs).trans hz)
  have hsq := hid_ ((bv_size qs).trans hq)
  have hsr := hid_ ((bv_size _).trans (bothZ_len downF zs qs 40000 hz hq))
  have hor := hid_ (bv_one (bothZ downF zs qs 40000).1)
  have heq := fun W => eqIn48_same W _ (bothZ_len downF zs qs 40000 hz hq)
  have hgd := fun W op x y xs ys => run_guard48 W op x y xs ys
  have hs0 : Hid ((Value.agg (bv zeros64)).cells.size = 64) := hid_ (by rw [show (Value.agg (bv zeros64)).cells = bv zeros64 from rfl, bv_size]; rfl)
  have hbt := hid_ built48
  have hz0 := zero48
  have HZ0 := hid_ hz0
  generalize bv (bothZ downF zs qs 40000).1 = cr at *
  generalize (bothZ downF zs qs 40000).2 = er at *
  generalize bv zs = cz at *
  generalize bv qs = cq at *
  generalize bv zeros64 = c0 at *
  clear hz hq hal hz0
  generalize allIn qs 1 255 = aq at *
  cases aq with
  | true =>
    go_enter Try.func13, Try.ntmps13
    go_wp2_with (first
      | (refine wpList_box_abs rfl 48 (.tmp 0) rfl cz rfl ?_; intro w1 gz hbz1 hx1 hgz)
      | (refine wpList_box_abs rfl 48 (.tmp 1) rfl cq rfl ?_; intro w2 gq hbq2 hx2 hgq; have hbz2 := hbz1.ext hx2)
      | (refine wpList_load_blk rfl 48 (.tmp 2) rfl _ rfl hbz2 _ Try.underlying48 rfl 64 size48 hsz.out ?_)
      | (refine wpList_load_blk rfl 48 (.tmp 3) rfl _ rfl hbq2 _ Try.underlying48 rfl 64 size48 hsq.out ?_)
      | (go_at_call 39; (with_reducible refine (HU.out _).mono ?_); rintro e w3 ⟨rfl, hx3⟩; have hbz3 := hbz2.ext hx3; have hbq3 := hbq2.ext hx3)
      | (refine wpList_alloc_abs' rfl (some 5) rfl 48 rfl _ HZ0.out ?_; intro w4 ga hba4 hx4 hga; have hbz4 := hbz3.ext hx4; have hbq4 := hbq3.ext hx4)
      | (refine wpList_store_blk rfl 48 (.tmp 5) (.tmp 14) rfl _ _ rfl rfl hba4 64 size48 hsr.out hs0.out hor.out ?_; intro w5 hba5 hg5; have hbz5 := hbz4.grown hg5 (by have := hbz3.lt; simp; omega); have hbq5 := hbq4.grown hg5 (by have := hbq3.lt; simp; omega))
      | (refine wpList_load_blk rfl 48 (.tmp 2) rfl _ rfl hbz5 _ Try.underlying48 rfl 64 size48 hsz.out ?_)
      | (refine wpList_load_blk rfl 48 (.tmp 3) rfl _ rfl hbq5 _ Try.underlying48 rfl 64 size48 hsq.out ?_)
      | (go_at_call 40; (with_reducible refine (HR.out _).mono ?_); rintro e w6 ⟨rfl, hx6⟩; have hba6 := hba5.ext hx6; have hbq6 := hbq5.ext hx6)
      | (refine wpList_alloc_abs' rfl (some 7) rfl 48 rfl _ HZ0.out ?_; intro w7 gb hbb7 hx7 hgb; have hba7 := hba6.ext hx7; have hbq7 := hbq6.ext hx7)
      | (refine wpList_store_blk rfl 48 (.tmp 7) (.tmp 20) rfl _ _ rfl rfl hbb7 64 size48 hsr.out hs0.out hor.out ?_; intro w8 hbb8 hg8; have hba8 := hba7.grown hg8 (by have := hba6.lt; simp; omega); have hbq8 := hbq7.grown hg8 (by have := hbq6.lt; simp; omega))
      | (refine wpList_load_blk rfl 48 (.tmp 3) rfl _ rfl hbq8 _ Try.underlying48 rfl 64 size48 hsq.out ?_)
      | (go_at_call 41; (with_reducible refine (HB.out _).mono ?_); rintro e w9 ⟨rfl, hx9⟩; have hba9 := hba8.ext hx9; have hbb9 := hbb8.ext hx9; have hbq9 := hbq8.ext hx9)
      | (refine wpList_load_blk rfl 48 (.tmp 5) rfl _ rfl hba9 _ Try.underlying48 rfl 64 size48 hsr.out ?_)
      | (refine wpList_load_blk rfl 48 (.tmp 7) rfl _ rfl hbb9 _ Try.underlying48 rfl 64 size48 hsr.out ?_)
      | (refine wpList_load_blk_g (by rfl) 48 (.tmp 3) rfl _ rfl hbq9 _ Try.underlying48 rfl 64 size48 hsq.out ?_)
      | (go_at_call 36; (with_reducible refine (HQ.out _).mono ?_); rintro e w10 ⟨rfl, hx10⟩)
      | (refine wpList_build0_g (by rfl) 48 rfl _ hbt.out ?_)
      | (go_at_call 36; (with_reducible refine (HC.out _).mono ?_); rintro e w11 ⟨rfl, hx11⟩))
    go_ret
    have hA := (((hx1.trans hx2).trans hx3).trans hx4).grown hg5 (by have := hx1.size; have := hx2.size; have := hx3.size; omega)
    have hB := ((hA.trans hx6).trans hx7).grown hg8 (by have := hA.size; have := hx6.size; omega)
    exact ⟨rfl, ((hB.trans hx9).trans hx10).trans hx11⟩
  | false =>
    go_enter Try.func13, Try.ntmps13
    go_wp2_with (first
      | (refine wpList_box_abs rfl 48 (.tmp 0) rfl cz rfl ?_; intro w1 gz hbz1 hx1 hgz)
      | (refine wpList_box_abs rfl 48 (.tmp 1) rfl cq rfl ?_; intro w2 gq hbq2 hx2 hgq; have hbz2 := hbz1.ext hx2)
      | (refine wpList_load_blk rfl 48 (.tmp 2) rfl _ rfl hbz2 _ Try.underlying48 rfl 64 size48 hsz.out ?_)
      | (refine wpList_load_blk rfl 48 (.tmp 3) rfl _ rfl hbq2 _ Try.underlying48 rfl 64 size48 hsq.out ?_)
      | (go_at_call 39; (with_reducible refine (HU.out _).mono ?_); rintro e w3 ⟨rfl, hx3⟩; have hbz3 := hbz2.ext hx3; have hbq3 := hbq2.ext hx3)
      | (refine wpList_alloc_abs' rfl (some 5) rfl 48 rfl _ HZ0.out ?_; intro w4 ga hba4 hx4 hga; have hbz4 := hbz3.ext hx4; have hbq4 := hbq3.ext hx4)
      | (refine wpList_store_blk rfl 48 (.tmp 5) (.tmp 14) rfl _ _ rfl rfl hba4 64 size48 hsr.out hs0.out hor.out ?_; intro w5 hba5 hg5; have hbz5 := hbz4.grown hg5 (by have := hbz3.lt; simp; omega); have hbq5 := hbq4.grown hg5 (by have := hbq3.lt; simp; omega))
      | (refine wpList_load_blk rfl 48 (.tmp 2) rfl _ rfl hbz5 _ Try.underlying48 rfl 64 size48 hsz.out ?_)
      | (refine wpList_load_blk rfl 48 (.tmp 3) rfl _ rfl hbq5 _ Try.underlying48 rfl 64 size48 hsq.out ?_)
      | (go_at_call 40; (with_reducible refine (HR.out _).mono ?_); rintro e w6 ⟨rfl, hx6⟩; have hba6 := hba5.ext hx6; have hbq6 := hbq5.ext hx6)
      | (refine wpList_alloc_abs' rfl (some 7) rfl 48 rfl _ HZ0.out ?_; intro w7 gb hbb7 hx7 hgb; have hba7 := hba6.ext hx7; have hbq7 := hbq6.ext hx7)
      | (refine wpList_store_blk rfl 48 (.tmp 7) (.tmp 20) rfl _ _ rfl rfl hbb7 64 size48 hsr.out hs0.out hor.out ?_; intro w8 hbb8 hg8; have hba8 := hba7.grown hg8 (by have := hba6.lt; simp; omega); have hbq8 := hbq7.grown hg8 (by have := hbq6.lt; simp; omega))
      | (refine wpList_load_blk rfl 48 (.tmp 3) rfl _ rfl hbq8 _ Try.underlying48 rfl 64 size48 hsq.out ?_)
      | (go_at_call 41; (with_reducible refine (HB.out _).mono ?_); rintro e w9 ⟨rfl, hx9⟩; have hba9 := hba8.ext hx9; have hbb9 := hbb8.ext hx9; have hbq9 := hbq8.ext hx9)
      | (refine wpList_load_blk rfl 48 (.tmp 5) rfl _ rfl hba9 _ Try.underlying48 rfl 64 size48 hsr.out ?_)
      | (refine wpList_load_blk rfl 48 (.tmp 7) rfl _ rfl hbb9 _ Try.underlying48 rfl 64 size48 hsr.out ?_)
      | (refine wpList_load_blk_g (by rfl) 48 (.tmp 3) rfl _ rfl hbq9 _ Try.underlying48 rfl 64 size48 hsq.out ?_)
      | (go_at_call 36; (with_reducible refine (HQ.out _).mono ?_); rintro e w10 ⟨rfl, hx10⟩)
      | (refine wpList_build0_g (by rfl) 48 rfl _ hbt.out ?_)
      | (go_at_call 36; (with_reducible refine (HC.out _).mono ?_); rintro e w11 ⟨rfl, hx11⟩))
    go_ret
    have hA := (((hx1.trans hx2).trans hx3).trans hx4).grown hg5 (by have := hx1.size; have := hx2.size; have := hx3.size; omega)
    have hB := ((hA.trans hx6).trans hx7).grown hg8 (by have := hA.size; have := hx6.size; omega)
    exact ⟨rfl, ((hB.trans hx9).trans hx10).trans hx11⟩
end Go.Proofs.Ytceplnjngbkjhaa.quantDowns
