/- The walk of the law QuantScales. -/
import Derived.Test.YtceplnjngbkjhaaEqArr
import Derived.Test.YtceplnjngbkjhaaQuantScale
import Derived.Test.YtceplnjngbkjhaaOpen
namespace Go.Proofs.Ytceplnjngbkjhaa.quantScales
open Go.RowKit
set_option maxHeartbeats 400000 in
theorem walk (zs : List Int) (hz : zs.length = 64) (_ : ∀ z ∈ zs, inI64 z) (p : Int) (_ : (Lit.int .i64 p).wf = true) (w : World) :
    Calls Try.prog 12 #[.agg (bv zs), .int .i64 p] w fun e w' => e = .returned (.bool true) ∧ Ext w w' := by
  have HU := hid_ (fun W => scale_any zs p W hz)
  have HR := hid_ (fun W => rscale_any zs p W hz)
  have HC := hid_ (fun W => qcheck_any zeros64 W rfl)
  have hal : allIn zeros64 1 255 = false := by decide
  rw [hal] at HC
  have hsz := hid_ ((bv_size zs).trans hz)
  have hsr := hid_ ((bv_size _).trans (scaleZ_len zs p hz))
  have hor := hid_ (bv_one (scaleZ zs p).1)
  have heq := fun W => eqIn48_same W _ (scaleZ_len zs p hz)
  have hgd := fun W op x y xs ys => run_guard48 W op x y xs ys
  have hs0 : Hid ((Value.agg (bv zeros64)).cells.size = 64) := hid_ (by rw [show (Value.agg (bv zeros64)).cells = bv zeros64 from rfl, bv_size]; rfl)
  have hbt := hid_ built48
  have hz0 := zero48
  have HZ0 := hid_ hz0
  generalize bv (scaleZ zs p).1 = cr at *
  generalize (scaleZ zs p).2 = er at *
  generalize bv zs = cz at *
  generalize bv zeros64 = c0 at *
  clear hz hal hz0
  go_enter Try.func12, Try.ntmps12
  go_wp2_with (first
    | (refine wpList_box_abs rfl 48 (.tmp 0) rfl cz rfl ?_; intro w1 gz hbz1 hx1 hgz)
    | (refine wpList_load_blk rfl 48 (.tmp 2) rfl _ rfl hbz1 _ Try.underlying48 rfl 64 size48 hsz.out ?_)
    | (go_at_call 37; (with_reducible refine (HU.out _).mono ?_); rintro e w3 ⟨rfl, hx3⟩; have hbz3 := hbz1.ext hx3)
    | (refine wpList_alloc_abs' rfl (some 5) rfl 48 rfl _ HZ0.out ?_; intro w4 ga hba4 hx4 hga; have hbz4 := hbz3.ext hx4)
    | (refine wpList_store_blk rfl 48 (.tmp 5) (.tmp 13) rfl _ _ rfl rfl hba4 64 size48 hsr.out hs0.out hor.out ?_; intro w5 hba5 hg5; have hbz5 := hbz4.grown hg5 (by have := hbz3.lt; simp; omega))
    | (refine wpList_load_blk rfl 48 (.tmp 2) rfl _ rfl hbz5 _ Try.underlying48 rfl 64 size48 hsz.out ?_)
    | (go_at_call 38; (with_reducible refine (HR.out _).mono ?_); rintro e w6 ⟨rfl, hx6⟩; have hba6 := hba5.ext hx6)
    | (refine wpList_alloc_abs' rfl (some 7) rfl 48 rfl _ HZ0.out ?_; intro w7 gb hbb7 hx7 hgb; have hba7 := hba6.ext hx7)
    | (refine wpList_store_blk rfl 48 (.tmp 7) (.tmp 19) rfl _ _ rfl rfl hbb7 64 size48 hsr.out hs0.out hor.out ?_; intro w8 hbb8 hg8; have hba8 := hba7.grown hg8 (by have := hba6.lt; simp; omega))
    | (refine wpList_load_blk rfl 48 (.tmp 5) rfl _ rfl hba8 _ Try.underlying48 rfl 64 size48 hsr.out ?_)
    | (refine wpList_load_blk rfl 48 (.tmp 7) rfl _ rfl hbb8 _ Try.underlying48 rfl 64 size48 hsr.out ?_)
    | (refine wpList_build0_g (by rfl) 48 rfl _ hbt.out ?_)
    | (go_at_call 36; (with_reducible refine (HC.out _).mono ?_); rintro e w9 ⟨rfl, hx9⟩))
  go_ret
  have hA := ((hx1.trans hx3).trans hx4).grown hg5 (by have := hx1.size; have := hx3.size; omega)
  have hB := ((hA.trans hx6).trans hx7).grown hg8 (by have := hA.size; have := hx6.size; omega)
  exact ⟨rfl, hB.trans hx9⟩
end Go.Proofs.Ytceplnjngbkjhaa.quantScales
