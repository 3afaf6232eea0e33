/- The walk of the law WaveTo. -/
import Derived.Test.YtpkaimpidhcoiaaRefWave
import Derived.Test.YtpkaimpidhcoiaaEqArr
import Derived.Test.YtpkaimpidhcoiaaOpen
namespace Go.Proofs.Ytpkaimpidhcoiaa.waveTo
set_option linter.unusedVariables false
set_option linter.unusedSimpArgs false
open Go.RowKit
set_option maxHeartbeats 400000 in
theorem walk (zs : List Int) (hz : zs.length = 64) (_ : ∀ z ∈ zs, inI64 z) (w : World) :
    Calls Try.prog 6 #[.agg (bv zs)] w fun e w' => e = .returned (.bool true) ∧ Ext w w' := by
  have HU := hid_ (fun W => waveTo_any zs W hz)
  have HR := hid_ (fun W => rwaveTo_any zs W hz)
  have H8 := hid_ (fun W => basisX_out 8 0 W (by omega))
  have hsz := hid_ ((bv_size zs).trans hz)
  have hsr := hid_ ((bv_size _).trans (waveR_len toC zs))
  have hor := hid_ (bv_one (waveR toC zs).1)
  have heq := fun W => eqIn48_same W _ (waveR_len toC zs)
  have hgd := fun W op x y xs ys => run_guard48 W op x y xs ys
  have hs0 : Hid ((Value.agg (bv zeros64)).cells.size = 64) := hid_ (by rw [show (Value.agg (bv zeros64)).cells = bv zeros64 from rfl, bv_size]; rfl)
  have hz0 := zero48
  have HZ0 := hid_ hz0
  generalize bv (waveR toC zs).1 = cr at *
  generalize (waveR toC zs).2 = er at *
  generalize bv zs = cz at *
  generalize bv zeros64 = c0 at *
  clear hz hz0
  go_enter Try.func6, Try.ntmps6
  go_wp2_with (first
    | (refine wpList_box_abs rfl 27 (.tmp 0) rfl cz rfl ?_; intro w1 gz hbz1 hx1 hgz)
    | (refine wpList_load_blk rfl 27 (.tmp 1) rfl _ rfl hbz1 _ Try.underlying27 rfl 64 size48 hsz.out ?_)
    | (go_at_call 16; (with_reducible refine (HU.out _).mono ?_); rintro e w3 ⟨rfl, hx3⟩; have hbz3 := hbz1.ext hx3)
    | (refine wpList_alloc_abs' rfl (some 3) rfl 27 rfl _ HZ0.out ?_; intro w4 ga hba4 hx4 hga; have hbz4 := hbz3.ext hx4)
    | (refine wpList_store_blk rfl 27 (.tmp 3) (.tmp 12) rfl _ _ rfl rfl hba4 64 size48 hsr.out hs0.out hor.out ?_; intro w5 hba5 hg5; have hbz5 := hbz4.grown hg5 (by have := hbz3.lt; simp; omega))
    | (refine wpList_load_blk rfl 27 (.tmp 1) rfl _ rfl hbz5 _ Try.underlying27 rfl 64 size48 hsz.out ?_)
    | (go_at_call 17; (with_reducible refine (HR.out _).mono ?_); rintro e w6 ⟨rfl, hx6⟩; have hba6 := hba5.ext hx6)
    | (refine wpList_alloc_abs' rfl (some 5) rfl 27 rfl _ HZ0.out ?_; intro w7 gb hbb7 hx7 hgb; have hba7 := hba6.ext hx7)
    | (refine wpList_store_blk rfl 27 (.tmp 5) (.tmp 17) rfl _ _ rfl rfl hbb7 64 size48 hsr.out hs0.out hor.out ?_; intro w8 hbb8 hg8; have hba8 := hba7.grown hg8 (by have := hba6.lt; simp; omega))
    | (go_at_call 18; (with_reducible refine (H8.out _).mono ?_); rintro e w9 ⟨rfl, hx9⟩; have hba9 := hba8.ext hx9; have hbb9 := hbb8.ext hx9)
    | (refine wpList_load_blk rfl 27 (.tmp 3) rfl _ rfl hba9 _ Try.underlying27 rfl 64 size48 hsr.out ?_)
    | (refine wpList_load_blk rfl 27 (.tmp 5) rfl _ rfl hbb9 _ Try.underlying27 rfl 64 size48 hsr.out ?_))
  go_ret
  have hA := ((hx1.trans hx3).trans hx4).grown hg5 (by have := hx1.size; have := hx3.size; omega)
  have hB := ((hA.trans hx6).trans hx7).grown hg8 (by have := hA.size; have := hx6.size; omega)
  exact ⟨rfl, hB.trans hx9⟩
end Go.Proofs.Ytpkaimpidhcoiaa.waveTo
