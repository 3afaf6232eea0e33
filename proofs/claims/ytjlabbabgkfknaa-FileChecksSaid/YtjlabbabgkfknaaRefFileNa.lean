/- R.FileCheck: an argument out of its bounds. -/
import Derived.Test.YtjlabbabgkfknaaFile
namespace Go.Proofs.Ytjlabbabgkfknaa
set_option linter.unusedVariables false
set_option linter.unusedSimpArgs false
open Go.RowKit
set_option maxRecDepth 20000 in
set_option maxHeartbeats 4000000 in
theorem rfcheck_na (wd hi pt ev : Int) (qs : List Int) (t1 t2 : List Value) (sd : Value) (w : World) (hq : qs.length = 64) (h1 : t1.length = 17) (h2 : t2.length = 17) (k1 : inB wd 1 64 = false) :
    Calls Try.prog 18 #[.agg (fileL wd hi pt qs t1 t2 ev sd).toArray] w fun e w' => e = .returned (.int .i64 1) ∧ Ext w w' := by
  have HF := hid_ (fun W g (hb : Blk W g 50 (fileL wd hi pt qs t1 t2 ev sd).toArray) => fileB hb hq h1 h2)
  have W1 := hid_ (fun W => outside_any wd 1 64 W)
  have W2 := hid_ (fun W => outside_any hi 1 64 W)
  have W3 := hid_ (fun W => outside_any ev 0 100 W)
  generalize (fileL wd hi pt qs t1 t2 ev sd).toArray = fv at *
  generalize inB wd 1 64 = b1 at *
  generalize inB hi 1 64 = b2 at *
  generalize inB ev 0 100 = b3 at *
  subst k1
  go_enter Try.func18, Try.ntmps18
  go_wp2_with (first
    | (refine wpList_box_abs rfl 50 (.tmp 0) rfl fv rfl ?_; intro w1 g hb1 hx1 hg; obtain ⟨c0, c1, c2, -, -, -, -, c101, -⟩ := HF.out _ _ hb1)
    | (go_at_call 24; (with_reducible refine (W1.out _).mono ?_); rintro e w2 ⟨rfl, rfl⟩)
    | (go_at_call 24; (with_reducible refine (W2.out _).mono ?_); rintro e w2 ⟨rfl, rfl⟩)
    | (go_at_call 24; (with_reducible refine (W3.out _).mono ?_); rintro e w2 ⟨rfl, rfl⟩))
  go_ret
  exact ⟨rfl, hx1⟩
end Go.Proofs.Ytjlabbabgkfknaa
