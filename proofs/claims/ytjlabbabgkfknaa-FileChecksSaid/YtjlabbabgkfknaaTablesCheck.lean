/- TablesCheck of the reference. -/
import Derived.Test.YtjlabbabgkfknaaFile
import Derived.Test.YtjlabbabgkfknaaRefCheck
namespace Go.Proofs.Ytjlabbabgkfknaa
set_option linter.unusedVariables false
set_option linter.unusedSimpArgs false
open Go.RowKit
set_option maxRecDepth 20000 in
set_option maxHeartbeats 4000000 in
theorem tablesCheck_any (t1 t2 : List Value) (z1 z2 : Int) (w : World) (h1 : t1.length = 17) (h2 : t2.length = 17)
    (C1 : ∀ W, Ext w W → Calls Try.prog 38 #[.agg t1.toArray] W fun e W' => e = .returned (.int .i64 z1) ∧ Ext W W')
    (C2 : ∀ W, Ext w W → Calls Try.prog 38 #[.agg t2.toArray] W fun e W' => e = .returned (.int .i64 z2) ∧ Ext W W') :
    Calls Try.prog 33 #[.agg (t1 ++ t2).toArray] w fun e w' => e = .returned (.int .i64 (if z1 = 0 then z2 else z1)) ∧ Ext w w' := by
  have HRT := hid_ (fun W g (hb : Blk W g 47 (t1 ++ t2).toArray) => range_two h1 hb)
  have hl1 := hid_ h1
  have hl2 := hid_ h2
  have HC1 := hid_ C1
  have HC2 := hid_ C2
  clear C1 C2 h1 h2
  generalize htt : (t1 ++ t2).toArray = tt at *
  clear htt
  by_cases hz : z1 = 0
  · rw [if_pos hz]
    subst hz
    go_enter Try.func33, Try.ntmps33
    go_wp2_with (first
      | (refine wpList_box_abs rfl 47 (.tmp 0) rfl tt rfl ?_; intro w1 g hb1 hx1 hg; have hr1 := (HRT.out _ _ hb1).1)
      | (refine wpList_load_mid rfl 45 (.tmp 4) rfl g 0 rfl t1 _ hr1 Try.underlying45 rfl (by rw [hl1.out]; exact sizeTbl) ?_)
      | (go_at_call 38; (with_reducible refine (HC1.out _ hx1).mono ?_); rintro e w2 ⟨rfl, hx2⟩; have hr2 := (HRT.out _ _ (hb1.ext hx2)).2)
      | (refine wpList_load_mid rfl 45 (.tmp 10) rfl g 17 rfl t2 _ hr2 Try.underlying45 rfl (by rw [hl2.out]; exact sizeTbl) ?_)
      | (go_at_call 38; (with_reducible refine (HC2.out _ (hx1.trans hx2)).mono ?_); rintro e w3 ⟨rfl, hx3⟩))
    go_ret
    exact ⟨rfl, (hx1.trans hx2).trans hx3⟩
  · rw [if_neg hz]
    have hz1 : (z1 != 0) = true := by simpa using hz
    go_enter Try.func33, Try.ntmps33
    go_wp2_with (first
      | (refine wpList_box_abs rfl 47 (.tmp 0) rfl tt rfl ?_; intro w1 g hb1 hx1 hg; have hr1 := (HRT.out _ _ hb1).1)
      | (refine wpList_load_mid rfl 45 (.tmp 4) rfl g 0 rfl t1 _ hr1 Try.underlying45 rfl (by rw [hl1.out]; exact sizeTbl) ?_)
      | (go_at_call 38; (with_reducible refine (HC1.out _ hx1).mono ?_); rintro e w2 ⟨rfl, hx2⟩))
    go_ret
    exact ⟨rfl, hx1.trans hx2⟩
end Go.Proofs.Ytjlabbabgkfknaa
