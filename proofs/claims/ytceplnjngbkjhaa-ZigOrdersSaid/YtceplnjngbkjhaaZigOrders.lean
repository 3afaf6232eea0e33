/- The walk of the law ZigOrders. -/
import Derived.Test.YtceplnjngbkjhaaZigOrder
namespace Go.Proofs.Ytceplnjngbkjhaa.zigOrders
open Go.RowKit
theorem walk (w : World) : Calls Try.prog 7 #[] w fun e w' => e = .returned (.bool true) ∧ Ext w w' := by
  have HE := hid_ (fun W u v (h1 : SL W 1 u 64 (ints zigL)) (h2 : SL W 1 v 64 (ints zigL)) => eqInt_any u v zigL zigL W (by rw [zigL_len]; exact h1) (by rw [zigL_len]; exact h2))
  simp only [decide_true] at HE
  go_enter Try.func7, Try.ntmps7
  go_wp2_with (first
    | (go_at_call 23; refine (zOrder_any _).mono ?_; rintro e w1 ⟨v1, rfl, hs1, hx1⟩)
    | (go_at_call 24; refine (rzigOrder_any _).mono ?_; rintro e w2 ⟨v2, rfl, hs2, hx2⟩; have hs12 := hs1.ext hx2)
    | (go_at_call 15; refine (HE.out _ _ _ hs12 hs2).mono ?_; rintro e w3 ⟨rfl, rfl⟩))
  go_ret
  exact ⟨rfl, hx1.trans hx2⟩
end Go.Proofs.Ytceplnjngbkjhaa.zigOrders
