/- The law BitsReads, walked. -/
import Derived.Test.YtbnjapgmpjkooaaRead
import Derived.Test.YtbnjapgmpjkooaaRefRead
import Derived.Test.YtbnjapgmpjkooaaEqInt
import Derived.Test.YtbnjapgmpjkooaaBuild1
namespace Go.Proofs.Ytbnjapgmpjkooaa.bitsReads
set_option linter.unusedVariables false
set_option linter.unusedSimpArgs false
open Go.RowKit
set_option maxRecDepth 20000 in
set_option maxHeartbeats 1000000 in
theorem walk (v : Value) (bs : List Nat) (hlt : ∀ b ∈ bs, b < 256) (hn : bs.length ≤ 1048576) (u : Value) (ws : List Int) (_ : ∀ z ∈ ws, inI64 z) (w : World) (hv : SL w 1 v bs.length (bytesV bs)) (hu : SL w 1 u ws.length (ints ws)) :
    Calls Try.prog 4 #[v, u] w fun e w' => e = .returned (.bool true) ∧ Ext w w' := by
  have H1 := hid_ (fun W (h : SL W 1 v bs.length (bytesV bs)) (h2 : SL W 1 u ws.length (ints ws)) => read_any bs ws v u W h hlt (by omega) h2)
  have H2 := hid_ (fun W (h : SL W 1 v bs.length (bytesV bs)) (h2 : SL W 1 u ws.length (ints ws)) => rread_any bs ws v u W h hlt (by omega) h2)
  have H3 := hid_ (fun x W (h : SL W 1 x 1 (ints [1])) => read_any [] [1] (.slice none 0 0) x W (SL.nil _ _) (by simp) (by simp) h)
  have e3 : rdZ (digsOf []) [1] = ([], 0, 3) := by decide
  rw [e3] at H3
  unfold RdIs at H1 H2 H3
  simp only [List.length_nil] at H3
  have HE := hid_ (fun W x y (a : SL W 1 x (rdZ (digsOf bs) ws).1.length (ints (rdZ (digsOf bs) ws).1)) (b : SL W 1 y (rdZ (digsOf bs) ws).1.length (ints (rdZ (digsOf bs) ws).1)) => (eqInt_any x y (rdZ (digsOf bs) ws).1 (rdZ (digsOf bs) ws).1 W a b).mono (fun e w' h => (⟨by rw [h.1]; simp, by rw [h.2]; exact Ext.refl _⟩ : e = .returned (.bool true) ∧ Ext W w')))
  generalize (rdZ (digsOf bs) ws).1 = out at *
  generalize (rdZ (digsOf bs) ws).2.1 = m at *
  generalize (rdZ (digsOf bs) ws).2.2 = z at *
  have e1 : (z == z) = true := by simp
  have e2 : (m == m) = true := by simp
  clear e3 hn hlt
  go_enter Try.func4, Try.ntmps4
  go_wp2_with (first
    | (go_at_call 11; (with_reducible refine (H1.out _ hv hu).mono ?_); rintro e w2 ⟨A, c, rfl, hs2, hx2⟩)
    | (go_at_call 12; (with_reducible refine (H2.out _ (hv.ext hx2) (hu.ext hx2)).mono ?_); rintro e w3 ⟨B, d, rfl, hs3, hx3⟩)
    | (go_at_call 11; (with_reducible refine (H3.out _ _ (one_sl _ _ _)).mono ?_); rintro e w5 ⟨C, d5, rfl, -, hx5⟩; have hx4 := (Ext.refl w3).alloc (.cells #[.int .i64 1] 3); have hs25 := ((hs2.ext hx3).ext hx4).ext hx5; have hs35 := (hs3.ext hx4).ext hx5)
    | (go_at_call 13; (with_reducible refine (HE.out _ _ _ hs25 hs35).mono ?_); rintro e w6 ⟨rfl, hx6⟩))
  trace_state
  go_ret
  exact ⟨rfl, (((hx2.trans hx3).trans hx4).trans hx5).trans hx6⟩
end Go.Proofs.Ytbnjapgmpjkooaa.bitsReads
