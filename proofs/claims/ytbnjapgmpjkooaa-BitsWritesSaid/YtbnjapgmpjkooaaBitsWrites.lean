/- The law BitsWrites, walked. -/
import Derived.Test.YtbnjapgmpjkooaaBitsWrite
import Derived.Test.YtbnjapgmpjkooaaRefBitsWrite
import Derived.Test.YtbnjapgmpjkooaaEqByte
import Derived.Test.YtbnjapgmpjkooaaBuild1
namespace Go.Proofs.Ytbnjapgmpjkooaa.bitsWrites
set_option linter.unusedVariables false
set_option linter.unusedSimpArgs false
open Go.RowKit
set_option maxRecDepth 20000 in
set_option maxHeartbeats 1000000 in
theorem walk (v : Value) (zs : List Int) (hz : ∀ z ∈ zs, inI64 z) (w : World) (hv : SL w 2 v (zs.length / 2) (ints zs) ∧ zs.length = zs.length / 2 * 2) :
    Calls Try.prog 3 #[v] w fun e w' => e = .returned (.bool true) ∧ Ext w w' := by
  obtain ⟨hv, hl⟩ := hv
  obtain ⟨F, hF, rfl⟩ := unflatF _ _ hl
  rw [← hF] at hv
  have H1 := hid_ (fun W (h : SL W 2 v F.length (ints (flatF F))) => bitsWrite_any F v W h)
  have H2 := hid_ (fun W (h : SL W 2 v F.length (ints (flatF F))) => rbitsWrite_any F v W h)
  have H3 := hid_ (fun u W (h : SL W 2 u 1 (ints [-1, 0])) => bitsWrite_any [((-1 : Int), (0 : Int))] u W h)
  have e3 : bwZ [((-1 : Int), (0 : Int))] = ([], 1) := by decide
  rw [e3] at H3
  have HE := hid_ (fun W u v (a : SL W 1 u (bwZ F).1.length (bytesV (bwZ F).1)) (b : SL W 1 v (bwZ F).1.length (bytesV (bwZ F).1)) => eqByte_same u v (bwZ F).1 W a b)
  generalize (bwZ F).1 = out at *
  generalize (bwZ F).2 = z at *
  have e1 : (z == z) = true := by simp
  clear e3 hz hl
  go_enter Try.func3, Try.ntmps3
  go_wp2_with (first
    | (go_at_call 8; (with_reducible refine (H1.out _ hv).mono ?_); rintro e w2 ⟨A, c, rfl, hs2, hx2⟩)
    | (go_at_call 9; (with_reducible refine (H2.out _ (hv.ext hx2)).mono ?_); rintro e w3 ⟨B, d, rfl, hs3, hx3⟩)
    | (refine wpList_lit1 rfl 22 28 (.tmp 20) rfl (some 21) rfl Try.underlying22 2 sizeField (by rw [zeroField]; rfl) _ rfl rfl (by omega) (by omega) ?_; intro w4 g4 hb4 hx4 hg4; have hf4 := fieldSL (show Blk w4 g4 28 #[.int .i64 (-1), .int .i64 0] from hb4))
    | (go_at_call 8; (with_reducible refine (H3.out _ _ hf4).mono ?_); rintro e w5 ⟨C, d5, rfl, -, hx5⟩; have hs25 := ((hs2.ext hx3).ext hx4).ext hx5; have hs35 := (hs3.ext hx4).ext hx5)
    | (go_at_call 10; (with_reducible refine (HE.out _ _ _ hs25 hs35).mono ?_); rintro e w6 ⟨rfl, rfl⟩))
  go_ret
  exact ⟨rfl, ((hx2.trans hx3).trans hx4).trans hx5⟩
end Go.Proofs.Ytbnjapgmpjkooaa.bitsWrites
