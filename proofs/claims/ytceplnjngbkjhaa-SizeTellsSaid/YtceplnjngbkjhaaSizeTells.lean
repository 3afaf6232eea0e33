/- The walk of the law SizeTells. -/
import Derived.Test.YtceplnjngbkjhaaSize
import Derived.Test.YtceplnjngbkjhaaOpen
namespace Go.Proofs.Ytceplnjngbkjhaa.sizeTells
open Go.RowKit
set_option maxHeartbeats 400000 in
theorem walk (n : Int) (_ : (Lit.int .i64 n).wf = true) (w : World) : Calls Try.prog 14 #[.int .i64 n] w fun e w' => e = .returned (.bool true) ∧ Ext w w' := by
  have H1 := hid_ (fun W => sizeBits_any n W)
  have H2 := hid_ (fun W => rsizeBits_any n W)
  have H3 := hid_ (fun W => sizeOf_any n W)
  have H4 := hid_ (fun W => sizeOf_any 4096 W)
  have hb : bitsZ 4096 = (0, 0, 1) := by decide
  rw [hb] at H4
  clear hb
  generalize bitsZ n = b at *
  obtain ⟨b1, b2, b3⟩ := b
  have e1 : (b1 == b1) = true := by simp
  go_enter Try.func14, Try.ntmps14
  go_wp2_with (first
    | (go_at_call 42; (with_reducible refine (H1.out _).mono ?_); rintro e w' ⟨rfl, rfl⟩)
    | (go_at_call 43; (with_reducible refine (H2.out _).mono ?_); rintro e w' ⟨rfl, rfl⟩)
    | (go_at_call 44; (with_reducible refine (H3.out _).mono ?_); rintro e w' ⟨rfl, rfl⟩)
    | (go_at_call 44; (with_reducible refine (H4.out _).mono ?_); rintro e w' ⟨rfl, rfl⟩))
  go_ret
  exact ⟨rfl, Ext.refl w⟩
end Go.Proofs.Ytceplnjngbkjhaa.sizeTells
