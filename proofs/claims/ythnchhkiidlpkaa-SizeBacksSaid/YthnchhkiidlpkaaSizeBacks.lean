/- The walk of the law SizeBacks. -/
import Derived.Test.YthnchhkiidlpkaaSizeBack
import Derived.Test.YthnchhkiidlpkaaOpen
namespace Go.Proofs.Ythnchhkiidlpkaa.sizeBacks
open Go.RowKit
set_option maxHeartbeats 400000 in
theorem walk (n : Int) (_ : (Lit.int .i64 n).wf = true) (v : Int) (_ : (Lit.int .i64 v).wf = true) (w : World) : Calls Try.prog 9 #[.int .i64 n, .int .i64 v] w fun e w' => e = .returned (.bool true) ∧ Ext w w' := by
  have H1 := hid_ (fun W => back_any n v W)
  have H2 := hid_ (fun W => rback_any n v W)
  have H4 := hid_ (fun W => sizeOf_any 4096 W)
  have hb : bitsZ 4096 = (0, 0, 1) := by decide
  rw [hb] at H4
  clear hb
  generalize backR n v = b at *
  obtain ⟨b1, b2⟩ := b
  have e1 : (b1 == b1) = true := by simp
  have e2 : (b2 == b2) = true := by simp
  go_enter Try.func9, Try.ntmps9
  go_wp2_with (first
    | (go_at_call 31; (with_reducible refine (H1.out _).mono ?_); rintro e w' ⟨rfl, rfl⟩)
    | (go_at_call 32; (with_reducible refine (H2.out _).mono ?_); rintro e w2 ⟨rfl, hx2⟩)
    | (go_at_call 33; (with_reducible refine (H4.out _).mono ?_); rintro e w' ⟨rfl, rfl⟩))
  go_ret
  exact ⟨rfl, hx2⟩
end Go.Proofs.Ythnchhkiidlpkaa.sizeBacks
