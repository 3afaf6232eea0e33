/- The walk of the law WaveBasis. -/
import Derived.Test.YtceplnjngbkjhaaRefBasis
import Derived.Test.YtceplnjngbkjhaaOpen
namespace Go.Proofs.Ytceplnjngbkjhaa.waveBasis
open Go.RowKit
set_option maxHeartbeats 400000 in
theorem walk (u : Int) (_ : (Lit.int .i64 u).wf = true) (x : Int) (_ : (Lit.int .i64 x).wf = true) (w : World) : Calls Try.prog 5 #[.int .i64 u, .int .i64 x] w fun e w' => e = .returned (.bool true) ∧ Ext w w' := by
  have H8 := hid_ (fun W => basisX_out 8 0 W (by omega))
  by_cases hin : 0 ≤ u ∧ u ≤ 7 ∧ 0 ≤ x ∧ x ≤ 7
  · obtain ⟨h1, h2, h3, h4⟩ := hin
    obtain ⟨u, rfl⟩ : ∃ k : Nat, u = k := ⟨u.toNat, by omega⟩
    obtain ⟨x, rfl⟩ : ∃ k : Nat, x = k := ⟨x.toNat, by omega⟩
    have H1 := hid_ (fun W => basisX_in u x W (by omega) (by omega))
    have H2 := hid_ (fun W => rbasis_any u x W (by omega) (by omega))
    generalize basisZ u x = z at *
    have e1 : (z == z) = true := by simp
    go_enter Try.func5, Try.ntmps5
    go_wp2_with (first
      | (go_at_call 19; (with_reducible refine (H1.out _).mono ?_); rintro e w1 ⟨rfl, hx1⟩)
      | (go_at_call 19; (with_reducible refine (H8.out _).mono ?_); rintro e w2 ⟨rfl, hx2⟩)
      | (go_at_call 20; (with_reducible refine (H2.out _).mono ?_); rintro e w3 ⟨rfl, hx3⟩))
    go_ret
    exact ⟨rfl, (hx1.trans hx2).trans hx3⟩
  · have hc : u < 0 ∨ (0 ≤ u ∧ 7 < u) ∨ (0 ≤ u ∧ u ≤ 7 ∧ x < 0) ∨ (0 ≤ u ∧ u ≤ 7 ∧ 0 ≤ x ∧ 7 < x) := by omega
    have H1 := hid_ (fun W => basisX_out u x W hc)
    clear hin
    rcases hc with h | ⟨h1, h⟩ | ⟨h1, h2, h⟩ | ⟨h1, h2, h3, h⟩
    all_goals
      go_enter Try.func5, Try.ntmps5
      go_wp2_with (first
        | (go_at_call 19; (with_reducible refine (H1.out _).mono ?_); rintro e w1 ⟨rfl, hx1⟩)
        | (go_at_call 19; (with_reducible refine (H8.out _).mono ?_); rintro e w2 ⟨rfl, hx2⟩))
      go_ret
      exact ⟨rfl, hx1.trans hx2⟩
end Go.Proofs.Ytceplnjngbkjhaa.waveBasis
