import Derived.Test.YtpkaimpidhcoiaaBase
import Derived.Test.YtpkaimpidhcoiaaMath1
namespace Go.Proofs.Ytpkaimpidhcoiaa
set_option linter.unusedVariables false
set_option linter.unusedSimpArgs false
open Go.RowKit
theorem round_pos (n d : Int) (w : World) (h0 : 0 ≤ n) (hn : n ≤ 1000000000000000000) (hd : 1 ≤ d) (hd2 : d ≤ 1000000000000000000) :
    Calls Try.prog 32 #[.int .i64 n, .int .i64 d] w fun e w' => e = .returned (.int .i64 (rp n d)) ∧ w = w' := by
  go_enter Try.func32, Try.ntmps32
  go_wp2_with fail
  go_ret
  exact ⟨rfl, rfl⟩
theorem round_any (n d : Int) (w : World) (hn1 : -1000000000000000000 ≤ n) (hn : n ≤ 1000000000000000000) (hd : 1 ≤ d) (hd2 : d ≤ 1000000000000000000) :
    Calls Try.prog 32 #[.int .i64 n, .int .i64 d] w fun e w' => e = .returned (.int .i64 (rnd n d)) ∧ w = w' := by
  by_cases h : n < 0
  · have hb := rp_bounds (-n) d (by omega) hd
    obtain ⟨hb1, hb2⟩ := hb
    go_enter Try.func32, Try.ntmps32
    go_wp2_with (go_at_call 32; refine (round_pos _ _ _ (by omega) (by omega) hd hd2).mono ?_; rintro e w' ⟨rfl, rfl⟩)
    go_ret
    exact ⟨by simp [rnd, h], rfl⟩
  · unfold rnd; rw [if_neg h]
    exact round_pos n d w (by omega) hn hd hd2
end Go.Proofs.Ytpkaimpidhcoiaa
