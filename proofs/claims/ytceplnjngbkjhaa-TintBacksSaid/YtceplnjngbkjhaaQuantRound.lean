import Derived.Test.YtceplnjngbkjhaaBase
import Derived.Test.YtceplnjngbkjhaaMath1
namespace Go.Proofs.Ytceplnjngbkjhaa
open Go.RowKit
theorem round_pos (n d : Int) (w : World) (h0 : 0 ≤ n) (hn : n ≤ 1000000000000000000) (hd : 1 ≤ d) (hd2 : d ≤ 1000000000000000000) :
    Calls Try.prog 60 #[.int .i64 n, .int .i64 d] w fun e w' => e = .returned (.int .i64 (rp n d)) ∧ w = w' := by
  go_enter Try.func60, Try.ntmps60
  go_wp2_with fail
  go_ret
  exact ⟨rfl, rfl⟩
theorem round_any (n d : Int) (w : World) (hn1 : -1000000000000000000 ≤ n) (hn : n ≤ 1000000000000000000) (hd : 1 ≤ d) (hd2 : d ≤ 1000000000000000000) :
    Calls Try.prog 60 #[.int .i64 n, .int .i64 d] w fun e w' => e = .returned (.int .i64 (rnd n d)) ∧ w = w' := by
  by_cases h : n < 0
  · have hb := rp_bounds (-n) d (by omega) hd
    obtain ⟨hb1, hb2⟩ := hb
    go_enter Try.func60, Try.ntmps60
    go_wp2_with (go_at_call 60; refine (round_pos _ _ _ (by omega) (by omega) hd hd2).mono ?_; rintro e w' ⟨rfl, rfl⟩)
    go_ret
    exact ⟨by simp [rnd, h], rfl⟩
  · unfold rnd; rw [if_neg h]
    exact round_pos n d w (by omega) hn hd hd2
theorem within_any (n most : Int) (w : World) (h0 : 0 ≤ most) (h1 : most ≤ 1000000000000000000) :
    Calls Try.prog 57 #[.int .i64 n, .int .i64 most] w fun e w' => e = .returned (.int .i64 (clampZ n (-most) most)) ∧ w = w' := by
  have hd : n < -most ∨ (-most ≤ n ∧ n ≤ most) ∨ most < n := by omega
  rcases hd with hd | ⟨hd1, hd2⟩ | hd
  · have e : clampZ n (-most) most = -most := by unfold clampZ; rw [if_pos hd]
    rw [e]; clear e
    go_enter Try.func57, Try.ntmps57
    go_wp2
    go_ret
    exact ⟨rfl, rfl⟩
  · have e : clampZ n (-most) most = n := by unfold clampZ; rw [if_neg (by omega), if_neg (by omega)]
    rw [e]; clear e
    go_enter Try.func57, Try.ntmps57
    go_wp2
    all_goals
      go_ret
      refine ⟨?_, rfl⟩
      congr 2
      try omega
  · have e : clampZ n (-most) most = most := by unfold clampZ; rw [if_neg (by omega), if_pos hd]
    rw [e]; clear e
    have hd' : ¬ n < -most := by omega
    go_enter Try.func57, Try.ntmps57
    go_wp2
    go_ret
    exact ⟨rfl, rfl⟩
end Go.Proofs.Ytceplnjngbkjhaa
