/- The law Names returns true: for every start, no condition. -/
import Derived.Test.YtceplnjngbkjhaaBase
import Derived.Test.YtceplnjngbkjhaaEqInt
namespace Go.Proofs.Ytceplnjngbkjhaa.names
open Go.RowKit
theorem errs_at (cs : Array Value) (hcs : cs = #[.int .i64 0, .int .i64 1, .int .i64 2, .int .i64 3, .int .i64 4, .int .i64 5, .int .i64 6]) (k : Nat) (h : k < 7) :
    cs[k]? = some (.int .i64 k) := by
  subst hcs
  have : k = 0 ∨ k = 1 ∨ k = 2 ∨ k = 3 ∨ k = 4 ∨ k = 5 ∨ k = 6 := by omega
  rcases this with rfl | rfl | rfl | rfl | rfl | rfl | rfl <;> rfl
theorem walk (w : World) : Calls Try.prog 3 #[] w fun e w' => e = .returned (.bool true) ∧ Ext w w' := by
  go_enter Try.func3, Try.ntmps3
  go_wp2
  go_loop [5] (fun i => ∃ k : Nat, k ≤ 7 ∧ i = .int .i64 k) (fun i => 7 - (intOf i).toNat)
  case atStart => exact ⟨0, by omega, rfl⟩
  case round =>
    obtain ⟨k, hk, rfl⟩ := hrel
    by_cases hlt : k < 7
    · have hc := ((Blk.new w 22 _).cell k).trans (errs_at _ rfl k hlt)
      go_wp2
      go_round
      case rel => exact ⟨k + 1, by omega, by go_num⟩
      case measure => simp [intOf]; omega
    · obtain rfl : k = 7 := by omega
      go_wp2_with fail
      refine (eqInt_lit [24, 20000, 90000, 16, 256, 9999, 255, 255, 2047, 40000, 400, 64, 3, 100, 8, 20, 60, 300] 3 (w.alloc _) (by decide) 18 _ _ rfl (by simp) (by simp) _ rfl).mono ?_
      rintro e w' ⟨rfl, rfl⟩
      go_wp2
      go_ret
      exact ⟨rfl, ((Ext.refl w).alloc _).alloc _ |>.alloc _⟩
end Go.Proofs.Ytceplnjngbkjhaa.names
