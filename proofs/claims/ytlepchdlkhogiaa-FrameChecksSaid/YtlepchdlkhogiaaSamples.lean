/- samples of the reference. -/
import Derived.Test.YtlepchdlkhogiaaEqInt
import Derived.Test.YtlepchdlkhogiaaRefRound
import Derived.Test.YtlepchdlkhogiaaInts
import Derived.Test.YtlepchdlkhogiaaMath1
namespace Go.Proofs.Ytlepchdlkhogiaa
set_option linter.unusedVariables false
set_option linter.unusedSimpArgs false
open Go.RowKit
set_option maxRecDepth 20000 in
set_option maxHeartbeats 1000000 in
theorem samples_any (xs : List Int) (v : Value) (w : World) (hv : SL w 1 v xs.length (ints xs)) :
    Calls Try.prog 41 #[v] w fun e w' => e = .returned (.bool (allIn xs 0 255)) ∧ Ext w w' := by
  have hv' := hv
  obtain ⟨A, c, rfl, hc1, hc2, -, -⟩ := hv'
  go_enter Try.func41, Try.ntmps41
  go_wp2_with fail
  go_loop [7] (fun i => ∃ k : Nat, k ≤ xs.length ∧ i = .int .i64 (k : Int) ∧ ∀ z ∈ xs.take k, 0 ≤ z ∧ z ≤ 255) (fun i => xs.length - (intOf i).toNat)
  case atStart => exact ⟨0, by omega, rfl, by simp⟩
  case round =>
    obtain ⟨k, hk, rfl, hin⟩ := hrel
    have HIN := hid_ hin
    clear hin
    by_cases hlt : k < xs.length
    · obtain ⟨ad, u, rfl, -, hxk, hcell⟩ := hv.at1 hlt
      obtain ⟨hkl, rfl⟩ := ints_at _ _ _ hxk
      clear hxk
      cases hq : inB xs[k] 0 255 with
      | true =>
        have HN := hid_ (allIn_take HIN.out hkl (inB_iff.1 hq))
        go_wp2_with (go_at_call 36; refine (outside_any _ _ _ _).mono ?_; rintro e w' ⟨rfl, rfl⟩)
        go_round
        case rel => exact ⟨k + 1, by omega, by go_num, HN.out⟩
        case measure => simp [intOf]; omega
      | false =>
        have HNO : Hid (allIn xs 0 255 = false) := hid_ (by
          rw [← Bool.not_eq_true]
          intro h
          have := allIn_iff.1 h _ (List.getElem_mem hkl)
          have h2 := inB_not.1 hq
          omega)
        go_wp2_with (go_at_call 36; refine (outside_any _ _ _ _).mono ?_; rintro e w' ⟨rfl, rfl⟩)
        go_ret
        rw [HNO.out]
        exact ⟨rfl, Ext.refl _⟩
    · have emk : k = xs.length := by omega
      have HYES : Hid (allIn xs 0 255 = true) := hid_ (allIn_iff.2 fun z hz => HIN.out z (by rw [emk, List.take_length]; exact hz))
      rw [emk]
      go_wp2_with fail
      go_ret
      rw [HYES.out]
      exact ⟨rfl, Ext.refl _⟩
end Go.Proofs.Ytlepchdlkhogiaa
