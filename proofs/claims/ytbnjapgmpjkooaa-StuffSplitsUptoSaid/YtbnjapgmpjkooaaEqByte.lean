/- Eq of bytes. -/
import Derived.Test.YtbnjapgmpjkooaaBytesV
import Derived.Test.YtbnjapgmpjkooaaEqInt
namespace Go.Proofs.Ytbnjapgmpjkooaa
set_option linter.unusedVariables false
set_option linter.unusedSimpArgs false
open Go.RowKit
/-- Eq of bytes -/
theorem bytesV_at (l : List Nat) (k : Nat) (u : Value) (h : (bytesV l)[k]? = some u) : ∃ hk : k < l.length, u = .int .u8 (l[k] : Int) := by
  unfold bytesV at h
  rw [List.getElem?_map] at h
  obtain ⟨z, hz, rfl⟩ := Option.map_eq_some_iff.1 h
  obtain ⟨hk, e⟩ := List.getElem?_eq_some_iff.1 hz
  exact ⟨hk, by rw [e]⟩
set_option maxHeartbeats 400000 in
theorem eqByte_same (u v : Value) (xs : List Nat) (w : World) (hu : SL w 1 u xs.length (bytesV xs)) (hv : SL w 1 v xs.length (bytesV xs)) :
    Calls Try.prog 10 #[u, v] w fun e w' => e = .returned (.bool true) ∧ w = w' := by
  have hu' := hu
  have hv' := hv
  obtain ⟨A, c, rfl, hc1, hc2, -, -⟩ := hu'
  obtain ⟨B, d, rfl, hd1, hd2, -, -⟩ := hv'
  go_enter Try.func10, Try.ntmps10
  go_wp2_with fail
  go_loop [14] (fun i => ∃ k : Nat, k ≤ xs.length ∧ i = .int .i64 k) (fun i => xs.length - (intOf i).toNat)
  case atStart => exact ⟨0, by omega, rfl⟩
  case round =>
    obtain ⟨k, hk, rfl⟩ := hrel
    by_cases hlt : k < xs.length
    · obtain ⟨ad, u, rfl, -, hx, hcell⟩ := hu.at1 hlt
      obtain ⟨_, rfl⟩ := bytesV_at _ _ _ hx
      obtain ⟨bd, u, rfl, -, hy, hcell2⟩ := hv.at1 hlt
      obtain ⟨_, rfl⟩ := bytesV_at _ _ _ hy
      clear hx hy
      generalize xs[k] = x at *
      go_wp2_with fail
      go_round
      case rel => exact ⟨k + 1, by omega, by go_num⟩
      case measure => simp [intOf]; omega
    · go_wp2_with fail
      go_ret
      exact ⟨rfl, rfl⟩
set_option maxHeartbeats 400000 in
theorem eqByte_any (u v : Value) (xs ys : List Nat) (w : World) (hu : SL w 1 u xs.length (bytesV xs)) (hv : SL w 1 v ys.length (bytesV ys)) :
    Calls Try.prog 10 #[u, v] w fun e w' => e = .returned (.bool (decide (xs = ys))) ∧ w = w' := by
  have hu' := hu
  have hv' := hv
  obtain ⟨A, c, rfl, hc1, hc2, -, -⟩ := hu'
  obtain ⟨B, d, rfl, hd1, hd2, -, -⟩ := hv'
  by_cases hl : (xs.length : Int) != ys.length
  · go_enter Try.func10, Try.ntmps10
    go_wp2
    go_ret
    refine ⟨?_, rfl⟩
    have : xs ≠ ys := by rintro rfl; simp at hl
    simp [this]
  · have h9 : (xs.length : Int) = ys.length := by simpa using hl
    have hl' : xs.length = ys.length := by omega
    clear h9
    have HL := hl'
    have hn : ((xs.length : Int) != ys.length) = false := by simpa using hl
    have HE : Hid (xs.length = ys.length) := HL
    clear hl HL
    go_enter Try.func10, Try.ntmps10
    clear hl'
    go_wp2
    go_loop [14] (fun i => ∃ k : Nat, k ≤ xs.length ∧ i = .int .i64 k ∧ xs.take k = ys.take k) (fun i => xs.length - (intOf i).toNat)
    case atStart => exact ⟨0, by omega, rfl, by simp⟩
    case round =>
      obtain ⟨k, hk, rfl, ht⟩ := hrel
      have HT : Hid (xs.take k = ys.take k) := ht
      clear ht
      by_cases hlt : k < xs.length
      · have hlt2 : k < ys.length := by have := HE.out; omega
        obtain ⟨ad, u, rfl, -, hx, hcell⟩ := hu.at1 hlt
        obtain ⟨_, rfl⟩ := bytesV_at _ _ _ hx
        obtain ⟨bd, u, rfl, -, hy, hcell2⟩ := hv.at1 hlt2
        obtain ⟨_, rfl⟩ := bytesV_at _ _ _ hy
        clear hx hy
        by_cases hq : xs[k] = ys[k]
        · have hq' : ((xs[k] : Nat) != ys[k]) = false := by simpa using hq
          have HQ : Hid (xs[k] = ys[k]) := hq
          clear hq
          go_wp2
          go_round
          case rel => exact ⟨k + 1, by omega, by go_num, (take_succ_iff _ _ _ hlt hlt2).2 ⟨HT.out, HQ.out⟩⟩
          case measure => simp [intOf]; omega
        · have hq' : ((xs[k] : Nat) != ys[k]) = true := by simpa using hq
          go_wp2
          go_ret
          refine ⟨?_, rfl⟩
          have : xs ≠ ys := by rintro rfl; exact hq rfl
          simp [this]
      · go_wp2
        go_ret
        refine ⟨?_, rfl⟩
        have e : xs = ys := by
          have := HT.out
          rwa [List.take_of_length_le (by omega), List.take_of_length_le (by have := HE.out; omega)] at this
        simp [e]
end Go.Proofs.Ytbnjapgmpjkooaa
