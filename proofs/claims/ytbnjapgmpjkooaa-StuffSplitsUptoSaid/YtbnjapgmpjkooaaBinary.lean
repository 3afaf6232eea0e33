/- binary of the reference. -/
import Derived.Test.YtbnjapgmpjkooaaBase
import Derived.Test.YtbnjapgmpjkooaaMath1
namespace Go.Proofs.Ytbnjapgmpjkooaa
set_option linter.unusedVariables false
set_option linter.unusedSimpArgs false
open Go.RowKit
/-- the last k binary digits of n, as a string -/
def binS (n : Nat) : Nat → ByteArray
  | 0 => ⟨#[]⟩
  | k + 1 => Utf8.encode (48 + (((n / 2 ^ k) % 2 : Nat) : Int)) ++ binS n k
theorem digit_size (m : Nat) : (Utf8.encode (48 + ((m % 2 : Nat) : Int))).size = 1 := by
  rcases (show m % 2 = 0 ∨ m % 2 = 1 by omega) with h | h <;> rw [h] <;> decide
theorem binS_size (n k : Nat) : (binS n k).size = k := by
  induction k with
  | zero => rfl
  | succ k ih => unfold binS; rw [ByteArray.size_append, digit_size, ih]; omega
set_option maxHeartbeats 400000 in
theorem binary_any (width n : Nat) (w : World) (hw : width ≤ 1000) (hn : n ≤ 1000000000) :
    Calls Try.prog 31 #[.int .i64 (width : Int), .int .i64 (n : Int)] w fun e w' => e = .returned (.string (binS n width)) ∧ w = w' := by
  have HB := hid_ (binS_size n)
  have HN : Hid (∀ k, binS n (k + 1) = Utf8.encode (48 + (((n / 2 ^ k) % 2 : Nat) : Int)) ++ binS n k) := hid_ (fun k => rfl)
  go_enter Try.func31, Try.ntmps31
  go_wp2_with fail
  go_loop [1, 5, 7] (fun v s i => ∃ k m : Nat, k ≤ width ∧ m ≤ 1000000000 ∧ m = n / 2 ^ k ∧ i = .int .i64 (k : Int) ∧ v = .int .i64 (m : Int) ∧ s = .string (binS n k)) (fun _ _ i => width - (intOf i).toNat)
  case atStart => exact ⟨0, n, by omega, hn, by simp, rfl, rfl, rfl⟩
  case round =>
    obtain ⟨k, m, hk, hm, hmn, rfl, rfl, rfl⟩ := hrel
    have HM := hid_ hmn
    clear hmn
    by_cases hlt : k < width
    · have hd := digit_size m
      have hbs := HB.out k
      have HNK := hid_ (HN.out k)
      rw [← HM.out] at HNK
      have em : ((m % 2 : Nat) : Int) = (m : Int) % 2 := by omega
      rw [em] at hd HNK
      clear em
      generalize binS n k = b at *
      generalize hu : Utf8.encode (48 + (m : Int) % 2) = u at *
      have hlim : ¬ 9223372036854775807 < u.size + b.size := by omega
      go_wp2_with fail
      go_round
      case rel => exact ⟨k + 1, m / 2, by omega, by omega, by rw [HM.out, Nat.div_div_eq_div_mul, Nat.pow_succ], by go_num, by simp, by rw [HNK.out]⟩
      case measure => simp [intOf]; omega
    · obtain rfl : k = width := by omega
      go_wp2_with fail
      go_ret
      exact ⟨rfl, rfl⟩
end Go.Proofs.Ytbnjapgmpjkooaa
