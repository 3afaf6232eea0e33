/- Strings of binary digits. -/
import Derived.Test.YtlcpkngbpjfnjaaBitMath
import Derived.Test.YtlcpkngbpjfnjaaBinary
namespace Go.Proofs.Ytlcpkngbpjfnjaa
set_option linter.unusedVariables false
set_option linter.unusedSimpArgs false
open Go.RowKit
def chB (b : Bool) : UInt8 := if b then 49 else 48
def strB (l : List Bool) : ByteArray := ⟨(l.map chB).toArray⟩
theorem strB_data (l : List Bool) : (strB l).data.toList = l.map chB := by simp [strB]
theorem strB_size (l : List Bool) : (strB l).size = l.length := by simp [strB, ByteArray.size]
theorem strB_append (a b : List Bool) : strB (a ++ b) = strB a ++ strB b := by
  apply ByteArray.ext
  simp [strB, ByteArray.data_append]
theorem chB_nat (b : Bool) : (chB b).toNat = 48 + b.toNat := by cases b <;> rfl
theorem strB_get (l : List Bool) (k : Nat) (h : k < (strB l).size) (h2 : k < l.length) : ((strB l)[k]'h).toNat = 48 + l[k].toNat := by
  rw [← chB_nat]
  simp [strB, ByteArray.getElem_eq_getElem_data]
theorem chB_inj {a b : Bool} (h : chB a = chB b) : a = b := by cases a <;> cases b <;> first | rfl | (exfalso; revert h; decide)
theorem strB_inj {a b : List Bool} (h : strB a = strB b) : a = b := by
  have := congrArg (fun x => x.data.toList) h
  simp only [strB_data] at this
  exact List.map_inj_right (fun _ _ => chB_inj) |>.1 this
theorem encode_digit (d : Nat) (h : d % 2 = d) : Utf8.encode (48 + (d : Int)) = strB [d == 1] := by
  rcases (show d = 0 ∨ d = 1 by omega) with rfl | rfl <;> rfl
theorem binS_strB (n k : Nat) : binS n k = strB (digs n k) := by
  induction k with
  | zero => rfl
  | succ k ih =>
    show Utf8.encode (48 + (((n / 2 ^ k) % 2 : Nat) : Int)) ++ binS n k = _
    rw [encode_digit _ (by omega), ih, ← strB_append]
    rfl
theorem strB_extract (l : List Bool) (i j : Nat) (hi : i ≤ j) : (strB l).extract i j = strB ((l.drop i).take (j - i)) := by
  apply ByteArray.ext
  apply Array.ext'
  simp [strB, ByteArray.data_extract, List.map_take, List.map_drop]
theorem numB_take_succ (l : List Bool) (k : Nat) (h : k < l.length) : numB (l.take (k + 1)) = 2 * numB (l.take k) + l[k].toNat := by
  rw [List.take_succ_eq_append_getElem h, numB_snoc]
theorem numB_le (l : List Bool) (n : Nat) (h : l.length ≤ n) : numB l < 2 ^ n := by
  have h1 := numB_lt l
  have := Nat.pow_le_pow_right (n := 2) (by omega) h
  omega
end Go.Proofs.Ytlcpkngbpjfnjaa
