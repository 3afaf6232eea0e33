/- Strings of binary digits. -/
import Derived.Test.YtbnjapgmpjkooaaBitMath
import Derived.Test.YtbnjapgmpjkooaaBinary
namespace Go.Proofs.Ytbnjapgmpjkooaa
set_option linter.unusedVariables false
set_option linter.unusedSimpArgs false
open Go.RowKit
def chB (b : Bool) : UInt8 := if b then 49 else 48
def strB (l : List Bool) : ByteArray := ⟨(l.map chB).toArray⟩
theorem strB_data (l : List Bool) : (strB l).data.toList = l.map chB := by simp [strB]
theorem strB_size (l : List Bool) : (strB l).size = l.length := by simp [strB, ByteArray.size]
theorem strB_append (a b : List Bool) : strB (a ++ b) = strB a ++ strB b := by
  apply ByteArray.ext
  simp [strB, ByteArray.data_append]
theorem chB_nat (b : Bool) : (chB b).toNat = 48 + b.toNat := by cases b <;> rfl
theorem strB_get (l : List Bool) (k : Nat) (h : k < (strB l).size) (h2 : k < l.length) : ((strB l)[k]'h).toNat = 48 + l[k].toNat := by
  rw [← chB_nat]
  simp [strB, ByteArray.getElem_eq_getElem_data]
theorem chB_inj {a b : Bool} (h : chB a = chB b) : a = b := by cases a <;> cases b <;> first | rfl | (exfalso; revert h; decide)
theorem strB_inj {a b : List Bool} (h : strB a = strB b) : a = b := by
  have := congrArg (fun x => x.data.toList) h
  simp only [strB_data] at this
  exact List.map_inj_right (fun _ _ => chB_inj) |>.1 this
theorem encode_digit (d : Nat) (h : d % 2 = d) : Utf8.encode (48 + (d : Int)) = strB [d == 1] := by
  rcases (show d = 0 ∨ d = 1 by omega) with rfl | rfl <;> rfl
theorem binS_strB (n k : Nat) : binS n k = strB (digs n k) := by
  induction k with
  | zero => rfl
  | succ k ih =>
    show Utf8.encode (48 + (((n / 2 ^ k) % 2 : Nat) : Int)) ++ binS n k = _
    rw [encode_digit _ (by omega), ih, ← strB_append]
    rfl
theorem strB_extract (l : List Bool) (i j : Nat) (hi : i ≤ j) : (strB l).extract i j = strB ((l.drop i).take (j - i)) := by
  apply ByteArray.ext
  apply Array.ext'
  simp [strB, ByteArray.data_extract, List.map_take, List.map_drop]
theorem numB_take_succ (l : List Bool) (k : Nat) (h : k < l.length) : numB (l.take (k + 1)) = 2 * numB (l.take k) + l[k].toNat := by
  rw [List.take_succ_eq_append_getElem h, numB_snoc]
theorem numB_le (l : List Bool) (n : Nat) (h : l.length ≤ n) : numB l < 2 ^ n := by
  have h1 := numB_lt l
  have := Nat.pow_le_pow_right (n := 2) (by omega) h
  omega
set_option maxHeartbeats 400000 in
theorem fromBin_any (l : List Bool) (w : World) (hl : l.length ≤ 60) :
    Calls Try.prog 37 #[.string (strB l)] w fun e w' => e = .returned (.int .i64 (numB l : Nat)) ∧ Ext w w' := by
  have hsz := strB_size l
  have HG := hid_ (strB_get l)
  have HT := hid_ (numB_take_succ l)
  have HB : Hid (∀ k, numB (l.take k) < 2 ^ 60) := hid_ (fun k => numB_le _ 60 (Nat.le_trans (List.length_take_le' _ _) hl))
  generalize strB l = s at *
  have hszs := hid_ hsz
  go_enter Try.func37, Try.ntmps37
  go_wp2_with fail
  clear hsz
  go_loopw [3] (fun n w' => ∃ pos : Nat, pos ≤ l.length ∧ w' = w.iter s pos ∧ n = .int .i64 (numB (l.take pos) : Nat)) (fun _ w' => s.size - w'.iterPos w.heap.size)
  case atStart => exact ⟨0, by omega, rfl, by simp [numB]⟩
  case round =>
    obtain ⟨pos, hpos, rfl, rfl⟩ := hrel
    by_cases hp : pos < l.length
    · have hp2 : pos < s.size := by have := hszs.out; omega
      have hd := HG.out pos hp2 hp
      have hb1 : l[pos].toNat ≤ 1 := by cases l[pos] <;> simp
      have ha : (s[pos]'hp2).toNat < 128 := by omega
      have hnx : ∀ ty, (Instr.next (.pointer (some ⟨w.heap.size, 0, none⟩)) true ty).run Try.prog (w.iter s pos) = _ := fun ty => run_next_ascii w s pos ty hp2 ha
      have HTP := hid_ (HT.out pos hp)
      have hlt := HB.out pos
      generalize l[pos].toNat = d at *
      rw [hd] at hnx
      clear hd ha
      generalize hN : numB (l.take pos) = N at *
      have hN2 : N < 1152921504606846976 := by simpa using hlt
      clear hlt hN
      go_wp2_with fail
      go_roundw
      case rel => exact ⟨pos + 1, by omega, rfl, by rw [HTP.out]; congr 1; omega⟩
      case measure =>
        have := hszs.out
        simp
        omega
    · have hp2 : ¬ pos < s.size := by have := hszs.out; omega
      have hnx : ∀ ty, (Instr.next (.pointer (some ⟨w.heap.size, 0, none⟩)) true ty).run Try.prog (w.iter s pos) = _ := fun ty => run_next_end w s pos ty hp2
      have HF : Hid (l.take pos = l) := hid_ (List.take_of_length_le (by omega))
      go_wp2_with fail
      go_ret
      exact ⟨by rw [HF.out]; rfl, (Ext.refl w).alloc _⟩
end Go.Proofs.Ytbnjapgmpjkooaa
