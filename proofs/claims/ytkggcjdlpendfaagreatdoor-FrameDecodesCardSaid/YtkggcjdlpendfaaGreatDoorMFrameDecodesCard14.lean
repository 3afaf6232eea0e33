/- Contracts for the law FrameDecodesCard, part 14: what the functions that it reaches answer, for all arguments that the theorems name. -/
import Derived.WalkKit
import Derived.Test.YtkggcjdlpendfaaGreatDoorMFrameDecodesCard10
import Derived.ProofKit
import Derived.OpenShut
import Derived.Test.YtkggcjdlpendfaaGreatDoorMFrameDecodesCard1
import Derived.ChangeSlices
import Derived.Test.YtkggcjdlpendfaaGreatDoorMFrameDecodesCard9
import Derived.Deep.SlicePairs
import Derived.Laws.BitsAllLaws
import Derived.Test.YtkggcjdlpendfaaGreatDoorMFrameDecodesCard3
import Derived.Deep.QuietTactic
import Derived.BigQuiet
import Derived.Test.YtkggcjdlpendfaaGreatDoorMFrameDecodesCard2
import Derived.Test.YtkggcjdlpendfaaGreatDoorMFrameDecodesCard11
import Derived.Test.YtkggcjdlpendfaaGreatDoorMFrameDecodesCard4
import Derived.Outline
import Derived.IntWalk
import Derived.WideKeyPair
namespace Go.Proofs.YtkggcjdlpendfaaGreatDoor
set_option linter.unusedVariables false
set_option linter.unusedSimpArgs false
open Go.RowKit
def digs (n : Nat) : Nat → List Bool
 | 0 => []
 | k + 1 => (n / 2 ^ k % 2 == 1) :: digs n k
def numB : List Bool → Nat
 | [] => 0
 | b :: l => b.toNat * 2 ^ l.length + numB l
theorem digs_len (n k : Nat) : (digs n k).length = k := by
 induction k with
 | zero => rfl
 | succ k ih => simp [digs, ih]
theorem numB_lt (l : List Bool) : numB l < 2 ^ l.length := by
 induction l with
 | nil => simp [numB]
 | cons b l ih =>
   simp only [numB, List.length_cons, Nat.pow_succ]
   cases b <;> simp <;> omega
theorem numB_append (a b : List Bool) : numB (a ++ b) = numB a * 2 ^ b.length + numB b := by
 induction a with
 | nil => simp [numB]
 | cons x a ih =>
   simp only [List.cons_append, numB, List.length_append, ih, Nat.pow_add, Nat.add_mul, Nat.mul_assoc]
   omega
theorem numB_digs (n k : Nat) : numB (digs n k) = n % 2 ^ k := by
 induction k with
 | zero => simp [digs, numB, Nat.mod_one]
 | succ k ih =>
   simp only [digs, numB, digs_len, ih]
   have e : (n / 2 ^ k % 2 == 1).toNat = n / 2 ^ k % 2 := by
    rcases (show n / 2 ^ k % 2 = 0 ∨ n / 2 ^ k % 2 = 1 by omega) with h | h <;> simp [h]
   rw [e, Nat.pow_succ, Nat.mod_mul, Nat.mul_comm]
   omega
theorem numB_digs_lt {n k : Nat} (h : n < 2 ^ k) : numB (digs n k) = n := by rw [numB_digs, Nat.mod_eq_of_lt h]
theorem numB_inj {a b : List Bool} (hl : a.length = b.length) (h : numB a = numB b) : a = b := by
 induction a generalizing b with
 | nil => cases b with | nil => rfl | cons _ _ => simp at hl
 | cons x a ih =>
   cases b with
   | nil => simp at hl
   | cons y b =>
     have hl' : a.length = b.length := by simpa using hl
     simp only [numB, hl'] at h
     have h1 := numB_lt a
     have h2 := numB_lt b
     rw [hl'] at h1
     have hxy : x = y := by
      cases x <;> cases y <;> simp at h ⊢ <;> omega
     subst hxy
     rw [ih hl' (by omega)]
theorem numB_snoc (l : List Bool) (b : Bool) : numB (l ++ [b]) = 2 * numB l + b.toNat := by
 rw [numB_append]; simp [numB]; omega
def packB (l : List Bool) : List Nat := (List.range (l.length / 8)).map fun i => numB ((l.drop (8 * i)).take 8)
def padB (l : List Bool) : List Bool := l ++ List.replicate ((8 - l.length % 8) % 8) true
theorem numB_ones (k : Nat) : numB (List.replicate k true) = 2 ^ k - 1 := by
 induction k with
 | zero => rfl
 | succ k ih =>
   rw [List.replicate_succ, numB, ih, Nat.pow_succ]
   have := Nat.two_pow_pos k
   simp
   omega
def digsOf (b : List Nat) : List Bool := b.flatMap fun x => digs x 8
theorem digsOf_len (b : List Nat) : (digsOf b).length = 8 * b.length := by
 induction b with
 | nil => rfl
 | cons x b ih => simp only [digsOf, List.flatMap_cons, List.length_append, digs_len, List.length_cons] at ih ⊢; omega
theorem digsOf_at (b : List Nat) (i : Nat) (h2 : i < b.length) : ((digsOf b).drop (8 * i)).take 8 = digs b[i] 8 := by
 induction b generalizing i with
 | nil => simp at h2
 | cons x b ih =>
   have e : digsOf (x :: b) = digs x 8 ++ digsOf b := rfl
   rw [e]
   cases i with
   | zero => simp [digs_len]
   | succ i =>
     rw [List.drop_append, List.drop_of_length_le (by rw [digs_len]; omega), digs_len, List.nil_append, show 8 * (i + 1) - 8 = 8 * i by omega]
     have h3 : i < b.length := by simpa using h2
     rw [ih i h3]
     simp
theorem digsOf_append (a b : List Nat) : digsOf (a ++ b) = digsOf a ++ digsOf b := by simp [digsOf]
def chB (b : Bool) : UInt8 := if b then 49 else 48
def strB (l : List Bool) : ByteArray := ⟨(l.map chB).toArray⟩
theorem strB_data (l : List Bool) : (strB l).data.toList = l.map chB := by simp [strB]
theorem strB_size (l : List Bool) : (strB l).size = l.length := by simp [strB, ByteArray.size]
theorem strB_append (a b : List Bool) : strB (a ++ b) = strB a ++ strB b := by
 apply ByteArray.ext
 simp [strB, ByteArray.data_append]
theorem chB_nat (b : Bool) : (chB b).toNat = 48 + b.toNat := by cases b <;> rfl
theorem strB_get (l : List Bool) (k : Nat) (h : k < (strB l).size) (h2 : k < l.length) : ((strB l)[k]'h).toNat = 48 + l[k].toNat := by
 rw [← chB_nat]
 simp [strB, ByteArray.getElem_eq_getElem_data]
theorem chB_inj {a b : Bool} (h : chB a = chB b) : a = b := by cases a <;> cases b <;> first | rfl | (exfalso; revert h; decide)
theorem strB_inj {a b : List Bool} (h : strB a = strB b) : a = b := by
 have := congrArg (fun x => x.data.toList) h
 simp only [strB_data] at this
 exact List.map_inj_right (fun _ _ => chB_inj) |>.1 this
theorem encode_digit (d : Nat) (h : d % 2 = d) : Utf8.encode (48 + (d : Int)) = strB [d == 1] := by
 rcases (show d = 0 ∨ d = 1 by omega) with rfl | rfl <;> rfl
theorem binS_strB (n k : Nat) : binS n k = strB (digs n k) := by
 induction k with
 | zero => rfl
 | succ k ih =>
   show Utf8.encode (48 + (((n / 2 ^ k) % 2 : Nat) : Int)) ++ binS n k = _
   rw [encode_digit _ (by omega), ih, ← strB_append]
   rfl
theorem strB_extract (l : List Bool) (i j : Nat) (hi : i ≤ j) : (strB l).extract i j = strB ((l.drop i).take (j - i)) := by
 apply ByteArray.ext
 apply Array.ext'
 simp [strB, ByteArray.data_extract, List.map_take, List.map_drop]
theorem numB_take_succ (l : List Bool) (k : Nat) (h : k < l.length) : numB (l.take (k + 1)) = 2 * numB (l.take k) + l[k].toNat := by
 rw [List.take_succ_eq_append_getElem h, numB_snoc]
theorem numB_le (l : List Bool) (n : Nat) (h : l.length ≤ n) : numB l < 2 ^ n := by
 have h1 := numB_lt l
 have := Nat.pow_le_pow_right (n := 2) (by omega) h
 omega
set_option maxHeartbeats 400000 in
theorem fromBin_any (l : List Bool) (w : World) (hl : l.length ≤ 60) :
 Calls Tryz.prog 174 #[.string (strB l)] w fun e w' => e = .returned (.int .i64 (numB l : Nat)) ∧ Ext w w' := by
 have hsz := strB_size l
 have HG := hid_ (strB_get l)
 have HT := hid_ (numB_take_succ l)
 have HB : Hid (∀ k, numB (l.take k) < 2 ^ 60) := hid_ (fun k => numB_le _ 60 (Nat.le_trans (List.length_take_le' _ _) hl))
 generalize strB l = s at *
 have hszs := hid_ hsz
 go_enter Tryz.func174, Tryz.ntmps174
 go_wp2_with fail
 clear hsz
 go_loopw [3] (fun n w' => ∃ pos : Nat, pos ≤ l.length ∧ w' = w.iter s pos ∧ n = .int .i64 (numB (l.take pos) : Nat)) (fun _ w' => s.size - w'.iterPos w.heap.size)
 case atStart => exact ⟨0, by omega, rfl, by simp [numB]⟩
 case round =>
  obtain ⟨pos, hpos, rfl, rfl⟩ := hrel
  by_cases hp : pos < l.length
  ·have hp2 : pos < s.size := by have := hszs.out; omega
   have hd := HG.out pos hp2 hp
   have hb1 : l[pos].toNat ≤ 1 := by cases l[pos] <;> simp
   have ha : (s[pos]'hp2).toNat < 128 := by omega
   have hnx : ∀ ty, (Instr.next (.pointer (some ⟨w.heap.size, 0, none⟩)) true ty).run Tryz.prog (w.iter s pos) = _ := fun ty => run_next_ascii w s pos ty hp2 ha
   have HTP := hid_ (HT.out pos hp)
   have hlt := HB.out pos
   generalize l[pos].toNat = d at *
   rw [hd] at hnx
   clear hd ha
   generalize hN : numB (l.take pos) = N at *
   have hN2 : N < 1152921504606846976 := by simpa using hlt
   clear hlt hN
   go_wp2_with fail
   go_roundw
   case rel => exact ⟨pos + 1, by omega, rfl, by rw [HTP.out]; congr 1; omega⟩
   case measure =>
    have := hszs.out
    simp
    omega
  ·have hp2 : ¬ pos < s.size := by have := hszs.out; omega
   have hnx : ∀ ty, (Instr.next (.pointer (some ⟨w.heap.size, 0, none⟩)) true ty).run Tryz.prog (w.iter s pos) = _ := fun ty => run_next_end w s pos ty hp2
   have HF : Hid (l.take pos = l) := hid_ (List.take_of_length_le (by omega))
   go_wp2_with fail
   go_ret
   exact ⟨by rw [HF.out]; rfl, (Ext.refl w).alloc _⟩
section
open Go.RowKit Go.ChangeShapes Go.WideShapes Go.ChangeAt
def inI64 (z : Int) : Prop := -9223372036854775808 ≤ z ∧ z ≤ 9223372036854775807
theorem inI64_of_wf {z : Int} (h : (Lit.int .i64 z).wf = true) : inI64 z := by
 simp [Lit.wf, IntKind.min, IntKind.max, IntKind.signed, IntKind.bits] at h
 exact ⟨by omega, by omega⟩
theorem ints_of_cells {Q : Int → Prop} : ∀ (cs : List Value), (∀ i, i < cs.length → ∃ z, cs[i]? = some (.int .i64 z) ∧ Q z) → ∃ zs : List Int, cs = ints zs ∧ ∀ z ∈ zs, Q z
 | [], _ => ⟨[], rfl, by simp⟩
 | c :: cs, h => by
   obtain ⟨z, hz, hq⟩ := h 0 (by simp)
   obtain ⟨zs, rfl, hqs⟩ := ints_of_cells cs (fun i hi => by have := h (i + 1) (by simpa using hi); simpa using this)
   refine ⟨z :: zs, ?_, ?_⟩
   ·simp at hz; subst hz; rfl
   ·intro y hy
    cases hy with
    | head => exact hq
    | tail _ hy => exact hqs y hy
section
variable {H : Type} {enc : TypeId × Value → H} {P : Program} {w : World} {base : Nat} {spare : Nat → Bool} {held : Bool}
theorem trod_int_cell {t : TypeId} {fuel : Nat} {cs : List Value} {x : DataW H × List MemPlace} (ht : P.underlying t = some (.int .i64)) (h : DataW.trod enc P w base spare held fuel t cs = some x) :
 ∃ z, cs = [.int .i64 z] ∧ inI64 z := by
 obtain ⟨z, e, -, hw⟩ := DataW.trod_int ht h
 exact ⟨z, e, inI64_of_wf hw⟩
theorem trod_ints_arr {n : Nat} {t e : TypeId} {fuel : Nat} {cs : List Value} {x : DataW H × List MemPlace} (ht : P.underlying t = some (.array n e)) (he : P.underlying e = some (.int .i64)) (hce : P.cellsOf e = 1) (hct : P.cellsOf t = n)
 (h : DataW.trod enc P w base spare held fuel t cs = some x) : ∃ zs : List Int, zs.length = n ∧ cs = ints zs ∧ ∀ z ∈ zs, inI64 z := by
 obtain ⟨xs, m, -, -, hlen, hxl, hi⟩ := DataW.trod_array ht h
 rw [hct] at hlen
 have hcells : ∀ i, i < cs.length → ∃ z, cs[i]? = some (.int .i64 z) ∧ inI64 z := by
  intro i hlt
  have h1 := hi i (by omega)
  rw [hce, Nat.mul_one] at h1
  have hx : xs[i]? = some (xs[i]'(by omega)) := List.getElem?_eq_getElem (by omega)
  rw [hx] at h1
  obtain ⟨z, hz, hq⟩ := trod_int_cell he h1
  refine ⟨z, ?_, hq⟩
  rw [List.drop_eq_getElem_cons hlt] at hz
  simp only [List.take_succ_cons, List.take_zero, List.cons.injEq, and_true] at hz
  rw [List.getElem?_eq_getElem hlt, hz]
 obtain ⟨zs, rfl, hq⟩ := ints_of_cells cs hcells
 exact ⟨zs, by simpa [ints_len] using hlen, rfl, hq⟩
theorem cells64 : Tryz.prog.cellsOf 33 = 64 := by kernel_rfl
theorem cellsInt : Tryz.prog.cellsOf 3 = 1 := by kernel_rfl
end
end
section
open Go.RowKit Go.ChangeShapes Go.WideShapes Go.ChangeAt
section
variable {H : Type} {enc : TypeId × Value → H} {w : World} {base : Nat} {spare : Nat → Bool} {held : Bool}
theorem open_intsX {fuel : Nat} {cs : List Value} {x : DataW H × List MemPlace} (h : DataW.trod enc Tryz.prog w base spare held fuel 22 cs = some x) :
 ∃ (zs : List Int) (v : Value), cs = [v] ∧ SL w 1 v zs.length (ints zs) ∧ ∀ z ∈ zs, inI64 z := by
 rcases open_ints Tryz.underlying22 Tryz.underlying3 cellsInt h with ⟨rfl, -⟩ | ⟨a, len, cap, zs, rfl, -, hlc, hcm, hzl, -, hcell, hwf⟩
 ·exact ⟨[], _, rfl, SL.nil w 1, by simp⟩
 ·have hlen : len ≤ zs.length := by rw [hzl]; split <;> omega
  refine ⟨zs.take len, _, rfl, ?_, fun z hz => inI64_of_wf (hwf z (List.mem_of_mem_take hz))⟩
  have hl : (zs.take len).length = len := by rw [List.length_take]; omega
  rw [hl]
  refine ⟨some a, cap, rfl, hlc, by unfold maxLen at hcm; omega, by rw [ints_len, hl]; omega, fun h0 => ⟨a, rfl, ?_, fun j u hu => ?_⟩⟩
  ·have := hcell 0 (by omega)
   have h2 := World.block_lt_of_cell? w _ this
   rwa [block_of_add] at h2
  ·obtain ⟨hj, rfl⟩ := ints_at _ _ _ hu
   have hj2 : j < len := by omega
   rw [hcell j (by omega)]
   simp [List.getD_eq_getElem?_getD, show j < zs.length by omega]
theorem cells16 : Tryz.prog.cellsOf 40 = 16 := by kernel_rfl
theorem cellsSl : Tryz.prog.cellsOf 22 = 1 := by kernel_rfl
theorem cellsTbl : Tryz.prog.cellsOf 42 = 17 := by kernel_rfl
end
end
section
open Go.RowKit Go.ChangeShapes Go.WideShapes Go.ChangeAt
section
variable {H : Type} {enc : TypeId × Value → H} {w : World} {base : Nat} {spare : Nat → Bool} {held : Bool}
theorem bytes_of (zs : List Int) (h : ∀ n ∈ zs, (Lit.int .u8 n).wf = true) : ∃ bs : List Nat, zs.map (Value.int .u8) = bytesV bs ∧ ∀ b ∈ bs, b < 256 := by
 refine ⟨zs.map Int.toNat, ?_, ?_⟩
 ·unfold bytesV
  rw [List.map_map]
  apply List.map_congr_left
  intro z hz
  have := h z hz
  simp [Lit.wf, IntKind.min, IntKind.max, IntKind.signed, IntKind.bits] at this
  simp; omega
 ·intro b hb
  obtain ⟨z, hz, rfl⟩ := List.mem_map.1 hb
  have := h z hz
  simp [Lit.wf, IntKind.min, IntKind.max, IntKind.signed, IntKind.bits] at this
  omega
end
end
theorem digs_get (n : Nat) : ∀ (k j : Nat) (h : j < (digs n k).length), ((digs n k)[j]).toNat = n / 2 ^ (k - 1 - j) % 2
 | 0, j, h => by simp [digs] at h
 | k + 1, 0, _ => by
   simp only [digs, List.getElem_cons_zero, Nat.add_sub_cancel, Nat.sub_zero]
   rcases (show n / 2 ^ k % 2 = 0 ∨ n / 2 ^ k % 2 = 1 by omega) with h | h <;> simp [h]
 | k + 1, j + 1, h => by
   have := digs_get n k j (by simpa [digs] using h)
   simp only [digs, List.getElem_cons_succ]
   rw [this]
   congr 3
   omega
theorem digsOf_get (b : List Nat) (p : Nat) (h : p < (digsOf b).length) (h2 : p / 8 < b.length) : ((digsOf b)[p]).toNat = b[p / 8] / 2 ^ (7 - p % 8) % 2 := by
 have e := digsOf_at b (p / 8) h2
 have hl : p % 8 < (digs b[p / 8] 8).length := by rw [digs_len]; omega
 have e2 : (digsOf b)[p] = (digs b[p / 8] 8)[p % 8] := by
  have h3 : (((digsOf b).drop (8 * (p / 8))).take 8)[p % 8]? = (digsOf b)[p]? := by
   rw [List.getElem?_take_of_lt (by omega), List.getElem?_drop]
   congr 1
   omega
  rw [e, List.getElem?_eq_getElem hl, List.getElem?_eq_getElem h] at h3
  exact (Option.some.inj h3).symm
 rw [e2, digs_get]
theorem numB_next (b : List Nat) (at' i : Nat) (h : at' + i < (digsOf b).length) (h2 : (at' + i) / 8 < b.length) :
 numB (((digsOf b).drop at').take (i + 1)) = 2 * numB (((digsOf b).drop at').take i) + b[(at' + i) / 8] / 2 ^ (7 - (at' + i) % 8) % 2 := by
 rw [numB_take_succ _ _ (by simp; omega)]
 congr 1
 rw [← digsOf_get b (at' + i) h h2]
 congr 1
 simp
theorem numB_take_lt (l : List Bool) (i k : Nat) (h : i ≤ k) : numB (l.take i) < 2 ^ k := numB_le _ _ (by rw [List.length_take]; omega)
section
variable {o : Oper} {a : Act} {P : Program}
theorem ex_nil {x : Operand} (ho : o.op = .nilCheck x) {p : Addr} (hx : a.eval x = .pointer (some p)) (w : World) : (execOp a.eval o).run P w = .ok (.value (.pointer (some p))) w := by
 simp [execOp, ho, hx]
theorem ex_binK {op : BinOp} {t : TypeId} {x y : Operand} {t2 : TypeId} (ho : o.op = .binOp op t x y t2) {k k' : IntKind} {m n : Int} (hx : a.eval x = .int k m) (hy : a.eval y = .int k' n) {v : Value}
 (hr : ∀ w, (binOp op t (.int k m) (.int k' n)).run P w = .ok v w) (w : World) : (execOp a.eval o).run P w = .ok (.value v) w := by
 simp [execOp, ho, hx, hy, guardG, hr]
end
theorem run_shl_one (m : Nat) (h : m < 1099511627776) (W : World) : (binOp .shl 3 (.int .i64 (m : Int)) (.int .u64 1)).run Tryz.prog W = .ok (.int .i64 ((2 * m : Nat) : Int)) W := by
 have e : IntKind.i64.wrap ((m : Int) * 2 ^ (min 1 IntKind.i64.bits)) = ((2 * m : Nat) : Int) := by
  rw [show min 1 IntKind.i64.bits = 1 by decide, IntWalk.i64_in _ (by omega)]; omega
 have e3 : (2 * (m : Int)) = ((2 * m : Nat) : Int) := by omega
 simp [binOp, Op.shift, e]
theorem run_shr8 (x s : Nat) (hx : x < 256) (hs : s < 8) (W : World) : (binOp .shr 5 (.int .u8 (x : Int)) (.int .i64 (s : Int))).run Tryz.prog W = .ok (.int .u8 ((x / 2 ^ s : Nat) : Int)) W := by
 have e2 : ¬ ((s : Int) < 0) := by omega
 have hs' : s = 0 ∨ s = 1 ∨ s = 2 ∨ s = 3 ∨ s = 4 ∨ s = 5 ∨ s = 6 ∨ s = 7 := by omega
 rcases hs' with rfl | rfl | rfl | rfl | rfl | rfl | rfl | rfl <;> simp [binOp, Op.shift]
theorem run_and8 (y : Nat) (h : y < 256) (W : World) : (binOp .and 5 (.int .u8 (y : Int)) (.int .u8 1)).run Tryz.prog W = .ok (.int .u8 ((y % 2 : Nat) : Int)) W := by
 have e : bits .and .u8 (y : Int) 1 = ((y % 2 : Nat) : Int) := by
  have : ∀ y : Fin 256, bits .and .u8 ((y.val : Nat) : Int) 1 = ((y.val % 2 : Nat) : Int) := by decide +kernel
  exact this ⟨y, h⟩
 simp [binOp, intBits_and, e]
theorem run_or2 (m b : Nat) (h : m < 1099511627776) (hb : b < 2) (W : World) : (binOp .or 3 (.int .i64 ((2 * m : Nat) : Int)) (.int .i64 (b : Int))).run Tryz.prog W = .ok (.int .i64 ((2 * m + b : Nat) : Int)) W := by
 have e : bits .or .i64 ((2 * m : Nat) : Int) (b : Int) = ((2 * m + b : Nat) : Int) := by
  have hx : 2 * m ||| b = 2 * m + b := nat_join1 _ _ (by omega) hb
  show IntKind.i64.wrap ((BitVec.ofInt 64 ((2 * m : Nat) : Int) ||| BitVec.ofInt 64 (b : Int)).toNat : Int) = _
  rw [BitVec.toNat_or, BitVec.ofInt_natCast, BitVec.ofInt_natCast, BitVec.toNat_ofNat, BitVec.toNat_ofNat, Nat.mod_eq_of_lt (by omega), Nat.mod_eq_of_lt (by omega), hx]
  exact IntWalk.i64_in _ (by omega)
 have e2 : binOp .or 3 (.int .i64 ((2 * m : Nat) : Int)) (.int .i64 (b : Int)) = pure (.int .i64 (bits .or .i64 ((2 * m : Nat) : Int) (b : Int))) := by rw [binOp_or, intBits_or]
 rw [e2, e]
 rfl
theorem sizeU8' : (Tryz.prog.info? 5).map (·.size) = some 1 := by kernel_rfl
abbrev Tok := Int × Int × Int
def tokv (t : Tok) : List Value := [.int .i64 t.1, .int .i64 t.2.1, .int .i64 t.2.2]
def toks (T : List Tok) : List Value := T.flatMap tokv
theorem toks_at (T : List Tok) (k : Nat) (h : k < T.length) :
 (toks T)[k * 3]? = some (.int .i64 T[k].1) ∧ (toks T)[k * 3 + 1]? = some (.int .i64 T[k].2.1) ∧ (toks T)[k * 3 + 2]? = some (.int .i64 T[k].2.2) := by
 induction T generalizing k with
 | nil => simp at h
 | cons t T ih =>
   have e : toks (t :: T) = tokv t ++ toks T := by simp [toks]
   rw [e]
   cases k with
   | zero => simp [tokv]
   | succ k =>
     have h2 : k < T.length := by simpa using h
     obtain ⟨a, b, c⟩ := ih k h2
     refine ⟨?_, ?_, ?_⟩
     ·rw [List.getElem?_append_right (by simp [tokv]; omega), show (k + 1) * 3 - (tokv t).length = k * 3 by simp [tokv]; omega, a]; simp
     ·rw [List.getElem?_append_right (by simp [tokv]; omega), show (k + 1) * 3 + 1 - (tokv t).length = k * 3 + 1 by simp [tokv]; omega, b]; simp
     ·rw [List.getElem?_append_right (by simp [tokv]; omega), show (k + 1) * 3 + 2 - (tokv t).length = k * 3 + 2 by simp [tokv]; omega, c]; simp
theorem addr_next (ad : Addr) (i j : Nat) (hj : 0 < j) : (⟨(ad.add i).block, (ad.add i).off + j, none⟩ : Addr) = ad.add (i + j) := by
 unfold Addr.add
 rw [if_neg (show ¬ i + j = 0 by omega)]
 split
 ·next h => subst h; simp
 ·simp; omega
theorem SL.tok {w : World} {A : Option Addr} {n c : Nat} {T : List Tok} {k : Nat} (h : SL w 3 (.slice A n c) n (toks T)) (hk : k < n) (hn : T.length = n) (hkl : k < T.length) :
 ∃ ad, A = some ad ∧ ad.block < w.heap.size ∧ w.cell? (ad.add (k * 3)) = some (.int .i64 T[k].1) ∧ w.cell? ⟨(ad.add (k * 3)).block, (ad.add (k * 3)).off + 1, none⟩ = some (.int .i64 T[k].2.1) ∧ w.cell? ⟨(ad.add (k * 3)).block, (ad.add (k * 3)).off + 2, none⟩ = some (.int .i64 T[k].2.2) := by
 obtain ⟨A', c', e, _, _, h2, h3⟩ := h
 injection e with e1 e2 e3
 subst e1
 obtain ⟨ad, ea, hb, hc⟩ := h3 (by omega)
 obtain ⟨a, b, d⟩ := toks_at T k hkl
 exact ⟨ad, ea, hb, hc _ _ a, by rw [addr_next _ _ 1 (by omega)]; exact hc _ _ b, by rw [addr_next _ _ 2 (by omega)]; exact hc _ _ d⟩
theorem elt_word : Elt Tryz.prog 88 94 3 24 := ⟨Tryz.underlying88, by kernel_rfl, by omega⟩
theorem one_sl3' (w : World) (T : TypeId) (a b c : Value) : SL (w.alloc (.cells #[a, b, c] T)) 3 (.slice (some ⟨w.heap.size, 0, none⟩) 1 1) 1 [a, b, c] := by
 have := (Blk.new w T #[a, b, c]).sl (size := 3) (n := 1) (c := 1) rfl (by omega) (by omega)
 simpa using this
theorem int3_one (a b c : Int) : ∀ u ∈ [Value.int .i64 a, .int .i64 b, .int .i64 c], u.oneCell' = true := by
 intro u hu
 simp at hu
 rcases hu with rfl | rfl | rfl <;> rfl
theorem own_tok3 {w : World} {base : Nat} {e : TypeId} {v : Value} {T : List Tok} {a b c : Int} (h : w.ownsRow base e 3 v (T.length + 1) (toks T ++ [.int .i64 a, .int .i64 b, .int .i64 c])) : w.ownsRow base e 3 v (T ++ [(a, b, c)]).length (toks (T ++ [(a, b, c)])) := by
 simpa [toks, tokv] using h
def rowC (cs : List Int) (k j : Nat) : List (Nat × Nat) := (List.range j).map fun i => (k + 1, 2 * nextW cs k + i)
def codesW (cs : List Int) : Nat → List (Nat × Nat)
 | 0 => []
 | k + 1 => codesW cs k ++ rowC cs k (cs.getD k 0).toNat
theorem rowC_succ (cs : List Int) (k j : Nat) : rowC cs k (j + 1) = rowC cs k j ++ [(k + 1, 2 * nextW cs k + j)] := by
 unfold rowC
 rw [List.range_succ, List.map_append]
 rfl
theorem rowC_len (cs : List Int) (k j : Nat) : (rowC cs k j).length = j := by simp [rowC]
theorem codesW_step (cs : List Int) (k n : Nat) (hk : k < cs.length) (h : cs[k] = (n : Int)) : codesW cs (k + 1) = codesW cs k ++ rowC cs k n := by
 show codesW cs k ++ rowC cs k (cs.getD k 0).toNat = _
 simp [hk, h]
theorem codesW_len (cs : List Int) (h : ∀ z ∈ cs, 0 ≤ z) : ∀ k, k ≤ cs.length → ((codesW cs k).length : Int) = sumL cs k := by
 intro k
 induction k with
 | zero => intro _; simp [codesW, sumL]
 | succ k ih =>
   intro hk
   have h0 := h _ (List.getElem_mem (show k < cs.length by omega))
   rw [codesW_step cs k cs[k].toNat (by omega) (by omega), List.length_append, rowC_len, sumL_succ cs k (by omega), ← ih (by omega)]
   omega
theorem codesW_mono (cs : List Int) (j k : Nat) (h : j ≤ k) : (codesW cs j).length ≤ (codesW cs k).length := by
 induction k with
 | zero => obtain rfl : j = 0 := by omega
           exact Nat.le_refl _
 | succ k ih =>
   rcases Nat.lt_or_ge k j with h2 | h2
   ·obtain rfl : j = k + 1 := by omega
    exact Nat.le_refl _
   ·have := ih h2
    show _ ≤ (codesW cs k ++ _).length
    rw [List.length_append]
    omega
theorem outW_codes (cs : List Int) (k : Nat) : outW cs k = (codesW cs k).map fun p => binS p.2 p.1 := by
 induction k with
 | zero => rfl
 | succ k ih =>
   show outW cs k ++ rowW cs k _ = _
   rw [ih]
   simp [codesW, rowC, rowW, Function.comp_def]
def zipC (l : List (Nat × Nat)) (xs : List Int) : List Tok := List.zipWith (fun p x => ((x, (p.1 : Int), (p.2 : Int)) : Tok)) l xs
theorem zipC_len (l : List (Nat × Nat)) (xs : List Int) (h : l.length ≤ xs.length) : (zipC l xs).length = l.length := by simp [zipC]; omega
theorem zipC_snoc (l : List (Nat × Nat)) (p : Nat × Nat) (xs : List Int) (h : l.length < xs.length) : zipC (l ++ [p]) xs = zipC l xs ++ [(xs[l.length], (p.1 : Int), (p.2 : Int))] := by
 induction l generalizing xs with
 | nil =>
   cases xs with
   | nil => simp at h
   | cons x xs => simp [zipC]
 | cons q l ih =>
   cases xs with
   | nil => simp at h
   | cons x xs =>
     have h' : l.length < xs.length := by simpa using h
     have := ih xs h'
     simp only [zipC, List.cons_append, List.zipWith_cons_cons] at this ⊢
     rw [this]
     simp
theorem codesW_fit (cs : List Int) (hok : okW cs = true) (hl : cs.length = 16) : ∀ k, k ≤ 16 → ∀ p ∈ codesW cs k, 1 ≤ p.1 ∧ p.1 ≤ k ∧ p.2 + 1 < 2 ^ p.1 + 1 := by
 intro k
 induction k with
 | zero => intro _ p hp; simp [codesW] at hp
 | succ k ih =>
   intro hk p hp
   rcases List.mem_append.1 (show p ∈ codesW cs k ++ rowC cs k (cs.getD k 0).toNat from hp) with h | h
   ·have := ih (by omega) p h
    omega
   ·simp only [rowC, List.mem_map, List.mem_range] at h
    obtain ⟨i, hi, rfl⟩ := h
    have h1 := List.all_eq_true.1 hok k (List.mem_range.2 (by omega))
    simp only [decide_eq_true_eq] at h1
    have h2 : nextW cs (k + 1) = 2 * nextW cs k + (cs.getD k 0).toNat := rfl
    refine ⟨by simp, by simp, ?_⟩
    simp only
    omega
theorem codesW_zero (cs : List Int) : codesW cs 0 = [] := rfl
theorem codesW_succ (cs : List Int) (k : Nat) : codesW cs (k + 1) = codesW cs k ++ rowC cs k (cs.getD k 0).toNat := rfl
attribute [irreducible] codesW
set_option maxRecDepth 20000 in
set_option maxHeartbeats 1000000 in
theorem words_any (cs xs : List Int) (sl : Value) (w : World) (hl : cs.length = 16) (hs : SL w 1 sl xs.length (ints xs)) (hal : allIn cs 0 256 = true) (hok : okW cs = true) (hsum : sumL cs 16 = xs.length) (hx256 : xs.length ≤ 256) :
 Calls Tryz.prog 106 #[.agg (tblv cs sl)] w fun e w' => ∃ A c, e = .returned (.slice A xs.length c) ∧ SL w' 3 (.slice A xs.length c) xs.length (toks (zipC (codesW cs 16) xs)) ∧ (∀ ad, A = some ad → w.heap.size ≤ ad.block) ∧ Ext w w' := by
 have hlast := hid_ (fun W g (h : Blk W g 42 (tblv cs sl)) => tblv_last h hl)
 have HRG := hid_ (fun W g (h : Blk W g 42 (tblv cs sl)) => tblv_range h)
 have hcl := hid_ ((ints_len cs).trans hl)
 have HIX := hid_ (fun k (hk : k < cs.length) (h16 : k < 16) => fun W => run_index16 (ints cs).toArray k (.int .i64 cs[k]) h16 (bv_at cs k hk) W)
 have HAL := hid_ (allIn_iff.1 hal)
 have HL := hid_ hl
 have HLEN : Hid ((codesW cs 16).length = xs.length) := hid_ (by have := codesW_len cs (fun z hz => (HAL.out z hz).1) 16 (by omega); omega)
 have HOKS := hid_ (fun k (hk : k < 16) => by simpa using List.all_eq_true.1 hok k (List.mem_range.2 hk))
 have hs' := hs
 obtain ⟨A, c, rfl, hc1, hc2, -, -⟩ := hs'
 generalize tblv cs (.slice A xs.length c) = tv at *
 clear hal hok hsum
 go_enter Tryz.func106, Tryz.ntmps106
 go_wp2_with (first
  | (refine wBox rfl 42 (.tmp 0) rfl tv rfl ?_; intro w1 g hb1 hx1 hg)
  | (refine wpList_load_mid rfl 40 (.tmp 7) rfl g 0 rfl (ints cs) _ (HRG.out _ _ hb1) Tryz.underlying40 rfl (by rw [hcl.out]; exact size16) ?_))
 have hs1 := hs.ext hx1
 have hgw := hb1.lt
 have hsz1 := hx1.size
 go_loopw [3, 4, 9] (fun v nx i wr => ∃ k : Nat, k ≤ 16 ∧ i = .int .i64 (k : Int) ∧ nx = .int .i64 (nextW cs k : Nat) ∧ nextW cs k + 1 ≤ 2 ^ k ∧ OwnV wr w1.heap.size 94 3 v (codesW cs k).length (toks (zipC (codesW cs k) xs)) ∧ Ext w1 wr) (fun _ _ i _ => 16 - (intOf i).toNat)
 case atStart => exact ⟨0, by omega, rfl, rfl, by simp [nextW], by rw [codesW_zero]; exact OwnV.nil _ _ _ _, Ext.refl _⟩
 case round =>
  obtain ⟨k, hk, rfl, rfl, hnx, ⟨B0, d0, rfl, hown⟩, hx⟩ := hrel
  by_cases hlt : k < 16
  ·have hsd : decide ((k : Int) < 16) = true := by simp; omega
   have hkl : k < cs.length := by have := HL.out; omega
   have hix := HIX.out k hkl hlt
   obtain ⟨q1, q2⟩ := HAL.out _ (List.getElem_mem hkl)
   obtain ⟨n, hn⟩ : ∃ n : Nat, cs[k] = (n : Int) := ⟨cs[k].toNat, by omega⟩
   have HNW := hid_ (nextW_succ cs k n hkl hn)
   have HCW := hid_ (codesW_step cs k n hkl hn)
   have HOK := hid_ (HOKS.out k hlt)
   have HMO := hid_ (codesW_mono cs (k + 1) 16 (by omega))
   rw [hn] at hix q1 q2
   have hp : (2 : Nat) ^ k ≤ 65536 := by have := Nat.pow_le_pow_right (n := 2) (by omega) hk; simpa using this
   have HP : Hid (2 ^ (k + 1) = 2 * 2 ^ k) := hid_ (by rw [Nat.pow_succ]; omega)
   have HRS := hid_ (rowC_succ cs k)
   have HR0 : Hid (rowC cs k 0 = []) := hid_ rfl
   have HRL := hid_ (rowC_len cs k)
   have hbound : (codesW cs k).length + n ≤ xs.length := by have h1 := HMO.out; have h2 := HLEN.out; rw [HCW.out, List.length_append, HRL.out] at h1; omega
   generalize nextW cs k = N at *
   generalize (2 : Nat) ^ k = Pw at *
   clear hn hkl
   generalize codesW cs k = C at *
   have HC0 : Hid (zipC (C ++ rowC cs k 0) xs = zipC C xs) := hid_ (by rw [HR0.out, List.append_nil])
   go_wp2_with fail
   go_loopw [3, 4, 16] (fun v nx i wr => ∃ j : Nat, j ≤ n ∧ i = .int .i64 (j : Int) ∧ nx = .int .i64 ((2 * N + j : Nat) : Int) ∧ OwnV wr w1.heap.size 94 3 v (C.length + j) (toks (zipC (C ++ rowC cs k j) xs)) ∧ Ext w1 wr) (fun _ _ i _ => n - (intOf i).toNat)
   case atStart => exact ⟨0, by omega, rfl, vint (by omega), by rw [HC0.out]; exact OwnV.mk hown, hx⟩
   case round =>
    clear hown hx
    obtain ⟨j, hj, rfl, rfl, ⟨B, d, rfl, hown⟩, hx⟩ := hrel
    have hclen : (C ++ rowC cs k j).length = C.length + j := by rw [List.length_append, HRL.out]
    have hzl : (zipC (C ++ rowC cs k j) xs).length = C.length + j := by rw [zipC_len _ _ (by omega), hclen]
    have hcz := hid_ hclen
    have HZL := hid_ hzl
    clear hclen
    by_cases hlj : j < n
    ·have hix2 : C.length + j < xs.length := by omega
     have HZS : Hid (zipC (C ++ rowC cs k (j + 1)) xs = zipC (C ++ rowC cs k j) xs ++ [(xs[C.length + j], ((k + 1 : Nat) : Int), ((2 * N + j : Nat) : Int))]) := hid_ (by
      rw [HRS.out j, ← List.append_assoc, zipC_snoc _ _ _ (by rw [hcz.out]; exact hix2)]
      simp only [hcz.out])
     obtain ⟨ad, u, hA, -, hxk, hcell⟩ := (hs1.ext hx).at1 hix2
     obtain ⟨hkl2, rfl⟩ := ints_at _ _ _ hxk
     subst hA
     have hc16 := hlast.out _ _ (hb1.ext hx)
     generalize xs[C.length + j] = x at *
     generalize zipC (C ++ rowC cs k j) xs = T at *
     generalize hM : C.length + j = M at *
     have hM256 : M < 256 := by omega
     have HM := hid_ hM
     clear hxk hM hzl
     go_wp2_with (at_builtin; go_must (refine wpList_append_sl elt_word rfl _ _ rfl w1.heap.size _ _ _ rfl (hown.alloc _) _ 1 [.int .i64 _, .int .i64 _, .int .i64 _] rfl (one_sl3' _ _ _ _ _) (int3_one _ _ _) (by omega) (by omega) (by have := hx.size; simp; omega) ?_); intro v' w7 hown7 hb7)
     go_roundw
     case rel =>
      refine ⟨j + 1, by omega, by go_num, vint (by omega), ?_, (hx.alloc _).trans' hb7⟩
      rw [HZS.out]
      have := own_tok3 (T := T) (by rw [HZL.out]; exact hown7)
      rw [List.length_append, HZL.out, ← HM.out] at this
      simpa [Nat.add_assoc] using OwnV.mk this
     case measure => simp [intOf]; omega
    ·obtain rfl : j = n := by omega
     clear hzl
     go_wp2_with fail
     go_roundw
     case rel => exact ⟨k + 1, by omega, by go_num, by rw [HNW.out], by rw [HNW.out, HP.out]; have := HOK.out; rw [HNW.out, HP.out] at this; omega, by rw [HCW.out, hcz.out]; exact OwnV.mk hown, hx⟩
     case measure => simp [intOf]; omega
  ·have ek : k = 16 := by omega
   rw [ek] at hown ⊢
   rw [HLEN.out] at hown ⊢
   go_wp2_with fail
   go_ret
   obtain ⟨hsl, hfs⟩ := own_out hown
   exact ⟨B0, d0, rfl, hsl, fun ad h => by have := hfs ad h; omega, hx1.trans hx⟩
theorem checkZ_zero {cs xs : List Int} (h : checkZ cs xs = 0) : allIn cs 0 256 = true ∧ sumL cs 16 = xs.length ∧ xs.length ≤ 256 ∧ okW cs = true ∧ allIn xs 0 255 = true ∧ xs.Nodup := by
 unfold checkZ at h
 split at h
 ·next h1 =>
  obtain ⟨q1, q2, q3⟩ := totOK_iff.1 h1
  split at h
  ·next h2 =>
   split at h
   ·next h3 =>
    simp only [Bool.and_eq_true, decide_eq_true_eq] at h3
    exact ⟨q1, q3, by omega, h3.2, h2, h3.1⟩
   ·cases h
  ·cases h
 ·cases h
theorem later_eq : Later (fun a b : World => a = b) := ⟨fun _ => rfl, fun h k => h.trans k⟩
theorem own_ext0' {w w' : World} {base : Nat} {e : TypeId} {size n : Nat} {v : Value} {xs : List Value} (h : w.ownsRow base e size v n xs) (hb : Ext w w') : w'.ownsRow base e size v n xs := by
 obtain ⟨hl, hh⟩ := h
 refine ⟨hl, ?_⟩
 rcases hh with ⟨rfl, rfl⟩ | ⟨g, cap, cur, rfl, h1, hg, h2⟩
 ·exact .inl ⟨rfl, rfl⟩
 ·exact .inr ⟨g, cap, cur, rfl, h1, (hb.block g (Blk.lt (w := w) (t := e) (cs := cur) hg)).trans hg, h2⟩
theorem own_out' {w : World} {base : Nat} {e : TypeId} {size n c : Nat} {A : Option Addr} {xs : List Value} (h : w.ownsRow base e size (.slice A n c) n xs) : SL w size (.slice A n c) n xs ∧ ∀ ad, A = some ad → base ≤ ad.block := by
 obtain ⟨B, d, e1, h1, h2⟩ := own_form h
 injection e1 with e1 e2 e3
 subst e1 e3
 exact ⟨h1, h2⟩
theorem outW_at (cs : List Int) (k : Nat) (h : k < (codesW cs 16).length) : (strs (outW cs 16))[k]? = some (.string (strB (digs (codesW cs 16)[k].2 (codesW cs 16)[k].1))) := by
 unfold strs
 rw [outW_codes]
 simp [h, binS_strB]
theorem outW_len (cs : List Int) : (outW cs 16).length = (codesW cs 16).length := by rw [outW_codes]; simp
theorem zipC_at (C : List (Nat × Nat)) (xs : List Int) (k : Nat) (h1 : k < C.length) (h2 : k < xs.length) (h : k < (zipC C xs).length) : (zipC C xs)[k] = (xs[k], ((C[k]).1 : Int), ((C[k]).2 : Int)) := by
 simp [zipC]
def findT (T : List Tok) (s : Int) : Option Tok := T.find? (fun t => t.1 == s)
def bitsT (T : List Tok) (s : Int) : List Bool := match findT T s with | some t => digs t.2.2.toNat t.2.1.toNat | none => []
section
open Go.RowKit Go.Maps Go.WideMaps
def symF (T : List Tok) (s : Int) : Option Value := (T.find? (fun t => t.1 == s)).map (fun t => Value.agg #[.int .i64 t.1, .int .i64 t.2.1, .int .i64 t.2.2])
def codeF (T : List Tok) (p : Int × Int) : Option Value := (T.find? (fun t => t.2.1 == p.1 && t.2.2 == p.2)).map (fun t => Value.int .i64 t.1)
theorem symF_snoc_same (T : List Tok) (t : Tok) (h : ∀ u ∈ T, u.1 ≠ t.1) : symF (T ++ [t]) t.1 = some (.agg #[.int .i64 t.1, .int .i64 t.2.1, .int .i64 t.2.2]) := by
 have h1 : T.find? (fun u => u.1 == t.1) = none := by
  rw [List.find?_eq_none]
  intro u hu
  simpa using h u hu
 unfold symF
 rw [List.find?_append, h1]
 simp
theorem symF_snoc_other (T : List Tok) (t : Tok) (s : Int) (h : s ≠ t.1) : symF (T ++ [t]) s = symF T s := by
 have h1 : [t].find? (fun u => u.1 == s) = none := by
  rw [List.find?_eq_none]
  intro u hu
  have : u = t := by simpa using hu
  subst this
  simpa using fun h2 => h h2.symm
 unfold symF
 rw [List.find?_append, h1, Option.or_none]
theorem codeF_snoc_same (T : List Tok) (t : Tok) (h : ∀ u ∈ T, u.2 ≠ t.2) : codeF (T ++ [t]) (t.2.1, t.2.2) = some (.int .i64 t.1) := by
 have h1 : T.find? (fun u => u.2.1 == t.2.1 && u.2.2 == t.2.2) = none := by
  rw [List.find?_eq_none]
  intro u hu
  have := h u hu
  simp only [Bool.and_eq_true, beq_iff_eq]
  exact fun h2 => this (Prod.ext h2.1 h2.2)
 unfold codeF
 rw [List.find?_append, h1]
 simp
theorem codeF_snoc_other (T : List Tok) (t : Tok) (p : Int × Int) (h : p ≠ t.2) : codeF (T ++ [t]) p = codeF T p := by
 have h1 : [t].find? (fun u => u.2.1 == p.1 && u.2.2 == p.2) = none := by
  rw [List.find?_eq_none]
  intro u hu
  have : u = t := by simpa using hu
  subst this
  simp only [Bool.and_eq_true, beq_iff_eq]
  exact fun h2 => h (Prod.ext h2.1.symm h2.2.symm)
 unfold codeF
 rw [List.find?_append, h1, Option.or_none]
theorem arrKey2 : ArrKey Tryz.prog 260 3 2 := ⟨Tryz.underlying260, by kernel_rfl, by kernel_rfl, by kernel_rfl⟩
theorem typesPos : ∃ m, Tryz.prog.types.size = m + 1 := ⟨Tryz.prog.types.size - 1, by have : 0 < Tryz.prog.types.size := of_decide_eq_true (by kernel_rfl); omega⟩
theorem keyed_pair : Keyed Tryz.prog 260 := Keyed.of_law (ArrKey.law arrKey2)
def klP (p : Int × Int) : Lit := .string (keyBytes [.int .i64 p.1, .int .i64 p.2])
def okP (p : Int × Int) : Prop := (-9223372036854775808 ≤ p.1 ∧ p.1 ≤ 9223372036854775807) ∧ (-9223372036854775808 ≤ p.2 ∧ p.2 ≤ 9223372036854775807)
theorem keyOf_P (p : Int × Int) (h : okP p) : keyOf Tryz.prog 260 (.agg #[.int .i64 p.1, .int .i64 p.2]) = some (klP p) :=
 keyOf_pair arrKey2 Tryz.underlying3 typesPos (WalkArith.wf_i64 h.1) (WalkArith.wf_i64 h.2)
theorem klP_inj {p q : Int × Int} (hp : okP p) (hq : okP q) (h : klP p = klP q) : p = q := by
 have h1 := keyOf_P p hp
 have h2 := keyOf_P q hq
 rw [← h] at h2
 have := keyed_pair.inj h1 h2
 simp at this
 exact Prod.ext this.1 this.2
abbrev MapP (w : World) (b n : Nat) (g : Int × Int → Option Value) : Prop := MapG Tryz.prog 260 klP okP w b n g
def CoderS (w : World) (gc : Nat) (T : List Tok) : Prop :=
 ∃ m1 m2 n, Blk w gc 241 #[.map (some m1), .map (some m2)] ∧ MapI Tryz.prog 3 w m1 n (symF T) ∧ MapP w m2 n (codeF T)
theorem CoderS.ext {w w' : World} {gc : Nat} {T : List Tok} (h : CoderS w gc T) (hx : Ext w w') : CoderS w' gc T := by
 obtain ⟨m1, m2, n, a, b, c⟩ := h
 exact ⟨m1, m2, n, a.ext hx, b.ext hx, c.ext hx⟩
theorem CoderS.below {B : Nat} {w w' : World} {gc : Nat} {T : List Tok} (h : CoderS w gc T) (hB : w.heap.size ≤ B) (hx : Below B w w') : CoderS w' gc T := by
 obtain ⟨m1, m2, n, a, b, c⟩ := h
 exact ⟨m1, m2, n, a.below hx (Nat.lt_of_lt_of_le a.lt hB), b.below hx (Nat.lt_of_lt_of_le b.lt hB), c.below hx (Nat.lt_of_lt_of_le c.lt hB)⟩
theorem codesW_nodup (cs : List Int) : ∀ k, (codesW cs k).Nodup ∧ ∀ p ∈ codesW cs k, p.1 ≤ k := by
 intro k
 induction k with
 | zero => rw [codesW_zero]; simp
 | succ k ih =>
   rw [show codesW cs (k + 1) = codesW cs k ++ rowC cs k (cs.getD k 0).toNat from codesW_succ cs k]
   have hrow : ∀ n, (rowC cs k n).Nodup := by
    intro n
    unfold rowC
    refine List.Pairwise.map _ ?_ List.nodup_range
    intro a b hab h
    have := (Prod.mk.inj h).2
    omega
   refine ⟨List.nodup_append.2 ⟨ih.1, hrow _, ?_⟩, ?_⟩
   ·intro p hp q hq
    have h1 := ih.2 p hp
    simp only [rowC, List.mem_map, List.mem_range] at hq
    obtain ⟨i, _, rfl⟩ := hq
    rintro rfl
    simp at h1
    omega
   ·intro p hp
    rcases List.mem_append.1 hp with h | h
    ·have := ih.2 p h; omega
    ·simp only [rowC, List.mem_map, List.mem_range] at h
     obtain ⟨i, _, rfl⟩ := h
     simp
theorem take_mem {α : Type} {l : List α} {k : Nat} {x : α} (h : x ∈ l.take k) : ∃ j, ∃ hj : j < l.length, j < k ∧ x = l[j] := by
 obtain ⟨j, hj, rfl⟩ := List.mem_iff_getElem.1 h
 simp at hj
 exact ⟨j, by omega, by omega, by simp⟩
theorem nodup_at {α : Type} {l : List α} (h : l.Nodup) {i j : Nat} (hi : i < l.length) (hj : j < l.length) (hij : i ≠ j) : l[i] ≠ l[j] := fun e => hij ((List.getElem_inj h).1 e)
theorem zipC_apart (cs xs : List Int) (hxs : xs.Nodup) (hl : (codesW cs 16).length = xs.length) (k : Nat) (hk : k < (zipC (codesW cs 16) xs).length) :
 (∀ u ∈ (zipC (codesW cs 16) xs).take k, u.1 ≠ ((zipC (codesW cs 16) xs)[k]).1) ∧ (∀ u ∈ (zipC (codesW cs 16) xs).take k, u.2 ≠ ((zipC (codesW cs 16) xs)[k]).2) := by
 have hz : (zipC (codesW cs 16) xs).length = xs.length := by rw [zipC_len _ _ (by omega), hl]
 have hn := (codesW_nodup cs 16).1
 generalize codesW cs 16 = C at *
 constructor
 ·intro u hu
  obtain ⟨j, hj, hjk, rfl⟩ := take_mem hu
  rw [zipC_at C xs j (by omega) (by omega), zipC_at C xs k (by omega) (by omega)]
  exact nodup_at hxs _ _ (by omega)
 ·intro u hu
  obtain ⟨j, hj, hjk, rfl⟩ := take_mem hu
  rw [zipC_at C xs j (by omega) (by omega), zipC_at C xs k (by omega) (by omega)]
  intro h
  have h1 := (Prod.mk.inj h).1
  have h2 := (Prod.mk.inj h).2
  exact nodup_at hn (i := j) (j := k) (by omega) (by omega) (by omega) (Prod.ext (by omega) (by omega))
theorem toks_take_succ (Z : List Tok) (k : Nat) (h : k < Z.length) : Z.take (k + 1) = Z.take k ++ [Z[k]] := List.take_succ_eq_append_getElem h
end
def wordIn (D : List Bool) (p : Nat) (t : Tok) : Bool := decide (p + t.2.1.toNat ≤ D.length) && ((numB ((D.drop p).take t.2.1.toNat) : Int) == t.2.2)
def hasCode (long code : Int) (t : Tok) : Bool := t.2.1 == long && t.2.2 == code
def getGo (T : List Tok) (D : List Bool) (p : Nat) : Nat → Nat → Int × Nat × Int
 | 0, _ => (0, p, 4)
 | f + 1, long => if p + long ≤ D.length then (match T.find? (hasCode (long : Int) (numB ((D.drop p).take long) : Nat)) with | some t => (t.1, p + long, 0) | none => getGo T D p f (long + 1)) else (0, p, 3)
def symZ (T : List Tok) (D : List Bool) (p : Nat) : Int × Nat × Int :=
 match T.find? (wordIn D p) with | some t => (t.1, p + t.2.1.toNat, 0) | none => (0, p, if D.length < p + 16 then 3 else 4)
theorem symZ_some {T : List Tok} {D : List Bool} {p : Nat} {t : Tok} (h : T.find? (wordIn D p) = some t) : symZ T D p = (t.1, p + t.2.1.toNat, 0) := by unfold symZ; rw [h]
theorem symZ_none {T : List Tok} {D : List Bool} {p : Nat} (h : T.find? (wordIn D p) = none) : symZ T D p = (0, p, if D.length < p + 16 then 3 else 4) := by unfold symZ; rw [h]
theorem getGo_sym (T : List Tok) (D : List Bool) (p : Nat) (hs : T.Pairwise fun a b => a.2.1 ≤ b.2.1) (hfit : ∀ t ∈ T, ∃ l c : Nat, t.2 = ((l : Int), (c : Int)) ∧ 1 ≤ l ∧ l ≤ 16) :
 ∀ (f long : Nat), f + long = 17 → 1 ≤ long → p + long ≤ D.length + 1 → (∀ t ∈ T, t.2.1 < (long : Int) → wordIn D p t = false) → getGo T D p f long = symZ T D p
 | 0, long, h1, _, hp0, hno => by
   have hn : T.find? (wordIn D p) = none := by
    rw [List.find?_eq_none]
    intro t ht
    obtain ⟨l, c, e, h2, h3⟩ := hfit t ht
    have := hno t ht (by rw [e]; simp; omega)
    simp [this]
   rw [symZ_none hn, getGo, if_neg (by omega)]
 | f + 1, long, h1, h2, hp0, hno => by
   unfold getGo
   split
   ·next hle =>
    split
    ·next t ht =>
     obtain ⟨hp, l1, l2, rfl, has⟩ := List.find?_eq_some_iff_append.1 ht
     simp only [hasCode, Bool.and_eq_true, beq_iff_eq] at hp
     have hw : wordIn D p t = true := by simp [wordIn, hp.1, hp.2, hle]
     have hfind : (l1 ++ t :: l2).find? (wordIn D p) = some t := by
      rw [List.find?_eq_some_iff_append]
      refine ⟨hw, l1, l2, rfl, fun a ha => ?_⟩
      by_cases hwa : wordIn D p a = true
      ·have hq := has a ha
       have h3 : a.2.1 ≤ t.2.1 := (List.pairwise_append.1 hs).2.2 a ha t (by simp)
       have h4 : ¬ a.2.1 < (long : Int) := fun h => by rw [hno a (by simp [ha]) h] at hwa; cases hwa
       have h5 : a.2.1 = (long : Int) := by omega
       simp only [wordIn, h5, Int.toNat_natCast, Bool.and_eq_true, decide_eq_true_eq, beq_iff_eq] at hwa
       simp [hasCode, h5, hwa.2] at hq
      ·simpa using hwa
     rw [symZ_some hfind, hp.1]
     simp
    ·next hn =>
     refine getGo_sym T D p hs hfit f (long + 1) (by omega) (by omega) (by omega) fun t ht hl => ?_
     by_cases h3 : t.2.1 < (long : Int)
     ·exact hno t ht h3
     ·have h4 : t.2.1 = (long : Int) := by omega
      have h5 := List.find?_eq_none.1 hn t ht
      rw [← Bool.not_eq_true]
      intro hw
      simp only [wordIn, h4, Int.toNat_natCast, Bool.and_eq_true, decide_eq_true_eq, beq_iff_eq] at hw
      simp [hasCode, h4, hw.2] at h5
   ·next hle =>
    have hn : T.find? (wordIn D p) = none := by
     rw [List.find?_eq_none]
     intro t ht
     by_cases h3 : t.2.1 < (long : Int)
     ·simp [hno t ht h3]
     ·simp [wordIn]
      intro h4
      omega
    rw [symZ_none hn, if_pos (by omega)]
theorem getGo_out {T : List Tok} {D : List Bool} {p f long : Nat} (h : ¬ p + long ≤ D.length) : getGo T D p (f + 1) long = (0, p, 3) := by rw [getGo, if_neg h]
theorem getGo_yes {T : List Tok} {D : List Bool} {p f long : Nat} {t : Tok} (h : p + long ≤ D.length) (hf : T.find? (hasCode (long : Int) (numB ((D.drop p).take long) : Nat)) = some t) : getGo T D p (f + 1) long = (t.1, p + long, 0) := by rw [getGo, if_pos h, hf]
theorem getGo_no {T : List Tok} {D : List Bool} {p f long : Nat} (h : p + long ≤ D.length) (hf : T.find? (hasCode (long : Int) (numB ((D.drop p).take long) : Nat)) = none) : getGo T D p (f + 1) long = getGo T D p f (long + 1) := by rw [getGo, if_pos h, hf]
theorem getGo_end {T : List Tok} {D : List Bool} {p long : Nat} : getGo T D p 0 long = (0, p, 4) := by rw [getGo]
theorem codesW_sorted (cs : List Int) : ∀ k, (codesW cs k).Pairwise fun a b => a.1 ≤ b.1
 | 0 => by simp [codesW]
 | k + 1 => by
   unfold codesW
   rw [List.pairwise_append]
   refine ⟨codesW_sorted cs k, ?_, fun a ha b hb => ?_⟩
   ·unfold rowC
    rw [List.pairwise_iff_getElem]
    intro i j hi hj hij
    simp
   ·have h1 := (codesW_nodup cs k).2 a ha
    unfold rowC at hb
    obtain ⟨i, -, rfl⟩ := List.mem_map.1 hb
    simp only
    omega
theorem zipC_sorted (C : List (Nat × Nat)) (xs : List Int) (h : C.Pairwise fun a b => a.1 ≤ b.1) (hl : C.length = xs.length) : (zipC C xs).Pairwise fun a b => a.2.1 ≤ b.2.1 := by
 rw [List.pairwise_iff_getElem] at h ⊢
 intro i j hi hj hij
 have e : (zipC C xs).length = C.length := zipC_len _ _ (by omega)
 rw [zipC_at C xs i (by omega) (by omega) hi, zipC_at C xs j (by omega) (by omega) hj]
 have := h i j (by omega) (by omega) hij
 simp only
 omega
theorem zipC_fits (cs xs : List Int) (hl : cs.length = 16) (hok : okW cs = true) (hC : (codesW cs 16).length = xs.length) : ∀ t ∈ zipC (codesW cs 16) xs, ∃ l c : Nat, t.2 = ((l : Int), (c : Int)) ∧ 1 ≤ l ∧ l ≤ 16 ∧ c < 2 ^ l := by
 intro t ht
 obtain ⟨k, hk, rfl⟩ := List.getElem_of_mem ht
 have e : (zipC (codesW cs 16) xs).length = (codesW cs 16).length := zipC_len _ _ (by omega)
 rw [zipC_at _ xs k (by omega) (by omega) hk]
 obtain ⟨f1, f2, f3⟩ := codesW_fit cs hok hl 16 (by omega) _ (List.getElem_mem (show k < (codesW cs 16).length by omega))
 exact ⟨_, _, rfl, f1, f2, by omega⟩
theorem symZ_le {T : List Tok} {D : List Bool} {p : Nat} (hp : p ≤ D.length) : (symZ T D p).2.1 ≤ D.length := by
 unfold symZ
 split
 ·next t ht =>
  have := List.find?_some ht
  simp only [wordIn, Bool.and_eq_true, decide_eq_true_eq] at this
  exact this.1
 ·exact hp
theorem codeF_hasCode (T : List Tok) (l c : Int) : codeF T (l, c) = (T.find? (hasCode l c)).map fun t => Value.int .i64 t.1 := rfl
end Go.Proofs.YtkggcjdlpendfaaGreatDoor
