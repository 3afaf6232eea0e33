/- Reading bits off bytes: plain. -/
import Derived.Test.YtbnjapgmpjkooaaDraw
import Derived.Test.YtbnjapgmpjkooaaBitMath
import Derived.Test.YtbnjapgmpjkooaaStrB
import Derived.Test.YtbnjapgmpjkooaaBytesV
import Derived.Test.YtbnjapgmpjkooaaOpenSlices
import Derived.Laws.BitsAllLaws
namespace Go.Proofs.Ytbnjapgmpjkooaa
set_option linter.unusedVariables false
set_option linter.unusedSimpArgs false
open Go.RowKit
theorem digs_get (n : Nat) : ∀ (k j : Nat) (h : j < (digs n k).length), ((digs n k)[j]).toNat = n / 2 ^ (k - 1 - j) % 2
  | 0, j, h => by simp [digs] at h
  | k + 1, 0, _ => by
    simp only [digs, List.getElem_cons_zero, Nat.add_sub_cancel, Nat.sub_zero]
    rcases (show n / 2 ^ k % 2 = 0 ∨ n / 2 ^ k % 2 = 1 by omega) with h | h <;> simp [h]
  | k + 1, j + 1, h => by
    have := digs_get n k j (by simpa [digs] using h)
    simp only [digs, List.getElem_cons_succ]
    rw [this]
    congr 3
    omega
theorem digsOf_get (b : List Nat) (p : Nat) (h : p < (digsOf b).length) (h2 : p / 8 < b.length) : ((digsOf b)[p]).toNat = b[p / 8] / 2 ^ (7 - p % 8) % 2 := by
  have e := digsOf_at b (p / 8) h2
  have hl : p % 8 < (digs b[p / 8] 8).length := by rw [digs_len]; omega
  have e2 : (digsOf b)[p] = (digs b[p / 8] 8)[p % 8] := by
    have h3 : (((digsOf b).drop (8 * (p / 8))).take 8)[p % 8]? = (digsOf b)[p]? := by
      rw [List.getElem?_take_of_lt (by omega), List.getElem?_drop]
      congr 1
      omega
    rw [e, List.getElem?_eq_getElem hl, List.getElem?_eq_getElem h] at h3
    exact (Option.some.inj h3).symm
  rw [e2, digs_get]
/-- one bit more -/
theorem numB_next (b : List Nat) (at' i : Nat) (h : at' + i < (digsOf b).length) (h2 : (at' + i) / 8 < b.length) :
    numB (((digsOf b).drop at').take (i + 1)) = 2 * numB (((digsOf b).drop at').take i) + b[(at' + i) / 8] / 2 ^ (7 - (at' + i) % 8) % 2 := by
  rw [numB_take_succ _ _ (by simp; omega)]
  congr 1
  rw [← digsOf_get b (at' + i) h h2]
  congr 1
  simp
theorem numB_take_lt (l : List Bool) (i k : Nat) (h : i ≤ k) : numB (l.take i) < 2 ^ k := numB_le _ _ (by rw [List.length_take]; omega)
/-- what Read answers: the values, how many bits, the error -/
def rdGo (D : List Bool) : List Int → Nat → List Int → List Int × Int × Int
  | [], p, acc => (acc, p, 0)
  | z :: ws, p, acc => if inB z 0 24 then (if p + z.toNat ≤ D.length then rdGo D ws (p + z.toNat) (acc ++ [(numB ((D.drop p).take z.toNat) : Int)]) else ([], 0, 3)) else ([], 0, 1)
def rdZ (D : List Bool) (ws : List Int) : List Int × Int × Int := if ws.length ≤ 20000 then rdGo D ws 0 [] else ([], 0, 2)
theorem rdGo_bad {D : List Bool} {z : Int} {ws : List Int} {p : Nat} {acc : List Int} (h : inB z 0 24 = false) : rdGo D (z :: ws) p acc = ([], 0, 1) := by simp [rdGo, h]
theorem rdGo_out {D : List Bool} {z : Int} {ws : List Int} {p : Nat} {acc : List Int} (h : inB z 0 24 = true) (h2 : ¬ p + z.toNat ≤ D.length) : rdGo D (z :: ws) p acc = ([], 0, 3) := by simp [rdGo, h, h2]
theorem rdGo_one {D : List Bool} {z : Int} {ws : List Int} {p : Nat} {acc : List Int} (h : inB z 0 24 = true) (h2 : p + z.toNat ≤ D.length) :
    rdGo D (z :: ws) p acc = rdGo D ws (p + z.toNat) (acc ++ [(numB ((D.drop p).take z.toNat) : Int)]) := by simp [rdGo, h, h2]
section
variable {o : Oper} {a : Act} {P : Program}
theorem ex_nil {x : Operand} (ho : o.op = .nilCheck x) {p : Addr} (hx : a.eval x = .pointer (some p)) (w : World) : (execOp a.eval o).run P w = .ok (.value (.pointer (some p))) w := by
  simp [execOp, ho, hx]
theorem ex_binK {op : BinOp} {t : TypeId} {x y : Operand} {t2 : TypeId} (ho : o.op = .binOp op t x y t2) {k k' : IntKind} {m n : Int} (hx : a.eval x = .int k m) (hy : a.eval y = .int k' n) {v : Value}
    (hr : ∀ w, (binOp op t (.int k m) (.int k' n)).run P w = .ok v w) (w : World) : (execOp a.eval o).run P w = .ok (.value v) w := by
  simp [execOp, ho, hx, hy, guardG, hr]
end
theorem run_shl_one (m : Nat) (h : m < 1099511627776) (W : World) : (binOp .shl 3 (.int .i64 (m : Int)) (.int .u64 1)).run Try.prog W = .ok (.int .i64 ((2 * m : Nat) : Int)) W := by
  have e : IntKind.i64.wrap ((m : Int) * 2 ^ (min 1 IntKind.i64.bits)) = ((2 * m : Nat) : Int) := by
    rw [show min 1 IntKind.i64.bits = 1 by decide, IntWalk.i64_in _ (by omega)]; omega
  have e3 : (2 * (m : Int)) = ((2 * m : Nat) : Int) := by omega
  simp [binOp, Op.shift, e]
theorem run_shr8 (x s : Nat) (hx : x < 256) (hs : s < 8) (W : World) : (binOp .shr 5 (.int .u8 (x : Int)) (.int .i64 (s : Int))).run Try.prog W = .ok (.int .u8 ((x / 2 ^ s : Nat) : Int)) W := by
  have e2 : ¬ ((s : Int) < 0) := by omega
  have hs' : s = 0 ∨ s = 1 ∨ s = 2 ∨ s = 3 ∨ s = 4 ∨ s = 5 ∨ s = 6 ∨ s = 7 := by omega
  rcases hs' with rfl | rfl | rfl | rfl | rfl | rfl | rfl | rfl <;> simp [binOp, Op.shift]
theorem run_and8 (y : Nat) (h : y < 256) (W : World) : (binOp .and 5 (.int .u8 (y : Int)) (.int .u8 1)).run Try.prog W = .ok (.int .u8 ((y % 2 : Nat) : Int)) W := by
  have e : bits .and .u8 (y : Int) 1 = ((y % 2 : Nat) : Int) := by
    have : ∀ y : Fin 256, bits .and .u8 ((y.val : Nat) : Int) 1 = ((y.val % 2 : Nat) : Int) := by decide +kernel
    exact this ⟨y, h⟩
  simp [binOp, intBits_and, e]
theorem run_or2 (m b : Nat) (h : m < 1099511627776) (hb : b < 2) (W : World) : (binOp .or 3 (.int .i64 ((2 * m : Nat) : Int)) (.int .i64 (b : Int))).run Try.prog W = .ok (.int .i64 ((2 * m + b : Nat) : Int)) W := by
  have e : bits .or .i64 ((2 * m : Nat) : Int) (b : Int) = ((2 * m + b : Nat) : Int) := by
    have hx : 2 * m ||| b = 2 * m + b := nat_join1 _ _ (by omega) hb
    show IntKind.i64.wrap ((BitVec.ofInt 64 ((2 * m : Nat) : Int) ||| BitVec.ofInt 64 (b : Int)).toNat : Int) = _
    rw [BitVec.toNat_or, BitVec.ofInt_natCast, BitVec.ofInt_natCast, BitVec.toNat_ofNat, BitVec.toNat_ofNat, Nat.mod_eq_of_lt (by omega), Nat.mod_eq_of_lt (by omega), hx]
    exact IntWalk.i64_in _ (by omega)
  have e2 : binOp .or 3 (.int .i64 ((2 * m : Nat) : Int)) (.int .i64 (b : Int)) = pure (.int .i64 (bits .or .i64 ((2 * m : Nat) : Int) (b : Int))) := by rw [binOp_or, intBits_or]
  rw [e2, e]
  rfl
theorem sizeU8' : (Try.prog.info? 5).map (·.size) = some 1 := by kernel_rfl
end Go.Proofs.Ytbnjapgmpjkooaa
