/- Slicing a slice of bytes. -/
import Derived.Test.YtbnjapgmpjkooaaDraw
import Derived.Test.YtbnjapgmpjkooaaBytesV
namespace Go.Proofs.Ytbnjapgmpjkooaa
set_option linter.unusedVariables false
set_option linter.unusedSimpArgs false
open Go.RowKit
theorem SL.sub {w : World} {A : Option Addr} {n c l h : Nat} {xs : List Value} (hs : SL w 1 (.slice A n c) n xs) (hl : l ≤ h) (hh : h ≤ n) :
    SL w 1 (.slice (if c = l then A else A.map (·.add l)) (h - l) (c - l)) (h - l) ((xs.drop l).take (h - l)) := by
  obtain ⟨A', c', e, h1, h2, h3, h4⟩ := hs
  injection e with e1 e2 e3
  subst e1 e3
  refine ⟨_, _, rfl, by omega, by omega, by simp; omega, fun h0 => ?_⟩
  obtain ⟨ad, rfl, hb, hc⟩ := h4 (by omega)
  rw [if_neg (by omega)]
  refine ⟨ad.add l, rfl, by rw [block_of_add]; exact hb, fun j u hu => ?_⟩
  rw [add_of_add]
  refine hc _ _ ?_
  have hj : j < h - l := by have := (List.getElem?_eq_some_iff.1 hu).1; simp at this; omega
  rwa [List.getElem?_take_of_lt hj, List.getElem?_drop] at hu
theorem run_sliceB (A : Option Addr) (n c l h : Nat) (hl : l ≤ h) (hh : h ≤ n) (hc : n ≤ c) (w : World) :
    (Instr.slice 23 (.slice A n c) (some (.int .i64 (l : Int))) (some (.int .i64 (h : Int))) none).run Try.prog w = .ok (.slice (if c = l then A else A.map (·.add l)) (h - l) (c - l)) w := by
  have e1 : ((l : Int) ≤ (h : Int)) := by omega
  have e2 : ((h : Int) ≤ (c : Int)) := by omega
  have e3 : l ≤ c := by omega
  go_simp
theorem run_sliceF (A : Option Addr) (n c l : Nat) (hh : l ≤ n) (hc : n ≤ c) (w : World) :
    (Instr.slice 23 (.slice A n c) (some (.int .i64 (l : Int))) none none).run Try.prog w = .ok (.slice (if c = l then A else A.map (·.add l)) (n - l) (c - l)) w := by
  have e1 : ((l : Int) ≤ (n : Int)) := by omega
  have e2 : ((n : Int) ≤ (c : Int)) := by omega
  have e3 : l ≤ c := by omega
  go_simp
section
variable {o : Oper} {a : Act}
theorem ex_sliceB {x lo hi : Operand} (ho : o.op = .slice 23 x (some lo) (some hi) none) {A : Option Addr} {n c l h : Nat} (hx : a.eval x = .slice A n c) (h1 : a.eval lo = .int .i64 (l : Int)) (h2 : a.eval hi = .int .i64 (h : Int)) (hl : l ≤ h) (hh : h ≤ n) (hc : n ≤ c) (w : World) :
    (execOp a.eval o).run Try.prog w = .ok (.value (.slice (if c = l then A else A.map (·.add l)) (h - l) (c - l))) w := by
  simp [execOp, ho, hx, h1, h2, Instr.sliceAt, Sem.run_bind, run_underlying Try.underlying23, run_sliceB A n c l h hl hh hc w]
theorem ex_sliceF {x lo : Operand} (ho : o.op = .slice 23 x (some lo) none none) {A : Option Addr} {n c l : Nat} (hx : a.eval x = .slice A n c) (h1 : a.eval lo = .int .i64 (l : Int)) (hh : l ≤ n) (hc : n ≤ c) (w : World) :
    (execOp a.eval o).run Try.prog w = .ok (.value (.slice (if c = l then A else A.map (·.add l)) (n - l) (c - l))) w := by
  simp [execOp, ho, hx, h1, Instr.sliceAt, Sem.run_bind, run_underlying Try.underlying23, run_sliceF A n c l hh hc w]
end
end Go.Proofs.Ytbnjapgmpjkooaa
