/- '==' on arrays of integers. -/
import Derived.Test.YtlepchdlkhogiaaBlocks
namespace Go.Proofs.Ytlepchdlkhogiaa
set_option linter.unusedVariables false
set_option linter.unusedSimpArgs false
open Go.RowKit
section
variable {P : Program} (w : World)
theorem run_part_int (e : TypeId) (he : P.underlying e = some (.int .i64)) (zs : List Int) (i : Nat) (hi : i < zs.length) : (part e (bv zs) i).run P w = .ok (.int .i64 zs[i]) w := by
  have hagg : (isAgg e).run P w = .ok false w := by
    unfold isAgg
    rw [Sem.run_bind, run_underlying he w]
    rfl
  simp [part, hagg, bv_at zs i hi]
theorem run_equalIn_ints (d : Nat) (t e : TypeId) (n : Nat) (ht : P.underlying t = some (.array n e)) (he : P.underlying e = some (.int .i64)) (hs : (P.info? e).map (·.size) = some 1) (xs ys : List Int) (hx : xs.length = n) (hy : ys.length = n) :
    (Op.equalIn (d + 2) t (.agg (bv xs)) (.agg (bv ys))).run P w = .ok (decide (xs = ys)) w := by
  cases hq : P.info? e with
  | none => simp [hq] at hs
  | some inf =>
    have hz : inf.size = 1 := by simpa [hq] using hs
    have hso : (sizeOf e).run P w = .ok 1 w := by simp [sizeOf, typeInfo, hq, hz]
    unfold Op.equalIn
    simp only [Sem.run_bind, run_underlying ht, Result.andThen_ok, hso, Nat.mul_one]
    rw [Std.Legacy.Range.forIn_eq_forIn_range']
    simp only [Std.Legacy.Range.size, Nat.sub_zero, Nat.add_sub_cancel, Nat.div_one]
    have key : ∀ (m s : Nat), s + m = n →
        (forIn (m := Sem) (List.range' s m) ((none, ()) : Option Bool × Unit) fun i __s => do
            let __do_lift ← part e (bv xs) i
            let __do_lift_1 ← part e (bv ys) i
            let __do_lift ← Op.equalIn (d + 1) e __do_lift __do_lift_1
            if (!__do_lift) = true then pure (ForInStep.done (some false, ())) else pure (ForInStep.yield (none, ()))).run P w
          = .ok (if xs.drop s = ys.drop s then (none, ()) else (some false, ())) w := by
      intro m
      induction m with
      | zero =>
        intro s hsn
        rw [List.drop_eq_nil_of_le (by omega), List.drop_eq_nil_of_le (by omega)]
        simp
      | succ m ih =>
        intro s hsn
        have h1 : s < xs.length := by omega
        have h2 : s < ys.length := by omega
        rw [List.range'_succ, List.forIn_cons]
        simp only [Sem.run_bind, run_part_int w e he xs s h1, run_part_int w e he ys s h2, Result.andThen_ok, run_equalIn_int w d e .i64 .i64 _ _ he]
        have hd : (xs.drop s = ys.drop s) = (xs[s] = ys[s] ∧ xs.drop (s + 1) = ys.drop (s + 1)) := by
          have e1 := List.drop_eq_getElem_cons h1
          have e2 := List.drop_eq_getElem_cons h2
          rw [e1, e2, List.cons.injEq]
        simp only [hd]
        by_cases hq2 : xs[s] = ys[s]
        · have hb : (xs[s] == ys[s]) = true := by simpa using hq2
          simp only [hb, Bool.not_true, Bool.false_eq_true, if_false, Sem.run_pure, Result.andThen_ok, ih (s + 1) (by omega)]
          simp [hq2]
        · have hb : (xs[s] == ys[s]) = false := by simpa using hq2
          simp only [hb, Bool.not_false, if_true, Sem.run_pure, Result.andThen_ok]
          simp [hq2]
    rw [key n 0 (by omega)]
    by_cases h : xs = ys
    · simp [h]
    · simp [h]
theorem guard48 : Try.prog.eqGuardType Try.prog.depth 31 = false := by kernel_rfl
theorem run_eql48 (w : World) (xs ys : List Int) (hx : xs.length = 64) (hy : ys.length = 64) : (binOp .eql 31 (.agg (bv xs)) (.agg (bv ys))).run Try.prog w = .ok (.bool (decide (xs = ys))) w := by
  rw [run_eql_struct, run_equalIn_ints w 9998 31 3 64 Try.underlying31 Try.underlying3 sizeInt xs ys hx hy]
  rfl
theorem run_neq48 (w : World) (xs ys : List Int) (hx : xs.length = 64) (hy : ys.length = 64) : (binOp .neq 31 (.agg (bv xs)) (.agg (bv ys))).run Try.prog w = .ok (.bool (!decide (xs = ys))) w := by
  rw [run_neq_struct, run_equalIn_ints w 9998 31 3 64 Try.underlying31 Try.underlying3 sizeInt xs ys hx hy]
  rfl
theorem run_eql48_same (w : World) (xs : List Int) (hx : xs.length = 64) : (binOp .eql 31 (.agg (bv xs)) (.agg (bv xs))).run Try.prog w = .ok (.bool true) w := by
  rw [run_eql48 w xs xs hx hx]; simp
theorem eqIn48 (w : World) (xs ys : List Int) (hx : xs.length = 64) (hy : ys.length = 64) : (Op.equalIn 10000 31 (.agg (bv xs)) (.agg (bv ys))).run Try.prog w = .ok (decide (xs = ys)) w :=
  run_equalIn_ints w 9998 31 3 64 Try.underlying31 Try.underlying3 sizeInt xs ys hx hy
theorem eqIn48_same (w : World) (xs : List Int) (hx : xs.length = 64) : (Op.equalIn 10000 31 (.agg (bv xs)) (.agg (bv xs))).run Try.prog w = .ok true w := by
  rw [eqIn48 w xs xs hx hx]; simp
theorem run_guard48 (w : World) (op : BinOp) (x y : Operand) (xs ys : Array Value) : (eqGuard op 31 x y (.agg xs) (.agg ys)).run Try.prog w = .ok () w := run_eqGuard_agg w op _ x y xs ys guard48
end
end Go.Proofs.Ytlepchdlkhogiaa
