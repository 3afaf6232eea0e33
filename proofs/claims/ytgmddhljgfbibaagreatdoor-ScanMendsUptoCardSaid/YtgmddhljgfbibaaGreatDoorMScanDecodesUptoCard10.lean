/- Contracts for the law ScanDecodesUptoCard, part 10: what the functions that it reaches answer, for all arguments that the theorems name. -/
import Derived.Test.YtgmddhljgfbibaaGreatDoorMScanDecodesUptoCard7
import Derived.Test.YtgmddhljgfbibaaGreatDoorMScanDecodesUptoCard9
import Derived.Test.YtgmddhljgfbibaaGreatDoorMScanDecodesUptoCard1
import Derived.Test.YtgmddhljgfbibaaGreatDoorMScanDecodesUptoCard2
import Derived.Test.YtgmddhljgfbibaaGreatDoorMScanDecodesUptoCard4
import Derived.Test.YtgmddhljgfbibaaGreatDoorMScanDecodesUptoCard3
/- Tokens out of digits, in plain words; what a walk over two sources has in common. -/
namespace Go.Proofs.YtgmddhljgfbibaaGreatDoor
set_option linter.unusedVariables false
set_option linter.unusedSimpArgs false
open Go.RowKit
/-- one token out of the digits D from place p on; r: whose place is told on an error: the reader's, or p -/
def segNext (r : Bool) (T1 T2 : List Tok) (D : List Bool) (first : Bool) (p : Nat) : Tok × Int × Nat :=
  let s := symZ (if first then T1 else T2) D p
  if s.2.2 ≠ 0 then ((0, 0, 0), s.2.2, if r then (if s.2.2 = 3 then D.length else p + 16) else p)
  else
    let wd := if first then s.1 else s.1 % 16
    if 12 < wd ∨ (first = false ∧ 11 < wd) then ((0, 0, 0), 4, if r then s.2.1 else p)
    else if D.length < s.2.1 + wd.toNat then ((0, 0, 0), 3, if r then s.2.1 else p)
    else ((s.1, wd, ((numB ((D.drop s.2.1).take wd.toNat) : Nat) : Int)), 0, s.2.1 + wd.toNat)
theorem segNext_sym {r : Bool} {T1 T2 : List Tok} {D : List Bool} {first : Bool} {p : Nat} (h : (symZ (if first then T1 else T2) D p).2.2 ≠ 0) : segNext r T1 T2 D first p = ((0, 0, 0), (symZ (if first then T1 else T2) D p).2.2, if r then (if (symZ (if first then T1 else T2) D p).2.2 = 3 then D.length else p + 16) else p) := by
  unfold segNext
  dsimp only
  rw [if_pos h]
theorem segNext_wide {r : Bool} {T1 T2 : List Tok} {D : List Bool} {first : Bool} {p p' : Nat} {s wd : Int} (h : symZ (if first then T1 else T2) D p = (s, p', 0)) (hw : (if first then s else s % 16) = wd) (hb : 12 < wd ∨ (first = false ∧ 11 < wd)) : segNext r T1 T2 D first p = ((0, 0, 0), 4, if r then p' else p) := by
  unfold segNext
  rw [h]
  dsimp only
  rw [if_neg (by simp), hw, if_pos hb]
theorem segNext_short {r : Bool} {T1 T2 : List Tok} {D : List Bool} {first : Bool} {p p' : Nat} {s wd : Int} (h : symZ (if first then T1 else T2) D p = (s, p', 0)) (hw : (if first then s else s % 16) = wd) (hb : ¬ (12 < wd ∨ (first = false ∧ 11 < wd))) (hl : D.length < p' + wd.toNat) : segNext r T1 T2 D first p = ((0, 0, 0), 3, if r then p' else p) := by
  unfold segNext
  rw [h]
  dsimp only
  rw [if_neg (by simp), hw, if_neg hb, if_pos hl]
theorem segNext_good {r : Bool} {T1 T2 : List Tok} {D : List Bool} {first : Bool} {p p' : Nat} {s wd : Int} (h : symZ (if first then T1 else T2) D p = (s, p', 0)) (hw : (if first then s else s % 16) = wd) (hb : ¬ (12 < wd ∨ (first = false ∧ 11 < wd))) (hl : ¬ D.length < p' + wd.toNat) : segNext r T1 T2 D first p = ((s, wd, ((numB ((D.drop p').take wd.toNat) : Nat) : Int)), 0, p' + wd.toNat) := by
  unfold segNext
  rw [h]
  dsimp only
  rw [if_neg (by simp), hw, if_neg hb, if_neg hl]
theorem segNext_same (T1 T2 : List Tok) (D : List Bool) (first : Bool) (p : Nat) : (segNext true T1 T2 D first p).1 = (segNext false T1 T2 D first p).1 ∧ (segNext true T1 T2 D first p).2.1 = (segNext false T1 T2 D first p).2.1 ∧
    ((segNext true T1 T2 D first p).2.1 = 0 → (segNext true T1 T2 D first p).2.2 = (segNext false T1 T2 D first p).2.2) := by
  by_cases h : (symZ (if first then T1 else T2) D p).2.2 ≠ 0
  · rw [segNext_sym h, segNext_sym h]
    exact ⟨rfl, rfl, fun h0 => absurd h0 h⟩
  · obtain ⟨s, p', e⟩ : ∃ s p', symZ (if first then T1 else T2) D p = (s, p', 0) := ⟨_, _, Prod.ext rfl (Prod.ext rfl (by simpa using h))⟩
    by_cases hb : 12 < (if first then s else s % 16) ∨ (first = false ∧ 11 < (if first then s else s % 16))
    · rw [segNext_wide e rfl hb, segNext_wide e rfl hb]
      exact ⟨rfl, rfl, fun h0 => by cases h0⟩
    · by_cases hl : D.length < p' + (if first then s else s % 16).toNat
      · rw [segNext_short e rfl hb hl, segNext_short e rfl hb hl]
        exact ⟨rfl, rfl, fun h0 => by cases h0⟩
      · rw [segNext_good e rfl hb hl, segNext_good e rfl hb hl]
        exact ⟨rfl, rfl, fun _ => rfl⟩
theorem wordIn_drop (D : List Bool) (p : Nat) (t : Tok) (hp : p ≤ D.length) : wordIn (D.drop p) 0 t = wordIn D p t := by
  unfold wordIn
  rw [List.drop_zero, List.length_drop, Nat.zero_add]
  congr 1
  rw [decide_eq_decide]
  omega
/-- the same symbol, out of what is left -/
theorem symZ_drop (T : List Tok) (D : List Bool) (p : Nat) (hp : p ≤ D.length) : symZ T (D.drop p) 0 = ((symZ T D p).1, (symZ T D p).2.1 - p, (symZ T D p).2.2) ∧ p ≤ (symZ T D p).2.1 := by
  unfold symZ
  have hf : wordIn (D.drop p) 0 = wordIn D p := funext fun t => wordIn_drop D p t hp
  rw [hf]
  cases T.find? (wordIn D p) with
  | some t => exact ⟨by simp, by simp⟩
  | none =>
    refine ⟨?_, Nat.le_refl _⟩
    rw [List.length_drop]
    simp only [Nat.zero_add, Nat.sub_self, Prod.mk.injEq, true_and]
    by_cases h : D.length < p + 16
    · rw [if_pos h, if_pos (by omega)]
    · rw [if_neg h, if_neg (by omega)]
theorem symZ_mem {T : List Tok} {D : List Bool} {p : Nat} (hT : ∀ t ∈ T, 0 ≤ t.1 ∧ t.1 ≤ 255) : 0 ≤ (symZ T D p).1 ∧ (symZ T D p).1 ≤ 255 := by
  unfold symZ
  split
  · next t ht => exact hT t (List.mem_of_find?_eq_some ht)
  · exact ⟨by simp, by simp⟩
theorem symZ_e (T : List Tok) (D : List Bool) (p : Nat) : (symZ T D p).2.2 = 0 ∨ (symZ T D p).2.2 = 3 ∨ (symZ T D p).2.2 = 4 := by
  unfold symZ
  split
  · exact .inl rfl
  · dsimp only
    split
    · exact .inr (.inl rfl)
    · exact .inr (.inr rfl)
section
variable {σ : Type} {n1 n2 : σ → Tok × Int × σ}
/-- sources that tell the same, but for what is left behind an error -/
def SameN (n1 n2 : σ → Tok × Int × σ) : Prop := ∀ s, (n1 s).1 = (n2 s).1 ∧ (n1 s).2.1 = (n2 s).2.1 ∧ ((n1 s).2.1 = 0 → (n1 s).2.2 = (n2 s).2.2)
def SameG (g h : Int × List Int × List Tok × σ) : Prop := g.1 = h.1 ∧ g.2.1 = h.2.1 ∧ g.2.2.1 = h.2.2.1 ∧ (g.1 = 0 → g.2.2.2 = h.2.2.2)
theorem goB_same (hs : SameN n1 n2) : ∀ (k i : Nat) (z : List Int) (all : List Tok) (s : σ), 64 - i ≤ k → SameG (goB n1 i z all s) (goB n2 i z all s) := by
  intro k
  induction k with
  | zero =>
    intro i z all s h
    rw [goB.eq_def n1, goB.eq_def n2, dif_neg (by omega), dif_neg (by omega)]
    exact ⟨rfl, rfl, rfl, fun _ => rfl⟩
  | succ k ih =>
    intro i z all s h
    rw [goB.eq_def n1, goB.eq_def n2]
    by_cases hi : i < 64
    · rw [dif_pos hi, dif_pos hi]
      obtain ⟨h1, h2, h3⟩ := hs s
      rw [← h1, ← h2]
      by_cases he : (n1 s).2.1 ≠ 0
      · rw [if_pos he, if_pos he]
        exact ⟨rfl, rfl, rfl, fun h0 => absurd h0 he⟩
      · rw [if_neg he, if_neg he, ← h3 (by simpa using he)]
        split
        · exact ⟨rfl, rfl, rfl, fun h0 => rfl⟩
        · split
          · exact ⟨rfl, rfl, rfl, fun h0 => rfl⟩
          · split
            · exact ⟨rfl, rfl, rfl, fun h0 => rfl⟩
            · exact ih _ _ _ _ (by omega)
    · rw [dif_neg hi, dif_neg hi]
      exact ⟨rfl, rfl, rfl, fun _ => rfl⟩
theorem blkZ_same {m1 m2 : Bool → σ → Tok × Int × σ} (hs : ∀ b, SameN (m1 b) (m2 b)) (before : Int) (s : σ) : SameG (blkZ m1 before s) (blkZ m2 before s) := by
  unfold blkZ
  obtain ⟨h1, h2, h3⟩ := hs true s
  rw [← h1, ← h2]
  by_cases he : (m1 true s).2.1 ≠ 0
  · rw [if_pos he, if_pos he]
    exact ⟨rfl, rfl, rfl, fun h0 => absurd h0 he⟩
  · rw [if_neg he, if_neg he, ← h3 (by simpa using he)]
    split
    · exact ⟨rfl, rfl, rfl, fun h0 => rfl⟩
    · dsimp only
      have hg := goB_same (hs false) 64 1 ((List.replicate 64 0).set 0 (before + (backR (m1 true s).1.2.1 (m1 true s).1.2.2).1)) [(m1 true s).1] (m1 true s).2.2 (by omega)
      generalize goB (m1 false) 1 ((List.replicate 64 0).set 0 (before + (backR (m1 true s).1.2.1 (m1 true s).1.2.2).1)) [(m1 true s).1] (m1 true s).2.2 = g at *
      generalize goB (m2 false) 1 ((List.replicate 64 0).set 0 (before + (backR (m1 true s).1.2.1 (m1 true s).1.2.2).1)) [(m1 true s).1] (m1 true s).2.2 = g' at *
      obtain ⟨a1, a2, a3, a4⟩ := g
      obtain ⟨b1, b2, b3, b4⟩ := g'
      obtain ⟨e1, e2, e3, e4⟩ := hg
      dsimp only at e1 e2 e3 e4 ⊢
      subst e1 e2 e3
      split
      · next h => exact ⟨rfl, rfl, rfl, fun h0 => absurd h0 h⟩
      · next h =>
        have := e4 (by simpa using h)
        subst this
        exact ⟨rfl, rfl, rfl, fun _ => rfl⟩
theorem goB_keep0 (next : σ → Tok × Int × σ) : ∀ (k i : Nat) (z : List Int) (all : List Tok) (s : σ), 64 - i ≤ k → 1 ≤ i → (goB next i z all s).2.1.getD 0 0 = z.getD 0 0 := by
  intro k
  induction k with
  | zero => intro i z all s h _; rw [goB.eq_def, dif_neg (by omega)]
  | succ k ih =>
    intro i z all s h h1
    rw [goB.eq_def]
    by_cases hi : i < 64
    · rw [dif_pos hi]
      split
      · rfl
      · split
        · rfl
        · split
          · rfl
          · split
            · rfl
            · rw [ih _ _ _ _ (by omega) (by omega)]
              rw [List.getD_eq_getElem?_getD, List.getElem?_set_ne (by omega), ← List.getD_eq_getElem?_getD]
    · rw [dif_neg hi]
/-- a good block's first number is in its bounds -/
theorem blkZ_head (next : Bool → σ → Tok × Int × σ) (before : Int) (s : σ) (h : (blkZ next before s).1 = 0) : -2047 ≤ (blkZ next before s).2.1.getD 0 0 ∧ (blkZ next before s).2.1.getD 0 0 ≤ 2047 := by
  unfold blkZ at h ⊢
  by_cases he : (next true s).2.1 ≠ 0
  · rw [if_pos he] at h; exact absurd h he
  · rw [if_neg he] at h ⊢
    cases ht : tokOk1 before (next true s).1 with
    | false => simp [ht] at h
    | true =>
      rw [ht, if_neg (by simp)] at h
      rw [if_neg (by simp)]
      dsimp only at h ⊢
      have hk := goB_keep0 (next false) 64 1 ((List.replicate 64 0).set 0 (before + (backR (next true s).1.2.1 (next true s).1.2.2).1)) [(next true s).1] (next true s).2.2 (by omega) (by omega)
      generalize goB (next false) 1 ((List.replicate 64 0).set 0 (before + (backR (next true s).1.2.1 (next true s).1.2.2).1)) [(next true s).1] (next true s).2.2 = g at *
      unfold tokOk1 at ht
      have ht := of_decide_eq_true ht
      by_cases hg : g.1 ≠ 0
      · rw [if_pos hg] at h; exact absurd h hg
      · rw [if_neg hg] at h ⊢
        by_cases hz : tokensZ before g.2.1 = g.2.2.1
        · rw [if_pos hz]
          dsimp only
          have h0 := zfrom_get g.2.1 64 0 (by omega) (by omega)
          rw [show (zigAt 0).toNat = 0 by decide] at h0
          rw [h0, hk, show ((List.replicate 64 (0 : Int)).set 0 (before + (backR (next true s).1.2.1 (next true s).1.2.2).1)).getD 0 0 = before + (backR (next true s).1.2.1 (next true s).1.2.2).1 from rfl]
          exact ⟨ht.2.2.1, ht.2.2.2⟩
        · rw [if_neg hz] at h; cases h
end
end Go.Proofs.YtgmddhljgfbibaaGreatDoor
/- Calls of a method of an interface value and of a function value, each by the contract of what it comes to. -/
namespace Go.Proofs.YtgmddhljgfbibaaGreatDoor
set_option linter.unusedVariables false
set_option linter.unusedSimpArgs false
open Go.RowKit
/-- the interface value's method comes to function f, with this receiver -/
def Meth (P : Program) (ty : TypeId) (v : Value) (name : String) (f : FuncId) (recv : Value) : Prop :=
  (∀ w, (method (P.types.size + Made.depth) ty v name).run P w = .ok (f, recv) w) ∧ ∃ fn, P.funcs[f]? = some fn ∧ (fn.name == "runtime.NumGoroutine") = false ∧ fn.body.isSome = true
def Goes (P : Program) (f : FuncId) : Prop := ∃ fn, P.funcs[f]? = some fn ∧ (fn.name == "runtime.NumGoroutine") = false ∧ fn.body.isSome = true
section
variable {P : Program} {ops : Array Oper} {rest : List Oper} {o : Oper} {a : Act} {Q : Exit → Act → World → Prop}
theorem run_invoke (r : Operand) (name : String) (xs : Array Operand) (ts : Array TypeId) (ho : o.op = .call { callee := .invoke r name, args := xs, argTypes := ts }) {ty : TypeId} {v : Value}
    (hr : a.eval r = .iface ty v) {f : FuncId} {recv : Value} (hm : Meth P ty v name f recv) (args : Array Value) (hx : #[recv] ++ xs.map a.eval = args) (w : World) : (execOp a.eval o).run P w = .ok (.enter f args) w := by
  obtain ⟨h1, fn, hf, hname, hb⟩ := hm
  obtain ⟨c, hb⟩ := Option.isSome_iff_exists.1 hb
  have hn : ¬ fn.name = "runtime.NumGoroutine" := by simpa using hname
  subst hx
  have e0 : (#[Value.iface ty v] ++ Array.map a.eval xs)[0]? = some (.iface ty v) := by simp [Array.getElem?_append]
  have e1 : (#[Value.iface ty v] ++ Array.map a.eval xs).extract 1 (#[Value.iface ty v] ++ Array.map a.eval xs).size = xs.map a.eval := by simp
  simp only [execOp, ho, resolve, hr, invoke, Sem.run_bind, Sem.run_pure, Result.andThen_ok, e0, e1]
  simp [callMethod, callFunc, hf, hb, hn, h1, run_program]
theorem run_callv (x : Operand) (xs : Array Operand) (ts : Array TypeId) (ho : o.op = .call { callee := .value x, args := xs, argTypes := ts }) {f : FuncId} {cap : Array Value} (hr : a.eval x = .func (.func f) #[] cap)
    (hm : Goes P f) (args : Array Value) (hx : xs.map a.eval ++ cap = args) (w : World) : (execOp a.eval o).run P w = .ok (.enter f args) w := by
  obtain ⟨fn, hf, hname, hb⟩ := hm
  obtain ⟨c, hb⟩ := Option.isSome_iff_exists.1 hb
  have hn : ¬ fn.name = "runtime.NumGoroutine" := by simpa using hname
  subst hx
  simp [execOp, ho, resolve, hr, Deferred.ofValue, invoke, callFunc, hf, hb, hn, run_program]
theorem wl_enter {w : World} (hw : Region.wanted o (yielded ops a.tmps) = true) {f : FuncId} {args : Array Value} (hrun : ∀ w, (execOp a.eval o).run P w = .ok (.enter f args) w)
    (h : Calls P f args w fun e w' => ∃ v, e = .returned v ∧ wpList P ops Q rest (a.put o.dst v) w') : wpList P ops Q (o :: rest) a w :=
  wpList_wanted hw fun K hK => by
    unfold Oper.wp
    rw [hrun]
    refine h.mono fun e w' ⟨v, e1, h2⟩ => ?_
    subst e1
    exact hK _ _ h2
end
end Go.Proofs.YtgmddhljgfbibaaGreatDoor
/- '==' on arrays of integers. -/
namespace Go.Proofs.YtgmddhljgfbibaaGreatDoor
set_option linter.unusedVariables false
set_option linter.unusedSimpArgs false
open Go.RowKit
section
variable {P : Program} (w : World)
theorem run_part_int (e : TypeId) (he : P.underlying e = some (.int .i64)) (zs : List Int) (i : Nat) (hi : i < zs.length) : (part e (bv zs) i).run P w = .ok (.int .i64 zs[i]) w := by
  have hagg : (isAgg e).run P w = .ok false w := by
    unfold isAgg
    rw [Sem.run_bind, run_underlying he w]
    rfl
  simp [part, hagg, bv_at zs i hi]
theorem run_equalIn_ints (d : Nat) (t e : TypeId) (n : Nat) (ht : P.underlying t = some (.array n e)) (he : P.underlying e = some (.int .i64)) (hs : (P.info? e).map (·.size) = some 1) (xs ys : List Int) (hx : xs.length = n) (hy : ys.length = n) :
    (Op.equalIn (d + 2) t (.agg (bv xs)) (.agg (bv ys))).run P w = .ok (decide (xs = ys)) w := by
  cases hq : P.info? e with
  | none => simp [hq] at hs
  | some inf =>
    have hz : inf.size = 1 := by simpa [hq] using hs
    have hso : (sizeOf e).run P w = .ok 1 w := by simp [sizeOf, typeInfo, hq, hz]
    unfold Op.equalIn
    simp only [Sem.run_bind, run_underlying ht, Result.andThen_ok, hso, Nat.mul_one]
    rw [Std.Legacy.Range.forIn_eq_forIn_range']
    simp only [Std.Legacy.Range.size, Nat.sub_zero, Nat.add_sub_cancel, Nat.div_one]
    have key : ∀ (m s : Nat), s + m = n →
        (forIn (m := Sem) (List.range' s m) ((none, ()) : Option Bool × Unit) fun i __s => do
            let __do_lift ← part e (bv xs) i
            let __do_lift_1 ← part e (bv ys) i
            let __do_lift ← Op.equalIn (d + 1) e __do_lift __do_lift_1
            if (!__do_lift) = true then pure (ForInStep.done (some false, ())) else pure (ForInStep.yield (none, ()))).run P w
          = .ok (if xs.drop s = ys.drop s then (none, ()) else (some false, ())) w := by
      intro m
      induction m with
      | zero =>
        intro s hsn
        rw [List.drop_eq_nil_of_le (by omega), List.drop_eq_nil_of_le (by omega)]
        simp
      | succ m ih =>
        intro s hsn
        have h1 : s < xs.length := by omega
        have h2 : s < ys.length := by omega
        rw [List.range'_succ, List.forIn_cons]
        simp only [Sem.run_bind, run_part_int w e he xs s h1, run_part_int w e he ys s h2, Result.andThen_ok, run_equalIn_int w d e .i64 .i64 _ _ he]
        have hd : (xs.drop s = ys.drop s) = (xs[s] = ys[s] ∧ xs.drop (s + 1) = ys.drop (s + 1)) := by
          have e1 := List.drop_eq_getElem_cons h1
          have e2 := List.drop_eq_getElem_cons h2
          rw [e1, e2, List.cons.injEq]
        simp only [hd]
        by_cases hq2 : xs[s] = ys[s]
        · have hb : (xs[s] == ys[s]) = true := by simpa using hq2
          simp only [hb, Bool.not_true, Bool.false_eq_true, if_false, Sem.run_pure, Result.andThen_ok, ih (s + 1) (by omega)]
          simp [hq2]
        · have hb : (xs[s] == ys[s]) = false := by simpa using hq2
          simp only [hb, Bool.not_false, if_true, Sem.run_pure, Result.andThen_ok]
          simp [hq2]
    rw [key n 0 (by omega)]
    by_cases h : xs = ys
    · simp [h]
    · simp [h]
theorem guard48 : Tryz.prog.eqGuardType Tryz.prog.depth 37 = false := by kernel_rfl
theorem run_eql48 (w : World) (xs ys : List Int) (hx : xs.length = 64) (hy : ys.length = 64) : (binOp .eql 37 (.agg (bv xs)) (.agg (bv ys))).run Tryz.prog w = .ok (.bool (decide (xs = ys))) w := by
  rw [run_eql_struct, run_equalIn_ints w 9998 37 3 64 Tryz.underlying37 Tryz.underlying3 sizeInt xs ys hx hy]
  rfl
theorem run_neq48 (w : World) (xs ys : List Int) (hx : xs.length = 64) (hy : ys.length = 64) : (binOp .neq 37 (.agg (bv xs)) (.agg (bv ys))).run Tryz.prog w = .ok (.bool (!decide (xs = ys))) w := by
  rw [run_neq_struct, run_equalIn_ints w 9998 37 3 64 Tryz.underlying37 Tryz.underlying3 sizeInt xs ys hx hy]
  rfl
theorem run_eql48_same (w : World) (xs : List Int) (hx : xs.length = 64) : (binOp .eql 37 (.agg (bv xs)) (.agg (bv xs))).run Tryz.prog w = .ok (.bool true) w := by
  rw [run_eql48 w xs xs hx hx]; simp
theorem eqIn48 (w : World) (xs ys : List Int) (hx : xs.length = 64) (hy : ys.length = 64) : (Op.equalIn 10000 37 (.agg (bv xs)) (.agg (bv ys))).run Tryz.prog w = .ok (decide (xs = ys)) w :=
  run_equalIn_ints w 9998 37 3 64 Tryz.underlying37 Tryz.underlying3 sizeInt xs ys hx hy
theorem eqIn48_same (w : World) (xs : List Int) (hx : xs.length = 64) : (Op.equalIn 10000 37 (.agg (bv xs)) (.agg (bv xs))).run Tryz.prog w = .ok true w := by
  rw [eqIn48 w xs xs hx hx]; simp
theorem run_guard48 (w : World) (op : BinOp) (x y : Operand) (xs ys : Array Value) : (eqGuard op 37 x y (.agg xs) (.agg ys)).run Tryz.prog w = .ok () w := run_eqGuard_agg w op _ x y xs ys guard48
end
end Go.Proofs.YtgmddhljgfbibaaGreatDoor
/- '==' on tokens; Eq and slices.Equal on lists of tokens. -/
namespace Go.Proofs.YtgmddhljgfbibaaGreatDoor
set_option linter.unusedVariables false
set_option linter.unusedSimpArgs false
open Go.RowKit
theorem guardTok : Tryz.prog.eqGuardType Tryz.prog.depth 80 = false := by kernel_rfl
theorem run_guardTok (w : World) (op : BinOp) (x y : Operand) (xs ys : Array Value) : (eqGuard op 80 x y (.agg xs) (.agg ys)).run Tryz.prog w = .ok () w := run_eqGuard_agg w op _ x y xs ys guardTok
theorem stoodTok : Tryz.prog.stoodInHeld 80 = false := by kernel_rfl
theorem run_eqTok (w : World) (t u : Tok) : (Op.equalIn 10000 80 (.agg (tokv t).toArray) (.agg (tokv u).toArray)).run Tryz.prog w = .ok (decide (t = u)) w := by
  have p0 : ∀ (v : Tok), (part 3 (tokv v).toArray 0).run Tryz.prog w = .ok (.int .i64 v.1) w := fun v => run_part_int w 3 Tryz.underlying3 [v.1, v.2.1, v.2.2] 0 (by simp)
  have p1 : ∀ (v : Tok), (part 3 (tokv v).toArray 1).run Tryz.prog w = .ok (.int .i64 v.2.1) w := fun v => run_part_int w 3 Tryz.underlying3 [v.1, v.2.1, v.2.2] 1 (by simp)
  have p2 : ∀ (v : Tok), (part 3 (tokv v).toArray 2).run Tryz.prog w = .ok (.int .i64 v.2.2) w := fun v => run_part_int w 3 Tryz.underlying3 [v.1, v.2.1, v.2.2] 2 (by simp)
  have hi := fun a b => run_equalIn_int w 9998 3 .i64 .i64 a b Tryz.underlying3
  have hst : Tryz.prog.underlying 80 = some (.struct (Tryz.prog.fieldsOf 80)) := by kernel_rfl
  rw [run_equalIn_struct w 9999 80 _ _ hst stoodTok]
  have hf : (Tryz.prog.fieldsOf 80).toList = [{ name := "Sym", type := 3, offset := 0, embedded := false, tag := "", pkgPath := "", byteOffset := 0 }, { name := "Width", type := 3, offset := 1, embedded := false, tag := "", pkgPath := "", byteOffset := 8 }, { name := "Value", type := 3, offset := 2, embedded := false, tag := "", pkgPath := "", byteOffset := 16 }] := by kernel_rfl
  rw [hf]
  simp only [Op.eqFields, ne_eq, show ("Sym" = "_") = False by decide, show ("Width" = "_") = False by decide, show ("Value" = "_") = False by decide, not_false_eq_true, if_true, Sem.run_bind, p0, p1, p2, hi, Result.andThen_ok, Sem.run_ite, Sem.run_pure]
  obtain ⟨a, b, c⟩ := t
  obtain ⟨a', b', c'⟩ := u
  by_cases h1 : a = a' <;> by_cases h2 : b = b' <;> by_cases h3 : c = c' <;> simp [h1, h2, h3]
theorem run_neqTok (w : World) (t u : Tok) : (binOp .neq 80 (.agg (tokv t).toArray) (.agg (tokv u).toArray)).run Tryz.prog w = .ok (.bool (!decide (t = u))) w := by
  rw [run_neq_struct, run_eqTok]
  rfl
theorem tokv_len (t : Tok) : (tokv t).length = 3 := rfl
theorem toks_part (T : List Tok) (k : Nat) (h : k < T.length) : ((toks T).drop (k * 3)).take 3 = tokv T[k] := by
  refine List.ext_getElem? fun j => ?_
  obtain ⟨a, b, c⟩ := toks_at T k h
  by_cases hj : j < 3
  · rw [List.getElem?_take_of_lt hj, List.getElem?_drop]
    match j, hj with
    | 0, _ => simpa [tokv] using a
    | 1, _ => simpa [tokv] using b
    | 2, _ => simpa [tokv] using c
  · rw [List.getElem?_eq_none (by rw [List.length_take]; omega), List.getElem?_eq_none (by rw [tokv_len]; omega)]
theorem size74 : (Tryz.prog.info? 80).map (·.size) = some 3 := by kernel_rfl
theorem tok_take_iff (T U : List Tok) (k : Nat) (h1 : k < T.length) (h2 : k < U.length) : T.take (k + 1) = U.take (k + 1) ↔ T.take k = U.take k ∧ T[k] = U[k] := take_succ_iff T U k h1 h2
theorem tok_oneA (t : Tok) : (tokv t).toArray.all (·.oneCell') = true := by
  rw [Array.all_eq_true']
  intro x hx
  simp [tokv] at hx
  rcases hx with rfl | rfl | rfl <;> rfl
set_option maxHeartbeats 1000000 in
theorem eqTok_any (u v : Value) (T U : List Tok) (w : World) (hu : SL w 3 u T.length (toks T)) (hv : SL w 3 v U.length (toks U)) :
    Calls Tryz.prog 64 #[u, v] w fun e w' => e = .returned (.bool (decide (T = U))) ∧ Ext w w' := by
  have hu' := hu
  have hv' := hv
  obtain ⟨A, c, rfl, hc1, hc2, -, -⟩ := hu'
  obtain ⟨B, d, rfl, hd1, hd2, -, -⟩ := hv'
  by_cases hl : T.length = U.length
  · have HE : Hid (T.length = U.length) := hl
    obtain ⟨n, hn⟩ : ∃ n, n = T.length := ⟨_, rfl⟩
    have HTN : Hid (T.length = n) := hid_ hn.symm
    have HUN : Hid (U.length = n) := hid_ (by rw [← hl, hn])
    rw [← hl] at hv hd1 ⊢
    rw [← hn] at hu hv hc1 hd1 ⊢
    have e1 : ((n : Int) != (n : Int)) = false := by simp
    obtain ⟨res, hres⟩ : ∃ r, r = decide (T = U) := ⟨_, rfl⟩
    have HR := hid_ hres
    rw [← hres]
    clear hl hn hres
    go_enter Tryz.func64, Tryz.ntmps64
    go_wp2_with fail
    go_loopw [14] (fun i wr => ∃ k : Nat, k ≤ n ∧ i = .int .i64 k ∧ Hid (T.take k = U.take k) ∧ Ext w wr) (fun i _ => n - (intOf i).toNat)
    case atStart => exact ⟨0, by omega, rfl, hid_ (by simp), Ext.refl w⟩
    case round =>
      obtain ⟨k, hk, rfl, HT, hx⟩ := hrel
      by_cases hlt : k < n
      · obtain ⟨ad, rfl, hab, hca⟩ := (hu.ext hx).part hlt
        obtain ⟨bd, rfl, hbb, hcb⟩ := (hv.ext hx).part hlt
        have hkT : k < T.length := by rw [HTN.out]; exact hlt
        have hkU : k < U.length := by rw [HUN.out]; exact hlt
        rw [toks_part T k hkT] at hca
        rw [toks_part U k hkU] at hcb
        have HQ := hid_ (tok_take_iff T U k hkT hkU)
        generalize ht : T[k] = t at *
        generalize hu2 : U[k] = t' at *
        have HTt := hid_ ht
        have HTu := hid_ hu2
        clear ht hu2
        have HCA := hid_ hca
        clear hca
        go_wp2_with (first
          | (refine wpList_load_any (by rfl) 80 (.tmp 17) rfl (ad.add (k * 3)) rfl (tokv t) _ HCA.out Tryz.underlying80 rfl size74 ?_)
          | (refine wpList_alloc_abs' rfl (some 6) rfl 80 rfl (.agg (tokv (0, 0, 0)).toArray) (by kernel_rfl) ?_; intro w2 g2 hb2 hx2 hg2)
          | (refine wpList_store_blk rfl 80 (.tmp 6) (.tmp 18) rfl _ _ rfl rfl hb2 3 size74 rfl rfl (tok_oneA t) ?_; intro w3 hb3 hg3; have hx3 := hx2.grown hg3 (by omega)))
        have hx3' := hx3.drew
        have hb3' := hb3.drew
        have HCB : Hid (∀ W, Ext w3.drew W → CellsAt W (bd.add (k * 3)) (tokv t')) := hid_ (fun W hW j q hq => by
          rw [((hx3'.trans hW).cell (p := (bd.add (k * 3)).add j) (by rw [block_of_add, block_of_add]; exact hbb))]
          exact hcb j q hq)
        refine wp_region_lx later_ext (by kernel_rfl) (by kernel_rfl) ?_
        refine lx_load_blk (by rfl) 80 (.tmp 6) rfl g2 rfl (fun w h => hb3'.ext h) _ Tryz.underlying80 rfl 3 size74 rfl ?_
        simp only [Act.put, List.setIfInBounds_toArray, List.set_cons_succ, List.set_cons_zero]
        iterate 3 (refine lx_ex (by rfl) ?_; apply Exists.intro; refine ⟨fun w hw => ?_, ?_⟩; · (go_simp; with_reducible rfl)
                   simp only [Act.put, List.setIfInBounds_toArray, List.set_cons_succ, List.set_cons_zero])
        refine lx_load_any (by rfl) 80 (.tmp 22) rfl (bd.add (k * 3)) rfl (tokv t') _ HCB.out Tryz.underlying80 rfl size74 ?_
        simp only [Act.put, List.setIfInBounds_toArray, List.set_cons_succ, List.set_cons_zero]
        refine lx_binOp (by rfl) .neq 80 _ _ _ rfl (.agg (tokv t).toArray) (.agg (tokv t').toArray) rfl rfl (.bool (!decide (t = t'))) (fun W => run_guardTok W _ _ _ _ _) (fun W => run_neqTok W t t') ?_
        simp only [Act.put, List.setIfInBounds_toArray, List.set_cons_succ, List.set_cons_zero]
        refine lx_nil ?_
        intro w4 hx4
        by_cases hq : t = t'
        · have HH : Hid (T.take (k + 1) = U.take (k + 1)) := hid_ (HQ.out.2 ⟨HT.out, hq⟩)
          rw [decide_eq_true hq]
          clear hq
          go_wp2_with fail
          go_roundw
          case rel => exact ⟨k + 1, by omega, by go_num, HH, (hx.trans hx3').trans hx4⟩
          case measure => simp [intOf]; omega
        · have hne : T ≠ U := by
            intro h
            apply hq
            have h1 := HTt.out
            have h2 := HTu.out
            subst h
            exact h1.symm.trans h2
          have HN := hid_ hne
          rw [decide_eq_false hq]
          clear hq hne
          go_wp2_with fail
          go_ret
          refine ⟨?_, (hx.trans hx3').trans hx4⟩
          rw [HR.out, decide_eq_false HN.out]; rfl
      · go_wp2_with fail
        go_ret
        refine ⟨?_, hx⟩
        have e : T = U := by
          have := HT.out
          rwa [List.take_of_length_le (by rw [HTN.out]; omega), List.take_of_length_le (by rw [HUN.out]; omega)] at this
        rw [HR.out, decide_eq_true e]; rfl
  · have hne : decide (T = U) = false := decide_eq_false (fun h => hl (by rw [h]))
    have e1 : ((T.length : Int) != (U.length : Int)) = true := by simp; omega
    rw [hne]
    clear hne hl
    go_enter Tryz.func64, Tryz.ntmps64
    go_wp2_with fail
    go_ret
    exact ⟨rfl, Ext.refl w⟩
set_option maxHeartbeats 1000000 in
theorem seqTok_any (u v : Value) (T U : List Tok) (w : World) (hu : SL w 3 u T.length (toks T)) (hv : SL w 3 v U.length (toks U)) :
    Calls Tryz.prog 55 #[u, v] w fun e w' => e = .returned (.bool (decide (T = U))) ∧ Ext w w' := by
  have hu' := hu
  have hv' := hv
  obtain ⟨A, c, rfl, hc1, hc2, -, -⟩ := hu'
  obtain ⟨B, d, rfl, hd1, hd2, -, -⟩ := hv'
  by_cases hl : T.length = U.length
  · have HE : Hid (T.length = U.length) := hl
    obtain ⟨n, hn⟩ : ∃ n, n = T.length := ⟨_, rfl⟩
    have HTN : Hid (T.length = n) := hid_ hn.symm
    have HUN : Hid (U.length = n) := hid_ (by rw [← hl, hn])
    rw [← hl] at hv hd1 ⊢
    rw [← hn] at hu hv hc1 hd1 ⊢
    have e1 : ((n : Int) != (n : Int)) = false := by simp
    obtain ⟨res, hres⟩ : ∃ r, r = decide (T = U) := ⟨_, rfl⟩
    have HR := hid_ hres
    rw [← hres]
    clear hl hn hres
    go_enter Tryz.func55, Tryz.ntmps55
    go_wp2_with fail
    go_loopw [13] (fun i wr => ∃ k : Nat, k ≤ n ∧ i = .int .i64 k ∧ Hid (T.take k = U.take k) ∧ Ext w wr) (fun i _ => n - (intOf i).toNat)
    case atStart => exact ⟨0, by omega, rfl, hid_ (by simp), Ext.refl w⟩
    case round =>
      obtain ⟨k, hk, rfl, HT, hx⟩ := hrel
      by_cases hlt : k < n
      · obtain ⟨ad, rfl, hab, hca⟩ := (hu.ext hx).part hlt
        obtain ⟨bd, rfl, hbb, hcb⟩ := (hv.ext hx).part hlt
        have hkT : k < T.length := by rw [HTN.out]; exact hlt
        have hkU : k < U.length := by rw [HUN.out]; exact hlt
        rw [toks_part T k hkT] at hca
        rw [toks_part U k hkU] at hcb
        have HQ := hid_ (tok_take_iff T U k hkT hkU)
        generalize ht : T[k] = t at *
        generalize hu2 : U[k] = t' at *
        have HTt := hid_ ht
        have HTu := hid_ hu2
        clear ht hu2
        have HCA := hid_ hca
        clear hca
        have HCA' : Hid (∀ W, Ext wr.drew W → CellsAt W (ad.add (k * 3)) (tokv t)) := hid_ (fun W hW j q hq => by
          rw [(hW.cell (p := (ad.add (k * 3)).add j) (by rw [block_of_add, block_of_add]; exact hab))]
          exact HCA.out j q hq)
        have HCB : Hid (∀ W, Ext wr.drew W → CellsAt W (bd.add (k * 3)) (tokv t')) := hid_ (fun W hW j q hq => by
          rw [(hW.cell (p := (bd.add (k * 3)).add j) (by rw [block_of_add, block_of_add]; exact hbb))]
          exact hcb j q hq)
        have hx3' := hx.drew
        go_wp2_with fail
        refine wp_region_lx later_ext (by kernel_rfl) (by kernel_rfl) ?_
        iterate 3 (refine lx_ex (by rfl) ?_; apply Exists.intro; refine ⟨fun w hw => ?_, ?_⟩; · (go_simp; with_reducible rfl)
                   simp only [Act.put, List.setIfInBounds_toArray, List.set_cons_succ, List.set_cons_zero])
        refine lx_load_any (by rfl) 80 (.tmp 18) rfl (ad.add (k * 3)) rfl (tokv t) _ HCA'.out Tryz.underlying80 rfl size74 ?_
        simp only [Act.put, List.setIfInBounds_toArray, List.set_cons_succ, List.set_cons_zero]
        iterate 3 (refine lx_ex (by rfl) ?_; apply Exists.intro; refine ⟨fun w hw => ?_, ?_⟩; · (go_simp; with_reducible rfl)
                   simp only [Act.put, List.setIfInBounds_toArray, List.set_cons_succ, List.set_cons_zero])
        refine lx_load_any (by rfl) 80 (.tmp 22) rfl (bd.add (k * 3)) rfl (tokv t') _ HCB.out Tryz.underlying80 rfl size74 ?_
        simp only [Act.put, List.setIfInBounds_toArray, List.set_cons_succ, List.set_cons_zero]
        refine lx_binOp (by rfl) .neq 80 _ _ _ rfl (.agg (tokv t).toArray) (.agg (tokv t').toArray) rfl rfl (.bool (!decide (t = t'))) (fun W => run_guardTok W _ _ _ _ _) (fun W => run_neqTok W t t') ?_
        simp only [Act.put, List.setIfInBounds_toArray, List.set_cons_succ, List.set_cons_zero]
        refine lx_nil ?_
        intro w4 hx4
        by_cases hq : t = t'
        · have HH : Hid (T.take (k + 1) = U.take (k + 1)) := hid_ (HQ.out.2 ⟨HT.out, hq⟩)
          rw [decide_eq_true hq]
          clear hq
          go_wp2_with fail
          go_roundw
          case rel => exact ⟨k + 1, by omega, by go_num, HH, hx3'.trans hx4⟩
          case measure => simp [intOf]; omega
        · have hne : T ≠ U := by
            intro h
            apply hq
            have h1 := HTt.out
            have h2 := HTu.out
            subst h
            exact h1.symm.trans h2
          have HN := hid_ hne
          rw [decide_eq_false hq]
          clear hq hne
          go_wp2_with fail
          go_ret
          refine ⟨?_, hx3'.trans hx4⟩
          rw [HR.out, decide_eq_false HN.out]; rfl
      · go_wp2_with fail
        go_ret
        refine ⟨?_, hx⟩
        have e : T = U := by
          have := HT.out
          rwa [List.take_of_length_le (by rw [HTN.out]; omega), List.take_of_length_le (by rw [HUN.out]; omega)] at this
        rw [HR.out, decide_eq_true e]; rfl
  · have hne : decide (T = U) = false := decide_eq_false (fun h => hl (by rw [h]))
    have e1 : ((T.length : Int) != (U.length : Int)) = true := by simp; omega
    rw [hne]
    clear hne hl
    go_enter Tryz.func55, Tryz.ntmps55
    go_wp2_with fail
    go_ret
    exact ⟨rfl, Ext.refl w⟩
end Go.Proofs.YtgmddhljgfbibaaGreatDoor
/- run.token, token of the reference. -/
namespace Go.Proofs.YtgmddhljgfbibaaGreatDoor
set_option linter.unusedVariables false
set_option linter.unusedSimpArgs false
open Go.RowKit
theorem sizeTok : (Tryz.prog.info? 80).map (·.size) = some 3 := by kernel_rfl
theorem zeroTok : (Tryz.prog.info? 80).bind (·.zero) = some (.agg (tokv (0, 0, 0)).toArray) := by kernel_rfl
theorem elt_tok : Elt Tryz.prog 67 80 3 24 := ⟨Tryz.underlying67, by kernel_rfl, by omega⟩
theorem bitsZ_bd (n : Int) : 0 ≤ (bitsZ n).1 ∧ (bitsZ n).1 ≤ 12 := by
  unfold bitsZ
  split
  · next h => have := (szN_spec n h.1 h.2).1; simp; omega
  · simp
theorem three_one (a b c : Int) : (#[Value.int .i64 a, .int .i64 b, .int .i64 c] : Array Value).all (·.oneCell') = true := by
  rw [Array.all_eq_true']
  intro x hx
  simp at hx
  rcases hx with rfl | rfl | rfl <;> rfl
theorem or_add : ∀ r : Fin 16, ∀ x : Fin 13, bits .or .i64 ((r.val : Int) * 16) (x.val : Int) = 16 * (r.val : Int) + (x.val : Int) := by decide
theorem rtoken_any (r n : Int) (w : World) (h0 : 0 ≤ r) (h1 : r ≤ 15) : Calls Tryz.prog 81 #[.int .i64 r, .int .i64 n] w fun e w' => e = .returned (.agg (tokv (tokZ r n)).toArray) ∧ Ext w w' := by
  have HB := hid_ (fun W => rsizeBits_any n W)
  obtain ⟨b1, b2⟩ := bitsZ_bd n
  have HT := hid_ (show tokv (tokZ r n) = [.int .i64 (16 * r + (bitsZ n).1), .int .i64 (bitsZ n).1, .int .i64 (bitsZ n).2.1] from rfl)
  generalize tokZ r n = tk at *
  generalize bitsZ n = b at *
  obtain ⟨x1, x2, x3⟩ := b
  go_enter Tryz.func81, Tryz.ntmps81
  go_wp2_with (first
    | (refine wpList_alloc_abs' rfl (some 4) rfl 80 rfl _ zeroTok ?_; intro w1 g1 hb1 hx1 hg1)
    | (go_at_call 77; (with_reducible refine (HB.out _).mono ?_); rintro e w' ⟨rfl, rfl⟩)
    | (refine wpList_store_blk rfl 80 (.tmp 4) (.tmp 20) rfl _ _ rfl rfl hb1 3 sizeTok rfl rfl (three_one _ _ _) ?_; intro w5 hb5 hg5))
  refine ret_cell rfl rfl _ rfl hb5 _ Tryz.underlying80 rfl 3 sizeTok rfl ⟨by rw [HT.out], hx1.grown hg5 hg1⟩
theorem token_any (r : Nat) (m : Int) (w : World) (h1 : r ≤ 15) : Calls Tryz.prog 73 #[.int .i64 r, .int .i64 m] w fun e w' => e = .returned (.agg (tokv (tokZ r m)).toArray) ∧ Ext w w' := by
  have HB := hid_ (fun W => sizeBits_any m W)
  obtain ⟨b1, b2⟩ := bitsZ_bd m
  have HT := hid_ (show tokv (tokZ r m) = [.int .i64 (16 * r + (bitsZ m).1), .int .i64 (bitsZ m).1, .int .i64 (bitsZ m).2.1] from rfl)
  generalize tokZ r m = tk at *
  generalize bitsZ m = b at *
  obtain ⟨x1, x2, x3⟩ := b
  obtain ⟨x1, rfl⟩ : ∃ k : Nat, x1 = k := ⟨x1.toNat, by simp at b1; omega⟩
  have HO : bits .or .i64 ((r : Int) * 16) (x1 : Int) = 16 * (r : Int) + (x1 : Int) := or_add ⟨r, by omega⟩ ⟨x1, by simp at b2; omega⟩
  go_enter Tryz.func73, Tryz.ntmps73
  go_wp2_with (first
    | (refine wpList_alloc_abs' rfl (some 4) rfl 80 rfl _ zeroTok ?_; intro w1 g1 hb1 hx1 hg1)
    | (go_at_call 89; (with_reducible refine (HB.out _).mono ?_); rintro e w' ⟨rfl, rfl⟩)
    | (refine wpList_store_blk rfl 80 (.tmp 4) (.tmp 20) rfl _ _ rfl rfl hb1 3 sizeTok rfl rfl (three_one _ _ _) ?_; intro w5 hb5 hg5))
  refine ret_cell rfl rfl _ rfl hb5 _ Tryz.underlying80 rfl 3 sizeTok rfl ⟨by rw [HT.out], hx1.grown hg5 hg1⟩
theorem own_ext {w w' : World} {base : Nat} {e : TypeId} {size n : Nat} {v : Value} {xs : List Value} (h : w.ownsRow base e size v n xs) (hb : Ext w w') : w'.ownsRow base e size v n xs := by
  obtain ⟨hl, hh⟩ := h
  refine ⟨hl, ?_⟩
  rcases hh with ⟨rfl, rfl⟩ | ⟨g, cap, cur, rfl, h1, hg, h2⟩
  · exact .inl ⟨rfl, rfl⟩
  · exact .inr ⟨g, cap, cur, rfl, h1, (hb.block g (Blk.lt (w := w) (t := e) (cs := cur) hg)).trans hg, h2⟩
theorem one_sl3 (w : World) (T : TypeId) (a b c : Value) : SL (w.alloc (.cells #[a, b, c] T)) 3 (.slice (some ⟨w.heap.size, 0, none⟩) 1 1) 1 [a, b, c] := by
  have := (Blk.new w T #[a, b, c]).sl (size := 3) (n := 1) (c := 1) rfl (by omega) (by omega)
  simpa using this
theorem own_built3 {w : World} {base : Nat} (e : TypeId) (a b c : Value) (hb : base ≤ w.heap.size) :
    (w.alloc (.cells #[a, b, c] e)).ownsRow base e 3 (.slice (some ⟨w.heap.size, 0, none⟩) 1 1) 1 [a, b, c] :=
  ⟨rfl, .inr ⟨w.heap.size, 1, #[a, b, c], rfl, hb, heap_alloc_new w _, by omega, by unfold maxLen; omega, rfl, by simp⟩⟩
theorem tok_one (a b c : Int) : ∀ u ∈ [Value.int .i64 a, .int .i64 b, .int .i64 c], u.oneCell' = true := by
  intro u hu
  simp at hu
  rcases hu with rfl | rfl | rfl <;> rfl
theorem own_tok {w : World} {base : Nat} {e : TypeId} {v : Value} {T : List Tok} {a b c : Int} (h : w.ownsRow base e 3 v (T.length + 1) (toks T ++ [.int .i64 a, .int .i64 b, .int .i64 c])) : w.ownsRow base e 3 v (T ++ [(a, b, c)]).length (toks (T ++ [(a, b, c)])) := by
  simpa [toks, tokv] using h
/-- the contract of 'token' with its cells written out -/
theorem tokv_out (t : Tok) : (tokv t).toArray = #[.int .i64 t.1, .int .i64 t.2.1, .int .i64 t.2.2] := rfl
end Go.Proofs.YtgmddhljgfbibaaGreatDoor
