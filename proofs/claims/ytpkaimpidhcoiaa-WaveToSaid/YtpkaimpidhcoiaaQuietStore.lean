/- A drawn region of quiet operations whose LAST operation, behind all the others, does as it likes (a store). -/
import Derived.StillTail
import Derived.Test.YtpkaimpidhcoiaaQuietOps
namespace Go.Proofs.Ytpkaimpidhcoiaa
set_option linter.unusedVariables false
set_option linter.unusedSimpArgs false
open Go.RowKit
/-- the last operation, made quiet -/
def hush (s : Oper) : Oper := { s with op := .move (.const undef) }
/-- each operation waits for earlier ones alone -/
def fwdB (md : Region.Mode) (ops : Array Oper) : Bool :=
  (List.range ops.size).all fun j => match ops[j]? with | some o => o.after.all fun e => !Region.binds md e || decide (e.on < j) | none => true
section
variable {P : Program} {C : World → Prop} {head : List Oper} {s : Oper}
theorem at_last (x : Oper) : ((head ++ [x]).toArray)[head.length]? = some x := by simp
theorem at_head (x y : Oper) (j : Nat) (h : j ≠ head.length) : ((head ++ [x]).toArray)[j]? = ((head ++ [y]).toArray)[j]? := by
  simp only [List.getElem?_toArray]
  rcases Nat.lt_or_ge j head.length with h1 | h1
  · rw [List.getElem?_append_left h1, List.getElem?_append_left h1]
  · rw [List.getElem?_append_right h1, List.getElem?_append_right h1, List.getElem?_eq_none (by simp; omega), List.getElem?_eq_none (by simp; omega)]
theorem ready_hush (md : Region.Mode) (listed : Array Bool) (j : Nat) : j ∈ Region.ready md (head ++ [hush s]).toArray listed ↔ j ∈ Region.ready md (head ++ [s]).toArray listed := by
  rw [mem_ready, mem_ready]
  by_cases hj : j = head.length
  · subst hj
    rw [at_last, at_last]
    constructor
    · rintro ⟨h1, o, ho, h2⟩
      injection ho with ho
      subst ho
      exact ⟨h1, s, rfl, h2⟩
    · rintro ⟨h1, o, ho, h2⟩
      injection ho with ho
      subst ho
      exact ⟨h1, hush s, rfl, h2⟩
  · rw [at_head (hush s) s j hj]
theorem yielded_hush (hs : s.dst = none) (tmps : Array Value) : yielded (head ++ [hush s]).toArray tmps = yielded (head ++ [s]).toArray tmps := by
  funext j
  unfold yielded
  by_cases hj : j = head.length
  · subst hj
    rw [at_last, at_last]
    simp [hush, hs]
  · rw [at_head (hush s) s j hj]
theorem none_ready {md : Region.Mode} {ops : Array Oper} {listed : Array Bool} (hf : fwdB md ops = true) (hr : ∀ j, j ∉ Region.ready md ops listed) (hsz : listed.size = ops.size) : ∀ j, j < ops.size → listed.getD j true = true := by
  intro j
  induction j using Nat.strongRecOn with
  | _ j ih =>
    intro hj
    cases hl : listed.getD j true with
    | true => rfl
    | false =>
      refine absurd (mem_ready.2 ⟨hl, ops[j], by simp [hj], fun e he hb => ?_⟩) (hr j)
      have h1 := List.all_eq_true.1 hf j (List.mem_range.2 hj)
      simp only [hj, Array.getElem?_eq_getElem] at h1
      have h2 := Array.all_eq_true'.1 h1 e he
      simp only [hb, Bool.not_true, Bool.false_or, decide_eq_true_eq] at h2
      have h3 := ih e.on h2 (by omega)
      have h4 : e.on < listed.size := by omega
      simpa [h4] using h3
theorem bridge {Q : Exit → Act → World → Prop} (hs : s.dst = none) (hgd : s.guard = none) (hS : Region.sinkB .any (head ++ [s]).toArray head.length = true) (hF : fwdB .any (head ++ [s]).toArray = true) :
    ∀ (f : Nat) (listed : Array Bool) (a : Act) (w : World), HeadInv .any (head ++ [s]).toArray head.length listed → C w →
      wpAnyQ P .any (head ++ [hush s]).toArray C (fun a' => ∀ w', C w' → s.wp P a' w' (fun a'' w'' => Q .normal a'' w'') Q) f listed a → wpAny P .any (head ++ [s]).toArray Q f listed a w := by
  have hsz : (head ++ [s]).toArray.size = head.length + 1 := by simp
  have hC : Region.chainB .any (head ++ [s]).toArray head.length = true := by
    unfold Region.chainB
    rw [List.all_eq_true]
    intro t ht
    have := List.mem_range.1 ht
    simp only [Bool.or_eq_true, decide_eq_true_eq]
    left; omega
  have hno : ∀ listed : Array Bool, HeadInv .any (head ++ [s]).toArray head.length listed → Region.ready .any (head ++ [s]).toArray listed = [] → False := by
    intro listed inv h0
    have := none_ready hF (fun j => by rw [h0]; simp) inv.size head.length (by omega)
    rw [inv.tail head.length (Nat.le_refl _) (by omega)] at this
    cases this
  intro f
  induction f with
  | zero =>
    intro listed a w inv _ h
    refine (hno listed inv ?_).elim
    refine List.eq_nil_iff_forall_not_mem.2 fun j hj => ?_
    have := (ready_hush (s := s) .any listed j).2 hj
    rw [h.1] at this
    cases this
  | succ f ih =>
    intro listed a w inv hw h
    refine ⟨fun h0 => (hno listed inv h0).elim, fun i hi => ?_⟩
    have hq := h.2 i ((ready_hush (s := s) .any listed i).2 hi)
    have hlt : i < head.length + 1 := by
      obtain ⟨-, o, ho, -⟩ := mem_ready.1 hi
      have := (Array.getElem?_eq_some_iff.1 ho).1
      omega
    by_cases hin : i < head.length
    · have hq' : qOp P (head ++ [s]).toArray C i (wpAnyQ P .any (head ++ [hush s]).toArray C (fun a' => ∀ w', C w' → s.wp P a' w' (fun a'' w'' => Q .normal a'' w'') Q) f (listed.setIfInBounds i true)) a := by
        unfold qOp at hq ⊢
        rw [at_head (hush s) s i (by omega), yielded_hush hs] at hq
        exact hq
      exact wpOp_of_qOp hw (fun a' w' hw' hk => ih _ a' w' (inv.set hi hin) hw' hk) hq'
    · obtain rfl : i = head.length := by omega
      -- all others are listed
      have hall : ∀ j, j < head.length → listed.getD j true = true := by
        intro j hj
        cases hl : listed.getD j true with
        | true => rfl
        | false => exact absurd hi (tail_waits hS hC (by omega) inv _ j rfl hj hl head.length (Nat.le_refl _))
      have hdone : ∀ md ops, ops.size = head.length + 1 → Region.ready md ops (listed.setIfInBounds head.length true) = [] := by
        intro md ops ho
        refine List.eq_nil_iff_forall_not_mem.2 fun j hj => ?_
        obtain ⟨h1, o, h2, -⟩ := mem_ready.1 hj
        have h3 : j < ops.size := (Array.getElem?_eq_some_iff.1 h2).1
        by_cases hjn : j = head.length
        · rw [hjn] at h1
          have h4 : head.length < listed.size := by rw [inv.size]; omega
          simp [h4] at h1
        · rw [getD_set_ne true (by omega), hall j (by omega)] at h1
          cases h1
      have hQ : ∀ w', C w' → s.wp P a w' (fun a'' w'' => Q .normal a'' w'') Q := by
        unfold qOp at hq
        rw [at_last] at hq
        have hwn : Region.wanted (hush s) (yielded (head ++ [hush s]).toArray a.tmps) = true := by simp [Region.wanted, hush, hgd]
        simp only [hwn, if_true] at hq
        obtain ⟨v, -, hk⟩ := hq
        have hput : a.put (hush s).dst v = a := by simp [hush, hs, Act.put]
        rw [hput] at hk
        cases f with
        | zero => exact hk.2
        | succ f => exact hk.1 (hdone _ _ (by simp))
      have hwp := Oper.wp_mono (K' := wpAny P .any (head ++ [s]).toArray Q f (listed.setIfInBounds head.length true)) (fun a' w' hk => by
        cases f with
        | zero => exact ⟨hdone _ _ hsz, hk⟩
        | succ f => exact ⟨fun _ => hk, fun i hi => by rw [hdone _ _ hsz] at hi; cases hi⟩) (hQ w hw)
      unfold wpOp
      rw [at_last]
      have hwn : Region.wanted s (yielded (head ++ [s]).toArray a.tmps) = true := by simp [Region.wanted, hgd]
      simp only [hwn, if_true]
      exact .inl hwp
theorem wpQuiet_append {ops : Array Oper} {Q : Act → Prop} (m : List Oper) : ∀ (l : List Oper) (a : Act), wpQuiet P ops C (fun a' => wpQuiet P ops C Q m a') l a → wpQuiet P ops C Q (l ++ m) a := by
  intro l
  induction l with
  | nil => intro a h; exact h
  | cons o l ih =>
    intro a h
    show wpQuiet P ops C Q (o :: (l ++ m)) a
    unfold wpQuiet at h ⊢
    split
    · next hw => rw [if_pos hw] at h; exact Oper.quiet_mono (fun a' h' => ih a' h') h
    · next hw => rw [if_neg hw] at h; exact ih _ h
theorem wpQuiet_mono_ {ops : Array Oper} {Q Q' : Act → Prop} (hQ : ∀ a, Q a → Q' a) : ∀ (l : List Oper) (a : Act), wpQuiet P ops C Q l a → wpQuiet P ops C Q' l a := by
  intro l
  induction l with
  | nil => intro a h; exact hQ a h
  | cons o l ih =>
    intro a h
    unfold wpQuiet at h ⊢
    split
    · next hw => rw [if_pos hw] at h; exact Oper.quiet_mono (fun a' h' => ih a' h') h
    · next hw => rw [if_neg hw] at h; exact ih _ h
theorem wp_region_quiet_store {id : Nat} {Q : Exit → Act → World → Prop} {a : Act} {w : World} (hm : P.follows .mixedOrders = true) (hs : s.dst = none) (hgd : s.guard = none)
    (hB : Region.lexB .any (head ++ [hush s]).toArray = true) (hS : Region.sinkB .any (head ++ [s]).toArray head.length = true) (hF : fwdB .any (head ++ [s]).toArray = true) (hC : C { w with drawn := w.drawn + 1 })
    (h : wpQuiet P (head ++ [hush s]).toArray C (fun a' => ∀ w', C w' → s.wp P a' w' (fun a'' w'' => Q .normal a'' w'') Q) head a) : (Code.region id (head ++ [s]).toArray true).wp P Q a w := by
  simp only [Region.lexB, Bool.and_eq_true] at hB
  refine wp_region_any hm ?_
  have hq : wpQuiet P (head ++ [hush s]).toArray C (fun a' => ∀ w', C w' → s.wp P a' w' (fun a'' w'' => Q .normal a'' w'') Q) (head ++ [hush s]) a := by
    refine wpQuiet_append [hush s] head a ?_
    refine wpQuiet_mono_ ?_ head a h
    intro a' ha'
    refine q_move (by simp [Region.wanted, hush, hgd]) (.const undef) rfl undef rfl ?_
    have hput : a'.put (hush s).dst undef = a' := by simp [hush, hs, Act.put]
    rw [hput]
    exact ha'
  have H := wpAnyQ_lex (C := C) (md := .any) hB.1 (head ++ [hush s]) 0 (Array.replicate (head ++ [hush s]).toArray.size false) a (by simp) (by simpa using hB.2) hq
  have e : (head ++ [hush s]).length = (head ++ [s]).toArray.size := by simp
  have e2 : (head ++ [hush s]).toArray.size = (head ++ [s]).toArray.size := by simp
  rw [e, e2] at H
  exact bridge hs hgd hS hF _ _ a _ ⟨by simp, fun j oj _ hl => (by rw [getD_replicate_false] at hl; cases hl), fun t _ ht => getD_in (by simpa using ht) (getD_replicate_false _ _)⟩ hC H
/-- the same at a region that is written out -/
theorem wp_region_quiet_last {l : List Oper} {id : Nat} {Q : Exit → Act → World → Prop} {a : Act} {w : World} (hl : l.dropLast ++ [s] = l) (hm : P.follows .mixedOrders = true) (hs : s.dst = none) (hgd : s.guard = none)
    (hB : Region.lexB .any (l.dropLast ++ [hush s]).toArray = true) (hS : Region.sinkB .any l.toArray l.dropLast.length = true) (hF : fwdB .any l.toArray = true) (hC : C { w with drawn := w.drawn + 1 })
    (h : ∀ ops : Array Oper, wpQuiet P ops C (fun a' => ∀ w', C w' → s.wp P a' w' (fun a'' w'' => Q .normal a'' w'') Q) l.dropLast a) : (Code.region id l.toArray true).wp P Q a w := by
  have := wp_region_quiet_store (head := l.dropLast) (s := s) (id := id) (Q := Q) (a := a) (w := w) (C := C) hm hs hgd hB (by rw [hl]; exact hS) (by rw [hl]; exact hF) hC (h _)
  rwa [hl] at this
end
section
variable {P : Program} {ops : Array Oper} {C : World → Prop} {Q : Act → Prop} {a : Act} {o : Oper} {rest : List Oper}
theorem q_addr (hw : Region.wanted o (yielded ops a.tmps) = true) (t : TypeId) (x ix : Operand) (ho : o.op = .indexAddr t x ix) (vx vi : Value) (hx : a.eval x = vx) (hi : a.eval ix = vi) (v : Value) (hr : ∀ w, (Instr.indexAt t vx vi).run P w = .ok v w) (h : wpQuiet P ops C Q rest (a.put o.dst v)) : wpQuiet P ops C Q (o :: rest) a :=
  q_run hw v (fun w => by simp [execOp, ho, hx, hi, hr]) h
theorem q_load (hw : Region.wanted o (yielded ops a.tmps) = true) (t : TypeId) (x : Operand) (ho : o.op = .load t x) (vx : Value) (hx : a.eval x = vx) (v : Value) (hr : ∀ w, C w → (Instr.loadAt t vx).run P w = .ok v w) (h : wpQuiet P ops C Q rest (a.put o.dst v)) : wpQuiet P ops C Q (o :: rest) a :=
  q_at hw v (fun w hC => by unfold Oper.quietAt; simp [execOp, ho, hx, hr w hC, Oper.quietUpon]) h
/-- a call of a function value -/
theorem q_callV (hw : Region.wanted o (yielded ops a.tmps) = true) (f : FuncId) (x : Operand) (xs : Array Operand) (ts : Array TypeId)
    (ho : o.op = .call { callee := .value x, args := xs, argTypes := ts }) (hf : a.eval x = .func (.func f) #[] #[]) (he : ∀ (args : Array Value) (w : World), (callFunc f args).run P w = .ok (.enter f args) w) (args : Array Value) (hx : xs.map a.eval = args) (v : Value)
    (hc : ∀ w, C w → Calls P f (args ++ #[]) w fun e w' => e = .returned v ∧ C w') (h : wpQuiet P ops C Q rest (a.put o.dst v)) : wpQuiet P ops C Q (o :: rest) a := by
  refine q_call hw f (args ++ #[]) (fun w => ?_) v hc h
  simp [execOp, ho, resolve, hx, hf, Deferred.ofValue, invoke, he]
end
end Go.Proofs.Ytpkaimpidhcoiaa
