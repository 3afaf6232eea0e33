/- Contracts for the law BestMakes, part 2: what the functions that it reaches answer, for all arguments that the theorems name. -/
import Derived.Deep.QuietTactic
import Derived.Test.YtideigpabbhhkaaMBestMakes1
import Derived.StillTail
import Derived.Deep.MidRow
import Derived.WalkKit
/- A region that draws its order: one walk in the order of the text, in worlds that come later by a relation of one's own; where an operation is the only one that may come up, it may do what it likes. -/
namespace Go.Proofs.Ytideigpabbhhkaa
set_option linter.unusedVariables false
set_option linter.unusedSimpArgs false
open Go.RowKit
/-- a relation of worlds: later -/
structure Later (R : World → World → Prop) : Prop where
  refl : ∀ w, R w w
  trans : ∀ {a b c}, R a b → R b c → R a c
theorem later_ext : Later Ext := ⟨Ext.refl, fun h k => Ext.trans h k⟩
section
variable {P : Program} {ops : Array Oper} {md : Region.Mode} {R : World → World → Prop}
def YieldsR (P : Program) (ops : Array Oper) (R : World → World → Prop) (o : Oper) (v : Value) (a : Act) (wc : World) : Prop :=
  (Region.wanted o (yielded ops a.tmps) = true ∧ ∀ w, R wc w → o.quietAt P a (R w) w v) ∨ (Region.wanted o (yielded ops a.tmps) = false ∧ v = undef)
theorem YieldsR.mono (L : Later R) {o : Oper} {v : Value} {a : Act} {wc w : World} (h : YieldsR P ops R o v a wc) (hw : R wc w) : YieldsR P ops R o v a w :=
  h.imp (fun ⟨h1, h2⟩ => ⟨h1, fun w' h' => h2 w' (L.trans hw h')⟩) id
theorem YieldsR.of_same {o : Oper} {v : Value} {a a' : Act} {wc : World} (hy : YieldsR P ops R o v a wc) (he : execOp a'.eval o = execOp a.eval o)
    (hw : Region.wanted o (yielded ops a'.tmps) = Region.wanted o (yielded ops a.tmps)) : YieldsR P ops R o v a' wc := by
  unfold YieldsR Oper.quietAt at *
  rw [he, hw]
  exact hy
theorem wp_of_quietAt (L : Later R) {o : Oper} {a : Act} {v : Value} {w : World} {K : Act → World → Prop} {Q : Exit → Act → World → Prop} (h : o.quietAt P a (R w) w v) (hk : ∀ w', R w w' → K (a.put o.dst v) w') : o.wp P a w K Q := by
  unfold Oper.quietAt at h
  unfold Oper.wp
  generalize (execOp a.eval o).run P w = r at *
  cases r with
  | ok n w' =>
    cases n <;> simp only [Oper.quietUpon] at h <;> simp only [Oper.upon]
    case value u =>
      obtain ⟨e1, e2⟩ := h
      rw [e1, e2]
      exact hk _ (L.refl _)
    case skip =>
      obtain ⟨e1, e2⟩ := h
      rw [e1, ← e2]
      exact hk _ (L.refl _)
    case enter f args =>
      obtain ⟨e1, hc⟩ := h
      rw [e1]
      exact hc.mono fun e w'' ⟨he, hw''⟩ => by subst he; exact hk _ hw''
  | halt x w' => simp only [Oper.quietUpon] at h
theorem YieldsR.wpOp (L : Later R) {i : Nat} {o : Oper} {v : Value} {a : Act} {wc w : World} {Q : Exit → Act → World → Prop} (hi : ops[i]? = some o) (hy : YieldsR P ops R o v a wc) (hw : R wc w)
    {K : Act → World → Prop} (h : ∀ w', R w w' → K (a.put o.dst v) w') : wpOp P ops Q i K a w := by
  unfold Go.wpOp
  simp only [hi]
  rcases hy with ⟨h1, h2⟩ | ⟨h1, rfl⟩
  · simp only [h1, if_true]
    exact .inl (wp_of_quietAt L (h2 w hw) h)
  · simp only [h1, Bool.false_eq_true, if_false]
    exact h _ (L.refl _)
theorem wpOp_putR {j : Nat} {oi oj : Oper} {v : Value} {wc : World} {Q : Exit → Act → World → Prop} (hj : ops[j]? = some oj) (hap : oi.apart ops oj = true)
    (hsi : ∀ cs b, oi.op ≠ .select cs b) (hsj : ∀ cs b, oj.op ≠ .select cs b)
    (hQ : ∀ c a w, Q (.panic c) (a.put oi.dst v) w → Q (.panic c) a w) {K : Act → World → Prop} {a : Act} {w : World}
    (hy : YieldsR P ops R oi v a wc) (h : wpOp P ops Q j K (a.put oi.dst v) w) :
    wpOp P ops Q j (fun a' w' => YieldsR P ops R oi v a' wc ∧ K (a'.put oi.dst v) w') a w := by
  obtain ⟨h1, h2, h3⟩ := Oper.apart_spec hap
  have keep : ∀ (a : Act), YieldsR P ops R oi v a wc → ∀ u, YieldsR P ops R oi v (a.put oj.dst u) wc := fun a hy u =>
    hy.of_same (execOp_put oi hsi a oj.dst u h3) (wanted_put oi a oj.dst u h3)
  have keepD : ∀ d, YieldsR P ops R oi v { a with defers := d :: a.defers } wc := fun d => hy.of_same rfl rfl
  unfold wpOp at *
  simp only [hj] at *
  rw [wanted_put oj a oi.dst v h1] at h
  split
  · rename_i hw
    simp only [hw, if_true] at h
    rcases h with h | ⟨hasks, hlets⟩
    case inr => exact .inr ⟨by unfold Oper.asks at *; rw [execOp_put oj hsj a oi.dst v h1] at hasks; exact hasks, hlets⟩
    refine .inl ?_
    unfold Oper.wp at *
    rw [execOp_put oj hsj a oi.dst v h1] at h
    generalize (execOp a.eval oj).run P w = r at *
    cases r with
    | ok n w' =>
      cases n <;> simp only [Oper.upon] at h ⊢
      case value u => exact ⟨keep a hy u, by rw [← Act.put_comm a v u h2]; exact h⟩
      case skip => exact ⟨keep a hy _, by rw [← Act.put_comm a v undef h2]; exact h⟩
      case defer d =>
        refine ⟨keep _ (keepD d) _, ?_⟩
        rw [← Act.put_comm _ v undef h2, ← Act.put_defers]
        exact h
      case enter f args =>
        refine Calls.mono h fun e w'' he => ?_
        cases e with
        | returned u => exact ⟨keep a hy u, by rw [← Act.put_comm a v u h2]; exact he⟩
        | panicked c => exact hQ _ _ _ he
        | outgrown => exact he
      case row row args => exact Rows.mono h fun u w'' he => ⟨keep a hy u, by rw [← Act.put_comm a v u h2]; exact he⟩
    | halt x w' =>
      cases x <;> simp only [Oper.upon] at h ⊢
      case panic u => exact hQ _ _ _ h
  · rename_i hw
    simp only [hw] at h
    exact ⟨keep a hy _, by rw [← Act.put_comm a v undef h2]; exact h⟩
/-- Whatever order is picked from here on, from whatever later world. -/
def wpAnyR (P : Program) (md : Region.Mode) (ops : Array Oper) (R : World → World → Prop) (Q : Exit → Act → World → Prop) : Nat → Array Bool → Act → World → Prop
  | 0, listed, a, wc => Region.ready md ops listed = [] ∧ ∀ w, R wc w → Q .normal a w
  | f + 1, listed, a, wc => (Region.ready md ops listed = [] → ∀ w, R wc w → Q .normal a w) ∧
    ∀ i ∈ Region.ready md ops listed, ∀ w, R wc w → wpOp P ops Q i (fun a' w' => R w w' ∧ wpAnyR P md ops R Q f (listed.setIfInBounds i true) a' w') a w
variable {Q : Exit → Act → World → Prop}
theorem wpAnyR_mono (L : Later R) : ∀ (f : Nat) (listed : Array Bool) (a : Act) (wc w : World), R wc w → wpAnyR P md ops R Q f listed a wc → wpAnyR P md ops R Q f listed a w
  | 0, _, _, _, _, hw, h => ⟨h.1, fun w' h' => h.2 w' (L.trans hw h')⟩
  | _ + 1, _, _, _, _, hw, h => ⟨fun h0 w' h' => h.1 h0 w' (L.trans hw h'), fun i hi w' h' => h.2 i hi w' (L.trans hw h')⟩
theorem wpAny_of_R (L : Later R) : ∀ (f : Nat) (listed : Array Bool) (a : Act) (wc w : World), R wc w → wpAnyR P md ops R Q f listed a wc → wpAny P md ops Q f listed a w
  | 0, _, _, _, _, hw, h => ⟨h.1, h.2 _ hw⟩
  | f + 1, _, _, _, _, hw, h => ⟨fun h0 => h.1 h0 _ hw, fun i hi => wpOp_mono (fun a' w' h' => wpAny_of_R L f _ a' w' w' (L.refl _) h'.2) (h.2 i hi _ hw)⟩
theorem wpAnyR_first (L : Later R) {i : Nat} {oi : Oper} {v : Value} (hi : ops[i]? = some oi) (hsel : ∀ (j : Nat) (o : Oper) cs b, ops[j]? = some o → o.op ≠ .select cs b)
    (hQ : ∀ c a w, Q (.panic c) (a.put oi.dst v) w → Q (.panic c) a w) :
    ∀ (fuel : Nat) (listed : Array Bool) (a : Act) (wc : World),
      (∀ j oj, ops[j]? = some oj → j ≠ i → listed.getD j true = false → (∀ e ∈ oj.after, Region.binds md e = true → e.on ≠ i) → oi.apart ops oj = true) →
      i ∈ Region.ready md ops listed → YieldsR P ops R oi v a wc →
      wpAnyR P md ops R Q fuel (listed.setIfInBounds i true) (a.put oi.dst v) wc → wpAnyR P md ops R Q (fuel + 1) listed a wc := by
  intro fuel
  induction fuel with
  | zero =>
    intro listed a wc _ hr hy H
    refine ⟨fun h => (by rw [h] at hr; cases hr), fun j hj w hw => ?_⟩
    by_cases hji : j = i
    · subst hji; exact hy.wpOp L hi hw fun w' h' => ⟨h', wpAnyR_mono L _ _ _ _ _ (L.trans hw h') H⟩
    · have := ready_mono hj hji
      rw [H.1] at this
      cases this
  | succ fuel ih =>
    intro listed a wc hfree hr hy H
    refine ⟨fun h => (by rw [h] at hr; cases hr), fun j hj w hw => ?_⟩
    by_cases hji : j = i
    · subst hji; exact hy.wpOp L hi hw fun w' h' => ⟨h', wpAnyR_mono L _ _ _ _ _ (L.trans hw h') H⟩
    · have h1 := H.2 j (ready_mono hj hji) w hw
      obtain ⟨hjun, oj, hoj, hall⟩ := mem_ready.1 hj
      have hnot : ∀ e ∈ oj.after, Region.binds md e = true → e.on ≠ i := fun e he hb heq => by
        have h1 := hall e he hb
        have h0 := (mem_ready.1 hr).1
        rw [heq] at h1
        rcases Nat.lt_or_ge i listed.size with h' | h'
        · simp [h'] at h0 h1; rw [h0] at h1; cases h1
        · simp [Array.getElem?_eq_none h'] at h1
      have h2 := wpOp_putR hoj (hfree j oj hoj hji hjun hnot) (fun cs b => hsel i oi cs b hi) (fun cs b => hsel j oj cs b hoj) hQ hy h1
      have hfree' : ∀ k ok, ops[k]? = some ok → k ≠ i → (listed.setIfInBounds j true).getD k true = false →
          (∀ e ∈ ok.after, Region.binds md e = true → e.on ≠ i) → oi.apart ops ok = true := fun k ok hk hki hun hno => by
        refine hfree k ok hk hki ?_ hno
        by_cases hjk : j = k
        · subst hjk; exact hjun
        · rw [getD_set_ne true hjk] at hun; exact hun
      refine wpOp_mono (fun a' w' h3 => ⟨h3.2.1, ih (listed.setIfInBounds j true) a' w' hfree' (ready_mono hr (Ne.symm hji)) (h3.1.mono L (L.trans hw h3.2.1)) ?_⟩) h2
      rw [Array.setIfInBounds_comm _ _ hji]
      exact h3.2.2
/-- THE WALK in the order of the text. -/
def wpLx (P : Program) (md : Region.Mode) (ops : Array Oper) (R : World → World → Prop) (Q : Exit → Act → World → Prop) : List Oper → Nat → Array Bool → Act → World → Prop
  | [], _, _, a, wc => ∀ w, R wc w → Q .normal a w
  | o :: rest, k, listed, a, wc =>
    (∃ v, YieldsR P ops R o v a wc ∧ wpLx P md ops R Q rest (k + 1) (listed.setIfInBounds k true) (a.put o.dst v) wc) ∨
    (Region.ready md ops listed = [k] ∧ ∀ w, R wc w → wpOp P ops Q k (fun a' w' => R w w' ∧ wpLx P md ops R Q rest (k + 1) (listed.setIfInBounds k true) a' w') a w)
theorem wpAnyR_lex (L : Later R) (hs : Region.noSelect ops = true) (hQ : ∀ c (a : Act) d v w, Q (.panic c) (a.put d v) w → Q (.panic c) a w) : ∀ (l : List Oper) (k : Nat) (listed : Array Bool) (a : Act) (wc : World), (∀ j, l[j]? = ops[k + j]?) →
    Region.lexFrom md ops l.length k listed = true → wpLx P md ops R Q l k listed a wc → wpAnyR P md ops R Q l.length listed a wc
  | [], _, _, _, _, _, hB, h => ⟨by simpa [Region.lexFrom] using hB, h⟩
  | o :: l, k, listed, a, wc, hl, hB, h => by
    have h0 : ops[k]? = some o := by simpa using (hl 0).symm
    simp only [List.length_cons, Region.lexFrom, Bool.and_eq_true] at hB
    obtain ⟨⟨hr, hf⟩, hB'⟩ := hB
    have hl' : ∀ j, l[j]? = ops[k + 1 + j]? := fun j => by have := hl (j + 1); simpa [Nat.add_assoc, Nat.add_comm 1 j] using this
    rcases h with ⟨v, hy, hK⟩ | ⟨hone, hK⟩
    · exact wpAnyR_first L h0 (Region.noSelect_spec hs) (fun c a w => hQ c a _ _ w) l.length listed a wc (Region.free_spec h0 hf) (by simpa using hr) hy
        (wpAnyR_lex L hs hQ l (k + 1) _ _ _ hl' hB' hK)
    · refine ⟨fun h0 => (by rw [h0] at hone; cases hone), fun i hi w hw => ?_⟩
      rw [hone] at hi
      have hik : i = k := by simpa using hi
      subst hik
      exact wpOp_mono (fun a' w' h' => ⟨h'.1, wpAnyR_lex L hs hQ l (i + 1) _ _ _ hl' hB' h'.2⟩) (hK w hw)
/-- it ends as it should, without a panic -/
def onlyN (QN : Act → World → Prop) : Exit → Act → World → Prop
  | .normal, a, w => QN a w
  | _, _, _ => False
theorem wp_region_lx (L : Later R) {id : Nat} {a : Act} {w : World} {l : List Oper} (hm : P.follows .mixedOrders = true) (hB : Region.lexB .any l.toArray = true)
    (h : wpLx P .any l.toArray R (onlyN (fun a w => Q .normal a w)) l 0 (Array.replicate l.length false) a w.drew) : (Code.region id l.toArray true).wp P Q a w := by
  simp only [Region.lexB, Bool.and_eq_true] at hB
  refine Code.wp_mono (Q := onlyN (fun a w => Q .normal a w)) (fun e a w h => ?_) (wp_region_any hm (wpAny_of_R L _ _ _ _ _ (L.refl _) ?_))
  · cases e <;> first | exact h | exact (h : False).elim
  · have := wpAnyR_lex (md := .any) L hB.1 (fun _ _ _ _ _ h => h) l 0 (Array.replicate l.toArray.size false) a w.drew (by simp) (by simpa using hB.2) (by simpa using h)
    simpa using this
variable {o : Oper} {rest : List Oper} {k : Nat} {listed : Array Bool} {a : Act} {wc : World}
theorem lx_nil {QN : Act → World → Prop} (h : ∀ w, R wc w → QN a w) : wpLx P md ops R (onlyN QN) [] k listed a wc := h
theorem lx_ex (hw : Region.wanted o (yielded ops a.tmps) = true) (h : ∃ v, (∀ w, R wc w → o.quietAt P a (R w) w v) ∧ wpLx P md ops R Q rest (k + 1) (listed.setIfInBounds k true) (a.put o.dst v) wc) : wpLx P md ops R Q (o :: rest) k listed a wc :=
  .inl (let ⟨v, h1, h2⟩ := h; ⟨v, .inl ⟨hw, h1⟩, h2⟩)
theorem lx_at (hw : Region.wanted o (yielded ops a.tmps) = true) (v : Value) (h1 : ∀ w, R wc w → o.quietAt P a (R w) w v) (h2 : wpLx P md ops R Q rest (k + 1) (listed.setIfInBounds k true) (a.put o.dst v) wc) : wpLx P md ops R Q (o :: rest) k listed a wc :=
  .inl ⟨v, .inl ⟨hw, h1⟩, h2⟩
theorem lx_skip (hw : Region.wanted o (yielded ops a.tmps) = false) (h : wpLx P md ops R Q rest (k + 1) (listed.setIfInBounds k true) (a.put o.dst undef) wc) : wpLx P md ops R Q (o :: rest) k listed a wc :=
  .inl ⟨undef, .inr ⟨hw, rfl⟩, h⟩
theorem lx_alone (hone : Region.ready md ops listed = [k]) (hk : ops[k]? = some o) (hw : Region.wanted o (yielded ops a.tmps) = true)
    (h : ∀ w, R wc w → o.wp P a w (fun a' w' => R w w' ∧ wpLx P md ops R Q rest (k + 1) (listed.setIfInBounds k true) a' w') Q) : wpLx P md ops R Q (o :: rest) k listed a wc :=
  .inr ⟨hone, fun w hR => by unfold wpOp; simp only [hk, hw, if_true]; exact .inl (h w hR)⟩
theorem lx_run (hw : Region.wanted o (yielded ops a.tmps) = true) (v : Value) (h1 : ∀ w, (execOp a.eval o).run P w = .ok (.value v) w) (h2 : wpLx P md ops R Q rest (k + 1) (listed.setIfInBounds k true) (a.put o.dst v) wc) : wpLx P md ops R Q (o :: rest) k listed a wc :=
  lx_at hw v (fun w _ => by unfold Oper.quietAt; rw [h1]; exact ⟨rfl, rfl⟩) h2
theorem lx_read (hw : Region.wanted o (yielded ops a.tmps) = true) (v : Value) (h1 : ∀ w, R wc w → (execOp a.eval o).run P w = .ok (.value v) w) (h2 : wpLx P md ops R Q rest (k + 1) (listed.setIfInBounds k true) (a.put o.dst v) wc) : wpLx P md ops R Q (o :: rest) k listed a wc :=
  lx_at hw v (fun w hR => by unfold Oper.quietAt; rw [h1 w hR]; exact ⟨rfl, rfl⟩) h2
theorem lx_load_blk (hw : Region.wanted o (yielded ops a.tmps) = true) (ty : TypeId) (x : Operand) (ho : o.op = .load ty x) (g : Nat) (hx : a.eval x = .pointer (some ⟨g, 0, none⟩))
    {t : TypeId} {cs : Array Value} (hB : ∀ w, R wc w → Blk w g t cs) (d : TypeDesc) (hu : P.underlying ty = some d) (hd : (match d with | .struct _ | .array _ _ => true | _ => false) = true)
    (n : Nat) (hs : (P.info? ty).map (·.size) = some n) (hn : cs.size = n) (h : wpLx P md ops R Q rest (k + 1) (listed.setIfInBounds k true) (a.put o.dst (.agg cs)) wc) : wpLx P md ops R Q (o :: rest) k listed a wc := by
  refine lx_read hw _ (fun w hC => ?_) h
  unfold execOp
  simp only [ho, hx, Instr.loadAt, Instr.sureAddr, Sem.run_bind, Sem.run_pure, Result.andThen_ok, run_loadVar_row w g t ty cs (0, 0) d (hB w hC) hu hd (by rw [hn]; exact hs)]
theorem lx_callF (hw : Region.wanted o (yielded ops a.tmps) = true) (f : FuncId) {fn : Func} (hf : P.funcs[f]? = some fn) (hname : (fn.name == "runtime.NumGoroutine") = false) (hb : fn.body.isSome = true) (xs : Array Operand) (ts : Array TypeId)
    (ho : o.op = .call { callee := .value (.func f), args := xs, argTypes := ts }) (args : Array Value) (hx : xs.map a.eval = args) (v : Value)
    (hc : ∀ w, R wc w → Calls P f args w fun e w' => e = .returned v ∧ R w w') (h : wpLx P md ops R Q rest (k + 1) (listed.setIfInBounds k true) (a.put o.dst v) wc) : wpLx P md ops R Q (o :: rest) k listed a wc := by
  obtain ⟨c, hb⟩ := Option.isSome_iff_exists.1 hb
  have hn : ¬ fn.name = "runtime.NumGoroutine" := by simpa using hname
  refine lx_at hw v (fun w hR => ?_) h
  have he : a.eval (.func f) = .func (.func f) #[] #[] := rfl
  have hrun : (execOp a.eval o).run P w = .ok (.enter f args) w := by simp [execOp, ho, resolve, hx, he, Deferred.ofValue, invoke, callFunc, hf, hb, hn]
  unfold Oper.quietAt
  rw [hrun]
  exact ⟨rfl, hc w hR⟩
/-- a call that is the only one that may come up: whatever it hands back -/
theorem lx_callF_alone (L : Later R) (hone : Region.ready md ops listed = [k]) (hk : ops[k]? = some o) (hw : Region.wanted o (yielded ops a.tmps) = true) (f : FuncId) {fn : Func} (hf : P.funcs[f]? = some fn) (hname : (fn.name == "runtime.NumGoroutine") = false) (hb : fn.body.isSome = true) (xs : Array Operand) (ts : Array TypeId)
    (ho : o.op = .call { callee := .value (.func f), args := xs, argTypes := ts }) (args : Array Value) (hx : xs.map a.eval = args)
    (h : ∀ w, R wc w → Calls P f args w fun e w' => ∃ v, e = .returned v ∧ R w w' ∧ wpLx P md ops R Q rest (k + 1) (listed.setIfInBounds k true) (a.put o.dst v) w') : wpLx P md ops R Q (o :: rest) k listed a wc := by
  obtain ⟨c, hb⟩ := Option.isSome_iff_exists.1 hb
  have hn : ¬ fn.name = "runtime.NumGoroutine" := by simpa using hname
  refine lx_alone hone hk hw fun w hR => ?_
  have he : a.eval (.func f) = .func (.func f) #[] #[] := rfl
  have hrun : (execOp a.eval o).run P w = .ok (.enter f args) w := by simp [execOp, ho, resolve, hx, he, Deferred.ofValue, invoke, callFunc, hf, hb, hn]
  unfold Oper.wp
  rw [hrun]
  refine (h w hR).mono fun e w' ⟨v, e1, h1, h2⟩ => ?_
  subst e1
  exact ⟨h1, h2⟩
end
end Go.Proofs.Ytideigpabbhhkaa
/- A region that draws its order: a head walked in the order of the text in later worlds, and a tail that waits for all of it and does as it likes. -/
namespace Go.Proofs.Ytideigpabbhhkaa
set_option linter.unusedVariables false
set_option linter.unusedSimpArgs false
open Go.RowKit
section
variable {P : Program} {ops : Array Oper} {md : Region.Mode} {R : World → World → Prop}
def wpAnyRL (P : Program) (md : Region.Mode) (ops : Array Oper) (R : World → World → Prop) (Q : Exit → Act → World → Prop) (n : Nat) (F : Array Bool → Act → World → Prop) : Nat → Array Bool → Act → World → Prop
  | 0, listed, a, wc => ∀ w, R wc w → F listed a w
  | f + 1, listed, a, wc => Region.ready md ops listed ≠ [] ∧ ∀ i ∈ Region.ready md ops listed, i < n ∧ ∀ w, R wc w → wpOp P ops Q i (fun a' w' => R w w' ∧ wpAnyRL P md ops R Q n F f (listed.setIfInBounds i true) a' w') a w
variable {Q : Exit → Act → World → Prop} {n : Nat} {F : Array Bool → Act → World → Prop}
theorem wpAnyRL_mono (L : Later R) : ∀ (f : Nat) (listed : Array Bool) (a : Act) (wc w : World), R wc w → wpAnyRL P md ops R Q n F f listed a wc → wpAnyRL P md ops R Q n F f listed a w
  | 0, _, _, _, _, hw, h => fun w' h' => h w' (L.trans hw h')
  | _ + 1, _, _, _, _, hw, h => ⟨h.1, fun i hi => ⟨(h.2 i hi).1, fun w' h' => (h.2 i hi).2 w' (L.trans hw h')⟩⟩
theorem not_letsOut {QN : Act → World → Prop} (h : LetsOut (onlyN QN)) : False := by
  obtain ⟨a, w, h⟩ := h
  exact h
/-- a panic's end is False: so the region's post may be any -/
theorem wpOp_exit {i : Nat} {K : Act → World → Prop} {QN : Act → World → Prop} {Q' : Exit → Act → World → Prop} {a : Act} {w : World} (h : wpOp P ops (onlyN QN) i K a w) : wpOp P ops Q' i K a w := by
  have up : ∀ (o : Oper) (r : Result Next), o.upon P a K (onlyN QN) r → o.upon P a K Q' r := by
    intro o r h
    cases r with
    | ok nx w' =>
      cases nx <;> simp only [Oper.upon] at h ⊢ <;> first
        | exact h
        | exact Calls.mono h (fun e w'' he => by cases e <;> first | exact he | exact (he : False).elim | exact (not_letsOut he).elim)
    | halt x w' =>
      cases x <;> simp only [Oper.upon] at h ⊢
      case panic u => exact (h : False).elim
  unfold wpOp at *
  split
  · rename_i ho; simpa [ho] using h
  · rename_i o ho
    simp only [ho] at h
    split
    · rename_i hw
      simp only [hw, if_true] at h
      rcases h with h | ⟨_, h⟩
      · exact .inl (up _ _ h)
      · exact (not_letsOut h).elim
    · rename_i hw
      simpa [hw] using h
theorem wpAny_of_RL (L : Later R) {QN : Act → World → Prop} {Q' : Exit → Act → World → Prop} {g : Nat} (hF : ∀ listed a w, F listed a w → wpAny P md ops Q' g listed a w) :
    ∀ (f : Nat) (listed : Array Bool) (a : Act) (wc : World), wpAnyRL P md ops R (onlyN QN) n F f listed a wc → ∀ w, R wc w → wpAny P md ops Q' (f + g) listed a w
  | 0, listed, a, wc, h, w, hw => by rw [Nat.zero_add]; exact hF _ _ _ (h w hw)
  | f + 1, listed, a, wc, h, w, hw => by
    rw [show f + 1 + g = (f + g) + 1 by omega]
    exact ⟨fun h0 => absurd h0 h.1, fun i hi => wpOp_exit (QN := QN) (wpOp_mono (fun a' w' h' => wpAny_of_RL L hF f _ a' w' h'.2 w' (L.refl _)) ((h.2 i hi).2 w hw))⟩
theorem wpAnyRL_first (L : Later R) {QN : Act → World → Prop} {i : Nat} {oi : Oper} {v : Value} (hi : ops[i]? = some oi) (hsel : ∀ (j : Nat) (o : Oper) cs b, ops[j]? = some o → o.op ≠ .select cs b)
    (hs : Region.sinkB md ops n = true) (hc : Region.chainB md ops n = true) (hn : n < ops.size) (hin : i < n)
    (hdone : ∀ listed a w, F listed a w → ∀ j ∈ Region.ready md ops listed, n ≤ j) :
    ∀ (f : Nat) (listed : Array Bool) (a : Act) (wc : World), HeadInv md ops n listed →
      (∀ j oj, ops[j]? = some oj → j ≠ i → listed.getD j true = false → (∀ e ∈ oj.after, Region.binds md e = true → e.on ≠ i) → oi.apart ops oj = true) →
      i ∈ Region.ready md ops listed → YieldsR P ops R oi v a wc →
      wpAnyRL P md ops R (onlyN QN) n F f (listed.setIfInBounds i true) (a.put oi.dst v) wc → wpAnyRL P md ops R (onlyN QN) n F (f + 1) listed a wc := by
  intro f
  induction f with
  | zero =>
    intro listed a wc inv _ hr hy H
    have hun := (mem_ready.1 hr).1
    refine ⟨fun h => (by rw [h] at hr; cases hr), fun j hj => ?_⟩
    have hjn : j < n := by
      rcases Nat.lt_or_ge j n with h | h
      · exact h
      · exact absurd hj (tail_waits hs hc hn inv _ i rfl hin hun j h)
    refine ⟨hjn, fun w hw => ?_⟩
    by_cases hji : j = i
    · subst hji; exact hy.wpOp L hi hw fun w' h' => ⟨h', wpAnyRL_mono L _ _ _ _ _ (L.trans hw h') H⟩
    · have := hdone _ _ _ (H w hw) j (ready_mono hj hji)
      omega
  | succ f ih =>
    intro listed a wc inv hfree hr hy H
    have hun := (mem_ready.1 hr).1
    refine ⟨fun h => (by rw [h] at hr; cases hr), fun j hj => ?_⟩
    have hjn : j < n := by
      rcases Nat.lt_or_ge j n with h | h
      · exact h
      · exact absurd hj (tail_waits hs hc hn inv _ i rfl hin hun j h)
    refine ⟨hjn, fun w hw => ?_⟩
    by_cases hji : j = i
    · subst hji; exact hy.wpOp L hi hw fun w' h' => ⟨h', wpAnyRL_mono L _ _ _ _ _ (L.trans hw h') H⟩
    · have h1 := (H.2 j (ready_mono hj hji)).2 w hw
      obtain ⟨hjun, oj, hoj, hall⟩ := mem_ready.1 hj
      have hnot : ∀ e ∈ oj.after, Region.binds md e = true → e.on ≠ i := fun e he hb heq => by
        have h1 := hall e he hb
        rw [heq, getD_both hun] at h1
        cases h1
      have h2 := wpOp_putR hoj (hfree j oj hoj hji hjun hnot) (fun cs b => hsel i oi cs b hi) (fun cs b => hsel j oj cs b hoj) (fun _ _ _ h => h) hy h1
      have hfree' : ∀ k ok, ops[k]? = some ok → k ≠ i → (listed.setIfInBounds j true).getD k true = false →
          (∀ e ∈ ok.after, Region.binds md e = true → e.on ≠ i) → oi.apart ops ok = true := fun k ok hk hki hun hno => by
        refine hfree k ok hk hki ?_ hno
        by_cases hjk : j = k
        · subst hjk; exact hjun
        · rw [getD_set_ne true hjk] at hun; exact hun
      refine wpOp_mono (fun a' w' h3 => ⟨h3.2.1, ih (listed.setIfInBounds j true) a' w' (inv.set hj hjn) hfree' (ready_mono hr (Ne.symm hji)) (h3.1.mono L (L.trans hw h3.2.1)) ?_⟩) h2
      rw [Array.setIfInBounds_comm _ _ hji]
      exact h3.2.2
theorem wpAnyRL_lex (L : Later R) {QN : Act → World → Prop} {g : Nat} (hsel : Region.noSelect ops = true) (hs : Region.sinkB md ops n = true) (hc : Region.chainB md ops n = true) (hn : n < ops.size) :
    ∀ (l : List Oper) (k : Nat) (listed : Array Bool) (a : Act) (wc : World), (∀ j, j < l.length → l[j]? = ops[k + j]?) → k + l.length = n → HeadInv md ops n listed →
    Region.lexHead md ops g l.length k listed = true → wpLx P md ops R (onlyN QN) l k listed a wc →
    wpAnyRL P md ops R (onlyN QN) n (fun listed' a' w' => Region.seqB md ops g n listed' = true ∧ QN a' w') l.length listed a wc
  | [], k, listed, a, wc, _, hk, _, hB, h => by
    have : k = n := by simpa using hk
    subst this
    exact fun w hw => ⟨by simpa [Region.lexHead] using hB, h w hw⟩
  | o :: l, k, listed, a, wc, hl, hk, inv, hB, h => by
    have h0 : ops[k]? = some o := by simpa using (hl 0 (by simp)).symm
    simp only [List.length_cons, Region.lexHead, Bool.and_eq_true] at hB
    obtain ⟨⟨hr, hf⟩, hB'⟩ := hB
    have hkn : k < n := by simp only [List.length_cons] at hk; omega
    have hr' : k ∈ Region.ready md ops listed := by simpa using hr
    have hl' : ∀ j, j < l.length → l[j]? = ops[k + 1 + j]? := fun j hj => by have := hl (j + 1) (by simp; omega); simpa [Nat.add_assoc, Nat.add_comm 1 j] using this
    have hk' : k + 1 + l.length = n := by simp only [List.length_cons] at hk; omega
    rcases h with ⟨v, hy, hK⟩ | ⟨hone, hK⟩
    · exact wpAnyRL_first L h0 (Region.noSelect_spec hsel) hs hc hn hkn (fun listed' a' w' hL => seqB_ready hL.1) l.length listed a wc inv (Region.free_spec h0 hf) hr' hy
        (wpAnyRL_lex L hsel hs hc hn l (k + 1) _ _ _ hl' hk' (inv.set hr' hkn) hB' hK)
    · refine ⟨fun h0 => (by rw [h0] at hone; cases hone), fun i hi => ?_⟩
      rw [hone] at hi
      have hik : i = k := by simpa using hi
      subst hik
      exact ⟨hkn, fun w hw => wpOp_mono (fun a' w' h' => ⟨h'.1, wpAnyRL_lex L hsel hs hc hn l (i + 1) _ _ _ hl' hk' (inv.set hr' hkn) hB' h'.2⟩) (hK w hw)⟩
theorem wp_region_lxt (L : Later R) (n : Nat) {id : Nat} {a : Act} {w : World} {l : List Oper} (hm : P.follows .mixedOrders = true) (hB : Region.lexTailB .any l.toArray n = true)
    (h : wpLx P .any l.toArray R (onlyN (fun a w => wpList P l.toArray Q (l.drop n) a w)) (l.take n) 0 (Array.replicate l.length false) a w.drew) : (Code.region id l.toArray true).wp P Q a w := by
  simp only [Region.lexTailB, Bool.and_eq_true, decide_eq_true_eq] at hB
  obtain ⟨⟨⟨⟨hsel, hn⟩, hs⟩, hc⟩, hlex⟩ := hB
  have hn' : n < l.length := by simpa using hn
  have htl : (l.take n).length = n := by simp; omega
  have hdl : (l.drop n).length = l.toArray.size - n := by simp
  have inv0 : HeadInv .any l.toArray n (Array.replicate l.toArray.size false) :=
    ⟨by simp, fun j oj _ hl => (by rw [getD_replicate_false] at hl; cases hl), fun t _ ht => getD_in (by simpa using ht) (getD_replicate_false _ _)⟩
  have H := wpAnyRL_lex (md := .any) (g := l.toArray.size - n) L hsel hs hc hn (l.take n) 0 (Array.replicate l.toArray.size false) a w.drew (fun j hj => by
    have hj' : j < n := by rw [htl] at hj; exact hj
    simp [hj']) (by simpa using htl) inv0 (by rw [htl]; exact hlex) (by simpa using h)
  refine wp_region_any hm ?_
  have := wpAny_of_RL (Q' := Q) (g := l.toArray.size - n) L (fun listed a' w' hL => by
    have := wpAny_of_seq (md := .any) (Q' := Q) (l.drop n) n listed a' w' (fun j => by simp [List.getElem?_drop]) (by rw [hdl]; exact hL.1) hL.2
    rwa [hdl] at this) _ _ _ _ H _ (L.refl _)
  rw [htl, show n + (l.toArray.size - n) = l.toArray.size by omega] at this
  exact this
end
end Go.Proofs.Ytideigpabbhhkaa
/- Arithmetic on casts of natural numbers, run; binOp in drawn regions. -/
namespace Go.Proofs.Ytideigpabbhhkaa
set_option linter.unusedVariables false
set_option linter.unusedSimpArgs false
open Go.RowKit
theorem guardN (op : BinOp) (x y : Operand) (v w : Int) (W : World) : (eqGuard op 3 x y (.int .i64 v) (.int .i64 w)).run Try.prog W = .ok () W := by
  cases op <;> go_simp
theorem run_quoN (i d : Nat) (h : i < 1000000000000) (hd : 0 < d) (W : World) : (binOp .quo 3 (.int .i64 (i : Int)) (.int .i64 (d : Int))).run Try.prog W = .ok (.int .i64 ((i / d : Nat) : Int)) W := by
  have h0 : (0 : Int) ≤ (i : Int) := by omega
  have h1 : ¬ d = 0 := by omega
  have h2 : (i / d : Nat) ≤ i := Nat.div_le_self _ _
  have h5 : ∀ q : Nat, q ≤ i → IntKind.i64.wrap (q : Int) = (q : Int) := fun q hq => IntWalk.i64_in _ (by omega)
  have h4 : IntKind.i64.wrap ((i : Int) / (d : Int)) = (i : Int) / (d : Int) := by rw [← Int.natCast_ediv]; exact h5 _ h2
  have h3 : (Int.tdiv (i : Int) (d : Int)) = (i : Int) / (d : Int) := Int.tdiv_eq_ediv_of_nonneg h0
  go_simp
theorem run_remN (i d : Nat) (h : i < 1000000000000) (hd : 0 < d) (W : World) : (binOp .rem 3 (.int .i64 (i : Int)) (.int .i64 (d : Int))).run Try.prog W = .ok (.int .i64 ((i % d : Nat) : Int)) W := by
  have h0 : (0 : Int) ≤ (i : Int) := by omega
  have h1 : ¬ d = 0 := by omega
  have h3 : (Int.tmod (i : Int) (d : Int)) = (i : Int) % (d : Int) := Int.tmod_eq_emod_of_nonneg h0
  go_simp
theorem run_mulN (i d k : Nat) (h : i * d = k) (hk : k < 1000000000000) (W : World) : (binOp .mul 3 (.int .i64 (i : Int)) (.int .i64 (d : Int))).run Try.prog W = .ok (.int .i64 (k : Int)) W := by
  have h4 : IntKind.i64.wrap ((i : Int) * (d : Int)) = (k : Int) := by rw [← Int.natCast_mul, h]; exact IntWalk.i64_in _ (by omega)
  go_simp
theorem run_addN (i d : Nat) (h : i + d < 1000000000000) (W : World) : (binOp .add 3 (.int .i64 (i : Int)) (.int .i64 (d : Int))).run Try.prog W = .ok (.int .i64 ((i + d : Nat) : Int)) W := by
  have h4 : IntKind.i64.wrap ((i : Int) + (d : Int)) = ((i + d : Nat) : Int) := by rw [← Int.natCast_add]; exact IntWalk.i64_in _ (by omega)
  go_simp
theorem run_subN (i d : Nat) (h : i < 1000000000000) (h2 : d ≤ i) (W : World) : (binOp .sub 3 (.int .i64 (i : Int)) (.int .i64 (d : Int))).run Try.prog W = .ok (.int .i64 ((i - d : Nat) : Int)) W := by
  have h4 : IntKind.i64.wrap ((i : Int) - (d : Int)) = ((i - d : Nat) : Int) := by rw [← Int.natCast_sub h2]; exact IntWalk.i64_in _ (by omega)
  go_simp
section
variable {P : Program} {md : Region.Mode} {ops : Array Oper} {R : World → World → Prop} {Q : Exit → Act → World → Prop} {rest : List Oper} {o : Oper} {k : Nat} {listed : Array Bool} {a : Act} {wc : World}
theorem lx_binOp (hw : Region.wanted o (yielded ops a.tmps) = true) (op : BinOp) (t : TypeId) (x y : Operand) (t2 : TypeId) (ho : o.op = .binOp op t x y t2) (vx vy : Value) (hx : a.eval x = vx) (hy : a.eval y = vy) (v : Value)
    (hg : ∀ w, (eqGuard op t x y vx vy).run P w = .ok () w) (hr : ∀ w, (binOp op t vx vy).run P w = .ok v w) (h : wpLx P md ops R Q rest (k + 1) (listed.setIfInBounds k true) (a.put o.dst v) wc) : wpLx P md ops R Q (o :: rest) k listed a wc :=
  lx_run hw v (fun w => by simp [execOp, ho, hx, hy, hg, hr]) h
end
theorem run_loadN (W : World) (p : Addr) (z : Int) (h : W.cell? p = some (.int .i64 z)) : (Instr.loadAt 3 (.pointer (some p))).run Try.prog W = .ok (.int .i64 z) W := by
  go_simp
end Go.Proofs.Ytideigpabbhhkaa
/- A load of a whole row or struct at any address (a slice's element of many cells). -/
namespace Go.Proofs.Ytideigpabbhhkaa
set_option linter.unusedVariables false
set_option linter.unusedSimpArgs false
open Go.RowKit
/-- the cells cs lie from address p on -/
def CellsAt (w : World) (p : Addr) (cs : List Value) : Prop := ∀ j v, cs[j]? = some v → w.cell? (p.add j) = some v
section
variable {P : Program}
theorem run_loadVar_any (w : World) (p : Addr) (ty : TypeId) (cs : List Value) (d : TypeDesc) (hc : CellsAt w p cs) (hu : P.underlying ty = some d) (hd : d.isRow = true) (hi : (P.info? ty).map (·.size) = some cs.length) :
    (loadVar ty p).run P w = .ok (.agg cs.toArray) w := by
  have hl : (loadCells p cs.length).run P w = .ok cs.toArray w := run_loadCells_list (P := P) w p cs hc
  cases hq : P.info? ty with
  | none => simp [hq] at hi
  | some i =>
    have hs : i.size = cs.length := by simpa [hq] using hi
    have hagg : (isAgg ty).run P w = .ok true w := by
      unfold isAgg
      rw [Sem.run_bind, run_underlying hu w]
      cases d <;> simp_all
    simp [loadVar, Sem.run_bind, hagg, sizeOf, typeInfo, hq, hs, hl]
theorem wpList_load_any {ops : Array Oper} {rest : List Oper} {op : Oper} {a : Act} {w : World} {Q : Exit → Act → World → Prop} (hw : Region.wanted op (yielded ops a.tmps) = true) (ty : TypeId) (x : Operand) (ho : op.op = .load ty x)
    (p : Addr) (hx : a.eval x = .pointer (some p)) (cs : List Value) (d : TypeDesc) (hc : CellsAt w p cs) (hu : P.underlying ty = some d) (hd : d.isRow = true) (hi : (P.info? ty).map (·.size) = some cs.length)
    (h : wpList P ops Q rest (a.put op.dst (.agg cs.toArray)) w) : wpList P ops Q (op :: rest) a w :=
  wpList_wanted hw fun _ hK => by
    unfold Oper.wp execOp
    simp only [ho, hx, Instr.loadAt, Instr.sureAddr, Sem.run_bind, Sem.run_pure, Result.andThen_ok, run_loadVar_any w p ty cs d hc hu hd hi]
    exact hK _ _ h
theorem lx_load_any {md : Region.Mode} {ops : Array Oper} {R : World → World → Prop} {Q : Exit → Act → World → Prop} {rest : List Oper} {o : Oper} {k : Nat} {listed : Array Bool} {a : Act} {wc : World} (hw : Region.wanted o (yielded ops a.tmps) = true) (ty : TypeId) (x : Operand) (ho : o.op = .load ty x)
    (p : Addr) (hx : a.eval x = .pointer (some p)) (cs : List Value) (d : TypeDesc) (hc : ∀ w, R wc w → CellsAt w p cs) (hu : P.underlying ty = some d) (hd : d.isRow = true) (hi : (P.info? ty).map (·.size) = some cs.length)
    (h : wpLx P md ops R Q rest (k + 1) (listed.setIfInBounds k true) (a.put o.dst (.agg cs.toArray)) wc) : wpLx P md ops R Q (o :: rest) k listed a wc := by
  refine lx_read hw _ (fun w hC => ?_) h
  unfold execOp
  simp only [ho, hx, Instr.loadAt, Instr.sureAddr, Sem.run_bind, Sem.run_pure, Result.andThen_ok, run_loadVar_any w p ty cs d (hc w hC) hu hd hi]
end
/-- the k-th part of a slice whose elements have sz cells -/
theorem SL.part {w : World} {sz n c : Nat} {A : Option Addr} {xs : List Value} (h : SL w sz (.slice A n c) n xs) {k : Nat} (hk : k < n) : ∃ ad, A = some ad ∧ ad.block < w.heap.size ∧ CellsAt w (ad.add (k * sz)) ((xs.drop (k * sz)).take sz) := by
  obtain ⟨A', c', he, -, -, hl, hf⟩ := h
  injection he with e1 e2 e3
  subst e1
  obtain ⟨ad, rfl, hb, hcell⟩ := hf (by omega)
  refine ⟨ad, rfl, hb, fun j v hv => ?_⟩
  rw [add_of_add]
  have hj : j < sz := by have := (List.getElem?_eq_some_iff.1 hv).1; simp at this; omega
  rw [List.getElem?_take_of_lt hj, List.getElem?_drop] at hv
  exact hcell _ _ hv
end Go.Proofs.Ytideigpabbhhkaa
/- Plain arithmetic: rounding, clamping. -/
namespace Go.Proofs.Ytideigpabbhhkaa
set_option linter.unusedVariables false
set_option linter.unusedSimpArgs false
/-- rounding of a number not below 0 -/
def rp (n d : Int) : Int := (2 * n + d) / (2 * d)
def rnd (n d : Int) : Int := if n < 0 then -(rp (-n) d) else rp n d
theorem rp_bounds (n d : Int) (h0 : 0 ≤ n) (hd : 1 ≤ d) : 0 ≤ rp n d ∧ rp n d ≤ n + 1 := by
  unfold rp
  constructor
  · exact Int.ediv_nonneg (by omega) (by omega)
  · have h1 : (2 * n + d) / (2 * d) * (2 * d) ≤ 2 * n + d := Int.ediv_mul_le _ (by omega)
    generalize (2 * n + d) / (2 * d) = q at *
    refine Int.not_lt.1 fun hq => ?_
    have h2 : (n + 2) * (2 * d) ≤ q * (2 * d) := Int.mul_le_mul_of_nonneg_right (by omega) (by omega)
    have h3 : n * 2 ≤ n * (2 * d) := Int.mul_le_mul_of_nonneg_left (by omega) h0
    rw [Int.add_mul] at h2
    omega
theorem rp_eq (n d : Int) (hd : 1 ≤ d) : rp n d = n / d + (if d ≤ 2 * (n % d) then 1 else 0) := by
  have e := Int.mul_ediv_add_emod n d
  have r0 := Int.emod_nonneg n (show d ≠ 0 by omega)
  have r1 := Int.emod_lt_of_pos n (show 0 < d by omega)
  unfold rp
  have e2 : 2 * n + d = (2 * (n % d) + d) + (2 * d) * (n / d) := by
    have : 2 * d * (n / d) = 2 * (d * (n / d)) := Int.mul_assoc _ _ _
    omega
  rw [e2, Int.add_mul_ediv_left _ _ (by omega)]
  have : (2 * (n % d) + d) / (2 * d) = if d ≤ 2 * (n % d) then 1 else 0 := by
    split
    · have e3 : 2 * (n % d) + d = (2 * (n % d) - d) + (2 * d) * 1 := by omega
      rw [e3, Int.add_mul_ediv_left _ _ (by omega), Int.ediv_eq_zero_of_lt (by omega) (by omega)]
      rfl
    · exact Int.ediv_eq_zero_of_lt (by omega) (by omega)
  rw [this]; omega
theorem rnd_bounds (n d : Int) (hd : 1 ≤ d) : -(n.natAbs : Int) - 1 ≤ rnd n d ∧ rnd n d ≤ n.natAbs + 1 := by
  unfold rnd
  split
  · have := rp_bounds (-n) d (by omega) hd; omega
  · have := rp_bounds n d (by omega) hd; omega
def clampZ (n lo hi : Int) : Int := if n < lo then lo else if hi < n then hi else n
theorem clampZ_bounds (n lo hi : Int) (h : lo ≤ hi) : lo ≤ clampZ n lo hi ∧ clampZ n lo hi ≤ hi := by
  unfold clampZ; split <;> (try split) <;> omega
theorem min_max (n lo hi : Int) (h : lo ≤ hi) : min (max n lo) hi = clampZ n lo hi := by
  unfold clampZ; split <;> (try split) <;> omega
/-- within bounds? -/
def inB (n lo hi : Int) : Bool := decide (lo ≤ n ∧ n ≤ hi)
theorem inB_iff {n lo hi : Int} : inB n lo hi = true ↔ lo ≤ n ∧ n ≤ hi := by simp [inB]
theorem inB_not {n lo hi : Int} : inB n lo hi = false ↔ n < lo ∨ hi < n := by rw [← Bool.not_eq_true, inB_iff]; omega
/-- are all within bounds? -/
def allIn (zs : List Int) (lo hi : Int) : Bool := zs.all fun z => inB z lo hi
theorem allIn_iff {zs : List Int} {lo hi : Int} : allIn zs lo hi = true ↔ ∀ z ∈ zs, lo ≤ z ∧ z ≤ hi := by simp [allIn, inB_iff]
theorem allIn_no {zs : List Int} {lo hi : Int} {k : Nat} (hk : k < zs.length) (h : inB zs[k] lo hi = false) : allIn zs lo hi = false := by
  rw [← Bool.not_eq_true, allIn_iff]
  intro hh
  have := inB_iff.2 (hh _ (List.getElem_mem hk))
  rw [this] at h; cases h
theorem allIn_not {zs : List Int} {lo hi : Int} : (!zs.any fun z => decide (z < lo) || decide (hi < z)) = allIn zs lo hi := by
  rw [Bool.eq_iff_iff, allIn_iff]
  simp only [Bool.not_eq_true', List.any_eq_false, Bool.or_eq_true, decide_eq_true_eq]
  exact ⟨fun h z hz => by have := h z hz; omega, fun h z hz => by have := h z hz; omega⟩
theorem inB_any {zs : List Int} {lo hi : Int} : (zs.any fun z => !inB z lo hi) = !allIn zs lo hi := by
  simp [allIn, List.all_eq_not_any_not]
end Go.Proofs.Ytideigpabbhhkaa
/- Rows of integers by value: general facts. -/
namespace Go.Proofs.Ytideigpabbhhkaa
set_option linter.unusedVariables false
set_option linter.unusedSimpArgs false
open Go.RowKit
theorem sizeInt : (Try.prog.info? 3).map (·.size) = some 1 := by kernel_rfl
/-- a block of 64 numbers, as a value -/
def bv (zs : List Int) : Array Value := (ints zs).toArray
theorem bv_size (zs : List Int) : (bv zs).size = zs.length := by simp [bv, ints_len]
theorem bv_at (zs : List Int) (k : Nat) (h : k < zs.length) : (bv zs)[k]? = some (.int .i64 zs[k]) := by simp [bv, ints, h]
theorem bv_one (zs : List Int) : (bv zs).all (·.oneCell') = true := by
  simp only [bv, Array.all_eq_true_iff_forall_mem]
  intro v hv
  simp only [List.mem_toArray, ints, List.mem_map] at hv
  obtain ⟨z, -, rfl⟩ := hv
  rfl
theorem bv_set (zs : List Int) (k : Nat) (z : Int) : (bv zs).setIfInBounds k (.int .i64 z) = bv (zs.set k z) := by
  simp [bv, ints, List.map_set]
theorem Blk.bsl {w : World} {g : Nat} {T : TypeId} {zs : List Int} {c : Nat} (h : Blk w g T (bv zs)) (hc : zs.length ≤ c) (hc2 : c ≤ 9223372036854775807) :
    SL w 1 (.slice (some ⟨g, 0, none⟩) zs.length c) zs.length (Go.Proofs.Ytideigpabbhhkaa.ints zs) := by
  have := h.sl (size := 1) (n := zs.length) (c := c) (by simp [bv_size]) hc hc2
  simpa [bv] using this
theorem allIn_take {zs : List Int} {lo hi : Int} {k : Nat} (h : ∀ z ∈ zs.take k, lo ≤ z ∧ z ≤ hi) (hk : k < zs.length) (hz : lo ≤ zs[k] ∧ zs[k] ≤ hi) : ∀ z ∈ zs.take (k + 1), lo ≤ z ∧ z ≤ hi := by
  rw [List.take_succ_eq_append_getElem hk]
  intro z hz'
  rcases List.mem_append.1 hz' with h1 | h1
  · exact h z h1
  · simp at h1; subst h1; exact hz
end Go.Proofs.Ytideigpabbhhkaa
namespace Go.Proofs.Ytideigpabbhhkaa
set_option linter.unusedVariables false
set_option linter.unusedSimpArgs false
open Go.RowKit
theorem outside_any (n lo hi : Int) (w : World) :
    Calls Try.prog 20 #[.int .i64 n, .int .i64 lo, .int .i64 hi] w fun e w' => e = .returned (.bool (!inB n lo hi)) ∧ w = w' := by
  by_cases h : n < lo
  · have h' : decide (n < lo) = true := by simpa using h
    have e : (!inB n lo hi) = true := by rw [inB_not.2 (Or.inl h)]; rfl
    rw [e]; clear e
    go_enter Try.func20, Try.ntmps20
    go_wp2
    go_ret
    exact ⟨rfl, rfl⟩
  · have h' : decide (n < lo) = false := by simpa using h
    have e : (!inB n lo hi) = decide (hi < n) := by rw [Bool.eq_iff_iff, Bool.not_eq_true', inB_not]; simp; omega
    rw [e]; clear e
    go_enter Try.func20, Try.ntmps20
    go_wp2
    go_ret
    exact ⟨rfl, rfl⟩
end Go.Proofs.Ytideigpabbhhkaa
