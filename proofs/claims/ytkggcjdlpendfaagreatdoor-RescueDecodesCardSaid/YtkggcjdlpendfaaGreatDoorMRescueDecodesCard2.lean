/- Contracts for the law RescueDecodesCard, part 2: what the functions that it reaches answer, for all arguments that the theorems name. -/
import Derived.Deep.QuietTactic
import Derived.Test.YtkggcjdlpendfaaGreatDoorMRescueDecodesCard1
import Derived.StillTail
import Derived.Maps.AppendAt
import Derived.Great.Walk
namespace Go.Proofs.YtkggcjdlpendfaaGreatDoor
set_option linter.unusedVariables false
set_option linter.unusedSimpArgs false
open Go.RowKit
structure Later (R : World → World → Prop) : Prop where
 refl : ∀ w, R w w
 trans : ∀ {a b c}, R a b → R b c → R a c
theorem later_ext : Later Ext := ⟨Ext.refl, fun h k => Ext.trans h k⟩
section
variable {P : Program} {ops : Array Oper} {md : Region.Mode} {R : World → World → Prop}
def YieldsR (P : Program) (ops : Array Oper) (R : World → World → Prop) (o : Oper) (v : Value) (a : Act) (wc : World) : Prop :=
 (Region.wanted o (yielded ops a.tmps) = true ∧ ∀ w, R wc w → o.quietAt P a (R w) w v) ∨ (Region.wanted o (yielded ops a.tmps) = false ∧ v = undef)
theorem YieldsR.mono (L : Later R) {o : Oper} {v : Value} {a : Act} {wc w : World} (h : YieldsR P ops R o v a wc) (hw : R wc w) : YieldsR P ops R o v a w :=
 h.imp (fun ⟨h1, h2⟩ => ⟨h1, fun w' h' => h2 w' (L.trans hw h')⟩) id
theorem YieldsR.of_same {o : Oper} {v : Value} {a a' : Act} {wc : World} (hy : YieldsR P ops R o v a wc) (he : execOp a'.eval o = execOp a.eval o)
 (hw : Region.wanted o (yielded ops a'.tmps) = Region.wanted o (yielded ops a.tmps)) : YieldsR P ops R o v a' wc := by
 unfold YieldsR Oper.quietAt at *
 rw [he, hw]
 exact hy
theorem wp_of_quietAt (L : Later R) {o : Oper} {a : Act} {v : Value} {w : World} {K : Act → World → Prop} {Q : Exit → Act → World → Prop} (h : o.quietAt P a (R w) w v) (hk : ∀ w', R w w' → K (a.put o.dst v) w') : o.wp P a w K Q := by
 unfold Oper.quietAt at h
 unfold Oper.wp
 generalize (execOp a.eval o).run P w = r at *
 cases r with
 | ok n w' =>
   cases n <;> simp only [Oper.quietUpon] at h <;> simp only [Oper.upon]
   case value u =>
    obtain ⟨e1, e2⟩ := h
    rw [e1, e2]
    exact hk _ (L.refl _)
   case skip =>
    obtain ⟨e1, e2⟩ := h
    rw [e1, ← e2]
    exact hk _ (L.refl _)
   case enter f args =>
    obtain ⟨e1, hc⟩ := h
    rw [e1]
    exact hc.mono fun e w'' ⟨he, hw''⟩ => by subst he; exact hk _ hw''
 | halt x w' => simp only [Oper.quietUpon] at h
theorem YieldsR.wpOp (L : Later R) {i : Nat} {o : Oper} {v : Value} {a : Act} {wc w : World} {Q : Exit → Act → World → Prop} (hi : ops[i]? = some o) (hy : YieldsR P ops R o v a wc) (hw : R wc w)
 {K : Act → World → Prop} (h : ∀ w', R w w' → K (a.put o.dst v) w') : wpOp P ops Q i K a w := by
 unfold Go.wpOp
 simp only [hi]
 rcases hy with ⟨h1, h2⟩ | ⟨h1, rfl⟩
 ·simp only [h1, if_true]
  exact .inl (wp_of_quietAt L (h2 w hw) h)
 ·simp only [h1, Bool.false_eq_true, if_false]
  exact h _ (L.refl _)
theorem wpOp_putR {j : Nat} {oi oj : Oper} {v : Value} {wc : World} {Q : Exit → Act → World → Prop} (hj : ops[j]? = some oj) (hap : oi.apart ops oj = true)
 (hsi : ∀ cs b, oi.op ≠ .select cs b) (hsj : ∀ cs b, oj.op ≠ .select cs b)
 (hQ : ∀ c a w, Q (.panic c) (a.put oi.dst v) w → Q (.panic c) a w) {K : Act → World → Prop} {a : Act} {w : World}
 (hy : YieldsR P ops R oi v a wc) (h : wpOp P ops Q j K (a.put oi.dst v) w) :
 wpOp P ops Q j (fun a' w' => YieldsR P ops R oi v a' wc ∧ K (a'.put oi.dst v) w') a w := by
 obtain ⟨h1, h2, h3⟩ := Oper.apart_spec hap
 have keep : ∀ (a : Act), YieldsR P ops R oi v a wc → ∀ u, YieldsR P ops R oi v (a.put oj.dst u) wc := fun a hy u =>
  hy.of_same (execOp_put oi hsi a oj.dst u h3) (wanted_put oi a oj.dst u h3)
 have keepD : ∀ d, YieldsR P ops R oi v { a with defers := d :: a.defers } wc := fun d => hy.of_same rfl rfl
 unfold wpOp at *
 simp only [hj] at *
 rw [wanted_put oj a oi.dst v h1] at h
 split
 ·rename_i hw
  simp only [hw, if_true] at h
  rcases h with h | ⟨hasks, hlets⟩
  case inr => exact .inr ⟨by unfold Oper.asks at *; rw [execOp_put oj hsj a oi.dst v h1] at hasks; exact hasks, hlets⟩
  refine .inl ?_
  unfold Oper.wp at *
  rw [execOp_put oj hsj a oi.dst v h1] at h
  generalize (execOp a.eval oj).run P w = r at *
  cases r with
  | ok n w' =>
    cases n <;> simp only [Oper.upon] at h ⊢
    case value u => exact ⟨keep a hy u, by rw [← Act.put_comm a v u h2]; exact h⟩
    case skip => exact ⟨keep a hy _, by rw [← Act.put_comm a v undef h2]; exact h⟩
    case defer d =>
     refine ⟨keep _ (keepD d) _, ?_⟩
     rw [← Act.put_comm _ v undef h2, ← Act.put_defers]
     exact h
    case enter f args =>
     refine Calls.mono h fun e w'' he => ?_
     cases e with
     | returned u => exact ⟨keep a hy u, by rw [← Act.put_comm a v u h2]; exact he⟩
     | panicked c => exact hQ _ _ _ he
     | outgrown => exact he
    case row row args => exact Rows.mono h fun u w'' he => ⟨keep a hy u, by rw [← Act.put_comm a v u h2]; exact he⟩
  | halt x w' =>
    cases x <;> simp only [Oper.upon] at h ⊢
    case panic u => exact hQ _ _ _ h
 ·rename_i hw
  simp only [hw] at h
  exact ⟨keep a hy _, by rw [← Act.put_comm a v undef h2]; exact h⟩
def wpAnyR (P : Program) (md : Region.Mode) (ops : Array Oper) (R : World → World → Prop) (Q : Exit → Act → World → Prop) : Nat → Array Bool → Act → World → Prop
 | 0, listed, a, wc => Region.ready md ops listed = [] ∧ ∀ w, R wc w → Q .normal a w
 | f + 1, listed, a, wc => (Region.ready md ops listed = [] → ∀ w, R wc w → Q .normal a w) ∧
   ∀ i ∈ Region.ready md ops listed, ∀ w, R wc w → wpOp P ops Q i (fun a' w' => R w w' ∧ wpAnyR P md ops R Q f (listed.setIfInBounds i true) a' w') a w
variable {Q : Exit → Act → World → Prop}
theorem wpAnyR_mono (L : Later R) : ∀ (f : Nat) (listed : Array Bool) (a : Act) (wc w : World), R wc w → wpAnyR P md ops R Q f listed a wc → wpAnyR P md ops R Q f listed a w
 | 0, _, _, _, _, hw, h => ⟨h.1, fun w' h' => h.2 w' (L.trans hw h')⟩
 | _ + 1, _, _, _, _, hw, h => ⟨fun h0 w' h' => h.1 h0 w' (L.trans hw h'), fun i hi w' h' => h.2 i hi w' (L.trans hw h')⟩
theorem wpAny_of_R (L : Later R) : ∀ (f : Nat) (listed : Array Bool) (a : Act) (wc w : World), R wc w → wpAnyR P md ops R Q f listed a wc → wpAny P md ops Q f listed a w
 | 0, _, _, _, _, hw, h => ⟨h.1, h.2 _ hw⟩
 | f + 1, _, _, _, _, hw, h => ⟨fun h0 => h.1 h0 _ hw, fun i hi => wpOp_mono (fun a' w' h' => wpAny_of_R L f _ a' w' w' (L.refl _) h'.2) (h.2 i hi _ hw)⟩
theorem wpAnyR_first (L : Later R) {i : Nat} {oi : Oper} {v : Value} (hi : ops[i]? = some oi) (hsel : ∀ (j : Nat) (o : Oper) cs b, ops[j]? = some o → o.op ≠ .select cs b)
 (hQ : ∀ c a w, Q (.panic c) (a.put oi.dst v) w → Q (.panic c) a w) :
 ∀ (fuel : Nat) (listed : Array Bool) (a : Act) (wc : World),
  (∀ j oj, ops[j]? = some oj → j ≠ i → listed.getD j true = false → (∀ e ∈ oj.after, Region.binds md e = true → e.on ≠ i) → oi.apart ops oj = true) →
  i ∈ Region.ready md ops listed → YieldsR P ops R oi v a wc →
  wpAnyR P md ops R Q fuel (listed.setIfInBounds i true) (a.put oi.dst v) wc → wpAnyR P md ops R Q (fuel + 1) listed a wc := by
 intro fuel
 induction fuel with
 | zero =>
   intro listed a wc _ hr hy H
   refine ⟨fun h => (by rw [h] at hr; cases hr), fun j hj w hw => ?_⟩
   by_cases hji : j = i
   ·subst hji; exact hy.wpOp L hi hw fun w' h' => ⟨h', wpAnyR_mono L _ _ _ _ _ (L.trans hw h') H⟩
   ·have := ready_mono hj hji
    rw [H.1] at this
    cases this
 | succ fuel ih =>
   intro listed a wc hfree hr hy H
   refine ⟨fun h => (by rw [h] at hr; cases hr), fun j hj w hw => ?_⟩
   by_cases hji : j = i
   ·subst hji; exact hy.wpOp L hi hw fun w' h' => ⟨h', wpAnyR_mono L _ _ _ _ _ (L.trans hw h') H⟩
   ·have h1 := H.2 j (ready_mono hj hji) w hw
    obtain ⟨hjun, oj, hoj, hall⟩ := mem_ready.1 hj
    have hnot : ∀ e ∈ oj.after, Region.binds md e = true → e.on ≠ i := fun e he hb heq => by
     have h1 := hall e he hb
     have h0 := (mem_ready.1 hr).1
     rw [heq] at h1
     rcases Nat.lt_or_ge i listed.size with h' | h'
     ·simp [h'] at h0 h1; rw [h0] at h1; cases h1
     ·simp [Array.getElem?_eq_none h'] at h1
    have h2 := wpOp_putR hoj (hfree j oj hoj hji hjun hnot) (fun cs b => hsel i oi cs b hi) (fun cs b => hsel j oj cs b hoj) hQ hy h1
    have hfree' : ∀ k ok, ops[k]? = some ok → k ≠ i → (listed.setIfInBounds j true).getD k true = false →
     (∀ e ∈ ok.after, Region.binds md e = true → e.on ≠ i) → oi.apart ops ok = true := fun k ok hk hki hun hno => by
     refine hfree k ok hk hki ?_ hno
     by_cases hjk : j = k
     ·subst hjk; exact hjun
     ·rw [getD_set_ne true hjk] at hun; exact hun
    refine wpOp_mono (fun a' w' h3 => ⟨h3.2.1, ih (listed.setIfInBounds j true) a' w' hfree' (ready_mono hr (Ne.symm hji)) (h3.1.mono L (L.trans hw h3.2.1)) ?_⟩) h2
    rw [Array.setIfInBounds_comm _ _ hji]
    exact h3.2.2
def wpLx (P : Program) (md : Region.Mode) (ops : Array Oper) (R : World → World → Prop) (Q : Exit → Act → World → Prop) : List Oper → Nat → Array Bool → Act → World → Prop
 | [], _, _, a, wc => ∀ w, R wc w → Q .normal a w
 | o :: rest, k, listed, a, wc =>
   (∃ v, YieldsR P ops R o v a wc ∧ wpLx P md ops R Q rest (k + 1) (listed.setIfInBounds k true) (a.put o.dst v) wc) ∨
   (Region.ready md ops listed = [k] ∧ ∀ w, R wc w → wpOp P ops Q k (fun a' w' => R w w' ∧ wpLx P md ops R Q rest (k + 1) (listed.setIfInBounds k true) a' w') a w)
theorem wpAnyR_lex (L : Later R) (hs : Region.noSelect ops = true) (hQ : ∀ c (a : Act) d v w, Q (.panic c) (a.put d v) w → Q (.panic c) a w) : ∀ (l : List Oper) (k : Nat) (listed : Array Bool) (a : Act) (wc : World), (∀ j, l[j]? = ops[k + j]?) →
 Region.lexFrom md ops l.length k listed = true → wpLx P md ops R Q l k listed a wc → wpAnyR P md ops R Q l.length listed a wc
 | [], _, _, _, _, _, hB, h => ⟨by simpa [Region.lexFrom] using hB, h⟩
 | o :: l, k, listed, a, wc, hl, hB, h => by
   have h0 : ops[k]? = some o := by simpa using (hl 0).symm
   simp only [List.length_cons, Region.lexFrom, Bool.and_eq_true] at hB
   obtain ⟨⟨hr, hf⟩, hB'⟩ := hB
   have hl' : ∀ j, l[j]? = ops[k + 1 + j]? := fun j => by have := hl (j + 1); simpa [Nat.add_assoc, Nat.add_comm 1 j] using this
   rcases h with ⟨v, hy, hK⟩ | ⟨hone, hK⟩
   ·exact wpAnyR_first L h0 (Region.noSelect_spec hs) (fun c a w => hQ c a _ _ w) l.length listed a wc (Region.free_spec h0 hf) (by simpa using hr) hy
     (wpAnyR_lex L hs hQ l (k + 1) _ _ _ hl' hB' hK)
   ·refine ⟨fun h0 => (by rw [h0] at hone; cases hone), fun i hi w hw => ?_⟩
    rw [hone] at hi
    have hik : i = k := by simpa using hi
    subst hik
    exact wpOp_mono (fun a' w' h' => ⟨h'.1, wpAnyR_lex L hs hQ l (i + 1) _ _ _ hl' hB' h'.2⟩) (hK w hw)
def onlyN (QN : Act → World → Prop) : Exit → Act → World → Prop
 | .normal, a, w => QN a w
 | _, _, _ => False
theorem wp_region_lx (L : Later R) {id : Nat} {a : Act} {w : World} {l : List Oper} (hm : P.follows .mixedOrders = true) (hB : Region.lexB .any l.toArray = true)
 (h : wpLx P .any l.toArray R (onlyN (fun a w => Q .normal a w)) l 0 (Array.replicate l.length false) a w.drew) : (Code.region id l.toArray true).wp P Q a w := by
 simp only [Region.lexB, Bool.and_eq_true] at hB
 refine Code.wp_mono (Q := onlyN (fun a w => Q .normal a w)) (fun e a w h => ?_) (wp_region_any hm (wpAny_of_R L _ _ _ _ _ (L.refl _) ?_))
 ·cases e <;> first | exact h | exact (h : False).elim
 ·have := wpAnyR_lex (md := .any) L hB.1 (fun _ _ _ _ _ h => h) l 0 (Array.replicate l.toArray.size false) a w.drew (by simp) (by simpa using hB.2) (by simpa using h)
  simpa using this
variable {o : Oper} {rest : List Oper} {k : Nat} {listed : Array Bool} {a : Act} {wc : World}
theorem lx_nil {QN : Act → World → Prop} (h : ∀ w, R wc w → QN a w) : wpLx P md ops R (onlyN QN) [] k listed a wc := h
theorem lx_ex (hw : Region.wanted o (yielded ops a.tmps) = true) (h : ∃ v, (∀ w, R wc w → o.quietAt P a (R w) w v) ∧ wpLx P md ops R Q rest (k + 1) (listed.setIfInBounds k true) (a.put o.dst v) wc) : wpLx P md ops R Q (o :: rest) k listed a wc :=
 .inl (let ⟨v, h1, h2⟩ := h; ⟨v, .inl ⟨hw, h1⟩, h2⟩)
theorem lx_at (hw : Region.wanted o (yielded ops a.tmps) = true) (v : Value) (h1 : ∀ w, R wc w → o.quietAt P a (R w) w v) (h2 : wpLx P md ops R Q rest (k + 1) (listed.setIfInBounds k true) (a.put o.dst v) wc) : wpLx P md ops R Q (o :: rest) k listed a wc :=
 .inl ⟨v, .inl ⟨hw, h1⟩, h2⟩
theorem lx_run (hw : Region.wanted o (yielded ops a.tmps) = true) (v : Value) (h1 : ∀ w, (execOp a.eval o).run P w = .ok (.value v) w) (h2 : wpLx P md ops R Q rest (k + 1) (listed.setIfInBounds k true) (a.put o.dst v) wc) : wpLx P md ops R Q (o :: rest) k listed a wc :=
 lx_at hw v (fun w _ => by unfold Oper.quietAt; rw [h1]; exact ⟨rfl, rfl⟩) h2
theorem lx_read (hw : Region.wanted o (yielded ops a.tmps) = true) (v : Value) (h1 : ∀ w, R wc w → (execOp a.eval o).run P w = .ok (.value v) w) (h2 : wpLx P md ops R Q rest (k + 1) (listed.setIfInBounds k true) (a.put o.dst v) wc) : wpLx P md ops R Q (o :: rest) k listed a wc :=
 lx_at hw v (fun w hR => by unfold Oper.quietAt; rw [h1 w hR]; exact ⟨rfl, rfl⟩) h2
theorem lx_load_blk (hw : Region.wanted o (yielded ops a.tmps) = true) (ty : TypeId) (x : Operand) (ho : o.op = .load ty x) (g : Nat) (hx : a.eval x = .pointer (some ⟨g, 0, none⟩))
 {t : TypeId} {cs : Array Value} (hB : ∀ w, R wc w → Blk w g t cs) (d : TypeDesc) (hu : P.underlying ty = some d) (hd : (match d with | .struct _ | .array _ _ => true | _ => false) = true)
 (n : Nat) (hs : (P.info? ty).map (·.size) = some n) (hn : cs.size = n) (h : wpLx P md ops R Q rest (k + 1) (listed.setIfInBounds k true) (a.put o.dst (.agg cs)) wc) : wpLx P md ops R Q (o :: rest) k listed a wc := by
 refine lx_read hw _ (fun w hC => ?_) h
 unfold execOp
 simp only [ho, hx, Instr.loadAt, Instr.sureAddr, Sem.run_bind, Sem.run_pure, Result.andThen_ok, run_loadVar_row w g t ty cs (0, 0) d (hB w hC) hu hd (by rw [hn]; exact hs)]
theorem lx_callF (hw : Region.wanted o (yielded ops a.tmps) = true) (f : FuncId) {fn : Func} (hf : P.funcs[f]? = some fn) (hname : (fn.name == "runtime.NumGoroutine") = false) (hb : fn.body.isSome = true) (xs : Array Operand) (ts : Array TypeId)
 (ho : o.op = .call { callee := .value (.func f), args := xs, argTypes := ts }) (args : Array Value) (hx : xs.map a.eval = args) (v : Value)
 (hc : ∀ w, R wc w → Calls P f args w fun e w' => e = .returned v ∧ R w w') (h : wpLx P md ops R Q rest (k + 1) (listed.setIfInBounds k true) (a.put o.dst v) wc) : wpLx P md ops R Q (o :: rest) k listed a wc := by
 obtain ⟨c, hb⟩ := Option.isSome_iff_exists.1 hb
 have hn : ¬ fn.name = "runtime.NumGoroutine" := by simpa using hname
 refine lx_at hw v (fun w hR => ?_) h
 have he : a.eval (.func f) = .func (.func f) #[] #[] := rfl
 have hrun : (execOp a.eval o).run P w = .ok (.enter f args) w := by simp [execOp, ho, resolve, hx, he, Deferred.ofValue, invoke, callFunc, hf, hb, hn]
 unfold Oper.quietAt
 rw [hrun]
 exact ⟨rfl, hc w hR⟩
end
section
variable {P : Program} {ops : Array Oper} {md : Region.Mode} {R : World → World → Prop}
def wpAnyRL (P : Program) (md : Region.Mode) (ops : Array Oper) (R : World → World → Prop) (Q : Exit → Act → World → Prop) (n : Nat) (F : Array Bool → Act → World → Prop) : Nat → Array Bool → Act → World → Prop
 | 0, listed, a, wc => ∀ w, R wc w → F listed a w
 | f + 1, listed, a, wc => Region.ready md ops listed ≠ [] ∧ ∀ i ∈ Region.ready md ops listed, i < n ∧ ∀ w, R wc w → wpOp P ops Q i (fun a' w' => R w w' ∧ wpAnyRL P md ops R Q n F f (listed.setIfInBounds i true) a' w') a w
variable {Q : Exit → Act → World → Prop} {n : Nat} {F : Array Bool → Act → World → Prop}
theorem wpAnyRL_mono (L : Later R) : ∀ (f : Nat) (listed : Array Bool) (a : Act) (wc w : World), R wc w → wpAnyRL P md ops R Q n F f listed a wc → wpAnyRL P md ops R Q n F f listed a w
 | 0, _, _, _, _, hw, h => fun w' h' => h w' (L.trans hw h')
 | _ + 1, _, _, _, _, hw, h => ⟨h.1, fun i hi => ⟨(h.2 i hi).1, fun w' h' => (h.2 i hi).2 w' (L.trans hw h')⟩⟩
theorem not_letsOut {QN : Act → World → Prop} (h : LetsOut (onlyN QN)) : False := by
 obtain ⟨a, w, h⟩ := h
 exact h
theorem wpOp_exit {i : Nat} {K : Act → World → Prop} {QN : Act → World → Prop} {Q' : Exit → Act → World → Prop} {a : Act} {w : World} (h : wpOp P ops (onlyN QN) i K a w) : wpOp P ops Q' i K a w := by
 have up : ∀ (o : Oper) (r : Result Next), o.upon P a K (onlyN QN) r → o.upon P a K Q' r := by
  intro o r h
  cases r with
  | ok nx w' =>
    cases nx <;> simp only [Oper.upon] at h ⊢ <;> first
     | exact h
     | exact Calls.mono h (fun e w'' he => by cases e <;> first | exact he | exact (he : False).elim | exact (not_letsOut he).elim)
  | halt x w' =>
    cases x <;> simp only [Oper.upon] at h ⊢
    case panic u => exact (h : False).elim
 unfold wpOp at *
 split
 ·rename_i ho; simpa [ho] using h
 ·rename_i o ho
  simp only [ho] at h
  split
  ·rename_i hw
   simp only [hw, if_true] at h
   rcases h with h | ⟨_, h⟩
   ·exact .inl (up _ _ h)
   ·exact (not_letsOut h).elim
  ·rename_i hw
   simpa [hw] using h
theorem wpAny_of_RL (L : Later R) {QN : Act → World → Prop} {Q' : Exit → Act → World → Prop} {g : Nat} (hF : ∀ listed a w, F listed a w → wpAny P md ops Q' g listed a w) :
 ∀ (f : Nat) (listed : Array Bool) (a : Act) (wc : World), wpAnyRL P md ops R (onlyN QN) n F f listed a wc → ∀ w, R wc w → wpAny P md ops Q' (f + g) listed a w
 | 0, listed, a, wc, h, w, hw => by rw [Nat.zero_add]; exact hF _ _ _ (h w hw)
 | f + 1, listed, a, wc, h, w, hw => by
   rw [show f + 1 + g = (f + g) + 1 by omega]
   exact ⟨fun h0 => absurd h0 h.1, fun i hi => wpOp_exit (QN := QN) (wpOp_mono (fun a' w' h' => wpAny_of_RL L hF f _ a' w' h'.2 w' (L.refl _)) ((h.2 i hi).2 w hw))⟩
theorem wpAnyRL_first (L : Later R) {QN : Act → World → Prop} {i : Nat} {oi : Oper} {v : Value} (hi : ops[i]? = some oi) (hsel : ∀ (j : Nat) (o : Oper) cs b, ops[j]? = some o → o.op ≠ .select cs b)
 (hs : Region.sinkB md ops n = true) (hc : Region.chainB md ops n = true) (hn : n < ops.size) (hin : i < n)
 (hdone : ∀ listed a w, F listed a w → ∀ j ∈ Region.ready md ops listed, n ≤ j) :
 ∀ (f : Nat) (listed : Array Bool) (a : Act) (wc : World), HeadInv md ops n listed →
  (∀ j oj, ops[j]? = some oj → j ≠ i → listed.getD j true = false → (∀ e ∈ oj.after, Region.binds md e = true → e.on ≠ i) → oi.apart ops oj = true) →
  i ∈ Region.ready md ops listed → YieldsR P ops R oi v a wc →
  wpAnyRL P md ops R (onlyN QN) n F f (listed.setIfInBounds i true) (a.put oi.dst v) wc → wpAnyRL P md ops R (onlyN QN) n F (f + 1) listed a wc := by
 intro f
 induction f with
 | zero =>
   intro listed a wc inv _ hr hy H
   have hun := (mem_ready.1 hr).1
   refine ⟨fun h => (by rw [h] at hr; cases hr), fun j hj => ?_⟩
   have hjn : j < n := by
    rcases Nat.lt_or_ge j n with h | h
    ·exact h
    ·exact absurd hj (tail_waits hs hc hn inv _ i rfl hin hun j h)
   refine ⟨hjn, fun w hw => ?_⟩
   by_cases hji : j = i
   ·subst hji; exact hy.wpOp L hi hw fun w' h' => ⟨h', wpAnyRL_mono L _ _ _ _ _ (L.trans hw h') H⟩
   ·have := hdone _ _ _ (H w hw) j (ready_mono hj hji)
    omega
 | succ f ih =>
   intro listed a wc inv hfree hr hy H
   have hun := (mem_ready.1 hr).1
   refine ⟨fun h => (by rw [h] at hr; cases hr), fun j hj => ?_⟩
   have hjn : j < n := by
    rcases Nat.lt_or_ge j n with h | h
    ·exact h
    ·exact absurd hj (tail_waits hs hc hn inv _ i rfl hin hun j h)
   refine ⟨hjn, fun w hw => ?_⟩
   by_cases hji : j = i
   ·subst hji; exact hy.wpOp L hi hw fun w' h' => ⟨h', wpAnyRL_mono L _ _ _ _ _ (L.trans hw h') H⟩
   ·have h1 := (H.2 j (ready_mono hj hji)).2 w hw
    obtain ⟨hjun, oj, hoj, hall⟩ := mem_ready.1 hj
    have hnot : ∀ e ∈ oj.after, Region.binds md e = true → e.on ≠ i := fun e he hb heq => by
     have h1 := hall e he hb
     rw [heq, getD_both hun] at h1
     cases h1
    have h2 := wpOp_putR hoj (hfree j oj hoj hji hjun hnot) (fun cs b => hsel i oi cs b hi) (fun cs b => hsel j oj cs b hoj) (fun _ _ _ h => h) hy h1
    have hfree' : ∀ k ok, ops[k]? = some ok → k ≠ i → (listed.setIfInBounds j true).getD k true = false →
     (∀ e ∈ ok.after, Region.binds md e = true → e.on ≠ i) → oi.apart ops ok = true := fun k ok hk hki hun hno => by
     refine hfree k ok hk hki ?_ hno
     by_cases hjk : j = k
     ·subst hjk; exact hjun
     ·rw [getD_set_ne true hjk] at hun; exact hun
    refine wpOp_mono (fun a' w' h3 => ⟨h3.2.1, ih (listed.setIfInBounds j true) a' w' (inv.set hj hjn) hfree' (ready_mono hr (Ne.symm hji)) (h3.1.mono L (L.trans hw h3.2.1)) ?_⟩) h2
    rw [Array.setIfInBounds_comm _ _ hji]
    exact h3.2.2
theorem wpAnyRL_lex (L : Later R) {QN : Act → World → Prop} {g : Nat} (hsel : Region.noSelect ops = true) (hs : Region.sinkB md ops n = true) (hc : Region.chainB md ops n = true) (hn : n < ops.size) :
 ∀ (l : List Oper) (k : Nat) (listed : Array Bool) (a : Act) (wc : World), (∀ j, j < l.length → l[j]? = ops[k + j]?) → k + l.length = n → HeadInv md ops n listed →
 Region.lexHead md ops g l.length k listed = true → wpLx P md ops R (onlyN QN) l k listed a wc →
 wpAnyRL P md ops R (onlyN QN) n (fun listed' a' w' => Region.seqB md ops g n listed' = true ∧ QN a' w') l.length listed a wc
 | [], k, listed, a, wc, _, hk, _, hB, h => by
   have : k = n := by simpa using hk
   subst this
   exact fun w hw => ⟨by simpa [Region.lexHead] using hB, h w hw⟩
 | o :: l, k, listed, a, wc, hl, hk, inv, hB, h => by
   have h0 : ops[k]? = some o := by simpa using (hl 0 (by simp)).symm
   simp only [List.length_cons, Region.lexHead, Bool.and_eq_true] at hB
   obtain ⟨⟨hr, hf⟩, hB'⟩ := hB
   have hkn : k < n := by simp only [List.length_cons] at hk; omega
   have hr' : k ∈ Region.ready md ops listed := by simpa using hr
   have hl' : ∀ j, j < l.length → l[j]? = ops[k + 1 + j]? := fun j hj => by have := hl (j + 1) (by simp; omega); simpa [Nat.add_assoc, Nat.add_comm 1 j] using this
   have hk' : k + 1 + l.length = n := by simp only [List.length_cons] at hk; omega
   rcases h with ⟨v, hy, hK⟩ | ⟨hone, hK⟩
   ·exact wpAnyRL_first L h0 (Region.noSelect_spec hsel) hs hc hn hkn (fun listed' a' w' hL => seqB_ready hL.1) l.length listed a wc inv (Region.free_spec h0 hf) hr' hy
     (wpAnyRL_lex L hsel hs hc hn l (k + 1) _ _ _ hl' hk' (inv.set hr' hkn) hB' hK)
   ·refine ⟨fun h0 => (by rw [h0] at hone; cases hone), fun i hi => ?_⟩
    rw [hone] at hi
    have hik : i = k := by simpa using hi
    subst hik
    exact ⟨hkn, fun w hw => wpOp_mono (fun a' w' h' => ⟨h'.1, wpAnyRL_lex L hsel hs hc hn l (i + 1) _ _ _ hl' hk' (inv.set hr' hkn) hB' h'.2⟩) (hK w hw)⟩
theorem wp_region_lxt (L : Later R) (n : Nat) {id : Nat} {a : Act} {w : World} {l : List Oper} (hm : P.follows .mixedOrders = true) (hB : Region.lexTailB .any l.toArray n = true)
 (h : wpLx P .any l.toArray R (onlyN (fun a w => wpList P l.toArray Q (l.drop n) a w)) (l.take n) 0 (Array.replicate l.length false) a w.drew) : (Code.region id l.toArray true).wp P Q a w := by
 simp only [Region.lexTailB, Bool.and_eq_true, decide_eq_true_eq] at hB
 obtain ⟨⟨⟨⟨hsel, hn⟩, hs⟩, hc⟩, hlex⟩ := hB
 have hn' : n < l.length := by simpa using hn
 have htl : (l.take n).length = n := by simp; omega
 have hdl : (l.drop n).length = l.toArray.size - n := by simp
 have inv0 : HeadInv .any l.toArray n (Array.replicate l.toArray.size false) :=
  ⟨by simp, fun j oj _ hl => (by rw [getD_replicate_false] at hl; cases hl), fun t _ ht => getD_in (by simpa using ht) (getD_replicate_false _ _)⟩
 have H := wpAnyRL_lex (md := .any) (g := l.toArray.size - n) L hsel hs hc hn (l.take n) 0 (Array.replicate l.toArray.size false) a w.drew (fun j hj => by
  have hj' : j < n := by rw [htl] at hj; exact hj
  simp [hj']) (by simpa using htl) inv0 (by rw [htl]; exact hlex) (by simpa using h)
 refine wp_region_any hm ?_
 have := wpAny_of_RL (Q' := Q) (g := l.toArray.size - n) L (fun listed a' w' hL => by
  have := wpAny_of_seq (md := .any) (Q' := Q) (l.drop n) n listed a' w' (fun j => by simp [List.getElem?_drop]) (by rw [hdl]; exact hL.1) hL.2
  rwa [hdl] at this) _ _ _ _ H _ (L.refl _)
 rw [htl, show n + (l.toArray.size - n) = l.toArray.size by omega] at this
 exact this
end
section
variable {P : Program} {ops : Array Oper} {md : Region.Mode} {I : World → Prop}
def Fixed (P : Program) (ops : Array Oper) (I : World → Prop) (o : Oper) (v : Value) (a : Act) : Prop :=
 (Region.wanted o (yielded ops a.tmps) = true ∧ ∀ w, I w → (execOp a.eval o).run P w = .ok (.value v) w) ∨ (Region.wanted o (yielded ops a.tmps) = false ∧ v = undef)
theorem Fixed.of_same {o : Oper} {v : Value} {a a' : Act} (hy : Fixed P ops I o v a) (he : execOp a'.eval o = execOp a.eval o)
 (hw : Region.wanted o (yielded ops a'.tmps) = Region.wanted o (yielded ops a.tmps)) : Fixed P ops I o v a' := by
 unfold Fixed at *
 rw [he, hw]
 exact hy
theorem Fixed.wpOp {i : Nat} {o : Oper} {v : Value} {a : Act} {w : World} {Q : Exit → Act → World → Prop} (hi : ops[i]? = some o) (hy : Fixed P ops I o v a) (hw : I w)
 {K : Act → World → Prop} (h : K (a.put o.dst v) w) : wpOp P ops Q i K a w := by
 unfold Go.wpOp
 simp only [hi]
 rcases hy with ⟨h1, h2⟩ | ⟨h1, rfl⟩
 ·simp only [h1, if_true]
  refine .inl ?_
  unfold Oper.wp
  rw [h2 w hw]
  exact h
 ·simp only [h1, Bool.false_eq_true, if_false]
  exact h
theorem wpOp_putI {j : Nat} {oi oj : Oper} {v : Value} {Q : Exit → Act → World → Prop} (hj : ops[j]? = some oj) (hap : oi.apart ops oj = true)
 (hsi : ∀ cs b, oi.op ≠ .select cs b) (hsj : ∀ cs b, oj.op ≠ .select cs b)
 (hQ : ∀ c a w, Q (.panic c) (a.put oi.dst v) w → Q (.panic c) a w) {K : Act → World → Prop} {a : Act} {w : World}
 (hy : Fixed P ops I oi v a) (h : wpOp P ops Q j K (a.put oi.dst v) w) :
 wpOp P ops Q j (fun a' w' => Fixed P ops I oi v a' ∧ K (a'.put oi.dst v) w') a w := by
 obtain ⟨h1, h2, h3⟩ := Oper.apart_spec hap
 have keep : ∀ (a : Act), Fixed P ops I oi v a → ∀ u, Fixed P ops I oi v (a.put oj.dst u) := fun a hy u =>
  hy.of_same (execOp_put oi hsi a oj.dst u h3) (wanted_put oi a oj.dst u h3)
 have keepD : ∀ d, Fixed P ops I oi v { a with defers := d :: a.defers } := fun d => hy.of_same rfl rfl
 unfold wpOp at *
 simp only [hj] at *
 rw [wanted_put oj a oi.dst v h1] at h
 split
 ·rename_i hw
  simp only [hw, if_true] at h
  rcases h with h | ⟨hasks, hlets⟩
  case inr => exact .inr ⟨by unfold Oper.asks at *; rw [execOp_put oj hsj a oi.dst v h1] at hasks; exact hasks, hlets⟩
  refine .inl ?_
  unfold Oper.wp at *
  rw [execOp_put oj hsj a oi.dst v h1] at h
  generalize (execOp a.eval oj).run P w = r at *
  cases r with
  | ok n w' =>
    cases n <;> simp only [Oper.upon] at h ⊢
    case value u => exact ⟨keep a hy u, by rw [← Act.put_comm a v u h2]; exact h⟩
    case skip => exact ⟨keep a hy _, by rw [← Act.put_comm a v undef h2]; exact h⟩
    case defer d =>
     refine ⟨keep _ (keepD d) _, ?_⟩
     rw [← Act.put_comm _ v undef h2, ← Act.put_defers]
     exact h
    case enter f args =>
     refine Calls.mono h fun e w'' he => ?_
     cases e with
     | returned u => exact ⟨keep a hy u, by rw [← Act.put_comm a v u h2]; exact he⟩
     | panicked c => exact hQ _ _ _ he
     | outgrown => exact he
    case row row args => exact Rows.mono h fun u w'' he => ⟨keep a hy u, by rw [← Act.put_comm a v u h2]; exact he⟩
  | halt x w' =>
    cases x <;> simp only [Oper.upon] at h ⊢
    case panic u => exact hQ _ _ _ h
 ·rename_i hw
  simp only [hw] at h
  exact ⟨keep a hy _, by rw [← Act.put_comm a v undef h2]; exact h⟩
def wpAnyI (P : Program) (md : Region.Mode) (ops : Array Oper) (I : World → Prop) (QN : Act → World → Prop) : Nat → Array Bool → Act → World → Prop
 | 0, listed, a, w => Region.ready md ops listed = [] ∧ QN a w
 | f + 1, listed, a, w => (Region.ready md ops listed = [] → QN a w) ∧
   ∀ i ∈ Region.ready md ops listed, wpOp P ops (onlyN QN) i (fun a' w' => I w' ∧ wpAnyI P md ops I QN f (listed.setIfInBounds i true) a' w') a w
variable {QN : Act → World → Prop}
theorem wpAny_of_I : ∀ (f : Nat) (listed : Array Bool) (a : Act) (w : World), wpAnyI P md ops I QN f listed a w → wpAny P md ops (onlyN QN) f listed a w
 | 0, _, _, _, h => ⟨h.1, h.2⟩
 | f + 1, _, _, _, h => ⟨fun h0 => h.1 h0, fun i hi => wpOp_mono (fun a' w' h' => wpAny_of_I f _ a' w' h'.2) (h.2 i hi)⟩
theorem wpAnyI_first {i : Nat} {oi : Oper} {v : Value} (hi : ops[i]? = some oi) (hsel : ∀ (j : Nat) (o : Oper) cs b, ops[j]? = some o → o.op ≠ .select cs b) :
 ∀ (fuel : Nat) (listed : Array Bool) (a : Act) (w : World),
  (∀ j oj, ops[j]? = some oj → j ≠ i → listed.getD j true = false → (∀ e ∈ oj.after, Region.binds md e = true → e.on ≠ i) → oi.apart ops oj = true) →
  i ∈ Region.ready md ops listed → Fixed P ops I oi v a → I w →
  wpAnyI P md ops I QN fuel (listed.setIfInBounds i true) (a.put oi.dst v) w → wpAnyI P md ops I QN (fuel + 1) listed a w := by
 intro fuel
 induction fuel with
 | zero =>
   intro listed a w _ hr hy hI H
   refine ⟨fun h => (by rw [h] at hr; cases hr), fun j hj => ?_⟩
   by_cases hji : j = i
   ·subst hji; exact hy.wpOp hi hI ⟨hI, H⟩
   ·have := ready_mono hj hji
    rw [H.1] at this
    cases this
 | succ fuel ih =>
   intro listed a w hfree hr hy hI H
   refine ⟨fun h => (by rw [h] at hr; cases hr), fun j hj => ?_⟩
   by_cases hji : j = i
   ·subst hji; exact hy.wpOp hi hI ⟨hI, H⟩
   ·have h1 := H.2 j (ready_mono hj hji)
    obtain ⟨hjun, oj, hoj, hall⟩ := mem_ready.1 hj
    have hnot : ∀ e ∈ oj.after, Region.binds md e = true → e.on ≠ i := fun e he hb heq => by
     have h1 := hall e he hb
     have h0 := (mem_ready.1 hr).1
     rw [heq] at h1
     rcases Nat.lt_or_ge i listed.size with h' | h'
     ·simp [h'] at h0 h1; rw [h0] at h1; cases h1
     ·simp [Array.getElem?_eq_none h'] at h1
    have h2 := wpOp_putI hoj (hfree j oj hoj hji hjun hnot) (fun cs b => hsel i oi cs b hi) (fun cs b => hsel j oj cs b hoj) (fun _ _ _ h => h) hy h1
    have hfree' : ∀ k ok, ops[k]? = some ok → k ≠ i → (listed.setIfInBounds j true).getD k true = false →
     (∀ e ∈ ok.after, Region.binds md e = true → e.on ≠ i) → oi.apart ops ok = true := fun k ok hk hki hun hno => by
     refine hfree k ok hk hki ?_ hno
     by_cases hjk : j = k
     ·subst hjk; exact hjun
     ·rw [getD_set_ne true hjk] at hun; exact hun
    refine wpOp_mono (fun a' w' h3 => ⟨h3.2.1, ih (listed.setIfInBounds j true) a' w' hfree' (ready_mono hr (Ne.symm hji)) h3.1 h3.2.1 ?_⟩) h2
    rw [Array.setIfInBounds_comm _ _ hji]
    exact h3.2.2
theorem wpOp_of_list {i : Nat} {o : Oper} {K : Act → World → Prop} {Q : Exit → Act → World → Prop} {a : Act} {w : World} (ho : ops[i]? = some o) (h : wpList P ops (onlyN K) [o] a w) : wpOp P ops Q i K a w := by
 refine wpOp_exit (QN := K) ?_
 unfold wpOp
 simp only [ho]
 exact h
theorem oi_loud0 {k f : Nat} {o : Oper} {listed : Array Bool} {a : Act} {w : World} (hone : Region.ready md ops listed = [k]) (ho : ops[k]? = some o)
 (h : wpList P ops (onlyN fun a' w' => I w' ∧ wpAnyI P md ops I QN f (listed.setIfInBounds k true) a' w') [o] a w) : wpAnyI P md ops I QN (f + 1) listed a w :=
 ⟨fun h0 => (by rw [h0] at hone; cases hone), fun i hi => by
  rw [hone] at hi
  have hik : i = k := by simpa using hi
  subst hik
  exact wpOp_of_list ho h⟩
theorem oi_two0 {k l f : Nat} {o o2 : Oper} {listed : Array Bool} {a : Act} {w : World} (hone : Region.ready md ops listed = [k, l]) (ho : ops[k]? = some o) (ho2 : ops[l]? = some o2)
 (h : wpList P ops (onlyN fun a' w' => I w' ∧ wpAnyI P md ops I QN f (listed.setIfInBounds k true) a' w') [o] a w)
 (h2 : wpList P ops (onlyN fun a' w' => I w' ∧ wpAnyI P md ops I QN f (listed.setIfInBounds l true) a' w') [o2] a w) : wpAnyI P md ops I QN (f + 1) listed a w :=
 ⟨fun h0 => (by rw [h0] at hone; cases hone), fun i hi => by
  rw [hone] at hi
  have hik : i = k ∨ i = l := by simpa using hi
  rcases hik with rfl | rfl
  ·exact wpOp_of_list ho h
  ·exact wpOp_of_list ho2 h2⟩
theorem oi_fix0 {k f : Nat} {o : Oper} {listed : Array Bool} {a : Act} {w : World} (hB : ((Region.ready md ops listed).contains k && Region.free md ops listed k && Region.noSelect ops) = true) (ho : ops[k]? = some o)
 (hw : Region.wanted o (yielded ops a.tmps) = true) (v : Value) (h1 : ∀ w, I w → (execOp a.eval o).run P w = .ok (.value v) w) (hI : I w)
 (h : wpAnyI P md ops I QN f (listed.setIfInBounds k true) (a.put o.dst v) w) : wpAnyI P md ops I QN (f + 1) listed a w := by
 simp only [Bool.and_eq_true] at hB
 exact wpAnyI_first ho (Region.noSelect_spec hB.2) f listed a w (Region.free_spec ho hB.1.2) (by simpa using hB.1.1) (.inl ⟨hw, h1⟩) hI h
section
variable {l0 : List Oper}
theorem oi_fix {k f : Nat} {o : Oper} {listed : Array Bool} {a : Act} {w : World} (hB : ((Region.ready md l0.toArray listed).contains k && Region.free md l0.toArray listed k && Region.noSelect l0.toArray) = true) (ho : l0[k]? = some o)
 (hw : Region.wanted o (yielded l0.toArray a.tmps) = true) (v : Value) (h1 : ∀ w, I w → (execOp a.eval o).run P w = .ok (.value v) w) (hI : I w)
 (h : wpAnyI P md l0.toArray I QN f (listed.setIfInBounds k true) (a.put o.dst v) w) : wpAnyI P md l0.toArray I QN (f + 1) listed a w := oi_fix0 hB (by simpa using ho) hw v h1 hI h
theorem oi_run {k f : Nat} {o : Oper} {listed : Array Bool} {a : Act} {w : World} (hB : ((Region.ready md l0.toArray listed).contains k && Region.free md l0.toArray listed k && Region.noSelect l0.toArray) = true) (ho : l0[k]? = some o)
 (hw : Region.wanted o (yielded l0.toArray a.tmps) = true) (v : Value) (h1 : ∀ w, (execOp a.eval o).run P w = .ok (.value v) w) (hI : I w)
 (h : wpAnyI P md l0.toArray I QN f (listed.setIfInBounds k true) (a.put o.dst v) w) : wpAnyI P md l0.toArray I QN (f + 1) listed a w := oi_fix hB ho hw v (fun w _ => h1 w) hI h
theorem oi_loud {k f : Nat} {o : Oper} {listed : Array Bool} {a : Act} {w : World} (hone : Region.ready md l0.toArray listed = [k]) (ho : l0[k]? = some o)
 (h : wpList P l0.toArray (onlyN fun a' w' => I w' ∧ wpAnyI P md l0.toArray I QN f (listed.setIfInBounds k true) a' w') [o] a w) : wpAnyI P md l0.toArray I QN (f + 1) listed a w := oi_loud0 hone (by simpa using ho) h
theorem oi_two {k l f : Nat} {o o2 : Oper} {listed : Array Bool} {a : Act} {w : World} (hone : Region.ready md l0.toArray listed = [k, l]) (ho : l0[k]? = some o) (ho2 : l0[l]? = some o2)
 (h : wpList P l0.toArray (onlyN fun a' w' => I w' ∧ wpAnyI P md l0.toArray I QN f (listed.setIfInBounds k true) a' w') [o] a w)
 (h2 : wpList P l0.toArray (onlyN fun a' w' => I w' ∧ wpAnyI P md l0.toArray I QN f (listed.setIfInBounds l true) a' w') [o2] a w) : wpAnyI P md l0.toArray I QN (f + 1) listed a w := oi_two0 hone (by simpa using ho) (by simpa using ho2) h h2
end
theorem wp_region_oi (I : World → Prop) {id : Nat} {a : Act} {w : World} {l : List Oper} {Q : Exit → Act → World → Prop} (hm : P.follows .mixedOrders = true)
 (h : wpAnyI P .any l.toArray I (fun a w => Q .normal a w) l.length (Array.replicate l.length false) a w.drew) : (Code.region id l.toArray true).wp P Q a w := by
 refine Code.wp_mono (Q := onlyN (fun a w => Q .normal a w)) (fun e a w h => ?_) (wp_region_any hm (wpAny_of_I _ _ _ _ (by simpa using h)))
 cases e <;> first | exact h | exact (h : False).elim
theorem oi_done {listed : Array Bool} {a : Act} {w : World} (hone : Region.ready md ops listed = []) (h : QN a w) : wpAnyI P md ops I QN 0 listed a w := ⟨hone, h⟩
end
section
variable {P : Program} (w : World)
theorem run_append_of_nil (base : Nat) (t ty e : TypeId) (i : TypeInfo) (size : Nat) (ht : P.underlying t = some (.slice e)) (hi : P.info? e = some i)
 (v : Value) (n : Nat) (xs : List Value) (hown : w.ownsRow base e size v n xs) (c : Nat) : (Builtin.append_ #[t, t] ty #[v, .slice none 0 c]).run P w = .ok v w := by
 rcases hown.2 with ⟨rfl, rfl⟩ | ⟨g, cap, cur, rfl, _, _, hnc, _⟩
 ·simp [Builtin.append_, run_underlying ht, sizeOf, typeInfo, hi, Builtin.lenOf, Builtin.firstCells]
 ·simp [Builtin.append_, run_underlying ht, sizeOf, typeInfo, hi, Builtin.lenOf, Builtin.firstCells, hnc, storeCells]
theorem run_append_sl (base : Nat) (t ty e : TypeId) (i : TypeInfo) (z : Value) (size bytes : Nat) (ht : P.underlying t = some (.slice e)) (hi : P.info? e = some i) (hz : i.zero = some z)
 (hsize : i.size = size) (hby : i.bytes = bytes) (hzs : z.cells.size = size) (hsz : 0 < size)
 (v : Value) (n : Nat) (xs : List Value) (hown : w.ownsRow base e size v n xs)
 (x : Value) (m : Nat) (news : List Value) (hr : SL w size x m news) (h1 : ∀ u ∈ news, u.oneCell' = true)
 (h63 : n + m ≤ maxLen) (hbytes : (n + m) * bytes ≤ 140737488355328) (hbase : base ≤ w.heap.size) :
 ∃ v' w', (Builtin.append_ #[t, t] ty #[v, x]).run P w = .ok v' w' ∧ w'.ownsRow base e size v' (n + m) (xs ++ news) ∧ w.grownBy w' v.ownBlock ∧
  (v'.ownBlock = v.ownBlock ∨ v'.ownBlock = some w.heap.size) := by
 obtain ⟨A, c, rfl, -, -, hl, hc⟩ := hr
 rcases A with _ | ad
 ·have hm : m = 0 := by
   rcases Nat.eq_zero_or_pos m with h0 | h0
   ·exact h0
   ·obtain ⟨ad, h, _⟩ := hc h0
    cases h
  subst hm
  have hn : news = [] := List.eq_nil_of_length_eq_zero (by simpa using hl)
  subst hn
  exact ⟨v, w, run_append_of_nil w base t ty e i size ht hi v n xs hown c, by simpa using hown, World.grownBy.refl w _, .inl rfl⟩
 ·have hcells : ∀ j u, news[j]? = some u → w.cell? (ad.add j) = some u := by
   intro j u hu
   rcases Nat.eq_zero_or_pos m with h0 | h0
   ·subst h0
    have hn : news = [] := List.eq_nil_of_length_eq_zero (by simpa using hl)
    subst hn
    simp at hu
   ·obtain ⟨ad', h, _, hcc⟩ := hc h0
    injection h with h
    subst h
    exact hcc j u hu
  obtain ⟨v', w', hrun, h2, h3, _, h5⟩ := run_append_own_at (P := P) w base t ty e i z size bytes ht hi hz hsize hby hzs hsz v n xs hown ad m c news hl hcells h1 h63 hbytes hbase
  exact ⟨v', w', hrun, h2, h3, h5⟩
theorem wp_append_sl {o : Oper} {a : Act} {K : Act → World → Prop} {Q : Exit → Act → World → Prop} (s x : Operand) (t : TypeId)
 (ho : o.op = .call { callee := .builtin .append, args := #[s, x], argTypes := #[t, t] })
 (base : Nat) (e : TypeId) (i : TypeInfo) (z : Value) (size bytes : Nat) (ht : P.underlying t = some (.slice e)) (hi : P.info? e = some i) (hz : i.zero = some z)
 (hsize : i.size = size) (hby : i.bytes = bytes) (hzs : z.cells.size = size) (hsz : 0 < size)
 (v : Value) (n : Nat) (xs : List Value) (hs : a.eval s = v) (hown : w.ownsRow base e size v n xs)
 (u : Value) (m : Nat) (news : List Value) (hx : a.eval x = u) (hr : SL w size u m news) (h1 : ∀ u ∈ news, u.oneCell' = true)
 (h63 : n + m ≤ maxLen) (hbytes : (n + m) * bytes ≤ 140737488355328) (hbase : base ≤ w.heap.size)
 (h : ∀ v' w', w'.ownsRow base e size v' (n + m) (xs ++ news) → w.grownBy w' v.ownBlock → (v'.ownBlock = v.ownBlock ∨ v'.ownBlock = some w.heap.size) → K (a.put o.dst v') w') : o.wp P a w K Q := by
 obtain ⟨v', w', hrun, h2, h3, h4⟩ := run_append_sl (P := P) w base t o.type e i z size bytes ht hi hz hsize hby hzs hsz v n xs hown u m news hr h1 h63 hbytes hbase
 unfold Oper.wp execOp
 simp only [ho, resolve, invoke, builtin, Sem.run_bind, Sem.run_pure, Result.andThen_ok, List.map_toArray, List.map_cons, List.map_nil, hs, hx, hrun]
 exact h v' w' h2 h3 h4
structure Elt (P : Program) (t e : TypeId) (size bytes : Nat) : Prop where
 ht : P.underlying t = some (.slice e)
 hi : (P.info? e).map (fun i => (i.zero.map fun z => z.cells.size, i.size, i.bytes)) = some (some size, size, bytes)
 hsz : 0 < size
variable {w}
theorem wpList_append_sl {ops : Array Oper} {rest : List Oper} {o : Oper} {a : Act} {Q : Exit → Act → World → Prop} {t e : TypeId} {size bytes : Nat} (he : Elt P t e size bytes) (hgd : o.guard = none) (s x : Operand)
 (ho : o.op = .call { callee := .builtin .append, args := #[s, x], argTypes := #[t, t] })
 (base : Nat) (v : Value) (n : Nat) (xs : List Value) (hs : a.eval s = v) (hown : w.ownsRow base e size v n xs)
 (u : Value) (m : Nat) (news : List Value) (hx : a.eval x = u) (hr : SL w size u m news) (h1 : ∀ u ∈ news, u.oneCell' = true)
 (h63 : n + m ≤ 9223372036854775807) (hbytes : (n + m) * bytes ≤ 140737488355328) (hbase : base ≤ w.heap.size)
 (h : ∀ v' w', w'.ownsRow base e size v' (n + m) (xs ++ news) → Below base w w' → wpList P ops Q rest (a.put o.dst v') w') : wpList P ops Q (o :: rest) a w := by
 obtain ⟨ht, hi, hsz⟩ := he
 cases hq : P.info? e with
 | none => simp [hq] at hi
 | some i =>
   cases hzq : i.zero with
   | none => simp [hq, hzq] at hi
   | some z =>
     have hi' : z.cells.size = size ∧ i.size = size ∧ i.bytes = bytes := by simpa [hq, hzq] using hi
     refine wpList_plain hgd fun _ hK => wp_append_sl w s x t ho base e i z size bytes ht hq hzq hi'.2.1 hi'.2.2 hi'.1 hsz v n xs hs hown u m news hx hr h1 (by unfold maxLen; omega) hbytes hbase fun v' w' h2 h3 h4 => hK _ _ (h v' w' h2 ?_)
     exact (Below.refl base w).grown h3 hbase (fun k hk => ((hown.lt k hk).1))
theorem wpList_append_slr {ops : Array Oper} {rest : List Oper} {o : Oper} {a : Act} {Q : Exit → Act → World → Prop} {t e : TypeId} {size bytes : Nat} (he : Elt P t e size bytes) (hgd : o.guard = none) (s x : Operand)
 (ho : o.op = .call { callee := .builtin .append, args := #[s, x], argTypes := #[t, t] })
 (base : Nat) (v : Value) (n : Nat) (xs : List Value) (hs : a.eval s = v) (hown : w.ownsRow base e size v n xs)
 (u : Value) (m : Nat) (news : List Value) (hx : a.eval x = u) (hr : SL w size u m news) (h1 : ∀ u ∈ news, u.oneCell' = true)
 (h63 : n + m ≤ 9223372036854775807) (hbytes : (n + m) * bytes ≤ 140737488355328) (hbase : base ≤ w.heap.size)
 (h : ∀ v' w', w'.ownsRow base e size v' (n + m) (xs ++ news) → w.grownBy w' v.ownBlock → (v'.ownBlock = v.ownBlock ∨ v'.ownBlock = some w.heap.size) → wpList P ops Q rest (a.put o.dst v') w') : wpList P ops Q (o :: rest) a w := by
 obtain ⟨ht, hi, hsz⟩ := he
 cases hq : P.info? e with
 | none => simp [hq] at hi
 | some i =>
   cases hzq : i.zero with
   | none => simp [hq, hzq] at hi
   | some z =>
     have hi' : z.cells.size = size ∧ i.size = size ∧ i.bytes = bytes := by simpa [hq, hzq] using hi
     refine wpList_plain hgd fun _ hK => wp_append_sl w s x t ho base e i z size bytes ht hq hzq hi'.2.1 hi'.2.2 hi'.1 hsz v n xs hs hown u m news hx hr h1 (by unfold maxLen; omega) hbytes hbase fun v' w' h2 h3 h4 => hK _ _ (h v' w' h2 h3 h4)
theorem wApf {ops : Array Oper} {rest : List Oper} {o : Oper} {a : Act} {Q : Exit → Act → World → Prop} {t e : TypeId} {size bytes : Nat} (he : Elt P t e size bytes) (hgd : o.guard = none) (s x : Operand)
 (ho : o.op = .call { callee := .builtin .append, args := #[s, x], argTypes := #[t, t] })
 (base : Nat) (v : Value) (n : Nat) (xs : List Value) (hs : a.eval s = v) (hown : w.ownsRow base e size v n xs)
 (u : Value) (m : Nat) (news : List Value) (hx : a.eval x = u) (hr : SL w size u m news) (h1 : ∀ u ∈ news, u.oneCell' = true)
 (h63 : n + m ≤ 9223372036854775807) (hbytes : (n + m) * bytes ≤ 140737488355328) (hbase : base ≤ w.heap.size)
 (h : ∀ A c w', w'.ownsRow base e size (.slice A (n + m) c) (n + m) (xs ++ news) → w.grownBy w' v.ownBlock → (A.map (·.block) = v.ownBlock ∨ A.map (·.block) = some w.heap.size) → wpList P ops Q rest (a.put o.dst (.slice A (n + m) c)) w') : wpList P ops Q (o :: rest) a w :=
 wpList_append_slr he hgd s x ho base v n xs hs hown u m news hx hr h1 h63 hbytes hbase fun v' w' h2 h3 h4 => by
  have h2' := h2.2
  rcases h2' with ⟨rfl, h0⟩ | ⟨g, cap, cur, rfl, _⟩
  ·have hz : n + m = 0 ∨ ¬ n + m = 0 := by omega
   have hl := h2.1
   rw [h0] at hl
   have h5 : n + m = 0 := by
    have := he.hsz
    rcases Nat.eq_zero_or_pos (n + m) with h6 | h6
    ·exact h6
    ·have := Nat.mul_pos h6 this
     simp at hl
     omega
   have key := h none 0 w'
   rw [h5] at key
   rw [h5] at h2
   exact key h2 h3 (by simpa [Value.ownBlock] using h4)
  ·exact h _ _ w' h2 h3 (by simpa [Value.ownBlock] using h4)
end
theorem own_sl {w : World} {base : Nat} {e : TypeId} {size n : Nat} {v : Value} {xs : List Value} (h : w.ownsRow base e size v n xs) : SL w size v n xs := by
 obtain ⟨hl, hh⟩ := h
 rcases hh with ⟨rfl, rfl⟩ | ⟨g, cap, cur, rfl, hb, hg, hn, hm, hc, hx⟩
 ·have : xs = [] := List.eq_nil_of_length_eq_zero (by simpa using hl)
  subst this
  exact SL.nil w size
 ·refine ⟨_, _, rfl, hn, by unfold maxLen at hm; omega, hl, fun _ => ⟨_, rfl, Blk.lt (w := w) (t := e) (cs := cur) hg, fun j u hu => ?_⟩⟩
  have hj : j < xs.length := (List.getElem?_eq_some_iff.1 hu).1
  have e1 : (⟨g, 0, none⟩ : Addr).add j = ⟨g, j, none⟩ := by
   unfold Addr.add
   by_cases h0 : j = 0
   ·subst h0; rfl
   ·rw [if_neg h0]; simp
  rw [e1, cell_of_row w g j cur e (0, 0) hg, ← hu, ← hx, List.getElem?_take_of_lt (by omega)]
  simp
theorem own_snoc {w : World} {base : Nat} {e : TypeId} {v : Value} {L : List Int} {z : Int} (h : w.ownsRow base e 1 v (L.length + 1) (ints L ++ [.int .i64 z])) : w.ownsRow base e 1 v (L ++ [z]).length (ints (L ++ [z])) := by
 simpa [ints] using h
theorem Ext.trans' {a w w' : World} (h : Ext a w) (k : Below a.heap.size w w') : Ext a w' := Below.trans h k
theorem int_one (z : Int) : ∀ u ∈ [Value.int .i64 z], u.oneCell' = true := by
 intro u hu
 simp at hu
 subst hu
 rfl
theorem one_sl (w : World) (T : TypeId) (v : Value) : SL (w.alloc (.cells #[v] T)) 1 (.slice (some ⟨w.heap.size, 0, none⟩) 1 1) 1 [v] := by
 have := (Blk.new w T #[v]).sl (size := 1) (n := 1) (c := 1) rfl (by omega) (by omega)
 simpa using this
theorem own_form {w : World} {base : Nat} {e : TypeId} {size n : Nat} {v : Value} {xs : List Value} (h : w.ownsRow base e size v n xs) : ∃ A c, v = .slice A n c ∧ SL w size (.slice A n c) n xs ∧ ∀ ad, A = some ad → base ≤ ad.block := by
 have hs := own_sl h
 obtain ⟨hl, hh⟩ := h
 rcases hh with ⟨rfl, rfl⟩ | ⟨g, cap, cur, rfl, hb, hg, hn, hm, hc, hx⟩
 ·exact ⟨none, 0, rfl, hs, by intro ad h; cases h⟩
 ·exact ⟨some ⟨g, 0, none⟩, cap, rfl, hs, by intro ad h; injection h with h; subst h; exact hb⟩
theorem SL.far {w : World} {size n c : Nat} {A : Option Addr} {xs : List Value} (h : SL w size (.slice A n c) n xs) {p : Addr} (hne : ∀ ad, A = some ad → ad.block ≠ p.block) (u : Value) : SL (w.setCell p u) size (.slice A n c) n xs := by
 obtain ⟨A', c', e, h1, h1', h2, h3⟩ := h
 injection e with e1 e2 e3
 subst e1 e3
 refine ⟨A, c, rfl, h1, h1', h2, fun hn => ?_⟩
 obtain ⟨ad, ea, hlt, hc⟩ := h3 hn
 exact ⟨ad, ea, by simpa [World.setCell] using hlt, fun j u' hu => (World.cell?_setCell_other w p (ad.add j) u (fun e => hne ad ea (by rw [e, block_of_add]))).trans (hc j u' hu)⟩
structure Upd (S : Nat → Prop) (w w' : World) : Prop where
 os : w'.os = w.os
 tape : w'.tape = w.tape
 output : w'.output = w.output
 size : w.heap.size ≤ w'.heap.size
 block : ∀ b, b < w.heap.size → ¬ S b → w'.heap[b]? = w.heap[b]?
theorem Upd.refl (S : Nat → Prop) (w : World) : Upd S w w := ⟨rfl, rfl, rfl, Nat.le_refl _, fun _ _ _ => rfl⟩
theorem Upd.trans {S S' : Nat → Prop} {a b c : World} (h : Upd S a b) (k : Upd S' b c) (hS : ∀ x, S' x → S x ∨ a.heap.size ≤ x) : Upd S a c :=
 ⟨k.os.trans h.os, k.tape.trans h.tape, k.output.trans h.output, Nat.le_trans h.size k.size, fun x hx hn => by
  have h1 := h.size
  rw [k.block x (by omega) (fun h2 => (hS x h2).elim hn (by omega)), h.block x hx hn]⟩
theorem Upd.of_ext {S : Nat → Prop} {a b : World} (h : Ext a b) : Upd S a b := ⟨h.os, h.tape, h.output, h.size, fun x hx _ => h.block x hx⟩
theorem Upd.below {S : Nat → Prop} {a b : World} {B : Nat} (h : Upd S a b) (hS : ∀ x, S x → B ≤ x) (hB : B ≤ a.heap.size) : Below B a b :=
 ⟨h.os, h.tape, h.output, h.size, fun x hx => h.block x (by omega) (fun h2 => by have := hS x h2; omega)⟩
theorem Upd.setCell {S : Nat → Prop} {a b : World} (h : Upd S a b) {p : Addr} (hp : S p.block) (u : Value) : Upd S a (b.setCell p u) :=
 ⟨h.os, h.tape, h.output, by simpa [World.setCell] using h.size, fun x hx hn => (Below.heap_setCell b p u x (fun e => hn (e ▸ hp))).trans (h.block x hx hn)⟩
theorem Upd.drew {S : Nat → Prop} {a b : World} (h : Upd S a b) : Upd S a b.drew := ⟨h.os, h.tape, h.output, h.size, h.block⟩
theorem Upd.grown {S : Nat → Prop} {a w w' : World} (h : Upd S a w) {row : Option Nat} (hg : w.grownBy w' row) (hr : ∀ b, row = some b → S b ∨ a.heap.size ≤ b) : Upd S a w' :=
 ⟨hg.os.trans h.os, hg.tape.trans h.tape, hg.output.trans h.output, Nat.le_trans h.size hg.size, fun x hx hn => by
  have h1 := h.size
  rw [hg.block x (by omega) (fun h2 => (hr x h2.symm).elim hn (by omega)), h.block x hx hn]⟩
theorem SL.upd {S : Nat → Prop} {w w' : World} {size n c : Nat} {A : Option Addr} {xs : List Value} (h : SL w size (.slice A n c) n xs) (hu : Upd S w w') (hS : ∀ ad, A = some ad → ¬ S ad.block) : SL w' size (.slice A n c) n xs := by
 obtain ⟨A', c', e, h1, h1', h2, h3⟩ := h
 injection e with e1 e2 e3
 subst e1 e3
 refine ⟨A, c, rfl, h1, h1', h2, fun hn => ?_⟩
 obtain ⟨ad, ea, hlt, hc⟩ := h3 hn
 refine ⟨ad, ea, Nat.lt_of_lt_of_le hlt hu.size, fun j u hj => ?_⟩
 rw [← hc j u hj]
 unfold World.cell?
 rw [block_of_add, hu.block _ hlt (hS ad ea)]
theorem Upd.blk {S : Nat → Prop} {w w' : World} {g : Nat} {T : TypeId} {cs : Array Value} (hu : Upd S w w') (h : Blk w g T cs) (hS : ¬ S g) : Blk w' g T cs := (hu.block g h.lt hS).trans h
theorem Upd.ext {S : Nat → Prop} {a w w' : World} (hu : Upd S w w') (h : Ext a w) (hS : ∀ x, S x → a.heap.size ≤ x) : Ext a w' :=
 ⟨hu.os.trans h.os, hu.tape.trans h.tape, hu.output.trans h.output, Nat.le_trans h.size hu.size, fun x hx => by
  have := h.size
  rw [hu.block x (by omega) (fun h2 => by have := hS x h2; omega), h.block x hx]⟩
theorem fold_set (l : List Value) : ∀ (k : Nat) (a : Array Value), a.size = k + l.length → (l.zipIdx k).foldl (fun cs (p : Value × Nat) => cs.setIfInBounds (0 + p.2) p.1) a = (a.toList.take k ++ l).toArray := by
 induction l with
 | nil =>
   intro k a h
   simp at h
   apply Array.ext'
   simp [List.take_of_length_le, h]
 | cons v l ih =>
   intro k a h
   rw [List.zipIdx_cons, List.foldl_cons, ih (k + 1) _ (by simp at h ⊢; omega)]
   apply Array.ext'
   simp only [Nat.zero_add, Array.toList_setIfInBounds]
   have hk : k < a.toList.length := by simp at h ⊢; omega
   rw [List.take_add_one, List.take_set_of_le (by omega), List.getElem?_set_self hk]
   simp
theorem fill_one (v : Value) (n : Nat) (a : Array Value) (hv : v.cells.size = n) (ha : a.size = n) : Instr.fill (fun i => some (i * n, n)) a [(0, v)] = some v.cells := by
 have e : v.cells.zipIdx.foldl (fun cs (p : Value × Nat) => cs.setIfInBounds (0 + p.2) p.1) a = v.cells := by
  have h := fold_set v.cells.toList 0 a (by simp; omega)
  rw [← Array.foldl_toList]
  simpa using h
 simp only [Nat.zero_add] at e
 have e2 : Array.foldl (fun cs (x : Value × Nat) => cs.setIfInBounds x.2 x.1) a v.cells.zipIdx 0 n = v.cells := by
  have hn : n = v.cells.zipIdx.size := by simp [hv]
  rw [hn]
  exact e
 simp [Instr.fill, hv, ha, e2]
theorem builtSlice_one {P : Program} {e : TypeId} {n : Nat} (v : Value) (hs : (P.info? e).map (·.size) = some n) (hz : ((P.info? e).bind (·.zero)).isSome = true) (hv : v.cells.size = n) (h0 : 0 < n) (h1 : n ≤ 16777216) : P.builtSlice e 1 [(0, v)] = some v.cells := by
 unfold Program.builtSlice
 cases hq : P.info? e with
 | none => simp [hq] at hs
 | some i =>
   have hi : i.size = n := by simpa [hq] using hs
   cases hzz : i.zero with
   | none => simp [hq, hzz] at hz
   | some z =>
     simp only [hi, hzz, Nat.one_mul]
     rw [if_neg (by omega)]
     exact fill_one v n _ hv (by simp)
theorem wLit1 {P : Program} {ops : Array Oper} {rest : List Oper} {o : Oper} {a : Act} {w : World} {Q : Exit → Act → World → Prop} (hg : o.guard = none) (t e : TypeId) (x : Operand) (ho : o.op = .buildSlice t 1 #[(0, x)]) (dst : Option Tmp) (hdst : o.dst = dst)
 (ht : P.underlying t = some (.slice e)) (n : Nat) (hs : (P.info? e).map (·.size) = some n) (hz : ((P.info? e).bind (·.zero)).isSome = true) (v : Value) (hx : a.eval x = v) (hv : v.cells.size = n) (h0 : 0 < n) (h1 : n ≤ 16777216)
 (h : ∀ w1 g, Blk w1 g e v.cells → Ext w w1 → w.heap.size ≤ g → wpList P ops Q rest (a.put dst (.slice (some ⟨g, 0, none⟩) 1 1)) w1) : wpList P ops Q (o :: rest) a w := by
 refine Go.Great.wpList_buildSliceTo hg t e 1 #[(0, x)] ho _ rfl dst hdst ht v.cells ?_ (h _ _ (Blk.new w e _) ((Ext.refl w).alloc _) (Nat.le_refl _))
 simp only [List.map_toArray, List.map_cons, List.map_nil, hx]
 exact builtSlice_one v hs hz hv h0 h1
theorem own_keep {w w' : World} {base : Nat} {e : TypeId} {size n : Nat} {v : Value} {xs : List Value} (h : w.ownsRow base e size v n xs) (hb : Ext w w') : w'.ownsRow base e size v n xs := by
 obtain ⟨hl, hh⟩ := h
 refine ⟨hl, ?_⟩
 rcases hh with ⟨rfl, rfl⟩ | ⟨g, cap, cur, rfl, h1, hg, h2⟩
 ·exact .inl ⟨rfl, rfl⟩
 ·exact .inr ⟨g, cap, cur, rfl, h1, (hb.block g (Blk.lt (w := w) (t := e) (cs := cur) hg)).trans hg, h2⟩
theorem own_nil (w : World) (base : Nat) (e : TypeId) (size : Nat) : w.ownsRow base e size (.slice none 0 0) 0 [] := ⟨by simp, .inl ⟨rfl, rfl⟩⟩
theorem ints_one_mem (zs : List Int) : ∀ u ∈ ints zs, u.oneCell' = true := by
 intro u hu
 obtain ⟨z, -, rfl⟩ := List.mem_map.1 hu
 rfl
theorem ints_app (xs ys : List Int) : ints (xs ++ ys) = ints xs ++ ints ys := by simp [ints]
end Go.Proofs.YtkggcjdlpendfaaGreatDoor
