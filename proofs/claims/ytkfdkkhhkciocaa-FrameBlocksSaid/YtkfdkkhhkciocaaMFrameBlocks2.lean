/- Contracts for the law FrameBlocks, part 2: what the functions that it reaches answer, for all arguments that the theorems name. -/
import Derived.Test.YtkfdkkhhkciocaaMFrameBlocks1
/- A region that draws its order and does things to memory: what is fixed may come first; of the others each that may come up is walked. -/
namespace Go.Proofs.Ytkfdkkhhkciocaa
set_option linter.unusedVariables false
set_option linter.unusedSimpArgs false
open Go.RowKit
section
variable {P : Program} {ops : Array Oper} {md : Region.Mode} {I : World → Prop}
/-- operation i is fixed: it yields v in every world that keeps I -/
def Fixed (P : Program) (ops : Array Oper) (I : World → Prop) (o : Oper) (v : Value) (a : Act) : Prop :=
  (Region.wanted o (yielded ops a.tmps) = true ∧ ∀ w, I w → (execOp a.eval o).run P w = .ok (.value v) w) ∨ (Region.wanted o (yielded ops a.tmps) = false ∧ v = undef)
theorem Fixed.of_same {o : Oper} {v : Value} {a a' : Act} (hy : Fixed P ops I o v a) (he : execOp a'.eval o = execOp a.eval o)
    (hw : Region.wanted o (yielded ops a'.tmps) = Region.wanted o (yielded ops a.tmps)) : Fixed P ops I o v a' := by
  unfold Fixed at *
  rw [he, hw]
  exact hy
theorem Fixed.wpOp {i : Nat} {o : Oper} {v : Value} {a : Act} {w : World} {Q : Exit → Act → World → Prop} (hi : ops[i]? = some o) (hy : Fixed P ops I o v a) (hw : I w)
    {K : Act → World → Prop} (h : K (a.put o.dst v) w) : wpOp P ops Q i K a w := by
  unfold Go.wpOp
  simp only [hi]
  rcases hy with ⟨h1, h2⟩ | ⟨h1, rfl⟩
  · simp only [h1, if_true]
    refine .inl ?_
    unfold Oper.wp
    rw [h2 w hw]
    exact h
  · simp only [h1, Bool.false_eq_true, if_false]
    exact h
theorem wpOp_putI {j : Nat} {oi oj : Oper} {v : Value} {Q : Exit → Act → World → Prop} (hj : ops[j]? = some oj) (hap : oi.apart ops oj = true)
    (hsi : ∀ cs b, oi.op ≠ .select cs b) (hsj : ∀ cs b, oj.op ≠ .select cs b)
    (hQ : ∀ c a w, Q (.panic c) (a.put oi.dst v) w → Q (.panic c) a w) {K : Act → World → Prop} {a : Act} {w : World}
    (hy : Fixed P ops I oi v a) (h : wpOp P ops Q j K (a.put oi.dst v) w) :
    wpOp P ops Q j (fun a' w' => Fixed P ops I oi v a' ∧ K (a'.put oi.dst v) w') a w := by
  obtain ⟨h1, h2, h3⟩ := Oper.apart_spec hap
  have keep : ∀ (a : Act), Fixed P ops I oi v a → ∀ u, Fixed P ops I oi v (a.put oj.dst u) := fun a hy u =>
    hy.of_same (execOp_put oi hsi a oj.dst u h3) (wanted_put oi a oj.dst u h3)
  have keepD : ∀ d, Fixed P ops I oi v { a with defers := d :: a.defers } := fun d => hy.of_same rfl rfl
  unfold wpOp at *
  simp only [hj] at *
  rw [wanted_put oj a oi.dst v h1] at h
  split
  · rename_i hw
    simp only [hw, if_true] at h
    rcases h with h | ⟨hasks, hlets⟩
    case inr => exact .inr ⟨by unfold Oper.asks at *; rw [execOp_put oj hsj a oi.dst v h1] at hasks; exact hasks, hlets⟩
    refine .inl ?_
    unfold Oper.wp at *
    rw [execOp_put oj hsj a oi.dst v h1] at h
    generalize (execOp a.eval oj).run P w = r at *
    cases r with
    | ok n w' =>
      cases n <;> simp only [Oper.upon] at h ⊢
      case value u => exact ⟨keep a hy u, by rw [← Act.put_comm a v u h2]; exact h⟩
      case skip => exact ⟨keep a hy _, by rw [← Act.put_comm a v undef h2]; exact h⟩
      case defer d =>
        refine ⟨keep _ (keepD d) _, ?_⟩
        rw [← Act.put_comm _ v undef h2, ← Act.put_defers]
        exact h
      case enter f args =>
        refine Calls.mono h fun e w'' he => ?_
        cases e with
        | returned u => exact ⟨keep a hy u, by rw [← Act.put_comm a v u h2]; exact he⟩
        | panicked c => exact hQ _ _ _ he
        | outgrown => exact he
      case row row args => exact Rows.mono h fun u w'' he => ⟨keep a hy u, by rw [← Act.put_comm a v u h2]; exact he⟩
    | halt x w' =>
      cases x <;> simp only [Oper.upon] at h ⊢
      case panic u => exact hQ _ _ _ h
  · rename_i hw
    simp only [hw] at h
    exact ⟨keep a hy _, by rw [← Act.put_comm a v undef h2]; exact h⟩
/-- whatever order is picked from here on; I is kept -/
def wpAnyI (P : Program) (md : Region.Mode) (ops : Array Oper) (I : World → Prop) (QN : Act → World → Prop) : Nat → Array Bool → Act → World → Prop
  | 0, listed, a, w => Region.ready md ops listed = [] ∧ QN a w
  | f + 1, listed, a, w => (Region.ready md ops listed = [] → QN a w) ∧
    ∀ i ∈ Region.ready md ops listed, wpOp P ops (onlyN QN) i (fun a' w' => I w' ∧ wpAnyI P md ops I QN f (listed.setIfInBounds i true) a' w') a w
variable {QN : Act → World → Prop}
theorem wpAny_of_I : ∀ (f : Nat) (listed : Array Bool) (a : Act) (w : World), wpAnyI P md ops I QN f listed a w → wpAny P md ops (onlyN QN) f listed a w
  | 0, _, _, _, h => ⟨h.1, h.2⟩
  | f + 1, _, _, _, h => ⟨fun h0 => h.1 h0, fun i hi => wpOp_mono (fun a' w' h' => wpAny_of_I f _ a' w' h'.2) (h.2 i hi)⟩
theorem wpAnyI_first {i : Nat} {oi : Oper} {v : Value} (hi : ops[i]? = some oi) (hsel : ∀ (j : Nat) (o : Oper) cs b, ops[j]? = some o → o.op ≠ .select cs b) :
    ∀ (fuel : Nat) (listed : Array Bool) (a : Act) (w : World),
      (∀ j oj, ops[j]? = some oj → j ≠ i → listed.getD j true = false → (∀ e ∈ oj.after, Region.binds md e = true → e.on ≠ i) → oi.apart ops oj = true) →
      i ∈ Region.ready md ops listed → Fixed P ops I oi v a → I w →
      wpAnyI P md ops I QN fuel (listed.setIfInBounds i true) (a.put oi.dst v) w → wpAnyI P md ops I QN (fuel + 1) listed a w := by
  intro fuel
  induction fuel with
  | zero =>
    intro listed a w _ hr hy hI H
    refine ⟨fun h => (by rw [h] at hr; cases hr), fun j hj => ?_⟩
    by_cases hji : j = i
    · subst hji; exact hy.wpOp hi hI ⟨hI, H⟩
    · have := ready_mono hj hji
      rw [H.1] at this
      cases this
  | succ fuel ih =>
    intro listed a w hfree hr hy hI H
    refine ⟨fun h => (by rw [h] at hr; cases hr), fun j hj => ?_⟩
    by_cases hji : j = i
    · subst hji; exact hy.wpOp hi hI ⟨hI, H⟩
    · have h1 := H.2 j (ready_mono hj hji)
      obtain ⟨hjun, oj, hoj, hall⟩ := mem_ready.1 hj
      have hnot : ∀ e ∈ oj.after, Region.binds md e = true → e.on ≠ i := fun e he hb heq => by
        have h1 := hall e he hb
        have h0 := (mem_ready.1 hr).1
        rw [heq] at h1
        rcases Nat.lt_or_ge i listed.size with h' | h'
        · simp [h'] at h0 h1; rw [h0] at h1; cases h1
        · simp [Array.getElem?_eq_none h'] at h1
      have h2 := wpOp_putI hoj (hfree j oj hoj hji hjun hnot) (fun cs b => hsel i oi cs b hi) (fun cs b => hsel j oj cs b hoj) (fun _ _ _ h => h) hy h1
      have hfree' : ∀ k ok, ops[k]? = some ok → k ≠ i → (listed.setIfInBounds j true).getD k true = false →
          (∀ e ∈ ok.after, Region.binds md e = true → e.on ≠ i) → oi.apart ops ok = true := fun k ok hk hki hun hno => by
        refine hfree k ok hk hki ?_ hno
        by_cases hjk : j = k
        · subst hjk; exact hjun
        · rw [getD_set_ne true hjk] at hun; exact hun
      refine wpOp_mono (fun a' w' h3 => ⟨h3.2.1, ih (listed.setIfInBounds j true) a' w' hfree' (ready_mono hr (Ne.symm hji)) h3.1 h3.2.1 ?_⟩) h2
      rw [Array.setIfInBounds_comm _ _ hji]
      exact h3.2.2
/-- one operation alone, walked as a list of one -/
theorem wpOp_of_list {i : Nat} {o : Oper} {K : Act → World → Prop} {Q : Exit → Act → World → Prop} {a : Act} {w : World} (ho : ops[i]? = some o) (h : wpList P ops (onlyN K) [o] a w) : wpOp P ops Q i K a w := by
  refine wpOp_exit (QN := K) ?_
  unfold wpOp
  simp only [ho]
  exact h
theorem oi_loud0 {k f : Nat} {o : Oper} {listed : Array Bool} {a : Act} {w : World} (hone : Region.ready md ops listed = [k]) (ho : ops[k]? = some o)
    (h : wpList P ops (onlyN fun a' w' => I w' ∧ wpAnyI P md ops I QN f (listed.setIfInBounds k true) a' w') [o] a w) : wpAnyI P md ops I QN (f + 1) listed a w :=
  ⟨fun h0 => (by rw [h0] at hone; cases hone), fun i hi => by
    rw [hone] at hi
    have hik : i = k := by simpa using hi
    subst hik
    exact wpOp_of_list ho h⟩
theorem oi_two0 {k l f : Nat} {o o2 : Oper} {listed : Array Bool} {a : Act} {w : World} (hone : Region.ready md ops listed = [k, l]) (ho : ops[k]? = some o) (ho2 : ops[l]? = some o2)
    (h : wpList P ops (onlyN fun a' w' => I w' ∧ wpAnyI P md ops I QN f (listed.setIfInBounds k true) a' w') [o] a w)
    (h2 : wpList P ops (onlyN fun a' w' => I w' ∧ wpAnyI P md ops I QN f (listed.setIfInBounds l true) a' w') [o2] a w) : wpAnyI P md ops I QN (f + 1) listed a w :=
  ⟨fun h0 => (by rw [h0] at hone; cases hone), fun i hi => by
    rw [hone] at hi
    have hik : i = k ∨ i = l := by simpa using hi
    rcases hik with rfl | rfl
    · exact wpOp_of_list ho h
    · exact wpOp_of_list ho2 h2⟩
theorem oi_fix0 {k f : Nat} {o : Oper} {listed : Array Bool} {a : Act} {w : World} (hB : ((Region.ready md ops listed).contains k && Region.free md ops listed k && Region.noSelect ops) = true) (ho : ops[k]? = some o)
    (hw : Region.wanted o (yielded ops a.tmps) = true) (v : Value) (h1 : ∀ w, I w → (execOp a.eval o).run P w = .ok (.value v) w) (hI : I w)
    (h : wpAnyI P md ops I QN f (listed.setIfInBounds k true) (a.put o.dst v) w) : wpAnyI P md ops I QN (f + 1) listed a w := by
  simp only [Bool.and_eq_true] at hB
  exact wpAnyI_first ho (Region.noSelect_spec hB.2) f listed a w (Region.free_spec ho hB.1.2) (by simpa using hB.1.1) (.inl ⟨hw, h1⟩) hI h
section
variable {l0 : List Oper}
theorem oi_fix {k f : Nat} {o : Oper} {listed : Array Bool} {a : Act} {w : World} (hB : ((Region.ready md l0.toArray listed).contains k && Region.free md l0.toArray listed k && Region.noSelect l0.toArray) = true) (ho : l0[k]? = some o)
    (hw : Region.wanted o (yielded l0.toArray a.tmps) = true) (v : Value) (h1 : ∀ w, I w → (execOp a.eval o).run P w = .ok (.value v) w) (hI : I w)
    (h : wpAnyI P md l0.toArray I QN f (listed.setIfInBounds k true) (a.put o.dst v) w) : wpAnyI P md l0.toArray I QN (f + 1) listed a w := oi_fix0 hB (by simpa using ho) hw v h1 hI h
theorem oi_run {k f : Nat} {o : Oper} {listed : Array Bool} {a : Act} {w : World} (hB : ((Region.ready md l0.toArray listed).contains k && Region.free md l0.toArray listed k && Region.noSelect l0.toArray) = true) (ho : l0[k]? = some o)
    (hw : Region.wanted o (yielded l0.toArray a.tmps) = true) (v : Value) (h1 : ∀ w, (execOp a.eval o).run P w = .ok (.value v) w) (hI : I w)
    (h : wpAnyI P md l0.toArray I QN f (listed.setIfInBounds k true) (a.put o.dst v) w) : wpAnyI P md l0.toArray I QN (f + 1) listed a w := oi_fix hB ho hw v (fun w _ => h1 w) hI h
theorem oi_loud {k f : Nat} {o : Oper} {listed : Array Bool} {a : Act} {w : World} (hone : Region.ready md l0.toArray listed = [k]) (ho : l0[k]? = some o)
    (h : wpList P l0.toArray (onlyN fun a' w' => I w' ∧ wpAnyI P md l0.toArray I QN f (listed.setIfInBounds k true) a' w') [o] a w) : wpAnyI P md l0.toArray I QN (f + 1) listed a w := oi_loud0 hone (by simpa using ho) h
theorem oi_two {k l f : Nat} {o o2 : Oper} {listed : Array Bool} {a : Act} {w : World} (hone : Region.ready md l0.toArray listed = [k, l]) (ho : l0[k]? = some o) (ho2 : l0[l]? = some o2)
    (h : wpList P l0.toArray (onlyN fun a' w' => I w' ∧ wpAnyI P md l0.toArray I QN f (listed.setIfInBounds k true) a' w') [o] a w)
    (h2 : wpList P l0.toArray (onlyN fun a' w' => I w' ∧ wpAnyI P md l0.toArray I QN f (listed.setIfInBounds l true) a' w') [o2] a w) : wpAnyI P md l0.toArray I QN (f + 1) listed a w := oi_two0 hone (by simpa using ho) (by simpa using ho2) h h2
end
theorem wp_region_oi (I : World → Prop) {id : Nat} {a : Act} {w : World} {l : List Oper} {Q : Exit → Act → World → Prop} (hm : P.follows .mixedOrders = true)
    (h : wpAnyI P .any l.toArray I (fun a w => Q .normal a w) l.length (Array.replicate l.length false) a w.drew) : (Code.region id l.toArray true).wp P Q a w := by
  refine Code.wp_mono (Q := onlyN (fun a w => Q .normal a w)) (fun e a w h => ?_) (wp_region_any hm (wpAny_of_I _ _ _ _ (by simpa using h)))
  cases e <;> first | exact h | exact (h : False).elim
theorem oi_done {listed : Array Bool} {a : Act} {w : World} (hone : Region.ready md ops listed = []) (h : QN a w) : wpAnyI P md ops I QN 0 listed a w := ⟨hone, h⟩
end
end Go.Proofs.Ytkfdkkhhkciocaa
/- As XOrders; but only the operations that F names keep I: those that wait for each of the fixed ones need not. -/
namespace Go.Proofs.Ytkfdkkhhkciocaa
set_option linter.unusedVariables false
set_option linter.unusedSimpArgs false
open Go.RowKit
section
variable {P : Program} {ops : Array Oper} {md : Region.Mode} {F : Nat → Bool} {I : World → Prop}
/-- whatever order is picked from here on; I is kept -/
def wpAnyF (P : Program) (md : Region.Mode) (ops : Array Oper) (F : Nat → Bool) (I : World → Prop) (QN : Act → World → Prop) : Nat → Array Bool → Act → World → Prop
  | 0, listed, a, w => Region.ready md ops listed = [] ∧ QN a w
  | f + 1, listed, a, w => (Region.ready md ops listed = [] → QN a w) ∧
    ∀ i ∈ Region.ready md ops listed, wpOp P ops (onlyN QN) i (fun a' w' => (F i = true → I w') ∧ wpAnyF P md ops F I QN f (listed.setIfInBounds i true) a' w') a w
variable {QN : Act → World → Prop}
/-- each operation that F leaves out waits for operation k -/
def keepsB (md : Region.Mode) (ops : Array Oper) (F : Nat → Bool) (k : Nat) : Bool :=
  (List.range ops.size).all fun j => F j || match ops[j]? with | some oj => oj.after.any (fun e => Region.binds md e && e.on == k) | none => true
theorem keepsB_spec {k : Nat} (h : keepsB md ops F k = true) : ∀ j oj, ops[j]? = some oj → F j = false → ∃ e ∈ oj.after, Region.binds md e = true ∧ e.on = k := by
  intro j oj hj hF
  unfold keepsB at h
  rw [List.all_eq_true] at h
  have hjs : j < ops.size := (Array.getElem?_eq_some_iff.1 hj).1
  have := h j (List.mem_range.2 hjs)
  rw [hF, hj, Bool.false_or] at this
  simp only [Array.any_eq_true] at this
  obtain ⟨x, hx, h2⟩ := this
  simp only [Bool.and_eq_true, beq_iff_eq] at h2
  exact ⟨oj.after[x], Array.getElem_mem hx, h2.1, h2.2⟩
theorem wpAny_of_F : ∀ (f : Nat) (listed : Array Bool) (a : Act) (w : World), wpAnyF P md ops F I QN f listed a w → wpAny P md ops (onlyN QN) f listed a w
  | 0, _, _, _, h => ⟨h.1, h.2⟩
  | f + 1, _, _, _, h => ⟨fun h0 => h.1 h0, fun i hi => wpOp_mono (fun a' w' h' => wpAny_of_F f _ a' w' h'.2) (h.2 i hi)⟩
theorem wpAnyF_first {i : Nat} {oi : Oper} {v : Value} (hF : ∀ j oj, ops[j]? = some oj → F j = false → ∃ e ∈ oj.after, Region.binds md e = true ∧ e.on = i) (hi : ops[i]? = some oi) (hsel : ∀ (j : Nat) (o : Oper) cs b, ops[j]? = some o → o.op ≠ .select cs b) :
    ∀ (fuel : Nat) (listed : Array Bool) (a : Act) (w : World),
      (∀ j oj, ops[j]? = some oj → j ≠ i → listed.getD j true = false → (∀ e ∈ oj.after, Region.binds md e = true → e.on ≠ i) → oi.apart ops oj = true) →
      i ∈ Region.ready md ops listed → Fixed P ops I oi v a → I w →
      wpAnyF P md ops F I QN fuel (listed.setIfInBounds i true) (a.put oi.dst v) w → wpAnyF P md ops F I QN (fuel + 1) listed a w := by
  intro fuel
  induction fuel with
  | zero =>
    intro listed a w _ hr hy hI H
    refine ⟨fun h => (by rw [h] at hr; cases hr), fun j hj => ?_⟩
    by_cases hji : j = i
    · subst hji; exact hy.wpOp hi hI ⟨fun _ => hI, H⟩
    · have := ready_mono hj hji
      rw [H.1] at this
      cases this
  | succ fuel ih =>
    intro listed a w hfree hr hy hI H
    refine ⟨fun h => (by rw [h] at hr; cases hr), fun j hj => ?_⟩
    by_cases hji : j = i
    · subst hji; exact hy.wpOp hi hI ⟨fun _ => hI, H⟩
    · have h1 := H.2 j (ready_mono hj hji)
      obtain ⟨hjun, oj, hoj, hall⟩ := mem_ready.1 hj
      have hnot : ∀ e ∈ oj.after, Region.binds md e = true → e.on ≠ i := fun e he hb heq => by
        have h1 := hall e he hb
        have h0 := (mem_ready.1 hr).1
        rw [heq] at h1
        rcases Nat.lt_or_ge i listed.size with h' | h'
        · simp [h'] at h0 h1; rw [h0] at h1; cases h1
        · simp [Array.getElem?_eq_none h'] at h1
      have hFj : F j = true := by
        cases hq : F j with
        | true => rfl
        | false =>
          obtain ⟨e, he, hb, heq⟩ := hF j oj hoj hq
          exact absurd heq (hnot e he hb)
      have h2 := wpOp_putI hoj (hfree j oj hoj hji hjun hnot) (fun cs b => hsel i oi cs b hi) (fun cs b => hsel j oj cs b hoj) (fun _ _ _ h => h) hy h1
      have hfree' : ∀ k ok, ops[k]? = some ok → k ≠ i → (listed.setIfInBounds j true).getD k true = false →
          (∀ e ∈ ok.after, Region.binds md e = true → e.on ≠ i) → oi.apart ops ok = true := fun k ok hk hki hun hno => by
        refine hfree k ok hk hki ?_ hno
        by_cases hjk : j = k
        · subst hjk; exact hjun
        · rw [getD_set_ne true hjk] at hun; exact hun
      refine wpOp_mono (fun a' w' h3 => ⟨h3.2.1, ih (listed.setIfInBounds j true) a' w' hfree' (ready_mono hr (Ne.symm hji)) h3.1 (h3.2.1 hFj) ?_⟩) h2
      rw [Array.setIfInBounds_comm _ _ hji]
      exact h3.2.2
theorem of_loud0 {k f : Nat} {o : Oper} {listed : Array Bool} {a : Act} {w : World} (hone : Region.ready md ops listed = [k]) (ho : ops[k]? = some o)
    (h : wpList P ops (onlyN fun a' w' => (F k = true → I w') ∧ wpAnyF P md ops F I QN f (listed.setIfInBounds k true) a' w') [o] a w) : wpAnyF P md ops F I QN (f + 1) listed a w :=
  ⟨fun h0 => (by rw [h0] at hone; cases hone), fun i hi => by
    rw [hone] at hi
    have hik : i = k := by simpa using hi
    subst hik
    exact wpOp_of_list ho h⟩
theorem of_two0 {k l f : Nat} {o o2 : Oper} {listed : Array Bool} {a : Act} {w : World} (hone : Region.ready md ops listed = [k, l]) (ho : ops[k]? = some o) (ho2 : ops[l]? = some o2)
    (h : wpList P ops (onlyN fun a' w' => (F k = true → I w') ∧ wpAnyF P md ops F I QN f (listed.setIfInBounds k true) a' w') [o] a w)
    (h2 : wpList P ops (onlyN fun a' w' => (F l = true → I w') ∧ wpAnyF P md ops F I QN f (listed.setIfInBounds l true) a' w') [o2] a w) : wpAnyF P md ops F I QN (f + 1) listed a w :=
  ⟨fun h0 => (by rw [h0] at hone; cases hone), fun i hi => by
    rw [hone] at hi
    have hik : i = k ∨ i = l := by simpa using hi
    rcases hik with rfl | rfl
    · exact wpOp_of_list ho h
    · exact wpOp_of_list ho2 h2⟩
theorem of_fix0 {k f : Nat} {o : Oper} {listed : Array Bool} {a : Act} {w : World} (hB : ((Region.ready md ops listed).contains k && Region.free md ops listed k && Region.noSelect ops && keepsB md ops F k) = true) (ho : ops[k]? = some o)
    (hw : Region.wanted o (yielded ops a.tmps) = true) (v : Value) (h1 : ∀ w, I w → (execOp a.eval o).run P w = .ok (.value v) w) (hI : I w)
    (h : wpAnyF P md ops F I QN f (listed.setIfInBounds k true) (a.put o.dst v) w) : wpAnyF P md ops F I QN (f + 1) listed a w := by
  simp only [Bool.and_eq_true] at hB
  exact wpAnyF_first (keepsB_spec hB.2) ho (Region.noSelect_spec hB.1.2) f listed a w (Region.free_spec ho hB.1.1.2) (by simpa using hB.1.1.1) (.inl ⟨hw, h1⟩) hI h
section
variable {l0 : List Oper}
theorem of_fix {k f : Nat} {o : Oper} {listed : Array Bool} {a : Act} {w : World} (hB : ((Region.ready md l0.toArray listed).contains k && Region.free md l0.toArray listed k && Region.noSelect l0.toArray && keepsB md l0.toArray F k) = true) (ho : l0[k]? = some o)
    (hw : Region.wanted o (yielded l0.toArray a.tmps) = true) (v : Value) (h1 : ∀ w, I w → (execOp a.eval o).run P w = .ok (.value v) w) (hI : I w)
    (h : wpAnyF P md l0.toArray F I QN f (listed.setIfInBounds k true) (a.put o.dst v) w) : wpAnyF P md l0.toArray F I QN (f + 1) listed a w := of_fix0 hB (by simpa using ho) hw v h1 hI h
theorem of_run {k f : Nat} {o : Oper} {listed : Array Bool} {a : Act} {w : World} (hB : ((Region.ready md l0.toArray listed).contains k && Region.free md l0.toArray listed k && Region.noSelect l0.toArray && keepsB md l0.toArray F k) = true) (ho : l0[k]? = some o)
    (hw : Region.wanted o (yielded l0.toArray a.tmps) = true) (v : Value) (h1 : ∀ w, (execOp a.eval o).run P w = .ok (.value v) w) (hI : I w)
    (h : wpAnyF P md l0.toArray F I QN f (listed.setIfInBounds k true) (a.put o.dst v) w) : wpAnyF P md l0.toArray F I QN (f + 1) listed a w := of_fix hB ho hw v (fun w _ => h1 w) hI h
theorem of_loud {k f : Nat} {o : Oper} {listed : Array Bool} {a : Act} {w : World} (hone : Region.ready md l0.toArray listed = [k]) (ho : l0[k]? = some o)
    (h : wpList P l0.toArray (onlyN fun a' w' => (F k = true → I w') ∧ wpAnyF P md l0.toArray F I QN f (listed.setIfInBounds k true) a' w') [o] a w) : wpAnyF P md l0.toArray F I QN (f + 1) listed a w := of_loud0 hone (by simpa using ho) h
theorem of_two {k l f : Nat} {o o2 : Oper} {listed : Array Bool} {a : Act} {w : World} (hone : Region.ready md l0.toArray listed = [k, l]) (ho : l0[k]? = some o) (ho2 : l0[l]? = some o2)
    (h : wpList P l0.toArray (onlyN fun a' w' => (F k = true → I w') ∧ wpAnyF P md l0.toArray F I QN f (listed.setIfInBounds k true) a' w') [o] a w)
    (h2 : wpList P l0.toArray (onlyN fun a' w' => (F l = true → I w') ∧ wpAnyF P md l0.toArray F I QN f (listed.setIfInBounds l true) a' w') [o2] a w) : wpAnyF P md l0.toArray F I QN (f + 1) listed a w := of_two0 hone (by simpa using ho) (by simpa using ho2) h h2
end
theorem wp_region_of (F : Nat → Bool) (I : World → Prop) {id : Nat} {a : Act} {w : World} {l : List Oper} {Q : Exit → Act → World → Prop} (hm : P.follows .mixedOrders = true)
    (h : wpAnyF P .any l.toArray F I (fun a w => Q .normal a w) l.length (Array.replicate l.length false) a w.drew) : (Code.region id l.toArray true).wp P Q a w := by
  refine Code.wp_mono (Q := onlyN (fun a w => Q .normal a w)) (fun e a w h => ?_) (wp_region_any hm (wpAny_of_F _ _ _ _ (by simpa using h)))
  cases e <;> first | exact h | exact (h : False).elim
theorem of_done {listed : Array Bool} {a : Act} {w : World} (hone : Region.ready md ops listed = []) (h : QN a w) : wpAnyF P md ops F I QN 0 listed a w := ⟨hone, h⟩
end
end Go.Proofs.Ytkfdkkhhkciocaa
/- As XOrdersF: an operation that reads nothing may come first whatever else is under way; those that are done already need not wait for a fixed one. -/
namespace Go.Proofs.Ytkfdkkhhkciocaa
set_option linter.unusedVariables false
set_option linter.unusedSimpArgs false
open Go.RowKit
section
variable {P : Program} {ops : Array Oper} {md : Region.Mode} {F : Nat → Bool} {I : World → Prop} {QN : Act → World → Prop}
theorem wpAnyG_first {J : World → Prop} {i : Nat} {oi : Oper} {v : Value} (Wt : Nat → Bool) (hWt : ∀ j oj, ops[j]? = some oj → Wt j = true → ∃ e ∈ oj.after, Region.binds md e = true ∧ (e.on = i ∨ Wt e.on = true)) (hi : ops[i]? = some oi) (hsel : ∀ (j : Nat) (o : Oper) cs b, ops[j]? = some o → o.op ≠ .select cs b) :
    ∀ (fuel : Nat) (listed : Array Bool) (a : Act) (w : World),
      (∀ j, Wt j = true → listed.getD j true = false) →
      (∀ w, J w → F i = true → I w) → (∀ w, (∀ j oj, ops[j]? = some oj → listed.getD j true = false → j ≠ i → Wt j = true ∨ ∀ w', (F j = true → I w') → J w → J w')) →
      (∀ j oj, ops[j]? = some oj → j ≠ i → listed.getD j true = false → (∀ e ∈ oj.after, Region.binds md e = true → e.on ≠ i) → oi.apart ops oj = true) →
      i ∈ Region.ready md ops listed → Fixed P ops J oi v a → J w →
      wpAnyF P md ops F I QN fuel (listed.setIfInBounds i true) (a.put oi.dst v) w → wpAnyF P md ops F I QN (fuel + 1) listed a w := by
  intro fuel
  induction fuel with
  | zero =>
    intro listed a w hL hJI _ _ hr hy hI H
    refine ⟨fun h => (by rw [h] at hr; cases hr), fun j hj => ?_⟩
    by_cases hji : j = i
    · subst hji; exact hy.wpOp hi hI ⟨hJI w hI, H⟩
    · have := ready_mono hj hji
      rw [H.1] at this
      cases this
  | succ fuel ih =>
    intro listed a w hL hJI hK hfree hr hy hI H
    refine ⟨fun h => (by rw [h] at hr; cases hr), fun j hj => ?_⟩
    by_cases hji : j = i
    · subst hji; exact hy.wpOp hi hI ⟨hJI w hI, H⟩
    · have h1 := H.2 j (ready_mono hj hji)
      obtain ⟨hjun, oj, hoj, hall⟩ := mem_ready.1 hj
      have hnot : ∀ e ∈ oj.after, Region.binds md e = true → e.on ≠ i := fun e he hb heq => by
        have h1 := hall e he hb
        have h0 := (mem_ready.1 hr).1
        rw [heq] at h1
        rcases Nat.lt_or_ge i listed.size with h' | h'
        · simp [h'] at h0 h1; rw [h0] at h1; cases h1
        · simp [Array.getElem?_eq_none h'] at h1
      have hjW : Wt j ≠ true := fun hW => by
        obtain ⟨e, he, hb, h⟩ := hWt j oj hoj hW
        rcases h with heq | h
        · exact hnot e he hb heq
        · have h1 := hall e he hb
          have h2 := hL e.on h
          rcases Nat.lt_or_ge e.on listed.size with h' | h'
          · simp [h'] at h1 h2; rw [h2] at h1; cases h1
          · simp [Array.getElem?_eq_none h'] at h2
      have hstep : ∀ w', (F j = true → I w') → J w → J w' := by
        rcases hK w j oj hoj hjun hji with h | h
        · exact absurd h hjW
        · exact h
      have h2 := wpOp_putI hoj (hfree j oj hoj hji hjun hnot) (fun cs b => hsel i oi cs b hi) (fun cs b => hsel j oj cs b hoj) (fun _ _ _ h => h) hy h1
      have hun' : ∀ k, (listed.setIfInBounds j true).getD k true = false → listed.getD k true = false := fun k hun => by
        by_cases hjk : j = k
        · subst hjk; exact hjun
        · rwa [getD_set_ne true hjk] at hun
      have hfree' : ∀ k ok, ops[k]? = some ok → k ≠ i → (listed.setIfInBounds j true).getD k true = false →
          (∀ e ∈ ok.after, Region.binds md e = true → e.on ≠ i) → oi.apart ops ok = true := fun k ok hk hki hun hno => hfree k ok hk hki (hun' k hun) hno
      refine wpOp_mono (fun a' w' h3 => ⟨h3.2.1, ih (listed.setIfInBounds j true) a' w' (fun k hk => by
        have hkj : j ≠ k := fun h => hjW (h ▸ hk)
        rw [getD_set_ne true hkj]; exact hL k hk) hJI (fun w2 k ok hk hun hki => hK w2 k ok hk (hun' k hun) hki) hfree' (ready_mono hr (Ne.symm hji)) h3.1 (hstep w' h3.2.1 hI) ?_⟩) h2
      rw [Array.setIfInBounds_comm _ _ hji]
      exact h3.2.2
/-- the operations that wait for operation k, by roads of edges -/
def roads (md : Region.Mode) (ops : Array Oper) (k : Nat) : List Nat :=
  (List.range ops.size).foldl (fun L j => match ops[j]? with | some oj => if oj.after.any (fun e => Region.binds md e && (e.on == k || L.contains e.on)) then j :: L else L | none => L) []
def roadsOK (md : Region.Mode) (ops : Array Oper) (listed : Array Bool) (k : Nat) (L : List Nat) : Bool :=
  L.all fun j => !(listed.getD j true) && match ops[j]? with | some oj => oj.after.any (fun e => Region.binds md e && (e.on == k || L.contains e.on)) | none => false
/-- each operation that is not done yet, and that F leaves out, waits for operation k -/
def keepsL (md : Region.Mode) (ops : Array Oper) (F : Nat → Bool) (listed : Array Bool) (k : Nat) : Bool :=
  roadsOK md ops listed k (roads md ops k) && (List.range ops.size).all fun j => F j || listed.getD j true || j == k || (roads md ops k).contains j
theorem roadsOK_spec {listed : Array Bool} {k : Nat} {L : List Nat} (h : roadsOK md ops listed k L = true) : (∀ j oj, ops[j]? = some oj → L.contains j = true → ∃ e ∈ oj.after, Region.binds md e = true ∧ (e.on = k ∨ L.contains e.on = true)) ∧ ∀ j, L.contains j = true → listed.getD j true = false := by
  unfold roadsOK at h
  rw [List.all_eq_true] at h
  refine ⟨fun j oj hj hc => ?_, fun j hc => ?_⟩
  · have := h j (by simpa using hc)
    rw [hj] at this
    simp only [Bool.and_eq_true, Array.any_eq_true] at this
    obtain ⟨-, x, hx, h2⟩ := this
    simp only [Bool.or_eq_true, beq_iff_eq] at h2
    exact ⟨oj.after[x], Array.getElem_mem hx, h2.1, h2.2⟩
  · have := h j (by simpa using hc)
    rw [Bool.and_eq_true] at this
    simpa using this.1
theorem keepsL_spec {listed : Array Bool} {k : Nat} (h : keepsL md ops F listed k = true) : ∀ j oj, ops[j]? = some oj → listed.getD j true = false → j ≠ k → F j = false → (roads md ops k).contains j = true := by
  intro j oj hj hl hjk hF
  unfold keepsL at h
  rw [Bool.and_eq_true, List.all_eq_true] at h
  have hjs : j < ops.size := (Array.getElem?_eq_some_iff.1 hj).1
  have := h.2 j (List.mem_range.2 hjs)
  rw [hF, hl, Bool.false_or, Bool.false_or, show (j == k) = false by simpa using hjk, Bool.false_or] at this
  exact this
section
variable {l0 : List Oper}
/-- a read whose value each world of I gives -/
theorem og_fix {k f : Nat} {o : Oper} {listed : Array Bool} {a : Act} {w : World} (hB : ((Region.ready md l0.toArray listed).contains k && Region.free md l0.toArray listed k && Region.noSelect l0.toArray && keepsL md l0.toArray F listed k) = true) (ho : l0[k]? = some o)
    (hw : Region.wanted o (yielded l0.toArray a.tmps) = true) (v : Value) (h1 : ∀ w, I w → (execOp a.eval o).run P w = .ok (.value v) w) (hI : I w)
    (h : wpAnyF P md l0.toArray F I QN f (listed.setIfInBounds k true) (a.put o.dst v) w) : wpAnyF P md l0.toArray F I QN (f + 1) listed a w := by
  simp only [Bool.and_eq_true] at hB
  have hR : roadsOK md l0.toArray listed k (roads md l0.toArray k) = true := by
    have := hB.2
    unfold keepsL at this
    rw [Bool.and_eq_true] at this
    exact this.1
  have hK : ∀ w j oj, l0.toArray[j]? = some oj → listed.getD j true = false → j ≠ k → (roads md l0.toArray k).contains j = true ∨ ∀ w', (F j = true → I w') → I w → I w' := fun w j oj hj hl hjk => by
    cases hF : F j with
    | true => exact .inr fun w' h _ => h rfl
    | false => exact .inl (keepsL_spec hB.2 j oj hj hl hjk hF)
  have ho' : l0.toArray[k]? = some o := by simpa using ho
  exact wpAnyG_first (J := I) (fun j => (roads md l0.toArray k).contains j) (roadsOK_spec hR).1 ho' (Region.noSelect_spec hB.1.2) f listed a w (roadsOK_spec hR).2 (fun _ h _ => h) hK (Region.free_spec ho' hB.1.1.2) (by simpa using hB.1.1.1) (.inl ⟨hw, h1⟩) hI h
/-- an operation that reads nothing, of those that F leaves out -/
theorem og_pure {k f : Nat} {o : Oper} {listed : Array Bool} {a : Act} {w : World} (hB : ((Region.ready md l0.toArray listed).contains k && Region.free md l0.toArray listed k && Region.noSelect l0.toArray && !F k) = true) (ho : l0[k]? = some o)
    (hw : Region.wanted o (yielded l0.toArray a.tmps) = true) (v : Value) (h1 : ∀ w, (execOp a.eval o).run P w = .ok (.value v) w)
    (h : wpAnyF P md l0.toArray F I QN f (listed.setIfInBounds k true) (a.put o.dst v) w) : wpAnyF P md l0.toArray F I QN (f + 1) listed a w := by
  simp only [Bool.and_eq_true] at hB
  have hF : F k = false := by simpa using hB.2
  have ho' : l0.toArray[k]? = some o := by simpa using ho
  exact wpAnyG_first (J := fun _ => True) (fun _ => false) (fun _ _ _ h => by cases h) ho' (Region.noSelect_spec hB.1.2) f listed a w (fun _ h => by cases h) (fun _ _ h => by rw [hF] at h; cases h) (fun _ _ _ _ _ _ => .inr fun _ _ _ => trivial) (Region.free_spec ho' hB.1.1.2) (by simpa using hB.1.1.1) (.inl ⟨hw, fun w _ => h1 w⟩) trivial h
theorem og_run {k f : Nat} {o : Oper} {listed : Array Bool} {a : Act} {w : World} (hB : ((Region.ready md l0.toArray listed).contains k && Region.free md l0.toArray listed k && Region.noSelect l0.toArray && keepsL md l0.toArray F listed k) = true) (ho : l0[k]? = some o)
    (hw : Region.wanted o (yielded l0.toArray a.tmps) = true) (v : Value) (h1 : ∀ w, (execOp a.eval o).run P w = .ok (.value v) w) (hI : I w)
    (h : wpAnyF P md l0.toArray F I QN f (listed.setIfInBounds k true) (a.put o.dst v) w) : wpAnyF P md l0.toArray F I QN (f + 1) listed a w := og_fix hB ho hw v (fun w _ => h1 w) hI h
theorem og_three {k l m f : Nat} {o o2 o3 : Oper} {listed : Array Bool} {a : Act} {w : World} (hone : Region.ready md l0.toArray listed = [k, l, m]) (ho : l0[k]? = some o) (ho2 : l0[l]? = some o2) (ho3 : l0[m]? = some o3)
    (h : wpList P l0.toArray (onlyN fun a' w' => (F k = true → I w') ∧ wpAnyF P md l0.toArray F I QN f (listed.setIfInBounds k true) a' w') [o] a w)
    (h2 : wpList P l0.toArray (onlyN fun a' w' => (F l = true → I w') ∧ wpAnyF P md l0.toArray F I QN f (listed.setIfInBounds l true) a' w') [o2] a w)
    (h3 : wpList P l0.toArray (onlyN fun a' w' => (F m = true → I w') ∧ wpAnyF P md l0.toArray F I QN f (listed.setIfInBounds m true) a' w') [o3] a w) : wpAnyF P md l0.toArray F I QN (f + 1) listed a w :=
  ⟨fun h0 => (by rw [h0] at hone; cases hone), fun i hi => by
    rw [hone] at hi
    have hik : i = k ∨ i = l ∨ i = m := by simpa using hi
    rcases hik with rfl | rfl | rfl
    · exact wpOp_of_list (by simpa using ho) h
    · exact wpOp_of_list (by simpa using ho2) h2
    · exact wpOp_of_list (by simpa using ho3) h3⟩
end
end
end Go.Proofs.Ytkfdkkhhkciocaa
namespace Go.Proofs.Ytkfdkkhhkciocaa
set_option linter.unusedVariables false
set_option linter.unusedSimpArgs false
open Go.RowKit
def ints (zs : List Int) : List Value := zs.map (Value.int .i64)
theorem ints_at (zs : List Int) (k : Nat) (u : Value) (h : (ints zs)[k]? = some u) : ∃ hk : k < zs.length, u = .int .i64 zs[k] := by
  unfold ints at h
  rw [List.getElem?_map] at h
  obtain ⟨z, hz, rfl⟩ := Option.map_eq_some_iff.1 h
  obtain ⟨hk, e⟩ := List.getElem?_eq_some_iff.1 hz
  exact ⟨hk, by rw [e]⟩
theorem ints_len (zs : List Int) : (ints zs).length = zs.length := by simp [ints]
theorem take_succ_iff {α : Type} (xs ys : List α) (k : Nat) (h1 : k < xs.length) (h2 : k < ys.length) :
    xs.take (k + 1) = ys.take (k + 1) ↔ xs.take k = ys.take k ∧ xs[k] = ys[k] := by
  rw [List.take_succ_eq_append_getElem h1, List.take_succ_eq_append_getElem h2]
  constructor
  · intro h
    have := List.append_inj h (by simp; omega)
    exact ⟨this.1, by simpa using this.2⟩
  · rintro ⟨a, b⟩; rw [a, b]
set_option maxHeartbeats 400000 in
theorem eqInt_any (u v : Value) (xs ys : List Int) (w : World) (hu : SL w 1 u xs.length (ints xs)) (hv : SL w 1 v ys.length (ints ys)) :
    Calls Try.prog 13 #[u, v] w fun e w' => e = .returned (.bool (decide (xs = ys))) ∧ w = w' := by
  have hu' := hu
  have hv' := hv
  obtain ⟨A, c, rfl, hc1, hc2, -, -⟩ := hu'
  obtain ⟨B, d, rfl, hd1, hd2, -, -⟩ := hv'
  by_cases hl : (xs.length : Int) != ys.length
  · go_enter Try.func13, Try.ntmps13
    go_wp2
    go_ret
    refine ⟨?_, rfl⟩
    have : xs ≠ ys := by rintro rfl; simp at hl
    simp [this]
  · have h9 : (xs.length : Int) = ys.length := by simpa using hl
    have hl' : xs.length = ys.length := by omega
    clear h9
    have HL := hl'
    have hn : ((xs.length : Int) != ys.length) = false := by simpa using hl
    have HE : Hid (xs.length = ys.length) := HL
    clear hl HL
    go_enter Try.func13, Try.ntmps13
    clear hl'
    go_wp2
    go_loop [14] (fun i => ∃ k : Nat, k ≤ xs.length ∧ i = .int .i64 k ∧ xs.take k = ys.take k) (fun i => xs.length - (intOf i).toNat)
    case atStart => exact ⟨0, by omega, rfl, by simp⟩
    case round =>
      obtain ⟨k, hk, rfl, ht⟩ := hrel
      have HT : Hid (xs.take k = ys.take k) := ht
      clear ht
      by_cases hlt : k < xs.length
      · have hlt2 : k < ys.length := by have := HE.out; omega
        obtain ⟨ad, u, rfl, -, hx, hcell⟩ := hu.at1 hlt
        obtain ⟨_, rfl⟩ := ints_at _ _ _ hx
        obtain ⟨bd, u, rfl, -, hy, hcell2⟩ := hv.at1 hlt2
        obtain ⟨_, rfl⟩ := ints_at _ _ _ hy
        clear hx hy
        by_cases hq : xs[k] = ys[k]
        · have hq' : ((xs[k] : Int) != ys[k]) = false := by simpa using hq
          have HQ : Hid (xs[k] = ys[k]) := hq
          clear hq
          go_wp2
          go_round
          case rel => exact ⟨k + 1, by omega, by go_num, (take_succ_iff _ _ _ hlt hlt2).2 ⟨HT.out, HQ.out⟩⟩
          case measure => simp [intOf]; omega
        · have hq' : ((xs[k] : Int) != ys[k]) = true := by simpa using hq
          go_wp2
          go_ret
          refine ⟨?_, rfl⟩
          have : xs ≠ ys := by rintro rfl; exact hq rfl
          simp [this]
      · go_wp2
        go_ret
        refine ⟨?_, rfl⟩
        have e : xs = ys := by
          have := HT.out
          rwa [List.take_of_length_le (by omega), List.take_of_length_le (by have := HE.out; omega)] at this
        simp [e]
theorem Blk.ints {w : World} {g : Nat} {T : TypeId} {zs : List Int} (h : Blk w g T (ints zs).toArray) (hl : zs.length ≤ 9223372036854775807) :
    SL w 1 (.slice (some ⟨g, 0, none⟩) zs.length zs.length) zs.length (Go.Proofs.Ytkfdkkhhkciocaa.ints zs) := by
  have := h.sl (size := 1) (n := zs.length) (c := zs.length) (by simp [ints_len]) (Nat.le_refl _) hl
  simpa using this
/-- a literal against itself -/
theorem eqInt_lit (zs : List Int) (T : TypeId) (w1 : World) (hl : zs.length ≤ 9223372036854775807) (n g1 g2 : Nat) (hn : zs.length = n) (h1 : w1.heap.size = g1) (h2 : w1.heap.size + 1 = g2) (cs : List Value) (hcs : ints zs = cs) :
    Calls Try.prog 13 #[.slice (some ⟨g1, 0, none⟩) n n, .slice (some ⟨g2, 0, none⟩) n n] ((w1.alloc (.cells cs.toArray T)).alloc (.cells cs.toArray T)) fun e w' => e = .returned (.bool true) ∧ ((w1.alloc (.cells cs.toArray T)).alloc (.cells cs.toArray T)) = w' := by
  subst hn h1 h2 hcs
  have hA : Blk ((w1.alloc (.cells (ints zs).toArray T)).alloc (.cells (ints zs).toArray T)) w1.heap.size T (ints zs).toArray := (Blk.new w1 T _).alloc _
  have hB : Blk ((w1.alloc (.cells (ints zs).toArray T)).alloc (.cells (ints zs).toArray T)) (w1.heap.size + 1) T (ints zs).toArray := by
    have := Blk.new (w1.alloc (.cells (ints zs).toArray T)) T (ints zs).toArray
    rwa [World.size_alloc] at this
  exact (eqInt_any _ _ zs zs _ (hA.ints hl) (hB.ints hl)).mono fun e w' ⟨he, hw⟩ => ⟨by simpa using he, hw⟩
end Go.Proofs.Ytkfdkkhhkciocaa
