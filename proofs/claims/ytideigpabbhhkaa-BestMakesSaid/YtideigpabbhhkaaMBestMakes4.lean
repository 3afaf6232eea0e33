/- Contracts for the law BestMakes, part 4: what the functions that it reaches answer, for all arguments that the theorems name. -/
import Derived.Test.YtideigpabbhhkaaMBestMakes2
import Derived.Great.Walk
import Derived.Test.YtideigpabbhhkaaMBestMakes1
import Derived.Test.YtideigpabbhhkaaMBestMakes3
/- A region that draws its order and does things to memory: what is fixed may come first; of the others each that may come up is walked. -/
namespace Go.Proofs.Ytideigpabbhhkaa
set_option linter.unusedVariables false
set_option linter.unusedSimpArgs false
open Go.RowKit
section
variable {P : Program} {ops : Array Oper} {md : Region.Mode} {I : World → Prop}
/-- operation i is fixed: it yields v in every world that keeps I -/
def Fixed (P : Program) (ops : Array Oper) (I : World → Prop) (o : Oper) (v : Value) (a : Act) : Prop :=
  (Region.wanted o (yielded ops a.tmps) = true ∧ ∀ w, I w → (execOp a.eval o).run P w = .ok (.value v) w) ∨ (Region.wanted o (yielded ops a.tmps) = false ∧ v = undef)
theorem Fixed.of_same {o : Oper} {v : Value} {a a' : Act} (hy : Fixed P ops I o v a) (he : execOp a'.eval o = execOp a.eval o)
    (hw : Region.wanted o (yielded ops a'.tmps) = Region.wanted o (yielded ops a.tmps)) : Fixed P ops I o v a' := by
  unfold Fixed at *
  rw [he, hw]
  exact hy
theorem Fixed.wpOp {i : Nat} {o : Oper} {v : Value} {a : Act} {w : World} {Q : Exit → Act → World → Prop} (hi : ops[i]? = some o) (hy : Fixed P ops I o v a) (hw : I w)
    {K : Act → World → Prop} (h : K (a.put o.dst v) w) : wpOp P ops Q i K a w := by
  unfold Go.wpOp
  simp only [hi]
  rcases hy with ⟨h1, h2⟩ | ⟨h1, rfl⟩
  · simp only [h1, if_true]
    refine .inl ?_
    unfold Oper.wp
    rw [h2 w hw]
    exact h
  · simp only [h1, Bool.false_eq_true, if_false]
    exact h
theorem wpOp_putI {j : Nat} {oi oj : Oper} {v : Value} {Q : Exit → Act → World → Prop} (hj : ops[j]? = some oj) (hap : oi.apart ops oj = true)
    (hsi : ∀ cs b, oi.op ≠ .select cs b) (hsj : ∀ cs b, oj.op ≠ .select cs b)
    (hQ : ∀ c a w, Q (.panic c) (a.put oi.dst v) w → Q (.panic c) a w) {K : Act → World → Prop} {a : Act} {w : World}
    (hy : Fixed P ops I oi v a) (h : wpOp P ops Q j K (a.put oi.dst v) w) :
    wpOp P ops Q j (fun a' w' => Fixed P ops I oi v a' ∧ K (a'.put oi.dst v) w') a w := by
  obtain ⟨h1, h2, h3⟩ := Oper.apart_spec hap
  have keep : ∀ (a : Act), Fixed P ops I oi v a → ∀ u, Fixed P ops I oi v (a.put oj.dst u) := fun a hy u =>
    hy.of_same (execOp_put oi hsi a oj.dst u h3) (wanted_put oi a oj.dst u h3)
  have keepD : ∀ d, Fixed P ops I oi v { a with defers := d :: a.defers } := fun d => hy.of_same rfl rfl
  unfold wpOp at *
  simp only [hj] at *
  rw [wanted_put oj a oi.dst v h1] at h
  split
  · rename_i hw
    simp only [hw, if_true] at h
    rcases h with h | ⟨hasks, hlets⟩
    case inr => exact .inr ⟨by unfold Oper.asks at *; rw [execOp_put oj hsj a oi.dst v h1] at hasks; exact hasks, hlets⟩
    refine .inl ?_
    unfold Oper.wp at *
    rw [execOp_put oj hsj a oi.dst v h1] at h
    generalize (execOp a.eval oj).run P w = r at *
    cases r with
    | ok n w' =>
      cases n <;> simp only [Oper.upon] at h ⊢
      case value u => exact ⟨keep a hy u, by rw [← Act.put_comm a v u h2]; exact h⟩
      case skip => exact ⟨keep a hy _, by rw [← Act.put_comm a v undef h2]; exact h⟩
      case defer d =>
        refine ⟨keep _ (keepD d) _, ?_⟩
        rw [← Act.put_comm _ v undef h2, ← Act.put_defers]
        exact h
      case enter f args =>
        refine Calls.mono h fun e w'' he => ?_
        cases e with
        | returned u => exact ⟨keep a hy u, by rw [← Act.put_comm a v u h2]; exact he⟩
        | panicked c => exact hQ _ _ _ he
        | outgrown => exact he
      case row row args => exact Rows.mono h fun u w'' he => ⟨keep a hy u, by rw [← Act.put_comm a v u h2]; exact he⟩
    | halt x w' =>
      cases x <;> simp only [Oper.upon] at h ⊢
      case panic u => exact hQ _ _ _ h
  · rename_i hw
    simp only [hw] at h
    exact ⟨keep a hy _, by rw [← Act.put_comm a v undef h2]; exact h⟩
/-- whatever order is picked from here on; I is kept -/
def wpAnyI (P : Program) (md : Region.Mode) (ops : Array Oper) (I : World → Prop) (QN : Act → World → Prop) : Nat → Array Bool → Act → World → Prop
  | 0, listed, a, w => Region.ready md ops listed = [] ∧ QN a w
  | f + 1, listed, a, w => (Region.ready md ops listed = [] → QN a w) ∧
    ∀ i ∈ Region.ready md ops listed, wpOp P ops (onlyN QN) i (fun a' w' => I w' ∧ wpAnyI P md ops I QN f (listed.setIfInBounds i true) a' w') a w
variable {QN : Act → World → Prop}
theorem wpAny_of_I : ∀ (f : Nat) (listed : Array Bool) (a : Act) (w : World), wpAnyI P md ops I QN f listed a w → wpAny P md ops (onlyN QN) f listed a w
  | 0, _, _, _, h => ⟨h.1, h.2⟩
  | f + 1, _, _, _, h => ⟨fun h0 => h.1 h0, fun i hi => wpOp_mono (fun a' w' h' => wpAny_of_I f _ a' w' h'.2) (h.2 i hi)⟩
theorem wpAnyI_first {i : Nat} {oi : Oper} {v : Value} (hi : ops[i]? = some oi) (hsel : ∀ (j : Nat) (o : Oper) cs b, ops[j]? = some o → o.op ≠ .select cs b) :
    ∀ (fuel : Nat) (listed : Array Bool) (a : Act) (w : World),
      (∀ j oj, ops[j]? = some oj → j ≠ i → listed.getD j true = false → (∀ e ∈ oj.after, Region.binds md e = true → e.on ≠ i) → oi.apart ops oj = true) →
      i ∈ Region.ready md ops listed → Fixed P ops I oi v a → I w →
      wpAnyI P md ops I QN fuel (listed.setIfInBounds i true) (a.put oi.dst v) w → wpAnyI P md ops I QN (fuel + 1) listed a w := by
  intro fuel
  induction fuel with
  | zero =>
    intro listed a w _ hr hy hI H
    refine ⟨fun h => (by rw [h] at hr; cases hr), fun j hj => ?_⟩
    by_cases hji : j = i
    · subst hji; exact hy.wpOp hi hI ⟨hI, H⟩
    · have := ready_mono hj hji
      rw [H.1] at this
      cases this
  | succ fuel ih =>
    intro listed a w hfree hr hy hI H
    refine ⟨fun h => (by rw [h] at hr; cases hr), fun j hj => ?_⟩
    by_cases hji : j = i
    · subst hji; exact hy.wpOp hi hI ⟨hI, H⟩
    · have h1 := H.2 j (ready_mono hj hji)
      obtain ⟨hjun, oj, hoj, hall⟩ := mem_ready.1 hj
      have hnot : ∀ e ∈ oj.after, Region.binds md e = true → e.on ≠ i := fun e he hb heq => by
        have h1 := hall e he hb
        have h0 := (mem_ready.1 hr).1
        rw [heq] at h1
        rcases Nat.lt_or_ge i listed.size with h' | h'
        · simp [h'] at h0 h1; rw [h0] at h1; cases h1
        · simp [Array.getElem?_eq_none h'] at h1
      have h2 := wpOp_putI hoj (hfree j oj hoj hji hjun hnot) (fun cs b => hsel i oi cs b hi) (fun cs b => hsel j oj cs b hoj) (fun _ _ _ h => h) hy h1
      have hfree' : ∀ k ok, ops[k]? = some ok → k ≠ i → (listed.setIfInBounds j true).getD k true = false →
          (∀ e ∈ ok.after, Region.binds md e = true → e.on ≠ i) → oi.apart ops ok = true := fun k ok hk hki hun hno => by
        refine hfree k ok hk hki ?_ hno
        by_cases hjk : j = k
        · subst hjk; exact hjun
        · rw [getD_set_ne true hjk] at hun; exact hun
      refine wpOp_mono (fun a' w' h3 => ⟨h3.2.1, ih (listed.setIfInBounds j true) a' w' hfree' (ready_mono hr (Ne.symm hji)) h3.1 h3.2.1 ?_⟩) h2
      rw [Array.setIfInBounds_comm _ _ hji]
      exact h3.2.2
/-- one operation alone, walked as a list of one -/
theorem wpOp_of_list {i : Nat} {o : Oper} {K : Act → World → Prop} {Q : Exit → Act → World → Prop} {a : Act} {w : World} (ho : ops[i]? = some o) (h : wpList P ops (onlyN K) [o] a w) : wpOp P ops Q i K a w := by
  refine wpOp_exit (QN := K) ?_
  unfold wpOp
  simp only [ho]
  exact h
theorem oi_loud0 {k f : Nat} {o : Oper} {listed : Array Bool} {a : Act} {w : World} (hone : Region.ready md ops listed = [k]) (ho : ops[k]? = some o)
    (h : wpList P ops (onlyN fun a' w' => I w' ∧ wpAnyI P md ops I QN f (listed.setIfInBounds k true) a' w') [o] a w) : wpAnyI P md ops I QN (f + 1) listed a w :=
  ⟨fun h0 => (by rw [h0] at hone; cases hone), fun i hi => by
    rw [hone] at hi
    have hik : i = k := by simpa using hi
    subst hik
    exact wpOp_of_list ho h⟩
theorem oi_two0 {k l f : Nat} {o o2 : Oper} {listed : Array Bool} {a : Act} {w : World} (hone : Region.ready md ops listed = [k, l]) (ho : ops[k]? = some o) (ho2 : ops[l]? = some o2)
    (h : wpList P ops (onlyN fun a' w' => I w' ∧ wpAnyI P md ops I QN f (listed.setIfInBounds k true) a' w') [o] a w)
    (h2 : wpList P ops (onlyN fun a' w' => I w' ∧ wpAnyI P md ops I QN f (listed.setIfInBounds l true) a' w') [o2] a w) : wpAnyI P md ops I QN (f + 1) listed a w :=
  ⟨fun h0 => (by rw [h0] at hone; cases hone), fun i hi => by
    rw [hone] at hi
    have hik : i = k ∨ i = l := by simpa using hi
    rcases hik with rfl | rfl
    · exact wpOp_of_list ho h
    · exact wpOp_of_list ho2 h2⟩
theorem oi_fix0 {k f : Nat} {o : Oper} {listed : Array Bool} {a : Act} {w : World} (hB : ((Region.ready md ops listed).contains k && Region.free md ops listed k && Region.noSelect ops) = true) (ho : ops[k]? = some o)
    (hw : Region.wanted o (yielded ops a.tmps) = true) (v : Value) (h1 : ∀ w, I w → (execOp a.eval o).run P w = .ok (.value v) w) (hI : I w)
    (h : wpAnyI P md ops I QN f (listed.setIfInBounds k true) (a.put o.dst v) w) : wpAnyI P md ops I QN (f + 1) listed a w := by
  simp only [Bool.and_eq_true] at hB
  exact wpAnyI_first ho (Region.noSelect_spec hB.2) f listed a w (Region.free_spec ho hB.1.2) (by simpa using hB.1.1) (.inl ⟨hw, h1⟩) hI h
section
variable {l0 : List Oper}
theorem oi_fix {k f : Nat} {o : Oper} {listed : Array Bool} {a : Act} {w : World} (hB : ((Region.ready md l0.toArray listed).contains k && Region.free md l0.toArray listed k && Region.noSelect l0.toArray) = true) (ho : l0[k]? = some o)
    (hw : Region.wanted o (yielded l0.toArray a.tmps) = true) (v : Value) (h1 : ∀ w, I w → (execOp a.eval o).run P w = .ok (.value v) w) (hI : I w)
    (h : wpAnyI P md l0.toArray I QN f (listed.setIfInBounds k true) (a.put o.dst v) w) : wpAnyI P md l0.toArray I QN (f + 1) listed a w := oi_fix0 hB (by simpa using ho) hw v h1 hI h
theorem oi_run {k f : Nat} {o : Oper} {listed : Array Bool} {a : Act} {w : World} (hB : ((Region.ready md l0.toArray listed).contains k && Region.free md l0.toArray listed k && Region.noSelect l0.toArray) = true) (ho : l0[k]? = some o)
    (hw : Region.wanted o (yielded l0.toArray a.tmps) = true) (v : Value) (h1 : ∀ w, (execOp a.eval o).run P w = .ok (.value v) w) (hI : I w)
    (h : wpAnyI P md l0.toArray I QN f (listed.setIfInBounds k true) (a.put o.dst v) w) : wpAnyI P md l0.toArray I QN (f + 1) listed a w := oi_fix hB ho hw v (fun w _ => h1 w) hI h
theorem oi_loud {k f : Nat} {o : Oper} {listed : Array Bool} {a : Act} {w : World} (hone : Region.ready md l0.toArray listed = [k]) (ho : l0[k]? = some o)
    (h : wpList P l0.toArray (onlyN fun a' w' => I w' ∧ wpAnyI P md l0.toArray I QN f (listed.setIfInBounds k true) a' w') [o] a w) : wpAnyI P md l0.toArray I QN (f + 1) listed a w := oi_loud0 hone (by simpa using ho) h
theorem oi_two {k l f : Nat} {o o2 : Oper} {listed : Array Bool} {a : Act} {w : World} (hone : Region.ready md l0.toArray listed = [k, l]) (ho : l0[k]? = some o) (ho2 : l0[l]? = some o2)
    (h : wpList P l0.toArray (onlyN fun a' w' => I w' ∧ wpAnyI P md l0.toArray I QN f (listed.setIfInBounds k true) a' w') [o] a w)
    (h2 : wpList P l0.toArray (onlyN fun a' w' => I w' ∧ wpAnyI P md l0.toArray I QN f (listed.setIfInBounds l true) a' w') [o2] a w) : wpAnyI P md l0.toArray I QN (f + 1) listed a w := oi_two0 hone (by simpa using ho) (by simpa using ho2) h h2
end
theorem wp_region_oi (I : World → Prop) {id : Nat} {a : Act} {w : World} {l : List Oper} {Q : Exit → Act → World → Prop} (hm : P.follows .mixedOrders = true)
    (h : wpAnyI P .any l.toArray I (fun a w => Q .normal a w) l.length (Array.replicate l.length false) a w.drew) : (Code.region id l.toArray true).wp P Q a w := by
  refine Code.wp_mono (Q := onlyN (fun a w => Q .normal a w)) (fun e a w h => ?_) (wp_region_any hm (wpAny_of_I _ _ _ _ (by simpa using h)))
  cases e <;> first | exact h | exact (h : False).elim
theorem oi_done {listed : Array Bool} {a : Act} {w : World} (hone : Region.ready md ops listed = []) (h : QN a w) : wpAnyI P md ops I QN 0 listed a w := ⟨hone, h⟩
end
end Go.Proofs.Ytideigpabbhhkaa
/- As XOrders; but only the operations that F names keep I: those that wait for each of the fixed ones need not. -/
namespace Go.Proofs.Ytideigpabbhhkaa
set_option linter.unusedVariables false
set_option linter.unusedSimpArgs false
open Go.RowKit
section
variable {P : Program} {ops : Array Oper} {md : Region.Mode} {F : Nat → Bool} {I : World → Prop}
/-- whatever order is picked from here on; I is kept -/
def wpAnyF (P : Program) (md : Region.Mode) (ops : Array Oper) (F : Nat → Bool) (I : World → Prop) (QN : Act → World → Prop) : Nat → Array Bool → Act → World → Prop
  | 0, listed, a, w => Region.ready md ops listed = [] ∧ QN a w
  | f + 1, listed, a, w => (Region.ready md ops listed = [] → QN a w) ∧
    ∀ i ∈ Region.ready md ops listed, wpOp P ops (onlyN QN) i (fun a' w' => (F i = true → I w') ∧ wpAnyF P md ops F I QN f (listed.setIfInBounds i true) a' w') a w
variable {QN : Act → World → Prop}
/-- each operation that F leaves out waits for operation k -/
def keepsB (md : Region.Mode) (ops : Array Oper) (F : Nat → Bool) (k : Nat) : Bool :=
  (List.range ops.size).all fun j => F j || match ops[j]? with | some oj => oj.after.any (fun e => Region.binds md e && e.on == k) | none => true
theorem keepsB_spec {k : Nat} (h : keepsB md ops F k = true) : ∀ j oj, ops[j]? = some oj → F j = false → ∃ e ∈ oj.after, Region.binds md e = true ∧ e.on = k := by
  intro j oj hj hF
  unfold keepsB at h
  rw [List.all_eq_true] at h
  have hjs : j < ops.size := (Array.getElem?_eq_some_iff.1 hj).1
  have := h j (List.mem_range.2 hjs)
  rw [hF, hj, Bool.false_or] at this
  simp only [Array.any_eq_true] at this
  obtain ⟨x, hx, h2⟩ := this
  simp only [Bool.and_eq_true, beq_iff_eq] at h2
  exact ⟨oj.after[x], Array.getElem_mem hx, h2.1, h2.2⟩
theorem wpAny_of_F : ∀ (f : Nat) (listed : Array Bool) (a : Act) (w : World), wpAnyF P md ops F I QN f listed a w → wpAny P md ops (onlyN QN) f listed a w
  | 0, _, _, _, h => ⟨h.1, h.2⟩
  | f + 1, _, _, _, h => ⟨fun h0 => h.1 h0, fun i hi => wpOp_mono (fun a' w' h' => wpAny_of_F f _ a' w' h'.2) (h.2 i hi)⟩
theorem wpAnyF_first {i : Nat} {oi : Oper} {v : Value} (hF : ∀ j oj, ops[j]? = some oj → F j = false → ∃ e ∈ oj.after, Region.binds md e = true ∧ e.on = i) (hi : ops[i]? = some oi) (hsel : ∀ (j : Nat) (o : Oper) cs b, ops[j]? = some o → o.op ≠ .select cs b) :
    ∀ (fuel : Nat) (listed : Array Bool) (a : Act) (w : World),
      (∀ j oj, ops[j]? = some oj → j ≠ i → listed.getD j true = false → (∀ e ∈ oj.after, Region.binds md e = true → e.on ≠ i) → oi.apart ops oj = true) →
      i ∈ Region.ready md ops listed → Fixed P ops I oi v a → I w →
      wpAnyF P md ops F I QN fuel (listed.setIfInBounds i true) (a.put oi.dst v) w → wpAnyF P md ops F I QN (fuel + 1) listed a w := by
  intro fuel
  induction fuel with
  | zero =>
    intro listed a w _ hr hy hI H
    refine ⟨fun h => (by rw [h] at hr; cases hr), fun j hj => ?_⟩
    by_cases hji : j = i
    · subst hji; exact hy.wpOp hi hI ⟨fun _ => hI, H⟩
    · have := ready_mono hj hji
      rw [H.1] at this
      cases this
  | succ fuel ih =>
    intro listed a w hfree hr hy hI H
    refine ⟨fun h => (by rw [h] at hr; cases hr), fun j hj => ?_⟩
    by_cases hji : j = i
    · subst hji; exact hy.wpOp hi hI ⟨fun _ => hI, H⟩
    · have h1 := H.2 j (ready_mono hj hji)
      obtain ⟨hjun, oj, hoj, hall⟩ := mem_ready.1 hj
      have hnot : ∀ e ∈ oj.after, Region.binds md e = true → e.on ≠ i := fun e he hb heq => by
        have h1 := hall e he hb
        have h0 := (mem_ready.1 hr).1
        rw [heq] at h1
        rcases Nat.lt_or_ge i listed.size with h' | h'
        · simp [h'] at h0 h1; rw [h0] at h1; cases h1
        · simp [Array.getElem?_eq_none h'] at h1
      have hFj : F j = true := by
        cases hq : F j with
        | true => rfl
        | false =>
          obtain ⟨e, he, hb, heq⟩ := hF j oj hoj hq
          exact absurd heq (hnot e he hb)
      have h2 := wpOp_putI hoj (hfree j oj hoj hji hjun hnot) (fun cs b => hsel i oi cs b hi) (fun cs b => hsel j oj cs b hoj) (fun _ _ _ h => h) hy h1
      have hfree' : ∀ k ok, ops[k]? = some ok → k ≠ i → (listed.setIfInBounds j true).getD k true = false →
          (∀ e ∈ ok.after, Region.binds md e = true → e.on ≠ i) → oi.apart ops ok = true := fun k ok hk hki hun hno => by
        refine hfree k ok hk hki ?_ hno
        by_cases hjk : j = k
        · subst hjk; exact hjun
        · rw [getD_set_ne true hjk] at hun; exact hun
      refine wpOp_mono (fun a' w' h3 => ⟨h3.2.1, ih (listed.setIfInBounds j true) a' w' hfree' (ready_mono hr (Ne.symm hji)) h3.1 (h3.2.1 hFj) ?_⟩) h2
      rw [Array.setIfInBounds_comm _ _ hji]
      exact h3.2.2
theorem of_loud0 {k f : Nat} {o : Oper} {listed : Array Bool} {a : Act} {w : World} (hone : Region.ready md ops listed = [k]) (ho : ops[k]? = some o)
    (h : wpList P ops (onlyN fun a' w' => (F k = true → I w') ∧ wpAnyF P md ops F I QN f (listed.setIfInBounds k true) a' w') [o] a w) : wpAnyF P md ops F I QN (f + 1) listed a w :=
  ⟨fun h0 => (by rw [h0] at hone; cases hone), fun i hi => by
    rw [hone] at hi
    have hik : i = k := by simpa using hi
    subst hik
    exact wpOp_of_list ho h⟩
theorem of_two0 {k l f : Nat} {o o2 : Oper} {listed : Array Bool} {a : Act} {w : World} (hone : Region.ready md ops listed = [k, l]) (ho : ops[k]? = some o) (ho2 : ops[l]? = some o2)
    (h : wpList P ops (onlyN fun a' w' => (F k = true → I w') ∧ wpAnyF P md ops F I QN f (listed.setIfInBounds k true) a' w') [o] a w)
    (h2 : wpList P ops (onlyN fun a' w' => (F l = true → I w') ∧ wpAnyF P md ops F I QN f (listed.setIfInBounds l true) a' w') [o2] a w) : wpAnyF P md ops F I QN (f + 1) listed a w :=
  ⟨fun h0 => (by rw [h0] at hone; cases hone), fun i hi => by
    rw [hone] at hi
    have hik : i = k ∨ i = l := by simpa using hi
    rcases hik with rfl | rfl
    · exact wpOp_of_list ho h
    · exact wpOp_of_list ho2 h2⟩
theorem of_fix0 {k f : Nat} {o : Oper} {listed : Array Bool} {a : Act} {w : World} (hB : ((Region.ready md ops listed).contains k && Region.free md ops listed k && Region.noSelect ops && keepsB md ops F k) = true) (ho : ops[k]? = some o)
    (hw : Region.wanted o (yielded ops a.tmps) = true) (v : Value) (h1 : ∀ w, I w → (execOp a.eval o).run P w = .ok (.value v) w) (hI : I w)
    (h : wpAnyF P md ops F I QN f (listed.setIfInBounds k true) (a.put o.dst v) w) : wpAnyF P md ops F I QN (f + 1) listed a w := by
  simp only [Bool.and_eq_true] at hB
  exact wpAnyF_first (keepsB_spec hB.2) ho (Region.noSelect_spec hB.1.2) f listed a w (Region.free_spec ho hB.1.1.2) (by simpa using hB.1.1.1) (.inl ⟨hw, h1⟩) hI h
section
variable {l0 : List Oper}
theorem of_fix {k f : Nat} {o : Oper} {listed : Array Bool} {a : Act} {w : World} (hB : ((Region.ready md l0.toArray listed).contains k && Region.free md l0.toArray listed k && Region.noSelect l0.toArray && keepsB md l0.toArray F k) = true) (ho : l0[k]? = some o)
    (hw : Region.wanted o (yielded l0.toArray a.tmps) = true) (v : Value) (h1 : ∀ w, I w → (execOp a.eval o).run P w = .ok (.value v) w) (hI : I w)
    (h : wpAnyF P md l0.toArray F I QN f (listed.setIfInBounds k true) (a.put o.dst v) w) : wpAnyF P md l0.toArray F I QN (f + 1) listed a w := of_fix0 hB (by simpa using ho) hw v h1 hI h
theorem of_run {k f : Nat} {o : Oper} {listed : Array Bool} {a : Act} {w : World} (hB : ((Region.ready md l0.toArray listed).contains k && Region.free md l0.toArray listed k && Region.noSelect l0.toArray && keepsB md l0.toArray F k) = true) (ho : l0[k]? = some o)
    (hw : Region.wanted o (yielded l0.toArray a.tmps) = true) (v : Value) (h1 : ∀ w, (execOp a.eval o).run P w = .ok (.value v) w) (hI : I w)
    (h : wpAnyF P md l0.toArray F I QN f (listed.setIfInBounds k true) (a.put o.dst v) w) : wpAnyF P md l0.toArray F I QN (f + 1) listed a w := of_fix hB ho hw v (fun w _ => h1 w) hI h
theorem of_loud {k f : Nat} {o : Oper} {listed : Array Bool} {a : Act} {w : World} (hone : Region.ready md l0.toArray listed = [k]) (ho : l0[k]? = some o)
    (h : wpList P l0.toArray (onlyN fun a' w' => (F k = true → I w') ∧ wpAnyF P md l0.toArray F I QN f (listed.setIfInBounds k true) a' w') [o] a w) : wpAnyF P md l0.toArray F I QN (f + 1) listed a w := of_loud0 hone (by simpa using ho) h
theorem of_two {k l f : Nat} {o o2 : Oper} {listed : Array Bool} {a : Act} {w : World} (hone : Region.ready md l0.toArray listed = [k, l]) (ho : l0[k]? = some o) (ho2 : l0[l]? = some o2)
    (h : wpList P l0.toArray (onlyN fun a' w' => (F k = true → I w') ∧ wpAnyF P md l0.toArray F I QN f (listed.setIfInBounds k true) a' w') [o] a w)
    (h2 : wpList P l0.toArray (onlyN fun a' w' => (F l = true → I w') ∧ wpAnyF P md l0.toArray F I QN f (listed.setIfInBounds l true) a' w') [o2] a w) : wpAnyF P md l0.toArray F I QN (f + 1) listed a w := of_two0 hone (by simpa using ho) (by simpa using ho2) h h2
end
theorem wp_region_of (F : Nat → Bool) (I : World → Prop) {id : Nat} {a : Act} {w : World} {l : List Oper} {Q : Exit → Act → World → Prop} (hm : P.follows .mixedOrders = true)
    (h : wpAnyF P .any l.toArray F I (fun a w => Q .normal a w) l.length (Array.replicate l.length false) a w.drew) : (Code.region id l.toArray true).wp P Q a w := by
  refine Code.wp_mono (Q := onlyN (fun a w => Q .normal a w)) (fun e a w h => ?_) (wp_region_any hm (wpAny_of_F _ _ _ _ (by simpa using h)))
  cases e <;> first | exact h | exact (h : False).elim
theorem of_done {listed : Array Bool} {a : Act} {w : World} (hone : Region.ready md ops listed = []) (h : QN a w) : wpAnyF P md ops F I QN 0 listed a w := ⟨hone, h⟩
end
end Go.Proofs.Ytideigpabbhhkaa
/- As XOrdersF: an operation that reads nothing may come first whatever else is under way; those that are done already need not wait for a fixed one. -/
namespace Go.Proofs.Ytideigpabbhhkaa
set_option linter.unusedVariables false
set_option linter.unusedSimpArgs false
open Go.RowKit
section
variable {P : Program} {ops : Array Oper} {md : Region.Mode} {F : Nat → Bool} {I : World → Prop} {QN : Act → World → Prop}
theorem wpAnyG_first {J : World → Prop} {i : Nat} {oi : Oper} {v : Value} (Wt : Nat → Bool) (hWt : ∀ j oj, ops[j]? = some oj → Wt j = true → ∃ e ∈ oj.after, Region.binds md e = true ∧ (e.on = i ∨ Wt e.on = true)) (hi : ops[i]? = some oi) (hsel : ∀ (j : Nat) (o : Oper) cs b, ops[j]? = some o → o.op ≠ .select cs b) :
    ∀ (fuel : Nat) (listed : Array Bool) (a : Act) (w : World),
      (∀ j, Wt j = true → listed.getD j true = false) →
      (∀ w, J w → F i = true → I w) → (∀ w, (∀ j oj, ops[j]? = some oj → listed.getD j true = false → j ≠ i → Wt j = true ∨ ∀ w', (F j = true → I w') → J w → J w')) →
      (∀ j oj, ops[j]? = some oj → j ≠ i → listed.getD j true = false → (∀ e ∈ oj.after, Region.binds md e = true → e.on ≠ i) → oi.apart ops oj = true) →
      i ∈ Region.ready md ops listed → Fixed P ops J oi v a → J w →
      wpAnyF P md ops F I QN fuel (listed.setIfInBounds i true) (a.put oi.dst v) w → wpAnyF P md ops F I QN (fuel + 1) listed a w := by
  intro fuel
  induction fuel with
  | zero =>
    intro listed a w hL hJI _ _ hr hy hI H
    refine ⟨fun h => (by rw [h] at hr; cases hr), fun j hj => ?_⟩
    by_cases hji : j = i
    · subst hji; exact hy.wpOp hi hI ⟨hJI w hI, H⟩
    · have := ready_mono hj hji
      rw [H.1] at this
      cases this
  | succ fuel ih =>
    intro listed a w hL hJI hK hfree hr hy hI H
    refine ⟨fun h => (by rw [h] at hr; cases hr), fun j hj => ?_⟩
    by_cases hji : j = i
    · subst hji; exact hy.wpOp hi hI ⟨hJI w hI, H⟩
    · have h1 := H.2 j (ready_mono hj hji)
      obtain ⟨hjun, oj, hoj, hall⟩ := mem_ready.1 hj
      have hnot : ∀ e ∈ oj.after, Region.binds md e = true → e.on ≠ i := fun e he hb heq => by
        have h1 := hall e he hb
        have h0 := (mem_ready.1 hr).1
        rw [heq] at h1
        rcases Nat.lt_or_ge i listed.size with h' | h'
        · simp [h'] at h0 h1; rw [h0] at h1; cases h1
        · simp [Array.getElem?_eq_none h'] at h1
      have hjW : Wt j ≠ true := fun hW => by
        obtain ⟨e, he, hb, h⟩ := hWt j oj hoj hW
        rcases h with heq | h
        · exact hnot e he hb heq
        · have h1 := hall e he hb
          have h2 := hL e.on h
          rcases Nat.lt_or_ge e.on listed.size with h' | h'
          · simp [h'] at h1 h2; rw [h2] at h1; cases h1
          · simp [Array.getElem?_eq_none h'] at h2
      have hstep : ∀ w', (F j = true → I w') → J w → J w' := by
        rcases hK w j oj hoj hjun hji with h | h
        · exact absurd h hjW
        · exact h
      have h2 := wpOp_putI hoj (hfree j oj hoj hji hjun hnot) (fun cs b => hsel i oi cs b hi) (fun cs b => hsel j oj cs b hoj) (fun _ _ _ h => h) hy h1
      have hun' : ∀ k, (listed.setIfInBounds j true).getD k true = false → listed.getD k true = false := fun k hun => by
        by_cases hjk : j = k
        · subst hjk; exact hjun
        · rwa [getD_set_ne true hjk] at hun
      have hfree' : ∀ k ok, ops[k]? = some ok → k ≠ i → (listed.setIfInBounds j true).getD k true = false →
          (∀ e ∈ ok.after, Region.binds md e = true → e.on ≠ i) → oi.apart ops ok = true := fun k ok hk hki hun hno => hfree k ok hk hki (hun' k hun) hno
      refine wpOp_mono (fun a' w' h3 => ⟨h3.2.1, ih (listed.setIfInBounds j true) a' w' (fun k hk => by
        have hkj : j ≠ k := fun h => hjW (h ▸ hk)
        rw [getD_set_ne true hkj]; exact hL k hk) hJI (fun w2 k ok hk hun hki => hK w2 k ok hk (hun' k hun) hki) hfree' (ready_mono hr (Ne.symm hji)) h3.1 (hstep w' h3.2.1 hI) ?_⟩) h2
      rw [Array.setIfInBounds_comm _ _ hji]
      exact h3.2.2
/-- the operations that wait for operation k, by roads of edges -/
def roads (md : Region.Mode) (ops : Array Oper) (k : Nat) : List Nat :=
  (List.range ops.size).foldl (fun L j => match ops[j]? with | some oj => if oj.after.any (fun e => Region.binds md e && (e.on == k || L.contains e.on)) then j :: L else L | none => L) []
def roadsOK (md : Region.Mode) (ops : Array Oper) (listed : Array Bool) (k : Nat) (L : List Nat) : Bool :=
  L.all fun j => !(listed.getD j true) && match ops[j]? with | some oj => oj.after.any (fun e => Region.binds md e && (e.on == k || L.contains e.on)) | none => false
/-- each operation that is not done yet, and that F leaves out, waits for operation k -/
def keepsL (md : Region.Mode) (ops : Array Oper) (F : Nat → Bool) (listed : Array Bool) (k : Nat) : Bool :=
  roadsOK md ops listed k (roads md ops k) && (List.range ops.size).all fun j => F j || listed.getD j true || j == k || (roads md ops k).contains j
theorem roadsOK_spec {listed : Array Bool} {k : Nat} {L : List Nat} (h : roadsOK md ops listed k L = true) : (∀ j oj, ops[j]? = some oj → L.contains j = true → ∃ e ∈ oj.after, Region.binds md e = true ∧ (e.on = k ∨ L.contains e.on = true)) ∧ ∀ j, L.contains j = true → listed.getD j true = false := by
  unfold roadsOK at h
  rw [List.all_eq_true] at h
  refine ⟨fun j oj hj hc => ?_, fun j hc => ?_⟩
  · have := h j (by simpa using hc)
    rw [hj] at this
    simp only [Bool.and_eq_true, Array.any_eq_true] at this
    obtain ⟨-, x, hx, h2⟩ := this
    simp only [Bool.or_eq_true, beq_iff_eq] at h2
    exact ⟨oj.after[x], Array.getElem_mem hx, h2.1, h2.2⟩
  · have := h j (by simpa using hc)
    rw [Bool.and_eq_true] at this
    simpa using this.1
theorem keepsL_spec {listed : Array Bool} {k : Nat} (h : keepsL md ops F listed k = true) : ∀ j oj, ops[j]? = some oj → listed.getD j true = false → j ≠ k → F j = false → (roads md ops k).contains j = true := by
  intro j oj hj hl hjk hF
  unfold keepsL at h
  rw [Bool.and_eq_true, List.all_eq_true] at h
  have hjs : j < ops.size := (Array.getElem?_eq_some_iff.1 hj).1
  have := h.2 j (List.mem_range.2 hjs)
  rw [hF, hl, Bool.false_or, Bool.false_or, show (j == k) = false by simpa using hjk, Bool.false_or] at this
  exact this
section
variable {l0 : List Oper}
/-- a read whose value each world of I gives -/
theorem og_fix {k f : Nat} {o : Oper} {listed : Array Bool} {a : Act} {w : World} (hB : ((Region.ready md l0.toArray listed).contains k && Region.free md l0.toArray listed k && Region.noSelect l0.toArray && keepsL md l0.toArray F listed k) = true) (ho : l0[k]? = some o)
    (hw : Region.wanted o (yielded l0.toArray a.tmps) = true) (v : Value) (h1 : ∀ w, I w → (execOp a.eval o).run P w = .ok (.value v) w) (hI : I w)
    (h : wpAnyF P md l0.toArray F I QN f (listed.setIfInBounds k true) (a.put o.dst v) w) : wpAnyF P md l0.toArray F I QN (f + 1) listed a w := by
  simp only [Bool.and_eq_true] at hB
  have hR : roadsOK md l0.toArray listed k (roads md l0.toArray k) = true := by
    have := hB.2
    unfold keepsL at this
    rw [Bool.and_eq_true] at this
    exact this.1
  have hK : ∀ w j oj, l0.toArray[j]? = some oj → listed.getD j true = false → j ≠ k → (roads md l0.toArray k).contains j = true ∨ ∀ w', (F j = true → I w') → I w → I w' := fun w j oj hj hl hjk => by
    cases hF : F j with
    | true => exact .inr fun w' h _ => h rfl
    | false => exact .inl (keepsL_spec hB.2 j oj hj hl hjk hF)
  have ho' : l0.toArray[k]? = some o := by simpa using ho
  exact wpAnyG_first (J := I) (fun j => (roads md l0.toArray k).contains j) (roadsOK_spec hR).1 ho' (Region.noSelect_spec hB.1.2) f listed a w (roadsOK_spec hR).2 (fun _ h _ => h) hK (Region.free_spec ho' hB.1.1.2) (by simpa using hB.1.1.1) (.inl ⟨hw, h1⟩) hI h
/-- an operation that reads nothing, of those that F leaves out -/
theorem og_pure {k f : Nat} {o : Oper} {listed : Array Bool} {a : Act} {w : World} (hB : ((Region.ready md l0.toArray listed).contains k && Region.free md l0.toArray listed k && Region.noSelect l0.toArray && !F k) = true) (ho : l0[k]? = some o)
    (hw : Region.wanted o (yielded l0.toArray a.tmps) = true) (v : Value) (h1 : ∀ w, (execOp a.eval o).run P w = .ok (.value v) w)
    (h : wpAnyF P md l0.toArray F I QN f (listed.setIfInBounds k true) (a.put o.dst v) w) : wpAnyF P md l0.toArray F I QN (f + 1) listed a w := by
  simp only [Bool.and_eq_true] at hB
  have hF : F k = false := by simpa using hB.2
  have ho' : l0.toArray[k]? = some o := by simpa using ho
  exact wpAnyG_first (J := fun _ => True) (fun _ => false) (fun _ _ _ h => by cases h) ho' (Region.noSelect_spec hB.1.2) f listed a w (fun _ h => by cases h) (fun _ _ h => by rw [hF] at h; cases h) (fun _ _ _ _ _ _ => .inr fun _ _ _ => trivial) (Region.free_spec ho' hB.1.1.2) (by simpa using hB.1.1.1) (.inl ⟨hw, fun w _ => h1 w⟩) trivial h
theorem og_run {k f : Nat} {o : Oper} {listed : Array Bool} {a : Act} {w : World} (hB : ((Region.ready md l0.toArray listed).contains k && Region.free md l0.toArray listed k && Region.noSelect l0.toArray && keepsL md l0.toArray F listed k) = true) (ho : l0[k]? = some o)
    (hw : Region.wanted o (yielded l0.toArray a.tmps) = true) (v : Value) (h1 : ∀ w, (execOp a.eval o).run P w = .ok (.value v) w) (hI : I w)
    (h : wpAnyF P md l0.toArray F I QN f (listed.setIfInBounds k true) (a.put o.dst v) w) : wpAnyF P md l0.toArray F I QN (f + 1) listed a w := og_fix hB ho hw v (fun w _ => h1 w) hI h
theorem og_three {k l m f : Nat} {o o2 o3 : Oper} {listed : Array Bool} {a : Act} {w : World} (hone : Region.ready md l0.toArray listed = [k, l, m]) (ho : l0[k]? = some o) (ho2 : l0[l]? = some o2) (ho3 : l0[m]? = some o3)
    (h : wpList P l0.toArray (onlyN fun a' w' => (F k = true → I w') ∧ wpAnyF P md l0.toArray F I QN f (listed.setIfInBounds k true) a' w') [o] a w)
    (h2 : wpList P l0.toArray (onlyN fun a' w' => (F l = true → I w') ∧ wpAnyF P md l0.toArray F I QN f (listed.setIfInBounds l true) a' w') [o2] a w)
    (h3 : wpList P l0.toArray (onlyN fun a' w' => (F m = true → I w') ∧ wpAnyF P md l0.toArray F I QN f (listed.setIfInBounds m true) a' w') [o3] a w) : wpAnyF P md l0.toArray F I QN (f + 1) listed a w :=
  ⟨fun h0 => (by rw [h0] at hone; cases hone), fun i hi => by
    rw [hone] at hi
    have hik : i = k ∨ i = l ∨ i = m := by simpa using hi
    rcases hik with rfl | rfl | rfl
    · exact wpOp_of_list (by simpa using ho) h
    · exact wpOp_of_list (by simpa using ho2) h2
    · exact wpOp_of_list (by simpa using ho3) h3⟩
end
end
end Go.Proofs.Ytideigpabbhhkaa
/- A slice literal of one element of many cells: append(out, b). -/
namespace Go.Proofs.Ytideigpabbhhkaa
set_option linter.unusedVariables false
set_option linter.unusedSimpArgs false
open Go.RowKit
theorem fold_set (l : List Value) : ∀ (k : Nat) (a : Array Value), a.size = k + l.length → (l.zipIdx k).foldl (fun cs (p : Value × Nat) => cs.setIfInBounds (0 + p.2) p.1) a = (a.toList.take k ++ l).toArray := by
  induction l with
  | nil =>
    intro k a h
    simp at h
    apply Array.ext'
    simp [List.take_of_length_le, h]
  | cons v l ih =>
    intro k a h
    rw [List.zipIdx_cons, List.foldl_cons, ih (k + 1) _ (by simp at h ⊢; omega)]
    apply Array.ext'
    simp only [Nat.zero_add, Array.toList_setIfInBounds]
    have hk : k < a.toList.length := by simp at h ⊢; omega
    rw [List.take_add_one, List.take_set_of_le (by omega), List.getElem?_set_self hk]
    simp
theorem fill_one (v : Value) (n : Nat) (a : Array Value) (hv : v.cells.size = n) (ha : a.size = n) : Instr.fill (fun i => some (i * n, n)) a [(0, v)] = some v.cells := by
  have e : v.cells.zipIdx.foldl (fun cs (p : Value × Nat) => cs.setIfInBounds (0 + p.2) p.1) a = v.cells := by
    have h := fold_set v.cells.toList 0 a (by simp; omega)
    rw [← Array.foldl_toList]
    simpa using h
  simp only [Nat.zero_add] at e
  have e2 : Array.foldl (fun cs (x : Value × Nat) => cs.setIfInBounds x.2 x.1) a v.cells.zipIdx 0 n = v.cells := by
    have hn : n = v.cells.zipIdx.size := by simp [hv]
    rw [hn]
    exact e
  simp [Instr.fill, hv, ha, e2]
theorem builtSlice_one {P : Program} {e : TypeId} {n : Nat} (v : Value) (hs : (P.info? e).map (·.size) = some n) (hz : ((P.info? e).bind (·.zero)).isSome = true) (hv : v.cells.size = n) (h0 : 0 < n) (h1 : n ≤ 16777216) : P.builtSlice e 1 [(0, v)] = some v.cells := by
  unfold Program.builtSlice
  cases hq : P.info? e with
  | none => simp [hq] at hs
  | some i =>
    have hi : i.size = n := by simpa [hq] using hs
    cases hzz : i.zero with
    | none => simp [hq, hzz] at hz
    | some z =>
      simp only [hi, hzz, Nat.one_mul]
      rw [if_neg (by omega)]
      exact fill_one v n _ hv (by simp)
theorem wpList_lit1 {P : Program} {ops : Array Oper} {rest : List Oper} {o : Oper} {a : Act} {w : World} {Q : Exit → Act → World → Prop} (hg : o.guard = none) (t e : TypeId) (x : Operand) (ho : o.op = .buildSlice t 1 #[(0, x)]) (dst : Option Tmp) (hdst : o.dst = dst)
    (ht : P.underlying t = some (.slice e)) (n : Nat) (hs : (P.info? e).map (·.size) = some n) (hz : ((P.info? e).bind (·.zero)).isSome = true) (v : Value) (hx : a.eval x = v) (hv : v.cells.size = n) (h0 : 0 < n) (h1 : n ≤ 16777216)
    (h : ∀ w1 g, Blk w1 g e v.cells → Ext w w1 → w.heap.size ≤ g → wpList P ops Q rest (a.put dst (.slice (some ⟨g, 0, none⟩) 1 1)) w1) : wpList P ops Q (o :: rest) a w := by
  refine Go.Great.wpList_buildSliceTo hg t e 1 #[(0, x)] ho _ rfl dst hdst ht v.cells ?_ (h _ _ (Blk.new w e _) ((Ext.refl w).alloc _) (Nat.le_refl _))
  simp only [List.map_toArray, List.map_cons, List.map_nil, hx]
  exact builtSlice_one v hs hz hv h0 h1
theorem own_keep {w w' : World} {base : Nat} {e : TypeId} {size n : Nat} {v : Value} {xs : List Value} (h : w.ownsRow base e size v n xs) (hb : Ext w w') : w'.ownsRow base e size v n xs := by
  obtain ⟨hl, hh⟩ := h
  refine ⟨hl, ?_⟩
  rcases hh with ⟨rfl, rfl⟩ | ⟨g, cap, cur, rfl, h1, hg, h2⟩
  · exact .inl ⟨rfl, rfl⟩
  · exact .inr ⟨g, cap, cur, rfl, h1, (hb.block g (Blk.lt (w := w) (t := e) (cs := cur) hg)).trans hg, h2⟩
theorem own_nil (w : World) (base : Nat) (e : TypeId) (size : Nat) : w.ownsRow base e size (.slice none 0 0) 0 [] := ⟨by simp, .inl ⟨rfl, rfl⟩⟩
theorem ints_one_mem (zs : List Int) : ∀ u ∈ ints zs, u.oneCell' = true := by
  intro u hu
  obtain ⟨z, -, rfl⟩ := List.mem_map.1 hu
  rfl
theorem ints_app (xs ys : List Int) : ints (xs ++ ys) = ints xs ++ ints ys := by simp [ints]
end Go.Proofs.Ytideigpabbhhkaa
/- Two owned rows that grow side by side, each by a slice literal of one element: for drawn regions with two appends (XOrders). -/
namespace Go.Proofs.Ytideigpabbhhkaa
set_option linter.unusedVariables false
set_option linter.unusedSimpArgs false
open Go.RowKit
theorem own_upd2 {S : Nat → Prop} {w w' : World} {base : Nat} {e : TypeId} {size n : Nat} {v : Value} {xs : List Value} (h : w.ownsRow base e size v n xs) (hu : Upd S w w') (hS : ∀ x, v.ownBlock = some x → ¬ S x) : w'.ownsRow base e size v n xs := by
  obtain ⟨hl, hh⟩ := h
  refine ⟨hl, ?_⟩
  rcases hh with ⟨rfl, rfl⟩ | ⟨g, cap, cur, rfl, h1, hg, h2⟩
  · exact .inl ⟨rfl, rfl⟩
  · exact .inr ⟨g, cap, cur, rfl, h1, (hu.block g (Blk.lt (w := w) (t := e) (cs := cur) hg) (hS g rfl)).trans hg, h2⟩
theorem upd_grown {w w' : World} {row : Option Nat} (hg : w.grownBy w' row) : Upd (fun b => row = some b) w w' :=
  (Upd.refl (fun b => row = some b) w).grown hg (fun b hb => .inl hb)
/-- a block of one cell, apart from the rows -/
def Apart (w : World) (e : TypeId) (v : Value) (g : Nat) (r1 r2 : Option Nat) : Prop := Blk w g e #[v] ∧ r1 ≠ some g ∧ r2 ≠ some g
structure Two (w0 w : World) (B : Nat) (e1 e2 : TypeId) (v1 v2 : Value) (n1 n2 : Nat) (xs1 xs2 : List Value) (t1 t2 : Option (Value × Nat)) : Prop where
  ext : Ext w0 w
  base : w0.heap.size ≤ B ∧ B ≤ w.heap.size
  p : w.ownsRow B e1 1 v1 n1 xs1
  m : w.ownsRow B e2 1 v2 n2 xs2
  d : ∀ b, v1.ownBlock = some b → v2.ownBlock ≠ some b
  a1 : ∀ v g, t1 = some (v, g) → Apart w e1 v g v1.ownBlock v2.ownBlock
  a2 : ∀ v g, t2 = some (v, g) → Apart w e2 v g v1.ownBlock v2.ownBlock
section
variable {w0 w w' : World} {B : Nat} {e1 e2 : TypeId} {v1 v2 v1' v2' : Value} {n1 n2 m1 m2 : Nat} {xs1 xs2 ys1 ys2 : List Value} {t1 t2 : Option (Value × Nat)}
theorem Two.later (h : Two w0 w B e1 e2 v1 v2 n1 n2 xs1 xs2 t1 t2) (hx : Ext w w') : Two w0 w' B e1 e2 v1 v2 n1 n2 xs1 xs2 t1 t2 :=
  ⟨h.ext.trans hx, ⟨h.base.1, Nat.le_trans h.base.2 hx.size⟩, own_keep h.p hx, own_keep h.m hx, h.d, fun v g e => by obtain ⟨a, b, c⟩ := h.a1 v g e; exact ⟨a.ext hx, b, c⟩, fun v g e => by obtain ⟨a, b, c⟩ := h.a2 v g e; exact ⟨a.ext hx, b, c⟩⟩
theorem Two.fresh (h : Two w0 w B e1 e2 v1 v2 n1 n2 xs1 xs2 t1 t2) {g : Nat} (hg : w.heap.size ≤ g) : v1.ownBlock ≠ some g ∧ v2.ownBlock ≠ some g :=
  ⟨fun e => by have := (h.p.lt g e).2; omega, fun e => by have := (h.m.lt g e).2; omega⟩
theorem Two.lit1 (h : Two w0 w B e1 e2 v1 v2 n1 n2 xs1 xs2 t1 t2) {v : Value} {g : Nat} (hb : Blk w' g e1 #[v]) (hx : Ext w w') (hg : w.heap.size ≤ g) : Two w0 w' B e1 e2 v1 v2 n1 n2 xs1 xs2 (some (v, g)) t2 := by
  have k := h.later hx
  obtain ⟨f1, f2⟩ := h.fresh hg
  exact ⟨k.ext, k.base, k.p, k.m, k.d, fun u g' e => by injection e with e; injection e with e e'; subst e e'; exact ⟨hb, f1, f2⟩, k.a2⟩
theorem Two.lit2 (h : Two w0 w B e1 e2 v1 v2 n1 n2 xs1 xs2 t1 t2) {v : Value} {g : Nat} (hb : Blk w' g e2 #[v]) (hx : Ext w w') (hg : w.heap.size ≤ g) : Two w0 w' B e1 e2 v1 v2 n1 n2 xs1 xs2 t1 (some (v, g)) := by
  have k := h.later hx
  obtain ⟨f1, f2⟩ := h.fresh hg
  exact ⟨k.ext, k.base, k.p, k.m, k.d, k.a1, fun u g' e => by injection e with e; injection e with e e'; subst e e'; exact ⟨hb, f1, f2⟩⟩
theorem Apart.grown {e : TypeId} {v : Value} {g : Nat} {r r' r2 : Option Nat} (h : Apart w e v g r r2) (hg : w.grownBy w' r) (hr : r' = r ∨ r' = some w.heap.size) : Apart w' e v g r' r2 := by
  obtain ⟨hb, h1, h2⟩ := h
  refine ⟨(upd_grown hg).blk hb h1, ?_, h2⟩
  rcases hr with rfl | rfl
  · exact h1
  · intro e; injection e with e; have := hb.lt; omega
theorem Apart.swap {e : TypeId} {v : Value} {g : Nat} {r r2 : Option Nat} (h : Apart w e v g r r2) : Apart w e v g r2 r := ⟨h.1, h.2.2, h.2.1⟩
theorem Two.app1 (h : Two w0 w B e1 e2 v1 v2 n1 n2 xs1 xs2 t1 t2) (ho : w'.ownsRow B e1 1 v1' m1 ys1) (hg : w.grownBy w' v1.ownBlock) (hr : v1'.ownBlock = v1.ownBlock ∨ v1'.ownBlock = some w.heap.size) : Two w0 w' B e1 e2 v1' v2 m1 n2 ys1 xs2 none t2 := by
  have hu := upd_grown hg
  refine ⟨hu.ext h.ext (fun x hx => by have := (h.p.lt x hx).1; have := h.base.1; omega), ⟨h.base.1, Nat.le_trans h.base.2 hu.size⟩, ho, own_upd2 h.m hu (fun x hx e => h.d x e hx), fun b hb => ?_, fun _ _ e => (by cases e), fun v g e => (h.a2 v g e).grown hg hr⟩
  rcases hr with e | e
  · exact h.d b (e ▸ hb)
  · rw [e] at hb
    injection hb with hb
    intro e2
    have := (h.m.lt b e2).2
    omega
theorem Two.app2 (h : Two w0 w B e1 e2 v1 v2 n1 n2 xs1 xs2 t1 t2) (ho : w'.ownsRow B e2 1 v2' m2 ys2) (hg : w.grownBy w' v2.ownBlock) (hr : v2'.ownBlock = v2.ownBlock ∨ v2'.ownBlock = some w.heap.size) : Two w0 w' B e1 e2 v1 v2' n1 m2 xs1 ys2 t1 none := by
  have hu := upd_grown hg
  refine ⟨hu.ext h.ext (fun x hx => by have := (h.m.lt x hx).1; have := h.base.1; omega), ⟨h.base.1, Nat.le_trans h.base.2 hu.size⟩, own_upd2 h.p hu (fun x hx e => h.d x hx e), ho, fun b hb => ?_, fun v g e => ((h.a1 v g e).swap.grown hg hr).swap, fun _ _ e => (by cases e)⟩
  rcases hr with e | e
  · rw [e]; exact h.d b hb
  · rw [e]
    intro e2
    injection e2 with e2
    have := (h.p.lt b hb).2
    omega
theorem own_map2 (A : Option Addr) (n c : Nat) : (Value.slice A n c).ownBlock = A.map (·.block) := by cases A <;> rfl
theorem one_of {v : Value} (h : v.oneCell' = true) : ∀ u ∈ [v], u.oneCell' = true := by
  intro u hu
  simp at hu
  subst hu
  exact h
theorem oi_end {P : Program} {ops : Array Oper} {K : Act → World → Prop} {a : Act} {w : World} (h : K a w) : wpList P ops (onlyN K) [] a w := h
theorem Two.app1' {A : Option Addr} {c : Nat} (h : Two w0 w B e1 e2 v1 v2 n1 n2 xs1 xs2 t1 t2) (ho : w'.ownsRow B e1 1 (.slice A m1 c) m1 ys1) (hg : w.grownBy w' v1.ownBlock) (hr : A.map (·.block) = v1.ownBlock ∨ A.map (·.block) = some w.heap.size) : Two w0 w' B e1 e2 (.slice A m1 c) v2 m1 n2 ys1 xs2 none t2 :=
  h.app1 ho hg (by rw [own_map2]; exact hr)
theorem Two.app2' {A : Option Addr} {c : Nat} (h : Two w0 w B e1 e2 v1 v2 n1 n2 xs1 xs2 t1 t2) (ho : w'.ownsRow B e2 1 (.slice A m2 c) m2 ys2) (hg : w.grownBy w' v2.ownBlock) (hr : A.map (·.block) = v2.ownBlock ∨ A.map (·.block) = some w.heap.size) : Two w0 w' B e1 e2 v1 (.slice A m2 c) n1 m2 xs1 ys2 t1 none :=
  h.app2 ho hg (by rw [own_map2]; exact hr)
theorem blk_one {g : Nat} {e : TypeId} {v : Value} (h : Blk w g e #[v]) : SL w 1 (.slice (some ⟨g, 0, none⟩) 1 1) 1 [v] :=
  ⟨_, _, rfl, by omega, by omega, rfl, fun _ => ⟨_, rfl, h.lt, fun j u hu => by
    have hc := h.cell j
    rw [addr_add]
    simp only [Nat.zero_add]
    rw [hc, ← hu]
    simp⟩⟩
end
end Go.Proofs.Ytideigpabbhhkaa
