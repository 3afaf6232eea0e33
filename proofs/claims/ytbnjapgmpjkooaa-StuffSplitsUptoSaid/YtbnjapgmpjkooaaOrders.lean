/- A region that draws its order and does things to memory: what is fixed may come first; of the others each that may come up is walked. -/
import Derived.Test.YtbnjapgmpjkooaaMonoTail
namespace Go.Proofs.Ytbnjapgmpjkooaa
set_option linter.unusedVariables false
set_option linter.unusedSimpArgs false
open Go.RowKit
section
variable {P : Program} {ops : Array Oper} {md : Region.Mode} {I : World → Prop}
/-- operation i is fixed: it yields v in every world that keeps I -/
def Fixed (P : Program) (ops : Array Oper) (I : World → Prop) (o : Oper) (v : Value) (a : Act) : Prop :=
  (Region.wanted o (yielded ops a.tmps) = true ∧ ∀ w, I w → (execOp a.eval o).run P w = .ok (.value v) w) ∨ (Region.wanted o (yielded ops a.tmps) = false ∧ v = undef)
theorem Fixed.of_same {o : Oper} {v : Value} {a a' : Act} (hy : Fixed P ops I o v a) (he : execOp a'.eval o = execOp a.eval o)
    (hw : Region.wanted o (yielded ops a'.tmps) = Region.wanted o (yielded ops a.tmps)) : Fixed P ops I o v a' := by
  unfold Fixed at *
  rw [he, hw]
  exact hy
theorem Fixed.wpOp {i : Nat} {o : Oper} {v : Value} {a : Act} {w : World} {Q : Exit → Act → World → Prop} (hi : ops[i]? = some o) (hy : Fixed P ops I o v a) (hw : I w)
    {K : Act → World → Prop} (h : K (a.put o.dst v) w) : wpOp P ops Q i K a w := by
  unfold Go.wpOp
  simp only [hi]
  rcases hy with ⟨h1, h2⟩ | ⟨h1, rfl⟩
  · simp only [h1, if_true]
    refine .inl ?_
    unfold Oper.wp
    rw [h2 w hw]
    exact h
  · simp only [h1, Bool.false_eq_true, if_false]
    exact h
theorem wpOp_putI {j : Nat} {oi oj : Oper} {v : Value} {Q : Exit → Act → World → Prop} (hj : ops[j]? = some oj) (hap : oi.apart ops oj = true)
    (hsi : ∀ cs b, oi.op ≠ .select cs b) (hsj : ∀ cs b, oj.op ≠ .select cs b)
    (hQ : ∀ c a w, Q (.panic c) (a.put oi.dst v) w → Q (.panic c) a w) {K : Act → World → Prop} {a : Act} {w : World}
    (hy : Fixed P ops I oi v a) (h : wpOp P ops Q j K (a.put oi.dst v) w) :
    wpOp P ops Q j (fun a' w' => Fixed P ops I oi v a' ∧ K (a'.put oi.dst v) w') a w := by
  obtain ⟨h1, h2, h3⟩ := Oper.apart_spec hap
  have keep : ∀ (a : Act), Fixed P ops I oi v a → ∀ u, Fixed P ops I oi v (a.put oj.dst u) := fun a hy u =>
    hy.of_same (execOp_put oi hsi a oj.dst u h3) (wanted_put oi a oj.dst u h3)
  have keepD : ∀ d, Fixed P ops I oi v { a with defers := d :: a.defers } := fun d => hy.of_same rfl rfl
  unfold wpOp at *
  simp only [hj] at *
  rw [wanted_put oj a oi.dst v h1] at h
  split
  · rename_i hw
    simp only [hw, if_true] at h
    rcases h with h | ⟨hasks, hlets⟩
    case inr => exact .inr ⟨by unfold Oper.asks at *; rw [execOp_put oj hsj a oi.dst v h1] at hasks; exact hasks, hlets⟩
    refine .inl ?_
    unfold Oper.wp at *
    rw [execOp_put oj hsj a oi.dst v h1] at h
    generalize (execOp a.eval oj).run P w = r at *
    cases r with
    | ok n w' =>
      cases n <;> simp only [Oper.upon] at h ⊢
      case value u => exact ⟨keep a hy u, by rw [← Act.put_comm a v u h2]; exact h⟩
      case skip => exact ⟨keep a hy _, by rw [← Act.put_comm a v undef h2]; exact h⟩
      case defer d =>
        refine ⟨keep _ (keepD d) _, ?_⟩
        rw [← Act.put_comm _ v undef h2, ← Act.put_defers]
        exact h
      case enter f args =>
        refine Calls.mono h fun e w'' he => ?_
        cases e with
        | returned u => exact ⟨keep a hy u, by rw [← Act.put_comm a v u h2]; exact he⟩
        | panicked c => exact hQ _ _ _ he
        | outgrown => exact he
      case row row args => exact Rows.mono h fun u w'' he => ⟨keep a hy u, by rw [← Act.put_comm a v u h2]; exact he⟩
    | halt x w' =>
      cases x <;> simp only [Oper.upon] at h ⊢
      case panic u => exact hQ _ _ _ h
  · rename_i hw
    simp only [hw] at h
    exact ⟨keep a hy _, by rw [← Act.put_comm a v undef h2]; exact h⟩
/-- whatever order is picked from here on; I is kept -/
def wpAnyI (P : Program) (md : Region.Mode) (ops : Array Oper) (I : World → Prop) (QN : Act → World → Prop) : Nat → Array Bool → Act → World → Prop
  | 0, listed, a, w => Region.ready md ops listed = [] ∧ QN a w
  | f + 1, listed, a, w => (Region.ready md ops listed = [] → QN a w) ∧
    ∀ i ∈ Region.ready md ops listed, wpOp P ops (onlyN QN) i (fun a' w' => I w' ∧ wpAnyI P md ops I QN f (listed.setIfInBounds i true) a' w') a w
variable {QN : Act → World → Prop}
theorem wpAny_of_I : ∀ (f : Nat) (listed : Array Bool) (a : Act) (w : World), wpAnyI P md ops I QN f listed a w → wpAny P md ops (onlyN QN) f listed a w
  | 0, _, _, _, h => ⟨h.1, h.2⟩
  | f + 1, _, _, _, h => ⟨fun h0 => h.1 h0, fun i hi => wpOp_mono (fun a' w' h' => wpAny_of_I f _ a' w' h'.2) (h.2 i hi)⟩
theorem wpAnyI_first {i : Nat} {oi : Oper} {v : Value} (hi : ops[i]? = some oi) (hsel : ∀ (j : Nat) (o : Oper) cs b, ops[j]? = some o → o.op ≠ .select cs b) :
    ∀ (fuel : Nat) (listed : Array Bool) (a : Act) (w : World),
      (∀ j oj, ops[j]? = some oj → j ≠ i → listed.getD j true = false → (∀ e ∈ oj.after, Region.binds md e = true → e.on ≠ i) → oi.apart ops oj = true) →
      i ∈ Region.ready md ops listed → Fixed P ops I oi v a → I w →
      wpAnyI P md ops I QN fuel (listed.setIfInBounds i true) (a.put oi.dst v) w → wpAnyI P md ops I QN (fuel + 1) listed a w := by
  intro fuel
  induction fuel with
  | zero =>
    intro listed a w _ hr hy hI H
    refine ⟨fun h => (by rw [h] at hr; cases hr), fun j hj => ?_⟩
    by_cases hji : j = i
    · subst hji; exact hy.wpOp hi hI ⟨hI, H⟩
    · have := ready_mono hj hji
      rw [H.1] at this
      cases this
  | succ fuel ih =>
    intro listed a w hfree hr hy hI H
    refine ⟨fun h => (by rw [h] at hr; cases hr), fun j hj => ?_⟩
    by_cases hji : j = i
    · subst hji; exact hy.wpOp hi hI ⟨hI, H⟩
    · have h1 := H.2 j (ready_mono hj hji)
      obtain ⟨hjun, oj, hoj, hall⟩ := mem_ready.1 hj
      have hnot : ∀ e ∈ oj.after, Region.binds md e = true → e.on ≠ i := fun e he hb heq => by
        have h1 := hall e he hb
        have h0 := (mem_ready.1 hr).1
        rw [heq] at h1
        rcases Nat.lt_or_ge i listed.size with h' | h'
        · simp [h'] at h0 h1; rw [h0] at h1; cases h1
        · simp [Array.getElem?_eq_none h'] at h1
      have h2 := wpOp_putI hoj (hfree j oj hoj hji hjun hnot) (fun cs b => hsel i oi cs b hi) (fun cs b => hsel j oj cs b hoj) (fun _ _ _ h => h) hy h1
      have hfree' : ∀ k ok, ops[k]? = some ok → k ≠ i → (listed.setIfInBounds j true).getD k true = false →
          (∀ e ∈ ok.after, Region.binds md e = true → e.on ≠ i) → oi.apart ops ok = true := fun k ok hk hki hun hno => by
        refine hfree k ok hk hki ?_ hno
        by_cases hjk : j = k
        · subst hjk; exact hjun
        · rw [getD_set_ne true hjk] at hun; exact hun
      refine wpOp_mono (fun a' w' h3 => ⟨h3.2.1, ih (listed.setIfInBounds j true) a' w' hfree' (ready_mono hr (Ne.symm hji)) h3.1 h3.2.1 ?_⟩) h2
      rw [Array.setIfInBounds_comm _ _ hji]
      exact h3.2.2
/-- one operation alone, walked as a list of one -/
theorem wpOp_of_list {i : Nat} {o : Oper} {K : Act → World → Prop} {Q : Exit → Act → World → Prop} {a : Act} {w : World} (ho : ops[i]? = some o) (h : wpList P ops (onlyN K) [o] a w) : wpOp P ops Q i K a w := by
  refine wpOp_exit (QN := K) ?_
  unfold wpOp
  simp only [ho]
  exact h
theorem oi_loud0 {k f : Nat} {o : Oper} {listed : Array Bool} {a : Act} {w : World} (hone : Region.ready md ops listed = [k]) (ho : ops[k]? = some o)
    (h : wpList P ops (onlyN fun a' w' => I w' ∧ wpAnyI P md ops I QN f (listed.setIfInBounds k true) a' w') [o] a w) : wpAnyI P md ops I QN (f + 1) listed a w :=
  ⟨fun h0 => (by rw [h0] at hone; cases hone), fun i hi => by
    rw [hone] at hi
    have hik : i = k := by simpa using hi
    subst hik
    exact wpOp_of_list ho h⟩
theorem oi_two0 {k l f : Nat} {o o2 : Oper} {listed : Array Bool} {a : Act} {w : World} (hone : Region.ready md ops listed = [k, l]) (ho : ops[k]? = some o) (ho2 : ops[l]? = some o2)
    (h : wpList P ops (onlyN fun a' w' => I w' ∧ wpAnyI P md ops I QN f (listed.setIfInBounds k true) a' w') [o] a w)
    (h2 : wpList P ops (onlyN fun a' w' => I w' ∧ wpAnyI P md ops I QN f (listed.setIfInBounds l true) a' w') [o2] a w) : wpAnyI P md ops I QN (f + 1) listed a w :=
  ⟨fun h0 => (by rw [h0] at hone; cases hone), fun i hi => by
    rw [hone] at hi
    have hik : i = k ∨ i = l := by simpa using hi
    rcases hik with rfl | rfl
    · exact wpOp_of_list ho h
    · exact wpOp_of_list ho2 h2⟩
theorem oi_fix0 {k f : Nat} {o : Oper} {listed : Array Bool} {a : Act} {w : World} (hB : ((Region.ready md ops listed).contains k && Region.free md ops listed k && Region.noSelect ops) = true) (ho : ops[k]? = some o)
    (hw : Region.wanted o (yielded ops a.tmps) = true) (v : Value) (h1 : ∀ w, I w → (execOp a.eval o).run P w = .ok (.value v) w) (hI : I w)
    (h : wpAnyI P md ops I QN f (listed.setIfInBounds k true) (a.put o.dst v) w) : wpAnyI P md ops I QN (f + 1) listed a w := by
  simp only [Bool.and_eq_true] at hB
  exact wpAnyI_first ho (Region.noSelect_spec hB.2) f listed a w (Region.free_spec ho hB.1.2) (by simpa using hB.1.1) (.inl ⟨hw, h1⟩) hI h
section
variable {l0 : List Oper}
theorem oi_fix {k f : Nat} {o : Oper} {listed : Array Bool} {a : Act} {w : World} (hB : ((Region.ready md l0.toArray listed).contains k && Region.free md l0.toArray listed k && Region.noSelect l0.toArray) = true) (ho : l0[k]? = some o)
    (hw : Region.wanted o (yielded l0.toArray a.tmps) = true) (v : Value) (h1 : ∀ w, I w → (execOp a.eval o).run P w = .ok (.value v) w) (hI : I w)
    (h : wpAnyI P md l0.toArray I QN f (listed.setIfInBounds k true) (a.put o.dst v) w) : wpAnyI P md l0.toArray I QN (f + 1) listed a w := oi_fix0 hB (by simpa using ho) hw v h1 hI h
theorem oi_run {k f : Nat} {o : Oper} {listed : Array Bool} {a : Act} {w : World} (hB : ((Region.ready md l0.toArray listed).contains k && Region.free md l0.toArray listed k && Region.noSelect l0.toArray) = true) (ho : l0[k]? = some o)
    (hw : Region.wanted o (yielded l0.toArray a.tmps) = true) (v : Value) (h1 : ∀ w, (execOp a.eval o).run P w = .ok (.value v) w) (hI : I w)
    (h : wpAnyI P md l0.toArray I QN f (listed.setIfInBounds k true) (a.put o.dst v) w) : wpAnyI P md l0.toArray I QN (f + 1) listed a w := oi_fix hB ho hw v (fun w _ => h1 w) hI h
theorem oi_loud {k f : Nat} {o : Oper} {listed : Array Bool} {a : Act} {w : World} (hone : Region.ready md l0.toArray listed = [k]) (ho : l0[k]? = some o)
    (h : wpList P l0.toArray (onlyN fun a' w' => I w' ∧ wpAnyI P md l0.toArray I QN f (listed.setIfInBounds k true) a' w') [o] a w) : wpAnyI P md l0.toArray I QN (f + 1) listed a w := oi_loud0 hone (by simpa using ho) h
theorem oi_two {k l f : Nat} {o o2 : Oper} {listed : Array Bool} {a : Act} {w : World} (hone : Region.ready md l0.toArray listed = [k, l]) (ho : l0[k]? = some o) (ho2 : l0[l]? = some o2)
    (h : wpList P l0.toArray (onlyN fun a' w' => I w' ∧ wpAnyI P md l0.toArray I QN f (listed.setIfInBounds k true) a' w') [o] a w)
    (h2 : wpList P l0.toArray (onlyN fun a' w' => I w' ∧ wpAnyI P md l0.toArray I QN f (listed.setIfInBounds l true) a' w') [o2] a w) : wpAnyI P md l0.toArray I QN (f + 1) listed a w := oi_two0 hone (by simpa using ho) (by simpa using ho2) h h2
end
theorem wp_region_oi (I : World → Prop) {id : Nat} {a : Act} {w : World} {l : List Oper} {Q : Exit → Act → World → Prop} (hm : P.follows .mixedOrders = true)
    (h : wpAnyI P .any l.toArray I (fun a w => Q .normal a w) l.length (Array.replicate l.length false) a w.drew) : (Code.region id l.toArray true).wp P Q a w := by
  refine Code.wp_mono (Q := onlyN (fun a w => Q .normal a w)) (fun e a w h => ?_) (wp_region_any hm (wpAny_of_I _ _ _ _ (by simpa using h)))
  cases e <;> first | exact h | exact (h : False).elim
theorem oi_done {listed : Array Bool} {a : Act} {w : World} (hone : Region.ready md ops listed = []) (h : QN a w) : wpAnyI P md ops I QN 0 listed a w := ⟨hone, h⟩
end
end Go.Proofs.Ytbnjapgmpjkooaa
