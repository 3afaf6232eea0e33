/- A region that draws its order: a head walked in the order of the text in later worlds, and a tail that waits for all of it and does as it likes. -/
import Derived.StillTail
import Derived.Test.YtbnjapgmpjkooaaMono
namespace Go.Proofs.Ytbnjapgmpjkooaa
set_option linter.unusedVariables false
set_option linter.unusedSimpArgs false
open Go.RowKit
section
variable {P : Program} {ops : Array Oper} {md : Region.Mode} {R : World → World → Prop}
def wpAnyRL (P : Program) (md : Region.Mode) (ops : Array Oper) (R : World → World → Prop) (Q : Exit → Act → World → Prop) (n : Nat) (F : Array Bool → Act → World → Prop) : Nat → Array Bool → Act → World → Prop
  | 0, listed, a, wc => ∀ w, R wc w → F listed a w
  | f + 1, listed, a, wc => Region.ready md ops listed ≠ [] ∧ ∀ i ∈ Region.ready md ops listed, i < n ∧ ∀ w, R wc w → wpOp P ops Q i (fun a' w' => R w w' ∧ wpAnyRL P md ops R Q n F f (listed.setIfInBounds i true) a' w') a w
variable {Q : Exit → Act → World → Prop} {n : Nat} {F : Array Bool → Act → World → Prop}
theorem wpAnyRL_mono (L : Later R) : ∀ (f : Nat) (listed : Array Bool) (a : Act) (wc w : World), R wc w → wpAnyRL P md ops R Q n F f listed a wc → wpAnyRL P md ops R Q n F f listed a w
  | 0, _, _, _, _, hw, h => fun w' h' => h w' (L.trans hw h')
  | _ + 1, _, _, _, _, hw, h => ⟨h.1, fun i hi => ⟨(h.2 i hi).1, fun w' h' => (h.2 i hi).2 w' (L.trans hw h')⟩⟩
theorem not_letsOut {QN : Act → World → Prop} (h : LetsOut (onlyN QN)) : False := by
  obtain ⟨a, w, h⟩ := h
  exact h
/-- a panic's end is False: so the region's post may be any -/
theorem wpOp_exit {i : Nat} {K : Act → World → Prop} {QN : Act → World → Prop} {Q' : Exit → Act → World → Prop} {a : Act} {w : World} (h : wpOp P ops (onlyN QN) i K a w) : wpOp P ops Q' i K a w := by
  have up : ∀ (o : Oper) (r : Result Next), o.upon P a K (onlyN QN) r → o.upon P a K Q' r := by
    intro o r h
    cases r with
    | ok nx w' =>
      cases nx <;> simp only [Oper.upon] at h ⊢ <;> first
        | exact h
        | exact Calls.mono h (fun e w'' he => by cases e <;> first | exact he | exact (he : False).elim | exact (not_letsOut he).elim)
    | halt x w' =>
      cases x <;> simp only [Oper.upon] at h ⊢
      case panic u => exact (h : False).elim
  unfold wpOp at *
  split
  · rename_i ho; simpa [ho] using h
  · rename_i o ho
    simp only [ho] at h
    split
    · rename_i hw
      simp only [hw, if_true] at h
      rcases h with h | ⟨_, h⟩
      · exact .inl (up _ _ h)
      · exact (not_letsOut h).elim
    · rename_i hw
      simpa [hw] using h
theorem wpAny_of_RL (L : Later R) {QN : Act → World → Prop} {Q' : Exit → Act → World → Prop} {g : Nat} (hF : ∀ listed a w, F listed a w → wpAny P md ops Q' g listed a w) :
    ∀ (f : Nat) (listed : Array Bool) (a : Act) (wc : World), wpAnyRL P md ops R (onlyN QN) n F f listed a wc → ∀ w, R wc w → wpAny P md ops Q' (f + g) listed a w
  | 0, listed, a, wc, h, w, hw => by rw [Nat.zero_add]; exact hF _ _ _ (h w hw)
  | f + 1, listed, a, wc, h, w, hw => by
    rw [show f + 1 + g = (f + g) + 1 by omega]
    exact ⟨fun h0 => absurd h0 h.1, fun i hi => wpOp_exit (QN := QN) (wpOp_mono (fun a' w' h' => wpAny_of_RL L hF f _ a' w' h'.2 w' (L.refl _)) ((h.2 i hi).2 w hw))⟩
theorem wpAnyRL_first (L : Later R) {QN : Act → World → Prop} {i : Nat} {oi : Oper} {v : Value} (hi : ops[i]? = some oi) (hsel : ∀ (j : Nat) (o : Oper) cs b, ops[j]? = some o → o.op ≠ .select cs b)
    (hs : Region.sinkB md ops n = true) (hc : Region.chainB md ops n = true) (hn : n < ops.size) (hin : i < n)
    (hdone : ∀ listed a w, F listed a w → ∀ j ∈ Region.ready md ops listed, n ≤ j) :
    ∀ (f : Nat) (listed : Array Bool) (a : Act) (wc : World), HeadInv md ops n listed →
      (∀ j oj, ops[j]? = some oj → j ≠ i → listed.getD j true = false → (∀ e ∈ oj.after, Region.binds md e = true → e.on ≠ i) → oi.apart ops oj = true) →
      i ∈ Region.ready md ops listed → YieldsR P ops R oi v a wc →
      wpAnyRL P md ops R (onlyN QN) n F f (listed.setIfInBounds i true) (a.put oi.dst v) wc → wpAnyRL P md ops R (onlyN QN) n F (f + 1) listed a wc := by
  intro f
  induction f with
  | zero =>
    intro listed a wc inv _ hr hy H
    have hun := (mem_ready.1 hr).1
    refine ⟨fun h => (by rw [h] at hr; cases hr), fun j hj => ?_⟩
    have hjn : j < n := by
      rcases Nat.lt_or_ge j n with h | h
      · exact h
      · exact absurd hj (tail_waits hs hc hn inv _ i rfl hin hun j h)
    refine ⟨hjn, fun w hw => ?_⟩
    by_cases hji : j = i
    · subst hji; exact hy.wpOp L hi hw fun w' h' => ⟨h', wpAnyRL_mono L _ _ _ _ _ (L.trans hw h') H⟩
    · have := hdone _ _ _ (H w hw) j (ready_mono hj hji)
      omega
  | succ f ih =>
    intro listed a wc inv hfree hr hy H
    have hun := (mem_ready.1 hr).1
    refine ⟨fun h => (by rw [h] at hr; cases hr), fun j hj => ?_⟩
    have hjn : j < n := by
      rcases Nat.lt_or_ge j n with h | h
      · exact h
      · exact absurd hj (tail_waits hs hc hn inv _ i rfl hin hun j h)
    refine ⟨hjn, fun w hw => ?_⟩
    by_cases hji : j = i
    · subst hji; exact hy.wpOp L hi hw fun w' h' => ⟨h', wpAnyRL_mono L _ _ _ _ _ (L.trans hw h') H⟩
    · have h1 := (H.2 j (ready_mono hj hji)).2 w hw
      obtain ⟨hjun, oj, hoj, hall⟩ := mem_ready.1 hj
      have hnot : ∀ e ∈ oj.after, Region.binds md e = true → e.on ≠ i := fun e he hb heq => by
        have h1 := hall e he hb
        rw [heq, getD_both hun] at h1
        cases h1
      have h2 := wpOp_putR hoj (hfree j oj hoj hji hjun hnot) (fun cs b => hsel i oi cs b hi) (fun cs b => hsel j oj cs b hoj) (fun _ _ _ h => h) hy h1
      have hfree' : ∀ k ok, ops[k]? = some ok → k ≠ i → (listed.setIfInBounds j true).getD k true = false →
          (∀ e ∈ ok.after, Region.binds md e = true → e.on ≠ i) → oi.apart ops ok = true := fun k ok hk hki hun hno => by
        refine hfree k ok hk hki ?_ hno
        by_cases hjk : j = k
        · subst hjk; exact hjun
        · rw [getD_set_ne true hjk] at hun; exact hun
      refine wpOp_mono (fun a' w' h3 => ⟨h3.2.1, ih (listed.setIfInBounds j true) a' w' (inv.set hj hjn) hfree' (ready_mono hr (Ne.symm hji)) (h3.1.mono L (L.trans hw h3.2.1)) ?_⟩) h2
      rw [Array.setIfInBounds_comm _ _ hji]
      exact h3.2.2
theorem wpAnyRL_lex (L : Later R) {QN : Act → World → Prop} {g : Nat} (hsel : Region.noSelect ops = true) (hs : Region.sinkB md ops n = true) (hc : Region.chainB md ops n = true) (hn : n < ops.size) :
    ∀ (l : List Oper) (k : Nat) (listed : Array Bool) (a : Act) (wc : World), (∀ j, j < l.length → l[j]? = ops[k + j]?) → k + l.length = n → HeadInv md ops n listed →
    Region.lexHead md ops g l.length k listed = true → wpLx P md ops R (onlyN QN) l k listed a wc →
    wpAnyRL P md ops R (onlyN QN) n (fun listed' a' w' => Region.seqB md ops g n listed' = true ∧ QN a' w') l.length listed a wc
  | [], k, listed, a, wc, _, hk, _, hB, h => by
    have : k = n := by simpa using hk
    subst this
    exact fun w hw => ⟨by simpa [Region.lexHead] using hB, h w hw⟩
  | o :: l, k, listed, a, wc, hl, hk, inv, hB, h => by
    have h0 : ops[k]? = some o := by simpa using (hl 0 (by simp)).symm
    simp only [List.length_cons, Region.lexHead, Bool.and_eq_true] at hB
    obtain ⟨⟨hr, hf⟩, hB'⟩ := hB
    have hkn : k < n := by simp only [List.length_cons] at hk; omega
    have hr' : k ∈ Region.ready md ops listed := by simpa using hr
    have hl' : ∀ j, j < l.length → l[j]? = ops[k + 1 + j]? := fun j hj => by have := hl (j + 1) (by simp; omega); simpa [Nat.add_assoc, Nat.add_comm 1 j] using this
    have hk' : k + 1 + l.length = n := by simp only [List.length_cons] at hk; omega
    rcases h with ⟨v, hy, hK⟩ | ⟨hone, hK⟩
    · exact wpAnyRL_first L h0 (Region.noSelect_spec hsel) hs hc hn hkn (fun listed' a' w' hL => seqB_ready hL.1) l.length listed a wc inv (Region.free_spec h0 hf) hr' hy
        (wpAnyRL_lex L hsel hs hc hn l (k + 1) _ _ _ hl' hk' (inv.set hr' hkn) hB' hK)
    · refine ⟨fun h0 => (by rw [h0] at hone; cases hone), fun i hi => ?_⟩
      rw [hone] at hi
      have hik : i = k := by simpa using hi
      subst hik
      exact ⟨hkn, fun w hw => wpOp_mono (fun a' w' h' => ⟨h'.1, wpAnyRL_lex L hsel hs hc hn l (i + 1) _ _ _ hl' hk' (inv.set hr' hkn) hB' h'.2⟩) (hK w hw)⟩
theorem wp_region_lxt (L : Later R) (n : Nat) {id : Nat} {a : Act} {w : World} {l : List Oper} (hm : P.follows .mixedOrders = true) (hB : Region.lexTailB .any l.toArray n = true)
    (h : wpLx P .any l.toArray R (onlyN (fun a w => wpList P l.toArray Q (l.drop n) a w)) (l.take n) 0 (Array.replicate l.length false) a w.drew) : (Code.region id l.toArray true).wp P Q a w := by
  simp only [Region.lexTailB, Bool.and_eq_true, decide_eq_true_eq] at hB
  obtain ⟨⟨⟨⟨hsel, hn⟩, hs⟩, hc⟩, hlex⟩ := hB
  have hn' : n < l.length := by simpa using hn
  have htl : (l.take n).length = n := by simp; omega
  have hdl : (l.drop n).length = l.toArray.size - n := by simp
  have inv0 : HeadInv .any l.toArray n (Array.replicate l.toArray.size false) :=
    ⟨by simp, fun j oj _ hl => (by rw [getD_replicate_false] at hl; cases hl), fun t _ ht => getD_in (by simpa using ht) (getD_replicate_false _ _)⟩
  have H := wpAnyRL_lex (md := .any) (g := l.toArray.size - n) L hsel hs hc hn (l.take n) 0 (Array.replicate l.toArray.size false) a w.drew (fun j hj => by
    have hj' : j < n := by rw [htl] at hj; exact hj
    simp [hj']) (by simpa using htl) inv0 (by rw [htl]; exact hlex) (by simpa using h)
  refine wp_region_any hm ?_
  have := wpAny_of_RL (Q' := Q) (g := l.toArray.size - n) L (fun listed a' w' hL => by
    have := wpAny_of_seq (md := .any) (Q' := Q) (l.drop n) n listed a' w' (fun j => by simp [List.getElem?_drop]) (by rw [hdl]; exact hL.1) hL.2
    rwa [hdl] at this) _ _ _ _ H _ (L.refl _)
  rw [htl, show n + (l.toArray.size - n) = l.toArray.size by omega] at this
  exact this
end
end Go.Proofs.Ytbnjapgmpjkooaa
