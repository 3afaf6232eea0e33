/- A region that draws its order, walked in an order of one's own: a head of operations in later worlds, then a tail that waits for all of them. -/
import Derived.Test.YtbnjapgmpjkooaaMonoTail
namespace Go.Proofs.Ytbnjapgmpjkooaa
set_option linter.unusedVariables false
set_option linter.unusedSimpArgs false
open Go.RowKit
section
variable {P : Program} {ops : Array Oper} {md : Region.Mode} {R : World → World → Prop} {Q : Exit → Act → World → Prop}
def wpLxO (P : Program) (md : Region.Mode) (ops : Array Oper) (R : World → World → Prop) (Q : Exit → Act → World → Prop) : List Nat → Array Bool → Act → World → Prop
  | [], _, a, wc => ∀ w, R wc w → Q .normal a w
  | k :: rest, listed, a, wc => ∃ o, ops[k]? = some o ∧
    ((∃ v, YieldsR P ops R o v a wc ∧ wpLxO P md ops R Q rest (listed.setIfInBounds k true) (a.put o.dst v) wc) ∨
    (Region.ready md ops listed = [k] ∧ ∀ w, R wc w → wpOp P ops Q k (fun a' w' => R w w' ∧ wpLxO P md ops R Q rest (listed.setIfInBounds k true) a' w') a w))
def ordB (md : Region.Mode) (ops : Array Oper) (fin : Array Bool → Bool) : List Nat → Array Bool → Bool
  | [], listed => fin listed
  | k :: rest, listed => (Region.ready md ops listed).contains k && Region.free md ops listed k && ordB md ops fin rest (listed.setIfInBounds k true)
def seqO (md : Region.Mode) (ops : Array Oper) : List Nat → Array Bool → Bool
  | [], listed => (Region.ready md ops listed).isEmpty
  | k :: rest, listed => decide (Region.ready md ops listed = [k]) && seqO md ops rest (listed.setIfInBounds k true)
def sinkO (md : Region.Mode) (ops : Array Oper) (t0 : Nat) : List Nat → Bool
  | [] => true
  | i :: rest => (rest ++ [t0]).any (fun j => Region.waitsFor md ops j i) && sinkO md ops t0 rest
def chainO (md : Region.Mode) (ops : Array Oper) : List Nat → Bool
  | [] => true
  | [_] => true
  | a :: b :: rest => Region.waitsFor md ops b a && chainO md ops (b :: rest)
def headOf (ops : Array Oper) (tail : List Nat) (i : Nat) : Prop := i < ops.size ∧ i ∉ tail
structure InvO (md : Region.Mode) (ops : Array Oper) (tail : List Nat) (listed : Array Bool) : Prop where
  size : listed.size = ops.size
  closed : ∀ j oj, ops[j]? = some oj → listed.getD j false = true → ∀ e ∈ oj.after, Region.binds md e = true → listed.getD e.on false = true
  tail : ∀ t ∈ tail, listed.getD t true = false
theorem waits_not_ready {j i : Nat} {listed : Array Bool} (h : Region.waitsFor md ops j i = true) (hi : listed.getD i false = false) : j ∉ Region.ready md ops listed := by
  intro hr
  obtain ⟨_, oj, hj, hall⟩ := mem_ready.1 hr
  obtain ⟨oj', hj', e, he, hb, hon⟩ := Region.waitsFor_spec h
  have : oj' = oj := Option.some.inj (hj'.symm.trans hj)
  subst this
  have := hall e he hb
  rw [hon, hi] at this
  cases this
theorem tail_not_ready {listed : Array Bool} : ∀ (tail : List Nat), chainO md ops tail = true → (∀ t ∈ tail, listed.getD t true = false) → (∀ t0, tail.head? = some t0 → t0 ∉ Region.ready md ops listed) → ∀ t ∈ tail, t ∉ Region.ready md ops listed
  | [], _, _, _, t, ht => by cases ht
  | [a], _, _, h0, t, ht => by
    have : t = a := by simpa using ht
    subst this
    exact h0 _ rfl
  | a :: b :: rest, hc, hu, h0, t, ht => by
    simp only [chainO, Bool.and_eq_true] at hc
    rcases List.mem_cons.1 ht with rfl | ht
    · exact h0 _ rfl
    · exact tail_not_ready (b :: rest) hc.2 (fun t ht => hu t (by simp [ht])) (fun t0 h => by
        have : b = t0 := by simpa using h
        subst this
        exact waits_not_ready hc.1 (getD_both (hu a (by simp)))) t ht
theorem tail_waitsO {t0 : Nat} {tail : List Nat} {listed : Array Bool} (hc : chainO md ops (t0 :: tail) = true) (inv : InvO md ops (t0 :: tail) listed) (his : ∀ i oi, ops[i]? = some oi → i < ops.size) :
    ∀ (is : List Nat), sinkO md ops t0 is = true → (∃ i ∈ is, listed.getD i true = false) → ∀ t ∈ t0 :: tail, t ∉ Region.ready md ops listed
  | [], _, h, _, _ => by obtain ⟨i, hi, _⟩ := h; cases hi
  | i :: rest, hs, h, t, ht => by
    simp only [sinkO, Bool.and_eq_true] at hs
    by_cases hr : ∃ j ∈ rest, listed.getD j true = false
    · exact tail_waitsO hc inv his rest hs.2 hr t ht
    · have hi : listed.getD i true = false := by
        obtain ⟨j, hj, hl⟩ := h
        rcases List.mem_cons.1 hj with rfl | hj
        · exact hl
        · exact absurd ⟨j, hj, hl⟩ hr
      obtain ⟨j, hj, hw⟩ := List.any_eq_true.1 hs.1
      have h0 : t0 ∉ Region.ready md ops listed := by
        rcases List.mem_append.1 hj with hj | hj
        · -- j is listed: then i would be
          obtain ⟨oj, hoj, e, he, hb, hon⟩ := Region.waitsFor_spec hw
          have hjl : listed.getD j false = true := by
            have h1 : ¬ listed.getD j true = false := fun h => hr ⟨j, hj, h⟩
            have hlt : j < listed.size := by rw [inv.size]; exact his j oj hoj
            simp [hlt] at h1 ⊢
            exact h1
          have := inv.closed j oj hoj hjl e he hb
          rw [hon, getD_both hi] at this
          cases this
        · have : j = t0 := by simpa using hj
          subst this
          exact waits_not_ready hw (getD_both hi)
      exact tail_not_ready (t0 :: tail) hc inv.tail (fun t1 h1 => by
        have : t0 = t1 := by simpa using h1
        subst this
        exact h0) t ht
theorem InvO.set {tail : List Nat} {i : Nat} {listed : Array Bool} (inv : InvO md ops tail listed) (hi : i ∈ Region.ready md ops listed) (hin : i ∉ tail) : InvO md ops tail (listed.setIfInBounds i true) := by
  obtain ⟨_, oi, hoi, hall⟩ := mem_ready.1 hi
  refine ⟨by simp [inv.size], fun j oj hj hl e he hb => ?_, fun t ht => ?_⟩
  · by_cases hij : i = j
    · subst hij
      have : oj = oi := Option.some.inj (hj.symm.trans hoi)
      subst this
      exact getD_set_true (hall e he hb)
    · rw [getD_set_ne false hij] at hl
      exact getD_set_true (inv.closed j oj hj hl e he hb)
  · have hne : i ≠ t := fun h => hin (by rw [h]; exact ht)
    rw [getD_set_ne true hne]
    exact inv.tail t ht
def wpAnyRO (P : Program) (md : Region.Mode) (ops : Array Oper) (R : World → World → Prop) (Q : Exit → Act → World → Prop) (tail : List Nat) (F : Array Bool → Act → World → Prop) : Nat → Array Bool → Act → World → Prop
  | 0, listed, a, wc => ∀ w, R wc w → F listed a w
  | f + 1, listed, a, wc => Region.ready md ops listed ≠ [] ∧ ∀ i ∈ Region.ready md ops listed, i ∉ tail ∧ ∀ w, R wc w → wpOp P ops Q i (fun a' w' => R w w' ∧ wpAnyRO P md ops R Q tail F f (listed.setIfInBounds i true) a' w') a w
variable {tail : List Nat} {F : Array Bool → Act → World → Prop}
theorem wpAnyRO_mono (L : Later R) : ∀ (f : Nat) (listed : Array Bool) (a : Act) (wc w : World), R wc w → wpAnyRO P md ops R Q tail F f listed a wc → wpAnyRO P md ops R Q tail F f listed a w
  | 0, _, _, _, _, hw, h => fun w' h' => h w' (L.trans hw h')
  | _ + 1, _, _, _, _, hw, h => ⟨h.1, fun i hi => ⟨(h.2 i hi).1, fun w' h' => (h.2 i hi).2 w' (L.trans hw h')⟩⟩
theorem wpAny_of_RO (L : Later R) {QN : Act → World → Prop} {Q' : Exit → Act → World → Prop} {g : Nat} (hF : ∀ listed a w, F listed a w → wpAny P md ops Q' g listed a w) :
    ∀ (f : Nat) (listed : Array Bool) (a : Act) (wc : World), wpAnyRO P md ops R (onlyN QN) tail F f listed a wc → ∀ w, R wc w → wpAny P md ops Q' (f + g) listed a w
  | 0, listed, a, wc, h, w, hw => by rw [Nat.zero_add]; exact hF _ _ _ (h w hw)
  | f + 1, listed, a, wc, h, w, hw => by
    rw [show f + 1 + g = (f + g) + 1 by omega]
    exact ⟨fun h0 => absurd h0 h.1, fun i hi => wpOp_exit (QN := QN) (wpOp_mono (fun a' w' h' => wpAny_of_RO L hF f _ a' w' h'.2 w' (L.refl _)) ((h.2 i hi).2 w hw))⟩
theorem wpAnyRO_first (L : Later R) {QN : Act → World → Prop} {i : Nat} {oi : Oper} {v : Value} (hi : ops[i]? = some oi) (hsel : ∀ (j : Nat) (o : Oper) cs b, ops[j]? = some o → o.op ≠ .select cs b)
    (hin : i ∉ tail) (hw8 : ∀ listed, InvO md ops tail listed → listed.getD i true = false → ∀ t ∈ tail, t ∉ Region.ready md ops listed)
    (hdone : ∀ listed a w, F listed a w → ∀ j ∈ Region.ready md ops listed, j ∈ tail) :
    ∀ (f : Nat) (listed : Array Bool) (a : Act) (wc : World), InvO md ops tail listed →
      (∀ j oj, ops[j]? = some oj → j ≠ i → listed.getD j true = false → (∀ e ∈ oj.after, Region.binds md e = true → e.on ≠ i) → oi.apart ops oj = true) →
      i ∈ Region.ready md ops listed → YieldsR P ops R oi v a wc →
      wpAnyRO P md ops R (onlyN QN) tail F f (listed.setIfInBounds i true) (a.put oi.dst v) wc → wpAnyRO P md ops R (onlyN QN) tail F (f + 1) listed a wc := by
  intro f
  induction f with
  | zero =>
    intro listed a wc inv _ hr hy H
    have hun := (mem_ready.1 hr).1
    refine ⟨fun h => (by rw [h] at hr; cases hr), fun j hj => ?_⟩
    have hjn : j ∉ tail := fun h => hw8 listed inv hun j h hj
    refine ⟨hjn, fun w hw => ?_⟩
    by_cases hji : j = i
    · subst hji; exact hy.wpOp L hi hw fun w' h' => ⟨h', wpAnyRO_mono L _ _ _ _ _ (L.trans hw h') H⟩
    · exact absurd (hdone _ _ _ (H w hw) j (ready_mono hj hji)) hjn
  | succ f ih =>
    intro listed a wc inv hfree hr hy H
    have hun := (mem_ready.1 hr).1
    refine ⟨fun h => (by rw [h] at hr; cases hr), fun j hj => ?_⟩
    have hjn : j ∉ tail := fun h => hw8 listed inv hun j h hj
    refine ⟨hjn, fun w hw => ?_⟩
    by_cases hji : j = i
    · subst hji; exact hy.wpOp L hi hw fun w' h' => ⟨h', wpAnyRO_mono L _ _ _ _ _ (L.trans hw h') H⟩
    · have h1 := (H.2 j (ready_mono hj hji)).2 w hw
      obtain ⟨hjun, oj, hoj, hall⟩ := mem_ready.1 hj
      have hnot : ∀ e ∈ oj.after, Region.binds md e = true → e.on ≠ i := fun e he hb heq => by
        have h1 := hall e he hb
        rw [heq, getD_both hun] at h1
        cases h1
      have h2 := wpOp_putR hoj (hfree j oj hoj hji hjun hnot) (fun cs b => hsel i oi cs b hi) (fun cs b => hsel j oj cs b hoj) (fun _ _ _ h => h) hy h1
      have hfree' : ∀ k ok, ops[k]? = some ok → k ≠ i → (listed.setIfInBounds j true).getD k true = false →
          (∀ e ∈ ok.after, Region.binds md e = true → e.on ≠ i) → oi.apart ops ok = true := fun k ok hk hki hun hno => by
        refine hfree k ok hk hki ?_ hno
        by_cases hjk : j = k
        · subst hjk; exact hjun
        · rw [getD_set_ne true hjk] at hun; exact hun
      refine wpOp_mono (fun a' w' h3 => ⟨h3.2.1, ih (listed.setIfInBounds j true) a' w' (inv.set hj hjn) hfree' (ready_mono hr (Ne.symm hji)) (h3.1.mono L (L.trans hw h3.2.1)) ?_⟩) h2
      rw [Array.setIfInBounds_comm _ _ hji]
      exact h3.2.2
theorem wpAnyRO_lex (L : Later R) {QN : Act → World → Prop} {t0 : Nat} {tl : List Nat} (htail : tail = t0 :: tl) (hsel : Region.noSelect ops = true) (hc : chainO md ops (t0 :: tl) = true) {fin : Array Bool → Bool}
    (hdone : ∀ listed, fin listed = true → ∀ j ∈ Region.ready md ops listed, j ∈ tail) :
    ∀ (is : List Nat) (listed : Array Bool) (a : Act) (wc : World), InvO md ops tail listed → sinkO md ops t0 is = true → (∀ i ∈ is, i ∉ tail) →
    ordB md ops fin is listed = true → wpLxO P md ops R (onlyN QN) is listed a wc →
    wpAnyRO P md ops R (onlyN QN) tail (fun listed' a' w' => fin listed' = true ∧ QN a' w') is.length listed a wc
  | [], listed, a, wc, _, _, _, hB, h => fun w hw => ⟨by simpa [ordB] using hB, h w hw⟩
  | k :: rest, listed, a, wc, inv, hs, hnt, hB, h => by
    have hs0 := hs
    simp only [ordB, Bool.and_eq_true] at hB
    obtain ⟨⟨hr, hf⟩, hB'⟩ := hB
    have hr' : k ∈ Region.ready md ops listed := by simpa using hr
    simp only [sinkO, Bool.and_eq_true] at hs
    have hkt := hnt k (by simp)
    obtain ⟨o, h0, h⟩ := h
    rcases h with ⟨v, hy, hK⟩ | ⟨hone, hK⟩
    · refine wpAnyRO_first L h0 (Region.noSelect_spec hsel) hkt (fun listed' inv' hun => ?_) (fun listed' a' w' hL => hdone listed' hL.1) rest.length listed a wc inv (Region.free_spec h0 hf) hr' hy
        (wpAnyRO_lex L htail hsel hc hdone rest _ _ _ (inv.set hr' hkt) hs.2 (fun i hi => hnt i (by simp [hi])) hB' hK)
      subst htail
      exact tail_waitsO hc inv' (fun i oi hoi => (Array.getElem?_eq_some_iff.1 hoi).1) (k :: rest) hs0 ⟨k, by simp, hun⟩
    · refine ⟨fun h0 => (by rw [h0] at hone; cases hone), fun i hi => ?_⟩
      rw [hone] at hi
      have hik : i = k := by simpa using hi
      subst hik
      exact ⟨hkt, fun w hw => wpOp_mono (fun a' w' h' => ⟨h'.1, wpAnyRO_lex L htail hsel hc hdone rest _ _ _ (inv.set hr' hkt) hs.2 (fun i hi => hnt i (by simp [hi])) hB' h'.2⟩) (hK w hw)⟩
theorem wpAny_of_seqO {Q' : Exit → Act → World → Prop} : ∀ (tl : List Nat) (l : List Oper) (listed : Array Bool) (a : Act) (w : World), tl.map (fun k => ops[k]?) = l.map some →
    seqO md ops tl listed = true → wpList P ops Q' l a w → wpAny P md ops Q' tl.length listed a w
  | [], l, _, _, _, hl, hB, h => by
    obtain rfl : l = [] := by simpa using hl.symm
    exact ⟨by simpa [seqO] using hB, h⟩
  | k :: tl, l, listed, a, w, hl, hB, h => by
    cases l with
    | nil => simp at hl
    | cons o l =>
      simp only [List.map_cons, List.cons.injEq] at hl
      simp only [seqO, Bool.and_eq_true, decide_eq_true_eq] at hB
      refine ⟨fun h1 => (by rw [hB.1] at h1; cases h1), fun i hi => ?_⟩
      rw [hB.1] at hi
      have hik : i = k := by simpa using hi
      subst hik
      have hw : wpOp P ops Q' i (wpList P ops Q' l) a w := by unfold wpOp; simp only [hl.1]; exact h
      exact wpOp_mono (fun a' w' h' => wpAny_of_seqO tl l _ a' w' hl.2 hB.2 h') hw
theorem seqO_ready : ∀ {tl : List Nat} {listed : Array Bool}, seqO md ops tl listed = true → ∀ j ∈ Region.ready md ops listed, j ∈ tl
  | [], listed, h, j, hj => by simp only [seqO, List.isEmpty_iff] at h; rw [h] at hj; cases hj
  | k :: tl, listed, h, j, hj => by
    simp only [seqO, Bool.and_eq_true, decide_eq_true_eq] at h
    rw [h.1] at hj
    have : j = k := by simpa using hj
    simp [this]
/-- all that the order must bear -/
def ordAll (md : Region.Mode) (ops : Array Oper) (is : List Nat) (t0 : Nat) (tl : List Nat) : Bool :=
  Region.noSelect ops && chainO md ops (t0 :: tl) && sinkO md ops t0 is && is.all (fun i => !(t0 :: tl).contains i) && (t0 :: tl).all (fun t => decide (t < ops.size)) && decide (is.length + (tl.length + 1) = ops.size) &&
    ordB md ops (seqO md ops (t0 :: tl)) is (Array.replicate ops.size false)
theorem wp_region_ord (L : Later R) (is : List Nat) (t0 : Nat) (tl : List Nat) (lt : List Oper) {id : Nat} {a : Act} {w : World} {l : List Oper} (hm : P.follows .mixedOrders = true) (hB : ordAll .any l.toArray is t0 tl = true)
    (hlt : (t0 :: tl).map (fun k => l.toArray[k]?) = lt.map some)
    (h : wpLxO P .any l.toArray R (onlyN (fun a w => wpList P l.toArray Q lt a w)) is (Array.replicate l.length false) a w.drew) : (Code.region id l.toArray true).wp P Q a w := by
  simp only [ordAll, Bool.and_eq_true, decide_eq_true_eq] at hB
  obtain ⟨⟨⟨⟨⟨⟨hsel, hc⟩, hs⟩, hnt⟩, hts⟩, hlen⟩, hord⟩ := hB
  have inv0 : InvO .any l.toArray (t0 :: tl) (Array.replicate l.toArray.size false) :=
    ⟨by simp, fun j oj _ hl => (by rw [getD_replicate_false] at hl; cases hl), fun t ht => getD_in (by have := List.all_eq_true.1 hts t ht; simpa using this) (getD_replicate_false _ _)⟩
  have H := wpAnyRO_lex (md := .any) L (tail := t0 :: tl) rfl hsel hc (fun listed hL => seqO_ready hL) is (Array.replicate l.toArray.size false) a w.drew inv0 hs
    (fun i hi => by have := List.all_eq_true.1 hnt i hi; simpa using this) hord (by simpa using h)
  refine wp_region_any hm ?_
  have := wpAny_of_RO (Q' := Q) (g := (t0 :: tl).length) L (fun listed a' w' hL => wpAny_of_seqO (t0 :: tl) lt listed a' w' hlt hL.1 hL.2) _ _ _ _ H _ (L.refl _)
  rw [show is.length + (t0 :: tl).length = l.toArray.size by simp at hlen ⊢; omega] at this
  exact this
/-- operations that yield whatever the world -/
def wpPre (P : Program) (ops : Array Oper) (K : Array Bool → Act → Prop) : List Nat → Array Bool → Act → Prop
  | [], listed, a => K listed a
  | k :: rest, listed, a => ∃ o v, ops[k]? = some o ∧ Yields P ops o v a ∧ wpPre P ops K rest (listed.setIfInBounds k true) (a.put o.dst v)
theorem wpAny_pre {QN : Act → World → Prop} {w : World} {K : Array Bool → Act → Prop} {fin : Array Bool → Bool} {f : Nat} (hsel : Region.noSelect ops = true) (hK : ∀ listed a, InvO md ops tail listed → fin listed = true → K listed a → wpAny P md ops (onlyN QN) f listed a w) :
    ∀ (pre : List Nat) (listed : Array Bool) (a : Act), InvO md ops tail listed → (∀ i ∈ pre, i ∉ tail) → ordB md ops fin pre listed = true → wpPre P ops K pre listed a → wpAny P md ops (onlyN QN) (pre.length + f) listed a w
  | [], listed, a, inv, _, hB, h => by rw [List.length_nil, Nat.zero_add]; exact hK _ _ inv (by simpa [ordB] using hB) h
  | k :: rest, listed, a, inv, hnt, hB, h => by
    simp only [ordB, Bool.and_eq_true] at hB
    obtain ⟨⟨hr, hf⟩, hB'⟩ := hB
    have hr' : k ∈ Region.ready md ops listed := by simpa using hr
    obtain ⟨o, v, h0, hy, h⟩ := h
    rw [show (k :: rest).length + f = (rest.length + f) + 1 by simp; omega]
    exact wpAny_take h0 hsel hf hr (fun _ _ _ h => h) hy (wpAny_pre hsel hK rest _ _ (inv.set hr' (hnt k (by simp))) (fun i hi => hnt i (by simp [hi])) hB' h)
def ordAllP (md : Region.Mode) (ops : Array Oper) (pre is : List Nat) (t0 : Nat) (tl : List Nat) : Bool :=
  Region.noSelect ops && chainO md ops (t0 :: tl) && sinkO md ops t0 is && is.all (fun i => !(t0 :: tl).contains i) && pre.all (fun i => !(t0 :: tl).contains i) && (t0 :: tl).all (fun t => decide (t < ops.size)) && decide (pre.length + (is.length + (tl.length + 1)) = ops.size) &&
    ordB md ops (fun listed => ordB md ops (seqO md ops (t0 :: tl)) is listed) pre (Array.replicate ops.size false)
theorem tail_ops (ops : Array Oper) : ∀ (tl : List Nat), (∀ t ∈ tl, t < ops.size) → tl.map (fun k => ops[k]?) = (tl.filterMap (fun k => ops[k]?)).map some
  | [], _ => rfl
  | k :: tl, h => by
    have hk : k < ops.size := h k (by simp)
    have e : ops[k]? = some ops[k] := by simp [hk]
    rw [List.map_cons, List.filterMap_cons_some e, List.map_cons, e, tail_ops ops tl (fun t ht => h t (by simp [ht]))]
theorem wp_region_ordp (L : Later R) (pre is : List Nat) (t0 : Nat) (tl : List Nat) {id : Nat} {a : Act} {w : World} {l : List Oper} (hm : P.follows .mixedOrders = true) (hB : ordAllP .any l.toArray pre is t0 tl = true)
    (h : wpPre P l.toArray (fun listed a => wpLxO P .any l.toArray R (onlyN (fun a w => wpList P l.toArray (onlyN (fun a w => Q .normal a w)) ((t0 :: tl).filterMap fun k => l.toArray[k]?) a w)) is listed a w.drew) pre (Array.replicate l.length false) a) : (Code.region id l.toArray true).wp P Q a w := by
  simp only [ordAllP, Bool.and_eq_true, decide_eq_true_eq] at hB
  obtain ⟨⟨⟨⟨⟨⟨⟨hsel, hc⟩, hs⟩, hnt⟩, hnp⟩, hts⟩, hlen⟩, hord⟩ := hB
  have inv0 : InvO .any l.toArray (t0 :: tl) (Array.replicate l.toArray.size false) :=
    ⟨by simp, fun j oj _ hl => (by rw [getD_replicate_false] at hl; cases hl), fun t ht => getD_in (by have := List.all_eq_true.1 hts t ht; simpa using this) (getD_replicate_false _ _)⟩
  refine Code.wp_mono (Q := onlyN (fun a w => Q .normal a w)) (fun e a w h => ?_) (wp_region_any hm ?_)
  · cases e <;> first | exact h | exact (h : False).elim
  have key := wpAny_pre (md := .any) (tail := t0 :: tl) (QN := fun a w => Q .normal a w) (w := w.drew) (f := is.length + (t0 :: tl).length) hsel
    (K := fun listed a => wpLxO P .any l.toArray R (onlyN (fun a w => wpList P l.toArray (onlyN (fun a w => Q .normal a w)) ((t0 :: tl).filterMap fun k => l.toArray[k]?) a w)) is listed a w.drew)
    (fin := fun listed => ordB .any l.toArray (seqO .any l.toArray (t0 :: tl)) is listed) (fun listed a inv hord h => by
      have H := wpAnyRO_lex (md := .any) L (tail := t0 :: tl) rfl hsel hc (fun listed hL => seqO_ready hL) is listed a w.drew inv hs
        (fun i hi => by have := List.all_eq_true.1 hnt i hi; simpa using this) hord h
      exact wpAny_of_RO (Q' := onlyN (fun a w => Q .normal a w)) (g := (t0 :: tl).length) L (fun listed a' w' hL => wpAny_of_seqO (t0 :: tl) _ listed a' w' (tail_ops _ _ (fun t ht => by have := List.all_eq_true.1 hts t ht; simpa using this)) hL.1 hL.2) _ _ _ _ H _ (L.refl _))
    pre (Array.replicate l.toArray.size false) a inv0 (fun i hi => by have := List.all_eq_true.1 hnp i hi; simpa using this) hord (by simpa using h)
  rw [show pre.length + (is.length + (t0 :: tl).length) = l.toArray.size by simp at hlen ⊢; omega] at key
  exact key
theorem lp_nil {K : Array Bool → Act → Prop} {listed : Array Bool} {a : Act} (h : K listed a) : wpPre P ops K [] listed a := h
theorem lp_ex {K : Array Bool → Act → Prop} {o : Oper} {k : Nat} {rest : List Nat} {listed : Array Bool} {a : Act} (ho : ops[k]? = some o) (hw : Region.wanted o (yielded ops a.tmps) = true)
    (h : ∃ v, (∀ w, (execOp a.eval o).run P w = .ok (.value v) w) ∧ wpPre P ops K rest (listed.setIfInBounds k true) (a.put o.dst v)) : wpPre P ops K (k :: rest) listed a :=
  let ⟨v, h1, h2⟩ := h; ⟨o, v, ho, .inl ⟨hw, h1⟩, h2⟩
variable {o : Oper} {rest : List Nat} {k : Nat} {listed : Array Bool} {a : Act} {wc : World}
theorem lo_nil {QN : Act → World → Prop} (h : ∀ w, R wc w → QN a w) : wpLxO P md ops R (onlyN QN) [] listed a wc := h
theorem lo_ex (ho : ops[k]? = some o) (hw : Region.wanted o (yielded ops a.tmps) = true) (h : ∃ v, (∀ w, R wc w → o.quietAt P a (R w) w v) ∧ wpLxO P md ops R Q rest (listed.setIfInBounds k true) (a.put o.dst v) wc) : wpLxO P md ops R Q (k :: rest) listed a wc :=
  ⟨o, ho, .inl (let ⟨v, h1, h2⟩ := h; ⟨v, .inl ⟨hw, h1⟩, h2⟩)⟩
theorem lo_skip (ho : ops[k]? = some o) (hw : Region.wanted o (yielded ops a.tmps) = false) (h : wpLxO P md ops R Q rest (listed.setIfInBounds k true) (a.put o.dst undef) wc) : wpLxO P md ops R Q (k :: rest) listed a wc :=
  ⟨o, ho, .inl ⟨undef, .inr ⟨hw, rfl⟩, h⟩⟩
theorem lo_alone (ho : ops[k]? = some o) (hone : Region.ready md ops listed = [k]) (hw : Region.wanted o (yielded ops a.tmps) = true)
    (h : ∀ w, R wc w → o.wp P a w (fun a' w' => R w w' ∧ wpLxO P md ops R Q rest (listed.setIfInBounds k true) a' w') Q) : wpLxO P md ops R Q (k :: rest) listed a wc :=
  ⟨o, ho, .inr ⟨hone, fun w hR => by unfold wpOp; simp only [ho, hw, if_true]; exact .inl (h w hR)⟩⟩
theorem lo_at (ho : ops[k]? = some o) (hw : Region.wanted o (yielded ops a.tmps) = true) (v : Value) (h1 : ∀ w, R wc w → o.quietAt P a (R w) w v) (h2 : wpLxO P md ops R Q rest (listed.setIfInBounds k true) (a.put o.dst v) wc) : wpLxO P md ops R Q (k :: rest) listed a wc :=
  ⟨o, ho, .inl ⟨v, .inl ⟨hw, h1⟩, h2⟩⟩
end
end Go.Proofs.Ytbnjapgmpjkooaa
