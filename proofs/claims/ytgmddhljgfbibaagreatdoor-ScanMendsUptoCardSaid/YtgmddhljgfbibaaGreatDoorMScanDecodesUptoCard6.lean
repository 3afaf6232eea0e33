/- Contracts for the law ScanDecodesUptoCard, part 6: what the functions that it reaches answer, for all arguments that the theorems name. -/
import Derived.Test.YtgmddhljgfbibaaGreatDoorMScanDecodesUptoCard1
import Derived.Test.YtgmddhljgfbibaaGreatDoorMScanDecodesUptoCard4
import Derived.Test.YtgmddhljgfbibaaGreatDoorMScanDecodesUptoCard3
import Derived.Outline
import Derived.IntWalk
/- A region that draws its order, walked in an order of one's own: a head of operations in later worlds, then a tail that waits for all of them. -/
namespace Go.Proofs.YtgmddhljgfbibaaGreatDoor
set_option linter.unusedVariables false
set_option linter.unusedSimpArgs false
open Go.RowKit
section
variable {P : Program} {ops : Array Oper} {md : Region.Mode} {R : World → World → Prop} {Q : Exit → Act → World → Prop}
def wpLxO (P : Program) (md : Region.Mode) (ops : Array Oper) (R : World → World → Prop) (Q : Exit → Act → World → Prop) : List Nat → Array Bool → Act → World → Prop
  | [], _, a, wc => ∀ w, R wc w → Q .normal a w
  | k :: rest, listed, a, wc => ∃ o, ops[k]? = some o ∧
    ((∃ v, YieldsR P ops R o v a wc ∧ wpLxO P md ops R Q rest (listed.setIfInBounds k true) (a.put o.dst v) wc) ∨
    (Region.ready md ops listed = [k] ∧ ∀ w, R wc w → wpOp P ops Q k (fun a' w' => R w w' ∧ wpLxO P md ops R Q rest (listed.setIfInBounds k true) a' w') a w))
def ordB (md : Region.Mode) (ops : Array Oper) (fin : Array Bool → Bool) : List Nat → Array Bool → Bool
  | [], listed => fin listed
  | k :: rest, listed => (Region.ready md ops listed).contains k && Region.free md ops listed k && ordB md ops fin rest (listed.setIfInBounds k true)
def seqO (md : Region.Mode) (ops : Array Oper) : List Nat → Array Bool → Bool
  | [], listed => (Region.ready md ops listed).isEmpty
  | k :: rest, listed => decide (Region.ready md ops listed = [k]) && seqO md ops rest (listed.setIfInBounds k true)
def sinkO (md : Region.Mode) (ops : Array Oper) (t0 : Nat) : List Nat → Bool
  | [] => true
  | i :: rest => (rest ++ [t0]).any (fun j => Region.waitsFor md ops j i) && sinkO md ops t0 rest
def chainO (md : Region.Mode) (ops : Array Oper) : List Nat → Bool
  | [] => true
  | [_] => true
  | a :: b :: rest => Region.waitsFor md ops b a && chainO md ops (b :: rest)
def headOf (ops : Array Oper) (tail : List Nat) (i : Nat) : Prop := i < ops.size ∧ i ∉ tail
structure InvO (md : Region.Mode) (ops : Array Oper) (tail : List Nat) (listed : Array Bool) : Prop where
  size : listed.size = ops.size
  closed : ∀ j oj, ops[j]? = some oj → listed.getD j false = true → ∀ e ∈ oj.after, Region.binds md e = true → listed.getD e.on false = true
  tail : ∀ t ∈ tail, listed.getD t true = false
theorem waits_not_ready {j i : Nat} {listed : Array Bool} (h : Region.waitsFor md ops j i = true) (hi : listed.getD i false = false) : j ∉ Region.ready md ops listed := by
  intro hr
  obtain ⟨_, oj, hj, hall⟩ := mem_ready.1 hr
  obtain ⟨oj', hj', e, he, hb, hon⟩ := Region.waitsFor_spec h
  have : oj' = oj := Option.some.inj (hj'.symm.trans hj)
  subst this
  have := hall e he hb
  rw [hon, hi] at this
  cases this
theorem tail_not_ready {listed : Array Bool} : ∀ (tail : List Nat), chainO md ops tail = true → (∀ t ∈ tail, listed.getD t true = false) → (∀ t0, tail.head? = some t0 → t0 ∉ Region.ready md ops listed) → ∀ t ∈ tail, t ∉ Region.ready md ops listed
  | [], _, _, _, t, ht => by cases ht
  | [a], _, _, h0, t, ht => by
    have : t = a := by simpa using ht
    subst this
    exact h0 _ rfl
  | a :: b :: rest, hc, hu, h0, t, ht => by
    simp only [chainO, Bool.and_eq_true] at hc
    rcases List.mem_cons.1 ht with rfl | ht
    · exact h0 _ rfl
    · exact tail_not_ready (b :: rest) hc.2 (fun t ht => hu t (by simp [ht])) (fun t0 h => by
        have : b = t0 := by simpa using h
        subst this
        exact waits_not_ready hc.1 (getD_both (hu a (by simp)))) t ht
theorem tail_waitsO {t0 : Nat} {tail : List Nat} {listed : Array Bool} (hc : chainO md ops (t0 :: tail) = true) (inv : InvO md ops (t0 :: tail) listed) (his : ∀ i oi, ops[i]? = some oi → i < ops.size) :
    ∀ (is : List Nat), sinkO md ops t0 is = true → (∃ i ∈ is, listed.getD i true = false) → ∀ t ∈ t0 :: tail, t ∉ Region.ready md ops listed
  | [], _, h, _, _ => by obtain ⟨i, hi, _⟩ := h; cases hi
  | i :: rest, hs, h, t, ht => by
    simp only [sinkO, Bool.and_eq_true] at hs
    by_cases hr : ∃ j ∈ rest, listed.getD j true = false
    · exact tail_waitsO hc inv his rest hs.2 hr t ht
    · have hi : listed.getD i true = false := by
        obtain ⟨j, hj, hl⟩ := h
        rcases List.mem_cons.1 hj with rfl | hj
        · exact hl
        · exact absurd ⟨j, hj, hl⟩ hr
      obtain ⟨j, hj, hw⟩ := List.any_eq_true.1 hs.1
      have h0 : t0 ∉ Region.ready md ops listed := by
        rcases List.mem_append.1 hj with hj | hj
        · -- j is listed: then i would be
          obtain ⟨oj, hoj, e, he, hb, hon⟩ := Region.waitsFor_spec hw
          have hjl : listed.getD j false = true := by
            have h1 : ¬ listed.getD j true = false := fun h => hr ⟨j, hj, h⟩
            have hlt : j < listed.size := by rw [inv.size]; exact his j oj hoj
            simp [hlt] at h1 ⊢
            exact h1
          have := inv.closed j oj hoj hjl e he hb
          rw [hon, getD_both hi] at this
          cases this
        · have : j = t0 := by simpa using hj
          subst this
          exact waits_not_ready hw (getD_both hi)
      exact tail_not_ready (t0 :: tail) hc inv.tail (fun t1 h1 => by
        have : t0 = t1 := by simpa using h1
        subst this
        exact h0) t ht
theorem InvO.set {tail : List Nat} {i : Nat} {listed : Array Bool} (inv : InvO md ops tail listed) (hi : i ∈ Region.ready md ops listed) (hin : i ∉ tail) : InvO md ops tail (listed.setIfInBounds i true) := by
  obtain ⟨_, oi, hoi, hall⟩ := mem_ready.1 hi
  refine ⟨by simp [inv.size], fun j oj hj hl e he hb => ?_, fun t ht => ?_⟩
  · by_cases hij : i = j
    · subst hij
      have : oj = oi := Option.some.inj (hj.symm.trans hoi)
      subst this
      exact getD_set_true (hall e he hb)
    · rw [getD_set_ne false hij] at hl
      exact getD_set_true (inv.closed j oj hj hl e he hb)
  · have hne : i ≠ t := fun h => hin (by rw [h]; exact ht)
    rw [getD_set_ne true hne]
    exact inv.tail t ht
def wpAnyRO (P : Program) (md : Region.Mode) (ops : Array Oper) (R : World → World → Prop) (Q : Exit → Act → World → Prop) (tail : List Nat) (F : Array Bool → Act → World → Prop) : Nat → Array Bool → Act → World → Prop
  | 0, listed, a, wc => ∀ w, R wc w → F listed a w
  | f + 1, listed, a, wc => Region.ready md ops listed ≠ [] ∧ ∀ i ∈ Region.ready md ops listed, i ∉ tail ∧ ∀ w, R wc w → wpOp P ops Q i (fun a' w' => R w w' ∧ wpAnyRO P md ops R Q tail F f (listed.setIfInBounds i true) a' w') a w
variable {tail : List Nat} {F : Array Bool → Act → World → Prop}
theorem wpAnyRO_mono (L : Later R) : ∀ (f : Nat) (listed : Array Bool) (a : Act) (wc w : World), R wc w → wpAnyRO P md ops R Q tail F f listed a wc → wpAnyRO P md ops R Q tail F f listed a w
  | 0, _, _, _, _, hw, h => fun w' h' => h w' (L.trans hw h')
  | _ + 1, _, _, _, _, hw, h => ⟨h.1, fun i hi => ⟨(h.2 i hi).1, fun w' h' => (h.2 i hi).2 w' (L.trans hw h')⟩⟩
theorem wpAny_of_RO (L : Later R) {QN : Act → World → Prop} {Q' : Exit → Act → World → Prop} {g : Nat} (hF : ∀ listed a w, F listed a w → wpAny P md ops Q' g listed a w) :
    ∀ (f : Nat) (listed : Array Bool) (a : Act) (wc : World), wpAnyRO P md ops R (onlyN QN) tail F f listed a wc → ∀ w, R wc w → wpAny P md ops Q' (f + g) listed a w
  | 0, listed, a, wc, h, w, hw => by rw [Nat.zero_add]; exact hF _ _ _ (h w hw)
  | f + 1, listed, a, wc, h, w, hw => by
    rw [show f + 1 + g = (f + g) + 1 by omega]
    exact ⟨fun h0 => absurd h0 h.1, fun i hi => wpOp_exit (QN := QN) (wpOp_mono (fun a' w' h' => wpAny_of_RO L hF f _ a' w' h'.2 w' (L.refl _)) ((h.2 i hi).2 w hw))⟩
theorem wpAnyRO_first (L : Later R) {QN : Act → World → Prop} {i : Nat} {oi : Oper} {v : Value} (hi : ops[i]? = some oi) (hsel : ∀ (j : Nat) (o : Oper) cs b, ops[j]? = some o → o.op ≠ .select cs b)
    (hin : i ∉ tail) (hw8 : ∀ listed, InvO md ops tail listed → listed.getD i true = false → ∀ t ∈ tail, t ∉ Region.ready md ops listed)
    (hdone : ∀ listed a w, F listed a w → ∀ j ∈ Region.ready md ops listed, j ∈ tail) :
    ∀ (f : Nat) (listed : Array Bool) (a : Act) (wc : World), InvO md ops tail listed →
      (∀ j oj, ops[j]? = some oj → j ≠ i → listed.getD j true = false → (∀ e ∈ oj.after, Region.binds md e = true → e.on ≠ i) → oi.apart ops oj = true) →
      i ∈ Region.ready md ops listed → YieldsR P ops R oi v a wc →
      wpAnyRO P md ops R (onlyN QN) tail F f (listed.setIfInBounds i true) (a.put oi.dst v) wc → wpAnyRO P md ops R (onlyN QN) tail F (f + 1) listed a wc := by
  intro f
  induction f with
  | zero =>
    intro listed a wc inv _ hr hy H
    have hun := (mem_ready.1 hr).1
    refine ⟨fun h => (by rw [h] at hr; cases hr), fun j hj => ?_⟩
    have hjn : j ∉ tail := fun h => hw8 listed inv hun j h hj
    refine ⟨hjn, fun w hw => ?_⟩
    by_cases hji : j = i
    · subst hji; exact hy.wpOp L hi hw fun w' h' => ⟨h', wpAnyRO_mono L _ _ _ _ _ (L.trans hw h') H⟩
    · exact absurd (hdone _ _ _ (H w hw) j (ready_mono hj hji)) hjn
  | succ f ih =>
    intro listed a wc inv hfree hr hy H
    have hun := (mem_ready.1 hr).1
    refine ⟨fun h => (by rw [h] at hr; cases hr), fun j hj => ?_⟩
    have hjn : j ∉ tail := fun h => hw8 listed inv hun j h hj
    refine ⟨hjn, fun w hw => ?_⟩
    by_cases hji : j = i
    · subst hji; exact hy.wpOp L hi hw fun w' h' => ⟨h', wpAnyRO_mono L _ _ _ _ _ (L.trans hw h') H⟩
    · have h1 := (H.2 j (ready_mono hj hji)).2 w hw
      obtain ⟨hjun, oj, hoj, hall⟩ := mem_ready.1 hj
      have hnot : ∀ e ∈ oj.after, Region.binds md e = true → e.on ≠ i := fun e he hb heq => by
        have h1 := hall e he hb
        rw [heq, getD_both hun] at h1
        cases h1
      have h2 := wpOp_putR hoj (hfree j oj hoj hji hjun hnot) (fun cs b => hsel i oi cs b hi) (fun cs b => hsel j oj cs b hoj) (fun _ _ _ h => h) hy h1
      have hfree' : ∀ k ok, ops[k]? = some ok → k ≠ i → (listed.setIfInBounds j true).getD k true = false →
          (∀ e ∈ ok.after, Region.binds md e = true → e.on ≠ i) → oi.apart ops ok = true := fun k ok hk hki hun hno => by
        refine hfree k ok hk hki ?_ hno
        by_cases hjk : j = k
        · subst hjk; exact hjun
        · rw [getD_set_ne true hjk] at hun; exact hun
      refine wpOp_mono (fun a' w' h3 => ⟨h3.2.1, ih (listed.setIfInBounds j true) a' w' (inv.set hj hjn) hfree' (ready_mono hr (Ne.symm hji)) (h3.1.mono L (L.trans hw h3.2.1)) ?_⟩) h2
      rw [Array.setIfInBounds_comm _ _ hji]
      exact h3.2.2
theorem wpAnyRO_lex (L : Later R) {QN : Act → World → Prop} {t0 : Nat} {tl : List Nat} (htail : tail = t0 :: tl) (hsel : Region.noSelect ops = true) (hc : chainO md ops (t0 :: tl) = true) {fin : Array Bool → Bool}
    (hdone : ∀ listed, fin listed = true → ∀ j ∈ Region.ready md ops listed, j ∈ tail) :
    ∀ (is : List Nat) (listed : Array Bool) (a : Act) (wc : World), InvO md ops tail listed → sinkO md ops t0 is = true → (∀ i ∈ is, i ∉ tail) →
    ordB md ops fin is listed = true → wpLxO P md ops R (onlyN QN) is listed a wc →
    wpAnyRO P md ops R (onlyN QN) tail (fun listed' a' w' => fin listed' = true ∧ QN a' w') is.length listed a wc
  | [], listed, a, wc, _, _, _, hB, h => fun w hw => ⟨by simpa [ordB] using hB, h w hw⟩
  | k :: rest, listed, a, wc, inv, hs, hnt, hB, h => by
    have hs0 := hs
    simp only [ordB, Bool.and_eq_true] at hB
    obtain ⟨⟨hr, hf⟩, hB'⟩ := hB
    have hr' : k ∈ Region.ready md ops listed := by simpa using hr
    simp only [sinkO, Bool.and_eq_true] at hs
    have hkt := hnt k (by simp)
    obtain ⟨o, h0, h⟩ := h
    rcases h with ⟨v, hy, hK⟩ | ⟨hone, hK⟩
    · refine wpAnyRO_first L h0 (Region.noSelect_spec hsel) hkt (fun listed' inv' hun => ?_) (fun listed' a' w' hL => hdone listed' hL.1) rest.length listed a wc inv (Region.free_spec h0 hf) hr' hy
        (wpAnyRO_lex L htail hsel hc hdone rest _ _ _ (inv.set hr' hkt) hs.2 (fun i hi => hnt i (by simp [hi])) hB' hK)
      subst htail
      exact tail_waitsO hc inv' (fun i oi hoi => (Array.getElem?_eq_some_iff.1 hoi).1) (k :: rest) hs0 ⟨k, by simp, hun⟩
    · refine ⟨fun h0 => (by rw [h0] at hone; cases hone), fun i hi => ?_⟩
      rw [hone] at hi
      have hik : i = k := by simpa using hi
      subst hik
      exact ⟨hkt, fun w hw => wpOp_mono (fun a' w' h' => ⟨h'.1, wpAnyRO_lex L htail hsel hc hdone rest _ _ _ (inv.set hr' hkt) hs.2 (fun i hi => hnt i (by simp [hi])) hB' h'.2⟩) (hK w hw)⟩
theorem wpAny_of_seqO {Q' : Exit → Act → World → Prop} : ∀ (tl : List Nat) (l : List Oper) (listed : Array Bool) (a : Act) (w : World), tl.map (fun k => ops[k]?) = l.map some →
    seqO md ops tl listed = true → wpList P ops Q' l a w → wpAny P md ops Q' tl.length listed a w
  | [], l, _, _, _, hl, hB, h => by
    obtain rfl : l = [] := by simpa using hl.symm
    exact ⟨by simpa [seqO] using hB, h⟩
  | k :: tl, l, listed, a, w, hl, hB, h => by
    cases l with
    | nil => simp at hl
    | cons o l =>
      simp only [List.map_cons, List.cons.injEq] at hl
      simp only [seqO, Bool.and_eq_true, decide_eq_true_eq] at hB
      refine ⟨fun h1 => (by rw [hB.1] at h1; cases h1), fun i hi => ?_⟩
      rw [hB.1] at hi
      have hik : i = k := by simpa using hi
      subst hik
      have hw : wpOp P ops Q' i (wpList P ops Q' l) a w := by unfold wpOp; simp only [hl.1]; exact h
      exact wpOp_mono (fun a' w' h' => wpAny_of_seqO tl l _ a' w' hl.2 hB.2 h') hw
theorem seqO_ready : ∀ {tl : List Nat} {listed : Array Bool}, seqO md ops tl listed = true → ∀ j ∈ Region.ready md ops listed, j ∈ tl
  | [], listed, h, j, hj => by simp only [seqO, List.isEmpty_iff] at h; rw [h] at hj; cases hj
  | k :: tl, listed, h, j, hj => by
    simp only [seqO, Bool.and_eq_true, decide_eq_true_eq] at h
    rw [h.1] at hj
    have : j = k := by simpa using hj
    simp [this]
/-- all that the order must bear -/
def ordAll (md : Region.Mode) (ops : Array Oper) (is : List Nat) (t0 : Nat) (tl : List Nat) : Bool :=
  Region.noSelect ops && chainO md ops (t0 :: tl) && sinkO md ops t0 is && is.all (fun i => !(t0 :: tl).contains i) && (t0 :: tl).all (fun t => decide (t < ops.size)) && decide (is.length + (tl.length + 1) = ops.size) &&
    ordB md ops (seqO md ops (t0 :: tl)) is (Array.replicate ops.size false)
theorem wp_region_ord (L : Later R) (is : List Nat) (t0 : Nat) (tl : List Nat) (lt : List Oper) {id : Nat} {a : Act} {w : World} {l : List Oper} (hm : P.follows .mixedOrders = true) (hB : ordAll .any l.toArray is t0 tl = true)
    (hlt : (t0 :: tl).map (fun k => l.toArray[k]?) = lt.map some)
    (h : wpLxO P .any l.toArray R (onlyN (fun a w => wpList P l.toArray Q lt a w)) is (Array.replicate l.length false) a w.drew) : (Code.region id l.toArray true).wp P Q a w := by
  simp only [ordAll, Bool.and_eq_true, decide_eq_true_eq] at hB
  obtain ⟨⟨⟨⟨⟨⟨hsel, hc⟩, hs⟩, hnt⟩, hts⟩, hlen⟩, hord⟩ := hB
  have inv0 : InvO .any l.toArray (t0 :: tl) (Array.replicate l.toArray.size false) :=
    ⟨by simp, fun j oj _ hl => (by rw [getD_replicate_false] at hl; cases hl), fun t ht => getD_in (by have := List.all_eq_true.1 hts t ht; simpa using this) (getD_replicate_false _ _)⟩
  have H := wpAnyRO_lex (md := .any) L (tail := t0 :: tl) rfl hsel hc (fun listed hL => seqO_ready hL) is (Array.replicate l.toArray.size false) a w.drew inv0 hs
    (fun i hi => by have := List.all_eq_true.1 hnt i hi; simpa using this) hord (by simpa using h)
  refine wp_region_any hm ?_
  have := wpAny_of_RO (Q' := Q) (g := (t0 :: tl).length) L (fun listed a' w' hL => wpAny_of_seqO (t0 :: tl) lt listed a' w' hlt hL.1 hL.2) _ _ _ _ H _ (L.refl _)
  rw [show is.length + (t0 :: tl).length = l.toArray.size by simp at hlen ⊢; omega] at this
  exact this
/-- operations that yield whatever the world -/
def wpPre (P : Program) (ops : Array Oper) (K : Array Bool → Act → Prop) : List Nat → Array Bool → Act → Prop
  | [], listed, a => K listed a
  | k :: rest, listed, a => ∃ o v, ops[k]? = some o ∧ Yields P ops o v a ∧ wpPre P ops K rest (listed.setIfInBounds k true) (a.put o.dst v)
theorem wpAny_pre {QN : Act → World → Prop} {w : World} {K : Array Bool → Act → Prop} {fin : Array Bool → Bool} {f : Nat} (hsel : Region.noSelect ops = true) (hK : ∀ listed a, InvO md ops tail listed → fin listed = true → K listed a → wpAny P md ops (onlyN QN) f listed a w) :
    ∀ (pre : List Nat) (listed : Array Bool) (a : Act), InvO md ops tail listed → (∀ i ∈ pre, i ∉ tail) → ordB md ops fin pre listed = true → wpPre P ops K pre listed a → wpAny P md ops (onlyN QN) (pre.length + f) listed a w
  | [], listed, a, inv, _, hB, h => by rw [List.length_nil, Nat.zero_add]; exact hK _ _ inv (by simpa [ordB] using hB) h
  | k :: rest, listed, a, inv, hnt, hB, h => by
    simp only [ordB, Bool.and_eq_true] at hB
    obtain ⟨⟨hr, hf⟩, hB'⟩ := hB
    have hr' : k ∈ Region.ready md ops listed := by simpa using hr
    obtain ⟨o, v, h0, hy, h⟩ := h
    rw [show (k :: rest).length + f = (rest.length + f) + 1 by simp; omega]
    exact wpAny_take h0 hsel hf hr (fun _ _ _ h => h) hy (wpAny_pre hsel hK rest _ _ (inv.set hr' (hnt k (by simp))) (fun i hi => hnt i (by simp [hi])) hB' h)
def ordAllP (md : Region.Mode) (ops : Array Oper) (pre is : List Nat) (t0 : Nat) (tl : List Nat) : Bool :=
  Region.noSelect ops && chainO md ops (t0 :: tl) && sinkO md ops t0 is && is.all (fun i => !(t0 :: tl).contains i) && pre.all (fun i => !(t0 :: tl).contains i) && (t0 :: tl).all (fun t => decide (t < ops.size)) && decide (pre.length + (is.length + (tl.length + 1)) = ops.size) &&
    ordB md ops (fun listed => ordB md ops (seqO md ops (t0 :: tl)) is listed) pre (Array.replicate ops.size false)
theorem tail_ops (ops : Array Oper) : ∀ (tl : List Nat), (∀ t ∈ tl, t < ops.size) → tl.map (fun k => ops[k]?) = (tl.filterMap (fun k => ops[k]?)).map some
  | [], _ => rfl
  | k :: tl, h => by
    have hk : k < ops.size := h k (by simp)
    have e : ops[k]? = some ops[k] := by simp [hk]
    rw [List.map_cons, List.filterMap_cons_some e, List.map_cons, e, tail_ops ops tl (fun t ht => h t (by simp [ht]))]
theorem wp_region_ordp (L : Later R) (pre is : List Nat) (t0 : Nat) (tl : List Nat) {id : Nat} {a : Act} {w : World} {l : List Oper} (hm : P.follows .mixedOrders = true) (hB : ordAllP .any l.toArray pre is t0 tl = true)
    (h : wpPre P l.toArray (fun listed a => wpLxO P .any l.toArray R (onlyN (fun a w => wpList P l.toArray (onlyN (fun a w => Q .normal a w)) ((t0 :: tl).filterMap fun k => l.toArray[k]?) a w)) is listed a w.drew) pre (Array.replicate l.length false) a) : (Code.region id l.toArray true).wp P Q a w := by
  simp only [ordAllP, Bool.and_eq_true, decide_eq_true_eq] at hB
  obtain ⟨⟨⟨⟨⟨⟨⟨hsel, hc⟩, hs⟩, hnt⟩, hnp⟩, hts⟩, hlen⟩, hord⟩ := hB
  have inv0 : InvO .any l.toArray (t0 :: tl) (Array.replicate l.toArray.size false) :=
    ⟨by simp, fun j oj _ hl => (by rw [getD_replicate_false] at hl; cases hl), fun t ht => getD_in (by have := List.all_eq_true.1 hts t ht; simpa using this) (getD_replicate_false _ _)⟩
  refine Code.wp_mono (Q := onlyN (fun a w => Q .normal a w)) (fun e a w h => ?_) (wp_region_any hm ?_)
  · cases e <;> first | exact h | exact (h : False).elim
  have key := wpAny_pre (md := .any) (tail := t0 :: tl) (QN := fun a w => Q .normal a w) (w := w.drew) (f := is.length + (t0 :: tl).length) hsel
    (K := fun listed a => wpLxO P .any l.toArray R (onlyN (fun a w => wpList P l.toArray (onlyN (fun a w => Q .normal a w)) ((t0 :: tl).filterMap fun k => l.toArray[k]?) a w)) is listed a w.drew)
    (fin := fun listed => ordB .any l.toArray (seqO .any l.toArray (t0 :: tl)) is listed) (fun listed a inv hord h => by
      have H := wpAnyRO_lex (md := .any) L (tail := t0 :: tl) rfl hsel hc (fun listed hL => seqO_ready hL) is listed a w.drew inv hs
        (fun i hi => by have := List.all_eq_true.1 hnt i hi; simpa using this) hord h
      exact wpAny_of_RO (Q' := onlyN (fun a w => Q .normal a w)) (g := (t0 :: tl).length) L (fun listed a' w' hL => wpAny_of_seqO (t0 :: tl) _ listed a' w' (tail_ops _ _ (fun t ht => by have := List.all_eq_true.1 hts t ht; simpa using this)) hL.1 hL.2) _ _ _ _ H _ (L.refl _))
    pre (Array.replicate l.toArray.size false) a inv0 (fun i hi => by have := List.all_eq_true.1 hnp i hi; simpa using this) hord (by simpa using h)
  rw [show pre.length + (is.length + (t0 :: tl).length) = l.toArray.size by simp at hlen ⊢; omega] at key
  exact key
theorem lp_nil {K : Array Bool → Act → Prop} {listed : Array Bool} {a : Act} (h : K listed a) : wpPre P ops K [] listed a := h
theorem lp_ex {K : Array Bool → Act → Prop} {o : Oper} {k : Nat} {rest : List Nat} {listed : Array Bool} {a : Act} (ho : ops[k]? = some o) (hw : Region.wanted o (yielded ops a.tmps) = true)
    (h : ∃ v, (∀ w, (execOp a.eval o).run P w = .ok (.value v) w) ∧ wpPre P ops K rest (listed.setIfInBounds k true) (a.put o.dst v)) : wpPre P ops K (k :: rest) listed a :=
  let ⟨v, h1, h2⟩ := h; ⟨o, v, ho, .inl ⟨hw, h1⟩, h2⟩
variable {o : Oper} {rest : List Nat} {k : Nat} {listed : Array Bool} {a : Act} {wc : World}
theorem lo_nil {QN : Act → World → Prop} (h : ∀ w, R wc w → QN a w) : wpLxO P md ops R (onlyN QN) [] listed a wc := h
theorem lo_ex (ho : ops[k]? = some o) (hw : Region.wanted o (yielded ops a.tmps) = true) (h : ∃ v, (∀ w, R wc w → o.quietAt P a (R w) w v) ∧ wpLxO P md ops R Q rest (listed.setIfInBounds k true) (a.put o.dst v) wc) : wpLxO P md ops R Q (k :: rest) listed a wc :=
  ⟨o, ho, .inl (let ⟨v, h1, h2⟩ := h; ⟨v, .inl ⟨hw, h1⟩, h2⟩)⟩
theorem lo_skip (ho : ops[k]? = some o) (hw : Region.wanted o (yielded ops a.tmps) = false) (h : wpLxO P md ops R Q rest (listed.setIfInBounds k true) (a.put o.dst undef) wc) : wpLxO P md ops R Q (k :: rest) listed a wc :=
  ⟨o, ho, .inl ⟨undef, .inr ⟨hw, rfl⟩, h⟩⟩
theorem lo_alone (ho : ops[k]? = some o) (hone : Region.ready md ops listed = [k]) (hw : Region.wanted o (yielded ops a.tmps) = true)
    (h : ∀ w, R wc w → o.wp P a w (fun a' w' => R w w' ∧ wpLxO P md ops R Q rest (listed.setIfInBounds k true) a' w') Q) : wpLxO P md ops R Q (k :: rest) listed a wc :=
  ⟨o, ho, .inr ⟨hone, fun w hR => by unfold wpOp; simp only [ho, hw, if_true]; exact .inl (h w hR)⟩⟩
theorem lo_at (ho : ops[k]? = some o) (hw : Region.wanted o (yielded ops a.tmps) = true) (v : Value) (h1 : ∀ w, R wc w → o.quietAt P a (R w) w v) (h2 : wpLxO P md ops R Q rest (listed.setIfInBounds k true) (a.put o.dst v) wc) : wpLxO P md ops R Q (k :: rest) listed a wc :=
  ⟨o, ho, .inl ⟨v, .inl ⟨hw, h1⟩, h2⟩⟩
end
end Go.Proofs.YtgmddhljgfbibaaGreatDoor
/- A world that is another one but for new blocks and some others. -/
namespace Go.Proofs.YtgmddhljgfbibaaGreatDoor
set_option linter.unusedVariables false
set_option linter.unusedSimpArgs false
open Go.RowKit
/-- w' is w but for new blocks and the blocks of S -/
structure Upd (S : Nat → Prop) (w w' : World) : Prop where
  os : w'.os = w.os
  tape : w'.tape = w.tape
  output : w'.output = w.output
  size : w.heap.size ≤ w'.heap.size
  block : ∀ b, b < w.heap.size → ¬ S b → w'.heap[b]? = w.heap[b]?
theorem Upd.refl (S : Nat → Prop) (w : World) : Upd S w w := ⟨rfl, rfl, rfl, Nat.le_refl _, fun _ _ _ => rfl⟩
theorem Upd.trans {S S' : Nat → Prop} {a b c : World} (h : Upd S a b) (k : Upd S' b c) (hS : ∀ x, S' x → S x ∨ a.heap.size ≤ x) : Upd S a c :=
  ⟨k.os.trans h.os, k.tape.trans h.tape, k.output.trans h.output, Nat.le_trans h.size k.size, fun x hx hn => by
    have h1 := h.size
    rw [k.block x (by omega) (fun h2 => (hS x h2).elim hn (by omega)), h.block x hx hn]⟩
theorem Upd.of_ext {S : Nat → Prop} {a b : World} (h : Ext a b) : Upd S a b := ⟨h.os, h.tape, h.output, h.size, fun x hx _ => h.block x hx⟩
theorem Upd.below {S : Nat → Prop} {a b : World} {B : Nat} (h : Upd S a b) (hS : ∀ x, S x → B ≤ x) (hB : B ≤ a.heap.size) : Below B a b :=
  ⟨h.os, h.tape, h.output, h.size, fun x hx => h.block x (by omega) (fun h2 => by have := hS x h2; omega)⟩
theorem Upd.setCell {S : Nat → Prop} {a b : World} (h : Upd S a b) {p : Addr} (hp : S p.block) (u : Value) : Upd S a (b.setCell p u) :=
  ⟨h.os, h.tape, h.output, by simpa [World.setCell] using h.size, fun x hx hn => (Below.heap_setCell b p u x (fun e => hn (e ▸ hp))).trans (h.block x hx hn)⟩
theorem Upd.drew {S : Nat → Prop} {a b : World} (h : Upd S a b) : Upd S a b.drew := ⟨h.os, h.tape, h.output, h.size, h.block⟩
theorem Upd.grown {S : Nat → Prop} {a w w' : World} (h : Upd S a w) {row : Option Nat} (hg : w.grownBy w' row) (hr : ∀ b, row = some b → S b ∨ a.heap.size ≤ b) : Upd S a w' :=
  ⟨hg.os.trans h.os, hg.tape.trans h.tape, hg.output.trans h.output, Nat.le_trans h.size hg.size, fun x hx hn => by
    have h1 := h.size
    rw [hg.block x (by omega) (fun h2 => (hr x h2.symm).elim hn (by omega)), h.block x hx hn]⟩
theorem SL.upd {S : Nat → Prop} {w w' : World} {size n c : Nat} {A : Option Addr} {xs : List Value} (h : SL w size (.slice A n c) n xs) (hu : Upd S w w') (hS : ∀ ad, A = some ad → ¬ S ad.block) : SL w' size (.slice A n c) n xs := by
  obtain ⟨A', c', e, h1, h1', h2, h3⟩ := h
  injection e with e1 e2 e3
  subst e1 e3
  refine ⟨A, c, rfl, h1, h1', h2, fun hn => ?_⟩
  obtain ⟨ad, ea, hlt, hc⟩ := h3 hn
  refine ⟨ad, ea, Nat.lt_of_lt_of_le hlt hu.size, fun j u hj => ?_⟩
  rw [← hc j u hj]
  unfold World.cell?
  rw [block_of_add, hu.block _ hlt (hS ad ea)]
theorem Upd.blk {S : Nat → Prop} {w w' : World} {g : Nat} {T : TypeId} {cs : Array Value} (hu : Upd S w w') (h : Blk w g T cs) (hS : ¬ S g) : Blk w' g T cs := (hu.block g h.lt hS).trans h
theorem Upd.ext {S : Nat → Prop} {a w w' : World} (hu : Upd S w w') (h : Ext a w) (hS : ∀ x, S x → a.heap.size ≤ x) : Ext a w' :=
  ⟨hu.os.trans h.os, hu.tape.trans h.tape, hu.output.trans h.output, Nat.le_trans h.size hu.size, fun x hx => by
    have := h.size
    rw [hu.block x (by omega) (fun h2 => by have := hS x h2; omega), h.block x hx]⟩
theorem SL.below {w w' : World} {size n B : Nat} {v : Value} {xs : List Value} (h : SL w size v n xs) (hb : Below B w w') (hB : w.heap.size ≤ B) : SL w' size v n xs := by
  obtain ⟨A, c, rfl, h1, h1', h2, h3⟩ := h
  refine ⟨A, c, rfl, h1, h1', h2, fun hn => ?_⟩
  obtain ⟨ad, e, hlt, hc⟩ := h3 hn
  exact ⟨ad, e, Nat.lt_of_lt_of_le hlt hb.size, fun j u hu => (hb.cell (by rw [block_of_add]; omega)).trans (hc j u hu)⟩
end Go.Proofs.YtgmddhljgfbibaaGreatDoor
/- bits.Writer. -/
namespace Go.Proofs.YtgmddhljgfbibaaGreatDoor
set_option linter.unusedVariables false
set_option linter.unusedSimpArgs false
open Go.RowKit
theorem elt_u8 : Elt Tryz.prog 28 5 1 1 := ⟨Tryz.underlying28, by kernel_rfl, by omega⟩
theorem u8_one (x : Int) : ∀ u ∈ [Value.int .u8 x], u.oneCell' = true := by
  intro u hu
  simp at hu
  subst hu
  rfl
/-- the writer in block gw has written L; r: where its bytes lie -/
def WrS (w : World) (gw : Nat) (L : List Bool) (r : Option Nat) : Prop :=
  ∃ A c, r = A.map (·.block) ∧ Blk w gw 94 #[.slice A (L.length / 8) c, .int .u64 (numB (restB L) : Nat), .int .i64 ((L.length % 8 : Nat) : Int)] ∧
    w.ownsRow (gw + 1) 5 1 (.slice A (L.length / 8) c) (L.length / 8) (bytesV (packB L))
/-- what a whole Put does to the numbers: R: the digits at hand -/
theorem put_or (R0 : List Bool) (value width : Nat) (h0 : R0.length < 8) (hw : width ≤ 24) (hv : value < 2 ^ width) :
    bits .or .u64 (IntKind.u64.wrap ((numB R0 : Int) * 2 ^ width)) (value : Int) = (numB (R0 ++ digs value width) : Nat) := by
  have h1 := numB_lt R0
  have h2 : (2 : Nat) ^ R0.length ≤ 2 ^ 7 := Nat.pow_le_pow_right (by omega) (by omega)
  have h3 : (2 : Nat) ^ width ≤ 2 ^ 24 := Nat.pow_le_pow_right (by omega) hw
  have h4 : numB R0 * 2 ^ width < 2 ^ 7 * 2 ^ 24 := by
    have h5 : numB R0 * 2 ^ width ≤ numB R0 * 2 ^ 24 := Nat.mul_le_mul_left _ h3
    have : numB R0 < 2 ^ 7 := by omega
    omega
  have e1 : IntKind.u64.wrap ((numB R0 : Int) * 2 ^ width) = ((numB R0 * 2 ^ width : Nat) : Int) := by
    rw [IntKind.wrap_u64]
    push_cast
    have : ((numB R0 * 2 ^ width : Nat) : Int) < 18446744073709551616 := by omega
    push_cast at this
    exact Int.emod_eq_of_lt (by exact_mod_cast Nat.zero_le _) this
  rw [e1, u64_or_nat _ _ (by omega) (by omega)]
  congr 1
  rw [nat_join width _ _ (by simp) hv, numB_append, numB_digs_lt hv, digs_len]
theorem put_and (R : List Bool) (hb : numB R < 4294967296) : bits .and .u64 (numB R : Int) (IntKind.u64.wrap (IntKind.u64.wrap (2 ^ (R.length % 8)) - 1)) = (numB (restB R) : Nat) := by
  have hq : R.length % 8 < 8 := by omega
  have h3 : (2 : Nat) ^ (R.length % 8) ≤ 2 ^ 8 := Nat.pow_le_pow_right (by omega) (by omega)
  have h4 := Nat.two_pow_pos (R.length % 8)
  have e1 : IntKind.u64.wrap (2 ^ (R.length % 8)) = ((2 ^ (R.length % 8) : Nat) : Int) := by
    rw [IntKind.wrap_u64]
    have : ((2 : Int) ^ (R.length % 8)) = ((2 ^ (R.length % 8) : Nat) : Int) := by push_cast; rfl
    rw [this]
    exact Int.emod_eq_of_lt (by omega) (by omega)
  have e2 : IntKind.u64.wrap (((2 ^ (R.length % 8) : Nat) : Int) - 1) = ((2 ^ (R.length % 8) - 1 : Nat) : Int) := by
    rw [IntKind.wrap_u64, Int.emod_eq_of_lt (by omega) (by omega)]
    omega
  rw [e1, e2, u64_and_nat _ _ (by omega) (by omega), Nat.and_two_pow_sub_one_eq_mod]
  unfold restB
  rw [numB_drop]
  rw [show R.length - 8 * (R.length / 8) = R.length % 8 by omega]
def manyOf (w : World) (gw : Nat) : Nat := match w.cell? ⟨gw, 2, none⟩ with | some (.int _ n) => n.toNat | _ => 0
theorem many_of {w : World} {gw : Nat} {T : TypeId} {x y : Value} {k : IntKind} {n : Int} (h : Blk w gw T #[x, y, .int k n]) : manyOf w gw = n.toNat := by
  unfold manyOf
  rw [h.cell 2]
  rfl
theorem own_set {w : World} {gw n size : Nat} {e : TypeId} {v : Value} {xs : List Value} (h : w.ownsRow (gw + 1) e size v n xs) (i : Nat) (u : Value) : (w.setCell ⟨gw, i, none⟩ u).ownsRow (gw + 1) e size v n xs := by
  obtain ⟨hl, hh⟩ := h
  refine ⟨hl, ?_⟩
  rcases hh with ⟨rfl, rfl⟩ | ⟨g, cap, cur, rfl, h1, hg, h2⟩
  · exact .inl ⟨rfl, rfl⟩
  · exact .inr ⟨g, cap, cur, rfl, h1, (Below.heap_setCell w ⟨gw, i, none⟩ u g (by show g ≠ gw; omega)).trans hg, h2⟩
theorem own_map (A : Option Addr) (n c : Nat) : (Value.slice A n c).ownBlock = A.map (·.block) := by cases A <;> rfl
theorem later_eq : Later (fun a b : World => a = b) := ⟨fun _ => rfl, fun h k => h.trans k⟩
theorem packB_take (R : List Bool) (j : Nat) (h : j < R.length / 8) : (packB R).take (j + 1) = (packB R).take j ++ [numB ((R.drop (8 * j)).take 8)] := by
  rw [List.take_succ_eq_append_getElem (by rw [packB_len]; exact h)]
  simp [packB]
theorem own_ne {w : World} {gw n size : Nat} {e : TypeId} {v : Value} {xs : List Value} (h : w.ownsRow (gw + 1) e size v n xs) : some gw ≠ v.ownBlock := fun hk => by
  have := (h.lt gw hk.symm).1
  omega
theorem own_ext0' {w w' : World} {base : Nat} {e : TypeId} {size n : Nat} {v : Value} {xs : List Value} (h : w.ownsRow base e size v n xs) (hb : Ext w w') : w'.ownsRow base e size v n xs := by
  obtain ⟨hl, hh⟩ := h
  refine ⟨hl, ?_⟩
  rcases hh with ⟨rfl, rfl⟩ | ⟨g, cap, cur, rfl, h1, hg, h2⟩
  · exact .inl ⟨rfl, rfl⟩
  · exact .inr ⟨g, cap, cur, rfl, h1, (hb.block g (Blk.lt (w := w) (t := e) (cs := cur) hg)).trans hg, h2⟩
theorem put_len (L : List Bool) (value width : Nat) : (L ++ digs value width).length = L.length + width := by simp [digs_len]
set_option maxRecDepth 20000 in
set_option maxHeartbeats 1000000 in
theorem put_any (gw : Nat) (L : List Bool) (r : Option Nat) (value width : Nat) (w : World) (h : WrS w gw L r) (hw : width ≤ 24) (hv : value < 2 ^ width) (hl : L.length ≤ 1000000000000) :
    Calls Tryz.prog 45 #[.pointer (some ⟨gw, 0, none⟩), .int .i64 (width : Int), .int .i64 (value : Int)] w fun e w' => e = .returned (.tuple #[]) ∧
      ∃ r', WrS w' gw (L ++ digs value width) r' ∧ (r' = r ∨ ∃ b, r' = some b ∧ w.heap.size ≤ b) ∧ Upd (fun b => b = gw ∨ r = some b) w w' := by
  obtain ⟨A, c, hr, hB, hown⟩ := h
  have HOR := hid_ (put_or (restB L) value width (by rw [restB_len]; omega) hw hv)
  have hRl : (restB L ++ digs value width).length = L.length % 8 + width := by rw [List.length_append, restB_len, digs_len]
  have HPA := hid_ (packB_append L (digs value width))
  have HRA := hid_ (restB_append L (digs value width))
  have HPL := hid_ (put_len L value width)
  have HR0 := hid_ (numB_lt (restB L))
  have hv24 : value < 16777216 := by have := Nat.pow_le_pow_right (n := 2) (by omega) hw; omega
  have hlt0 : numB (restB L) < 256 := by have := numB_lt (restB L); rw [restB_len] at this; have := Nat.pow_le_pow_right (n := 2) (by omega) (show L.length % 8 ≤ 8 by omega); omega
  have hN0 : L.length % 8 < 8 := by omega
  have hn0b : L.length / 8 ≤ 1000000000000 := by omega
  have hRb : numB (restB L ++ digs value width) < 4294967296 := by
    have := numB_lt (restB L ++ digs value width)
    rw [hRl] at this
    have := Nat.pow_le_pow_right (n := 2) (by omega) (show L.length % 8 + width ≤ 32 by omega)
    omega
  generalize hR : restB L ++ digs value width = R at *
  generalize hm : L.length % 8 = m at *
  generalize hn : L.length / 8 = n0 at *
  generalize hT : packB L = T at *
  generalize hacc : numB (restB L) = acc at *
  have HR := hid_ hR
  have Hm := hid_ hm
  have Hn := hid_ hn
  have c0 := hB.cell 0
  have c1 := hB.cell 1
  have c2 := hB.cell 2
  have f1 := hB.frozen 1
  have f2 := hB.frozen 2
  simp at c0 c1 c2
  have hgw := hB.lt
  clear hR hm hn hT hacc hl hv
  have HRL := hid_ hRl
  clear hRl
  go_enter Tryz.func45, Tryz.ntmps45
  go_wp2_with fail
  rw [HOR.out]
  have hBs := (hB.set_ 1 (.int .u64 (numB R : Nat))).set_ 2 (.int .i64 ((m : Int) + width))
  simp at hBs
  have hun : Upd (fun b => b = gw ∨ r = some b) w ((w.setCell ⟨gw, 1, none⟩ (.int .u64 (numB R : Nat))).setCell ⟨gw, 2, none⟩ (.int .i64 ((m : Int) + width))) :=
    ((Upd.refl _ w).setCell (.inl rfl) _).setCell (.inl rfl) _
  have hown2 : ((w.setCell ⟨gw, 1, none⟩ (.int .u64 (numB R : Nat))).setCell ⟨gw, 2, none⟩ (.int .i64 ((m : Int) + width))).ownsRow (gw + 1) 5 1 (.slice A n0 c) n0 (bytesV T) := own_set (own_set hown 1 _) 2 _
  generalize (w.setCell ⟨gw, 1, none⟩ (.int .u64 (numB R : Nat))).setCell ⟨gw, 2, none⟩ (.int .i64 ((m : Int) + width)) = w2 at *
  clear c0 c1 c2 f1 f2
  go_loopw [29] (fun _ wr => ∃ (j : Nat) (A' : Option Addr) (c' : Nat), j ≤ R.length / 8 ∧ Blk wr gw 94 #[.slice A' (n0 + j) c', .int .u64 (numB R : Nat), .int .i64 ((R.length - 8 * j : Nat) : Int)] ∧
    wr.ownsRow (gw + 1) 5 1 (.slice A' (n0 + j) c') (n0 + j) (bytesV (T ++ (packB R).take j)) ∧ (A'.map (·.block) = r ∨ ∃ b, A'.map (·.block) = some b ∧ w.heap.size ≤ b) ∧ Upd (fun b => b = gw ∨ r = some b) w wr) (fun _ wr => manyOf wr gw)
  case atStart => exact ⟨0, A, c, by omega, by have := HRL.out; have e : ((R.length - 8 * 0 : Nat) : Int) = (m : Int) + width := by omega
                                               rw [e]; exact hBs, by simpa using hown2, .inl hr.symm, hun⟩
  case round =>
    clear hBs hown2 hun hB hown
    obtain ⟨j, A', c', hj, hB, hown, hrow, hu⟩ := hrel
    have c0 := hB.cell 0
    have c1 := hB.cell 1
    have c2 := hB.cell 2
    simp only [List.getElem?_toArray, List.getElem?_cons_zero, List.getElem?_cons_succ] at c0 c1 c2
    by_cases hlt : j < R.length / 8
    · obtain ⟨k, hk⟩ : ∃ k : Nat, R.length - 8 * j = k + 8 := ⟨R.length - 8 * j - 8, by omega⟩
      have HK := hid_ hk
      rw [hk] at c2
      have hk8 : k ≤ 32 := by have := HRL.out; omega
      have hj8 : j ≤ 4 := by have := HRL.out; omega
      clear hk
      go_wp2_with fail
      have HC0 := hid_ (fun W (hW : Ext wr.drew W) => by have := (hB.drew.ext hW).cell 0; simpa using this)
      have HC1 := hid_ (fun W (hW : Ext wr.drew W) => by have := (hB.drew.ext hW).cell 1; simpa using this)
      have HC2 := hid_ (fun W (hW : Ext wr.drew W) => by have := (hB.drew.ext hW).cell 2; rw [HK.out] at this; simpa using this)
      clear c0 c1 c2
      have HWR : Hid (IntKind.i64.wrap (k : Int) = k) := hid_ (IntWalk.i64_in _ (by omega))
      have HPJ := hid_ (packB_take R j (by omega))
      have HQ : Hid (numB ((R.drop (8 * j)).take 8) = numB R / 2 ^ k % 256) := hid_ (by
        rw [numB_mid R (8 * j) 8 (by omega)]
        have := HK.out
        rw [show R.length - (8 * j + 8) = k by omega])
      rw [HQ.out] at HPJ
      have HCV : Hid (IntKind.u8.wrap ((numB R : Int) / 2 ^ k) = ((numB R / 2 ^ k % 256 : Nat) : Int)) := hid_ (by rw [IntKind.wrap_u8']; simp)
      generalize numB R / 2 ^ k % 256 = y at *
      refine wp_region_ordp later_ext [0] [1, 2, 3, 4, 5, 6, 7, 8, 9, 10, 11, 12, 13, 14, 15, 16] 17 [18, 19, 20] (by kernel_rfl) (by kernel_rfl) ?_
      iterate 1 (refine lp_ex rfl (by rfl) ?_; apply Exists.intro; refine ⟨fun w => ?_, ?_⟩; · (go_simp; with_reducible rfl)
                 simp only [Act.put, List.setIfInBounds_toArray, List.set_cons_succ, List.set_cons_zero])
      refine lp_nil ?_
      iterate 15 (refine lo_ex rfl (by rfl) ?_; apply Exists.intro; refine ⟨fun w hw => ?_, ?_⟩; · (have h0 := HC0.out w hw; have h1 := HC1.out w hw; have h2 := HC2.out w hw; have h3 := HWR.out; have h5 := HCV.out; go_simp; with_reducible rfl)
                  simp only [Act.put, List.setIfInBounds_toArray, List.set_cons_succ, List.set_cons_zero])
      refine lo_alone rfl (by kernel_rfl) (by rfl) (fun w3 hw3 => ?_)
      go_simp
      refine ⟨(Ext.refl w3).alloc _, ?_⟩
      refine lo_nil ?_
      intro w4 hw4
      have hx4 : Ext wr w4 := ((((Ext.refl wr).drew).trans hw3).alloc (.cells #[.int .u8 (y : Int)] 5)).trans hw4
      have hB4 := hB.ext hx4
      have hown4 := own_ext0' hown hx4
      have hone := hid_ ((one_sl w3 5 (.int .u8 (y : Int))).ext hw4)
      have hz4 := hx4.size
      have hgw4 := hB4.lt
      clear HC0 HC1 HC2 HCV HWR hw3 hw4
      try simp only [List.filterMap_cons, List.filterMap_nil, List.getElem?_cons_succ, List.getElem?_cons_zero, List.getElem?_toArray]
      go_wp2_with (at_builtin; go_must (refine wpList_append_slf elt_u8 rfl _ _ rfl (gw + 1) (.slice A' (n0 + j) c') _ _ rfl hown4 _ 1 [.int .u8 _] rfl hone.out (u8_one _) (by omega) (by omega) (by omega) ?_); intro A7 c7 w7 hown7 hg7 hrow7; have hB7 := hB4.grown hg7 (own_ne hown4); have c0 := hB7.cell 0; have f0 := hB7.frozen 0; have c2 := hB7.cell 2; have f2 := hB7.frozen 2; rw [HK.out] at c2; simp only [List.getElem?_toArray, List.getElem?_cons_zero, List.getElem?_cons_succ] at c0 c2)
      simp only [onlyN]
      go_wp2_with fail
      go_roundw
      case rel =>
        have hb8 := (hB7.set_ 0 (.slice A7 (n0 + j + 1) c7)).set_ 2 (.int .i64 (k : Int))
        simp only [List.setIfInBounds_toArray, List.set_cons_zero, List.set_cons_succ] at hb8
        refine ⟨j + 1, A7, c7, by omega, ?_, ?_, ?_, ?_⟩
        · have e : ((R.length - 8 * (j + 1) : Nat) : Int) = (k : Int) := by have := HK.out; omega
          rw [e]
          exact hb8
        · rw [HPJ.out, ← List.append_assoc, bytesV_snoc]
          exact own_set (own_set hown7 0 _) 2 _
        · rw [own_map] at hrow7
          rcases hrow7 with h7 | h7
          · rw [h7]; exact hrow
          · exact .inr ⟨_, h7, by have := hu.size; omega⟩
        · have h8 := (hu.trans (Upd.of_ext (S := fun _ => False) hx4) (fun x hx => hx.elim)).grown hg7 (fun b hb => by
            rw [own_map] at hb
            rcases hrow with h9 | ⟨b', h9, h10⟩
            · exact .inl (.inr (h9 ▸ hb))
            · rw [h9] at hb
              injection hb with hb
              subst hb
              exact .inr h10)
          exact (h8.setCell (.inl rfl) _).setCell (.inl rfl) _
      case measure =>
        have hb8 := (hB7.set_ 0 (.slice A7 (n0 + j + 1) c7)).set_ 2 (.int .i64 (k : Int))
        simp only [List.setIfInBounds_toArray, List.set_cons_zero, List.set_cons_succ] at hb8
        rw [many_of hb8, many_of hB]
        have := HK.out
        omega
    · have hjj : j = R.length / 8 := by omega
      have hk : R.length - 8 * j = R.length % 8 := by omega
      rw [hk] at c2 hB
      have hk8 : R.length % 8 < 8 := by omega
      have HAN := hid_ (put_and R hRb)
      generalize hq : R.length % 8 = q at *
      clear hk
      go_wp2_with fail
      refine wp_region_lxt later_eq 11 (by kernel_rfl) (by kernel_rfl) ?_
      simp only [List.take_succ_cons, List.take_zero]
      iterate 11 (refine lx_ex (by rfl) ?_; apply Exists.intro; refine ⟨fun w hw => ?_, ?_⟩; · (subst hw; go_simp; with_reducible rfl)
                  simp only [Act.put, List.setIfInBounds_toArray, List.set_cons_succ, List.set_cons_zero])
      refine lx_nil ?_
      rintro w3 rfl
      rw [HAN.out]
      have f1 := hB.frozen 1
      try simp only [List.drop_succ_cons, List.drop_zero]
      go_wp2_with fail
      go_end0
      have hb8 := hB.drew.set_ 1 (.int .u64 (numB (restB R) : Nat))
      simp only [List.setIfInBounds_toArray, List.set_cons_zero, List.set_cons_succ] at hb8
      refine ⟨rfl, A'.map (·.block), ⟨A', c', rfl, ?_, ?_⟩, hrow, hu.drew.setCell (.inl rfl) _⟩
      · have e1 : (L ++ digs value width).length / 8 = n0 + j := by have := HPL.out; have := Hm.out; have := Hn.out; have := HRL.out; omega
        have e2 : (L ++ digs value width).length % 8 = q := by have := HPL.out; have := Hm.out; have := Hn.out; have := HRL.out; omega
        rw [e1, e2, HRA.out]
        exact hb8
      · have e1 : (L ++ digs value width).length / 8 = n0 + j := by have := HPL.out; have := Hm.out; have := Hn.out; have := HRL.out; omega
        rw [e1, HPA.out]
        have e3 : (packB R).take j = packB R := List.take_of_length_le (by rw [packB_len]; omega)
        rw [e3] at hown
        exact own_set (w := wr.drew) hown 1 _
theorem own_out' {w : World} {base : Nat} {e : TypeId} {size n c : Nat} {A : Option Addr} {xs : List Value} (h : w.ownsRow base e size (.slice A n c) n xs) : SL w size (.slice A n c) n xs ∧ ∀ ad, A = some ad → base ≤ ad.block := by
  obtain ⟨B, d, e1, h1, h2⟩ := own_form h
  injection e1 with e1 e2 e3
  subst e1 e3
  exact ⟨h1, h2⟩
theorem WrS.nil (w : World) (gw : Nat) (h : Blk w gw 94 #[.slice none 0 0, .int .u64 0, .int .i64 0]) : WrS w gw [] none :=
  ⟨none, 0, rfl, h, World.ownsRow_nil _ _ _ _⟩
theorem WrS.ext {w w' : World} {gw : Nat} {L : List Bool} {r : Option Nat} (h : WrS w gw L r) (hx : Ext w w') : WrS w' gw L r := by
  obtain ⟨A, c, h1, h2, h3⟩ := h
  exact ⟨A, c, h1, h2.ext hx, own_ext0' h3 hx⟩
theorem WrS.lt {w : World} {gw : Nat} {L : List Bool} {r : Option Nat} (h : WrS w gw L r) : gw < w.heap.size := by
  obtain ⟨A, c, h1, h2, h3⟩ := h
  exact h2.lt
theorem WrS.row {w : World} {gw : Nat} {L : List Bool} {r : Option Nat} (h : WrS w gw L r) : ∀ b, r = some b → gw < b ∧ b < w.heap.size := by
  obtain ⟨A, c, h1, h2, h3⟩ := h
  intro b hb
  subst h1
  have := h3.lt b (by rw [own_map]; exact hb)
  omega
theorem WrS.drew {w : World} {gw : Nat} {L : List Bool} {r : Option Nat} (h : WrS w gw L r) : WrS w.drew gw L r := h
/-- the writer is untouched where its blocks are -/
theorem WrS.upd {S : Nat → Prop} {w w' : World} {gw : Nat} {L : List Bool} {r : Option Nat} (h : WrS w gw L r) (hu : Upd S w w') (h1 : ¬ S gw) (h2 : ∀ b, r = some b → ¬ S b) : WrS w' gw L r := by
  have hrow := h.row
  obtain ⟨A, c, e1, hB, hown⟩ := h
  refine ⟨A, c, e1, (hu.block gw hB.lt h1).trans hB, hown.1, ?_⟩
  rcases hown.2 with ⟨h0, h0'⟩ | ⟨g, cap, cur, e2, h3, hg, h4⟩
  · exact .inl ⟨h0, h0'⟩
  · have hr : r = some g := by
      rw [e1]
      injection e2 with e2 _ _
      rw [e2]
      rfl
    exact .inr ⟨g, cap, cur, e2, h3, (hu.block g (hrow g hr).2 (h2 g hr)).trans hg, h4⟩
end Go.Proofs.YtgmddhljgfbibaaGreatDoor
