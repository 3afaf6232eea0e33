/- Contracts for the law DeskRunsCard, part 14: what the functions that it reaches answer, for all arguments that the theorems name. -/
import Derived.Test.YtlhggcbpipmjhaaGreatDoorMDeskRunsCard10
import Derived.Deep.Cut
import Derived.Test.YtlhggcbpipmjhaaGreatDoorMDeskRunsCard13
import Derived.Test.YtlhggcbpipmjhaaGreatDoorMDeskRunsCard7
import Derived.Test.YtlhggcbpipmjhaaGreatDoorMDeskRunsCard5
namespace Go.Proofs.YtlhggcbpipmjhaaGreatDoor.SM
set_option linter.unusedVariables false
set_option linter.unusedSimpArgs false
section
variable {α : Type} (d : α) (wt : α → Int)
def at_ (M : List α) (x : Nat) : α := M.getD x d
def wA (M : List α) (x : Nat) : Int := wt (at_ d M x)
def swp (M : List α) (i j : Nat) : List α := (M.set i (at_ d M j)).set j (at_ d M i)
theorem at_get (M : List α) (x : Nat) (h : x < M.length) : at_ d M x = M[x] := by simp [at_, h]
theorem at_swp (M : List α) (i j x : Nat) (hi : i < M.length) (hj : j < M.length) : at_ d (swp d M i j) x = if x = j then at_ d M i else if x = i then at_ d M j else at_ d M x := by
 unfold swp
 simp only [at_, List.getD_eq_getElem?_getD, List.getElem?_set]
 by_cases hxj : x = j
 ·subst hxj
  simp [hj]
 ·have hjx : ¬ j = x := fun h => hxj h.symm
  by_cases hxi : x = i
  ·subst hxi
   simp [hxj, hjx, hi]
  ·have hix : ¬ i = x := fun h => hxi h.symm
   simp [hxj, hxi, hjx, hix]
theorem swp_perm (M : List α) (i j : Nat) (hi : i < M.length) (hj : j < M.length) : (swp d M i j).Perm M := by
 have h := Array.swap_perm (xs := M.toArray) (i := i) (j := j) (by simpa using hi) (by simpa using hj)
 have e : (M.toArray.swap i j (by simpa using hi) (by simpa using hj)).toList = swp d M i j := by
  simp [swp, at_get d M i hi, at_get d M j hj]
 have := Array.perm_iff_toList_perm.1 h
 rwa [e] at this
structure Seg (L M : List α) (a b : Nat) : Prop where
 perm : M.Perm L
 out : ∀ x, x < a ∨ b ≤ x → at_ d M x = at_ d L x
 val : ∀ x, a ≤ x → x < b → ∃ y, a ≤ y ∧ y < b ∧ at_ d M x = at_ d L y
theorem Seg.refl (L : List α) (a b : Nat) : Seg d L L a b := ⟨.refl _, fun _ _ => rfl, fun x h1 h2 => ⟨x, h1, h2, rfl⟩⟩
theorem Seg.trans {L M N : List α} {a b : Nat} (h : Seg d L M a b) (k : Seg d M N a b) : Seg d L N a b := ⟨k.perm.trans h.perm, fun x hx => (k.out x hx).trans (h.out x hx), fun x h1 h2 => by
 obtain ⟨y, p1, p2, e⟩ := k.val x h1 h2
 obtain ⟨z, q1, q2, f⟩ := h.val y p1 p2
 exact ⟨z, q1, q2, e.trans f⟩⟩
theorem Seg.wide {L M : List α} {a b a' b' : Nat} (h : Seg d L M a b) (h1 : a' ≤ a) (h2 : b ≤ b') : Seg d L M a' b' := ⟨h.perm, fun x hx => h.out x (by omega), fun x p q => by
 by_cases hx : a ≤ x ∧ x < b
 ·obtain ⟨y, p1, p2, e⟩ := h.val x hx.1 hx.2
  exact ⟨y, by omega, by omega, e⟩
 ·exact ⟨x, p, q, h.out x (by omega)⟩⟩
theorem Seg.len {L M : List α} {a b : Nat} (h : Seg d L M a b) : M.length = L.length := h.perm.length_eq
theorem Seg.swp {L : List α} {a b i j : Nat} (hi : i < L.length) (hj : j < L.length) (h1 : a ≤ i) (h2 : i < b) (h3 : a ≤ j) (h4 : j < b) : Seg d L (swp d L i j) a b :=
 ⟨swp_perm d L i j hi hj, fun x hx => by rw [at_swp d L i j x hi hj, if_neg (by omega), if_neg (by omega)], fun x p q => by
  rw [at_swp d L i j x hi hj]
  split
  ·exact ⟨i, h1, h2, rfl⟩
  ·split
   ·exact ⟨j, h3, h4, rfl⟩
   ·exact ⟨x, p, q, rfl⟩⟩
def Sorted (M : List α) (a b : Nat) : Prop := ∀ x y, a ≤ x → x < y → y < b → wA d wt M x ≤ wA d wt M y
theorem Sorted.of_out {L M : List α} {a b a' b' : Nat} (h : Sorted d wt L a b) (hs : Seg d L M a' b') (hd : b ≤ a' ∨ b' ≤ a) : Sorted d wt M a b := fun x y h1 h2 h3 => by
 unfold wA
 rw [hs.out x (by omega), hs.out y (by omega)]
 exact h x y h1 h2 h3
theorem Sorted.sub {M : List α} {a b a' b' : Nat} (h : Sorted d wt M a b) (h1 : a ≤ a') (h2 : b' ≤ b) : Sorted d wt M a' b' := fun x y p q r => h x y (by omega) q (by omega)
structure Ins (M : List α) (a j i : Nat) : Prop where
 rest : ∀ x y, a ≤ x → x < y → y ≤ i → x ≠ j → y ≠ j → wA d wt M x ≤ wA d wt M y
 up : ∀ y, j < y → y ≤ i → wA d wt M j ≤ wA d wt M y
theorem Ins.start {M : List α} {a i : Nat} (h : Sorted d wt M a i) : Ins d wt M a i i := ⟨fun x y h1 h2 h3 h4 h5 => h x y h1 h2 (by omega), fun y h1 h2 => by omega⟩
theorem Ins.step {M : List α} {a j i : Nat} (h : Ins d wt M a j i) (hj : a < j) (hji : j ≤ i) (hi : i < M.length) (hl : wA d wt M j < wA d wt M (j - 1)) : Ins d wt (swp d M j (j - 1)) a (j - 1) i := by
 have hw : ∀ x, wA d wt (swp d M j (j - 1)) x = if x = j - 1 then wA d wt M j else if x = j then wA d wt M (j - 1) else wA d wt M x := fun x => by
  unfold wA
  rw [at_swp d M j (j - 1) x (by omega) (by omega)]
  split
  ·rfl
  ·split <;> rfl
 refine ⟨fun x y h1 h2 h3 h4 h5 => ?_, fun y h1 h2 => ?_⟩
 ·rw [hw, hw, if_neg h4, if_neg h5]
  by_cases hxj : x = j
  ·rw [if_pos hxj, if_neg (by omega)]
   exact h.rest (j - 1) y (by omega) (by omega) h3 (by omega) (by omega)
  ·rw [if_neg hxj]
   by_cases hyj : y = j
   ·rw [if_pos hyj]
    exact h.rest x (j - 1) h1 (by omega) (by omega) hxj (by omega)
   ·rw [if_neg hyj]
    exact h.rest x y h1 h2 h3 hxj hyj
 ·rw [hw, hw, if_pos rfl, if_neg (by omega)]
  by_cases hyj : y = j
  ·rw [if_pos hyj]
   omega
  ·rw [if_neg hyj]
   exact h.up y (by omega) h2
theorem Ins.stop {M : List α} {a j i : Nat} (h : Ins d wt M a j i) (hd : j = a ∨ wA d wt M (j - 1) ≤ wA d wt M j) (haj : a ≤ j) : Sorted d wt M a (i + 1) := fun x y h1 h2 h3 => by
 by_cases hxj : x = j
 ·subst hxj
  exact h.up y h2 (by omega)
 ·by_cases hyj : y = j
  ·subst hyj
   rcases hd with hd | hd
   ·omega
   ·by_cases hx : x = y - 1
    ·subst hx; exact hd
    ·exact Int.le_trans (h.rest x (y - 1) h1 (by omega) (by omega) hxj (by omega)) hd
  ·exact h.rest x y h1 h2 (by omega) hxj hyj
theorem Sorted.join {M : List α} {a m b : Nat} (h1 : Sorted d wt M a m) (h2 : Sorted d wt M m b) (h : ∀ x y, a ≤ x → x < m → m ≤ y → y < b → wA d wt M x ≤ wA d wt M y) : Sorted d wt M a b := fun x y p q r => by
 by_cases hx : x < m
 ·by_cases hy : y < m
  ·exact h1 x y p q hy
  ·exact h x y p hx (by omega) r
 ·exact h2 x y (by omega) q r
end
end Go.Proofs.YtlhggcbpipmjhaaGreatDoor.SM
namespace Go.Proofs.YtlhggcbpipmjhaaGreatDoor
set_option linter.unusedVariables false
set_option linter.unusedSimpArgs false
open Go.RowKit
section
variable {P : Program} {ops : Array Oper} {md : Region.Mode} {F : Nat → Bool} {I : World → Prop}
def wpAnyF (P : Program) (md : Region.Mode) (ops : Array Oper) (F : Nat → Bool) (I : World → Prop) (QN : Act → World → Prop) : Nat → Array Bool → Act → World → Prop
 | 0, listed, a, w => Region.ready md ops listed = [] ∧ QN a w
 | f + 1, listed, a, w => (Region.ready md ops listed = [] → QN a w) ∧
   ∀ i ∈ Region.ready md ops listed, wpOp P ops (onlyN QN) i (fun a' w' => (F i = true → I w') ∧ wpAnyF P md ops F I QN f (listed.setIfInBounds i true) a' w') a w
variable {QN : Act → World → Prop}
theorem wpAny_of_F : ∀ (f : Nat) (listed : Array Bool) (a : Act) (w : World), wpAnyF P md ops F I QN f listed a w → wpAny P md ops (onlyN QN) f listed a w
 | 0, _, _, _, h => ⟨h.1, h.2⟩
 | f + 1, _, _, _, h => ⟨fun h0 => h.1 h0, fun i hi => wpOp_mono (fun a' w' h' => wpAny_of_F f _ a' w' h'.2) (h.2 i hi)⟩
theorem of_loud0 {k f : Nat} {o : Oper} {listed : Array Bool} {a : Act} {w : World} (hone : Region.ready md ops listed = [k]) (ho : ops[k]? = some o)
 (h : wpList P ops (onlyN fun a' w' => (F k = true → I w') ∧ wpAnyF P md ops F I QN f (listed.setIfInBounds k true) a' w') [o] a w) : wpAnyF P md ops F I QN (f + 1) listed a w :=
 ⟨fun h0 => (by rw [h0] at hone; cases hone), fun i hi => by
  rw [hone] at hi
  have hik : i = k := by simpa using hi
  subst hik
  exact wpOp_of_list ho h⟩
section
variable {l0 : List Oper}
theorem of_loud {k f : Nat} {o : Oper} {listed : Array Bool} {a : Act} {w : World} (hone : Region.ready md l0.toArray listed = [k]) (ho : l0[k]? = some o)
 (h : wpList P l0.toArray (onlyN fun a' w' => (F k = true → I w') ∧ wpAnyF P md l0.toArray F I QN f (listed.setIfInBounds k true) a' w') [o] a w) : wpAnyF P md l0.toArray F I QN (f + 1) listed a w := of_loud0 hone (by simpa using ho) h
end
theorem wp_region_of (F : Nat → Bool) (I : World → Prop) {id : Nat} {a : Act} {w : World} {l : List Oper} {Q : Exit → Act → World → Prop} (hm : P.follows .mixedOrders = true)
 (h : wpAnyF P .any l.toArray F I (fun a w => Q .normal a w) l.length (Array.replicate l.length false) a w.drew) : (Code.region id l.toArray true).wp P Q a w := by
 refine Code.wp_mono (Q := onlyN (fun a w => Q .normal a w)) (fun e a w h => ?_) (wp_region_any hm (wpAny_of_F _ _ _ _ (by simpa using h)))
 cases e <;> first | exact h | exact (h : False).elim
theorem of_done {listed : Array Bool} {a : Act} {w : World} (hone : Region.ready md ops listed = []) (h : QN a w) : wpAnyF P md ops F I QN 0 listed a w := ⟨hone, h⟩
end
section
variable {P : Program} {ops : Array Oper} {md : Region.Mode} {F : Nat → Bool} {I : World → Prop} {QN : Act → World → Prop}
theorem wpAnyG_first {J : World → Prop} {i : Nat} {oi : Oper} {v : Value} (Wt : Nat → Bool) (hWt : ∀ j oj, ops[j]? = some oj → Wt j = true → ∃ e ∈ oj.after, Region.binds md e = true ∧ (e.on = i ∨ Wt e.on = true)) (hi : ops[i]? = some oi) (hsel : ∀ (j : Nat) (o : Oper) cs b, ops[j]? = some o → o.op ≠ .select cs b) :
 ∀ (fuel : Nat) (listed : Array Bool) (a : Act) (w : World),
  (∀ j, Wt j = true → listed.getD j true = false) →
  (∀ w, J w → F i = true → I w) → (∀ w, (∀ j oj, ops[j]? = some oj → listed.getD j true = false → j ≠ i → Wt j = true ∨ ∀ w', (F j = true → I w') → J w → J w')) →
  (∀ j oj, ops[j]? = some oj → j ≠ i → listed.getD j true = false → (∀ e ∈ oj.after, Region.binds md e = true → e.on ≠ i) → oi.apart ops oj = true) →
  i ∈ Region.ready md ops listed → Fixed P ops J oi v a → J w →
  wpAnyF P md ops F I QN fuel (listed.setIfInBounds i true) (a.put oi.dst v) w → wpAnyF P md ops F I QN (fuel + 1) listed a w := by
 intro fuel
 induction fuel with
 | zero =>
   intro listed a w hL hJI _ _ hr hy hI H
   refine ⟨fun h => (by rw [h] at hr; cases hr), fun j hj => ?_⟩
   by_cases hji : j = i
   ·subst hji; exact hy.wpOp hi hI ⟨hJI w hI, H⟩
   ·have := ready_mono hj hji
    rw [H.1] at this
    cases this
 | succ fuel ih =>
   intro listed a w hL hJI hK hfree hr hy hI H
   refine ⟨fun h => (by rw [h] at hr; cases hr), fun j hj => ?_⟩
   by_cases hji : j = i
   ·subst hji; exact hy.wpOp hi hI ⟨hJI w hI, H⟩
   ·have h1 := H.2 j (ready_mono hj hji)
    obtain ⟨hjun, oj, hoj, hall⟩ := mem_ready.1 hj
    have hnot : ∀ e ∈ oj.after, Region.binds md e = true → e.on ≠ i := fun e he hb heq => by
     have h1 := hall e he hb
     have h0 := (mem_ready.1 hr).1
     rw [heq] at h1
     rcases Nat.lt_or_ge i listed.size with h' | h'
     ·simp [h'] at h0 h1; rw [h0] at h1; cases h1
     ·simp [Array.getElem?_eq_none h'] at h1
    have hjW : Wt j ≠ true := fun hW => by
     obtain ⟨e, he, hb, h⟩ := hWt j oj hoj hW
     rcases h with heq | h
     ·exact hnot e he hb heq
     ·have h1 := hall e he hb
      have h2 := hL e.on h
      rcases Nat.lt_or_ge e.on listed.size with h' | h'
      ·simp [h'] at h1 h2; rw [h2] at h1; cases h1
      ·simp [Array.getElem?_eq_none h'] at h2
    have hstep : ∀ w', (F j = true → I w') → J w → J w' := by
     rcases hK w j oj hoj hjun hji with h | h
     ·exact absurd h hjW
     ·exact h
    have h2 := wpOp_putI hoj (hfree j oj hoj hji hjun hnot) (fun cs b => hsel i oi cs b hi) (fun cs b => hsel j oj cs b hoj) (fun _ _ _ h => h) hy h1
    have hun' : ∀ k, (listed.setIfInBounds j true).getD k true = false → listed.getD k true = false := fun k hun => by
     by_cases hjk : j = k
     ·subst hjk; exact hjun
     ·rwa [getD_set_ne true hjk] at hun
    have hfree' : ∀ k ok, ops[k]? = some ok → k ≠ i → (listed.setIfInBounds j true).getD k true = false →
     (∀ e ∈ ok.after, Region.binds md e = true → e.on ≠ i) → oi.apart ops ok = true := fun k ok hk hki hun hno => hfree k ok hk hki (hun' k hun) hno
    refine wpOp_mono (fun a' w' h3 => ⟨h3.2.1, ih (listed.setIfInBounds j true) a' w' (fun k hk => by
     have hkj : j ≠ k := fun h => hjW (h ▸ hk)
     rw [getD_set_ne true hkj]; exact hL k hk) hJI (fun w2 k ok hk hun hki => hK w2 k ok hk (hun' k hun) hki) hfree' (ready_mono hr (Ne.symm hji)) h3.1 (hstep w' h3.2.1 hI) ?_⟩) h2
    rw [Array.setIfInBounds_comm _ _ hji]
    exact h3.2.2
def roads (md : Region.Mode) (ops : Array Oper) (k : Nat) : List Nat :=
 (List.range ops.size).foldl (fun L j => match ops[j]? with | some oj => if oj.after.any (fun e => Region.binds md e && (e.on == k || L.contains e.on)) then j :: L else L | none => L) []
def roadsOK (md : Region.Mode) (ops : Array Oper) (listed : Array Bool) (k : Nat) (L : List Nat) : Bool :=
 L.all fun j => !(listed.getD j true) && match ops[j]? with | some oj => oj.after.any (fun e => Region.binds md e && (e.on == k || L.contains e.on)) | none => false
def keepsL (md : Region.Mode) (ops : Array Oper) (F : Nat → Bool) (listed : Array Bool) (k : Nat) : Bool :=
 roadsOK md ops listed k (roads md ops k) && (List.range ops.size).all fun j => F j || listed.getD j true || j == k || (roads md ops k).contains j
theorem roadsOK_spec {listed : Array Bool} {k : Nat} {L : List Nat} (h : roadsOK md ops listed k L = true) : (∀ j oj, ops[j]? = some oj → L.contains j = true → ∃ e ∈ oj.after, Region.binds md e = true ∧ (e.on = k ∨ L.contains e.on = true)) ∧ ∀ j, L.contains j = true → listed.getD j true = false := by
 unfold roadsOK at h
 rw [List.all_eq_true] at h
 refine ⟨fun j oj hj hc => ?_, fun j hc => ?_⟩
 ·have := h j (by simpa using hc)
  rw [hj] at this
  simp only [Bool.and_eq_true, Array.any_eq_true] at this
  obtain ⟨-, x, hx, h2⟩ := this
  simp only [Bool.or_eq_true, beq_iff_eq] at h2
  exact ⟨oj.after[x], Array.getElem_mem hx, h2.1, h2.2⟩
 ·have := h j (by simpa using hc)
  rw [Bool.and_eq_true] at this
  simpa using this.1
theorem keepsL_spec {listed : Array Bool} {k : Nat} (h : keepsL md ops F listed k = true) : ∀ j oj, ops[j]? = some oj → listed.getD j true = false → j ≠ k → F j = false → (roads md ops k).contains j = true := by
 intro j oj hj hl hjk hF
 unfold keepsL at h
 rw [Bool.and_eq_true, List.all_eq_true] at h
 have hjs : j < ops.size := (Array.getElem?_eq_some_iff.1 hj).1
 have := h.2 j (List.mem_range.2 hjs)
 rw [hF, hl, Bool.false_or, Bool.false_or, show (j == k) = false by simpa using hjk, Bool.false_or] at this
 exact this
section
variable {l0 : List Oper}
theorem og_fix {k f : Nat} {o : Oper} {listed : Array Bool} {a : Act} {w : World} (hB : ((Region.ready md l0.toArray listed).contains k && Region.free md l0.toArray listed k && Region.noSelect l0.toArray && keepsL md l0.toArray F listed k) = true) (ho : l0[k]? = some o)
 (hw : Region.wanted o (yielded l0.toArray a.tmps) = true) (v : Value) (h1 : ∀ w, I w → (execOp a.eval o).run P w = .ok (.value v) w) (hI : I w)
 (h : wpAnyF P md l0.toArray F I QN f (listed.setIfInBounds k true) (a.put o.dst v) w) : wpAnyF P md l0.toArray F I QN (f + 1) listed a w := by
 simp only [Bool.and_eq_true] at hB
 have hR : roadsOK md l0.toArray listed k (roads md l0.toArray k) = true := by
  have := hB.2
  unfold keepsL at this
  rw [Bool.and_eq_true] at this
  exact this.1
 have hK : ∀ w j oj, l0.toArray[j]? = some oj → listed.getD j true = false → j ≠ k → (roads md l0.toArray k).contains j = true ∨ ∀ w', (F j = true → I w') → I w → I w' := fun w j oj hj hl hjk => by
  cases hF : F j with
  | true => exact .inr fun w' h _ => h rfl
  | false => exact .inl (keepsL_spec hB.2 j oj hj hl hjk hF)
 have ho' : l0.toArray[k]? = some o := by simpa using ho
 exact wpAnyG_first (J := I) (fun j => (roads md l0.toArray k).contains j) (roadsOK_spec hR).1 ho' (Region.noSelect_spec hB.1.2) f listed a w (roadsOK_spec hR).2 (fun _ h _ => h) hK (Region.free_spec ho' hB.1.1.2) (by simpa using hB.1.1.1) (.inl ⟨hw, h1⟩) hI h
theorem og_pure {k f : Nat} {o : Oper} {listed : Array Bool} {a : Act} {w : World} (hB : ((Region.ready md l0.toArray listed).contains k && Region.free md l0.toArray listed k && Region.noSelect l0.toArray && !F k) = true) (ho : l0[k]? = some o)
 (hw : Region.wanted o (yielded l0.toArray a.tmps) = true) (v : Value) (h1 : ∀ w, (execOp a.eval o).run P w = .ok (.value v) w)
 (h : wpAnyF P md l0.toArray F I QN f (listed.setIfInBounds k true) (a.put o.dst v) w) : wpAnyF P md l0.toArray F I QN (f + 1) listed a w := by
 simp only [Bool.and_eq_true] at hB
 have hF : F k = false := by simpa using hB.2
 have ho' : l0.toArray[k]? = some o := by simpa using ho
 exact wpAnyG_first (J := fun _ => True) (fun _ => false) (fun _ _ _ h => by cases h) ho' (Region.noSelect_spec hB.1.2) f listed a w (fun _ h => by cases h) (fun _ _ h => by rw [hF] at h; cases h) (fun _ _ _ _ _ _ => .inr fun _ _ _ => trivial) (Region.free_spec ho' hB.1.1.2) (by simpa using hB.1.1.1) (.inl ⟨hw, fun w _ => h1 w⟩) trivial h
end
end
section
open SM
def pk0 : Pk := (0, .slice none 0 0)
abbrev pw : Pk → Int := Prod.fst
def OnesP (L : List Pk) : Prop := ∀ p ∈ L, p.2.oneCell' = true
theorem OnesP.perm {L M : List Pk} (h : OnesP L) (hp : M.Perm L) : OnesP M := fun p hq => h p (hp.subset hq)
theorem DS.ext {w w' : World} {gd : Nat} {L : List Pk} {tl : List Value} (h : DS w gd L tl) (hx : Ext w w') : DS w' gd L tl := Blk.ext h hx
theorem ex_ixPk {o : Oper} {a : Act} {x ix : Operand} (ho : o.op = .indexAddr 131 x ix) {g n c i : Nat} (hx : a.eval x = .slice (some ⟨g, 0, none⟩) n c) (hi : a.eval ix = .int .i64 (i : Int)) (h : i < n) (w : World) :
 (execOp a.eval o).run Tryz.prog w = .ok (.value (.pointer (some ⟨g, i * 2, none⟩))) w := by
 have := ex_ixSlG Tryz.underlying131 sizePk ho hx hi h w
 rwa [Nat.zero_add] at this
theorem lx_callV {P : Program} {md : Region.Mode} {ops : Array Oper} {R : World → World → Prop} {Q : Exit → Act → World → Prop} {rest : List Oper} {o : Oper} {k : Nat} {listed : Array Bool} {a : Act} {wc : World} (hw : Region.wanted o (yielded ops a.tmps) = true) (x : Operand) (xs : Array Operand) (ts : Array TypeId)
 (ho : o.op = .call { callee := .value x, args := xs, argTypes := ts }) {f : FuncId} {cap : Array Value} (hr : a.eval x = .func (.func f) #[] cap) (hm : Goes P f) (args : Array Value) (hx : xs.map a.eval ++ cap = args) (v : Value)
 (hc : ∀ w, R wc w → Calls P f args w fun e w' => e = .returned v ∧ R w w') (h : wpLx P md ops R Q rest (k + 1) (listed.setIfInBounds k true) (a.put o.dst v) wc) : wpLx P md ops R Q (o :: rest) k listed a wc := by
 refine lx_at hw v (fun w hR => ?_) h
 unfold Oper.quietAt
 rw [run_callv x xs ts ho hr hm args hx w]
 exact ⟨rfl, hc w hR⟩
theorem swp_eq (M : List Pk) (i j : Nat) (hi : i < M.length) (hj : j < M.length) : (M.set i M[j]).set j M[i] = swp pk0 M i j := by
 unfold swp
 rw [at_get pk0 M i hi, at_get pk0 M j hj]
theorem wA_get (M : List Pk) (i : Nat) (h : i < M.length) : wA pk0 pw M i = M[i].1 := by unfold wA; rw [at_get pk0 M i h]
theorem less_cmp (a b : Int) : decide (cmpZ a b < 0) = decide (a < b) := by
 rw [Bool.eq_iff_iff, decide_eq_true_eq, decide_eq_true_eq]
 unfold cmpZ
 split
 ·omega
 ·split <;> omega
def SortIs (gd : Nat) (L : List Pk) (tl : List Value) (a b : Nat) (w : World) (e : Ending) (w' : World) : Prop := e = .returned (.tuple #[]) ∧ ∃ M, DS w' gd M tl ∧ Seg pk0 L M a b ∧ Sorted pk0 pw M a b ∧ Upd (fun x => x = gd) w w'
set_option maxRecDepth 20000 in
set_option maxHeartbeats 16000000 in
theorem insSort_any (gd : Nat) (L : List Pk) (tl : List Value) (n c a b : Nat) (w : World) (hn : L.length = n) (hn2 : n ≤ 1000000) (hab : a ≤ b) (hbn : b ≤ n) (hone : OnesP L) (hD : DS w gd L tl) :
 Calls Tryz.prog 149 #[.slice (some ⟨gd, 0, none⟩) n c, .int .i64 (a : Int), .int .i64 (b : Int), .func (.func 105) #[] #[]] w (SortIs gd L tl a b w) := by
 have HN := hid_ hn
 have HONE := hid_ hone
 clear hn hone
 have hs0 : Sorted pk0 pw L a (a + 1) := fun x y h1 h2 h3 => by omega
 go_enter Tryz.func149, Tryz.ntmps149
 go_upto_region 1 with ((with_reducible apply gS 11); refine wl_run rfl (.int .i64 ((a + 1 : Nat) : Int)) (ex_addN (i := a) (d := 1) rfl rfl rfl (by omega)) ?_)
 go_loopw [8] (fun iv wr => ∃ (i : Nat) (M : List Pk), a + 1 ≤ i ∧ (i ≤ b ∨ i = a + 1) ∧ iv = .int .i64 (i : Int) ∧ DS wr gd M tl ∧ Seg pk0 L M a b ∧ Sorted pk0 pw M a i ∧ Upd (fun x => x = gd) w wr) (fun i _ => b + 1 - (intOf i).toNat)
 case atStart => exact ⟨a + 1, L, by omega, .inr rfl, rfl, hD, Seg.refl pk0 L a b, hs0, Upd.refl _ w⟩
 case round =>
  clear hD hs0
  obtain ⟨i, M, hai, hib, rfl, hD, hseg, hsor, hu⟩ := hrel
  by_cases hlt : i < b
  ·have hins := Ins.start pk0 pw hsor
   go_upto_region 4 with ((with_reducible apply gS 14); refine wl_run rfl (.bool true) (ex_lss rfl rfl rfl (by simpa using hlt)) ?_)
   go_loopw [9] (fun jv wr => ∃ (j : Nat) (M : List Pk), a ≤ j ∧ j ≤ i ∧ jv = .int .i64 (j : Int) ∧ DS wr gd M tl ∧ Seg pk0 L M a b ∧ Ins pk0 pw M a j i ∧ Upd (fun x => x = gd) w wr) (fun j _ => (intOf j).toNat)
   case atStart => exact ⟨i, M, by omega, by omega, rfl, hD, hseg, hins, hu⟩
   case round =>
    clear hD hseg hsor hins hu
    obtain ⟨j, M, haj, hji, rfl, hD, hseg, hins, hu⟩ := hrel
    have hml : M.length = n := hseg.len.trans HN.out
    have hone := HONE.out.perm hseg.perm
    have hDd : DS wr.drew gd M tl := Blk.drew hD
    by_cases hja : a < j
    ·by_cases hls : wA pk0 pw M j < wA pk0 pw M (j - 1)
     ·have hB : decide (cmpZ (M[j]'(by omega)).1 (M[j - 1]'(by omega)).1 < 0) = true := by
       rw [less_cmp, ← wA_get M j (by omega), ← wA_get M (j - 1) (by omega)]
       simpa using hls
      go_wp2_with fail
      refine wp_region_lx later_ext (by kernel_rfl) (by kernel_rfl) ?_
      refine lx_run (by rfl) (.int .i64 (j : Int)) (ex_move rfl rfl) ?_
      simp only [Act.put, sA, sB, sC]
      refine lx_run (by rfl) (.int .i64 (a : Int)) (ex_move rfl rfl) ?_
      simp only [Act.put, sA, sB, sC]
      refine lx_run (by rfl) (.bool true) (ex_gtr rfl rfl rfl (by simp; omega)) ?_
      simp only [Act.put, sA, sB, sC]
      refine lx_run (by rfl) (.bool true) (ex_move rfl rfl) ?_
      simp only [Act.put, sA, sB, sC]
      refine lx_run (by rfl) (.func (.func 105) #[] #[]) (ex_move rfl rfl) ?_
      simp only [Act.put, sA, sB, sC]
      refine lx_run (by rfl) (.slice (some ⟨gd, 0, none⟩) n c) (ex_move rfl rfl) ?_
      simp only [Act.put, sA, sB, sC]
      refine lx_run (by rfl) (.int .i64 (j : Int)) (ex_move rfl rfl) ?_
      simp only [Act.put, sA, sB, sC]
      refine lx_run (by rfl) (.pointer (some ⟨gd, j * 2, none⟩)) (ex_ixPk rfl rfl rfl (by omega)) ?_
      simp only [Act.put, sA, sB, sC]
      refine lx_read (by rfl) (.agg (pkV M[j])) (fun W hW => ex_loadPk rfl (hDd.ext hW) (by omega) rfl) ?_
      simp only [Act.put, sA, sB, sC]
      refine lx_run (by rfl) (.slice (some ⟨gd, 0, none⟩) n c) (ex_move rfl rfl) ?_
      simp only [Act.put, sA, sB, sC]
      refine lx_run (by rfl) (.int .i64 (j : Int)) (ex_move rfl rfl) ?_
      simp only [Act.put, sA, sB, sC]
      refine lx_run (by rfl) (.int .i64 ((j - 1 : Nat) : Int)) (ex_subN (i := j) (d := 1) rfl rfl rfl (by omega) (by omega)) ?_
      simp only [Act.put, sA, sB, sC]
      refine lx_run (by rfl) (.pointer (some ⟨gd, (j - 1) * 2, none⟩)) (ex_ixPk rfl rfl rfl (by omega)) ?_
      simp only [Act.put, sA, sB, sC]
      refine lx_read (by rfl) (.agg (pkV M[j - 1])) (fun W hW => ex_loadPk rfl (hDd.ext hW) (by omega) rfl) ?_
      simp only [Act.put, sA, sB, sC]
      refine lx_callV (by rfl) _ _ _ rfl rfl goesBy #[.agg (pkV M[j]), .agg (pkV M[j - 1])] (by simp [Act.eval]) (.int .i64 (cmpZ M[j].1 M[j - 1].1)) (fun W h => byWeight_any _ _ W) ?_
      simp only [Act.put, sA, sB, sC]
      refine lx_run (by rfl) (.bool true) (ex_lss rfl rfl rfl hB) ?_
      simp only [Act.put, sA, sB, sC]
      refine lx_run (by rfl) (.bool true) (ex_pick rfl rfl rfl) ?_
      simp only [Act.put, sA, sB, sC]
      refine lx_nil ?_
      intro w4 hx4
      have hDD : DS w4.drew gd M tl := Blk.drew (hDd.ext hx4)
      have hu4 : Upd (fun x => x = gd) w w4.drew := (hu.drew.trans (Upd.of_ext (S := fun _ => False) hx4) (fun _ h => h.elim)).drew
      go_wp2_with fail
      refine wp_region_of (fun k => k == 9 || k == 13) (fun W => DS W gd M tl) (by kernel_rfl) ?_
      refine og_pure (k := 0) (by kernel_rfl) rfl (by rfl) (.slice (some ⟨gd, 0, none⟩) n c) (ex_move rfl rfl) ?_
      simp only [Act.put, sA, sB, sC]
      refine og_pure (k := 1) (by kernel_rfl) rfl (by rfl) (.int .i64 (j : Int)) (ex_move rfl rfl) ?_
      simp only [Act.put, sA, sB, sC]
      refine og_pure (k := 2) (by kernel_rfl) rfl (by rfl) (.slice (some ⟨gd, 0, none⟩) n c) (ex_move rfl rfl) ?_
      simp only [Act.put, sA, sB, sC]
      refine og_pure (k := 3) (by kernel_rfl) rfl (by rfl) (.int .i64 (j : Int)) (ex_move rfl rfl) ?_
      simp only [Act.put, sA, sB, sC]
      refine og_pure (k := 4) (by kernel_rfl) rfl (by rfl) (.int .i64 ((j - 1 : Nat) : Int)) (ex_subN (i := j) (d := 1) rfl rfl rfl (by omega) (by omega)) ?_
      simp only [Act.put, sA, sB, sC]
      refine og_pure (k := 5) (by kernel_rfl) rfl (by rfl) (.slice (some ⟨gd, 0, none⟩) n c) (ex_move rfl rfl) ?_
      simp only [Act.put, sA, sB, sC]
      refine og_pure (k := 6) (by kernel_rfl) rfl (by rfl) (.int .i64 (j : Int)) (ex_move rfl rfl) ?_
      simp only [Act.put, sA, sB, sC]
      refine og_pure (k := 7) (by kernel_rfl) rfl (by rfl) (.int .i64 ((j - 1 : Nat) : Int)) (ex_subN (i := j) (d := 1) rfl rfl rfl (by omega) (by omega)) ?_
      simp only [Act.put, sA, sB, sC]
      refine og_pure (k := 8) (by kernel_rfl) rfl (by rfl) (.pointer (some ⟨gd, (j - 1) * 2, none⟩)) (ex_ixPk rfl rfl rfl (by omega)) ?_
      simp only [Act.put, sA, sB, sC]
      refine og_pure (k := 10) (by kernel_rfl) rfl (by rfl) (.slice (some ⟨gd, 0, none⟩) n c) (ex_move rfl rfl) ?_
      simp only [Act.put, sA, sB, sC]
      refine og_pure (k := 11) (by kernel_rfl) rfl (by rfl) (.int .i64 (j : Int)) (ex_move rfl rfl) ?_
      simp only [Act.put, sA, sB, sC]
      refine og_pure (k := 12) (by kernel_rfl) rfl (by rfl) (.pointer (some ⟨gd, j * 2, none⟩)) (ex_ixPk rfl rfl rfl (by omega)) ?_
      simp only [Act.put, sA, sB, sC]
      refine og_fix (k := 9) (by kernel_rfl) rfl (by rfl) (.agg (pkV M[j - 1])) (fun W hW => ex_loadPk rfl hW (by omega) rfl) hDD ?_
      simp only [Act.put, sA, sB, sC]
      refine og_fix (k := 13) (by kernel_rfl) rfl (by rfl) (.agg (pkV M[j])) (fun W hW => ex_loadPk rfl hW (by omega) rfl) hDD ?_
      simp only [Act.put, sA, sB, sC]
      refine og_pure (k := 14) (by kernel_rfl) rfl (by rfl) (.pointer (some ⟨gd, j * 2, none⟩)) (ex_ixPk rfl rfl rfl (by omega)) ?_
      simp only [Act.put, sA, sB, sC]
      refine of_loud (k := 15) (by kernel_rfl) rfl ?_
      refine wl_storePk rfl _ _ rfl gd M tl hDD j (by omega) M[j - 1] (hone _ (List.getElem_mem _)) rfl rfl ?_
      intro w5 hD5 hu5
      refine oi_end ⟨fun h => (by cases h), ?_⟩
      simp only [Act.put, sA, sB, sC]
      refine og_pure (k := 16) (by kernel_rfl) rfl (by rfl) (.pointer (some ⟨gd, (j - 1) * 2, none⟩)) (ex_ixPk rfl rfl rfl (by omega)) ?_
      simp only [Act.put, sA, sB, sC]
      refine of_loud (k := 17) (by kernel_rfl) rfl ?_
      refine wl_storePk rfl _ _ rfl gd (M.set j M[j - 1]) tl hD5 (j - 1) (by rw [List.length_set]; omega) M[j] (hone _ (List.getElem_mem _)) rfl rfl ?_
      intro w6 hD6 hu6
      refine oi_end ⟨fun h => (by cases h), ?_⟩
      simp only [Act.put, sA, sB, sC]
      refine of_done (by kernel_rfl) ?_
      have hD7 : DS w6 gd (swp pk0 M j (j - 1)) tl := by rw [← swp_eq M j (j - 1) (by omega) (by omega)]; exact hD6
      have hu7 := (hu4.trans hu5 (fun x h => .inl h)).trans hu6 (fun x h => .inl h)
      go_wp2_with ((with_reducible apply gS 36); refine wl_run rfl (.int .i64 ((j - 1 : Nat) : Int)) (ex_subN (i := j) (d := 1) rfl rfl rfl (by omega) (by omega)) ?_)
      go_roundw
      case rel => exact ⟨j - 1, swp pk0 M j (j - 1), by omega, by omega, by go_num, hD7, hseg.trans pk0 (Seg.swp pk0 (by omega) (by omega) (by omega) (by omega) (by omega) (by omega)), hins.step pk0 pw hja hji (by omega) hls, hu7⟩
      case measure => simp [intOf]; omega
     ·have hB : decide (cmpZ (M[j]'(by omega)).1 (M[j - 1]'(by omega)).1 < 0) = false := by
       rw [less_cmp, ← wA_get M j (by omega), ← wA_get M (j - 1) (by omega)]
       simpa using hls
      have hfin := hins.stop pk0 pw (.inr (by omega)) haj
      go_wp2_with fail
      refine wp_region_lx later_ext (by kernel_rfl) (by kernel_rfl) ?_
      refine lx_run (by rfl) (.int .i64 (j : Int)) (ex_move rfl rfl) ?_
      simp only [Act.put, sA, sB, sC]
      refine lx_run (by rfl) (.int .i64 (a : Int)) (ex_move rfl rfl) ?_
      simp only [Act.put, sA, sB, sC]
      refine lx_run (by rfl) (.bool true) (ex_gtr rfl rfl rfl (by simp; omega)) ?_
      simp only [Act.put, sA, sB, sC]
      refine lx_run (by rfl) (.bool true) (ex_move rfl rfl) ?_
      simp only [Act.put, sA, sB, sC]
      refine lx_run (by rfl) (.func (.func 105) #[] #[]) (ex_move rfl rfl) ?_
      simp only [Act.put, sA, sB, sC]
      refine lx_run (by rfl) (.slice (some ⟨gd, 0, none⟩) n c) (ex_move rfl rfl) ?_
      simp only [Act.put, sA, sB, sC]
      refine lx_run (by rfl) (.int .i64 (j : Int)) (ex_move rfl rfl) ?_
      simp only [Act.put, sA, sB, sC]
      refine lx_run (by rfl) (.pointer (some ⟨gd, j * 2, none⟩)) (ex_ixPk rfl rfl rfl (by omega)) ?_
      simp only [Act.put, sA, sB, sC]
      refine lx_read (by rfl) (.agg (pkV M[j])) (fun W hW => ex_loadPk rfl (hDd.ext hW) (by omega) rfl) ?_
      simp only [Act.put, sA, sB, sC]
      refine lx_run (by rfl) (.slice (some ⟨gd, 0, none⟩) n c) (ex_move rfl rfl) ?_
      simp only [Act.put, sA, sB, sC]
      refine lx_run (by rfl) (.int .i64 (j : Int)) (ex_move rfl rfl) ?_
      simp only [Act.put, sA, sB, sC]
      refine lx_run (by rfl) (.int .i64 ((j - 1 : Nat) : Int)) (ex_subN (i := j) (d := 1) rfl rfl rfl (by omega) (by omega)) ?_
      simp only [Act.put, sA, sB, sC]
      refine lx_run (by rfl) (.pointer (some ⟨gd, (j - 1) * 2, none⟩)) (ex_ixPk rfl rfl rfl (by omega)) ?_
      simp only [Act.put, sA, sB, sC]
      refine lx_read (by rfl) (.agg (pkV M[j - 1])) (fun W hW => ex_loadPk rfl (hDd.ext hW) (by omega) rfl) ?_
      simp only [Act.put, sA, sB, sC]
      refine lx_callV (by rfl) _ _ _ rfl rfl goesBy #[.agg (pkV M[j]), .agg (pkV M[j - 1])] (by simp [Act.eval]) (.int .i64 (cmpZ M[j].1 M[j - 1].1)) (fun W h => byWeight_any _ _ W) ?_
      simp only [Act.put, sA, sB, sC]
      refine lx_run (by rfl) (.bool false) (ex_lss rfl rfl rfl hB) ?_
      simp only [Act.put, sA, sB, sC]
      refine lx_run (by rfl) (.bool false) (ex_pick rfl rfl rfl) ?_
      simp only [Act.put, sA, sB, sC]
      refine lx_nil ?_
      intro w4 hx4
      have hD4 := hDd.ext hx4
      have hu4 : Upd (fun x => x = gd) w w4 := hu.drew.trans (Upd.of_ext (S := fun _ => False) hx4) (fun _ h => h.elim)
      go_wp2_with ((with_reducible apply gS 16); refine wl_run rfl (.int .i64 ((i + 1 : Nat) : Int)) (ex_addN (i := i) (d := 1) rfl rfl rfl (by omega)) ?_)
      go_roundw
      case rel => exact ⟨i + 1, M, by omega, .inl (by omega), by go_num, hD4, hseg, hfin, hu4⟩
      case measure => simp [intOf]; omega
    ·obtain rfl : a = j := by omega
     have hfin := hins.stop pk0 pw (.inl rfl) haj
     go_wp2_with fail
     refine wp_region_lx later_ext (by kernel_rfl) (by kernel_rfl) ?_
     refine lx_run (by rfl) (.int .i64 (a : Int)) (ex_move rfl rfl) ?_
     simp only [Act.put, sA, sB, sC]
     refine lx_run (by rfl) (.int .i64 (a : Int)) (ex_move rfl rfl) ?_
     simp only [Act.put, sA, sB, sC]
     refine lx_run (by rfl) (.bool false) (ex_gtr rfl rfl rfl (by simp)) ?_
     simp only [Act.put, sA, sB, sC]
     refine lx_run (by rfl) (.bool false) (ex_move rfl rfl) ?_
     simp only [Act.put, sA, sB, sC]
     refine lx_skip (by rfl) ?_
     simp only [Act.put, sA, sB, sC]
     refine lx_skip (by rfl) ?_
     simp only [Act.put, sA, sB, sC]
     refine lx_skip (by rfl) ?_
     simp only [Act.put, sA, sB, sC]
     refine lx_skip (by rfl) ?_
     simp only [Act.put, sA, sB, sC]
     refine lx_skip (by rfl) ?_
     simp only [Act.put, sA, sB, sC]
     refine lx_skip (by rfl) ?_
     simp only [Act.put, sA, sB, sC]
     refine lx_skip (by rfl) ?_
     simp only [Act.put, sA, sB, sC]
     refine lx_skip (by rfl) ?_
     simp only [Act.put, sA, sB, sC]
     refine lx_skip (by rfl) ?_
     simp only [Act.put, sA, sB, sC]
     refine lx_skip (by rfl) ?_
     simp only [Act.put, sA, sB, sC]
     refine lx_skip (by rfl) ?_
     simp only [Act.put, sA, sB, sC]
     refine lx_skip (by rfl) ?_
     simp only [Act.put, sA, sB, sC]
     refine lx_run (by rfl) (.bool false) (ex_pick rfl rfl rfl) ?_
     simp only [Act.put, sA, sB, sC]
     refine lx_nil ?_
     intro w4 hx4
     have hD4 := hDd.ext hx4
     have hu4 : Upd (fun x => x = gd) w w4 := hu.drew.trans (Upd.of_ext (S := fun _ => False) hx4) (fun _ h => h.elim)
     go_wp2_with ((with_reducible apply gS 16); refine wl_run rfl (.int .i64 ((i + 1 : Nat) : Int)) (ex_addN (i := i) (d := 1) rfl rfl rfl (by omega)) ?_)
     go_roundw
     case rel => exact ⟨i + 1, M, by omega, .inl (by omega), by go_num, hD4, hseg, hfin, hu4⟩
     case measure => simp [intOf]; omega
  ·go_wp2_with ((with_reducible apply gS 14); refine wl_run rfl (.bool false) (ex_lss rfl rfl rfl (by simpa using hlt)) ?_)
   go_end0
   exact ⟨rfl, M, hD, hseg, hsor.sub pk0 pw (Nat.le_refl _) (by omega), hu⟩
end
theorem u64_in (n : Nat) (h : n < 1099511627776) : IntKind.u64.wrap (n : Int) = (n : Int) := by
 simp [IntKind.wrap, IntKind.bits, IntKind.signed]
 omega
theorem run_toU (n : Nat) (h : n < 1099511627776) (W : World) : (convert 3 128 (.int .i64 (n : Int))).run Tryz.prog W = .ok (.int .u64 (n : Int)) W := by
 simp [convert, run_underlying Tryz.underlying3, run_underlying Tryz.underlying128, Conv.intToInt, u64_in n h]
theorem run_ofU (n : Nat) (h : n < 1099511627776) (W : World) : (convert 128 3 (.int .u64 (n : Int))).run Tryz.prog W = .ok (.int .i64 (n : Int)) W := by
 have e : IntKind.i64.wrap (n : Int) = (n : Int) := IntWalk.i64_in _ (by omega)
 simp [convert, run_underlying Tryz.underlying3, run_underlying Tryz.underlying128, Conv.intToInt, e]
section
variable {o : Oper} {a : Act}
theorem ex_toU {x : Operand} (ho : o.op = .convert 3 128 x) {n : Nat} (hx : a.eval x = .int .i64 (n : Int)) (h : n < 1099511627776) (w : World) : (execOp a.eval o).run Tryz.prog w = .ok (.value (.int .u64 (n : Int))) w := by
 simp only [execOp, ho, hx, Sem.run_bind, run_toU n h, Result.andThen_ok, Sem.run_pure]
theorem ex_ofU {x : Operand} (ho : o.op = .convert 128 3 x) {n : Nat} (hx : a.eval x = .int .u64 (n : Int)) (h : n < 1099511627776) (w : World) : (execOp a.eval o).run Tryz.prog w = .ok (.value (.int .i64 (n : Int))) w := by
 simp only [execOp, ho, hx, Sem.run_bind, run_ofU n h, Result.andThen_ok, Sem.run_pure]
theorem ex_halfU {x y : Operand} {t2 : TypeId} (ho : o.op = .binOp .shr 128 x y t2) {n : Nat} (hx : a.eval x = .int .u64 (n : Int)) (hy : a.eval y = .int .u64 1) (w : World) : (execOp a.eval o).run Tryz.prog w = .ok (.value (.int .u64 ((n / 2 : Nat) : Int))) w := by
 have e : (n : Int) >>> (1 : Nat) = ((n / 2 : Nat) : Int) := by rw [Int.shiftRight_eq_div_pow]; rfl
 have h8 : IntKind.u64.bits = 64 := rfl
 simp [execOp, ho, hx, hy, eqGuard, binOp, Op.shift, e, h8]
 exact Int.fdiv_eq_ediv_of_nonneg _ (by decide)
end
end Go.Proofs.YtlhggcbpipmjhaaGreatDoor
namespace Go.Proofs.YtlhggcbpipmjhaaGreatDoor.SM
set_option linter.unusedVariables false
set_option linter.unusedSimpArgs false
section
variable {α : Type} (d : α)
def Swapped (L M : List α) (a b k : Nat) : Prop := M.Perm L ∧ ∀ x, at_ d M x = if a ≤ x ∧ x < a + k then at_ d L (x - a + b) else if b ≤ x ∧ x < b + k then at_ d L (x - b + a) else at_ d L x
theorem Swapped.zero (L : List α) (a b : Nat) : Swapped d L L a b 0 := ⟨.refl _, fun x => by rw [if_neg (by omega), if_neg (by omega)]⟩
theorem Swapped.step {L M : List α} {a b k : Nat} (h : Swapped d L M a b k) (hab : a + k < b) (hb : b + k < L.length) : Swapped d L (swp d M (a + k) (b + k)) a b (k + 1) := by
 have hl := h.1.length_eq
 refine ⟨(swp_perm d M _ _ (by omega) (by omega)).trans h.1, fun x => ?_⟩
 rw [at_swp d M _ _ x (by omega) (by omega)]
 by_cases h1 : x = b + k
 ·rw [if_pos h1, h.2, if_neg (by omega), if_neg (by omega), if_neg (by omega), if_pos (by omega)]
  congr 1
  omega
 ·rw [if_neg h1]
  by_cases h2 : x = a + k
  ·rw [if_pos h2, h.2, if_neg (by omega), if_neg (by omega), if_pos (by omega)]
   congr 1
   omega
  ·rw [if_neg h2, h.2]
   by_cases h3 : a ≤ x ∧ x < a + k
   ·rw [if_pos h3, if_pos (by omega)]
   ·rw [if_neg h3, if_neg (show ¬ (a ≤ x ∧ x < a + (k + 1)) by omega)]
    by_cases h4 : b ≤ x ∧ x < b + k
    ·rw [if_pos h4, if_pos (by omega)]
    ·rw [if_neg h4, if_neg (by omega)]
def rotAt (L : List α) (a m b x : Nat) : α := if a ≤ x ∧ x < b then (if x - a < b - m then at_ d L (m + (x - a)) else at_ d L (a + (x - a - (b - m)))) else at_ d L x
structure Rot (L M : List α) (a m b i j : Nat) : Prop where
 perm : M.Perm L
 out : ∀ x, x < m - i ∨ m + j ≤ x → at_ d M x = rotAt d L a m b x
 win : ∀ k, k < i + j → rotAt d L a m b (m - i + k) = at_ d M (if k < j then m + k else m - i + (k - j))
theorem Rot.start (L : List α) (a m b : Nat) (h1 : a ≤ m) (h2 : m ≤ b) : Rot d L L a m b (m - a) (b - m) := by
 refine ⟨.refl _, fun x hx => ?_, fun k hk => ?_⟩
 ·unfold rotAt
  rw [if_neg (by omega)]
 ·unfold rotAt
  rw [if_pos (by omega)]
  have e : m - (m - a) + k - a = k := by omega
  rw [e]
  by_cases hkj : k < b - m
  ·rw [if_pos hkj, if_pos hkj]
  ·rw [if_neg hkj, if_neg hkj]
   congr 1
   omega
theorem Rot.left {L M N : List α} {a m b i j : Nat} (h : Rot d L M a m b i j) (hij : j < i) (him : i ≤ m) (hs : Swapped d M N (m - i) m j) : Rot d L N a m b (i - j) j := by
 refine ⟨hs.1.trans h.perm, fun x hx => ?_, fun k hk => ?_⟩
 ·rw [hs.2]
  by_cases h1 : m - i ≤ x ∧ x < m - i + j
  ·rw [if_pos h1]
   have := h.win (x - (m - i)) (by omega)
   rw [if_pos (by omega), show m - i + (x - (m - i)) = x by omega] at this
   rw [this]
   congr 1
   omega
  ·rw [if_neg h1, if_neg (by omega)]
   exact h.out x (by omega)
 ·have hw := h.win (j + k) (by omega)
  rw [if_neg (by omega), show m - i + (j + k) = m - (i - j) + k by omega] at hw
  rw [hw, hs.2]
  by_cases hkj : k < j
  ·rw [if_pos hkj, if_neg (by omega), if_pos (by omega)]
   congr 1
   omega
  ·rw [if_neg hkj, if_neg (by omega), if_neg (by omega)]
   congr 1
   omega
theorem Rot.right {L M N : List α} {a m b i j : Nat} (h : Rot d L M a m b i j) (hij : i < j) (him : i ≤ m) (hs : Swapped d M N (m - i) (m + j - i) i) : Rot d L N a m b i (j - i) := by
 refine ⟨hs.1.trans h.perm, fun x hx => ?_, fun k hk => ?_⟩
 ·rw [hs.2]
  by_cases h1 : m + j - i ≤ x ∧ x < m + j - i + i
  ·rw [if_neg (by omega), if_pos h1]
   have := h.win (x - (m - i)) (by omega)
   rw [if_neg (by omega), show m - i + (x - (m - i)) = x by omega] at this
   rw [this]
   congr 1
   omega
  ·rw [if_neg (by omega), if_neg h1]
   exact h.out x (by omega)
 ·have hw := h.win k (by omega)
  rw [hw, hs.2]
  by_cases hkj : k < j - i
  ·rw [if_pos (show k < j by omega), if_pos hkj, if_neg (by omega), if_neg (by omega)]
  ·rw [if_neg hkj, if_pos (show k < j by omega), if_pos (by omega)]
   congr 1
   omega
theorem Rot.last {L M N : List α} {a m b i : Nat} (h : Rot d L M a m b i i) (him : i ≤ m) (hs : Swapped d M N (m - i) m i) : N.Perm L ∧ ∀ x, at_ d N x = rotAt d L a m b x := by
 refine ⟨hs.1.trans h.perm, fun x => ?_⟩
 rw [hs.2]
 by_cases h1 : m - i ≤ x ∧ x < m - i + i
 ·rw [if_pos h1]
  have := h.win (x - (m - i)) (by omega)
  rw [if_pos (by omega), show m - i + (x - (m - i)) = x by omega] at this
  rw [this]
  congr 1
  omega
 ·rw [if_neg h1]
  by_cases h2 : m ≤ x ∧ x < m + i
  ·rw [if_pos h2]
   have := h.win (x - (m - i)) (by omega)
   rw [if_neg (by omega), show m - i + (x - (m - i)) = x by omega] at this
   rw [this]
   congr 1
   omega
  ·rw [if_neg h2]
   exact h.out x (by omega)
end
end Go.Proofs.YtlhggcbpipmjhaaGreatDoor.SM
