/- Contracts for the law RescueHurtsCard, part 3: what the functions that it reaches answer, for all arguments that the theorems name. -/
import Derived.Test.YtkggcjdlpendfaaGreatDoorMRescueHurtsCard1
import Derived.Great.Walk
import Derived.Test.YtkggcjdlpendfaaGreatDoorMRescueHurtsCard2
import Derived.Deep.MidRow
import Derived.Lib.Bytealg
import Derived.Deep.CutRange
import Derived.BigGuardPart
import Derived.Deep.Cut
import Derived.Deep.Slices
import Derived.WideKeyPair
import Derived.Outline
import Derived.IntWalk
import Derived.Lib.CountLaws
import Derived.OwnWalk
namespace Go.Proofs.YtkggcjdlpendfaaGreatDoor
set_option linter.unusedVariables false
set_option linter.unusedSimpArgs false
open Go.RowKit
section
variable {P : Program} {ops : Array Oper} {md : Region.Mode} {I : World → Prop}
def Fixed (P : Program) (ops : Array Oper) (I : World → Prop) (o : Oper) (v : Value) (a : Act) : Prop :=
 (Region.wanted o (yielded ops a.tmps) = true ∧ ∀ w, I w → (execOp a.eval o).run P w = .ok (.value v) w) ∨ (Region.wanted o (yielded ops a.tmps) = false ∧ v = undef)
theorem Fixed.of_same {o : Oper} {v : Value} {a a' : Act} (hy : Fixed P ops I o v a) (he : execOp a'.eval o = execOp a.eval o)
 (hw : Region.wanted o (yielded ops a'.tmps) = Region.wanted o (yielded ops a.tmps)) : Fixed P ops I o v a' := by
 unfold Fixed at *
 rw [he, hw]
 exact hy
theorem Fixed.wpOp {i : Nat} {o : Oper} {v : Value} {a : Act} {w : World} {Q : Exit → Act → World → Prop} (hi : ops[i]? = some o) (hy : Fixed P ops I o v a) (hw : I w)
 {K : Act → World → Prop} (h : K (a.put o.dst v) w) : wpOp P ops Q i K a w := by
 unfold Go.wpOp
 simp only [hi]
 rcases hy with ⟨h1, h2⟩ | ⟨h1, rfl⟩
 ·simp only [h1, if_true]
  refine .inl ?_
  unfold Oper.wp
  rw [h2 w hw]
  exact h
 ·simp only [h1, Bool.false_eq_true, if_false]
  exact h
theorem wpOp_putI {j : Nat} {oi oj : Oper} {v : Value} {Q : Exit → Act → World → Prop} (hj : ops[j]? = some oj) (hap : oi.apart ops oj = true)
 (hsi : ∀ cs b, oi.op ≠ .select cs b) (hsj : ∀ cs b, oj.op ≠ .select cs b)
 (hQ : ∀ c a w, Q (.panic c) (a.put oi.dst v) w → Q (.panic c) a w) {K : Act → World → Prop} {a : Act} {w : World}
 (hy : Fixed P ops I oi v a) (h : wpOp P ops Q j K (a.put oi.dst v) w) :
 wpOp P ops Q j (fun a' w' => Fixed P ops I oi v a' ∧ K (a'.put oi.dst v) w') a w := by
 obtain ⟨h1, h2, h3⟩ := Oper.apart_spec hap
 have keep : ∀ (a : Act), Fixed P ops I oi v a → ∀ u, Fixed P ops I oi v (a.put oj.dst u) := fun a hy u =>
  hy.of_same (execOp_put oi hsi a oj.dst u h3) (wanted_put oi a oj.dst u h3)
 have keepD : ∀ d, Fixed P ops I oi v { a with defers := d :: a.defers } := fun d => hy.of_same rfl rfl
 unfold wpOp at *
 simp only [hj] at *
 rw [wanted_put oj a oi.dst v h1] at h
 split
 ·rename_i hw
  simp only [hw, if_true] at h
  rcases h with h | ⟨hasks, hlets⟩
  case inr => exact .inr ⟨by unfold Oper.asks at *; rw [execOp_put oj hsj a oi.dst v h1] at hasks; exact hasks, hlets⟩
  refine .inl ?_
  unfold Oper.wp at *
  rw [execOp_put oj hsj a oi.dst v h1] at h
  generalize (execOp a.eval oj).run P w = r at *
  cases r with
  | ok n w' =>
    cases n <;> simp only [Oper.upon] at h ⊢
    case value u => exact ⟨keep a hy u, by rw [← Act.put_comm a v u h2]; exact h⟩
    case skip => exact ⟨keep a hy _, by rw [← Act.put_comm a v undef h2]; exact h⟩
    case defer d =>
     refine ⟨keep _ (keepD d) _, ?_⟩
     rw [← Act.put_comm _ v undef h2, ← Act.put_defers]
     exact h
    case enter f args =>
     refine Calls.mono h fun e w'' he => ?_
     cases e with
     | returned u => exact ⟨keep a hy u, by rw [← Act.put_comm a v u h2]; exact he⟩
     | panicked c => exact hQ _ _ _ he
     | outgrown => exact he
    case row row args => exact Rows.mono h fun u w'' he => ⟨keep a hy u, by rw [← Act.put_comm a v u h2]; exact he⟩
  | halt x w' =>
    cases x <;> simp only [Oper.upon] at h ⊢
    case panic u => exact hQ _ _ _ h
 ·rename_i hw
  simp only [hw] at h
  exact ⟨keep a hy _, by rw [← Act.put_comm a v undef h2]; exact h⟩
def wpAnyI (P : Program) (md : Region.Mode) (ops : Array Oper) (I : World → Prop) (QN : Act → World → Prop) : Nat → Array Bool → Act → World → Prop
 | 0, listed, a, w => Region.ready md ops listed = [] ∧ QN a w
 | f + 1, listed, a, w => (Region.ready md ops listed = [] → QN a w) ∧
   ∀ i ∈ Region.ready md ops listed, wpOp P ops (onlyN QN) i (fun a' w' => I w' ∧ wpAnyI P md ops I QN f (listed.setIfInBounds i true) a' w') a w
variable {QN : Act → World → Prop}
theorem wpAny_of_I : ∀ (f : Nat) (listed : Array Bool) (a : Act) (w : World), wpAnyI P md ops I QN f listed a w → wpAny P md ops (onlyN QN) f listed a w
 | 0, _, _, _, h => ⟨h.1, h.2⟩
 | f + 1, _, _, _, h => ⟨fun h0 => h.1 h0, fun i hi => wpOp_mono (fun a' w' h' => wpAny_of_I f _ a' w' h'.2) (h.2 i hi)⟩
theorem wpAnyI_first {i : Nat} {oi : Oper} {v : Value} (hi : ops[i]? = some oi) (hsel : ∀ (j : Nat) (o : Oper) cs b, ops[j]? = some o → o.op ≠ .select cs b) :
 ∀ (fuel : Nat) (listed : Array Bool) (a : Act) (w : World),
  (∀ j oj, ops[j]? = some oj → j ≠ i → listed.getD j true = false → (∀ e ∈ oj.after, Region.binds md e = true → e.on ≠ i) → oi.apart ops oj = true) →
  i ∈ Region.ready md ops listed → Fixed P ops I oi v a → I w →
  wpAnyI P md ops I QN fuel (listed.setIfInBounds i true) (a.put oi.dst v) w → wpAnyI P md ops I QN (fuel + 1) listed a w := by
 intro fuel
 induction fuel with
 | zero =>
   intro listed a w _ hr hy hI H
   refine ⟨fun h => (by rw [h] at hr; cases hr), fun j hj => ?_⟩
   by_cases hji : j = i
   ·subst hji; exact hy.wpOp hi hI ⟨hI, H⟩
   ·have := ready_mono hj hji
    rw [H.1] at this
    cases this
 | succ fuel ih =>
   intro listed a w hfree hr hy hI H
   refine ⟨fun h => (by rw [h] at hr; cases hr), fun j hj => ?_⟩
   by_cases hji : j = i
   ·subst hji; exact hy.wpOp hi hI ⟨hI, H⟩
   ·have h1 := H.2 j (ready_mono hj hji)
    obtain ⟨hjun, oj, hoj, hall⟩ := mem_ready.1 hj
    have hnot : ∀ e ∈ oj.after, Region.binds md e = true → e.on ≠ i := fun e he hb heq => by
     have h1 := hall e he hb
     have h0 := (mem_ready.1 hr).1
     rw [heq] at h1
     rcases Nat.lt_or_ge i listed.size with h' | h'
     ·simp [h'] at h0 h1; rw [h0] at h1; cases h1
     ·simp [Array.getElem?_eq_none h'] at h1
    have h2 := wpOp_putI hoj (hfree j oj hoj hji hjun hnot) (fun cs b => hsel i oi cs b hi) (fun cs b => hsel j oj cs b hoj) (fun _ _ _ h => h) hy h1
    have hfree' : ∀ k ok, ops[k]? = some ok → k ≠ i → (listed.setIfInBounds j true).getD k true = false →
     (∀ e ∈ ok.after, Region.binds md e = true → e.on ≠ i) → oi.apart ops ok = true := fun k ok hk hki hun hno => by
     refine hfree k ok hk hki ?_ hno
     by_cases hjk : j = k
     ·subst hjk; exact hjun
     ·rw [getD_set_ne true hjk] at hun; exact hun
    refine wpOp_mono (fun a' w' h3 => ⟨h3.2.1, ih (listed.setIfInBounds j true) a' w' hfree' (ready_mono hr (Ne.symm hji)) h3.1 h3.2.1 ?_⟩) h2
    rw [Array.setIfInBounds_comm _ _ hji]
    exact h3.2.2
theorem wpOp_of_list {i : Nat} {o : Oper} {K : Act → World → Prop} {Q : Exit → Act → World → Prop} {a : Act} {w : World} (ho : ops[i]? = some o) (h : wpList P ops (onlyN K) [o] a w) : wpOp P ops Q i K a w := by
 refine wpOp_exit (QN := K) ?_
 unfold wpOp
 simp only [ho]
 exact h
theorem oi_loud0 {k f : Nat} {o : Oper} {listed : Array Bool} {a : Act} {w : World} (hone : Region.ready md ops listed = [k]) (ho : ops[k]? = some o)
 (h : wpList P ops (onlyN fun a' w' => I w' ∧ wpAnyI P md ops I QN f (listed.setIfInBounds k true) a' w') [o] a w) : wpAnyI P md ops I QN (f + 1) listed a w :=
 ⟨fun h0 => (by rw [h0] at hone; cases hone), fun i hi => by
  rw [hone] at hi
  have hik : i = k := by simpa using hi
  subst hik
  exact wpOp_of_list ho h⟩
theorem oi_two0 {k l f : Nat} {o o2 : Oper} {listed : Array Bool} {a : Act} {w : World} (hone : Region.ready md ops listed = [k, l]) (ho : ops[k]? = some o) (ho2 : ops[l]? = some o2)
 (h : wpList P ops (onlyN fun a' w' => I w' ∧ wpAnyI P md ops I QN f (listed.setIfInBounds k true) a' w') [o] a w)
 (h2 : wpList P ops (onlyN fun a' w' => I w' ∧ wpAnyI P md ops I QN f (listed.setIfInBounds l true) a' w') [o2] a w) : wpAnyI P md ops I QN (f + 1) listed a w :=
 ⟨fun h0 => (by rw [h0] at hone; cases hone), fun i hi => by
  rw [hone] at hi
  have hik : i = k ∨ i = l := by simpa using hi
  rcases hik with rfl | rfl
  ·exact wpOp_of_list ho h
  ·exact wpOp_of_list ho2 h2⟩
theorem oi_fix0 {k f : Nat} {o : Oper} {listed : Array Bool} {a : Act} {w : World} (hB : ((Region.ready md ops listed).contains k && Region.free md ops listed k && Region.noSelect ops) = true) (ho : ops[k]? = some o)
 (hw : Region.wanted o (yielded ops a.tmps) = true) (v : Value) (h1 : ∀ w, I w → (execOp a.eval o).run P w = .ok (.value v) w) (hI : I w)
 (h : wpAnyI P md ops I QN f (listed.setIfInBounds k true) (a.put o.dst v) w) : wpAnyI P md ops I QN (f + 1) listed a w := by
 simp only [Bool.and_eq_true] at hB
 exact wpAnyI_first ho (Region.noSelect_spec hB.2) f listed a w (Region.free_spec ho hB.1.2) (by simpa using hB.1.1) (.inl ⟨hw, h1⟩) hI h
section
variable {l0 : List Oper}
theorem oi_fix {k f : Nat} {o : Oper} {listed : Array Bool} {a : Act} {w : World} (hB : ((Region.ready md l0.toArray listed).contains k && Region.free md l0.toArray listed k && Region.noSelect l0.toArray) = true) (ho : l0[k]? = some o)
 (hw : Region.wanted o (yielded l0.toArray a.tmps) = true) (v : Value) (h1 : ∀ w, I w → (execOp a.eval o).run P w = .ok (.value v) w) (hI : I w)
 (h : wpAnyI P md l0.toArray I QN f (listed.setIfInBounds k true) (a.put o.dst v) w) : wpAnyI P md l0.toArray I QN (f + 1) listed a w := oi_fix0 hB (by simpa using ho) hw v h1 hI h
theorem oi_run {k f : Nat} {o : Oper} {listed : Array Bool} {a : Act} {w : World} (hB : ((Region.ready md l0.toArray listed).contains k && Region.free md l0.toArray listed k && Region.noSelect l0.toArray) = true) (ho : l0[k]? = some o)
 (hw : Region.wanted o (yielded l0.toArray a.tmps) = true) (v : Value) (h1 : ∀ w, (execOp a.eval o).run P w = .ok (.value v) w) (hI : I w)
 (h : wpAnyI P md l0.toArray I QN f (listed.setIfInBounds k true) (a.put o.dst v) w) : wpAnyI P md l0.toArray I QN (f + 1) listed a w := oi_fix hB ho hw v (fun w _ => h1 w) hI h
theorem oi_loud {k f : Nat} {o : Oper} {listed : Array Bool} {a : Act} {w : World} (hone : Region.ready md l0.toArray listed = [k]) (ho : l0[k]? = some o)
 (h : wpList P l0.toArray (onlyN fun a' w' => I w' ∧ wpAnyI P md l0.toArray I QN f (listed.setIfInBounds k true) a' w') [o] a w) : wpAnyI P md l0.toArray I QN (f + 1) listed a w := oi_loud0 hone (by simpa using ho) h
theorem oi_two {k l f : Nat} {o o2 : Oper} {listed : Array Bool} {a : Act} {w : World} (hone : Region.ready md l0.toArray listed = [k, l]) (ho : l0[k]? = some o) (ho2 : l0[l]? = some o2)
 (h : wpList P l0.toArray (onlyN fun a' w' => I w' ∧ wpAnyI P md l0.toArray I QN f (listed.setIfInBounds k true) a' w') [o] a w)
 (h2 : wpList P l0.toArray (onlyN fun a' w' => I w' ∧ wpAnyI P md l0.toArray I QN f (listed.setIfInBounds l true) a' w') [o2] a w) : wpAnyI P md l0.toArray I QN (f + 1) listed a w := oi_two0 hone (by simpa using ho) (by simpa using ho2) h h2
end
theorem wp_region_oi (I : World → Prop) {id : Nat} {a : Act} {w : World} {l : List Oper} {Q : Exit → Act → World → Prop} (hm : P.follows .mixedOrders = true)
 (h : wpAnyI P .any l.toArray I (fun a w => Q .normal a w) l.length (Array.replicate l.length false) a w.drew) : (Code.region id l.toArray true).wp P Q a w := by
 refine Code.wp_mono (Q := onlyN (fun a w => Q .normal a w)) (fun e a w h => ?_) (wp_region_any hm (wpAny_of_I _ _ _ _ (by simpa using h)))
 cases e <;> first | exact h | exact (h : False).elim
theorem oi_done {listed : Array Bool} {a : Act} {w : World} (hone : Region.ready md ops listed = []) (h : QN a w) : wpAnyI P md ops I QN 0 listed a w := ⟨hone, h⟩
end
theorem fold_set (l : List Value) : ∀ (k : Nat) (a : Array Value), a.size = k + l.length → (l.zipIdx k).foldl (fun cs (p : Value × Nat) => cs.setIfInBounds (0 + p.2) p.1) a = (a.toList.take k ++ l).toArray := by
 induction l with
 | nil =>
   intro k a h
   simp at h
   apply Array.ext'
   simp [List.take_of_length_le, h]
 | cons v l ih =>
   intro k a h
   rw [List.zipIdx_cons, List.foldl_cons, ih (k + 1) _ (by simp at h ⊢; omega)]
   apply Array.ext'
   simp only [Nat.zero_add, Array.toList_setIfInBounds]
   have hk : k < a.toList.length := by simp at h ⊢; omega
   rw [List.take_add_one, List.take_set_of_le (by omega), List.getElem?_set_self hk]
   simp
theorem fill_one (v : Value) (n : Nat) (a : Array Value) (hv : v.cells.size = n) (ha : a.size = n) : Instr.fill (fun i => some (i * n, n)) a [(0, v)] = some v.cells := by
 have e : v.cells.zipIdx.foldl (fun cs (p : Value × Nat) => cs.setIfInBounds (0 + p.2) p.1) a = v.cells := by
  have h := fold_set v.cells.toList 0 a (by simp; omega)
  rw [← Array.foldl_toList]
  simpa using h
 simp only [Nat.zero_add] at e
 have e2 : Array.foldl (fun cs (x : Value × Nat) => cs.setIfInBounds x.2 x.1) a v.cells.zipIdx 0 n = v.cells := by
  have hn : n = v.cells.zipIdx.size := by simp [hv]
  rw [hn]
  exact e
 simp [Instr.fill, hv, ha, e2]
theorem builtSlice_one {P : Program} {e : TypeId} {n : Nat} (v : Value) (hs : (P.info? e).map (·.size) = some n) (hz : ((P.info? e).bind (·.zero)).isSome = true) (hv : v.cells.size = n) (h0 : 0 < n) (h1 : n ≤ 16777216) : P.builtSlice e 1 [(0, v)] = some v.cells := by
 unfold Program.builtSlice
 cases hq : P.info? e with
 | none => simp [hq] at hs
 | some i =>
   have hi : i.size = n := by simpa [hq] using hs
   cases hzz : i.zero with
   | none => simp [hq, hzz] at hz
   | some z =>
     simp only [hi, hzz, Nat.one_mul]
     rw [if_neg (by omega)]
     exact fill_one v n _ hv (by simp)
theorem wLit1 {P : Program} {ops : Array Oper} {rest : List Oper} {o : Oper} {a : Act} {w : World} {Q : Exit → Act → World → Prop} (hg : o.guard = none) (t e : TypeId) (x : Operand) (ho : o.op = .buildSlice t 1 #[(0, x)]) (dst : Option Tmp) (hdst : o.dst = dst)
 (ht : P.underlying t = some (.slice e)) (n : Nat) (hs : (P.info? e).map (·.size) = some n) (hz : ((P.info? e).bind (·.zero)).isSome = true) (v : Value) (hx : a.eval x = v) (hv : v.cells.size = n) (h0 : 0 < n) (h1 : n ≤ 16777216)
 (h : ∀ w1 g, Blk w1 g e v.cells → Ext w w1 → w.heap.size ≤ g → wpList P ops Q rest (a.put dst (.slice (some ⟨g, 0, none⟩) 1 1)) w1) : wpList P ops Q (o :: rest) a w := by
 refine Go.Great.wpList_buildSliceTo hg t e 1 #[(0, x)] ho _ rfl dst hdst ht v.cells ?_ (h _ _ (Blk.new w e _) ((Ext.refl w).alloc _) (Nat.le_refl _))
 simp only [List.map_toArray, List.map_cons, List.map_nil, hx]
 exact builtSlice_one v hs hz hv h0 h1
theorem own_keep {w w' : World} {base : Nat} {e : TypeId} {size n : Nat} {v : Value} {xs : List Value} (h : w.ownsRow base e size v n xs) (hb : Ext w w') : w'.ownsRow base e size v n xs := by
 obtain ⟨hl, hh⟩ := h
 refine ⟨hl, ?_⟩
 rcases hh with ⟨rfl, rfl⟩ | ⟨g, cap, cur, rfl, h1, hg, h2⟩
 ·exact .inl ⟨rfl, rfl⟩
 ·exact .inr ⟨g, cap, cur, rfl, h1, (hb.block g (Blk.lt (w := w) (t := e) (cs := cur) hg)).trans hg, h2⟩
theorem own_nil (w : World) (base : Nat) (e : TypeId) (size : Nat) : w.ownsRow base e size (.slice none 0 0) 0 [] := ⟨by simp, .inl ⟨rfl, rfl⟩⟩
theorem ints_one_mem (zs : List Int) : ∀ u ∈ ints zs, u.oneCell' = true := by
 intro u hu
 obtain ⟨z, -, rfl⟩ := List.mem_map.1 hu
 rfl
theorem ints_app (xs ys : List Int) : ints (xs ++ ys) = ints xs ++ ints ys := by simp [ints]
theorem own_upd2 {S : Nat → Prop} {w w' : World} {base : Nat} {e : TypeId} {size n : Nat} {v : Value} {xs : List Value} (h : w.ownsRow base e size v n xs) (hu : Upd S w w') (hS : ∀ x, v.ownBlock = some x → ¬ S x) : w'.ownsRow base e size v n xs := by
 obtain ⟨hl, hh⟩ := h
 refine ⟨hl, ?_⟩
 rcases hh with ⟨rfl, rfl⟩ | ⟨g, cap, cur, rfl, h1, hg, h2⟩
 ·exact .inl ⟨rfl, rfl⟩
 ·exact .inr ⟨g, cap, cur, rfl, h1, (hu.block g (Blk.lt (w := w) (t := e) (cs := cur) hg) (hS g rfl)).trans hg, h2⟩
theorem upd_grown {w w' : World} {row : Option Nat} (hg : w.grownBy w' row) : Upd (fun b => row = some b) w w' :=
 (Upd.refl (fun b => row = some b) w).grown hg (fun b hb => .inl hb)
def Apart (w : World) (e : TypeId) (v : Value) (g : Nat) (r1 r2 : Option Nat) : Prop := Blk w g e #[v] ∧ r1 ≠ some g ∧ r2 ≠ some g
structure Two (w0 w : World) (B : Nat) (e1 e2 : TypeId) (v1 v2 : Value) (n1 n2 : Nat) (xs1 xs2 : List Value) (t1 t2 : Option (Value × Nat)) : Prop where
 ext : Ext w0 w
 base : w0.heap.size ≤ B ∧ B ≤ w.heap.size
 p : w.ownsRow B e1 1 v1 n1 xs1
 m : w.ownsRow B e2 1 v2 n2 xs2
 d : ∀ b, v1.ownBlock = some b → v2.ownBlock ≠ some b
 a1 : ∀ v g, t1 = some (v, g) → Apart w e1 v g v1.ownBlock v2.ownBlock
 a2 : ∀ v g, t2 = some (v, g) → Apart w e2 v g v1.ownBlock v2.ownBlock
section
variable {w0 w w' : World} {B : Nat} {e1 e2 : TypeId} {v1 v2 v1' v2' : Value} {n1 n2 m1 m2 : Nat} {xs1 xs2 ys1 ys2 : List Value} {t1 t2 : Option (Value × Nat)}
theorem Two.later (h : Two w0 w B e1 e2 v1 v2 n1 n2 xs1 xs2 t1 t2) (hx : Ext w w') : Two w0 w' B e1 e2 v1 v2 n1 n2 xs1 xs2 t1 t2 :=
 ⟨h.ext.trans hx, ⟨h.base.1, Nat.le_trans h.base.2 hx.size⟩, own_keep h.p hx, own_keep h.m hx, h.d, fun v g e => by obtain ⟨a, b, c⟩ := h.a1 v g e; exact ⟨a.ext hx, b, c⟩, fun v g e => by obtain ⟨a, b, c⟩ := h.a2 v g e; exact ⟨a.ext hx, b, c⟩⟩
theorem Two.fresh (h : Two w0 w B e1 e2 v1 v2 n1 n2 xs1 xs2 t1 t2) {g : Nat} (hg : w.heap.size ≤ g) : v1.ownBlock ≠ some g ∧ v2.ownBlock ≠ some g :=
 ⟨fun e => by have := (h.p.lt g e).2; omega, fun e => by have := (h.m.lt g e).2; omega⟩
theorem Two.lit1 (h : Two w0 w B e1 e2 v1 v2 n1 n2 xs1 xs2 t1 t2) {v : Value} {g : Nat} (hb : Blk w' g e1 #[v]) (hx : Ext w w') (hg : w.heap.size ≤ g) : Two w0 w' B e1 e2 v1 v2 n1 n2 xs1 xs2 (some (v, g)) t2 := by
 have k := h.later hx
 obtain ⟨f1, f2⟩ := h.fresh hg
 exact ⟨k.ext, k.base, k.p, k.m, k.d, fun u g' e => by injection e with e; injection e with e e'; subst e e'; exact ⟨hb, f1, f2⟩, k.a2⟩
theorem Two.lit2 (h : Two w0 w B e1 e2 v1 v2 n1 n2 xs1 xs2 t1 t2) {v : Value} {g : Nat} (hb : Blk w' g e2 #[v]) (hx : Ext w w') (hg : w.heap.size ≤ g) : Two w0 w' B e1 e2 v1 v2 n1 n2 xs1 xs2 t1 (some (v, g)) := by
 have k := h.later hx
 obtain ⟨f1, f2⟩ := h.fresh hg
 exact ⟨k.ext, k.base, k.p, k.m, k.d, k.a1, fun u g' e => by injection e with e; injection e with e e'; subst e e'; exact ⟨hb, f1, f2⟩⟩
theorem Apart.grown {e : TypeId} {v : Value} {g : Nat} {r r' r2 : Option Nat} (h : Apart w e v g r r2) (hg : w.grownBy w' r) (hr : r' = r ∨ r' = some w.heap.size) : Apart w' e v g r' r2 := by
 obtain ⟨hb, h1, h2⟩ := h
 refine ⟨(upd_grown hg).blk hb h1, ?_, h2⟩
 rcases hr with rfl | rfl
 ·exact h1
 ·intro e; injection e with e; have := hb.lt; omega
theorem Apart.swap {e : TypeId} {v : Value} {g : Nat} {r r2 : Option Nat} (h : Apart w e v g r r2) : Apart w e v g r2 r := ⟨h.1, h.2.2, h.2.1⟩
theorem Two.app1 (h : Two w0 w B e1 e2 v1 v2 n1 n2 xs1 xs2 t1 t2) (ho : w'.ownsRow B e1 1 v1' m1 ys1) (hg : w.grownBy w' v1.ownBlock) (hr : v1'.ownBlock = v1.ownBlock ∨ v1'.ownBlock = some w.heap.size) : Two w0 w' B e1 e2 v1' v2 m1 n2 ys1 xs2 none t2 := by
 have hu := upd_grown hg
 refine ⟨hu.ext h.ext (fun x hx => by have := (h.p.lt x hx).1; have := h.base.1; omega), ⟨h.base.1, Nat.le_trans h.base.2 hu.size⟩, ho, own_upd2 h.m hu (fun x hx e => h.d x e hx), fun b hb => ?_, fun _ _ e => (by cases e), fun v g e => (h.a2 v g e).grown hg hr⟩
 rcases hr with e | e
 ·exact h.d b (e ▸ hb)
 ·rw [e] at hb
  injection hb with hb
  intro e2
  have := (h.m.lt b e2).2
  omega
theorem Two.app2 (h : Two w0 w B e1 e2 v1 v2 n1 n2 xs1 xs2 t1 t2) (ho : w'.ownsRow B e2 1 v2' m2 ys2) (hg : w.grownBy w' v2.ownBlock) (hr : v2'.ownBlock = v2.ownBlock ∨ v2'.ownBlock = some w.heap.size) : Two w0 w' B e1 e2 v1 v2' n1 m2 xs1 ys2 t1 none := by
 have hu := upd_grown hg
 refine ⟨hu.ext h.ext (fun x hx => by have := (h.m.lt x hx).1; have := h.base.1; omega), ⟨h.base.1, Nat.le_trans h.base.2 hu.size⟩, own_upd2 h.p hu (fun x hx e => h.d x hx e), ho, fun b hb => ?_, fun v g e => ((h.a1 v g e).swap.grown hg hr).swap, fun _ _ e => (by cases e)⟩
 rcases hr with e | e
 ·rw [e]; exact h.d b hb
 ·rw [e]
  intro e2
  injection e2 with e2
  have := (h.p.lt b hb).2
  omega
theorem own_map2 (A : Option Addr) (n c : Nat) : (Value.slice A n c).ownBlock = A.map (·.block) := by cases A <;> rfl
theorem one_of {v : Value} (h : v.oneCell' = true) : ∀ u ∈ [v], u.oneCell' = true := by
 intro u hu
 simp at hu
 subst hu
 exact h
theorem oi_end {P : Program} {ops : Array Oper} {K : Act → World → Prop} {a : Act} {w : World} (h : K a w) : wpList P ops (onlyN K) [] a w := h
theorem Two.app1' {A : Option Addr} {c : Nat} (h : Two w0 w B e1 e2 v1 v2 n1 n2 xs1 xs2 t1 t2) (ho : w'.ownsRow B e1 1 (.slice A m1 c) m1 ys1) (hg : w.grownBy w' v1.ownBlock) (hr : A.map (·.block) = v1.ownBlock ∨ A.map (·.block) = some w.heap.size) : Two w0 w' B e1 e2 (.slice A m1 c) v2 m1 n2 ys1 xs2 none t2 :=
 h.app1 ho hg (by rw [own_map2]; exact hr)
theorem Two.app2' {A : Option Addr} {c : Nat} (h : Two w0 w B e1 e2 v1 v2 n1 n2 xs1 xs2 t1 t2) (ho : w'.ownsRow B e2 1 (.slice A m2 c) m2 ys2) (hg : w.grownBy w' v2.ownBlock) (hr : A.map (·.block) = v2.ownBlock ∨ A.map (·.block) = some w.heap.size) : Two w0 w' B e1 e2 v1 (.slice A m2 c) n1 m2 xs1 ys2 t1 none :=
 h.app2 ho hg (by rw [own_map2]; exact hr)
theorem blk_one {g : Nat} {e : TypeId} {v : Value} (h : Blk w g e #[v]) : SL w 1 (.slice (some ⟨g, 0, none⟩) 1 1) 1 [v] :=
 ⟨_, _, rfl, by omega, by omega, rfl, fun _ => ⟨_, rfl, h.lt, fun j u hu => by
  have hc := h.cell j
  rw [addr_add]
  simp only [Nat.zero_add]
  rw [hc, ← hu]
  simp⟩⟩
end
theorem results_cell_tmp2 {fn : Func} {p u v : Tmp} {ty : TypeId} (h : fn.results = #[.cell p ty, .tmp u, .tmp v]) (tmps : Array Value) (P : Program) (w : World) :
 (results fn tmps).run P w =
   ((asAddr (tmps.getD p undef)).run P w).andThen fun a w₁ => ((loadVar ty a).run P w₁).andThen fun x w₂ => .ok (.tuple #[x, tmps.getD u undef, tmps.getD v undef]) w₂ := by
 simp only [results, h]
 simp [Sem.run_bind, Result.andThen]
theorem ret_cell_tmp2 {P : Program} {a : Act} {w : World} {fn : Func} {R : Ending → World → Prop} {p u v : Tmp} {ty : TypeId} (h : fn.results = #[.cell p ty, .tmp u, .tmp v]) (hdf : a.defers = []) (g : Nat) {t : TypeId} {cs : Array Value}
 (hp : a.tmps.getD p undef = .pointer (some ⟨g, 0, none⟩)) (hB : Blk w g t cs) (d : TypeDesc) (hu : P.underlying ty = some d) (hd : (match d with | .struct _ | .array _ _ => true | _ => false) = true)
 (n : Nat) (hs : (P.info? ty).map (·.size) = some n) (hn : cs.size = n) (hR : R (.returned (.tuple #[.agg cs, a.tmps.getD u undef, a.tmps.getD v undef])) w) : bodyPost P fn R .ret a w := by
 refine bodyPost_ret ?_ hdf hR
 rw [results_cell_tmp2 h]
 have e := run_loadVar_row (P := P) w g t ty cs (0, 0) d hB hu hd (by rw [hn]; exact hs)
 simp [hp, asAddr, e, Result.andThen]
section
variable {σ : Type}
variable {f : FuncId} {pre post : Array Value} {B : Nat} {S : Nat → Prop} {Inv : World → σ → Prop} {next : Bool → σ → Tok × Int × σ} {w0 w w' : World} {gb gr : Nat} {z : List Int} {A : Option Addr} {c : Nat} {L : List Tok} {s s' : σ} {T24 : TypeId}
end
def segGo (next : Bool → Nat → Tok × Int × Nat) : Nat → Int → Nat → List Int → Int × List Int × Nat
 | 0, _, p, acc => (0, acc, p)
 | m + 1, before, p, acc => if (blkZ next before p).1 ≠ 0 then ((blkZ next before p).1, [], p) else segGo next m ((blkZ next before p).2.1.getD 0 0) (blkZ next before p).2.2.2 (acc ++ (blkZ next before p).2.1)
def segFin (D : List Bool) (r : Int × List Int × Nat) : Int × List Int := if r.1 ≠ 0 then (r.1, []) else if 7 < D.length - r.2.2 ∨ false ∈ D.drop r.2.2 then (4, []) else (0, r.2.1)
def decR (r : Bool) (T1 T2 : List Tok) (nn : Int) (bs : Option (List Nat)) : Int × List Int :=
 if nn < 0 ∨ 400 < nn then (1, []) else match bs with
  | none => (4, [])
  | some pb => segFin (digsOf pb) (segGo (segNext r T1 T2 (digsOf pb)) nn.toNat 0 0 [])
def blkAt (Z : List Int) (k : Nat) : List Int := (Z.drop (k * 64)).take 64
def befAt (Z : List Int) (k : Nat) : Int := if k = 0 then 0 else (blkAt Z (k - 1)).getD 0 0
def toksAt (Z : List Int) (k : Nat) : List Tok := tokensZ (befAt Z k) (zto (blkAt Z k))
def flagT (T : List Tok) : List (Tok × Bool) := T.zipIdx.map fun p => (p.1, p.2 == 0)
def flagsAt (Z : List Int) (n k : Nat) : List (Tok × Bool) := (List.range' k (n - k)).flatMap fun i => flagT (toksAt Z i)
section
variable {σ : Type}
def eatGo (step : σ → Tok → Bool → Int × σ) : List (Tok × Bool) → σ → Int × σ
 | [], s => (0, s)
 | (t, b) :: r, s => if (step s t b).1 ≠ 0 then step s t b else eatGo step r (step s t b).2
def eachZ (step : σ → Tok → Bool → Int × σ) (n : Nat) (Z : List Int) (s : σ) : Int × σ :=
 if 400 < n then (2, s) else if allIn Z (-2047) 2047 = false then (1, s) else eatGo step (flagsAt Z n 0) s
end
def fileL (wd hi pt : Int) (qs : List Int) (t1 t2 : List Value) (ev : Int) (sd : Value) : List Value := ints [wd, hi, pt] ++ ints qs ++ t1 ++ t2 ++ [.int .i64 ev, sd]
theorem sizeFile : (Tryz.prog.info? 47).map (·.size) = some 103 := by kernel_rfl
theorem sizeTbls : (Tryz.prog.info? 44).map (·.size) = some 34 := by kernel_rfl
theorem zeroTbl : (Tryz.prog.info? 42).bind (·.zero) = some (.agg (ints (List.replicate 16 0) ++ [Value.slice none 0 0]).toArray) := by kernel_rfl
theorem range_part {w : World} {g : Nat} {T : TypeId} {a m b : List Value} (h : Blk w g T (a ++ (m ++ b)).toArray) : w.rangeAt g a.length m := by
 intro j v hv
 rw [h.cell, List.getElem?_toArray, List.getElem?_append_right (by omega), Nat.add_sub_cancel_left, List.getElem?_append_left (List.getElem?_eq_some_iff.1 hv).1]
 exact hv
structure FileB (w : World) (g : Nat) (wd hi pt : Int) (qs : List Int) (t1 t2 : List Value) (ev : Int) (sd : Value) : Prop where
 c0 : w.cell? ⟨g, 0, none⟩ = some (.int .i64 wd)
 c1 : w.cell? ⟨g, 1, none⟩ = some (.int .i64 hi)
 c2 : w.cell? ⟨g, 2, none⟩ = some (.int .i64 pt)
 q : w.rangeAt g 3 (ints qs)
 ta : w.rangeAt g 67 t1
 tb : w.rangeAt g 84 t2
 tt : w.rangeAt g 67 (t1 ++ t2)
 c101 : w.cell? ⟨g, 101, none⟩ = some (.int .i64 ev)
 c102 : w.cell? ⟨g, 102, none⟩ = some sd
theorem fileB {w : World} {g : Nat} {T : TypeId} {wd hi pt : Int} {qs : List Int} {t1 t2 : List Value} {ev : Int} {sd : Value} (h : Blk w g T (fileL wd hi pt qs t1 t2 ev sd).toArray) (hq : qs.length = 64) (h1 : t1.length = 17) (h2 : t2.length = 17) :
 FileB w g wd hi pt qs t1 t2 ev sd := by
 have hql := (ints_len qs).trans hq
 have r0 : w.rangeAt g 0 (ints [wd, hi, pt]) := range_part (a := []) (m := ints [wd, hi, pt]) (b := ints qs ++ t1 ++ t2 ++ [.int .i64 ev, sd]) (T := T) (by simpa [fileL] using h)
 have r1 := range_part (a := ints [wd, hi, pt]) (m := ints qs) (b := t1 ++ t2 ++ [.int .i64 ev, sd]) (T := T) (w := w) (g := g) (by simpa [fileL] using h)
 have r2 := range_part (a := ints [wd, hi, pt] ++ ints qs) (m := t1) (b := t2 ++ [.int .i64 ev, sd]) (T := T) (w := w) (g := g) (by simpa [fileL] using h)
 have r3 := range_part (a := ints [wd, hi, pt] ++ ints qs ++ t1) (m := t2) (b := [.int .i64 ev, sd]) (T := T) (w := w) (g := g) (by simpa [fileL] using h)
 have r4 := range_part (a := ints [wd, hi, pt] ++ ints qs) (m := t1 ++ t2) (b := [.int .i64 ev, sd]) (T := T) (w := w) (g := g) (by simpa [fileL] using h)
 have r5 := range_part (a := ints [wd, hi, pt] ++ ints qs ++ t1 ++ t2) (m := [.int .i64 ev, sd]) (b := []) (T := T) (w := w) (g := g) (by simpa [fileL] using h)
 simp only [List.length_append, hql, h1, h2, ints_len, List.length_cons, List.length_nil] at r1 r2 r3 r4 r5
 exact ⟨r0 0 _ rfl, r0 1 _ rfl, r0 2 _ rfl, r1, r2, r3, r4, r5 0 _ rfl, r5 1 _ rfl⟩
theorem fileL_len (wd hi pt : Int) (qs : List Int) (t1 t2 : List Value) (ev : Int) (sd : Value) (hq : qs.length = 64) (h1 : t1.length = 17) (h2 : t2.length = 17) : (fileL wd hi pt qs t1 t2 ev sd).toArray.size = 103 := by
 simp [fileL, ints_len, hq, h1, h2]
def tblL (cs : List Int) (sl : Value) : List Value := ints cs ++ [sl]
theorem tblL_len (cs : List Int) (sl : Value) (h : cs.length = 16) : (tblL cs sl).length = 17 := by simp [tblL, ints_len, h]
set_option maxRecDepth 20000 in
theorem built2 (t1 t2 : List Value) (h1 : t1.length = 17) (h2 : t2.length = 17) : Tryz.prog.builtSlice 42 2 [(0, .agg t1.toArray), (1, .agg t2.toArray)] = some (t1 ++ t2).toArray := by
 match t1, h1 with
 | [a0, a1, a2, a3, a4, a5, a6, a7, a8, a9, a10, a11, a12, a13, a14, a15, a16], _ =>
   match t2, h2 with
   | [b0, b1, b2, b3, b4, b5, b6, b7, b8, b9, b10, b11, b12, b13, b14, b15, b16], _ =>
     show _ = _
     kernel_rfl
theorem wpList_load_mid_g {P : Program} {ops : Array Oper} {rest : List Oper} {op : Oper} {a : Act} {w : World} {Q : Exit → Act → World → Prop} (hw : Region.wanted op (yielded ops a.tmps) = true) (ty : TypeId) (x : Operand) (ho : op.op = .load ty x)
 (b o : Nat) (hx : a.eval x = .pointer (some ⟨b, o, none⟩)) (cs : List Value) (d : TypeDesc) (hc : w.rangeAt b o cs)
 (hu : P.underlying ty = some d) (hd : d.isRow = true) (hi : (P.info? ty).map (·.size) = some cs.length)
 (h : wpList P ops Q rest (a.put op.dst (.agg cs.toArray)) w) : wpList P ops Q (op :: rest) a w :=
 wpList_wanted hw fun _ hK => wp_load_mid ty x ho b o hx cs d hc hu hd hi (hK _ _ h)
theorem range_two {w : World} {g : Nat} {T : TypeId} {t1 t2 : List Value} (h1 : t1.length = 17) (h : Blk w g T (t1 ++ t2).toArray) : w.rangeAt g 0 t1 ∧ w.rangeAt g 17 t2 := by
 refine ⟨range_part (a := []) (m := t1) (b := t2) (T := T) (by simpa using h), ?_⟩
 have := range_part (a := t1) (m := t2) (b := []) (T := T) (w := w) (g := g) (by simpa using h)
 rwa [h1] at this
def argsOK (wd hi pt ev : Int) : Bool := inB wd 1 64 && inB hi 1 64 && (pt == 1 || pt == 3) && inB ev 0 100
def fcheckZ (wd hi pt : Int) (qs : List Int) (z1 z2 : Int) (ev : Int) (n : Nat) : Int :=
 if argsOK wd hi pt ev && allIn qs 1 255 then (if z1 = 0 then (if z2 = 0 then (if 90000 < n then 2 else 0) else z2) else z1) else 1
section
variable {P : Program} {o : Oper} {a : Act}
theorem ex_build2 {t : TypeId} {x y : Operand} (ho : o.op = .build t #[(0, x), (1, y)]) {vx vy : Value} (hx : a.eval x = vx) (hy : a.eval y = vy) {cs : Array Value} (hf : P.built t [(0, vx), (1, vy)] = some cs) (w : World) : (execOp a.eval o).run P w = .ok (.value (.agg cs)) w := by
 simp only [execOp, ho, Sem.run_bind, run_build w t (#[(0, x), (1, y)].map fun (i, x) => (i, a.eval x)) cs (by simpa [hx, hy] using hf), Result.andThen_ok, Sem.run_pure]
end
section
variable {P : Program} {o : Oper} {a : Act}
theorem ex_loadMid {ty : TypeId} {x : Operand} (ho : o.op = .load ty x) {b off : Nat} (hx : a.eval x = .pointer (some ⟨b, off, none⟩)) {cs : List Value} {w : World} (hc : w.rangeAt b off cs) {d : TypeDesc} (hu : P.underlying ty = some d) (hd : d.isRow = true) (hi : (P.info? ty).map (·.size) = some cs.length) :
 (execOp a.eval o).run P w = .ok (.value (.agg cs.toArray)) w := by
 simp only [execOp, ho, hx, Sem.run_bind, run_loadAt_mid w b off ty cs d hc hu hd hi, Result.andThen_ok, Sem.run_pure]
end
def spGo : List Nat → List (List Nat) → List Nat → List Nat → Option (List (List Nat) × List Nat)
 | [], P, M, c => some (P ++ [c], M)
 | [x], P, M, c => if x = 255 then none else some (P ++ [c ++ [x]], M)
 | x :: y :: r, P, M, c => if x = 255 then (if y = 255 then none else if y = 0 then spGo r P M (c ++ [255, 0]) else spGo r (P ++ [c]) (M ++ [y]) []) else spGo (y :: r) P M (c ++ [x])
theorem sp_end {bs : List Nat} {i : Nat} {P : List (List Nat)} {M c : List Nat} (h : bs.length ≤ i) : spGo (bs.drop i) P M c = some (P ++ [c], M) := by
 rw [List.drop_of_length_le h, spGo]
theorem sp_plain {bs : List Nat} {i : Nat} {P : List (List Nat)} {M c : List Nat} (h : i < bs.length) (hx : bs[i] ≠ 255) : spGo (bs.drop i) P M c = spGo (bs.drop (i + 1)) P M (c ++ [bs[i]]) := by
 rw [List.drop_eq_getElem_cons h]
 cases hd : bs.drop (i + 1) with
 | nil => simp [spGo, hx]
 | cons y r => simp [spGo, hx]
theorem sp_two {bs : List Nat} {i : Nat} {P : List (List Nat)} {M c : List Nat} (h : i + 1 < bs.length) (hx : bs[i] = 255) :
 spGo (bs.drop i) P M c = if bs[i + 1] = 255 then none else if bs[i + 1] = 0 then spGo (bs.drop (i + 2)) P M (c ++ [255, 0]) else spGo (bs.drop (i + 2)) (P ++ [c]) (M ++ [bs[i + 1]]) [] := by
 rw [List.drop_eq_getElem_cons (by omega), List.drop_eq_getElem_cons h, spGo, if_pos hx]
theorem sp_last {bs : List Nat} {i : Nat} {P : List (List Nat)} {M c : List Nat} (h : i + 1 = bs.length) (hx : bs[i]'(by omega) = 255) : spGo (bs.drop i) P M c = none := by
 rw [List.drop_eq_getElem_cons (by omega), List.drop_of_length_le (by omega), spGo, if_pos hx]
theorem sp_len : ∀ (r : List Nat) (P : List (List Nat)) (M c : List Nat) (z : List (List Nat) × List Nat), spGo r P M c = some z → z.1.length ≤ P.length + r.length + 1 ∧ z.2.length ≤ M.length + r.length
 | [], P, M, c, z, h => by simp [spGo] at h; subst h; simp
 | [x], P, M, c, z, h => by
   simp only [spGo] at h
   split at h
   ·cases h
   ·simp at h; subst h; simp
 | x :: y :: r, P, M, c, z, h => by
   simp only [spGo] at h
   split at h
   ·split at h
    ·cases h
    ·split at h
     ·have := sp_len r P M (c ++ [255, 0]) z h
      simp only [List.length_cons]; omega
     ·have := sp_len r (P ++ [c]) (M ++ [y]) [] z h
      simp only [List.length_append, List.length_cons, List.length_nil] at this ⊢; omega
   ·have := sp_len (y :: r) P M (c ++ [x]) z h
    simp only [List.length_cons] at this ⊢; omega
def Pieces (w : World) (VS : List Value) (P : List (List Nat)) : Prop :=
 VS.length = P.length ∧ ∀ i (h : i < P.length), ∃ A c, VS[i]? = some (.slice A P[i].length c) ∧ SL w 1 (.slice A P[i].length c) P[i].length (bytesV P[i])
theorem Pieces.ext {w w' : World} {VS : List Value} {P : List (List Nat)} (h : Pieces w VS P) (hx : Ext w w') : Pieces w' VS P :=
 ⟨h.1, fun i hi => by obtain ⟨A, c, h1, h2⟩ := h.2 i hi; exact ⟨A, c, h1, h2.ext hx⟩⟩
theorem Pieces.snoc {w : World} {VS : List Value} {P : List (List Nat)} (h : Pieces w VS P) {A : Option Addr} {n c : Nat} {l : List Nat} (hn : l.length = n) (hs : SL w 1 (.slice A n c) n (bytesV l)) : Pieces w (VS ++ [.slice A n c]) (P ++ [l]) := by
 subst hn
 refine ⟨by simp [h.1], fun i hi => ?_⟩
 by_cases hlt : i < P.length
 ·obtain ⟨B, d, h1, h2⟩ := h.2 i hlt
  refine ⟨B, d, ?_, ?_⟩
  ·rw [List.getElem?_append_left (by rw [h.1]; exact hlt), h1, List.getElem_append_left hlt]
  ·rw [List.getElem_append_left hlt]; exact h2
 ·have e : i = P.length := by simp at hi; omega
  subst e
  refine ⟨A, c, ?_, ?_⟩
  ·rw [List.getElem?_append_right (by rw [h.1]; exact Nat.le_refl _), h.1]; simp
  ·simpa using hs
def b8 (s : List Nat) : List UInt8 := s.map UInt8.ofNat
def ixN (s o : List Nat) : Int := Lib.index (b8 s) (b8 o)
def cntN (s o : List Nat) : Nat := Lib.count (b8 s) (b8 o)
def replN : Nat → List Nat → List Nat → List Nat → List Nat
 | 0, s, _, _ => s
 | m + 1, s, o, v => s.take (ixN s o).toNat ++ (v ++ replN m (s.drop ((ixN s o).toNat + o.length)) o v)
def replZ (s o v : List Nat) : List Nat := replN (cntN s o) s o v
def stuffZ (bs : List Nat) : List Nat := bs.flatMap fun b => if b = 255 then [255, 0] else [b]
def plZ : List Nat → Option (List Nat)
 | [] => some []
 | [b] => if b = 255 then none else some [b]
 | b :: c :: r => if b = 255 then (if c = 0 then (plZ r).map (255 :: ·) else none) else (plZ (c :: r)).map (b :: ·)
theorem SL.sub {w : World} {A : Option Addr} {n c l h : Nat} {xs : List Value} (hs : SL w 1 (.slice A n c) n xs) (hl : l ≤ h) (hh : h ≤ n) :
 SL w 1 (.slice (if c = l then A else A.map (·.add l)) (h - l) (c - l)) (h - l) ((xs.drop l).take (h - l)) := by
 obtain ⟨A', c', e, h1, h2, h3, h4⟩ := hs
 injection e with e1 e2 e3
 subst e1 e3
 refine ⟨_, _, rfl, by omega, by omega, by simp; omega, fun h0 => ?_⟩
 obtain ⟨ad, rfl, hb, hc⟩ := h4 (by omega)
 rw [if_neg (by omega)]
 refine ⟨ad.add l, rfl, by rw [block_of_add]; exact hb, fun j u hu => ?_⟩
 rw [add_of_add]
 refine hc _ _ ?_
 have hj : j < h - l := by have := (List.getElem?_eq_some_iff.1 hu).1; simp at this; omega
 rwa [List.getElem?_take_of_lt hj, List.getElem?_drop] at hu
theorem run_sliceB (A : Option Addr) (n c l h : Nat) (hl : l ≤ h) (hh : h ≤ n) (hc : n ≤ c) (w : World) :
 (Instr.slice 45 (.slice A n c) (some (.int .i64 (l : Int))) (some (.int .i64 (h : Int))) none).run Tryz.prog w = .ok (.slice (if c = l then A else A.map (·.add l)) (h - l) (c - l)) w := by
 have e1 : ((l : Int) ≤ (h : Int)) := by omega
 have e2 : ((h : Int) ≤ (c : Int)) := by omega
 have e3 : l ≤ c := by omega
 go_simp
theorem run_sliceF (A : Option Addr) (n c l : Nat) (hh : l ≤ n) (hc : n ≤ c) (w : World) :
 (Instr.slice 45 (.slice A n c) (some (.int .i64 (l : Int))) none none).run Tryz.prog w = .ok (.slice (if c = l then A else A.map (·.add l)) (n - l) (c - l)) w := by
 have e1 : ((l : Int) ≤ (n : Int)) := by omega
 have e2 : ((n : Int) ≤ (c : Int)) := by omega
 have e3 : l ≤ c := by omega
 go_simp
section
variable {o : Oper} {a : Act}
theorem ex_sliceB {x lo hi : Operand} (ho : o.op = .slice 45 x (some lo) (some hi) none) {A : Option Addr} {n c l h : Nat} (hx : a.eval x = .slice A n c) (h1 : a.eval lo = .int .i64 (l : Int)) (h2 : a.eval hi = .int .i64 (h : Int)) (hl : l ≤ h) (hh : h ≤ n) (hc : n ≤ c) (w : World) :
 (execOp a.eval o).run Tryz.prog w = .ok (.value (.slice (if c = l then A else A.map (·.add l)) (h - l) (c - l))) w := by
 simp [execOp, ho, hx, h1, h2, Instr.sliceAt, Sem.run_bind, run_underlying Tryz.underlying45, run_sliceB A n c l h hl hh hc w]
theorem ex_sliceF {x lo : Operand} (ho : o.op = .slice 45 x (some lo) none none) {A : Option Addr} {n c l : Nat} (hx : a.eval x = .slice A n c) (h1 : a.eval lo = .int .i64 (l : Int)) (hh : l ≤ n) (hc : n ≤ c) (w : World) :
 (execOp a.eval o).run Tryz.prog w = .ok (.value (.slice (if c = l then A else A.map (·.add l)) (n - l) (c - l))) w := by
 simp [execOp, ho, hx, h1, Instr.sliceAt, Sem.run_bind, run_underlying Tryz.underlying45, run_sliceF A n c l hh hc w]
end
section
variable {o : Oper} {a : Act}
theorem run_loadSl (W : World) (p : Addr) (A : Option Addr) (n c : Nat) (h : W.cell? p = some (.slice A n c)) : (Instr.loadAt 45 (.pointer (some p))).run Tryz.prog W = .ok (.slice A n c) W := by
 go_simp
theorem run_loadU (W : World) (p : Addr) (z : Int) (h : W.cell? p = some (.int .u8 z)) : (Instr.loadAt 5 (.pointer (some p))).run Tryz.prog W = .ok (.int .u8 z) W := by
 go_simp
theorem ex_loadS {x : Operand} (ho : o.op = .load 45 x) {p : Addr} (hx : a.eval x = .pointer (some p)) {A : Option Addr} {n c : Nat} {w : World} (h : w.cell? p = some (.slice A n c)) : (execOp a.eval o).run Tryz.prog w = .ok (.value (.slice A n c)) w := by
 simp [execOp, ho, hx, run_loadSl w p A n c h]
theorem ex_loadU {x : Operand} (ho : o.op = .load 5 x) {p : Addr} (hx : a.eval x = .pointer (some p)) {z : Int} {w : World} (h : w.cell? p = some (.int .u8 z)) : (execOp a.eval o).run Tryz.prog w = .ok (.value (.int .u8 z)) w := by
 simp [execOp, ho, hx, run_loadU w p z h]
theorem run_conv8 (y : Nat) (h : y < 256) (W : World) : (convert 5 3 (.int .u8 (y : Int))).run Tryz.prog W = .ok (.int .i64 (y : Int)) W := by
 have e : IntKind.i64.wrap (y : Int) = (y : Int) := IntWalk.i64_in _ (by omega)
 go_simp
theorem ex_conv {P : Program} {x : Operand} {t u : TypeId} (ho : o.op = .convert t u x) {v v' : Value} (hx : a.eval x = v) (hr : ∀ w, (convert t u v).run P w = .ok v' w) (w : World) : (execOp a.eval o).run P w = .ok (.value v') w := by
 simp [execOp, ho, hx, hr]
end
theorem SL.upd0 {S : Nat → Prop} {w w' : World} {size n c : Nat} {A : Option Addr} {xs : List Value} (h : SL w size (.slice A n c) n xs) (hu : Upd S w w') (hS : 0 < n → ∀ ad, A = some ad → ¬ S ad.block) : SL w' size (.slice A n c) n xs := by
 by_cases h0 : 0 < n
 ·exact h.upd hu (hS h0)
 ·obtain ⟨A', c', e1, h1, h2, h3, h4⟩ := h
  exact ⟨A', c', e1, h1, h2, h3, fun hn => absurd hn h0⟩
theorem bytes_at {bs : List Nat} {k : Nat} {u : Value} (h : (bytesV bs)[k]? = some u) : ∃ hk : k < bs.length, u = .int .u8 ((bs[k] : Nat) : Int) := by
 unfold bytesV at h
 rw [List.getElem?_map] at h
 obtain ⟨z, hz, rfl⟩ := Option.map_eq_some_iff.1 h
 obtain ⟨hk, rfl⟩ := List.getElem?_eq_some_iff.1 hz
 exact ⟨hk, rfl⟩
theorem elt_intR : Elt Tryz.prog 22 3 1 8 := ⟨Tryz.underlying22, by kernel_rfl, by omega⟩
end Go.Proofs.YtkggcjdlpendfaaGreatDoor
