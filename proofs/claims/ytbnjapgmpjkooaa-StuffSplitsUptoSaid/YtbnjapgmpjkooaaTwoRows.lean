/- Two owned rows that grow side by side, each by a slice literal of one element: for drawn regions with two appends (XOrders). -/
import Derived.Test.YtbnjapgmpjkooaaOrders
import Derived.Test.YtbnjapgmpjkooaaUpd
import Derived.Test.YtbnjapgmpjkooaaBuild1
import Derived.Test.YtbnjapgmpjkooaaDraw
namespace Go.Proofs.Ytbnjapgmpjkooaa
set_option linter.unusedVariables false
set_option linter.unusedSimpArgs false
open Go.RowKit
theorem own_upd2 {S : Nat → Prop} {w w' : World} {base : Nat} {e : TypeId} {size n : Nat} {v : Value} {xs : List Value} (h : w.ownsRow base e size v n xs) (hu : Upd S w w') (hS : ∀ x, v.ownBlock = some x → ¬ S x) : w'.ownsRow base e size v n xs := by
  obtain ⟨hl, hh⟩ := h
  refine ⟨hl, ?_⟩
  rcases hh with ⟨rfl, rfl⟩ | ⟨g, cap, cur, rfl, h1, hg, h2⟩
  · exact .inl ⟨rfl, rfl⟩
  · exact .inr ⟨g, cap, cur, rfl, h1, (hu.block g (Blk.lt (w := w) (t := e) (cs := cur) hg) (hS g rfl)).trans hg, h2⟩
theorem upd_grown {w w' : World} {row : Option Nat} (hg : w.grownBy w' row) : Upd (fun b => row = some b) w w' :=
  (Upd.refl (fun b => row = some b) w).grown hg (fun b hb => .inl hb)
/-- a block of one cell, apart from the rows -/
def Apart (w : World) (e : TypeId) (v : Value) (g : Nat) (r1 r2 : Option Nat) : Prop := Blk w g e #[v] ∧ r1 ≠ some g ∧ r2 ≠ some g
structure Two (w0 w : World) (B : Nat) (e1 e2 : TypeId) (v1 v2 : Value) (n1 n2 : Nat) (xs1 xs2 : List Value) (t1 t2 : Option (Value × Nat)) : Prop where
  ext : Ext w0 w
  base : w0.heap.size ≤ B ∧ B ≤ w.heap.size
  p : w.ownsRow B e1 1 v1 n1 xs1
  m : w.ownsRow B e2 1 v2 n2 xs2
  d : ∀ b, v1.ownBlock = some b → v2.ownBlock ≠ some b
  a1 : ∀ v g, t1 = some (v, g) → Apart w e1 v g v1.ownBlock v2.ownBlock
  a2 : ∀ v g, t2 = some (v, g) → Apart w e2 v g v1.ownBlock v2.ownBlock
section
variable {w0 w w' : World} {B : Nat} {e1 e2 : TypeId} {v1 v2 v1' v2' : Value} {n1 n2 m1 m2 : Nat} {xs1 xs2 ys1 ys2 : List Value} {t1 t2 : Option (Value × Nat)}
theorem Two.later (h : Two w0 w B e1 e2 v1 v2 n1 n2 xs1 xs2 t1 t2) (hx : Ext w w') : Two w0 w' B e1 e2 v1 v2 n1 n2 xs1 xs2 t1 t2 :=
  ⟨h.ext.trans hx, ⟨h.base.1, Nat.le_trans h.base.2 hx.size⟩, own_keep h.p hx, own_keep h.m hx, h.d, fun v g e => by obtain ⟨a, b, c⟩ := h.a1 v g e; exact ⟨a.ext hx, b, c⟩, fun v g e => by obtain ⟨a, b, c⟩ := h.a2 v g e; exact ⟨a.ext hx, b, c⟩⟩
theorem Two.fresh (h : Two w0 w B e1 e2 v1 v2 n1 n2 xs1 xs2 t1 t2) {g : Nat} (hg : w.heap.size ≤ g) : v1.ownBlock ≠ some g ∧ v2.ownBlock ≠ some g :=
  ⟨fun e => by have := (h.p.lt g e).2; omega, fun e => by have := (h.m.lt g e).2; omega⟩
theorem Two.lit1 (h : Two w0 w B e1 e2 v1 v2 n1 n2 xs1 xs2 t1 t2) {v : Value} {g : Nat} (hb : Blk w' g e1 #[v]) (hx : Ext w w') (hg : w.heap.size ≤ g) : Two w0 w' B e1 e2 v1 v2 n1 n2 xs1 xs2 (some (v, g)) t2 := by
  have k := h.later hx
  obtain ⟨f1, f2⟩ := h.fresh hg
  exact ⟨k.ext, k.base, k.p, k.m, k.d, fun u g' e => by injection e with e; injection e with e e'; subst e e'; exact ⟨hb, f1, f2⟩, k.a2⟩
theorem Two.lit2 (h : Two w0 w B e1 e2 v1 v2 n1 n2 xs1 xs2 t1 t2) {v : Value} {g : Nat} (hb : Blk w' g e2 #[v]) (hx : Ext w w') (hg : w.heap.size ≤ g) : Two w0 w' B e1 e2 v1 v2 n1 n2 xs1 xs2 t1 (some (v, g)) := by
  have k := h.later hx
  obtain ⟨f1, f2⟩ := h.fresh hg
  exact ⟨k.ext, k.base, k.p, k.m, k.d, k.a1, fun u g' e => by injection e with e; injection e with e e'; subst e e'; exact ⟨hb, f1, f2⟩⟩
theorem Apart.grown {e : TypeId} {v : Value} {g : Nat} {r r' r2 : Option Nat} (h : Apart w e v g r r2) (hg : w.grownBy w' r) (hr : r' = r ∨ r' = some w.heap.size) : Apart w' e v g r' r2 := by
  obtain ⟨hb, h1, h2⟩ := h
  refine ⟨(upd_grown hg).blk hb h1, ?_, h2⟩
  rcases hr with rfl | rfl
  · exact h1
  · intro e; injection e with e; have := hb.lt; omega
theorem Apart.swap {e : TypeId} {v : Value} {g : Nat} {r r2 : Option Nat} (h : Apart w e v g r r2) : Apart w e v g r2 r := ⟨h.1, h.2.2, h.2.1⟩
theorem Two.app1 (h : Two w0 w B e1 e2 v1 v2 n1 n2 xs1 xs2 t1 t2) (ho : w'.ownsRow B e1 1 v1' m1 ys1) (hg : w.grownBy w' v1.ownBlock) (hr : v1'.ownBlock = v1.ownBlock ∨ v1'.ownBlock = some w.heap.size) : Two w0 w' B e1 e2 v1' v2 m1 n2 ys1 xs2 none t2 := by
  have hu := upd_grown hg
  refine ⟨hu.ext h.ext (fun x hx => by have := (h.p.lt x hx).1; have := h.base.1; omega), ⟨h.base.1, Nat.le_trans h.base.2 hu.size⟩, ho, own_upd2 h.m hu (fun x hx e => h.d x e hx), fun b hb => ?_, fun _ _ e => (by cases e), fun v g e => (h.a2 v g e).grown hg hr⟩
  rcases hr with e | e
  · exact h.d b (e ▸ hb)
  · rw [e] at hb
    injection hb with hb
    intro e2
    have := (h.m.lt b e2).2
    omega
theorem Two.app2 (h : Two w0 w B e1 e2 v1 v2 n1 n2 xs1 xs2 t1 t2) (ho : w'.ownsRow B e2 1 v2' m2 ys2) (hg : w.grownBy w' v2.ownBlock) (hr : v2'.ownBlock = v2.ownBlock ∨ v2'.ownBlock = some w.heap.size) : Two w0 w' B e1 e2 v1 v2' n1 m2 xs1 ys2 t1 none := by
  have hu := upd_grown hg
  refine ⟨hu.ext h.ext (fun x hx => by have := (h.m.lt x hx).1; have := h.base.1; omega), ⟨h.base.1, Nat.le_trans h.base.2 hu.size⟩, own_upd2 h.p hu (fun x hx e => h.d x hx e), ho, fun b hb => ?_, fun v g e => ((h.a1 v g e).swap.grown hg hr).swap, fun _ _ e => (by cases e)⟩
  rcases hr with e | e
  · rw [e]; exact h.d b hb
  · rw [e]
    intro e2
    injection e2 with e2
    have := (h.p.lt b hb).2
    omega
theorem own_map2 (A : Option Addr) (n c : Nat) : (Value.slice A n c).ownBlock = A.map (·.block) := by cases A <;> rfl
theorem one_of {v : Value} (h : v.oneCell' = true) : ∀ u ∈ [v], u.oneCell' = true := by
  intro u hu
  simp at hu
  subst hu
  exact h
theorem oi_end {P : Program} {ops : Array Oper} {K : Act → World → Prop} {a : Act} {w : World} (h : K a w) : wpList P ops (onlyN K) [] a w := h
theorem Two.app1' {A : Option Addr} {c : Nat} (h : Two w0 w B e1 e2 v1 v2 n1 n2 xs1 xs2 t1 t2) (ho : w'.ownsRow B e1 1 (.slice A m1 c) m1 ys1) (hg : w.grownBy w' v1.ownBlock) (hr : A.map (·.block) = v1.ownBlock ∨ A.map (·.block) = some w.heap.size) : Two w0 w' B e1 e2 (.slice A m1 c) v2 m1 n2 ys1 xs2 none t2 :=
  h.app1 ho hg (by rw [own_map2]; exact hr)
theorem Two.app2' {A : Option Addr} {c : Nat} (h : Two w0 w B e1 e2 v1 v2 n1 n2 xs1 xs2 t1 t2) (ho : w'.ownsRow B e2 1 (.slice A m2 c) m2 ys2) (hg : w.grownBy w' v2.ownBlock) (hr : A.map (·.block) = v2.ownBlock ∨ A.map (·.block) = some w.heap.size) : Two w0 w' B e1 e2 v1 (.slice A m2 c) n1 m2 xs1 ys2 t1 none :=
  h.app2 ho hg (by rw [own_map2]; exact hr)
theorem blk_one {g : Nat} {e : TypeId} {v : Value} (h : Blk w g e #[v]) : SL w 1 (.slice (some ⟨g, 0, none⟩) 1 1) 1 [v] :=
  ⟨_, _, rfl, by omega, by omega, rfl, fun _ => ⟨_, rfl, h.lt, fun j u hu => by
    have hc := h.cell j
    rw [addr_add]
    simp only [Nat.zero_add]
    rw [hc, ← hu]
    simp⟩⟩
end
end Go.Proofs.Ytbnjapgmpjkooaa
