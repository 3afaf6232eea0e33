/- Slices of bytes that are kept while two rows grow. -/
import Derived.Test.YtbnjapgmpjkooaaTwoRows
import Derived.Test.YtbnjapgmpjkooaaSplitMath
import Derived.Test.YtbnjapgmpjkooaaReader
namespace Go.Proofs.Ytbnjapgmpjkooaa
set_option linter.unusedVariables false
set_option linter.unusedSimpArgs false
open Go.RowKit
def Kept (w : World) (VS : List Value) (P : List (List Nat)) (r1 r2 : Option Nat) : Prop :=
  Pieces w VS P ∧ ∀ V ∈ VS, ∀ b, V.ownBlock = some b → b < w.heap.size ∧ r1 ≠ some b ∧ r2 ≠ some b
theorem Kept.nil (w : World) (r1 r2 : Option Nat) : Kept w [] [] r1 r2 := ⟨⟨rfl, fun i h => by simp at h⟩, fun V h => by cases h⟩
theorem Kept.ext {w w' : World} {VS : List Value} {P : List (List Nat)} {r1 r2 : Option Nat} (h : Kept w VS P r1 r2) (hx : Ext w w') : Kept w' VS P r1 r2 :=
  ⟨h.1.ext hx, fun V hV b hb => by obtain ⟨h1, h2, h3⟩ := h.2 V hV b hb; exact ⟨Nat.lt_of_lt_of_le h1 hx.size, h2, h3⟩⟩
theorem Kept.swap {w : World} {VS : List Value} {P : List (List Nat)} {r1 r2 : Option Nat} (h : Kept w VS P r1 r2) : Kept w VS P r2 r1 :=
  ⟨h.1, fun V hV b hb => by obtain ⟨h1, h2, h3⟩ := h.2 V hV b hb; exact ⟨h1, h3, h2⟩⟩
theorem Pieces.upd {S : Nat → Prop} {w w' : World} {VS : List Value} {P : List (List Nat)} (h : Pieces w VS P) (hu : Upd S w w') (hS : ∀ V ∈ VS, ∀ b, V.ownBlock = some b → ¬ S b) : Pieces w' VS P :=
  ⟨h.1, fun i hi => by
    obtain ⟨A, c, h1, h2⟩ := h.2 i hi
    refine ⟨A, c, h1, h2.upd hu fun ad e => hS _ (List.mem_of_getElem? h1) _ ?_⟩
    rw [own_map2, e]; rfl⟩
theorem Kept.grown {w w' : World} {VS : List Value} {P : List (List Nat)} {r1 r1' r2 : Option Nat} (h : Kept w VS P r1 r2) (hg : w.grownBy w' r1) (hr : r1' = r1 ∨ r1' = some w.heap.size) : Kept w' VS P r1' r2 := by
  have hu := upd_grown hg
  refine ⟨h.1.upd hu fun V hV b hb e => (h.2 V hV b hb).2.1 e, fun V hV b hb => ?_⟩
  obtain ⟨h1, h2, h3⟩ := h.2 V hV b hb
  refine ⟨Nat.lt_of_lt_of_le h1 hu.size, ?_, h3⟩
  rcases hr with rfl | rfl
  · exact h2
  · intro e; injection e with e; omega
theorem Kept.grown1 {w w' : World} {VS : List Value} {P : List (List Nat)} {v1 : Value} {r2 : Option Nat} {A : Option Addr} {n c : Nat} (h : Kept w VS P v1.ownBlock r2) (hg : w.grownBy w' v1.ownBlock) (hr : A.map (·.block) = v1.ownBlock ∨ A.map (·.block) = some w.heap.size) : Kept w' VS P (Value.slice A n c).ownBlock r2 := by
  rw [own_map2]; exact h.grown hg hr
theorem Kept.grown2 {w w' : World} {VS : List Value} {P : List (List Nat)} {v2 : Value} {r1 : Option Nat} {A : Option Addr} {n c : Nat} (h : Kept w VS P r1 v2.ownBlock) (hg : w.grownBy w' v2.ownBlock) (hr : A.map (·.block) = v2.ownBlock ∨ A.map (·.block) = some w.heap.size) : Kept w' VS P r1 (Value.slice A n c).ownBlock :=
  (h.swap.grown1 hg hr).swap
theorem Kept.upd {S : Nat → Prop} {w w' : World} {VS : List Value} {P : List (List Nat)} {r1 r2 : Option Nat} (h : Kept w VS P r1 r2) (hu : Upd S w w') (hS : ∀ V ∈ VS, ∀ b, V.ownBlock = some b → ¬ S b) : Kept w' VS P r1 r2 :=
  ⟨h.1.upd hu hS, fun V hV b hb => by obtain ⟨h1, h2, h3⟩ := h.2 V hV b hb; exact ⟨Nat.lt_of_lt_of_le h1 hu.size, h2, h3⟩⟩
theorem Two.upd {S : Nat → Prop} {w0 w w' : World} {B : Nat} {e1 e2 : TypeId} {v1 v2 : Value} {n1 n2 : Nat} {xs1 xs2 : List Value} (h : Two w0 w B e1 e2 v1 v2 n1 n2 xs1 xs2 none none) (hu : Upd S w w') (h0 : ∀ b, S b → w0.heap.size ≤ b)
    (hS1 : ∀ b, v1.ownBlock = some b → ¬ S b) (hS2 : ∀ b, v2.ownBlock = some b → ¬ S b) : Two w0 w' B e1 e2 v1 v2 n1 n2 xs1 xs2 none none :=
  ⟨hu.ext h.ext h0, ⟨h.base.1, Nat.le_trans h.base.2 hu.size⟩, own_upd2 h.p hu hS1, own_upd2 h.m hu hS2, h.d, (fun _ _ e => by cases e), (fun _ _ e => by cases e)⟩
/-- the state of Split: two rows, the pieces kept, the piece under way -/
structure Cur (w0 w : World) (B : Nat) (e1 e2 e3 : TypeId) (v1 v2 v3 : Value) (n1 n2 n3 : Nat) (VS xs2 xs3 : List Value) (P : List (List Nat)) : Prop where
  two : Two w0 w B e1 e2 v1 v2 n1 n2 VS xs2 none none
  kept : Kept w VS P v1.ownBlock v2.ownBlock
  cur : w.ownsRow B e3 1 v3 n3 xs3
  d1 : ∀ b, v3.ownBlock = some b → v1.ownBlock ≠ some b ∧ v2.ownBlock ≠ some b
  d2 : ∀ V ∈ VS, ∀ b, V.ownBlock = some b → v3.ownBlock ≠ some b
section
variable {w0 w w' : World} {B : Nat} {e1 e2 e3 : TypeId} {v1 v2 v3 v3' : Value} {n1 n2 n3 m3 : Nat} {VS xs2 xs3 ys3 : List Value} {P : List (List Nat)}
theorem Cur.later (h : Cur w0 w B e1 e2 e3 v1 v2 v3 n1 n2 n3 VS xs2 xs3 P) (hx : Ext w w') : Cur w0 w' B e1 e2 e3 v1 v2 v3 n1 n2 n3 VS xs2 xs3 P :=
  ⟨h.two.later hx, h.kept.ext hx, own_keep h.cur hx, h.d1, h.d2⟩
/-- the piece under way grows -/
theorem Cur.grow (h : Cur w0 w B e1 e2 e3 v1 v2 v3 n1 n2 n3 VS xs2 xs3 P) (ho : w'.ownsRow B e3 1 v3' m3 ys3) (hg : w.grownBy w' v3.ownBlock) (hr : v3'.ownBlock = v3.ownBlock ∨ v3'.ownBlock = some w.heap.size) : Cur w0 w' B e1 e2 e3 v1 v2 v3' n1 n2 m3 VS xs2 ys3 P := by
  have hu := upd_grown hg
  refine ⟨h.two.upd hu (fun b hb => by have := (h.cur.lt b hb).1; have := h.two.base.1; omega) (fun b hb e => (h.d1 b e).1 hb) (fun b hb e => (h.d1 b e).2 hb), h.kept.upd hu (fun V hV b hb e => h.d2 V hV b hb e), ho, fun b hb => ?_, fun V hV b hb => ?_⟩
  · rcases hr with e | e
    · exact h.d1 b (e ▸ hb)
    · rw [e] at hb
      injection hb with hb
      exact ⟨fun e2 => by have := (h.two.p.lt b e2).2; omega, fun e2 => by have := (h.two.m.lt b e2).2; omega⟩
  · rcases hr with e | e
    · rw [e]; exact h.d2 V hV b hb
    · rw [e]
      intro e2
      injection e2 with e2
      have := (h.kept.2 V hV b hb).1
      omega
end
/-- an owned row joins the kept ones -/
theorem Kept.snoc {w : World} {VS : List Value} {P : List (List Nat)} {r1 r2 : Option Nat} {B : Nat} {e : TypeId} {A : Option Addr} {n c : Nat} {l : List Nat} (h : Kept w VS P r1 r2) (ho : w.ownsRow B e 1 (.slice A n c) n (bytesV l)) (hn : l.length = n)
    (hd : ∀ b, (Value.slice A n c).ownBlock = some b → r1 ≠ some b ∧ r2 ≠ some b) : Kept w (VS ++ [.slice A n c]) (P ++ [l]) r1 r2 := by
  refine ⟨h.1.snoc hn (by obtain ⟨B9, d9, e9, h9, -⟩ := own_form ho; injection e9 with e1 e2 e3; subst e1 e3; exact h9), fun V hV b hb => ?_⟩
  rcases List.mem_append.1 hV with h1 | h1
  · exact h.2 V h1 b hb
  · obtain rfl : V = .slice A n c := by simpa using h1
    exact ⟨(ho.lt b hb).2, hd b hb⟩
end Go.Proofs.Ytbnjapgmpjkooaa
