/- A world that is another one but for new blocks and some others. -/
import Derived.Test.YtbnjapgmpjkooaaAppend
namespace Go.Proofs.Ytbnjapgmpjkooaa
set_option linter.unusedVariables false
set_option linter.unusedSimpArgs false
open Go.RowKit
/-- w' is w but for new blocks and the blocks of S -/
structure Upd (S : Nat → Prop) (w w' : World) : Prop where
  os : w'.os = w.os
  tape : w'.tape = w.tape
  output : w'.output = w.output
  size : w.heap.size ≤ w'.heap.size
  block : ∀ b, b < w.heap.size → ¬ S b → w'.heap[b]? = w.heap[b]?
theorem Upd.refl (S : Nat → Prop) (w : World) : Upd S w w := ⟨rfl, rfl, rfl, Nat.le_refl _, fun _ _ _ => rfl⟩
theorem Upd.trans {S S' : Nat → Prop} {a b c : World} (h : Upd S a b) (k : Upd S' b c) (hS : ∀ x, S' x → S x ∨ a.heap.size ≤ x) : Upd S a c :=
  ⟨k.os.trans h.os, k.tape.trans h.tape, k.output.trans h.output, Nat.le_trans h.size k.size, fun x hx hn => by
    have h1 := h.size
    rw [k.block x (by omega) (fun h2 => (hS x h2).elim hn (by omega)), h.block x hx hn]⟩
theorem Upd.of_ext {S : Nat → Prop} {a b : World} (h : Ext a b) : Upd S a b := ⟨h.os, h.tape, h.output, h.size, fun x hx _ => h.block x hx⟩
theorem Upd.below {S : Nat → Prop} {a b : World} {B : Nat} (h : Upd S a b) (hS : ∀ x, S x → B ≤ x) (hB : B ≤ a.heap.size) : Below B a b :=
  ⟨h.os, h.tape, h.output, h.size, fun x hx => h.block x (by omega) (fun h2 => by have := hS x h2; omega)⟩
theorem Upd.setCell {S : Nat → Prop} {a b : World} (h : Upd S a b) {p : Addr} (hp : S p.block) (u : Value) : Upd S a (b.setCell p u) :=
  ⟨h.os, h.tape, h.output, by simpa [World.setCell] using h.size, fun x hx hn => (Below.heap_setCell b p u x (fun e => hn (e ▸ hp))).trans (h.block x hx hn)⟩
theorem Upd.drew {S : Nat → Prop} {a b : World} (h : Upd S a b) : Upd S a b.drew := ⟨h.os, h.tape, h.output, h.size, h.block⟩
theorem Upd.grown {S : Nat → Prop} {a w w' : World} (h : Upd S a w) {row : Option Nat} (hg : w.grownBy w' row) (hr : ∀ b, row = some b → S b ∨ a.heap.size ≤ b) : Upd S a w' :=
  ⟨hg.os.trans h.os, hg.tape.trans h.tape, hg.output.trans h.output, Nat.le_trans h.size hg.size, fun x hx hn => by
    have h1 := h.size
    rw [hg.block x (by omega) (fun h2 => (hr x h2.symm).elim hn (by omega)), h.block x hx hn]⟩
theorem SL.upd {S : Nat → Prop} {w w' : World} {size n c : Nat} {A : Option Addr} {xs : List Value} (h : SL w size (.slice A n c) n xs) (hu : Upd S w w') (hS : ∀ ad, A = some ad → ¬ S ad.block) : SL w' size (.slice A n c) n xs := by
  obtain ⟨A', c', e, h1, h1', h2, h3⟩ := h
  injection e with e1 e2 e3
  subst e1 e3
  refine ⟨A, c, rfl, h1, h1', h2, fun hn => ?_⟩
  obtain ⟨ad, ea, hlt, hc⟩ := h3 hn
  refine ⟨ad, ea, Nat.lt_of_lt_of_le hlt hu.size, fun j u hj => ?_⟩
  rw [← hc j u hj]
  unfold World.cell?
  rw [block_of_add, hu.block _ hlt (hS ad ea)]
theorem Upd.blk {S : Nat → Prop} {w w' : World} {g : Nat} {T : TypeId} {cs : Array Value} (hu : Upd S w w') (h : Blk w g T cs) (hS : ¬ S g) : Blk w' g T cs := (hu.block g h.lt hS).trans h
theorem Upd.ext {S : Nat → Prop} {a w w' : World} (hu : Upd S w w') (h : Ext a w) (hS : ∀ x, S x → a.heap.size ≤ x) : Ext a w' :=
  ⟨hu.os.trans h.os, hu.tape.trans h.tape, hu.output.trans h.output, Nat.le_trans h.size hu.size, fun x hx => by
    have := h.size
    rw [hu.block x (by omega) (fun h2 => by have := hS x h2; omega), h.block x hx]⟩
theorem SL.below {w w' : World} {size n B : Nat} {v : Value} {xs : List Value} (h : SL w size v n xs) (hb : Below B w w') (hB : w.heap.size ≤ B) : SL w' size v n xs := by
  obtain ⟨A, c, rfl, h1, h1', h2, h3⟩ := h
  refine ⟨A, c, rfl, h1, h1', h2, fun hn => ?_⟩
  obtain ⟨ad, e, hlt, hc⟩ := h3 hn
  exact ⟨ad, e, Nat.lt_of_lt_of_le hlt hb.size, fun j u hu => (hb.cell (by rw [block_of_add]; omega)).trans (hc j u hu)⟩
end Go.Proofs.Ytbnjapgmpjkooaa
