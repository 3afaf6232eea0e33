/- Slices that are owned, out of words. -/
import Derived.Test.YtbnjapgmpjkooaaAppend
namespace Go.Proofs.Ytbnjapgmpjkooaa
set_option linter.unusedVariables false
set_option linter.unusedSimpArgs false
open Go.RowKit
/-- an owned row, its value written out -/
def OwnV (w : World) (base : Nat) (e : TypeId) (size : Nat) (v : Value) (n : Nat) (xs : List Value) : Prop := ∃ A c, v = .slice A n c ∧ w.ownsRow base e size (.slice A n c) n xs
theorem OwnV.mk {w : World} {base : Nat} {e : TypeId} {size n : Nat} {v : Value} {xs : List Value} (h : w.ownsRow base e size v n xs) : OwnV w base e size v n xs := by
  obtain ⟨A, c, rfl, -, -⟩ := own_form h
  exact ⟨A, c, rfl, h⟩
theorem OwnV.nil (w : World) (base : Nat) (e : TypeId) (size : Nat) : OwnV w base e size (.slice none 0 0) 0 [] := ⟨none, 0, rfl, World.ownsRow_nil _ _ _ _⟩
theorem own_out {w : World} {base : Nat} {e : TypeId} {size n c : Nat} {A : Option Addr} {xs : List Value} (h : w.ownsRow base e size (.slice A n c) n xs) : SL w size (.slice A n c) n xs ∧ ∀ ad, A = some ad → base ≤ ad.block := by
  obtain ⟨B, d, e1, h1, h2⟩ := own_form h
  injection e1 with e1 e2 e3
  subst e1 e3
  exact ⟨h1, h2⟩
theorem own_ext0 {w w' : World} {base : Nat} {e : TypeId} {size n : Nat} {v : Value} {xs : List Value} (h : w.ownsRow base e size v n xs) (hb : Ext w w') : w'.ownsRow base e size v n xs := by
  obtain ⟨hl, hh⟩ := h
  refine ⟨hl, ?_⟩
  rcases hh with ⟨rfl, rfl⟩ | ⟨g, cap, cur, rfl, h1, hg, h2⟩
  · exact .inl ⟨rfl, rfl⟩
  · exact .inr ⟨g, cap, cur, rfl, h1, (hb.block g (Blk.lt (w := w) (t := e) (cs := cur) hg)).trans hg, h2⟩
end Go.Proofs.Ytbnjapgmpjkooaa
