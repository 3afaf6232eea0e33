/- Pictures: lists of lists of integers in memory; what Check answers. -/
import Derived.Test.YtlepchdlkhogiaaCutAny
import Derived.Test.YtlepchdlkhogiaaSamples
namespace Go.Proofs.Ytlepchdlkhogiaa
set_option linter.unusedVariables false
set_option linter.unusedSimpArgs false
open Go.RowKit
/-- the slice holds these lists -/
def RowsS (w : World) (A : Option Addr) (n c : Nat) (L : List (List Int)) : Prop :=
  ∃ vs : List Value, SL w 1 (.slice A n c) n vs ∧ L.length = n ∧ ∀ (k : Nat) (l : List Int), L[k]? = some l → ∃ (B : Option Addr) (d : Nat), vs[k]? = some (Value.slice B l.length d) ∧ SL w 1 (.slice B l.length d) l.length (ints l)
theorem RowsS.ext {w w' : World} {A : Option Addr} {n c : Nat} {L : List (List Int)} (h : RowsS w A n c L) (hx : Ext w w') : RowsS w' A n c L := by
  obtain ⟨vs, h1, h2, h3⟩ := h
  refine ⟨vs, h1.ext hx, h2, fun k l hl => ?_⟩
  obtain ⟨B, d, e, hs⟩ := h3 k l hl
  exact ⟨B, d, e, hs.ext hx⟩
theorem RowsS.len {w : World} {A : Option Addr} {n c : Nat} {L : List (List Int)} (h : RowsS w A n c L) : L.length = n := h.choose_spec.2.1
theorem RowsS.cap {w : World} {A : Option Addr} {n c : Nat} {L : List (List Int)} (h : RowsS w A n c L) : n ≤ c ∧ c ≤ 9223372036854775807 := by
  obtain ⟨vs, ⟨A', c', e, h1, h2, -⟩, -⟩ := h
  injection e with e1 e2 e3
  subst e3
  exact ⟨h1, h2⟩
theorem RowsS.get {w : World} {A : Option Addr} {n c k : Nat} {L : List (List Int)} (h : RowsS w A n c L) (hk : k < n) :
    ∃ ad l B d, A = some ad ∧ L[k]? = some l ∧ ad.block < w.heap.size ∧ w.cell? (ad.add k) = some (.slice B l.length d) ∧ SL w 1 (.slice B l.length d) l.length (ints l) := by
  obtain ⟨vs, h1, h2, h3⟩ := h
  obtain ⟨ad, u, ha, hb, hu, hc⟩ := h1.at1 hk
  have hl : L[k]? = some (L[k]'(by omega)) := List.getElem?_eq_getElem (by omega)
  obtain ⟨B, d, e, hs⟩ := h3 k _ hl
  rw [e] at hu
  injection hu with hu
  subst hu
  exact ⟨ad, _, B, d, ha, hl, hb, hc, hs⟩
theorem RowsS.nil (w : World) : RowsS w none 0 0 [] := ⟨[], SL.nil w 1, rfl, by simp⟩
/-- the first error of a list of them -/
def firstE : List Int → Int
  | [] => 0
  | e :: r => if e = 0 then firstE r else e
theorem firstE_all : ∀ (l : List Int), (∀ e ∈ l, e = 0) → firstE l = 0
  | [], _ => rfl
  | e :: r, h => by
    have := h e (by simp)
    unfold firstE
    rw [if_pos this]
    exact firstE_all r (fun x hx => h x (by simp [hx]))
theorem firstE_at : ∀ (l : List Int) (k : Nat) (e : Int), (∀ x ∈ l.take k, x = 0) → l[k]? = some e → e ≠ 0 → firstE l = e
  | [], k, e, _, h, _ => by simp at h
  | x :: r, 0, e, _, h, h0 => by
    simp at h
    subst h
    unfold firstE
    rw [if_neg h0]
  | x :: r, k + 1, e, ht, h, h0 => by
    have hx : x = 0 := ht x (by simp)
    unfold firstE
    rw [if_pos hx]
    exact firstE_at r k e (fun y hy => ht y (by simp [hy])) (by simpa using h) h0
/-- the errno of Check -/
def picE (wd hi : Int) (L : List (List Int)) : Int := if sidesZ wd hi = 0 then (if L.length = 1 ∨ L.length = 3 then firstE (L.map fun l => cutE l wd hi) else 1) else 1
def picV (wd hi : Int) (v : Value) : Array Value := #[.int .i64 wd, .int .i64 hi, v]
theorem picV_size (wd hi : Int) (v : Value) : (picV wd hi v).size = 3 := rfl
theorem sizePic : (Try.prog.info? 40).map (·.size) = some 3 := by kernel_rfl
theorem pic_cells {w : World} {g : Nat} {T : TypeId} {wd hi : Int} {v : Value} (h : Blk w g T (picV wd hi v)) : w.cell? ⟨g, 0, none⟩ = some (.int .i64 wd) ∧ w.cell? ⟨g, 1, none⟩ = some (.int .i64 hi) ∧ w.cell? ⟨g, 2, none⟩ = some v := by
  rw [h.cell, h.cell, h.cell]
  exact ⟨rfl, rfl, rfl⟩
theorem take_all0 {L : List (List Int)} {f : List Int → Int} {k : Nat} {l : List Int} (h : ∀ x ∈ L.take k, f x = 0) (hl : L[k]? = some l) (h0 : f l = 0) : ∀ x ∈ L.take (k + 1), f x = 0 := by
  intro x hx
  rw [List.take_add_one, hl] at hx
  rcases List.mem_append.1 hx with h1 | h1
  · exact h x h1
  · simp at h1; subst h1; exact h0
theorem pic_first {L : List (List Int)} {f : List Int → Int} {k : Nat} {l : List Int} {e : Int} (h : ∀ x ∈ L.take k, f x = 0) (hl : L[k]? = some l) (he : f l = e) (h0 : e ≠ 0) : firstE (L.map f) = e :=
  firstE_at _ k _ (fun y hy => by
    rw [← List.map_take] at hy
    obtain ⟨x, hx, rfl⟩ := List.mem_map.1 hy
    exact h x hx) (by rw [List.getElem?_map, hl]; simp [he]) h0
end Go.Proofs.Ytlepchdlkhogiaa
