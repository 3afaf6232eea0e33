/- What a coder holds, in plain words. -/
import Derived.WideKeyPair
import Derived.Test.YtdldkmplgfhnkaaMaps
import Derived.Test.YtdldkmplgfhnkaaWords
import Derived.Test.YtdldkmplgfhnkaaWriter
namespace Go.Proofs.Ytdldkmplgfhnkaa
set_option linter.unusedVariables false
set_option linter.unusedSimpArgs false
open Go.RowKit Go.Maps Go.WideMaps
def symF (T : List Tok) (s : Int) : Option Value := (T.find? (fun t => t.1 == s)).map (fun t => Value.agg #[.int .i64 t.1, .int .i64 t.2.1, .int .i64 t.2.2])
def codeF (T : List Tok) (p : Int × Int) : Option Value := (T.find? (fun t => t.2.1 == p.1 && t.2.2 == p.2)).map (fun t => Value.int .i64 t.1)
theorem symF_snoc_same (T : List Tok) (t : Tok) (h : ∀ u ∈ T, u.1 ≠ t.1) : symF (T ++ [t]) t.1 = some (.agg #[.int .i64 t.1, .int .i64 t.2.1, .int .i64 t.2.2]) := by
  have h1 : T.find? (fun u => u.1 == t.1) = none := by
    rw [List.find?_eq_none]
    intro u hu
    simpa using h u hu
  unfold symF
  rw [List.find?_append, h1]
  simp
theorem symF_snoc_other (T : List Tok) (t : Tok) (s : Int) (h : s ≠ t.1) : symF (T ++ [t]) s = symF T s := by
  have h1 : [t].find? (fun u => u.1 == s) = none := by
    rw [List.find?_eq_none]
    intro u hu
    have : u = t := by simpa using hu
    subst this
    simpa using fun h2 => h h2.symm
  unfold symF
  rw [List.find?_append, h1, Option.or_none]
theorem codeF_snoc_same (T : List Tok) (t : Tok) (h : ∀ u ∈ T, u.2 ≠ t.2) : codeF (T ++ [t]) (t.2.1, t.2.2) = some (.int .i64 t.1) := by
  have h1 : T.find? (fun u => u.2.1 == t.2.1 && u.2.2 == t.2.2) = none := by
    rw [List.find?_eq_none]
    intro u hu
    have := h u hu
    simp only [Bool.and_eq_true, beq_iff_eq]
    exact fun h2 => this (Prod.ext h2.1 h2.2)
  unfold codeF
  rw [List.find?_append, h1]
  simp
theorem codeF_snoc_other (T : List Tok) (t : Tok) (p : Int × Int) (h : p ≠ t.2) : codeF (T ++ [t]) p = codeF T p := by
  have h1 : [t].find? (fun u => u.2.1 == p.1 && u.2.2 == p.2) = none := by
    rw [List.find?_eq_none]
    intro u hu
    have : u = t := by simpa using hu
    subst this
    simp only [Bool.and_eq_true, beq_iff_eq]
    exact fun h2 => h (Prod.ext h2.1.symm h2.2.symm)
  unfold codeF
  rw [List.find?_append, h1, Option.or_none]
theorem arrKey2 : ArrKey Try.prog 101 3 2 := ⟨Try.underlying101, by kernel_rfl, by kernel_rfl, by kernel_rfl⟩
theorem typesPos : ∃ m, Try.prog.types.size = m + 1 := ⟨Try.prog.types.size - 1, by have : 0 < Try.prog.types.size := of_decide_eq_true (by kernel_rfl); omega⟩
theorem keyed_pair : Keyed Try.prog 101 := Keyed.of_law (ArrKey.law arrKey2)
def klP (p : Int × Int) : Lit := .string (keyBytes [.int .i64 p.1, .int .i64 p.2])
def okP (p : Int × Int) : Prop := (-9223372036854775808 ≤ p.1 ∧ p.1 ≤ 9223372036854775807) ∧ (-9223372036854775808 ≤ p.2 ∧ p.2 ≤ 9223372036854775807)
theorem keyOf_P (p : Int × Int) (h : okP p) : keyOf Try.prog 101 (.agg #[.int .i64 p.1, .int .i64 p.2]) = some (klP p) :=
  keyOf_pair arrKey2 Try.underlying3 typesPos (WalkArith.wf_i64 h.1) (WalkArith.wf_i64 h.2)
theorem klP_inj {p q : Int × Int} (hp : okP p) (hq : okP q) (h : klP p = klP q) : p = q := by
  have h1 := keyOf_P p hp
  have h2 := keyOf_P q hq
  rw [← h] at h2
  have := keyed_pair.inj h1 h2
  simp at this
  exact Prod.ext this.1 this.2
abbrev MapP (w : World) (b n : Nat) (g : Int × Int → Option Value) : Prop := MapG Try.prog 101 klP okP w b n g
/-- a coder that knows the words T -/
def CoderS (w : World) (gc : Nat) (T : List Tok) : Prop :=
  ∃ m1 m2 n, Blk w gc 100 #[.map (some m1), .map (some m2)] ∧ MapI Try.prog 3 w m1 n (symF T) ∧ MapP w m2 n (codeF T)
theorem CoderS.ext {w w' : World} {gc : Nat} {T : List Tok} (h : CoderS w gc T) (hx : Ext w w') : CoderS w' gc T := by
  obtain ⟨m1, m2, n, a, b, c⟩ := h
  exact ⟨m1, m2, n, a.ext hx, b.ext hx, c.ext hx⟩
theorem CoderS.below {B : Nat} {w w' : World} {gc : Nat} {T : List Tok} (h : CoderS w gc T) (hB : w.heap.size ≤ B) (hx : Below B w w') : CoderS w' gc T := by
  obtain ⟨m1, m2, n, a, b, c⟩ := h
  exact ⟨m1, m2, n, a.below hx (Nat.lt_of_lt_of_le a.lt hB), b.below hx (Nat.lt_of_lt_of_le b.lt hB), c.below hx (Nat.lt_of_lt_of_le c.lt hB)⟩
theorem SL.upd {S : Nat → Prop} {w w' : World} {size n c : Nat} {A : Option Addr} {xs : List Value} (h : SL w size (.slice A n c) n xs) (hu : Upd S w w') (hS : ∀ ad, A = some ad → ¬ S ad.block) : SL w' size (.slice A n c) n xs := by
  obtain ⟨A', c', e, h1, h1', h2, h3⟩ := h
  injection e with e1 e2 e3
  subst e1 e3
  refine ⟨A, c, rfl, h1, h1', h2, fun hn => ?_⟩
  obtain ⟨ad, ea, hlt, hc⟩ := h3 hn
  refine ⟨ad, ea, Nat.lt_of_lt_of_le hlt hu.size, fun j u hj => ?_⟩
  rw [← hc j u hj]
  unfold World.cell?
  rw [block_of_add, hu.block _ hlt (hS ad ea)]
theorem Upd.blk {S : Nat → Prop} {w w' : World} {g : Nat} {T : TypeId} {cs : Array Value} (hu : Upd S w w') (h : Blk w g T cs) (hS : ¬ S g) : Blk w' g T cs := (hu.block g h.lt hS).trans h
theorem Upd.ext {S : Nat → Prop} {a w w' : World} (hu : Upd S w w') (h : Ext a w) (hS : ∀ x, S x → a.heap.size ≤ x) : Ext a w' :=
  ⟨hu.os.trans h.os, hu.tape.trans h.tape, hu.output.trans h.output, Nat.le_trans h.size hu.size, fun x hx => by
    have := h.size
    rw [hu.block x (by omega) (fun h2 => by have := hS x h2; omega), h.block x hx]⟩
/-- words differ -/
theorem codesW_nodup (cs : List Int) : ∀ k, (codesW cs k).Nodup ∧ ∀ p ∈ codesW cs k, p.1 ≤ k := by
  intro k
  induction k with
  | zero => rw [codesW_zero]; simp
  | succ k ih =>
    rw [show codesW cs (k + 1) = codesW cs k ++ rowC cs k (cs.getD k 0).toNat from codesW_succ cs k]
    have hrow : ∀ n, (rowC cs k n).Nodup := by
      intro n
      unfold rowC
      refine List.Pairwise.map _ ?_ List.nodup_range
      intro a b hab h
      have := (Prod.mk.inj h).2
      omega
    refine ⟨List.nodup_append.2 ⟨ih.1, hrow _, ?_⟩, ?_⟩
    · intro p hp q hq
      have h1 := ih.2 p hp
      simp only [rowC, List.mem_map, List.mem_range] at hq
      obtain ⟨i, _, rfl⟩ := hq
      rintro rfl
      simp at h1
      omega
    · intro p hp
      rcases List.mem_append.1 hp with h | h
      · have := ih.2 p h; omega
      · simp only [rowC, List.mem_map, List.mem_range] at h
        obtain ⟨i, _, rfl⟩ := h
        simp
theorem zipC_at (C : List (Nat × Nat)) (xs : List Int) (k : Nat) (h1 : k < C.length) (h2 : k < xs.length) (h : k < (zipC C xs).length) : (zipC C xs)[k] = (xs[k], ((C[k]).1 : Int), ((C[k]).2 : Int)) := by
  simp [zipC]
theorem take_mem {α : Type} {l : List α} {k : Nat} {x : α} (h : x ∈ l.take k) : ∃ j, ∃ hj : j < l.length, j < k ∧ x = l[j] := by
  obtain ⟨j, hj, rfl⟩ := List.mem_iff_getElem.1 h
  simp at hj
  exact ⟨j, by omega, by omega, by simp⟩
theorem nodup_at {α : Type} {l : List α} (h : l.Nodup) {i j : Nat} (hi : i < l.length) (hj : j < l.length) (hij : i ≠ j) : l[i] ≠ l[j] := fun e => hij ((List.getElem_inj h).1 e)
theorem zipC_apart (cs xs : List Int) (hxs : xs.Nodup) (hl : (codesW cs 16).length = xs.length) (k : Nat) (hk : k < (zipC (codesW cs 16) xs).length) :
    (∀ u ∈ (zipC (codesW cs 16) xs).take k, u.1 ≠ ((zipC (codesW cs 16) xs)[k]).1) ∧ (∀ u ∈ (zipC (codesW cs 16) xs).take k, u.2 ≠ ((zipC (codesW cs 16) xs)[k]).2) := by
  have hz : (zipC (codesW cs 16) xs).length = xs.length := by rw [zipC_len _ _ (by omega), hl]
  have hn := (codesW_nodup cs 16).1
  generalize codesW cs 16 = C at *
  constructor
  · intro u hu
    obtain ⟨j, hj, hjk, rfl⟩ := take_mem hu
    rw [zipC_at C xs j (by omega) (by omega), zipC_at C xs k (by omega) (by omega)]
    exact nodup_at hxs _ _ (by omega)
  · intro u hu
    obtain ⟨j, hj, hjk, rfl⟩ := take_mem hu
    rw [zipC_at C xs j (by omega) (by omega), zipC_at C xs k (by omega) (by omega)]
    intro h
    have h1 := (Prod.mk.inj h).1
    have h2 := (Prod.mk.inj h).2
    exact nodup_at hn (i := j) (j := k) (by omega) (by omega) (by omega) (Prod.ext (by omega) (by omega))
theorem toks_take_succ (Z : List Tok) (k : Nat) (h : k < Z.length) : Z.take (k + 1) = Z.take k ++ [Z[k]] := List.take_succ_eq_append_getElem h
end Go.Proofs.Ytdldkmplgfhnkaa
