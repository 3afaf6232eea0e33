/- Contracts for the law TableDecodesUpto, part 7: what the functions that it reaches answer, for all arguments that the theorems name. -/
import Derived.Test.YtbnjapgmpjkooaaMTableDecodesUpto5
import Derived.WideKeyPair
import Derived.Test.YtbnjapgmpjkooaaMTableDecodesUpto4
import Derived.Test.YtbnjapgmpjkooaaMTableDecodesUpto6
/- The word of a symbol, in plain words. -/
namespace Go.Proofs.Ytbnjapgmpjkooaa
set_option linter.unusedVariables false
set_option linter.unusedSimpArgs false
open Go.RowKit
theorem outW_at (cs : List Int) (k : Nat) (h : k < (codesW cs 16).length) : (strs (outW cs 16))[k]? = some (.string (strB (digs (codesW cs 16)[k].2 (codesW cs 16)[k].1))) := by
  unfold strs
  rw [outW_codes]
  simp [h, binS_strB]
theorem outW_len (cs : List Int) : (outW cs 16).length = (codesW cs 16).length := by rw [outW_codes]; simp
theorem zipC_at (C : List (Nat × Nat)) (xs : List Int) (k : Nat) (h1 : k < C.length) (h2 : k < xs.length) (h : k < (zipC C xs).length) : (zipC C xs)[k] = (xs[k], ((C[k]).1 : Int), ((C[k]).2 : Int)) := by
  simp [zipC]
def findT (T : List Tok) (s : Int) : Option Tok := T.find? (fun t => t.1 == s)
/-- the digits of a symbol's word -/
def bitsT (T : List Tok) (s : Int) : List Bool := match findT T s with | some t => digs t.2.2.toNat t.2.1.toNat | none => []
/-- the words of a table fit -/
def FitT (T : List Tok) : Prop := ∀ s t, findT T s = some t → ∃ long code : Nat, t = (s, (long : Int), (code : Int)) ∧ 1 ≤ long ∧ long ≤ 16 ∧ code < 2 ^ long
theorem fitT_of (cs xs : List Int) (hl : cs.length = 16) (h : checkZ cs xs = 0) : FitT (zipC (codesW cs 16) xs) := by
  obtain ⟨q1, q2, q3, q4, q5, q6⟩ := checkZ_zero h
  have hfit := codesW_fit cs q4 hl 16 (by omega)
  intro s t ht
  have hm := List.mem_of_find?_eq_some ht
  have hs := List.find?_some ht
  simp only [beq_iff_eq] at hs
  unfold zipC at hm
  obtain ⟨i, hi, rfl⟩ := List.mem_iff_getElem.1 hm
  simp only [List.getElem_zipWith] at hs ⊢
  simp only [List.length_zipWith] at hi
  obtain ⟨f1, f2, f3⟩ := hfit _ (List.getElem_mem (show i < (codesW cs 16).length by omega))
  exact ⟨_, _, by rw [hs], f1, f2, by omega⟩
theorem bitsT_some {T : List Tok} {s : Int} {long code : Nat} (h : findT T s = some (s, (long : Int), (code : Int))) : bitsT T s = digs code long := by
  unfold bitsT; rw [h]; simp
theorem bitsT_len {T : List Tok} (hf : FitT T) (s : Int) : (bitsT T s).length ≤ 16 := by
  unfold bitsT
  cases h : findT T s with
  | none => simp
  | some t =>
    obtain ⟨long, code, rfl, h1, h2, h3⟩ := hf s t h
    simp [digs_len]
    omega
theorem zipC_syms (C : List (Nat × Nat)) (xs : List Int) (h : C.length = xs.length) : (zipC C xs).map (·.1) = xs := by
  induction C generalizing xs with
  | nil => cases xs with | nil => rfl | cons _ _ => simp at h
  | cons c C ih =>
    cases xs with
    | nil => simp at h
    | cons x xs =>
      have h' : C.length = xs.length := by simpa using h
      have := ih xs h'
      simp only [zipC, List.zipWith_cons_cons, List.map_cons] at this ⊢
      rw [this]
theorem findT_none {Z : List Tok} {s : Int} (h : s ∉ Z.map (·.1)) : findT Z s = none := by
  unfold findT
  rw [List.find?_eq_none]
  intro u hu
  simp only [beq_iff_eq]
  rintro rfl
  exact h (List.mem_map.2 ⟨u, hu, rfl⟩)
theorem findT_at {Z : List Tok} {s : Int} {k : Nat} (hk : k < Z.length) (h : s ∉ (Z.map (·.1)).take k) (h2 : (Z[k]).1 = s) : findT Z s = some Z[k] := by
  unfold findT
  rw [List.find?_eq_some_iff_getElem]
  refine ⟨by simpa using h2, k, hk, rfl, fun j hj => ?_⟩
  simp only [Bool.not_eq_true', beq_eq_false_iff_ne]
  intro h3
  apply h
  rw [← h3, List.mem_take_iff_getElem]
  exact ⟨j, by simp; omega, by simp⟩
end Go.Proofs.Ytbnjapgmpjkooaa
/- What a coder holds, in plain words. -/
namespace Go.Proofs.Ytbnjapgmpjkooaa
set_option linter.unusedVariables false
set_option linter.unusedSimpArgs false
open Go.RowKit Go.Maps Go.WideMaps
def symF (T : List Tok) (s : Int) : Option Value := (T.find? (fun t => t.1 == s)).map (fun t => Value.agg #[.int .i64 t.1, .int .i64 t.2.1, .int .i64 t.2.2])
def codeF (T : List Tok) (p : Int × Int) : Option Value := (T.find? (fun t => t.2.1 == p.1 && t.2.2 == p.2)).map (fun t => Value.int .i64 t.1)
theorem symF_snoc_same (T : List Tok) (t : Tok) (h : ∀ u ∈ T, u.1 ≠ t.1) : symF (T ++ [t]) t.1 = some (.agg #[.int .i64 t.1, .int .i64 t.2.1, .int .i64 t.2.2]) := by
  have h1 : T.find? (fun u => u.1 == t.1) = none := by
    rw [List.find?_eq_none]
    intro u hu
    simpa using h u hu
  unfold symF
  rw [List.find?_append, h1]
  simp
theorem symF_snoc_other (T : List Tok) (t : Tok) (s : Int) (h : s ≠ t.1) : symF (T ++ [t]) s = symF T s := by
  have h1 : [t].find? (fun u => u.1 == s) = none := by
    rw [List.find?_eq_none]
    intro u hu
    have : u = t := by simpa using hu
    subst this
    simpa using fun h2 => h h2.symm
  unfold symF
  rw [List.find?_append, h1, Option.or_none]
theorem codeF_snoc_same (T : List Tok) (t : Tok) (h : ∀ u ∈ T, u.2 ≠ t.2) : codeF (T ++ [t]) (t.2.1, t.2.2) = some (.int .i64 t.1) := by
  have h1 : T.find? (fun u => u.2.1 == t.2.1 && u.2.2 == t.2.2) = none := by
    rw [List.find?_eq_none]
    intro u hu
    have := h u hu
    simp only [Bool.and_eq_true, beq_iff_eq]
    exact fun h2 => this (Prod.ext h2.1 h2.2)
  unfold codeF
  rw [List.find?_append, h1]
  simp
theorem codeF_snoc_other (T : List Tok) (t : Tok) (p : Int × Int) (h : p ≠ t.2) : codeF (T ++ [t]) p = codeF T p := by
  have h1 : [t].find? (fun u => u.2.1 == p.1 && u.2.2 == p.2) = none := by
    rw [List.find?_eq_none]
    intro u hu
    have : u = t := by simpa using hu
    subst this
    simp only [Bool.and_eq_true, beq_iff_eq]
    exact fun h2 => h (Prod.ext h2.1.symm h2.2.symm)
  unfold codeF
  rw [List.find?_append, h1, Option.or_none]
theorem arrKey2 : ArrKey Try.prog 116 3 2 := ⟨Try.underlying116, by kernel_rfl, by kernel_rfl, by kernel_rfl⟩
theorem typesPos : ∃ m, Try.prog.types.size = m + 1 := ⟨Try.prog.types.size - 1, by have : 0 < Try.prog.types.size := of_decide_eq_true (by kernel_rfl); omega⟩
theorem keyed_pair : Keyed Try.prog 116 := Keyed.of_law (ArrKey.law arrKey2)
def klP (p : Int × Int) : Lit := .string (keyBytes [.int .i64 p.1, .int .i64 p.2])
def okP (p : Int × Int) : Prop := (-9223372036854775808 ≤ p.1 ∧ p.1 ≤ 9223372036854775807) ∧ (-9223372036854775808 ≤ p.2 ∧ p.2 ≤ 9223372036854775807)
theorem keyOf_P (p : Int × Int) (h : okP p) : keyOf Try.prog 116 (.agg #[.int .i64 p.1, .int .i64 p.2]) = some (klP p) :=
  keyOf_pair arrKey2 Try.underlying3 typesPos (WalkArith.wf_i64 h.1) (WalkArith.wf_i64 h.2)
theorem klP_inj {p q : Int × Int} (hp : okP p) (hq : okP q) (h : klP p = klP q) : p = q := by
  have h1 := keyOf_P p hp
  have h2 := keyOf_P q hq
  rw [← h] at h2
  have := keyed_pair.inj h1 h2
  simp at this
  exact Prod.ext this.1 this.2
abbrev MapP (w : World) (b n : Nat) (g : Int × Int → Option Value) : Prop := MapG Try.prog 116 klP okP w b n g
/-- a coder that knows the words T -/
def CoderS (w : World) (gc : Nat) (T : List Tok) : Prop :=
  ∃ m1 m2 n, Blk w gc 111 #[.map (some m1), .map (some m2)] ∧ MapI Try.prog 3 w m1 n (symF T) ∧ MapP w m2 n (codeF T)
theorem CoderS.ext {w w' : World} {gc : Nat} {T : List Tok} (h : CoderS w gc T) (hx : Ext w w') : CoderS w' gc T := by
  obtain ⟨m1, m2, n, a, b, c⟩ := h
  exact ⟨m1, m2, n, a.ext hx, b.ext hx, c.ext hx⟩
theorem CoderS.below {B : Nat} {w w' : World} {gc : Nat} {T : List Tok} (h : CoderS w gc T) (hB : w.heap.size ≤ B) (hx : Below B w w') : CoderS w' gc T := by
  obtain ⟨m1, m2, n, a, b, c⟩ := h
  exact ⟨m1, m2, n, a.below hx (Nat.lt_of_lt_of_le a.lt hB), b.below hx (Nat.lt_of_lt_of_le b.lt hB), c.below hx (Nat.lt_of_lt_of_le c.lt hB)⟩
/-- words differ -/
theorem codesW_nodup (cs : List Int) : ∀ k, (codesW cs k).Nodup ∧ ∀ p ∈ codesW cs k, p.1 ≤ k := by
  intro k
  induction k with
  | zero => rw [codesW_zero]; simp
  | succ k ih =>
    rw [show codesW cs (k + 1) = codesW cs k ++ rowC cs k (cs.getD k 0).toNat from codesW_succ cs k]
    have hrow : ∀ n, (rowC cs k n).Nodup := by
      intro n
      unfold rowC
      refine List.Pairwise.map _ ?_ List.nodup_range
      intro a b hab h
      have := (Prod.mk.inj h).2
      omega
    refine ⟨List.nodup_append.2 ⟨ih.1, hrow _, ?_⟩, ?_⟩
    · intro p hp q hq
      have h1 := ih.2 p hp
      simp only [rowC, List.mem_map, List.mem_range] at hq
      obtain ⟨i, _, rfl⟩ := hq
      rintro rfl
      simp at h1
      omega
    · intro p hp
      rcases List.mem_append.1 hp with h | h
      · have := ih.2 p h; omega
      · simp only [rowC, List.mem_map, List.mem_range] at h
        obtain ⟨i, _, rfl⟩ := h
        simp
theorem take_mem {α : Type} {l : List α} {k : Nat} {x : α} (h : x ∈ l.take k) : ∃ j, ∃ hj : j < l.length, j < k ∧ x = l[j] := by
  obtain ⟨j, hj, rfl⟩ := List.mem_iff_getElem.1 h
  simp at hj
  exact ⟨j, by omega, by omega, by simp⟩
theorem nodup_at {α : Type} {l : List α} (h : l.Nodup) {i j : Nat} (hi : i < l.length) (hj : j < l.length) (hij : i ≠ j) : l[i] ≠ l[j] := fun e => hij ((List.getElem_inj h).1 e)
theorem zipC_apart (cs xs : List Int) (hxs : xs.Nodup) (hl : (codesW cs 16).length = xs.length) (k : Nat) (hk : k < (zipC (codesW cs 16) xs).length) :
    (∀ u ∈ (zipC (codesW cs 16) xs).take k, u.1 ≠ ((zipC (codesW cs 16) xs)[k]).1) ∧ (∀ u ∈ (zipC (codesW cs 16) xs).take k, u.2 ≠ ((zipC (codesW cs 16) xs)[k]).2) := by
  have hz : (zipC (codesW cs 16) xs).length = xs.length := by rw [zipC_len _ _ (by omega), hl]
  have hn := (codesW_nodup cs 16).1
  generalize codesW cs 16 = C at *
  constructor
  · intro u hu
    obtain ⟨j, hj, hjk, rfl⟩ := take_mem hu
    rw [zipC_at C xs j (by omega) (by omega), zipC_at C xs k (by omega) (by omega)]
    exact nodup_at hxs _ _ (by omega)
  · intro u hu
    obtain ⟨j, hj, hjk, rfl⟩ := take_mem hu
    rw [zipC_at C xs j (by omega) (by omega), zipC_at C xs k (by omega) (by omega)]
    intro h
    have h1 := (Prod.mk.inj h).1
    have h2 := (Prod.mk.inj h).2
    exact nodup_at hn (i := j) (j := k) (by omega) (by omega) (by omega) (Prod.ext (by omega) (by omega))
theorem toks_take_succ (Z : List Tok) (k : Nat) (h : k < Z.length) : Z.take (k + 1) = Z.take k ++ [Z[k]] := List.take_succ_eq_append_getElem h
end Go.Proofs.Ytbnjapgmpjkooaa
/- Decoding with a table: plain. -/
namespace Go.Proofs.Ytbnjapgmpjkooaa
set_option linter.unusedVariables false
set_option linter.unusedSimpArgs false
open Go.RowKit
def wordIn (D : List Bool) (p : Nat) (t : Tok) : Bool := decide (p + t.2.1.toNat ≤ D.length) && ((numB ((D.drop p).take t.2.1.toNat) : Int) == t.2.2)
def hasCode (long code : Int) (t : Tok) : Bool := t.2.1 == long && t.2.2 == code
def getGo (T : List Tok) (D : List Bool) (p : Nat) : Nat → Nat → Int × Nat × Int
  | 0, _ => (0, p, 4)
  | f + 1, long => if p + long ≤ D.length then (match T.find? (hasCode (long : Int) (numB ((D.drop p).take long) : Nat)) with | some t => (t.1, p + long, 0) | none => getGo T D p f (long + 1)) else (0, p, 3)
def symZ (T : List Tok) (D : List Bool) (p : Nat) : Int × Nat × Int :=
  match T.find? (wordIn D p) with | some t => (t.1, p + t.2.1.toNat, 0) | none => (0, p, if D.length < p + 16 then 3 else 4)
theorem symZ_some {T : List Tok} {D : List Bool} {p : Nat} {t : Tok} (h : T.find? (wordIn D p) = some t) : symZ T D p = (t.1, p + t.2.1.toNat, 0) := by unfold symZ; rw [h]
theorem symZ_none {T : List Tok} {D : List Bool} {p : Nat} (h : T.find? (wordIn D p) = none) : symZ T D p = (0, p, if D.length < p + 16 then 3 else 4) := by unfold symZ; rw [h]
theorem getGo_sym (T : List Tok) (D : List Bool) (p : Nat) (hs : T.Pairwise fun a b => a.2.1 ≤ b.2.1) (hfit : ∀ t ∈ T, ∃ l c : Nat, t.2 = ((l : Int), (c : Int)) ∧ 1 ≤ l ∧ l ≤ 16) :
    ∀ (f long : Nat), f + long = 17 → 1 ≤ long → p + long ≤ D.length + 1 → (∀ t ∈ T, t.2.1 < (long : Int) → wordIn D p t = false) → getGo T D p f long = symZ T D p
  | 0, long, h1, _, hp0, hno => by
    have hn : T.find? (wordIn D p) = none := by
      rw [List.find?_eq_none]
      intro t ht
      obtain ⟨l, c, e, h2, h3⟩ := hfit t ht
      have := hno t ht (by rw [e]; simp; omega)
      simp [this]
    rw [symZ_none hn, getGo, if_neg (by omega)]
  | f + 1, long, h1, h2, hp0, hno => by
    unfold getGo
    split
    · next hle =>
      split
      · next t ht =>
        obtain ⟨hp, l1, l2, rfl, has⟩ := List.find?_eq_some_iff_append.1 ht
        simp only [hasCode, Bool.and_eq_true, beq_iff_eq] at hp
        have hw : wordIn D p t = true := by simp [wordIn, hp.1, hp.2, hle]
        have hfind : (l1 ++ t :: l2).find? (wordIn D p) = some t := by
          rw [List.find?_eq_some_iff_append]
          refine ⟨hw, l1, l2, rfl, fun a ha => ?_⟩
          by_cases hwa : wordIn D p a = true
          · have hq := has a ha
            have h3 : a.2.1 ≤ t.2.1 := (List.pairwise_append.1 hs).2.2 a ha t (by simp)
            have h4 : ¬ a.2.1 < (long : Int) := fun h => by rw [hno a (by simp [ha]) h] at hwa; cases hwa
            have h5 : a.2.1 = (long : Int) := by omega
            simp only [wordIn, h5, Int.toNat_natCast, Bool.and_eq_true, decide_eq_true_eq, beq_iff_eq] at hwa
            simp [hasCode, h5, hwa.2] at hq
          · simpa using hwa
        rw [symZ_some hfind, hp.1]
        simp
      · next hn =>
        refine getGo_sym T D p hs hfit f (long + 1) (by omega) (by omega) (by omega) fun t ht hl => ?_
        by_cases h3 : t.2.1 < (long : Int)
        · exact hno t ht h3
        · have h4 : t.2.1 = (long : Int) := by omega
          have h5 := List.find?_eq_none.1 hn t ht
          rw [← Bool.not_eq_true]
          intro hw
          simp only [wordIn, h4, Int.toNat_natCast, Bool.and_eq_true, decide_eq_true_eq, beq_iff_eq] at hw
          simp [hasCode, h4, hw.2] at h5
    · next hle =>
      have hn : T.find? (wordIn D p) = none := by
        rw [List.find?_eq_none]
        intro t ht
        by_cases h3 : t.2.1 < (long : Int)
        · simp [hno t ht h3]
        · simp [wordIn]
          intro h4
          omega
      rw [symZ_none hn, if_pos (by omega)]
theorem getGo_out {T : List Tok} {D : List Bool} {p f long : Nat} (h : ¬ p + long ≤ D.length) : getGo T D p (f + 1) long = (0, p, 3) := by rw [getGo, if_neg h]
theorem getGo_yes {T : List Tok} {D : List Bool} {p f long : Nat} {t : Tok} (h : p + long ≤ D.length) (hf : T.find? (hasCode (long : Int) (numB ((D.drop p).take long) : Nat)) = some t) : getGo T D p (f + 1) long = (t.1, p + long, 0) := by rw [getGo, if_pos h, hf]
theorem getGo_no {T : List Tok} {D : List Bool} {p f long : Nat} (h : p + long ≤ D.length) (hf : T.find? (hasCode (long : Int) (numB ((D.drop p).take long) : Nat)) = none) : getGo T D p (f + 1) long = getGo T D p f (long + 1) := by rw [getGo, if_pos h, hf]
theorem getGo_end {T : List Tok} {D : List Bool} {p long : Nat} : getGo T D p 0 long = (0, p, 4) := by rw [getGo]
/-- the words of a checked table: sorted by length, and fit -/
theorem codesW_sorted (cs : List Int) : ∀ k, (codesW cs k).Pairwise fun a b => a.1 ≤ b.1
  | 0 => by simp [codesW]
  | k + 1 => by
    unfold codesW
    rw [List.pairwise_append]
    refine ⟨codesW_sorted cs k, ?_, fun a ha b hb => ?_⟩
    · unfold rowC
      rw [List.pairwise_iff_getElem]
      intro i j hi hj hij
      simp
    · have h1 := (codesW_nodup cs k).2 a ha
      unfold rowC at hb
      obtain ⟨i, -, rfl⟩ := List.mem_map.1 hb
      simp only
      omega
theorem zipC_sorted (C : List (Nat × Nat)) (xs : List Int) (h : C.Pairwise fun a b => a.1 ≤ b.1) (hl : C.length = xs.length) : (zipC C xs).Pairwise fun a b => a.2.1 ≤ b.2.1 := by
  rw [List.pairwise_iff_getElem] at h ⊢
  intro i j hi hj hij
  have e : (zipC C xs).length = C.length := zipC_len _ _ (by omega)
  rw [zipC_at C xs i (by omega) (by omega) hi, zipC_at C xs j (by omega) (by omega) hj]
  have := h i j (by omega) (by omega) hij
  simp only
  omega
theorem zipC_fits (cs xs : List Int) (hl : cs.length = 16) (hok : okW cs = true) (hC : (codesW cs 16).length = xs.length) : ∀ t ∈ zipC (codesW cs 16) xs, ∃ l c : Nat, t.2 = ((l : Int), (c : Int)) ∧ 1 ≤ l ∧ l ≤ 16 ∧ c < 2 ^ l := by
  intro t ht
  obtain ⟨k, hk, rfl⟩ := List.getElem_of_mem ht
  have e : (zipC (codesW cs 16) xs).length = (codesW cs 16).length := zipC_len _ _ (by omega)
  rw [zipC_at _ xs k (by omega) (by omega) hk]
  obtain ⟨f1, f2, f3⟩ := codesW_fit cs hok hl 16 (by omega) _ (List.getElem_mem (show k < (codesW cs 16).length by omega))
  exact ⟨_, _, rfl, f1, f2, by omega⟩
def decGo (T : List Tok) (D : List Bool) : Nat → Nat → List Int → List Int × Int × Int
  | 0, p, acc => (acc, p, 0)
  | m + 1, p, acc => if (symZ T D p).2.2 = 0 then decGo T D m (symZ T D p).2.1 (acc ++ [(symZ T D p).1]) else ([], 0, (symZ T D p).2.2)
/-- what Decode answers -/
def decZ (cs xs : List Int) (D : List Bool) (many : Int) : List Int × Int × Int :=
  if checkZ cs xs = 0 then (if inB many 0 20000 then decGo (zipC (codesW cs 16) xs) D many.toNat 0 [] else ([], 0, 1)) else ([], 0, checkZ cs xs)
theorem symZ_le {T : List Tok} {D : List Bool} {p : Nat} (hp : p ≤ D.length) : (symZ T D p).2.1 ≤ D.length := by
  unfold symZ
  split
  · next t ht =>
    have := List.find?_some ht
    simp only [wordIn, Bool.and_eq_true, decide_eq_true_eq] at this
    exact this.1
  · exact hp
theorem codeF_hasCode (T : List Tok) (l c : Int) : codeF T (l, c) = (T.find? (hasCode l c)).map fun t => Value.int .i64 t.1 := rfl
end Go.Proofs.Ytbnjapgmpjkooaa
/- bits.Reader: Left, Get, NewReader. -/
namespace Go.Proofs.Ytbnjapgmpjkooaa
set_option linter.unusedVariables false
set_option linter.unusedSimpArgs false
open Go.RowKit
section
variable {o : Oper} {a : Act}
theorem run_loadSl (W : World) (p : Addr) (A : Option Addr) (n c : Nat) (h : W.cell? p = some (.slice A n c)) : (Instr.loadAt 23 (.pointer (some p))).run Try.prog W = .ok (.slice A n c) W := by
  go_simp
theorem run_loadU (W : World) (p : Addr) (z : Int) (h : W.cell? p = some (.int .u8 z)) : (Instr.loadAt 5 (.pointer (some p))).run Try.prog W = .ok (.int .u8 z) W := by
  go_simp
theorem ex_loadS {x : Operand} (ho : o.op = .load 23 x) {p : Addr} (hx : a.eval x = .pointer (some p)) {A : Option Addr} {n c : Nat} {w : World} (h : w.cell? p = some (.slice A n c)) : (execOp a.eval o).run Try.prog w = .ok (.value (.slice A n c)) w := by
  simp [execOp, ho, hx, run_loadSl w p A n c h]
theorem ex_loadU {x : Operand} (ho : o.op = .load 5 x) {p : Addr} (hx : a.eval x = .pointer (some p)) {z : Int} {w : World} (h : w.cell? p = some (.int .u8 z)) : (execOp a.eval o).run Try.prog w = .ok (.value (.int .u8 z)) w := by
  simp [execOp, ho, hx, run_loadU w p z h]
theorem run_conv8 (y : Nat) (h : y < 256) (W : World) : (convert 5 3 (.int .u8 (y : Int))).run Try.prog W = .ok (.int .i64 (y : Int)) W := by
  have e : IntKind.i64.wrap (y : Int) = (y : Int) := IntWalk.i64_in _ (by omega)
  go_simp
theorem ex_conv {P : Program} {x : Operand} {t u : TypeId} (ho : o.op = .convert t u x) {v v' : Value} (hx : a.eval x = v) (hr : ∀ w, (convert t u v).run P w = .ok v' w) (w : World) : (execOp a.eval o).run P w = .ok (.value v') w := by
  simp [execOp, ho, hx, hr]
end
/-- a reader at bit p of the bytes bs -/
def RdS (w : World) (gr : Nat) (A : Option Addr) (n c p : Nat) (bs : List Nat) : Prop :=
  Blk w gr 82 #[.slice A n c, .int .i64 (p : Int)] ∧ SL w 1 (.slice A n c) n (bytesV bs) ∧ bs.length = n ∧ (0 < n → ∀ ad, A = some ad → ad.block < gr) ∧ (∀ b ∈ bs, b < 256) ∧ n ≤ 100000000000 ∧ p ≤ 8 * n
theorem RdS.cells {w : World} {gr : Nat} {A : Option Addr} {n c p : Nat} {bs : List Nat} (h : RdS w gr A n c p bs) : w.cell? ⟨gr, 0, none⟩ = some (.slice A n c) ∧ w.cell? ⟨gr, 1, none⟩ = some (.int .i64 (p : Int)) := by
  have h0 := h.1.cell 0
  have h1 := h.1.cell 1
  exact ⟨h0, h1⟩
theorem RdS.ext {w w' : World} {gr : Nat} {A : Option Addr} {n c p : Nat} {bs : List Nat} (h : RdS w gr A n c p bs) (hx : Ext w w') : RdS w' gr A n c p bs :=
  ⟨h.1.ext hx, h.2.1.ext hx, h.2.2⟩
theorem SL.upd0 {S : Nat → Prop} {w w' : World} {size n c : Nat} {A : Option Addr} {xs : List Value} (h : SL w size (.slice A n c) n xs) (hu : Upd S w w') (hS : 0 < n → ∀ ad, A = some ad → ¬ S ad.block) : SL w' size (.slice A n c) n xs := by
  by_cases h0 : 0 < n
  · exact h.upd hu (hS h0)
  · obtain ⟨A', c', e1, h1, h2, h3, h4⟩ := h
    exact ⟨A', c', e1, h1, h2, h3, fun hn => absurd hn h0⟩
theorem RdS.upd {S : Nat → Prop} {w w' : World} {gr : Nat} {A : Option Addr} {n c p : Nat} {bs : List Nat} (h : RdS w gr A n c p bs) (hu : Upd S w w') (hS : ∀ x, S x → gr < x) : RdS w' gr A n c p bs :=
  ⟨hu.blk h.1 (fun e => by have := hS _ e; omega), h.2.1.upd0 hu (fun h0 ad e e2 => by have := hS _ e2; have := h.2.2.2.1 h0 ad e; omega), h.2.2⟩
theorem own_upd {S : Nat → Prop} {w w' : World} {base : Nat} {e : TypeId} {size n : Nat} {v : Value} {xs : List Value} (h : w.ownsRow base e size v n xs) (hu : Upd S w w') (hS : ∀ x, S x → x < base) : w'.ownsRow base e size v n xs := by
  obtain ⟨hl, hh⟩ := h
  refine ⟨hl, ?_⟩
  rcases hh with ⟨rfl, rfl⟩ | ⟨g, cap, cur, rfl, h1, hg, h2⟩
  · exact .inl ⟨rfl, rfl⟩
  · exact .inr ⟨g, cap, cur, rfl, h1, (hu.block g (Blk.lt (w := w) (t := e) (cs := cur) hg) (fun hx => by have := hS g hx; omega)).trans hg, h2⟩
theorem RdS.drew {w : World} {gr : Nat} {A : Option Addr} {n c p : Nat} {bs : List Nat} (h : RdS w gr A n c p bs) : RdS w.drew gr A n c p bs := h
set_option maxRecDepth 20000 in
set_option maxHeartbeats 1000000 in
theorem left_any (gr : Nat) (A : Option Addr) (n c p : Nat) (bs : List Nat) (w : World) (h : RdS w gr A n c p bs) :
    Calls Try.prog 40 #[.pointer (some ⟨gr, 0, none⟩)] w fun e w' => e = .returned (.int .i64 ((8 * n - p : Nat) : Int)) ∧ Ext w w' := by
  have hn : n ≤ 100000000000 := h.2.2.2.2.2.1
  have hp : p ≤ 8 * n := h.2.2.2.2.2.2
  have HC0 : ∀ W, Ext w.drew W → W.cell? ⟨gr, 0, none⟩ = some (.slice A n c) := fun W hx => (h.drew.ext hx).cells.1
  have HC1 : ∀ W, Ext w.drew W → W.cell? ⟨gr, 1, none⟩ = some (.int .i64 (p : Int)) := fun W hx => (h.drew.ext hx).cells.2
  go_enter Try.func40, Try.ntmps40
  go_wp2_with fail
  refine wp_region_lx later_ext (by kernel_rfl) (by kernel_rfl) ?_
  refine lx_run (by rfl) (.pointer (some ⟨gr, 0, none⟩)) (ex_move rfl rfl) ?_
  simp only [Act.put, List.setIfInBounds_toArray, List.set_cons_succ, List.set_cons_zero]
  refine lx_run (by rfl) (.pointer (some ⟨gr, 0, none⟩)) (ex_nil rfl rfl) ?_
  simp only [Act.put, List.setIfInBounds_toArray, List.set_cons_succ, List.set_cons_zero]
  refine lx_run (by rfl) (.pointer (some ⟨gr, 0, none⟩)) (fun W => by go_simp) ?_
  simp only [Act.put, List.setIfInBounds_toArray, List.set_cons_succ, List.set_cons_zero]
  refine lx_read (by rfl) (.slice A n c) (fun W hW => ex_loadS rfl rfl (HC0 W hW)) ?_
  simp only [Act.put, List.setIfInBounds_toArray, List.set_cons_succ, List.set_cons_zero]
  refine lx_run (by rfl) (.int .i64 ((n : Nat) : Int)) (fun W => by go_simp) ?_
  simp only [Act.put, List.setIfInBounds_toArray, List.set_cons_succ, List.set_cons_zero]
  refine lx_run (by rfl) (.int .i64 ((8 * n : Nat) : Int)) (ex_mulN (i := 8) (d := n) rfl rfl rfl (by omega)) ?_
  simp only [Act.put, List.setIfInBounds_toArray, List.set_cons_succ, List.set_cons_zero]
  refine lx_run (by rfl) (.pointer (some ⟨gr, 0, none⟩)) (ex_move rfl rfl) ?_
  simp only [Act.put, List.setIfInBounds_toArray, List.set_cons_succ, List.set_cons_zero]
  refine lx_run (by rfl) (.pointer (some ⟨gr, 0, none⟩)) (ex_nil rfl rfl) ?_
  simp only [Act.put, List.setIfInBounds_toArray, List.set_cons_succ, List.set_cons_zero]
  refine lx_run (by rfl) (.pointer (some ⟨gr, 1, none⟩)) (fun W => by go_simp) ?_
  simp only [Act.put, List.setIfInBounds_toArray, List.set_cons_succ, List.set_cons_zero]
  refine lx_read (by rfl) (.int .i64 ((p : Nat) : Int)) (fun W hW => ex_loadI rfl rfl (HC1 W hW)) ?_
  simp only [Act.put, List.setIfInBounds_toArray, List.set_cons_succ, List.set_cons_zero]
  refine lx_run (by rfl) (.int .i64 (((8 * n) - p : Nat) : Int)) (ex_subN (i := 8 * n) (d := p) rfl rfl rfl (by omega) (by omega)) ?_
  simp only [Act.put, List.setIfInBounds_toArray, List.set_cons_succ, List.set_cons_zero]
  refine lx_run (by rfl) (.int .i64 (((8 * n) - p : Nat) : Int)) (ex_assign rfl rfl) ?_
  simp only [Act.put, List.setIfInBounds_toArray, List.set_cons_succ, List.set_cons_zero]
  refine lx_nil ?_
  intro w9 hx9
  go_wp2_with fail
  go_ret
  exact ⟨rfl, (Ext.refl w).drew.trans hx9⟩
theorem bytes_at {bs : List Nat} {k : Nat} {u : Value} (h : (bytesV bs)[k]? = some u) : ∃ hk : k < bs.length, u = .int .u8 ((bs[k] : Nat) : Int) := by
  unfold bytesV at h
  rw [List.getElem?_map] at h
  obtain ⟨z, hz, rfl⟩ := Option.map_eq_some_iff.1 h
  obtain ⟨hk, rfl⟩ := List.getElem?_eq_some_iff.1 hz
  exact ⟨hk, rfl⟩
set_option maxRecDepth 20000 in
set_option maxHeartbeats 1000000 in
theorem get_no (gr : Nat) (A : Option Addr) (n c p : Nat) (bs : List Nat) (width : Nat) (w : World) (h : RdS w gr A n c p bs) (hw : 8 * n < p + width) (hw2 : width ≤ 1000) :
    Calls Try.prog 35 #[.pointer (some ⟨gr, 0, none⟩), .int .i64 (width : Int)] w fun e w' => e = .returned (.tuple #[.int .i64 0, .bool false]) ∧ Ext w w' := by
  have hn : n ≤ 100000000000 := h.2.2.2.2.2.1
  have hp : p ≤ 8 * n := h.2.2.2.2.2.2
  have HL := hid_ (fun W h => left_any gr A n c p bs W h)
  generalize hl : 8 * n - p = l at *
  have hlw : l < width := by omega
  go_enter Try.func35, Try.ntmps35
  go_wp2_with (go_at_call 40; (with_reducible refine (HL.out _ h).mono ?_); rintro e w2 ⟨rfl, hx2⟩)
  go_ret2
  exact ⟨rfl, hx2⟩
set_option maxRecDepth 20000 in
set_option maxHeartbeats 1000000 in
theorem get_yes (gr : Nat) (A : Option Addr) (n c p : Nat) (bs : List Nat) (width : Nat) (w : World) (h : RdS w gr A n c p bs) (hw : p + width ≤ 8 * n) (hw2 : width ≤ 24) :
    Calls Try.prog 35 #[.pointer (some ⟨gr, 0, none⟩), .int .i64 (width : Int)] w fun e w' =>
      e = .returned (.tuple #[.int .i64 ((numB (((digsOf bs).drop p).take width) : Nat) : Int), .bool true]) ∧ RdS w' gr A n c (p + width) bs ∧ Upd (fun x => x = gr) w w' := by
  have hn : n ≤ 100000000000 := h.2.2.2.2.2.1
  have hp : p ≤ 8 * n := h.2.2.2.2.2.2
  have hbl := h.2.2.1
  have HB := hid_ h.2.2.2.2.1
  have hne := h.2.2.2.1
  have HD := hid_ (digsOf_len bs)
  have HL := hid_ (fun W h => left_any gr A n c p bs W h)
  have HNX := hid_ (fun i h1 h2 => numB_next bs p i h1 h2)
  have HLT := hid_ (fun i (h1 : i ≤ 24) => numB_take_lt ((digsOf bs).drop p) i 24 h1)
  generalize hl : 8 * n - p = l at *
  have hlw : ¬ l < width := by omega
  go_enter Try.func35, Try.ntmps35
  go_wp2_with (go_at_call 40; (with_reducible refine (HL.out _ h).mono ?_); rintro e w2 ⟨rfl, hx2⟩)
  have h2 := h.ext hx2
  go_loopw [6, 12] (fun v i wr => ∃ k : Nat, k ≤ width ∧ i = .int .i64 (k : Int) ∧ v = .int .i64 ((numB (((digsOf bs).drop p).take k) : Nat) : Int) ∧ RdS wr gr A n c (p + k) bs ∧ Upd (fun x => x = gr) w wr) (fun _ i _ => width - (intOf i).toNat)
  case atStart => exact ⟨0, by omega, rfl, by simp [numB], h2, Upd.of_ext hx2⟩
  case round =>
    obtain ⟨k, hk, rfl, rfl, hr, hu⟩ := hrel
    by_cases hlt : k < width
    · obtain ⟨q, hq⟩ : ∃ q, q = p + k := ⟨_, rfl⟩
      rw [← hq] at hr
      have hq8 : q / 8 < n := by omega
      have hqm : q % 8 < 8 := by omega
      obtain ⟨ad, u, rfl, hab, hxk, hcell⟩ := hr.2.1.at1 hq8
      obtain ⟨hkl, rfl⟩ := bytes_at hxk
      have HN2 := hid_ (HNX.out k (by have := HD.out; omega) (by rw [← hq]; exact hkl))
      have hx : bs[q / 8] < 256 := HB.out _ (List.getElem_mem hkl)
      have hm0 := HLT.out k (by omega)
      have HEQ : Hid (bs[(p + k) / 8]'(by rw [← hq]; exact hkl) = bs[q / 8]) := hid_ (by congr 2; omega)
      rw [HEQ.out, ← hq] at HN2
      clear HEQ
      generalize bs[q / 8] = x at *
      obtain ⟨s, hs⟩ : ∃ s, s = 7 - q % 8 := ⟨_, rfl⟩
      have HS : Hid (7 - q % 8 = s) := hid_ hs.symm
      have s8 : s < 8 := by omega
      rw [HS.out] at HN2
      have hy : x / 2 ^ s < 256 := by have := Nat.div_le_self x (2 ^ s); omega
      have hb : x / 2 ^ s % 2 < 256 := by omega
      have hb2 : x / 2 ^ s % 2 < 2 := by omega
      generalize hmm : numB (((digsOf bs).drop p).take k) = m at *
      have hm : m < 1099511627776 := by omega
      clear hmm hxk hs
      have HC0 : ∀ W, Ext wr.drew W → W.cell? ⟨gr, 0, none⟩ = some (.slice (some ad) n c) := fun W hx => (hr.drew.ext hx).cells.1
      have HC1 : ∀ W, Ext wr.drew W → W.cell? ⟨gr, 1, none⟩ = some (.int .i64 (q : Int)) := fun W hx => (hr.drew.ext hx).cells.2
      have HCX : ∀ W, Ext wr.drew W → W.cell? (ad.add (q / 8 * 1)) = some (.int .u8 ((x : Nat) : Int)) := fun W hxx => by
        rw [Nat.mul_one]
        exact (hxx.cell (by rw [block_of_add]; exact hab)).trans hcell
      clear hcell
      go_wp2_with fail
      refine wp_region_lx later_ext (by kernel_rfl) (by kernel_rfl) ?_
      refine lx_run (by rfl) (.int .i64 ((m : Nat) : Int)) (ex_move rfl rfl) ?_
      simp only [Act.put, List.setIfInBounds_toArray, List.set_cons_succ, List.set_cons_zero]
      refine lx_run (by rfl) (.int .i64 ((2 * m : Nat) : Int)) (ex_binK (k := .i64) (m := (m : Int)) (k' := .u64) (n := 1) rfl rfl rfl (run_shl_one m hm)) ?_
      simp only [Act.put, List.setIfInBounds_toArray, List.set_cons_succ, List.set_cons_zero]
      refine lx_run (by rfl) (.pointer (some ⟨gr, 0, none⟩)) (ex_move rfl rfl) ?_
      simp only [Act.put, List.setIfInBounds_toArray, List.set_cons_succ, List.set_cons_zero]
      refine lx_run (by rfl) (.pointer (some ⟨gr, 0, none⟩)) (ex_nil rfl rfl) ?_
      simp only [Act.put, List.setIfInBounds_toArray, List.set_cons_succ, List.set_cons_zero]
      refine lx_run (by rfl) (.pointer (some ⟨gr, 0, none⟩)) (fun W => by go_simp) ?_
      simp only [Act.put, List.setIfInBounds_toArray, List.set_cons_succ, List.set_cons_zero]
      refine lx_read (by rfl) (.slice (some ad) n c) (fun W hW => ex_loadS rfl rfl (HC0 W hW)) ?_
      simp only [Act.put, List.setIfInBounds_toArray, List.set_cons_succ, List.set_cons_zero]
      refine lx_run (by rfl) (.pointer (some ⟨gr, 0, none⟩)) (ex_move rfl rfl) ?_
      simp only [Act.put, List.setIfInBounds_toArray, List.set_cons_succ, List.set_cons_zero]
      refine lx_run (by rfl) (.pointer (some ⟨gr, 0, none⟩)) (ex_nil rfl rfl) ?_
      simp only [Act.put, List.setIfInBounds_toArray, List.set_cons_succ, List.set_cons_zero]
      refine lx_run (by rfl) (.pointer (some ⟨gr, 1, none⟩)) (fun W => by go_simp) ?_
      simp only [Act.put, List.setIfInBounds_toArray, List.set_cons_succ, List.set_cons_zero]
      refine lx_read (by rfl) (.int .i64 ((q : Nat) : Int)) (fun W hW => ex_loadI rfl rfl (HC1 W hW)) ?_
      simp only [Act.put, List.setIfInBounds_toArray, List.set_cons_succ, List.set_cons_zero]
      refine lx_run (by rfl) (.int .i64 ((q / 8 : Nat) : Int)) (ex_quoN (i := q) (d := 8) rfl rfl rfl (by omega) (by omega)) ?_
      simp only [Act.put, List.setIfInBounds_toArray, List.set_cons_succ, List.set_cons_zero]
      refine lx_run (by rfl) (.pointer (some (ad.add ((q / 8) * 1)))) (ex_ixSl Try.underlying23 sizeU8' rfl rfl rfl hq8) ?_
      simp only [Act.put, List.setIfInBounds_toArray, List.set_cons_succ, List.set_cons_zero]
      refine lx_read (by rfl) (.int .u8 ((x : Nat) : Int)) (fun W hW => ex_loadU rfl rfl (HCX W hW)) ?_
      simp only [Act.put, List.setIfInBounds_toArray, List.set_cons_succ, List.set_cons_zero]
      refine lx_run (by rfl) (.pointer (some ⟨gr, 0, none⟩)) (ex_move rfl rfl) ?_
      simp only [Act.put, List.setIfInBounds_toArray, List.set_cons_succ, List.set_cons_zero]
      refine lx_run (by rfl) (.pointer (some ⟨gr, 0, none⟩)) (ex_nil rfl rfl) ?_
      simp only [Act.put, List.setIfInBounds_toArray, List.set_cons_succ, List.set_cons_zero]
      refine lx_run (by rfl) (.pointer (some ⟨gr, 1, none⟩)) (fun W => by go_simp) ?_
      simp only [Act.put, List.setIfInBounds_toArray, List.set_cons_succ, List.set_cons_zero]
      refine lx_read (by rfl) (.int .i64 ((q : Nat) : Int)) (fun W hW => ex_loadI rfl rfl (HC1 W hW)) ?_
      simp only [Act.put, List.setIfInBounds_toArray, List.set_cons_succ, List.set_cons_zero]
      refine lx_run (by rfl) (.int .i64 ((q % 8 : Nat) : Int)) (ex_remN (i := q) (d := 8) rfl rfl rfl (by omega) (by omega)) ?_
      simp only [Act.put, List.setIfInBounds_toArray, List.set_cons_succ, List.set_cons_zero]
      refine lx_run (by rfl) (.int .i64 ((s : Nat) : Int)) (by rw [← HS.out]; exact ex_subN (i := 7) (d := q % 8) rfl rfl rfl (by omega) (by omega)) ?_
      simp only [Act.put, List.setIfInBounds_toArray, List.set_cons_succ, List.set_cons_zero]
      refine lx_run (by rfl) (.int .u8 ((x / 2 ^ s : Nat) : Int)) (ex_binK (k := .u8) (m := (x : Int)) (k' := .i64) (n := (s : Int)) rfl rfl rfl (run_shr8 x s hx s8)) ?_
      simp only [Act.put, List.setIfInBounds_toArray, List.set_cons_succ, List.set_cons_zero]
      refine lx_run (by rfl) (.int .u8 ((x / 2 ^ s % 2 : Nat) : Int)) (ex_binK (k := .u8) (m := ((x / 2 ^ s : Nat) : Int)) (k' := .u8) (n := 1) rfl rfl rfl (run_and8 (x / 2 ^ s) hy)) ?_
      simp only [Act.put, List.setIfInBounds_toArray, List.set_cons_succ, List.set_cons_zero]
      refine lx_run (by rfl) (.int .i64 ((x / 2 ^ s % 2 : Nat) : Int)) (ex_conv rfl rfl (run_conv8 (x / 2 ^ s % 2) hb)) ?_
      simp only [Act.put, List.setIfInBounds_toArray, List.set_cons_succ, List.set_cons_zero]
      refine lx_run (by rfl) (.int .i64 ((2 * m + x / 2 ^ s % 2 : Nat) : Int)) (ex_binK (k := .i64) (m := ((2 * m : Nat) : Int)) (k' := .i64) (n := ((x / 2 ^ s % 2 : Nat) : Int)) rfl rfl rfl (run_or2 m (x / 2 ^ s % 2) hm hb2)) ?_
      simp only [Act.put, List.setIfInBounds_toArray, List.set_cons_succ, List.set_cons_zero]
      refine lx_run (by rfl) (.int .i64 ((2 * m + x / 2 ^ s % 2 : Nat) : Int)) (ex_assign rfl rfl) ?_
      simp only [Act.put, List.setIfInBounds_toArray, List.set_cons_succ, List.set_cons_zero]
      refine lx_nil ?_
      intro w9 hx9
      have hr9 := hr.drew.ext hx9
      have hc1 := hr9.cells.2
      have hf1 := hr9.1.frozen 1
      have hb9 := hr9.1.set_ 1 (.int .i64 ((q : Int) + 1))
      simp at hb9
      have hu9 := (hu.trans (Upd.of_ext (S := fun x => x = gr) ((Ext.refl wr).drew.trans hx9)) (fun x hx => .inl hx)).setCell (p := ⟨gr, 1, none⟩) rfl (.int .i64 ((q : Int) + 1))
      have hs9 := hr9.2.1.upd (S := fun x => x = gr) ((Upd.refl (fun x => x = gr) w9).setCell (p := ⟨gr, 1, none⟩) rfl (.int .i64 ((q : Int) + 1))) (fun ad h e => by have := hr9.2.2.2.1 (by omega) ad h; omega)
      have hrest := hr9.2.2
      have HQ := hid_ hq
      have hq9 : q + 1 ≤ 8 * n := by omega
      have hqq : q + 1 = p + (k + 1) := by omega
      generalize hm2 : 2 * m + x / 2 ^ s % 2 = m2 at *
      clear hq hm2
      go_wp2_with fail
      go_roundw
      case rel =>
        refine ⟨k + 1, by omega, by go_num, by rw [HN2.out], ?_, hu9⟩
        rw [← hqq]
        exact ⟨by exact_mod_cast hb9, hs9, hrest.1, hrest.2.1, hrest.2.2.1, hrest.2.2.2.1, hq9⟩
      case measure => simp [intOf]; omega
    · have e1 : k = width := by omega
      rw [e1] at hr ⊢
      clear e1 hk hlt
      go_wp2_with fail
      go_ret2
      exact ⟨rfl, hr, hu⟩
theorem newReader_any (A : Option Addr) (n c : Nat) (bs : List Nat) (w : World) (h : SL w 1 (.slice A n c) n (bytesV bs)) (hl : bs.length = n) (hb : ∀ b ∈ bs, b < 256) (hn : n ≤ 100000000000) :
    Calls Try.prog 34 #[.slice A n c] w fun e w' => ∃ gr, e = .returned (.pointer (some ⟨gr, 0, none⟩)) ∧ RdS w' gr A n c 0 bs ∧ Ext w w' ∧ w.heap.size = gr ∧ gr < w'.heap.size := by
  go_enter Try.func34, Try.ntmps34
  go_wp2_with fail
  go_ret
  refine ⟨_, rfl, ⟨Blk.new _ _ _, h.ext ((Ext.refl w).alloc _), hl, fun h0 ad e => ?_, hb, hn, by omega⟩, (Ext.refl w).alloc _, by omega, by simp⟩
  obtain ⟨A', c', e1, -, -, -, h4⟩ := h
  injection e1 with e1 e2 e3
  obtain ⟨ad', e4, h5, -⟩ := h4 h0
  rw [e, e4] at e1
  injection e1 with e1
  rw [e1]; exact h5
end Go.Proofs.Ytbnjapgmpjkooaa
