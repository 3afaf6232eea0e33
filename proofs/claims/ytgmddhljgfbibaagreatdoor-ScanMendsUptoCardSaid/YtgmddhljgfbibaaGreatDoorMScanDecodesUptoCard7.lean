/- Contracts for the law ScanDecodesUptoCard, part 7: what the functions that it reaches answer, for all arguments that the theorems name. -/
import Derived.Test.YtgmddhljgfbibaaGreatDoorMScanDecodesUptoCard5
import Derived.WideKeyPair
import Derived.Test.YtgmddhljgfbibaaGreatDoorMScanDecodesUptoCard4
import Derived.Test.YtgmddhljgfbibaaGreatDoorMScanDecodesUptoCard6
/- The word of a symbol, in plain words. -/
namespace Go.Proofs.YtgmddhljgfbibaaGreatDoor
set_option linter.unusedVariables false
set_option linter.unusedSimpArgs false
open Go.RowKit
theorem outW_at (cs : List Int) (k : Nat) (h : k < (codesW cs 16).length) : (strs (outW cs 16))[k]? = some (.string (strB (digs (codesW cs 16)[k].2 (codesW cs 16)[k].1))) := by
  unfold strs
  rw [outW_codes]
  simp [h, binS_strB]
theorem outW_len (cs : List Int) : (outW cs 16).length = (codesW cs 16).length := by rw [outW_codes]; simp
theorem zipC_at (C : List (Nat × Nat)) (xs : List Int) (k : Nat) (h1 : k < C.length) (h2 : k < xs.length) (h : k < (zipC C xs).length) : (zipC C xs)[k] = (xs[k], ((C[k]).1 : Int), ((C[k]).2 : Int)) := by
  simp [zipC]
def findT (T : List Tok) (s : Int) : Option Tok := T.find? (fun t => t.1 == s)
/-- the digits of a symbol's word -/
def bitsT (T : List Tok) (s : Int) : List Bool := match findT T s with | some t => digs t.2.2.toNat t.2.1.toNat | none => []
/-- the words of a table fit -/
def FitT (T : List Tok) : Prop := ∀ s t, findT T s = some t → ∃ long code : Nat, t = (s, (long : Int), (code : Int)) ∧ 1 ≤ long ∧ long ≤ 16 ∧ code < 2 ^ long
theorem fitT_of (cs xs : List Int) (hl : cs.length = 16) (h : checkZ cs xs = 0) : FitT (zipC (codesW cs 16) xs) := by
  obtain ⟨q1, q2, q3, q4, q5, q6⟩ := checkZ_zero h
  have hfit := codesW_fit cs q4 hl 16 (by omega)
  intro s t ht
  have hm := List.mem_of_find?_eq_some ht
  have hs := List.find?_some ht
  simp only [beq_iff_eq] at hs
  unfold zipC at hm
  obtain ⟨i, hi, rfl⟩ := List.mem_iff_getElem.1 hm
  simp only [List.getElem_zipWith] at hs ⊢
  simp only [List.length_zipWith] at hi
  obtain ⟨f1, f2, f3⟩ := hfit _ (List.getElem_mem (show i < (codesW cs 16).length by omega))
  exact ⟨_, _, by rw [hs], f1, f2, by omega⟩
theorem bitsT_some {T : List Tok} {s : Int} {long code : Nat} (h : findT T s = some (s, (long : Int), (code : Int))) : bitsT T s = digs code long := by
  unfold bitsT; rw [h]; simp
theorem bitsT_len {T : List Tok} (hf : FitT T) (s : Int) : (bitsT T s).length ≤ 16 := by
  unfold bitsT
  cases h : findT T s with
  | none => simp
  | some t =>
    obtain ⟨long, code, rfl, h1, h2, h3⟩ := hf s t h
    simp [digs_len]
    omega
theorem zipC_syms (C : List (Nat × Nat)) (xs : List Int) (h : C.length = xs.length) : (zipC C xs).map (·.1) = xs := by
  induction C generalizing xs with
  | nil => cases xs with | nil => rfl | cons _ _ => simp at h
  | cons c C ih =>
    cases xs with
    | nil => simp at h
    | cons x xs =>
      have h' : C.length = xs.length := by simpa using h
      have := ih xs h'
      simp only [zipC, List.zipWith_cons_cons, List.map_cons] at this ⊢
      rw [this]
theorem findT_none {Z : List Tok} {s : Int} (h : s ∉ Z.map (·.1)) : findT Z s = none := by
  unfold findT
  rw [List.find?_eq_none]
  intro u hu
  simp only [beq_iff_eq]
  rintro rfl
  exact h (List.mem_map.2 ⟨u, hu, rfl⟩)
theorem findT_at {Z : List Tok} {s : Int} {k : Nat} (hk : k < Z.length) (h : s ∉ (Z.map (·.1)).take k) (h2 : (Z[k]).1 = s) : findT Z s = some Z[k] := by
  unfold findT
  rw [List.find?_eq_some_iff_getElem]
  refine ⟨by simpa using h2, k, hk, rfl, fun j hj => ?_⟩
  simp only [Bool.not_eq_true', beq_eq_false_iff_ne]
  intro h3
  apply h
  rw [← h3, List.mem_take_iff_getElem]
  exact ⟨j, by simp; omega, by simp⟩
end Go.Proofs.YtgmddhljgfbibaaGreatDoor
/- What a coder holds, in plain words. -/
namespace Go.Proofs.YtgmddhljgfbibaaGreatDoor
set_option linter.unusedVariables false
set_option linter.unusedSimpArgs false
open Go.RowKit Go.Maps Go.WideMaps
def symF (T : List Tok) (s : Int) : Option Value := (T.find? (fun t => t.1 == s)).map (fun t => Value.agg #[.int .i64 t.1, .int .i64 t.2.1, .int .i64 t.2.2])
def codeF (T : List Tok) (p : Int × Int) : Option Value := (T.find? (fun t => t.2.1 == p.1 && t.2.2 == p.2)).map (fun t => Value.int .i64 t.1)
theorem symF_snoc_same (T : List Tok) (t : Tok) (h : ∀ u ∈ T, u.1 ≠ t.1) : symF (T ++ [t]) t.1 = some (.agg #[.int .i64 t.1, .int .i64 t.2.1, .int .i64 t.2.2]) := by
  have h1 : T.find? (fun u => u.1 == t.1) = none := by
    rw [List.find?_eq_none]
    intro u hu
    simpa using h u hu
  unfold symF
  rw [List.find?_append, h1]
  simp
theorem symF_snoc_other (T : List Tok) (t : Tok) (s : Int) (h : s ≠ t.1) : symF (T ++ [t]) s = symF T s := by
  have h1 : [t].find? (fun u => u.1 == s) = none := by
    rw [List.find?_eq_none]
    intro u hu
    have : u = t := by simpa using hu
    subst this
    simpa using fun h2 => h h2.symm
  unfold symF
  rw [List.find?_append, h1, Option.or_none]
theorem codeF_snoc_same (T : List Tok) (t : Tok) (h : ∀ u ∈ T, u.2 ≠ t.2) : codeF (T ++ [t]) (t.2.1, t.2.2) = some (.int .i64 t.1) := by
  have h1 : T.find? (fun u => u.2.1 == t.2.1 && u.2.2 == t.2.2) = none := by
    rw [List.find?_eq_none]
    intro u hu
    have := h u hu
    simp only [Bool.and_eq_true, beq_iff_eq]
    exact fun h2 => this (Prod.ext h2.1 h2.2)
  unfold codeF
  rw [List.find?_append, h1]
  simp
theorem codeF_snoc_other (T : List Tok) (t : Tok) (p : Int × Int) (h : p ≠ t.2) : codeF (T ++ [t]) p = codeF T p := by
  have h1 : [t].find? (fun u => u.2.1 == p.1 && u.2.2 == p.2) = none := by
    rw [List.find?_eq_none]
    intro u hu
    have : u = t := by simpa using hu
    subst this
    simp only [Bool.and_eq_true, beq_iff_eq]
    exact fun h2 => h (Prod.ext h2.1.symm h2.2.symm)
  unfold codeF
  rw [List.find?_append, h1, Option.or_none]
theorem arrKey2 : ArrKey Tryz.prog 141 3 2 := ⟨Tryz.underlying141, by kernel_rfl, by kernel_rfl, by kernel_rfl⟩
theorem typesPos : ∃ m, Tryz.prog.types.size = m + 1 := ⟨Tryz.prog.types.size - 1, by have : 0 < Tryz.prog.types.size := of_decide_eq_true (by kernel_rfl); omega⟩
theorem keyed_pair : Keyed Tryz.prog 141 := Keyed.of_law (ArrKey.law arrKey2)
def klP (p : Int × Int) : Lit := .string (keyBytes [.int .i64 p.1, .int .i64 p.2])
def okP (p : Int × Int) : Prop := (-9223372036854775808 ≤ p.1 ∧ p.1 ≤ 9223372036854775807) ∧ (-9223372036854775808 ≤ p.2 ∧ p.2 ≤ 9223372036854775807)
theorem keyOf_P (p : Int × Int) (h : okP p) : keyOf Tryz.prog 141 (.agg #[.int .i64 p.1, .int .i64 p.2]) = some (klP p) :=
  keyOf_pair arrKey2 Tryz.underlying3 typesPos (WalkArith.wf_i64 h.1) (WalkArith.wf_i64 h.2)
theorem klP_inj {p q : Int × Int} (hp : okP p) (hq : okP q) (h : klP p = klP q) : p = q := by
  have h1 := keyOf_P p hp
  have h2 := keyOf_P q hq
  rw [← h] at h2
  have := keyed_pair.inj h1 h2
  simp at this
  exact Prod.ext this.1 this.2
abbrev MapP (w : World) (b n : Nat) (g : Int × Int → Option Value) : Prop := MapG Tryz.prog 141 klP okP w b n g
/-- a coder that knows the words T -/
def CoderS (w : World) (gc : Nat) (T : List Tok) : Prop :=
  ∃ m1 m2 n, Blk w gc 138 #[.map (some m1), .map (some m2)] ∧ MapI Tryz.prog 3 w m1 n (symF T) ∧ MapP w m2 n (codeF T)
theorem CoderS.ext {w w' : World} {gc : Nat} {T : List Tok} (h : CoderS w gc T) (hx : Ext w w') : CoderS w' gc T := by
  obtain ⟨m1, m2, n, a, b, c⟩ := h
  exact ⟨m1, m2, n, a.ext hx, b.ext hx, c.ext hx⟩
theorem CoderS.below {B : Nat} {w w' : World} {gc : Nat} {T : List Tok} (h : CoderS w gc T) (hB : w.heap.size ≤ B) (hx : Below B w w') : CoderS w' gc T := by
  obtain ⟨m1, m2, n, a, b, c⟩ := h
  exact ⟨m1, m2, n, a.below hx (Nat.lt_of_lt_of_le a.lt hB), b.below hx (Nat.lt_of_lt_of_le b.lt hB), c.below hx (Nat.lt_of_lt_of_le c.lt hB)⟩
/-- words differ -/
theorem codesW_nodup (cs : List Int) : ∀ k, (codesW cs k).Nodup ∧ ∀ p ∈ codesW cs k, p.1 ≤ k := by
  intro k
  induction k with
  | zero => rw [codesW_zero]; simp
  | succ k ih =>
    rw [show codesW cs (k + 1) = codesW cs k ++ rowC cs k (cs.getD k 0).toNat from codesW_succ cs k]
    have hrow : ∀ n, (rowC cs k n).Nodup := by
      intro n
      unfold rowC
      refine List.Pairwise.map _ ?_ List.nodup_range
      intro a b hab h
      have := (Prod.mk.inj h).2
      omega
    refine ⟨List.nodup_append.2 ⟨ih.1, hrow _, ?_⟩, ?_⟩
    · intro p hp q hq
      have h1 := ih.2 p hp
      simp only [rowC, List.mem_map, List.mem_range] at hq
      obtain ⟨i, _, rfl⟩ := hq
      rintro rfl
      simp at h1
      omega
    · intro p hp
      rcases List.mem_append.1 hp with h | h
      · have := ih.2 p h; omega
      · simp only [rowC, List.mem_map, List.mem_range] at h
        obtain ⟨i, _, rfl⟩ := h
        simp
theorem take_mem {α : Type} {l : List α} {k : Nat} {x : α} (h : x ∈ l.take k) : ∃ j, ∃ hj : j < l.length, j < k ∧ x = l[j] := by
  obtain ⟨j, hj, rfl⟩ := List.mem_iff_getElem.1 h
  simp at hj
  exact ⟨j, by omega, by omega, by simp⟩
theorem nodup_at {α : Type} {l : List α} (h : l.Nodup) {i j : Nat} (hi : i < l.length) (hj : j < l.length) (hij : i ≠ j) : l[i] ≠ l[j] := fun e => hij ((List.getElem_inj h).1 e)
theorem zipC_apart (cs xs : List Int) (hxs : xs.Nodup) (hl : (codesW cs 16).length = xs.length) (k : Nat) (hk : k < (zipC (codesW cs 16) xs).length) :
    (∀ u ∈ (zipC (codesW cs 16) xs).take k, u.1 ≠ ((zipC (codesW cs 16) xs)[k]).1) ∧ (∀ u ∈ (zipC (codesW cs 16) xs).take k, u.2 ≠ ((zipC (codesW cs 16) xs)[k]).2) := by
  have hz : (zipC (codesW cs 16) xs).length = xs.length := by rw [zipC_len _ _ (by omega), hl]
  have hn := (codesW_nodup cs 16).1
  generalize codesW cs 16 = C at *
  constructor
  · intro u hu
    obtain ⟨j, hj, hjk, rfl⟩ := take_mem hu
    rw [zipC_at C xs j (by omega) (by omega), zipC_at C xs k (by omega) (by omega)]
    exact nodup_at hxs _ _ (by omega)
  · intro u hu
    obtain ⟨j, hj, hjk, rfl⟩ := take_mem hu
    rw [zipC_at C xs j (by omega) (by omega), zipC_at C xs k (by omega) (by omega)]
    intro h
    have h1 := (Prod.mk.inj h).1
    have h2 := (Prod.mk.inj h).2
    exact nodup_at hn (i := j) (j := k) (by omega) (by omega) (by omega) (Prod.ext (by omega) (by omega))
theorem toks_take_succ (Z : List Tok) (k : Nat) (h : k < Z.length) : Z.take (k + 1) = Z.take k ++ [Z[k]] := List.take_succ_eq_append_getElem h
end Go.Proofs.YtgmddhljgfbibaaGreatDoor
/- Decoding with a table: plain. -/
namespace Go.Proofs.YtgmddhljgfbibaaGreatDoor
set_option linter.unusedVariables false
set_option linter.unusedSimpArgs false
open Go.RowKit
def wordIn (D : List Bool) (p : Nat) (t : Tok) : Bool := decide (p + t.2.1.toNat ≤ D.length) && ((numB ((D.drop p).take t.2.1.toNat) : Int) == t.2.2)
def hasCode (long code : Int) (t : Tok) : Bool := t.2.1 == long && t.2.2 == code
def getGo (T : List Tok) (D : List Bool) (p : Nat) : Nat → Nat → Int × Nat × Int
  | 0, _ => (0, p, 4)
  | f + 1, long => if p + long ≤ D.length then (match T.find? (hasCode (long : Int) (numB ((D.drop p).take long) : Nat)) with | some t => (t.1, p + long, 0) | none => getGo T D p f (long + 1)) else (0, p, 3)
def symZ (T : List Tok) (D : List Bool) (p : Nat) : Int × Nat × Int :=
  match T.find? (wordIn D p) with | some t => (t.1, p + t.2.1.toNat, 0) | none => (0, p, if D.length < p + 16 then 3 else 4)
theorem symZ_some {T : List Tok} {D : List Bool} {p : Nat} {t : Tok} (h : T.find? (wordIn D p) = some t) : symZ T D p = (t.1, p + t.2.1.toNat, 0) := by unfold symZ; rw [h]
theorem symZ_none {T : List Tok} {D : List Bool} {p : Nat} (h : T.find? (wordIn D p) = none) : symZ T D p = (0, p, if D.length < p + 16 then 3 else 4) := by unfold symZ; rw [h]
theorem getGo_sym (T : List Tok) (D : List Bool) (p : Nat) (hs : T.Pairwise fun a b => a.2.1 ≤ b.2.1) (hfit : ∀ t ∈ T, ∃ l c : Nat, t.2 = ((l : Int), (c : Int)) ∧ 1 ≤ l ∧ l ≤ 16) :
    ∀ (f long : Nat), f + long = 17 → 1 ≤ long → p + long ≤ D.length + 1 → (∀ t ∈ T, t.2.1 < (long : Int) → wordIn D p t = false) → getGo T D p f long = symZ T D p
  | 0, long, h1, _, hp0, hno => by
    have hn : T.find? (wordIn D p) = none := by
      rw [List.find?_eq_none]
      intro t ht
      obtain ⟨l, c, e, h2, h3⟩ := hfit t ht
      have := hno t ht (by rw [e]; simp; omega)
      simp [this]
    rw [symZ_none hn, getGo, if_neg (by omega)]
  | f + 1, long, h1, h2, hp0, hno => by
    unfold getGo
    split
    · next hle =>
      split
      · next t ht =>
        obtain ⟨hp, l1, l2, rfl, has⟩ := List.find?_eq_some_iff_append.1 ht
        simp only [hasCode, Bool.and_eq_true, beq_iff_eq] at hp
        have hw : wordIn D p t = true := by simp [wordIn, hp.1, hp.2, hle]
        have hfind : (l1 ++ t :: l2).find? (wordIn D p) = some t := by
          rw [List.find?_eq_some_iff_append]
          refine ⟨hw, l1, l2, rfl, fun a ha => ?_⟩
          by_cases hwa : wordIn D p a = true
          · have hq := has a ha
            have h3 : a.2.1 ≤ t.2.1 := (List.pairwise_append.1 hs).2.2 a ha t (by simp)
            have h4 : ¬ a.2.1 < (long : Int) := fun h => by rw [hno a (by simp [ha]) h] at hwa; cases hwa
            have h5 : a.2.1 = (long : Int) := by omega
            simp only [wordIn, h5, Int.toNat_natCast, Bool.and_eq_true, decide_eq_true_eq, beq_iff_eq] at hwa
            simp [hasCode, h5, hwa.2] at hq
          · simpa using hwa
        rw [symZ_some hfind, hp.1]
        simp
      · next hn =>
        refine getGo_sym T D p hs hfit f (long + 1) (by omega) (by omega) (by omega) fun t ht hl => ?_
        by_cases h3 : t.2.1 < (long : Int)
        · exact hno t ht h3
        · have h4 : t.2.1 = (long : Int) := by omega
          have h5 := List.find?_eq_none.1 hn t ht
          rw [← Bool.not_eq_true]
          intro hw
          simp only [wordIn, h4, Int.toNat_natCast, Bool.and_eq_true, decide_eq_true_eq, beq_iff_eq] at hw
          simp [hasCode, h4, hw.2] at h5
    · next hle =>
      have hn : T.find? (wordIn D p) = none := by
        rw [List.find?_eq_none]
        intro t ht
        by_cases h3 : t.2.1 < (long : Int)
        · simp [hno t ht h3]
        · simp [wordIn]
          intro h4
          omega
      rw [symZ_none hn, if_pos (by omega)]
theorem getGo_out {T : List Tok} {D : List Bool} {p f long : Nat} (h : ¬ p + long ≤ D.length) : getGo T D p (f + 1) long = (0, p, 3) := by rw [getGo, if_neg h]
theorem getGo_yes {T : List Tok} {D : List Bool} {p f long : Nat} {t : Tok} (h : p + long ≤ D.length) (hf : T.find? (hasCode (long : Int) (numB ((D.drop p).take long) : Nat)) = some t) : getGo T D p (f + 1) long = (t.1, p + long, 0) := by rw [getGo, if_pos h, hf]
theorem getGo_no {T : List Tok} {D : List Bool} {p f long : Nat} (h : p + long ≤ D.length) (hf : T.find? (hasCode (long : Int) (numB ((D.drop p).take long) : Nat)) = none) : getGo T D p (f + 1) long = getGo T D p f (long + 1) := by rw [getGo, if_pos h, hf]
theorem getGo_end {T : List Tok} {D : List Bool} {p long : Nat} : getGo T D p 0 long = (0, p, 4) := by rw [getGo]
/-- the words of a checked table: sorted by length, and fit -/
theorem codesW_sorted (cs : List Int) : ∀ k, (codesW cs k).Pairwise fun a b => a.1 ≤ b.1
  | 0 => by simp [codesW]
  | k + 1 => by
    unfold codesW
    rw [List.pairwise_append]
    refine ⟨codesW_sorted cs k, ?_, fun a ha b hb => ?_⟩
    · unfold rowC
      rw [List.pairwise_iff_getElem]
      intro i j hi hj hij
      simp
    · have h1 := (codesW_nodup cs k).2 a ha
      unfold rowC at hb
      obtain ⟨i, -, rfl⟩ := List.mem_map.1 hb
      simp only
      omega
theorem zipC_sorted (C : List (Nat × Nat)) (xs : List Int) (h : C.Pairwise fun a b => a.1 ≤ b.1) (hl : C.length = xs.length) : (zipC C xs).Pairwise fun a b => a.2.1 ≤ b.2.1 := by
  rw [List.pairwise_iff_getElem] at h ⊢
  intro i j hi hj hij
  have e : (zipC C xs).length = C.length := zipC_len _ _ (by omega)
  rw [zipC_at C xs i (by omega) (by omega) hi, zipC_at C xs j (by omega) (by omega) hj]
  have := h i j (by omega) (by omega) hij
  simp only
  omega
theorem zipC_fits (cs xs : List Int) (hl : cs.length = 16) (hok : okW cs = true) (hC : (codesW cs 16).length = xs.length) : ∀ t ∈ zipC (codesW cs 16) xs, ∃ l c : Nat, t.2 = ((l : Int), (c : Int)) ∧ 1 ≤ l ∧ l ≤ 16 ∧ c < 2 ^ l := by
  intro t ht
  obtain ⟨k, hk, rfl⟩ := List.getElem_of_mem ht
  have e : (zipC (codesW cs 16) xs).length = (codesW cs 16).length := zipC_len _ _ (by omega)
  rw [zipC_at _ xs k (by omega) (by omega) hk]
  obtain ⟨f1, f2, f3⟩ := codesW_fit cs hok hl 16 (by omega) _ (List.getElem_mem (show k < (codesW cs 16).length by omega))
  exact ⟨_, _, rfl, f1, f2, by omega⟩
def decGo (T : List Tok) (D : List Bool) : Nat → Nat → List Int → List Int × Int × Int
  | 0, p, acc => (acc, p, 0)
  | m + 1, p, acc => if (symZ T D p).2.2 = 0 then decGo T D m (symZ T D p).2.1 (acc ++ [(symZ T D p).1]) else ([], 0, (symZ T D p).2.2)
/-- what Decode answers -/
def decZ (cs xs : List Int) (D : List Bool) (many : Int) : List Int × Int × Int :=
  if checkZ cs xs = 0 then (if inB many 0 20000 then decGo (zipC (codesW cs 16) xs) D many.toNat 0 [] else ([], 0, 1)) else ([], 0, checkZ cs xs)
theorem symZ_le {T : List Tok} {D : List Bool} {p : Nat} (hp : p ≤ D.length) : (symZ T D p).2.1 ≤ D.length := by
  unfold symZ
  split
  · next t ht =>
    have := List.find?_some ht
    simp only [wordIn, Bool.and_eq_true, decide_eq_true_eq] at this
    exact this.1
  · exact hp
theorem codeF_hasCode (T : List Tok) (l c : Int) : codeF T (l, c) = (T.find? (hasCode l c)).map fun t => Value.int .i64 t.1 := rfl
end Go.Proofs.YtgmddhljgfbibaaGreatDoor
