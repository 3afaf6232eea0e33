/- Contracts for the law RescueDecodesCard, part 15: what the functions that it reaches answer, for all arguments that the theorems name. -/
import Derived.WideKeyPair
import Derived.Test.YtkggcjdlpendfaaGreatDoorMRescueDecodesCard11
import Derived.Test.YtkggcjdlpendfaaGreatDoorMRescueDecodesCard14
import Derived.Shelf.Small.Bits
import Derived.Shelf.Strconv.Itoa0
import Derived.Shelf.Strings.Search1
import Derived.Shelf.Strings.Search2
import Derived.Shelf.Strings.Search3
import Derived.Shelf.LaysM
import Derived.Shelf.Strings.Shaped
import Derived.Shelf.Strings.Prefix
import Derived.Shelf.Bytes.SlIndexSmall
import Derived.Ground.SlbNamesProg
import Derived.Shelf.Bytes.SlCountOne
import Derived.Shelf.Bytes.SlIndexAt
import Derived.Shelf.Bytes.SlSearch0
import Derived.Shelf.Bytes.SlSearch1
import Derived.Shelf.Bytes.SlSearch2
import Derived.Shelf.Bytes.SlIndexWhole
import Derived.Shelf.Bytes.SlCountWhole
import Derived.Shelf.Bytes.Small
import Derived.Shelf.Bytes.IndexByte
import Derived.Test.YtkggcjdlpendfaaGreatDoorProg
import Derived.Lib.BitFns
import Derived.Lib.ItoaNum
import Derived.Test.YtkggcjdlpendfaaGreatDoorMRescueDecodesCard1
import Derived.Test.YtkggcjdlpendfaaGreatDoorMRescueDecodesCard8
import Derived.Test.YtkggcjdlpendfaaGreatDoorMRescueDecodesCard12
import Derived.Test.YtkggcjdlpendfaaGreatDoorMRescueDecodesCard2
namespace Go.Proofs.YtkggcjdlpendfaaGreatDoor
set_option linter.unusedVariables false
set_option linter.unusedSimpArgs false
open Go.RowKit
section
open Go.RowKit Go.Maps Go.WideMaps
def symF (T : List Tok) (s : Int) : Option Value := (T.find? (fun t => t.1 == s)).map (fun t => Value.agg #[.int .i64 t.1, .int .i64 t.2.1, .int .i64 t.2.2])
def codeF (T : List Tok) (p : Int × Int) : Option Value := (T.find? (fun t => t.2.1 == p.1 && t.2.2 == p.2)).map (fun t => Value.int .i64 t.1)
theorem symF_snoc_same (T : List Tok) (t : Tok) (h : ∀ u ∈ T, u.1 ≠ t.1) : symF (T ++ [t]) t.1 = some (.agg #[.int .i64 t.1, .int .i64 t.2.1, .int .i64 t.2.2]) := by
 have h1 : T.find? (fun u => u.1 == t.1) = none := by
  rw [List.find?_eq_none]
  intro u hu
  simpa using h u hu
 unfold symF
 rw [List.find?_append, h1]
 simp
theorem symF_snoc_other (T : List Tok) (t : Tok) (s : Int) (h : s ≠ t.1) : symF (T ++ [t]) s = symF T s := by
 have h1 : [t].find? (fun u => u.1 == s) = none := by
  rw [List.find?_eq_none]
  intro u hu
  have : u = t := by simpa using hu
  subst this
  simpa using fun h2 => h h2.symm
 unfold symF
 rw [List.find?_append, h1, Option.or_none]
theorem codeF_snoc_same (T : List Tok) (t : Tok) (h : ∀ u ∈ T, u.2 ≠ t.2) : codeF (T ++ [t]) (t.2.1, t.2.2) = some (.int .i64 t.1) := by
 have h1 : T.find? (fun u => u.2.1 == t.2.1 && u.2.2 == t.2.2) = none := by
  rw [List.find?_eq_none]
  intro u hu
  have := h u hu
  simp only [Bool.and_eq_true, beq_iff_eq]
  exact fun h2 => this (Prod.ext h2.1 h2.2)
 unfold codeF
 rw [List.find?_append, h1]
 simp
theorem codeF_snoc_other (T : List Tok) (t : Tok) (p : Int × Int) (h : p ≠ t.2) : codeF (T ++ [t]) p = codeF T p := by
 have h1 : [t].find? (fun u => u.2.1 == p.1 && u.2.2 == p.2) = none := by
  rw [List.find?_eq_none]
  intro u hu
  have : u = t := by simpa using hu
  subst this
  simp only [Bool.and_eq_true, beq_iff_eq]
  exact fun h2 => h (Prod.ext h2.1.symm h2.2.symm)
 unfold codeF
 rw [List.find?_append, h1, Option.or_none]
theorem arrKey2 : ArrKey Tryz.prog 260 3 2 := ⟨Tryz.underlying260, by kernel_rfl, by kernel_rfl, by kernel_rfl⟩
theorem typesPos : ∃ m, Tryz.prog.types.size = m + 1 := ⟨Tryz.prog.types.size - 1, by have : 0 < Tryz.prog.types.size := of_decide_eq_true (by kernel_rfl); omega⟩
theorem keyed_pair : Keyed Tryz.prog 260 := Keyed.of_law (ArrKey.law arrKey2)
def klP (p : Int × Int) : Lit := .string (keyBytes [.int .i64 p.1, .int .i64 p.2])
def okP (p : Int × Int) : Prop := (-9223372036854775808 ≤ p.1 ∧ p.1 ≤ 9223372036854775807) ∧ (-9223372036854775808 ≤ p.2 ∧ p.2 ≤ 9223372036854775807)
theorem keyOf_P (p : Int × Int) (h : okP p) : keyOf Tryz.prog 260 (.agg #[.int .i64 p.1, .int .i64 p.2]) = some (klP p) :=
 keyOf_pair arrKey2 Tryz.underlying3 typesPos (WalkArith.wf_i64 h.1) (WalkArith.wf_i64 h.2)
theorem klP_inj {p q : Int × Int} (hp : okP p) (hq : okP q) (h : klP p = klP q) : p = q := by
 have h1 := keyOf_P p hp
 have h2 := keyOf_P q hq
 rw [← h] at h2
 have := keyed_pair.inj h1 h2
 simp at this
 exact Prod.ext this.1 this.2
abbrev MapP (w : World) (b n : Nat) (g : Int × Int → Option Value) : Prop := MapG Tryz.prog 260 klP okP w b n g
def CoderS (w : World) (gc : Nat) (T : List Tok) : Prop :=
 ∃ m1 m2 n, Blk w gc 241 #[.map (some m1), .map (some m2)] ∧ MapI Tryz.prog 3 w m1 n (symF T) ∧ MapP w m2 n (codeF T)
theorem CoderS.ext {w w' : World} {gc : Nat} {T : List Tok} (h : CoderS w gc T) (hx : Ext w w') : CoderS w' gc T := by
 obtain ⟨m1, m2, n, a, b, c⟩ := h
 exact ⟨m1, m2, n, a.ext hx, b.ext hx, c.ext hx⟩
theorem CoderS.below {B : Nat} {w w' : World} {gc : Nat} {T : List Tok} (h : CoderS w gc T) (hB : w.heap.size ≤ B) (hx : Below B w w') : CoderS w' gc T := by
 obtain ⟨m1, m2, n, a, b, c⟩ := h
 exact ⟨m1, m2, n, a.below hx (Nat.lt_of_lt_of_le a.lt hB), b.below hx (Nat.lt_of_lt_of_le b.lt hB), c.below hx (Nat.lt_of_lt_of_le c.lt hB)⟩
theorem codesW_nodup (cs : List Int) : ∀ k, (codesW cs k).Nodup ∧ ∀ p ∈ codesW cs k, p.1 ≤ k := by
 intro k
 induction k with
 | zero => rw [codesW_zero]; simp
 | succ k ih =>
   rw [show codesW cs (k + 1) = codesW cs k ++ rowC cs k (cs.getD k 0).toNat from codesW_succ cs k]
   have hrow : ∀ n, (rowC cs k n).Nodup := by
    intro n
    unfold rowC
    refine List.Pairwise.map _ ?_ List.nodup_range
    intro a b hab h
    have := (Prod.mk.inj h).2
    omega
   refine ⟨List.nodup_append.2 ⟨ih.1, hrow _, ?_⟩, ?_⟩
   ·intro p hp q hq
    have h1 := ih.2 p hp
    simp only [rowC, List.mem_map, List.mem_range] at hq
    obtain ⟨i, _, rfl⟩ := hq
    rintro rfl
    simp at h1
    omega
   ·intro p hp
    rcases List.mem_append.1 hp with h | h
    ·have := ih.2 p h; omega
    ·simp only [rowC, List.mem_map, List.mem_range] at h
     obtain ⟨i, _, rfl⟩ := h
     simp
theorem take_mem {α : Type} {l : List α} {k : Nat} {x : α} (h : x ∈ l.take k) : ∃ j, ∃ hj : j < l.length, j < k ∧ x = l[j] := by
 obtain ⟨j, hj, rfl⟩ := List.mem_iff_getElem.1 h
 simp at hj
 exact ⟨j, by omega, by omega, by simp⟩
theorem nodup_at {α : Type} {l : List α} (h : l.Nodup) {i j : Nat} (hi : i < l.length) (hj : j < l.length) (hij : i ≠ j) : l[i] ≠ l[j] := fun e => hij ((List.getElem_inj h).1 e)
theorem zipC_apart (cs xs : List Int) (hxs : xs.Nodup) (hl : (codesW cs 16).length = xs.length) (k : Nat) (hk : k < (zipC (codesW cs 16) xs).length) :
 (∀ u ∈ (zipC (codesW cs 16) xs).take k, u.1 ≠ ((zipC (codesW cs 16) xs)[k]).1) ∧ (∀ u ∈ (zipC (codesW cs 16) xs).take k, u.2 ≠ ((zipC (codesW cs 16) xs)[k]).2) := by
 have hz : (zipC (codesW cs 16) xs).length = xs.length := by rw [zipC_len _ _ (by omega), hl]
 have hn := (codesW_nodup cs 16).1
 generalize codesW cs 16 = C at *
 constructor
 ·intro u hu
  obtain ⟨j, hj, hjk, rfl⟩ := take_mem hu
  rw [zipC_at C xs j (by omega) (by omega), zipC_at C xs k (by omega) (by omega)]
  exact nodup_at hxs _ _ (by omega)
 ·intro u hu
  obtain ⟨j, hj, hjk, rfl⟩ := take_mem hu
  rw [zipC_at C xs j (by omega) (by omega), zipC_at C xs k (by omega) (by omega)]
  intro h
  have h1 := (Prod.mk.inj h).1
  have h2 := (Prod.mk.inj h).2
  exact nodup_at hn (i := j) (j := k) (by omega) (by omega) (by omega) (Prod.ext (by omega) (by omega))
theorem toks_take_succ (Z : List Tok) (k : Nat) (h : k < Z.length) : Z.take (k + 1) = Z.take k ++ [Z[k]] := List.take_succ_eq_append_getElem h
end
def wordIn (D : List Bool) (p : Nat) (t : Tok) : Bool := decide (p + t.2.1.toNat ≤ D.length) && ((numB ((D.drop p).take t.2.1.toNat) : Int) == t.2.2)
def hasCode (long code : Int) (t : Tok) : Bool := t.2.1 == long && t.2.2 == code
def getGo (T : List Tok) (D : List Bool) (p : Nat) : Nat → Nat → Int × Nat × Int
 | 0, _ => (0, p, 4)
 | f + 1, long => if p + long ≤ D.length then (match T.find? (hasCode (long : Int) (numB ((D.drop p).take long) : Nat)) with | some t => (t.1, p + long, 0) | none => getGo T D p f (long + 1)) else (0, p, 3)
def symZ (T : List Tok) (D : List Bool) (p : Nat) : Int × Nat × Int :=
 match T.find? (wordIn D p) with | some t => (t.1, p + t.2.1.toNat, 0) | none => (0, p, if D.length < p + 16 then 3 else 4)
theorem symZ_some {T : List Tok} {D : List Bool} {p : Nat} {t : Tok} (h : T.find? (wordIn D p) = some t) : symZ T D p = (t.1, p + t.2.1.toNat, 0) := by unfold symZ; rw [h]
theorem symZ_none {T : List Tok} {D : List Bool} {p : Nat} (h : T.find? (wordIn D p) = none) : symZ T D p = (0, p, if D.length < p + 16 then 3 else 4) := by unfold symZ; rw [h]
theorem getGo_sym (T : List Tok) (D : List Bool) (p : Nat) (hs : T.Pairwise fun a b => a.2.1 ≤ b.2.1) (hfit : ∀ t ∈ T, ∃ l c : Nat, t.2 = ((l : Int), (c : Int)) ∧ 1 ≤ l ∧ l ≤ 16) :
 ∀ (f long : Nat), f + long = 17 → 1 ≤ long → p + long ≤ D.length + 1 → (∀ t ∈ T, t.2.1 < (long : Int) → wordIn D p t = false) → getGo T D p f long = symZ T D p
 | 0, long, h1, _, hp0, hno => by
   have hn : T.find? (wordIn D p) = none := by
    rw [List.find?_eq_none]
    intro t ht
    obtain ⟨l, c, e, h2, h3⟩ := hfit t ht
    have := hno t ht (by rw [e]; simp; omega)
    simp [this]
   rw [symZ_none hn, getGo, if_neg (by omega)]
 | f + 1, long, h1, h2, hp0, hno => by
   unfold getGo
   split
   ·next hle =>
    split
    ·next t ht =>
     obtain ⟨hp, l1, l2, rfl, has⟩ := List.find?_eq_some_iff_append.1 ht
     simp only [hasCode, Bool.and_eq_true, beq_iff_eq] at hp
     have hw : wordIn D p t = true := by simp [wordIn, hp.1, hp.2, hle]
     have hfind : (l1 ++ t :: l2).find? (wordIn D p) = some t := by
      rw [List.find?_eq_some_iff_append]
      refine ⟨hw, l1, l2, rfl, fun a ha => ?_⟩
      by_cases hwa : wordIn D p a = true
      ·have hq := has a ha
       have h3 : a.2.1 ≤ t.2.1 := (List.pairwise_append.1 hs).2.2 a ha t (by simp)
       have h4 : ¬ a.2.1 < (long : Int) := fun h => by rw [hno a (by simp [ha]) h] at hwa; cases hwa
       have h5 : a.2.1 = (long : Int) := by omega
       simp only [wordIn, h5, Int.toNat_natCast, Bool.and_eq_true, decide_eq_true_eq, beq_iff_eq] at hwa
       simp [hasCode, h5, hwa.2] at hq
      ·simpa using hwa
     rw [symZ_some hfind, hp.1]
     simp
    ·next hn =>
     refine getGo_sym T D p hs hfit f (long + 1) (by omega) (by omega) (by omega) fun t ht hl => ?_
     by_cases h3 : t.2.1 < (long : Int)
     ·exact hno t ht h3
     ·have h4 : t.2.1 = (long : Int) := by omega
      have h5 := List.find?_eq_none.1 hn t ht
      rw [← Bool.not_eq_true]
      intro hw
      simp only [wordIn, h4, Int.toNat_natCast, Bool.and_eq_true, decide_eq_true_eq, beq_iff_eq] at hw
      simp [hasCode, h4, hw.2] at h5
   ·next hle =>
    have hn : T.find? (wordIn D p) = none := by
     rw [List.find?_eq_none]
     intro t ht
     by_cases h3 : t.2.1 < (long : Int)
     ·simp [hno t ht h3]
     ·simp [wordIn]
      intro h4
      omega
    rw [symZ_none hn, if_pos (by omega)]
theorem getGo_out {T : List Tok} {D : List Bool} {p f long : Nat} (h : ¬ p + long ≤ D.length) : getGo T D p (f + 1) long = (0, p, 3) := by rw [getGo, if_neg h]
theorem getGo_yes {T : List Tok} {D : List Bool} {p f long : Nat} {t : Tok} (h : p + long ≤ D.length) (hf : T.find? (hasCode (long : Int) (numB ((D.drop p).take long) : Nat)) = some t) : getGo T D p (f + 1) long = (t.1, p + long, 0) := by rw [getGo, if_pos h, hf]
theorem getGo_no {T : List Tok} {D : List Bool} {p f long : Nat} (h : p + long ≤ D.length) (hf : T.find? (hasCode (long : Int) (numB ((D.drop p).take long) : Nat)) = none) : getGo T D p (f + 1) long = getGo T D p f (long + 1) := by rw [getGo, if_pos h, hf]
theorem getGo_end {T : List Tok} {D : List Bool} {p long : Nat} : getGo T D p 0 long = (0, p, 4) := by rw [getGo]
theorem codesW_sorted (cs : List Int) : ∀ k, (codesW cs k).Pairwise fun a b => a.1 ≤ b.1
 | 0 => by simp [codesW]
 | k + 1 => by
   unfold codesW
   rw [List.pairwise_append]
   refine ⟨codesW_sorted cs k, ?_, fun a ha b hb => ?_⟩
   ·unfold rowC
    rw [List.pairwise_iff_getElem]
    intro i j hi hj hij
    simp
   ·have h1 := (codesW_nodup cs k).2 a ha
    unfold rowC at hb
    obtain ⟨i, -, rfl⟩ := List.mem_map.1 hb
    simp only
    omega
theorem zipC_sorted (C : List (Nat × Nat)) (xs : List Int) (h : C.Pairwise fun a b => a.1 ≤ b.1) (hl : C.length = xs.length) : (zipC C xs).Pairwise fun a b => a.2.1 ≤ b.2.1 := by
 rw [List.pairwise_iff_getElem] at h ⊢
 intro i j hi hj hij
 have e : (zipC C xs).length = C.length := zipC_len _ _ (by omega)
 rw [zipC_at C xs i (by omega) (by omega) hi, zipC_at C xs j (by omega) (by omega) hj]
 have := h i j (by omega) (by omega) hij
 simp only
 omega
theorem zipC_fits (cs xs : List Int) (hl : cs.length = 16) (hok : okW cs = true) (hC : (codesW cs 16).length = xs.length) : ∀ t ∈ zipC (codesW cs 16) xs, ∃ l c : Nat, t.2 = ((l : Int), (c : Int)) ∧ 1 ≤ l ∧ l ≤ 16 ∧ c < 2 ^ l := by
 intro t ht
 obtain ⟨k, hk, rfl⟩ := List.getElem_of_mem ht
 have e : (zipC (codesW cs 16) xs).length = (codesW cs 16).length := zipC_len _ _ (by omega)
 rw [zipC_at _ xs k (by omega) (by omega) hk]
 obtain ⟨f1, f2, f3⟩ := codesW_fit cs hok hl 16 (by omega) _ (List.getElem_mem (show k < (codesW cs 16).length by omega))
 exact ⟨_, _, rfl, f1, f2, by omega⟩
theorem symZ_le {T : List Tok} {D : List Bool} {p : Nat} (hp : p ≤ D.length) : (symZ T D p).2.1 ≤ D.length := by
 unfold symZ
 split
 ·next t ht =>
  have := List.find?_some ht
  simp only [wordIn, Bool.and_eq_true, decide_eq_true_eq] at this
  exact this.1
 ·exact hp
theorem codeF_hasCode (T : List Tok) (l c : Int) : codeF T (l, c) = (T.find? (hasCode l c)).map fun t => Value.int .i64 t.1 := rfl
end Go.Proofs.YtkggcjdlpendfaaGreatDoor
namespace Go.Proofs
open Go.Shelf
def Tryz.lays125_ren : Go.Shelf.Ren := ⟨fun | 125 => 221 | 128 => 224 | 129 => 225 | n => n, fun | 46 => 116 | 3 => 3 | 51 => 261 | 53 => 201 | 4 => 4 | 5 => 5 | 9 => 9 | n => n, fun | n => n⟩
theorem Tryz.lays125 : Go.Proofs.Lays.n125 Tryz.prog Tryz.lays125_ren := {
 mixed := by kernel_rfl
 f125 := Tryz.func221.trans (congrArg some (by kernel_rfl))
 f128 := Tryz.func224.trans (congrArg some (by kernel_rfl))
 f129 := Tryz.func225.trans (congrArg some (by kernel_rfl))
 t3 := Tryz.underlying3
 a3 := Tryz.isAgg3
 z3 := Tryz.sizeOf3
 v3 := Tryz.zeroValue3
 t4 := Tryz.underlying4
 a4 := Tryz.isAgg4
 z4 := Tryz.sizeOf4
 v4 := Tryz.zeroValue4
 t5 := Tryz.underlying5
 a5 := Tryz.isAgg5
 z5 := Tryz.sizeOf5
 v5 := Tryz.zeroValue5
 t9 := Tryz.underlying9
 a9 := Tryz.isAgg9
 z9 := Tryz.sizeOf9
 v9 := Tryz.zeroValue9
 t46 := Tryz.underlying116
 a46 := Tryz.isAgg116
 z46 := Tryz.sizeOf116
 v46 := Tryz.zeroValue116
 t51 := Tryz.underlying261
 a51 := Tryz.isAgg261
 z51 := Tryz.sizeOf261
 v51 := Tryz.zeroValue261
 t53 := Tryz.underlying201
 a53 := Tryz.isAgg201
 z53 := Tryz.sizeOf201
 v53 := Tryz.zeroValue201 }
theorem Tryz.bits_Len (x : Int) (w : World) (h0 : 0 ≤ x) (h1 : x ≤ 18446744073709551615) :
 Calls Tryz.prog 221 #[.int .u64 x] w fun e w' => e = .returned (.int .i64 (Lib.bitLen x.toNat)) ∧ w' = w := Any.bits_Len Tryz.lays125 x w h0 h1
open Go.RowKit Go.Lib in

open Go.RowKit Go.Lib in

open Go.RowKit Go.Lib in

open Go.RowKit Go.Lib in

open Go.RowKit Go.Lib in

open Go.RowKit Go.Lib in

open Go.RowKit Go.Lib in

def Tryz.lays144_ren : Go.Shelf.Ren := ⟨fun | 144 => 175 | 143 => 196 | 219 => 211 | 217 => 217 | 225 => 218 | 224 => 202 | 267 => 219 | 266 => 222 | 314 => 223 | n => n, fun | 9 => 9 | 4 => 4 | 3 => 3 | 5 => 5 | 46 => 116 | 146 => 262 | 51 => 261 | n => n, fun | 1 => 0 | n => n⟩
theorem Tryz.lays144 : Go.Proofs.Lays.n144 Tryz.prog Tryz.lays144_ren := {
 mixed := by kernel_rfl
 f143 := Tryz.func196.trans (congrArg some (by kernel_rfl))
 f144 := Tryz.func175.trans (congrArg some (by kernel_rfl))
 f217 := Tryz.func217.trans (congrArg some (by kernel_rfl))
 f219 := Tryz.func211.trans (congrArg some (by kernel_rfl))
 f224 := Tryz.func202.trans (congrArg some (by kernel_rfl))
 f225 := Tryz.func218.trans (congrArg some (by kernel_rfl))
 f266 := Tryz.func222.trans (congrArg some (by kernel_rfl))
 f267 := Tryz.func219.trans (congrArg some (by kernel_rfl))
 f314 := Tryz.func223.trans (congrArg some (by kernel_rfl))
 t3 := Tryz.underlying3
 a3 := Tryz.isAgg3
 z3 := Tryz.sizeOf3
 v3 := Tryz.zeroValue3
 t4 := Tryz.underlying4
 a4 := Tryz.isAgg4
 z4 := Tryz.sizeOf4
 v4 := Tryz.zeroValue4
 t5 := Tryz.underlying5
 a5 := Tryz.isAgg5
 z5 := Tryz.sizeOf5
 v5 := Tryz.zeroValue5
 t9 := Tryz.underlying9
 a9 := Tryz.isAgg9
 z9 := Tryz.sizeOf9
 v9 := Tryz.zeroValue9
 t46 := Tryz.underlying116
 a46 := Tryz.isAgg116
 z46 := Tryz.sizeOf116
 v46 := Tryz.zeroValue116
 t51 := Tryz.underlying261
 a51 := Tryz.isAgg261
 z51 := Tryz.sizeOf261
 v51 := Tryz.zeroValue261
 t146 := Tryz.underlying262
 a146 := Tryz.isAgg262
 z146 := Tryz.sizeOf262
 v146 := Tryz.zeroValue262
 g1 := by kernel_rfl }
open Go.RowKit Go.Lib in

theorem Tryz.strings_Contains_one (s : ByteArray) (c : UInt8) (w : World) :
 Calls Tryz.prog 175 #[.string s, .string ⟨#[c]⟩] w fun e w' => e = .returned (.bool (decide (0 ≤ Lib.indexByte s.data.toList c))) ∧ w' = w := Any.strings_Contains_one Tryz.lays144 s c w
open Go.RowKit Go.Lib in

open Go.RowKit Go.Lib in

open Go.RowKit Go.Lib in

def Tryz.lays185_ren : Go.Shelf.Ren := ⟨fun | 185 => 178 | 187 => 200 | 115 => 85 | 253 => 201 | 224 => 202 | 254 => 203 | 255 => 213 | 291 => 214 | n => n, fun | 37 => 45 | 3 => 3 | 4 => 4 | 0 => 0 | 5 => 5 | 46 => 116 | 9 => 9 | 146 => 262 | 51 => 261 | n => n, fun | 1 => 0 | n => n⟩
theorem Tryz.lays185 : Go.Proofs.Lays.n185 Tryz.prog Tryz.lays185_ren := {
 mixed := by kernel_rfl
 f115 := Tryz.func85.trans (congrArg some (by kernel_rfl))
 f185 := Tryz.func178.trans (congrArg some (by kernel_rfl))
 f187 := Tryz.func200.trans (congrArg some (by kernel_rfl))
 f224 := Tryz.func202.trans (congrArg some (by kernel_rfl))
 f253 := Tryz.func201.trans (congrArg some (by kernel_rfl))
 f254 := Tryz.func203.trans (congrArg some (by kernel_rfl))
 f255 := Tryz.func213.trans (congrArg some (by kernel_rfl))
 f291 := Tryz.func214.trans (congrArg some (by kernel_rfl))
 t0 := Tryz.underlying0
 a0 := Tryz.isAgg0
 z0 := Tryz.sizeOf0
 v0 := Tryz.zeroValue0
 t3 := Tryz.underlying3
 a3 := Tryz.isAgg3
 z3 := Tryz.sizeOf3
 v3 := Tryz.zeroValue3
 t4 := Tryz.underlying4
 a4 := Tryz.isAgg4
 z4 := Tryz.sizeOf4
 v4 := Tryz.zeroValue4
 t5 := Tryz.underlying5
 a5 := Tryz.isAgg5
 z5 := Tryz.sizeOf5
 v5 := Tryz.zeroValue5
 t9 := Tryz.underlying9
 a9 := Tryz.isAgg9
 z9 := Tryz.sizeOf9
 v9 := Tryz.zeroValue9
 t37 := Tryz.underlying45
 a37 := Tryz.isAgg45
 z37 := Tryz.sizeOf45
 v37 := Tryz.zeroValue45
 t46 := Tryz.underlying116
 a46 := Tryz.isAgg116
 z46 := Tryz.sizeOf116
 v46 := Tryz.zeroValue116
 t51 := Tryz.underlying261
 a51 := Tryz.isAgg261
 z51 := Tryz.sizeOf261
 v51 := Tryz.zeroValue261
 t146 := Tryz.underlying262
 a146 := Tryz.isAgg262
 z146 := Tryz.sizeOf262
 v146 := Tryz.zeroValue262
 g1 := by kernel_rfl }
open Go.RowKit Go.Lib in

open Go.RowKit Go.Lib in

open Go.RowKit Go.Lib in

open Go.RowKit Go.Lib in

open Go.RowKit Go.Lib in

def Tryz.laysSlB13_ren : Go.Shelf.Ren := ⟨fun | 13 => 177 | 24 => 198 | 25 => 199 | 12 => 178 | 31 => 212 | 19 => 200 | 20 => 85 | 21 => 201 | 22 => 202 | 23 => 203 | 29 => 213 | 30 => 214 | n => n, fun | 22 => 45 | 3 => 3 | 4 => 4 | 0 => 0 | 5 => 5 | 9 => 9 | 33 => 116 | 40 => 262 | 39 => 261 | n => n, fun | 0 => 0 | n => n⟩
theorem Tryz.laysSlB13 : Go.Proofs.SlLaysB.n13 Tryz.prog Tryz.laysSlB13_ren := {
 mixed := by kernel_rfl
 f13 := Tryz.func177.trans (congrArg some (by kernel_rfl))
 f25 := Tryz.func199.trans (congrArg some (by kernel_rfl))
 t0 := Tryz.underlying0
 a0 := Tryz.isAgg0
 z0 := Tryz.sizeOf0
 v0 := Tryz.zeroValue0
 t3 := Tryz.underlying3
 a3 := Tryz.isAgg3
 z3 := Tryz.sizeOf3
 v3 := Tryz.zeroValue3
 t4 := Tryz.underlying4
 a4 := Tryz.isAgg4
 z4 := Tryz.sizeOf4
 v4 := Tryz.zeroValue4
 t5 := Tryz.underlying5
 a5 := Tryz.isAgg5
 z5 := Tryz.sizeOf5
 v5 := Tryz.zeroValue5
 t22 := Tryz.underlying45
 a22 := Tryz.isAgg45
 z22 := Tryz.sizeOf45
 v22 := Tryz.zeroValue45 }
open Go.RowKit Go.Lib in

open Go.RowKit Go.Lib in

theorem Tryz.bytes_Count_one_at (a : Addr) (n c b2 o2 d : Nat) (xs : List Int) (cv : Int) (w : World) (hx : xs.length = n) (hc : ∀ i, i < n → w.cell? (a.add i) = some (.int .u8 (xs.getD i 0))) (hc2 : w.cell? ⟨b2, o2, none⟩ = some (.int .u8 cv)) :
 Calls Tryz.prog 177 #[.slice (some a) n c, .slice (some ⟨b2, o2, none⟩) 1 d] w fun e w' => e = .returned (.int .i64 (Lib.countByte (Lib.bytesOf xs) cv.toNat.toUInt8)) ∧ w' = w := Any.bytes_Count_one_at Tryz.laysSlB13 a n c b2 o2 d xs cv w hx hc hc2
open Go.RowKit Go.Lib in

theorem Tryz.bytes_Count_one_nil (b2 o2 d : Nat) (cv : Int) (w : World) (hc2 : w.cell? ⟨b2, o2, none⟩ = some (.int .u8 cv)) :
 Calls Tryz.prog 177 #[.slice none 0 0, .slice (some ⟨b2, o2, none⟩) 1 d] w fun e w' => e = .returned (.int .i64 0) ∧ w' = w := Any.bytes_Count_one_nil Tryz.laysSlB13 b2 o2 d cv w hc2
open Go.RowKit Go.Lib in

open Go.RowKit Go.Lib in

open Go.Proofs Go.RowKit Go.Lib in

open Go.Proofs Go.RowKit Go.Lib in

open Go.RowKit Go.Lib in

open Go.RowKit Go.Lib in

open Go.RowKit Go.Lib in

open Go.Proofs Go.RowKit Go.Lib in

theorem Tryz.bytes_Index_at (a1 a2 : Addr) (n c1 k c2 : Nat) (xs ys : List Int) (m : Int) (w : World) (hx : xs.length = n) (hy : ys.length = k) (hr1 : ∀ x ∈ xs, 0 ≤ x ∧ x < 256) (hr2 : ∀ y ∈ ys, 0 ≤ y ∧ y < 256) (hc1 : ∀ i, i < n → w.cell? (a1.add i) = some (.int .u8 (xs.getD i 0))) (hc2 : ∀ i, i < k → w.cell? (a2.add i) = some (.int .u8 (ys.getD i 0))) (hcap : n ≤ c1) (hs : n < 4294967281) (hk : k ≤ 9223372036854775807) (hm : w.cell? ⟨0, 0, none⟩ = some (.int .i64 m)) :
 Calls Tryz.prog 178 #[.slice (some a1) n c1, .slice (some a2) k c2] w fun e w' => e = .returned (.int .i64 (Lib.index (Lib.bytesOf xs) (Lib.bytesOf ys))) ∧ ∃ q, w' = w.drewN q := Any.bytes_Index_at Tryz.lays185 a1 a2 n c1 k c2 xs ys m w hx hy hr1 hr2 hc1 hc2 hcap hs hk hm
open Go.Proofs Go.RowKit Go.Lib in

open Go.Proofs Go.RowKit Go.Lib in

def Tryz.laysSlC13_ren : Go.Shelf.Ren := ⟨fun | 13 => 177 | 24 => 198 | 25 => 199 | 12 => 178 | 31 => 212 | 19 => 200 | 20 => 85 | 21 => 201 | 22 => 202 | 23 => 203 | 29 => 213 | 30 => 214 | n => n, fun | 22 => 45 | 3 => 3 | 4 => 4 | 0 => 0 | 5 => 5 | 9 => 9 | 33 => 116 | 40 => 262 | 39 => 261 | n => n, fun | 0 => 0 | n => n⟩
theorem Tryz.laysSlC13 : Go.Proofs.SlLaysC.n13 Tryz.prog Tryz.laysSlC13_ren := {
 mixed := by kernel_rfl
 f12 := Tryz.func178.trans (congrArg some (by kernel_rfl))
 f13 := Tryz.func177.trans (congrArg some (by kernel_rfl))
 f19 := Tryz.func200.trans (congrArg some (by kernel_rfl))
 f20 := Tryz.func85.trans (congrArg some (by kernel_rfl))
 f21 := Tryz.func201.trans (congrArg some (by kernel_rfl))
 f22 := Tryz.func202.trans (congrArg some (by kernel_rfl))
 f23 := Tryz.func203.trans (congrArg some (by kernel_rfl))
 f25 := Tryz.func199.trans (congrArg some (by kernel_rfl))
 f29 := Tryz.func213.trans (congrArg some (by kernel_rfl))
 f30 := Tryz.func214.trans (congrArg some (by kernel_rfl))
 t0 := Tryz.underlying0
 a0 := Tryz.isAgg0
 z0 := Tryz.sizeOf0
 v0 := Tryz.zeroValue0
 t3 := Tryz.underlying3
 a3 := Tryz.isAgg3
 z3 := Tryz.sizeOf3
 v3 := Tryz.zeroValue3
 t4 := Tryz.underlying4
 a4 := Tryz.isAgg4
 z4 := Tryz.sizeOf4
 v4 := Tryz.zeroValue4
 t5 := Tryz.underlying5
 a5 := Tryz.isAgg5
 z5 := Tryz.sizeOf5
 v5 := Tryz.zeroValue5
 t9 := Tryz.underlying9
 a9 := Tryz.isAgg9
 z9 := Tryz.sizeOf9
 v9 := Tryz.zeroValue9
 t22 := Tryz.underlying45
 a22 := Tryz.isAgg45
 z22 := Tryz.sizeOf45
 v22 := Tryz.zeroValue45
 t33 := Tryz.underlying116
 a33 := Tryz.isAgg116
 z33 := Tryz.sizeOf116
 v33 := Tryz.zeroValue116
 t39 := Tryz.underlying261
 a39 := Tryz.isAgg261
 z39 := Tryz.sizeOf261
 v39 := Tryz.zeroValue261
 t40 := Tryz.underlying262
 a40 := Tryz.isAgg262
 z40 := Tryz.sizeOf262
 v40 := Tryz.zeroValue262
 g0 := by kernel_rfl }
open Go.RowKit Go.Lib in

theorem Tryz.bytes_Count_at (a1 a2 : Addr) (n c1 k c2 : Nat) (xs ys : List Int) (m : Int) (w : World) (hx : xs.length = n) (hy : ys.length = k) (hr1 : ∀ x ∈ xs, 0 ≤ x ∧ x < 256) (hr2 : ∀ y ∈ ys, 0 ≤ y ∧ y < 256) (hc1 : ∀ i, i < n → w.cell? (a1.add i) = some (.int .u8 (xs.getD i 0))) (hc2 : ∀ i, i < k → w.cell? (a2.add i) = some (.int .u8 (ys.getD i 0))) (hcap : n ≤ c1) (hs : n < 4294967281) (hk : k ≤ 9223372036854775807) (h2 : 2 ≤ k) (hm : w.cell? ⟨0, 0, none⟩ = some (.int .i64 m)) :
 Calls Tryz.prog 177 #[.slice (some a1) n c1, .slice (some a2) k c2] w fun e w' => e = .returned (.int .i64 (Lib.count (Lib.bytesOf xs) (Lib.bytesOf ys))) ∧ ∃ q, w' = w.drewN q := Any.bytes_Count_at Tryz.laysSlC13 a1 a2 n c1 k c2 xs ys m w hx hy hr1 hr2 hc1 hc2 hcap hs hk h2 hm
open Go.RowKit Go.Lib in

theorem Tryz.bytes_Count_nil (p2 : Option Addr) (k c2 : Nat) (w : World) (h2 : 2 ≤ k) (hk : k ≤ 9223372036854775807) :
 Calls Tryz.prog 177 #[.slice none 0 0, .slice p2 k c2] w fun e w' => e = .returned (.int .i64 0) ∧ w' = w := Any.bytes_Count_nil Tryz.laysSlC13 p2 k c2 w h2 hk
end Go.Proofs
namespace Go.Proofs.YtkggcjdlpendfaaGreatDoor
set_option linter.unusedVariables false
set_option linter.unusedSimpArgs false
open Go.RowKit
theorem calls_back {P : Program} {f : FuncId} {args : Array Value} {w : World} {v : Value} (h : Calls P f args w fun e w' => e = .returned v ∧ w' = w) : Calls P f args w fun e w' => e = .returned v ∧ w = w' :=
 h.mono fun _ _ ⟨a, b⟩ => ⟨a, b.symm⟩
def szN (n : Int) : Nat := Lib.bitLen n.natAbs
theorem szN_spec (n : Int) (h1 : -4095 ≤ n) (h2 : n ≤ 4095) : szN n ≤ 12 ∧ n.natAbs < 2 ^ szN n ∧ (n ≠ 0 → 1 ≤ szN n ∧ 2 ^ (szN n - 1) ≤ n.natAbs) := by
 have hb : n.natAbs < 2 ^ 12 := by omega
 refine ⟨Lib.bitLen_le _ 12 (by omega) hb, ?_, fun h0 => ?_⟩
 ·by_cases h0 : n = 0
  ·subst h0; decide
  ·exact (Lib.bitLenAux_bounds 64 n.natAbs (by omega) (by omega)).2.2
 ·have := Lib.bitLenAux_bounds 64 n.natAbs (by omega) (by omega)
  exact ⟨this.1, this.2.1⟩
theorem szN_uniq (n : Int) (h1 : -4095 ≤ n) (h2 : n ≤ 4095) (k : Nat) (ha : n.natAbs < 2 ^ k) (hb : ∀ j, j < k → 2 ^ j ≤ n.natAbs) : k = szN n := by
 obtain ⟨-, g2, g3⟩ := szN_spec n h1 h2
 rcases Nat.lt_trichotomy k (szN n) with h | h | h
 ·by_cases h0 : n = 0
  ·subst h0
   have : szN 0 = 0 := by decide
   omega
  ·have := (g3 h0).2
   have := Nat.pow_le_pow_right (n := 2) (by omega) (show k ≤ szN n - 1 by omega)
   omega
 ·exact h
 ·have := hb (szN n) h
  omega
def bitsZ (n : Int) : Int × Int × Int := if -4095 ≤ n ∧ n ≤ 4095 then (szN n, if n < 0 then n + 2 ^ szN n - 1 else n, 0) else (0, 0, 1)
set_option maxHeartbeats 400000 in
theorem sizeBits_any (n : Int) (w : World) : Calls Tryz.prog 216 #[.int .i64 n] w fun e w' => e = .returned (.tuple #[.int .i64 (bitsZ n).1, .int .i64 (bitsZ n).2.1, .int .i64 (bitsZ n).2.2]) ∧ w = w' := by
 by_cases hin : -4095 ≤ n ∧ n ≤ 4095
 ·obtain ⟨h1, h2⟩ := hin
  obtain ⟨g1, -, -⟩ := szN_spec n h1 h2
  have hl := hid_ (fun W => calls_back (Tryz.bits_Len n.natAbs W (by omega) (by omega)))
  have hf : bitsZ n = ((szN n : Int), (if n < 0 then n + 2 ^ szN n - 1 else n), (0 : Int)) := by unfold bitsZ; rw [if_pos ⟨h1, h2⟩]
  rw [hf]
  have hsz : Lib.bitLen ((n.natAbs : Int)).toNat = szN n := by simp [szN]
  have hmx : (n.natAbs : Int) = max n (-n) := by omega
  rw [hsz, hmx] at hl
  clear hf hsz hmx
  have p1 := pow_le (szN n) 12 g1
  have p2 := pow_pos' (szN n)
  have p3 : (2 : Int) ^ 12 = 4096 := by decide
  rw [p3] at p1
  clear p3
  generalize szN n = s at *
  by_cases hn : n < 0
  ·rw [if_pos hn]
   go_enter Tryz.func216, Tryz.ntmps216
   go_wp2_with (go_at_call 221; refine (hl.out _).mono ?_; rintro e w' ⟨rfl, rfl⟩)
   refine bodyPost_ret (results_tmp3 rfl _ _ _) rfl ?_
   refine ⟨?_, rfl⟩
   have e : n + ((2 : Int) ^ s - 1) = n + 2 ^ s - 1 := by omega
   show Ending.returned (Value.tuple #[Value.int .i64 s, Value.int .i64 (n + ((2 : Int) ^ s - 1)), Value.int .i64 0]) = _
   rw [e]
  ·rw [if_neg hn]
   go_enter Tryz.func216, Tryz.ntmps216
   go_wp2_with (go_at_call 221; refine (hl.out _).mono ?_; rintro e w' ⟨rfl, rfl⟩)
   refine bodyPost_ret (results_tmp3 rfl _ _ _) rfl ?_
   exact ⟨rfl, rfl⟩
 ·have hf : bitsZ n = (0, 0, 1) := by unfold bitsZ; rw [if_neg hin]
  rw [hf]
  clear hf
  by_cases hn : n ≤ -4096
  ·have hd : decide (n ≤ -4096) = true := by simpa using hn
   clear hin
   go_enter Tryz.func216, Tryz.ntmps216
   go_wp2_with fail
   refine bodyPost_ret (results_tmp3 rfl _ _ _) rfl ?_
   exact ⟨rfl, rfl⟩
  ·have hd : decide (n ≤ -4096) = false := by simpa using hn
   have h4 : 4096 ≤ n := by omega
   clear hin
   go_enter Tryz.func216, Tryz.ntmps216
   go_wp2_with fail
   refine bodyPost_ret (results_tmp3 rfl _ _ _) rfl ?_
   exact ⟨rfl, rfl⟩
set_option maxHeartbeats 400000 in
theorem rsizeBits_any (n : Int) (w : World) : Calls Tryz.prog 186 #[.int .i64 n] w fun e w' => e = .returned (.tuple #[.int .i64 (bitsZ n).1, .int .i64 (bitsZ n).2.1, .int .i64 (bitsZ n).2.2]) ∧ w = w' := by
 by_cases hin : -4095 ≤ n ∧ n ≤ 4095
 ·have hb := inB_iff.2 hin
  obtain ⟨h1, h2⟩ := hin
  have HS := hid_ (szN_spec n h1 h2)
  have HU := hid_ (szN_uniq n h1 h2)
  have hf : bitsZ n = ((szN n : Int), (if n < 0 then n + 2 ^ szN n - 1 else n), (0 : Int)) := by unfold bitsZ; rw [if_pos ⟨h1, h2⟩]
  have HF := hid_ hf
  have HM : Hid ((n.natAbs : Int) = max n (-n)) := hid_ (by omega)
  clear hf
  go_enter Tryz.func186, Tryz.ntmps186
  go_wp2_with (go_at_call 54; refine (outside_any _ _ _ _).mono ?_; rintro e w' ⟨rfl, rfl⟩)
  go_loop [5] (fun i => ∃ k : Nat, k ≤ szN n ∧ i = .int .i64 k) (fun i => 13 - (intOf i).toNat)
  case atStart => exact ⟨0, by omega, rfl⟩
  case round =>
   obtain ⟨k, hk, rfl⟩ := hrel
   have hk12 : k ≤ 12 := by have := HS.out.1; omega
   have p1 := pow_le k 12 hk12
   have p2 := pow_pos' k
   have p3 : (2 : Int) ^ 12 = 4096 := by decide
   rw [p3] at p1
   clear p3
   by_cases hlt : (2 : Int) ^ k ≤ max n (-n)
   ·have hks : k < szN n := by
     rcases Nat.lt_or_ge k (szN n) with h | h
     ·exact h
     ·have e : k = szN n := by omega
      have h9 := HS.out.2.1
      have h8 := HM.out
      rw [← e] at h9
      have h7 : (n.natAbs : Int) < 2 ^ k := by exact_mod_cast h9
      omega
    go_wp2_with (go_at_call 128; refine (power_any _ _ (by omega)).mono ?_; rintro e w' ⟨rfl, rfl⟩)
    go_round
    case rel => exact ⟨k + 1, by omega, by go_num⟩
    case measure => simp [intOf]; omega
   ·have hks : k = szN n := by
     have h8 := HM.out
     have h7 : (n.natAbs : Int) < 2 ^ k := by omega
     have h6 : n.natAbs < 2 ^ k := by exact_mod_cast h7
     rcases Nat.lt_or_ge k (szN n) with h | h
     ·have h9 := HS.out.2.2
      by_cases h0 : n = 0
      ·subst h0
       have : szN 0 = 0 := by decide
       omega
      ·have h5 := (h9 h0).2
       have := Nat.pow_le_pow_right (n := 2) (by omega) (show k ≤ szN n - 1 by omega)
       omega
     ·omega
    have HK := hid_ hks
    clear hks
    by_cases hn : n < 0
    ·go_wp2_with (go_at_call 128; refine (power_any _ _ (by omega)).mono ?_; rintro e w' ⟨rfl, rfl⟩)
     refine bodyPost_ret (results_tmp3 rfl _ _ _) rfl ?_
     refine ⟨?_, rfl⟩
     rw [HF.out, ← HK.out, if_pos hn]
     rfl
    ·go_wp2_with (go_at_call 128; refine (power_any _ _ (by omega)).mono ?_; rintro e w' ⟨rfl, rfl⟩)
     refine bodyPost_ret (results_tmp3 rfl _ _ _) rfl ?_
     refine ⟨?_, rfl⟩
     rw [HF.out, ← HK.out, if_neg (by omega)]
     rfl
 ·have hb : inB n (-4095) 4095 = false := inB_not.2 (by omega)
  have hf : bitsZ n = (0, 0, 1) := by unfold bitsZ; rw [if_neg hin]
  rw [hf]
  clear hf hin
  go_enter Tryz.func186, Tryz.ntmps186
  go_wp2_with (go_at_call 54; refine (outside_any _ _ _ _).mono ?_; rintro e w' ⟨rfl, rfl⟩)
  refine bodyPost_ret (results_tmp3 rfl _ _ _) rfl ?_
  exact ⟨rfl, rfl⟩
def tokZ (r n : Int) : Tok := (16 * r + (bitsZ n).1, (bitsZ n).1, (bitsZ n).2.1)
def long : Tok := (240, 0, 0)
def stepT (s : List Tok × Nat) (n : Int) : List Tok × Nat := if n = 0 then (s.1, s.2 + 1) else (s.1 ++ List.replicate (s.2 / 16) long ++ [tokZ ((s.2 % 16 : Nat) : Int) n], 0)
def accT (t0 : Tok) (l : List Int) (k : Nat) : List Tok × Nat := (l.take k).foldl stepT ([t0], 0)
theorem accT_zero (t0 : Tok) (l : List Int) : accT t0 l 0 = ([t0], 0) := rfl
theorem accT_succ (t0 : Tok) (l : List Int) (k : Nat) (h : k < l.length) : accT t0 l (k + 1) = stepT (accT t0 l k) l[k] := by
 unfold accT
 rw [List.take_succ_eq_append_getElem h, List.foldl_append]
 rfl
theorem accT_bd (t0 : Tok) (l : List Int) : ∀ k, k ≤ l.length → k ≤ 64 → (accT t0 l k).2 ≤ k ∧ (accT t0 l k).1.length ≤ 1 + 64 * k := by
 intro k
 induction k with
 | zero => intro _ _; simp [accT_zero]
 | succ k ih =>
   intro h1 h2
   obtain ⟨a, b⟩ := ih (by omega) (by omega)
   rw [accT_succ t0 l k (by omega)]
   unfold stepT
   split
   ·simp; omega
   ·simp; omega
theorem stepT_zero {s : List Tok × Nat} {n : Int} (h : n = 0) : stepT s n = (s.1, s.2 + 1) := by unfold stepT; rw [if_pos h]
theorem stepT_one {s : List Tok × Nat} {n : Int} (h : n ≠ 0) : stepT s n = (s.1 ++ List.replicate (s.2 / 16) long ++ [tokZ ((s.2 % 16 : Nat) : Int) n], 0) := by unfold stepT; rw [if_neg h]
def tokensZ (before : Int) (z : List Int) : List Tok :=
 let s := accT (tokZ 0 (z.getD 0 0 - before)) (z.drop 1) 63
 if 0 < s.2 then s.1 ++ [(0, 0, 0)] else s.1
def backZ (k : Nat) (v : Int) : Int := if 0 < k ∧ v < 2 ^ (k - 1) then v - (2 ^ k - 1) else v
theorem backZ_hi (k : Nat) (v : Int) (hk : k ≤ 12) (h0 : 0 ≤ v) (h1 : v < 2 ^ k) (h : k = 0 ∨ 2 ^ (k - 1) ≤ v) : bitsZ v = ((k : Int), v, 0) ∧ backZ k v = v := by
 have p1 := pow_le k 12 hk
 rw [show (2 : Int) ^ 12 = 4096 from by decide] at p1
 have e : k = szN v := by
  refine szN_uniq v (by omega) (by omega) k ?_ ?_
  ·have : (v.natAbs : Int) < 2 ^ k := by omega
   exact_mod_cast this
  ·intro j hj
   have h2 : (2 : Int) ^ j ≤ 2 ^ (k - 1) := pow_le j (k - 1) (by omega)
   have : (2 : Int) ^ j ≤ (v.natAbs : Int) := by rcases h with h | h <;> omega
   exact_mod_cast this
 refine ⟨?_, ?_⟩
 ·unfold bitsZ; rw [if_pos (by omega), if_neg (by omega), ← e]
 ·unfold backZ; rw [if_neg (by omega)]
theorem backZ_lo (k : Nat) (v : Int) (hk : k ≤ 12) (h0 : 0 ≤ v) (hk0 : 0 < k) (h : v < 2 ^ (k - 1)) :
 (∃ s : Nat, s ≠ k ∧ bitsZ v = ((s : Int), v, 0)) ∧ bitsZ (v - 2 ^ k + 1) = ((k : Int), v, 0) ∧ backZ k v = v - (2 ^ k - 1) := by
 have p1 := pow_le k 12 hk
 rw [show (2 : Int) ^ 12 = 4096 from by decide] at p1
 have p2 : (2 : Int) ^ k = 2 * 2 ^ (k - 1) := by
  obtain ⟨j, rfl⟩ : ∃ j, k = j + 1 := ⟨k - 1, by omega⟩
  rw [Int.pow_succ]; simp; omega
 have p3 := pow_pos' (k - 1)
 refine ⟨⟨szN v, ?_, ?_⟩, ?_, ?_⟩
 ·intro e
  obtain ⟨-, -, g3⟩ := szN_spec v (by omega) (by omega)
  by_cases hv : v = 0
  ·subst hv
   have : szN 0 = 0 := by decide
   omega
  ·have := (g3 hv).2
   rw [e] at this
   have : (2 : Int) ^ (k - 1) ≤ (v.natAbs : Int) := by exact_mod_cast this
   omega
 ·unfold bitsZ; rw [if_pos (by omega), if_neg (by omega)]
 ·have e : k = szN (v - 2 ^ k + 1) := by
   refine szN_uniq _ (by omega) (by omega) k ?_ ?_
   ·have : ((v - 2 ^ k + 1).natAbs : Int) < 2 ^ k := by omega
    exact_mod_cast this
   ·intro j hj
    have h2 : (2 : Int) ^ j ≤ 2 ^ (k - 1) := pow_le j (k - 1) (by omega)
    have : (2 : Int) ^ j ≤ ((v - 2 ^ k + 1).natAbs : Int) := by omega
    exact_mod_cast this
  unfold bitsZ
  rw [if_pos (by omega), if_pos (by omega), ← e]
  simp; omega
 ·unfold backZ; rw [if_pos ⟨hk0, h⟩]
set_option maxHeartbeats 400000 in
theorem back_in (k : Nat) (v : Nat) (w : World) (hk : k ≤ 12) (h1 : (v : Int) < 2 ^ k) : Calls Tryz.prog 188 #[.int .i64 k, .int .i64 v] w fun e w' => e = .returned (.tuple #[.int .i64 (backZ k v), .int .i64 0]) ∧ w = w' := by
 have p1 := pow_le k 12 hk
 rw [show (2 : Int) ^ 12 = 4096 from by decide] at p1
 have p2 := pow_pos' k
 by_cases h0 : k = 0
 ·subst h0
  have : v = 0 := by simp at h1; omega
  subst this
  go_enter Tryz.func188, Tryz.ntmps188
  go_wp2_with fail
  go_ret2
  exact ⟨rfl, rfl⟩
 ·obtain ⟨j, rfl⟩ : ∃ j, k = j + 1 := ⟨k - 1, by omega⟩
  by_cases hv : (v : Int) < 2 ^ j
  ·have hq : ((v : Int) / 2 ^ j == 0) = true := by rw [Int.ediv_eq_zero_of_lt (by omega) hv]; rfl
   have HF := hid_ (show backZ (j + 1) v = v - (2 ^ (j + 1) - 1) by unfold backZ; rw [if_pos ⟨by omega, hv⟩])
   clear hv
   go_enter Tryz.func188, Tryz.ntmps188
   go_wp2_with fail
   go_ret2
   exact ⟨by rw [HF.out]; rfl, rfl⟩
  ·have hq : ((v : Int) / 2 ^ j == 0) = false := by
    have p3 := pow_pos' j
    have : (1 : Int) ≤ v / 2 ^ j := (Int.le_ediv_iff_mul_le (by omega)).2 (by omega)
    simp; omega
   have HF := hid_ (show backZ (j + 1) v = v by unfold backZ; rw [if_neg (by simp; omega)])
   clear hv
   go_enter Tryz.func188, Tryz.ntmps188
   go_wp2_with fail
   go_ret2
   exact ⟨by rw [HF.out]; rfl, rfl⟩
theorem back_out (n v : Int) (w : World) (h : n < 0 ∨ (¬ n < 0 ∧ 12 < n) ∨ (0 ≤ n ∧ n ≤ 12 ∧ v < 0) ∨ (0 ≤ n ∧ n ≤ 12 ∧ 0 ≤ v ∧ 2 ^ n.toNat ≤ v)) : Calls Tryz.prog 188 #[.int .i64 n, .int .i64 v] w fun e w' => e = .returned (.tuple #[.int .i64 0, .int .i64 1]) ∧ w = w' := by
 rcases h with h | ⟨h1, h⟩ | ⟨h1, h2, h⟩ | ⟨h1, h2, h3, h⟩
 ·go_enter Tryz.func188, Tryz.ntmps188
  go_wp2_with fail
  go_ret2
  exact ⟨rfl, rfl⟩
 ·go_enter Tryz.func188, Tryz.ntmps188
  go_wp2_with fail
  go_ret2
  exact ⟨rfl, rfl⟩
 ·go_enter Tryz.func188, Tryz.ntmps188
  go_wp2_with fail
  go_ret2
  exact ⟨rfl, rfl⟩
 ·obtain ⟨k, rfl⟩ : ∃ k : Nat, n = k := ⟨n.toNat, by omega⟩
  have hk : k ≤ 12 := by omega
  rw [Int.toNat_natCast] at h
  have p1 := pow_le k 12 hk
  rw [show (2 : Int) ^ 12 = 4096 from by decide] at p1
  have p2 := pow_pos' k
  go_enter Tryz.func188, Tryz.ntmps188
  go_wp2_with fail
  go_ret2
  exact ⟨rfl, rfl⟩
def backR (n v : Int) : Int × Int := if 0 ≤ n ∧ n ≤ 12 ∧ 0 ≤ v ∧ v < 2 ^ n.toNat then (backZ n.toNat v, 0) else (0, 1)
theorem back_any (n v : Int) (w : World) : Calls Tryz.prog 188 #[.int .i64 n, .int .i64 v] w fun e w' => e = .returned (.tuple #[.int .i64 (backR n v).1, .int .i64 (backR n v).2]) ∧ w = w' := by
 unfold backR
 by_cases h : 0 ≤ n ∧ n ≤ 12 ∧ 0 ≤ v ∧ v < 2 ^ n.toNat
 ·rw [if_pos h]
  obtain ⟨h1, h2, h3, h4⟩ := h
  obtain ⟨k, rfl⟩ : ∃ k : Nat, n = k := ⟨n.toNat, by omega⟩
  obtain ⟨v, rfl⟩ : ∃ k : Nat, v = k := ⟨v.toNat, by omega⟩
  rw [Int.toNat_natCast] at h4 ⊢
  exact back_in k v w (by omega) h4
 ·rw [if_neg h]
  exact back_out n v w (by omega)
set_option maxHeartbeats 400000 in
theorem rback_in (k : Nat) (v : Int) (w : World) (hk : k ≤ 12) (h0 : 0 ≤ v) (h1 : v < 2 ^ k) : Calls Tryz.prog 192 #[.int .i64 k, .int .i64 v] w fun e w' => e = .returned (.tuple #[.int .i64 (backZ k v), .int .i64 0]) ∧ Ext w w' := by
 have p1 := pow_le k 12 hk
 rw [show (2 : Int) ^ 12 = 4096 from by decide] at p1
 have p2 := pow_pos' k
 have b1 : inB (k : Int) 0 12 = true := inB_iff.2 (by omega)
 have b2 : inB v 0 (2 ^ k - 1) = true := inB_iff.2 (by omega)
 have HP := hid_ (fun W => power_any k W (by omega))
 have HO1 := hid_ (fun W => outside_any (k : Int) 0 12 W)
 have HO2 := hid_ (fun W => outside_any v 0 (2 ^ k - 1) W)
 have HB1 := hid_ (fun W => rsizeBits_any v W)
 have HB2 := hid_ (fun W => rsizeBits_any (v - 2 ^ k + 1) W)
 rw [b1] at HO1
 rw [b2] at HO2
 clear b1 b2
 by_cases hc : k = 0 ∨ 2 ^ (k - 1) ≤ v
 ·obtain ⟨e1, e2⟩ := backZ_hi k v hk h0 h1 hc
  have HF := hid_ e2
  rw [e1] at HB1
  have ek : ((k : Int) == k) = true := by simp
  have ev : (v == v) = true := by simp
  clear e1 e2 hc
  go_enter Tryz.func192, Tryz.ntmps192
  go_wp2_with (first
   | (go_at_call 54; (with_reducible refine (HO1.out _).mono ?_); rintro e w' ⟨rfl, rfl⟩)
   | (go_at_call 54; (with_reducible refine (HO2.out _).mono ?_); rintro e w' ⟨rfl, rfl⟩)
   | (go_at_call 128; (with_reducible refine (HP.out _).mono ?_); rintro e w' ⟨rfl, rfl⟩))
  have hn := Blk.new w 3 #[.int .i64 v, .int .i64 (v - 2 ^ k + 1)]
  have hc0 := hn.cell 0
  have hc1 := hn.cell 1
  simp only [show (#[Value.int .i64 v, .int .i64 (v - 2 ^ k + 1)] : Array Value)[0]? = some (.int .i64 v) from rfl] at hc0
  simp only [show (#[Value.int .i64 v, .int .i64 (v - 2 ^ k + 1)] : Array Value)[1]? = some (.int .i64 (v - 2 ^ k + 1)) from rfl] at hc1
  have hx := (Ext.refl w).alloc (.cells #[.int .i64 v, .int .i64 (v - 2 ^ k + 1)] 3)
  clear hn
  generalize w.alloc (.cells #[.int .i64 v, .int .i64 (v - 2 ^ k + 1)] 3) = w1 at *
  go_loop [28] (fun i => i = .int .i64 0) (fun _ => 1)
  case atStart => rfl
  case round =>
   subst hrel
   go_wp2_with (go_at_call 186; (with_reducible refine (HB1.out _).mono ?_); rintro e w' ⟨rfl, rfl⟩)
   go_ret2
   exact ⟨by rw [HF.out]; rfl, hx⟩
 ·obtain ⟨⟨s, hs, e0⟩, e1, e2⟩ := backZ_lo k v hk h0 (by omega) (by omega)
  have HF := hid_ (e2.trans (show v - (2 ^ k - 1) = v - 2 ^ k + 1 by omega))
  rw [e0] at HB1
  rw [e1] at HB2
  have ek : ((k : Int) == k) = true := by simp
  have ev : (v == v) = true := by simp
  have es : ((s : Int) == k) = false := by simp; omega
  clear e1 e2 hc e0 hs
  go_enter Tryz.func192, Tryz.ntmps192
  go_wp2_with (first
   | (go_at_call 54; (with_reducible refine (HO1.out _).mono ?_); rintro e w' ⟨rfl, rfl⟩)
   | (go_at_call 54; (with_reducible refine (HO2.out _).mono ?_); rintro e w' ⟨rfl, rfl⟩)
   | (go_at_call 128; (with_reducible refine (HP.out _).mono ?_); rintro e w' ⟨rfl, rfl⟩))
  have hn := Blk.new w 3 #[.int .i64 v, .int .i64 (v - 2 ^ k + 1)]
  have hc0 := hn.cell 0
  have hc1 := hn.cell 1
  simp only [show (#[Value.int .i64 v, .int .i64 (v - 2 ^ k + 1)] : Array Value)[0]? = some (.int .i64 v) from rfl] at hc0
  simp only [show (#[Value.int .i64 v, .int .i64 (v - 2 ^ k + 1)] : Array Value)[1]? = some (.int .i64 (v - 2 ^ k + 1)) from rfl] at hc1
  have hx := (Ext.refl w).alloc (.cells #[.int .i64 v, .int .i64 (v - 2 ^ k + 1)] 3)
  clear hn
  generalize w.alloc (.cells #[.int .i64 v, .int .i64 (v - 2 ^ k + 1)] 3) = w1 at *
  go_loop [28] (fun i => ∃ j : Nat, j ≤ 1 ∧ i = .int .i64 j) (fun i => 2 - (intOf i).toNat)
  case atStart => exact ⟨0, by omega, rfl⟩
  case round =>
   obtain ⟨j, hj, rfl⟩ := hrel
   by_cases hj0 : j = 0
   ·subst hj0
    go_wp2_with (go_at_call 186; (with_reducible refine (HB1.out _).mono ?_); rintro e w' ⟨rfl, rfl⟩)
    go_round
    case rel => exact ⟨1, by omega, rfl⟩
    case measure => simp [intOf]
   ·obtain rfl : j = 1 := by omega
    go_wp2_with (go_at_call 186; (with_reducible refine (HB2.out _).mono ?_); rintro e w' ⟨rfl, rfl⟩)
    go_ret2
    exact ⟨by rw [HF.out]; rfl, hx⟩
theorem rback_any (n v : Int) (w : World) : Calls Tryz.prog 192 #[.int .i64 n, .int .i64 v] w fun e w' => e = .returned (.tuple #[.int .i64 (backR n v).1, .int .i64 (backR n v).2]) ∧ Ext w w' := by
 unfold backR
 by_cases h : 0 ≤ n ∧ n ≤ 12 ∧ 0 ≤ v ∧ v < 2 ^ n.toNat
 ·rw [if_pos h]
  obtain ⟨h1, h2, h3, h4⟩ := h
  obtain ⟨k, rfl⟩ : ∃ k : Nat, n = k := ⟨n.toNat, by omega⟩
  rw [Int.toNat_natCast] at h4 ⊢
  exact rback_in k v w (by omega) h3 h4
 ·rw [if_neg h]
  have HO1 := hid_ (fun W => outside_any n 0 12 W)
  cases hq : inB n 0 12 with
  | false =>
    rw [hq] at HO1
    clear h hq
    go_enter Tryz.func192, Tryz.ntmps192
    go_wp2_with (go_at_call 54; (with_reducible refine (HO1.out _).mono ?_); rintro e w' ⟨rfl, rfl⟩)
    go_ret2
    exact ⟨rfl, Ext.refl w⟩
  | true =>
    rw [hq] at HO1
    have hin := inB_iff.1 hq
    obtain ⟨k, rfl⟩ : ∃ k : Nat, n = k := ⟨n.toNat, by omega⟩
    have p1 := pow_le k 12 (by omega)
    rw [show (2 : Int) ^ 12 = 4096 from by decide] at p1
    have p2 := pow_pos' k
    rw [Int.toNat_natCast] at h
    have HP := hid_ (fun W => power_any k W (by omega))
    have HO2 := hid_ (fun W => outside_any v 0 (2 ^ k - 1) W)
    rw [inB_not.2 (by omega)] at HO2
    clear h hq
    go_enter Tryz.func192, Tryz.ntmps192
    go_wp2_with (first
     | (go_at_call 54; (with_reducible refine (HO1.out _).mono ?_); rintro e w' ⟨rfl, rfl⟩)
     | (go_at_call 54; (with_reducible refine (HO2.out _).mono ?_); rintro e w' ⟨rfl, rfl⟩)
     | (go_at_call 128; (with_reducible refine (HP.out _).mono ?_); rintro e w' ⟨rfl, rfl⟩))
    go_ret2
    exact ⟨rfl, Ext.refl w⟩
theorem zigAt_inj : ∀ i j : Fin 64, zigAt i.val = zigAt j.val → i = j := by decide +kernel
theorem zfrom_get (z : List Int) : ∀ (k i : Nat), k ≤ 64 → i < k → (zfrom z k).getD (zigAt i).toNat 0 = z.getD i 0 := by
 intro k
 induction k with
 | zero => intro i _ h; omega
 | succ k ih =>
   intro i hk hi
   rw [zfrom_succ]
   have bi := zigAt_bd i (by omega)
   have bk := zigAt_bd k (by omega)
   have hl := zfrom_len z k
   by_cases e : i = k
   ·subst e
    simp [List.getD_eq_getElem?_getD, List.getElem?_set, hl, show (zigAt i).toNat < 64 by omega]
   ·have hne : (zigAt k).toNat ≠ (zigAt i).toNat := by
     intro h
     have : zigAt k = zigAt i := by omega
     have := zigAt_inj ⟨k, by omega⟩ ⟨i, by omega⟩ this
     exact e (by simpa using (congrArg Fin.val this).symm)
    have := ih i (by omega) (by omega)
    simpa [List.getD_eq_getElem?_getD, List.getElem?_set, hne] using this
theorem zto_zfrom (z : List Int) (hz : z.length = 64) : zto (zfrom z 64) = z := by
 refine List.ext_getElem (by rw [zto_len, hz]) fun i h1 h2 => ?_
 have := zfrom_get z 64 i (by omega) (by rw [zto_len] at h1; exact h1)
 simp only [zto, List.getElem_map, List.getElem_range]
 rw [this]
 simp [List.getD_eq_getElem?_getD, h2]
theorem zfrom_all (z : List Int) (P : Int → Prop) (h0 : P 0) (h : ∀ x ∈ z, P x) : ∀ k, ∀ x ∈ zfrom z k, P x := by
 intro k
 induction k with
 | zero => intro x hx; simp [zfrom] at hx; rw [hx]; exact h0
 | succ k ih =>
   intro x hx
   rw [zfrom_succ] at hx
   rcases List.mem_or_eq_of_mem_set hx with h1 | h1
   ·exact ih x h1
   ·rw [h1, List.getD_eq_getElem?_getD]
    cases hq : z[k]? with
    | none => exact h0
    | some y => exact h y (List.mem_of_getElem? hq)
def tokOk (t : Tok) : Bool := decide ((backR t.2.1 t.2.2).2 = 0 ∧ t.2.1 = t.1 % 16 ∧ t.2.1 ≤ 11 ∧ 0 ≤ t.1 ∧ t.1 ≤ 255 ∧ (t.2.1 = 0 → t.1 = 0 ∨ t.1 = 240))
def tokOk1 (before : Int) (t : Tok) : Bool := decide ((backR t.2.1 t.2.2).2 = 0 ∧ t.1 = t.2.1 ∧ -2047 ≤ before + (backR t.2.1 t.2.2).1 ∧ before + (backR t.2.1 t.2.2).1 ≤ 2047)
theorem backR_bd (n v : Int) : -4095 ≤ (backR n v).1 ∧ (backR n v).1 ≤ 4095 ∧ ((backR n v).2 = 0 ∨ (backR n v).2 = 1) := by
 unfold backR
 split
 ·next h =>
  obtain ⟨h1, h2, h3, h4⟩ := h
  have p1 := pow_le n.toNat 12 (by omega)
  rw [show (2 : Int) ^ 12 = 4096 from by decide] at p1
  have p2 := pow_pos' n.toNat
  refine ⟨?_, ?_, .inl rfl⟩
  ·show -4095 ≤ backZ _ _
   unfold backZ; split <;> omega
  ·show backZ _ _ ≤ 4095
   unfold backZ; split <;> omega
 ·simp
theorem backR_11 {n v : Int} (h : (backR n v).2 = 0) (h11 : n ≤ 11) : -2047 ≤ (backR n v).1 ∧ (backR n v).1 ≤ 2047 ∧ 0 ≤ n ∧ (n = 0 → (backR n v).1 = 0) := by
 unfold backR at h ⊢
 split at h
 ·next hh =>
  rw [if_pos hh]
  obtain ⟨h1, h2, h3, h4⟩ := hh
  have p1 := pow_le n.toNat 11 (by omega)
  rw [show (2 : Int) ^ 11 = 2048 from by decide] at p1
  have p2 := pow_pos' n.toNat
  refine ⟨?_, ?_, h1, ?_⟩
  ·show -2047 ≤ backZ _ _
   unfold backZ; split <;> omega
  ·show backZ _ _ ≤ 2047
   unfold backZ; split <;> omega
  ·intro e
   subst e
   simp at h4
   unfold backZ
   simp
   omega
 ·simp at h
theorem tokOk_iff {t : Tok} : tokOk t = true ↔ (backR t.2.1 t.2.2).2 = 0 ∧ t.2.1 = t.1 % 16 ∧ t.2.1 ≤ 11 ∧ 0 ≤ t.1 ∧ t.1 ≤ 255 ∧ (t.2.1 = 0 → t.1 = 0 ∨ t.1 = 240) := decide_eq_true_iff
theorem tokOk_def (t : Tok) : tokOk t = decide ((backR t.2.1 t.2.2).2 = 0 ∧ t.2.1 = t.1 % 16 ∧ t.2.1 ≤ 11 ∧ 0 ≤ t.1 ∧ t.1 ≤ 255 ∧ (t.2.1 = 0 → t.1 = 0 ∨ t.1 = 240)) := rfl
theorem tokOk1_def (before : Int) (t : Tok) : tokOk1 before t = decide ((backR t.2.1 t.2.2).2 = 0 ∧ t.1 = t.2.1 ∧ -2047 ≤ before + (backR t.2.1 t.2.2).1 ∧ before + (backR t.2.1 t.2.2).1 ≤ 2047) := rfl
theorem tokOk1_iff {before : Int} {t : Tok} : tokOk1 before t = true ↔ (backR t.2.1 t.2.2).2 = 0 ∧ t.1 = t.2.1 ∧ -2047 ≤ before + (backR t.2.1 t.2.2).1 ∧ before + (backR t.2.1 t.2.2).1 ≤ 2047 := by simp [tokOk1]
section
variable {σ : Type}
def goB (next : σ → Tok × Int × σ) (i : Nat) (z : List Int) (all : List Tok) (s : σ) : Int × List Int × List Tok × σ :=
 if h : i < 64 then
  if (next s).2.1 ≠ 0 then ((next s).2.1, z, all, (next s).2.2)
  else if tokOk (next s).1 = false then (4, z, all, (next s).2.2)
  else if (next s).1.1 = 0 then (0, z, all ++ [(next s).1], (next s).2.2)
  else if 64 < i + ((next s).1.1 / 16).toNat + 1 then (4, z, all, (next s).2.2)
  else goB next (i + ((next s).1.1 / 16).toNat + 1) (z.set (i + ((next s).1.1 / 16).toNat) (backR (next s).1.2.1 (next s).1.2.2).1) (all ++ [(next s).1]) (next s).2.2
 else (0, z, all, s)
termination_by 64 - i
variable {next : σ → Tok × Int × σ} {i : Nat} {z : List Int} {all : List Tok} {s s' : σ} {t : Tok} {e : Int}
theorem goB_err (hi : i < 64) (h : next s = (t, e, s')) (he : e ≠ 0) : goB next i z all s = (e, z, all, s') := by
 unfold goB; rw [dif_pos hi, h, if_pos he]
theorem goB_bad (hi : i < 64) (h : next s = (t, 0, s')) (ht : tokOk t = false) : goB next i z all s = (4, z, all, s') := by
 unfold goB; rw [dif_pos hi, h, if_neg (by simp), if_pos ht]
theorem goB_end (hi : i < 64) (h : next s = (t, 0, s')) (ht : tokOk t = true) (h0 : t.1 = 0) : goB next i z all s = (0, z, all ++ [t], s') := by
 unfold goB; rw [dif_pos hi, h, if_neg (by simp), if_neg (by simp [ht]), if_pos h0]
theorem goB_far (hi : i < 64) (h : next s = (t, 0, s')) (ht : tokOk t = true) (h0 : t.1 ≠ 0) (hf : 64 < i + (t.1 / 16).toNat + 1) : goB next i z all s = (4, z, all, s') := by
 unfold goB; rw [dif_pos hi, h, if_neg (by simp), if_neg (by simp [ht]), if_neg h0, if_pos hf]
theorem goB_step (hi : i < 64) (h : next s = (t, 0, s')) (ht : tokOk t = true) (h0 : t.1 ≠ 0) (hf : ¬ 64 < i + (t.1 / 16).toNat + 1) :
 goB next i z all s = goB next (i + (t.1 / 16).toNat + 1) (z.set (i + (t.1 / 16).toNat) (backR t.2.1 t.2.2).1) (all ++ [t]) s' := by
 rw [goB, dif_pos hi, h, if_neg (by simp), if_neg (by simp [ht]), if_neg h0, if_neg hf]
theorem goB_done (hi : ¬ i < 64) : goB next i z all s = (0, z, all, s) := by
 unfold goB; rw [dif_neg hi]
def blkZ (next : Bool → σ → Tok × Int × σ) (before : Int) (s : σ) : Int × List Int × List Tok × σ :=
 if (next true s).2.1 ≠ 0 then ((next true s).2.1, List.replicate 64 0, [], (next true s).2.2)
 else if tokOk1 before (next true s).1 = false then (4, List.replicate 64 0, [], (next true s).2.2)
 else
  let g := goB (next false) 1 ((List.replicate 64 0).set 0 (before + (backR (next true s).1.2.1 (next true s).1.2.2).1)) [(next true s).1] (next true s).2.2
  if g.1 ≠ 0 then (g.1, List.replicate 64 0, [], g.2.2.2)
  else if tokensZ before g.2.1 = g.2.2.1 then (0, zfrom g.2.1 64, g.2.2.1, g.2.2.2)
  else (4, List.replicate 64 0, [], g.2.2.2)
variable {nextB : Bool → σ → Tok × Int × σ} {before : Int}
theorem blkZ_err (h : nextB true s = (t, e, s')) (he : e ≠ 0) : blkZ nextB before s = (e, List.replicate 64 0, [], s') := by
 unfold blkZ; rw [h, if_pos he]
theorem blkZ_bad (h : nextB true s = (t, 0, s')) (ht : tokOk1 before t = false) : blkZ nextB before s = (4, List.replicate 64 0, [], s') := by
 unfold blkZ; rw [h, if_neg (by simp), if_pos ht]
theorem blkZ_go (h : nextB true s = (t, 0, s')) (ht : tokOk1 before t = true) {g : Int × List Int × List Tok × σ} (hg : goB (nextB false) 1 ((List.replicate 64 0).set 0 (before + (backR t.2.1 t.2.2).1)) [t] s' = g) :
 blkZ nextB before s = if g.1 ≠ 0 then (g.1, List.replicate 64 0, [], g.2.2.2) else if tokensZ before g.2.1 = g.2.2.1 then (0, zfrom g.2.1 64, g.2.2.1, g.2.2.2) else (4, List.replicate 64 0, [], g.2.2.2) := by
 unfold blkZ
 rw [h, if_neg (by simp), if_neg (by simp [ht])]
 simp only
 rw [hg]
def finZ (before : Int) (g : Int × List Int × List Tok × σ) : Int × List Int × List Tok × σ :=
 if g.1 ≠ 0 then (g.1, List.replicate 64 0, [], g.2.2.2) else if tokensZ before g.2.1 = g.2.2.1 then (0, zfrom g.2.1 64, g.2.2.1, g.2.2.2) else (4, List.replicate 64 0, [], g.2.2.2)
theorem blkZ_fin (h : nextB true s = (t, 0, s')) (ht : tokOk1 before t = true) : blkZ nextB before s = finZ before (goB (nextB false) 1 ((List.replicate 64 0).set 0 (before + (backR t.2.1 t.2.2).1)) [t] s') := blkZ_go h ht rfl
theorem finZ_err {x : Int} (hx : x ≠ 0) : finZ before (x, z, all, s) = (x, List.replicate 64 0, [], s) := if_pos hx
theorem finZ_good (h : tokensZ before z = all) : finZ before ((0 : Int), z, all, s) = (0, zfrom z 64, all, s) := by
 unfold finZ
 dsimp only
 rw [if_neg (show ¬ ((0 : Int) ≠ 0) by simp), if_pos h]
theorem finZ_ne (h : tokensZ before z ≠ all) : finZ before ((0 : Int), z, all, s) = (4, List.replicate 64 0, [], s) := by
 unfold finZ
 dsimp only
 rw [if_neg (show ¬ ((0 : Int) ≠ 0) by simp), if_neg h]
structure Half (z : List Int) (i : Nat) : Prop where
 len : z.length = 64
 lo : ∀ x ∈ z, -2047 ≤ x ∧ x ≤ 2047
 zero : ∀ j, i ≤ j → j < 64 → z[j]? = some 0
theorem Half.set {z : List Int} {i k : Nat} (h : Half z i) (hk : i ≤ k) (hk2 : k < 64) {x : Int} (h1 : -2047 ≤ x) (h2 : x ≤ 2047) : Half (z.set k x) (k + 1) :=
 ⟨by simp [h.len], fun y hy => by
  rcases List.mem_or_eq_of_mem_set hy with h3 | h3
  ·exact h.lo y h3
  ·rw [h3]; exact ⟨h1, h2⟩, fun j hj hj2 => by
  rw [List.getElem?_set_ne (by omega)]; exact h.zero j (by omega) hj2⟩
theorem Half.same {z : List Int} {i k : Nat} (h : Half z i) (hk : i ≤ k) (hk2 : k < 64) : z.set k 0 = z := by
 have := h.zero k hk hk2
 obtain ⟨h1, h2⟩ := List.getElem?_eq_some_iff.1 this
 exact List.ext_getElem (by simp) fun j a b => by
  by_cases e : j = k
  ·subst e; simp [h2]
  ·simp [List.getElem_set, show ¬ k = j by omega]
theorem Half.init (x : Int) (h1 : -2047 ≤ x) (h2 : x ≤ 2047) : Half ((List.replicate 64 0).set 0 x) 1 :=
 ⟨by simp, fun y hy => by
  rcases List.mem_or_eq_of_mem_set hy with h3 | h3
  ·simp at h3; omega
  ·omega, fun j hj hj2 => by
  rw [List.getElem?_set_ne (by omega), List.getElem?_replicate, if_pos hj2]⟩
end
end Go.Proofs.YtkggcjdlpendfaaGreatDoor
