/- Contracts for the law DeskRunsCard, part 1: what the functions that it reaches answer, for all arguments that the theorems name. -/
import Derived.Lib.AtoiTie
import Derived.Lib.ItoaNum
import Derived.Lib.FieldsP
import Derived.Lib.MapLaws
import Derived.Lib.SplitLaws
import Derived.Lib.Join
import Derived.Test.YtlhggcbpipmjhaaGreatDoorProg
import Derived.WalkKit
import Derived.Deep.AppendLies
import Derived.Deep.Draws
import Derived.WalkSpells
import Derived.WalkLawsBesides
import Derived.Deep.QuietTactic
import Derived.BigQuiet
namespace Go.Proofs.YtlhggcbpipmjhaaGreatDoor
set_option linter.unusedVariables false
set_option linter.unusedSimpArgs false
open Go.RowKit
theorem gS (k : Tmp) {P ops Q b c d e f r a w} (h : wpList P ops Q (⟨some k, b, c, d, e, f⟩ :: r) a w) : wpList P ops Q (⟨some k, b, c, d, e, f⟩ :: r) a w := h
theorem gT (x y : Tmp) {P ops Q t b c d e r a w} (h : wpList P ops Q (⟨none, .store t (.tmp x) (.tmp y), b, c, d, e⟩ :: r) a w) : wpList P ops Q (⟨none, .store t (.tmp x) (.tmp y), b, c, d, e⟩ :: r) a w := h
theorem sA {α : Type} {l : List α} {i : Nat} {a : α} : l.toArray.setIfInBounds i a = (l.set i a).toArray := List.setIfInBounds_toArray ..
theorem sB {α : Type} {a b : α} {l : List α} {n : Nat} : (a :: l).set (n + 1) b = a :: l.set n b := List.set_cons_succ
theorem sC {α : Type} {a b : α} {l : List α} : (a :: l).set 0 b = b :: l := List.set_cons_zero
section
open Go.Lib
theorem decFrom_snoc : ∀ (r : List UInt8) (acc : Nat) (b : UInt8), decFrom acc (r ++ [b]) = (decFrom acc r).bind fun n => (digitVal b).map fun d => n * 10 + d
 | [], acc, b => by
   show decFrom acc [b] = _
   rw [decFrom, decFrom]
   cases digitVal b <;> rfl
 | c :: r, acc, b => by
   rw [List.cons_append, decFrom, decFrom]
   cases digitVal c with
   | none => rfl
   | some d => exact decFrom_snoc r _ b
theorem digitVal_some {b : UInt8} {d : Nat} (h : digitVal b = some d) : d < 10 ∧ UInt8.ofNat (48 + d) = b := by
 unfold digitVal at h
 split at h
 ·injection h with h
  subst h
  refine ⟨by omega, ?_⟩
  rw [show 48 + (b.toNat - 48) = b.toNat by omega]
  exact UInt8.ofNat_toNat
 ·cases h
theorem digitVal_dig {d : Nat} (h : d < 10) : digitVal (UInt8.ofNat (48 + d)) = some d := by
 have e : (UInt8.ofNat (48 + d)).toNat = 48 + d := by
  rw [UInt8.toNat_ofNat']
  omega
 unfold digitVal
 rw [e, if_pos (by omega)]
 congr 1
 omega
theorem decDigits_lo {m : Nat} (h : m < 10) : decDigits m = [UInt8.ofNat (48 + m)] := by rw [decDigits, dif_pos h]
theorem decDigits_hi {m : Nat} (h : ¬ m < 10) : decDigits m = decDigits (m / 10) ++ [UInt8.ofNat (48 + m % 10)] := by rw [decDigits, dif_neg h]
theorem dec_dig (m : Nat) : decFrom 0 (decDigits m) = some m := by
 induction m using Nat.strongRecOn with
 | _ m ih =>
   by_cases h : m < 10
   ·rw [decDigits_lo h, decFrom, digitVal_dig h]
    simp [decFrom]
   ·rw [decDigits_hi h, decFrom_snoc, ih (m / 10) (by omega), digitVal_dig (Nat.mod_lt _ (by omega))]
    simp only [Option.bind_some, Option.map_some]
    congr 1
    omega
theorem decDigits_ne (m : Nat) : decDigits m ≠ [] := by
 by_cases h : m < 10
 ·rw [decDigits_lo h]; simp
 ·rw [decDigits_hi h]; simp
theorem decDigits_head (m : Nat) (h0 : m ≠ 0) : (decDigits m).head? ≠ some 48 := by
 induction m using Nat.strongRecOn with
 | _ m ih =>
   by_cases h : m < 10
   ·rw [decDigits_lo h]
    intro e
    have e2 : UInt8.ofNat (48 + m) = 48 := by simpa using e
    have e3 := digitVal_dig h
    rw [e2] at e3
    have e4 : digitVal 48 = some 0 := by decide
    rw [e4] at e3
    injection e3 with e3
    omega
   ·rw [decDigits_hi h]
    have hi := ih (m / 10) (by omega) (by omega)
    have hn := decDigits_ne (m / 10)
    cases hd : decDigits (m / 10) with
    | nil => exact absurd hd hn
    | cons a l => rw [hd] at hi; simpa using hi
theorem dig_dec : ∀ (k : Nat) (r : List UInt8), r.length = k → r ≠ [] → (r.head? = some 48 → r = [48]) → ∀ m, decFrom 0 r = some m → decDigits m = r
 | 0, r, hk, hr, _, m, _ => absurd (List.eq_nil_of_length_eq_zero hk) hr
 | k + 1, r, hk, hr, h48, m, hm => by
   obtain ⟨q, b, rfl⟩ : ∃ q b, r = q ++ [b] := ⟨r.dropLast, r.getLast hr, (List.dropLast_concat_getLast hr).symm⟩
   rw [decFrom_snoc] at hm
   by_cases hq : q = []
   ·subst hq
    simp only [decFrom, Option.bind_some] at hm
    cases hb : digitVal b with
    | none => rw [hb] at hm; cases hm
    | some d =>
      rw [hb] at hm
      obtain ⟨d1, d2⟩ := digitVal_some hb
      have e : m = d := by simpa using hm.symm
      subst e
      rw [decDigits_lo d1, d2]
      rfl
   ·cases hn : decFrom 0 q with
    | none => rw [hn] at hm; cases hm
    | some n =>
      rw [hn, Option.bind_some] at hm
      cases hb : digitVal b with
      | none => rw [hb] at hm; cases hm
      | some d =>
        rw [hb] at hm
        obtain ⟨d1, d2⟩ := digitVal_some hb
        have e : m = n * 10 + d := by simpa using hm.symm
        have hh : (q ++ [b]).head? = q.head? := by
         cases q with
         | nil => exact absurd rfl hq
         | cons a l => rfl
        rw [hh] at h48
        have h48' : q.head? ≠ some 48 := fun h => by
         have := congrArg List.length (h48 h)
         cases q with
         | nil => exact hq rfl
         | cons a l => simp at this
        have ih := dig_dec k q (by simp at hk; omega) hq (fun h => absurd h h48') n hn
        have hn0 : n ≠ 0 := fun h => by
         subst h
         rw [decDigits_lo (by omega)] at ih
         exact h48' (by rw [← ih]; rfl)
        rw [decDigits_hi (by omega), show m / 10 = n by omega, show m % 10 = d by omega, ih, d2]
def trimM (l : List UInt8) : List UInt8 := if l.head? = some 45 then l.drop 1 else l
def numP (l : List UInt8) : Option Int :=
 match atoiAll l with
 | .ok n => if itoa n = l ∧ (trimM l).length ≤ 9 then some n else none
 | _ => none
def numR (l : List UInt8) : Option Int :=
 if (trimM l).length < 1 ∨ 9 < (trimM l).length ∨ ((trimM l).head? = some 48 ∧ l ≠ [48]) then none
 else (decFrom 0 (trimM l)).map fun (m : Nat) => if trimM l ≠ l then -(m : Int) else (m : Int)
theorem decNat_ne {l : List UInt8} (h : l ≠ []) : decNat l = decFrom 0 l := by
 unfold decNat
 cases l with
 | nil => exact absurd rfl h
 | cons a l => rfl
theorem digit_head (m : Nat) {a : UInt8} {l : List UInt8} (h : decDigits m = a :: l) : (digitVal a).isSome = true := by
 have := dec_dig m
 rw [h, decFrom] at this
 cases hd : digitVal a with
 | none => rw [hd] at this; cases this
 | some d => rfl
theorem num_same (l : List UInt8) : numP l = numR l := by
 by_cases h9 : 9 < (trimM l).length
 ·have hr : numR l = none := by unfold numR; rw [if_pos (.inr (.inl h9))]
  rw [hr]
  unfold numP
  split
  ·rw [if_neg (by omega)]
  ·rfl
 ·have h10 : l.length ≤ 18 := by
   unfold trimM at h9
   split at h9
   ·rw [List.length_drop] at h9; omega
   ·omega
  have ha := atoiAll_short l h10
  cases l with
  | nil =>
    have hr : numR [] = none := by unfold numR; rw [if_pos (.inl (by decide))]
    rw [hr]; rfl
  | cons c r =>
    by_cases h45 : c = 45
    ·subst h45
     have ht : trimM (45 :: r) = r := rfl
     rw [ht] at h9
     have hne : r ≠ 45 :: r := fun h => by have := congrArg List.length h; simp at this
     have hat : atoi (45 :: r) = (decNat r).map fun (m : Nat) => -(m : Int) := rfl
     rw [hat] at ha
     unfold numP numR
     rw [ht, ha]
     by_cases hr0 : r = []
     ·subst hr0; rfl
     ·rw [decNat_ne hr0]
      have hl1 : ¬ r.length < 1 := by
       have := List.length_pos_iff.2 hr0
       omega
      cases hm : decFrom 0 r with
      | none =>
        simp only [Option.map_none, NumEnd.ofOption]
        split <;> rfl
      | some m =>
        simp only [Option.map_some, NumEnd.ofOption]
        by_cases h48 : r.head? = some 48
        ·rw [if_pos (show r.length < 1 ∨ 9 < r.length ∨ (r.head? = some 48 ∧ 45 :: r ≠ [48]) from .inr (.inr ⟨h48, by simp⟩)), if_neg]
         rintro ⟨e, -⟩
         unfold itoa at e
         by_cases h0 : m = 0
         ·subst h0
          rw [if_neg (by decide)] at e
          rw [show (-((0 : Nat) : Int)).toNat = 0 from rfl, decDigits_lo (by omega)] at e
          injection e with e _
          exact absurd e (by decide)
         ·rw [if_pos (by omega)] at e
          injection e with _ e
          rw [show (-(m : Int)).natAbs = m by omega] at e
          exact decDigits_head m h0 (by rw [e]; exact h48)
        ·have hd := dig_dec _ r rfl hr0 (fun h => absurd h h48) m hm
         have h0 : m ≠ 0 := fun h => by
          subst h
          rw [decDigits_lo (by omega)] at hd
          exact h48 (by rw [← hd]; rfl)
         rw [if_neg (show ¬ (r.length < 1 ∨ 9 < r.length ∨ (r.head? = some 48 ∧ 45 :: r ≠ [48])) from fun h => h.elim hl1 (fun h => h.elim h9 (fun h => h48 h.1))), if_pos hne, if_pos]
         refine ⟨?_, by omega⟩
         unfold itoa
         rw [if_pos (by omega), show (-(m : Int)).natAbs = m by omega, hd]
    ·have ht : trimM (c :: r) = c :: r := by
      unfold trimM
      rw [if_neg (by simpa using h45)]
     rw [ht] at h9
     by_cases h43 : c = 43
     ·subst h43
      have hat : atoi (43 :: r) = (decNat r).map fun (m : Nat) => (m : Int) := rfl
      have hdr : decFrom 0 (43 :: r) = none := rfl
      rw [hat] at ha
      unfold numP numR
      rw [ht, ha, hdr]
      cases hm : decNat r with
      | none => simp only [Option.map_none, NumEnd.ofOption]; split <;> rfl
      | some m =>
        simp only [Option.map_some, NumEnd.ofOption, Option.map_none]
        rw [if_neg]
        ·split <;> rfl
        ·rintro ⟨e, -⟩
         unfold itoa at e
         rw [if_neg (by omega)] at e
         have := digit_head _ e
         revert this
         decide
     ·have hat : atoi (c :: r) = (decNat (c :: r)).map fun (m : Nat) => (m : Int) := by
       show (if (c == 45) = true then (decNat r).map fun (m : Nat) => -(m : Int) else if (c == 43) = true then (decNat r).map fun (m : Nat) => (m : Int) else (decNat (c :: r)).map fun (m : Nat) => (m : Int)) = _
       rw [if_neg (by simpa using h45), if_neg (by simpa using h43)]
      rw [hat, decNat_ne (by simp)] at ha
      unfold numP numR
      rw [ht, ha]
      have hl1 : ¬ (c :: r).length < 1 := by simp
      cases hm : decFrom 0 (c :: r) with
      | none => simp only [Option.map_none, NumEnd.ofOption]; split <;> rfl
      | some m =>
        simp only [Option.map_some, NumEnd.ofOption]
        have ei : itoa (m : Int) = decDigits m := by
         unfold itoa
         rw [if_neg (by omega), Int.toNat_natCast]
        rw [ei]
        by_cases h48 : (c :: r).head? = some 48 ∧ c :: r ≠ [48]
        ·rw [if_pos (show (c :: r).length < 1 ∨ 9 < (c :: r).length ∨ _ from .inr (.inr h48)), if_neg]
         rintro ⟨e, -⟩
         by_cases h0 : m = 0
         ·subst h0
          rw [decDigits_lo (by omega)] at e
          exact h48.2 e.symm
         ·exact decDigits_head m h0 (by rw [e]; exact h48.1)
        ·have hd := dig_dec _ (c :: r) rfl (by simp) (fun h => Decidable.byContradiction fun h2 => h48 ⟨h, h2⟩) m hm
         rw [if_pos (show decDigits m = c :: r ∧ (c :: r).length ≤ 9 from ⟨hd, by omega⟩), if_neg (show ¬ ((c :: r).length < 1 ∨ 9 < (c :: r).length ∨ ((c :: r).head? = some 48 ∧ c :: r ≠ [48])) from fun h => h.elim hl1 (fun h => h.elim h9 h48)), if_neg (fun h => h rfl)]
end
section
open Go.Lib
open Go
def wGo : List UInt8 → List UInt8 → List (List UInt8)
 | cur, [] => if cur = [] then [] else [cur]
 | cur, b :: r => if b = 32 then (if cur = [] then wGo [] r else cur :: wGo [] r) else wGo (cur ++ [b]) r
theorem wGo_skip : ∀ (q cur r : List UInt8), (∀ b ∈ q, b ≠ 32) → wGo cur (q ++ r) = wGo (cur ++ q) r
 | [], cur, r, _ => by rw [List.nil_append, List.append_nil]
 | b :: q, cur, r, h => by
   rw [List.cons_append, wGo, if_neg (h b (by simp)), wGo_skip q _ r fun x hx => h x (by simp [hx]), List.append_assoc]
   rfl
theorem get_list (s : ByteArray) (i : Nat) (h : i < s.data.toList.length) : s.data.toList[i] = s.get! i := by
 obtain ⟨⟨l⟩⟩ := s
 show l[i] = (Array.mk l)[i]!
 have h' : i < l.length := h
 simp [h']
theorem size_list (s : ByteArray) : s.size = s.data.toList.length := by
 obtain ⟨⟨l⟩⟩ := s
 rfl
theorem dec_cases (s : ByteArray) (pos : Nat) (h : pos < s.size) : ((s.get! pos).toNat = 32 ∧ Utf8.decode s pos = (32, 1)) ∨
 ((s.get! pos).toNat ≠ 32 ∧ (Utf8.decode s pos).1 ≠ 32 ∧ 1 ≤ (Utf8.decode s pos).2 ∧ pos + (Utf8.decode s pos).2 ≤ s.size ∧ ∀ i, i < (Utf8.decode s pos).2 → (s.get! (pos + i)).toNat ≠ 32) := by
 rw [decode_at]
 by_cases hb : (s.get! pos).toNat < 128
 ·have e : ∀ n b1 b2 b3, decodeN n (s.get! pos).toNat b1 b2 b3 = ((s.get! pos).toNat, 1) := fun n b1 b2 b3 => by unfold decodeN; rw [if_pos hb]
  rw [e]
  by_cases h32 : (s.get! pos).toNat = 32
  ·exact .inl ⟨h32, by rw [h32]⟩
  ·refine .inr ⟨h32, h32, Nat.le_refl _, h, fun i hi => ?_⟩
   obtain rfl : i = 0 := by dsimp only at hi; omega
   exact h32
 ·refine .inr ⟨by omega, ?_⟩
  have h0 : (s.get! (pos + 0)).toNat ≠ 32 := by rw [Nat.add_zero]; omega
  rcases decodeN_shape (s.size - pos) (s.get! pos).toNat (s.get! (pos + 1)).toNat (s.get! (pos + 2)).toNat (s.get! (pos + 3)).toNat with ⟨h1, -⟩ | ⟨-, h2, h3, h4, e⟩ | ⟨-, h2, h3, h4, h5, -, e⟩ | ⟨-, h2, h3, h4, h5, h6, -, e⟩ | e
  ·exact absurd h1 hb
  ·rw [e]
   refine ⟨by dsimp only; omega, by dsimp only; omega, by dsimp only; omega, fun i hi => ?_⟩
   dsimp only at hi
   match i, hi with
   | 0, _ => exact h0
   | 1, _ => omega
  ·rw [e]
   refine ⟨by dsimp only; omega, by dsimp only; omega, by dsimp only; omega, fun i hi => ?_⟩
   dsimp only at hi
   match i, hi with
   | 0, _ => exact h0
   | 1, _ => omega
   | 2, _ => omega
  ·rw [e]
   refine ⟨by dsimp only; omega, by dsimp only; omega, by dsimp only; omega, fun i hi => ?_⟩
   dsimp only at hi
   match i, hi with
   | 0, _ => exact h0
   | 1, _ => omega
   | 2, _ => omega
   | 3, _ => omega
  ·rw [e]
   refine ⟨by dsimp only; omega, by dsimp only; omega, by dsimp only; omega, fun i hi => ?_⟩
   dsimp only at hi
   match i, hi with
   | 0, _ => exact h0
def p32 (c : Nat) : Bool := c == 32
def curOf (l : List UInt8) (st : Option Nat) (pos : Nat) : List UInt8 :=
 match st with
 | some a => (l.drop a).take (pos - a)
 | none => []
def cutX (l : List UInt8) (x : Nat × Nat) : List UInt8 := (l.drop x.1).take (x.2 - x.1)
theorem curOf_ne {l : List UInt8} {a pos : Nat} (h : a < pos) (hp : pos ≤ l.length) : curOf l (some a) pos ≠ [] := fun e => by
 have := congrArg List.length e
 unfold curOf at this
 dsimp only at this
 rw [List.length_take, List.length_drop] at this
 simp only [List.length_nil] at this
 omega
theorem take_more (l : List UInt8) {a pos w : Nat} (h : a ≤ pos) : (l.drop a).take (pos + w - a) = (l.drop a).take (pos - a) ++ (l.drop pos).take w := by
 rw [show pos + w - a = (pos - a) + w by omega, List.take_add, List.drop_drop, show a + (pos - a) = pos by omega]
theorem fields_go (s : ByteArray) : ∀ (f pos : Nat) (st : Option Nat) (acc : List (Nat × Nat)), s.size - pos ≤ f → pos ≤ s.size → (∀ a, st = some a → a < pos) →
 (closeSpans s (spansFromP p32 s f pos st acc)).map (cutX s.data.toList) = acc.map (cutX s.data.toList) ++ wGo (curOf s.data.toList st pos) (s.data.toList.drop pos)
 | f, pos, st, acc, hf, hp, hst => by
   have hsz := size_list s
   by_cases he : pos < s.size
   ·cases f with
    | zero => omega
    | succ f =>
      have hcons : s.data.toList.drop pos = s.get! pos :: s.data.toList.drop (pos + 1) := by
       rw [List.drop_eq_getElem_cons (by omega), get_list]
      unfold spansFromP
      rw [if_pos he]
      rcases dec_cases s pos he with ⟨h1, e⟩ | ⟨h1, h2, h3, h4, h5⟩
      ·have hb : s.get! pos = 32 := UInt8.toNat_inj.1 h1
       rw [e, if_pos (by rfl), hcons, wGo, if_pos hb]
       cases st with
       | none =>
         rw [if_pos (by rfl)]
         exact fields_go s f (pos + 1) none acc (by omega) (by omega) (fun a h => by cases h)
       | some a =>
         have ha := hst a rfl
         rw [if_neg (curOf_ne ha (by omega))]
         have := fields_go s f (pos + 1) none (acc ++ [(a, pos)]) (by omega) (by omega) (fun a h => by cases h)
         dsimp only
         rw [this, List.map_append, List.append_assoc]
         rfl
      ·have hpf : p32 (Utf8.decode s pos).1 = false := by unfold p32; simpa using h2
       rw [if_neg (by rw [hpf]; simp)]
       generalize hw : (Utf8.decode s pos).2 = w at *
       have hq : ∀ b ∈ (s.data.toList.drop pos).take w, b ≠ 32 := fun b hb => by
        obtain ⟨i, hi, rfl⟩ := List.getElem_of_mem hb
        rw [List.length_take, List.length_drop] at hi
        rw [List.getElem_take, List.getElem_drop, get_list]
        intro e
        exact h5 i (by omega) (by rw [e]; rfl)
       have hsp : s.data.toList.drop pos = (s.data.toList.drop pos).take w ++ s.data.toList.drop (pos + w) := by
        rw [← List.drop_drop, List.take_append_drop]
       rw [hsp, wGo_skip _ _ _ hq]
       cases st with
       | none =>
         have := fields_go s f (pos + w) (some pos) acc (by omega) (by omega) (fun a h => by injection h with h; omega)
         dsimp only
         rw [this]
         unfold curOf
         dsimp only
         rw [show pos + w - pos = w by omega]
         rfl
       | some a =>
         have ha := hst a rfl
         have := fields_go s f (pos + w) (some a) acc (by omega) (by omega) (fun a h => by injection h with h; omega)
         dsimp only
         rw [this]
         unfold curOf
         dsimp only
         rw [take_more _ (by omega)]
   ·have hps : pos = s.data.toList.length := by omega
    rw [spansFromP_end p32 s f pos st acc he]
    rw [show s.data.toList.drop pos = [] by rw [hps]; simp]
    cases st with
    | none => simp [closeSpans, curOf, wGo]
    | some a =>
      have ha := hst a rfl
      rw [wGo, if_neg (curOf_ne ha (by omega))]
      unfold closeSpans
      dsimp only
      rw [List.map_append]
      unfold curOf cutX
      dsimp only [List.map_cons, List.map_nil]
      rw [show s.size = pos by omega]
      rfl
 termination_by f => f
theorem fields_words (s : ByteArray) : (goFieldsP p32 s).map (·.data.toList) = wGo [] s.data.toList := by
 have := fields_go s s.size 0 none [] (by omega) (by omega) (fun a h => by cases h)
 unfold goFieldsP spansOfP
 rw [List.map_map]
 have e : ((fun x : ByteArray => x.data.toList) ∘ fun x : Nat × Nat => s.extract x.1 x.2) = cutX s.data.toList := by
  funext x
  exact extract_data s x.1 x.2
 rw [e, this]
 rfl
def sGo : List UInt8 → List UInt8 → List (List UInt8)
 | cur, [] => [cur]
 | cur, b :: r => if b = 32 then cur :: sGo [] r else sGo (cur ++ [b]) r
theorem sGo_words : ∀ (l cur : List UInt8), (sGo cur l).filter (fun x => decide (x ≠ [])) = wGo cur l
 | [], cur => by
   rw [sGo, wGo]
   by_cases h : cur = []
   ·rw [if_pos h, h]; rfl
   ·rw [if_neg h, List.filter_cons_of_pos (by simpa using h)]; rfl
 | b :: r, cur => by
   rw [sGo, wGo]
   by_cases hb : b = 32
   ·rw [if_pos hb, if_pos hb]
    by_cases h : cur = []
    ·rw [if_pos h, List.filter_cons_of_neg (by simp [h]), sGo_words r []]
    ·rw [if_neg h, List.filter_cons_of_pos (by simpa using h), sGo_words r []]
   ·rw [if_neg hb, if_neg hb, sGo_words r]
theorem sGo_cur : ∀ (l cur : List UInt8), 32 ∉ cur → sGo cur l = splitK [32] 0 ((cur ++ l).count 32) (cur ++ l)
 | [], cur, h => by
   rw [sGo, List.append_nil, List.count_eq_zero.2 h]
   rfl
 | b :: r, cur, h => by
   rw [sGo]
   by_cases hb : b = 32
   ·subst hb
    have hix : index (cur ++ 32 :: r) [32] = ((cur.length : Nat) : Int) := by
     clear sGo_cur
     induction cur with
     | nil => rw [List.nil_append, index]; simp [List.isPrefixOf]
     | cons a l ih =>
       simp only [List.mem_cons, not_or] at h
       have hp : ([32] : List UInt8).isPrefixOf (a :: (l ++ 32 :: r)) = false := by simp [List.isPrefixOf, h.1]
       rw [List.cons_append, index, hp]
       have hne : ¬ (index (l ++ 32 :: r) [32] == -1) = true := fun e => by
        have := beq_iff_eq.1 e
        rw [ih h.2] at this
        omega
       simp only [Bool.false_eq_true, if_false]
       rw [if_neg hne, ih h.2]
       simp
    have hc : (cur ++ 32 :: r).count 32 = r.count 32 + 1 := by
     rw [List.count_append, List.count_eq_zero.2 h, List.count_cons_self, Nat.zero_add]
    rw [if_pos rfl, hc, splitK, if_neg (by rw [hix]; intro e; have := beq_iff_eq.1 e; omega), hix, Int.toNat_natCast]
    have := sGo_cur r [] (by simp)
    rw [List.nil_append] at this
    rw [this, Nat.add_zero, List.take_left' rfl]
    congr 2
    show r = (cur ++ 32 :: r).drop (cur.length + 1)
    rw [← List.drop_drop, List.drop_left' rfl]
    rfl
   ·rw [if_neg hb]
    have := sGo_cur r (cur ++ [b]) (by simp only [List.mem_append, List.mem_singleton, not_or]; exact ⟨h, fun e => hb e.symm⟩)
    rw [this, List.append_assoc]
    rfl
theorem split_words (l : List UInt8) : (split l [32]).filter (fun x => decide (x ≠ [])) = wGo [] l := by
 have := sGo_cur l [] (by simp)
 rw [List.nil_append] at this
 unfold split
 rw [count_one, ← this, sGo_words]
end
section
open Go.Lib
theorem join_snoc (xs : List (List UInt8)) (x : List UInt8) : join (xs ++ [x]) [32] = if xs = [] then x else join xs [32] ++ 32 :: x := by
 cases xs with
 | nil => rw [if_pos rfl]; exact join_one x _
 | cons a r =>
   rw [if_neg (by simp), List.cons_append, join_cons, join_cons]
   unfold joinTail
   simp
def toldZ (l : List Int) : List UInt8 := join (l.map itoa) [32]
theorem toldZ_snoc (l : List Int) (n : Int) : toldZ (l ++ [n]) = if l = [] then itoa n else toldZ l ++ 32 :: itoa n := by
 unfold toldZ
 rw [List.map_append, List.map_cons, List.map_nil, join_snoc]
 by_cases h : l = []
 ·subst h; rfl
 ·rw [if_neg h, if_neg (by simpa using h)]
theorem itoa_neg {n : Int} (h : n < 0) : itoa n = 45 :: itoa (-n) := by
 unfold itoa
 rw [if_pos h, if_neg (by omega), show (-n).toNat = n.natAbs by omega]
theorem itoa_lo {n : Int} (h0 : 0 ≤ n) (h : n < 10) : itoa n = [UInt8.ofNat (48 + n.toNat)] := by
 unfold itoa
 rw [if_neg (by omega), decDigits, dif_pos (by omega)]
theorem itoa_hi {n : Int} (h0 : 0 ≤ n) (h : ¬ n < 10) : itoa n = itoa (n / 10) ++ itoa (n % 10) := by
 rw [itoa_lo (n := n % 10) (by omega) (by omega)]
 unfold itoa
 rw [if_neg (by omega), if_neg (by omega), decDigits, dif_neg (by omega), show (n / 10).toNat = n.toNat / 10 by omega, show (n % 10).toNat = n.toNat % 10 by omega]
end
theorem block_of_add (a : Addr) (n : Nat) : (a.add n).block = a.block := by unfold Addr.add; split <;> rfl
theorem add_of_add (a : Addr) (i j : Nat) : (a.add i).add j = a.add (i + j) := by
 unfold Addr.add
 by_cases hi : i = 0 <;> by_cases hj : j = 0 <;> simp [hi, hj, Nat.add_assoc]
def SL (w : World) (size : Nat) (v : Value) (n : Nat) (xs : List Value) : Prop :=
 ∃ A c, v = .slice A n c ∧ n ≤ c ∧ c ≤ 9223372036854775807 ∧ xs.length = n * size ∧ (0 < n → ∃ ad, A = some ad ∧ ad.block < w.heap.size ∧ ∀ j u, xs[j]? = some u → w.cell? (ad.add j) = some u)
theorem hid_ {p : Prop} (h : p) : Hid p := h
abbrev Ext (w w' : World) : Prop := Below w.heap.size w w'
theorem Ext.refl (w : World) : Ext w w := Below.refl _ _
theorem Ext.trans {a b c : World} (h : Ext a b) (k : Ext b c) : Ext a c := Below.trans h (Below.mono k h.size)
theorem Ext.alloc {a w : World} (h : Ext a w) (o : Obj) : Ext a (w.alloc o) := Below.alloc h h.size o
theorem Ext.drew {a w : World} (h : Ext a w) : Ext a w.drew := Below.drew h
theorem below_drewN {B : Nat} {a w : World} (h : Below B a w) (n : Nat) : Below B a (w.drewN n) := ⟨h.os, h.tape, h.output, h.size, h.block⟩
theorem SL.ext {w w' : World} {size n : Nat} {v : Value} {xs : List Value} (h : SL w size v n xs) (hb : Ext w w') : SL w' size v n xs := by
 obtain ⟨A, c, rfl, h1, h1', h2, h3⟩ := h
 refine ⟨A, c, rfl, h1, h1', h2, fun hn => ?_⟩
 obtain ⟨ad, e, hlt, hc⟩ := h3 hn
 exact ⟨ad, e, Nat.lt_of_lt_of_le hlt hb.size, fun j u hu => (hb.cell (by rw [block_of_add]; exact hlt)).trans (hc j u hu)⟩
theorem SL.nil (w : World) (size : Nat) : SL w size (.slice none 0 0) 0 [] := ⟨none, 0, rfl, by omega, by omega, by simp, fun h => absurd h (by omega)⟩
theorem SL.at1 {w : World} {A : Option Addr} {n c : Nat} {xs : List Value} {k : Nat} (h : SL w 1 (.slice A n c) n xs) (hk : k < n) :
 ∃ ad u, A = some ad ∧ ad.block < w.heap.size ∧ xs[k]? = some u ∧ w.cell? (ad.add k) = some u := by
 obtain ⟨A', c', e, _, _, h2, h3⟩ := h
 injection e with e1 e2 e3
 subst e1
 obtain ⟨ad, ea, hb, hc⟩ := h3 (by omega)
 have hl : k < xs.length := by omega
 exact ⟨ad, xs[k], ea, hb, List.getElem?_eq_getElem hl, hc k _ (List.getElem?_eq_getElem hl)⟩
def Blk (w : World) (g : Nat) (t : TypeId) (cs : Array Value) : Prop := w.heap[g]? = some (.cells cs t (0, 0))
section
variable {w w' : World} {g : Nat} {t : TypeId} {cs : Array Value}
theorem Blk.lt (h : Blk w g t cs) : g < w.heap.size := by
 rcases Nat.lt_or_ge g w.heap.size with hlt | hge
 ·exact hlt
 ·unfold Blk at h; rw [Array.getElem?_eq_none hge] at h; cases h
theorem Blk.cell (h : Blk w g t cs) (i : Nat) : w.cell? ⟨g, i, none⟩ = cs[i]? := cell_of_row w g i cs t (0, 0) h
theorem Blk.frozen (h : Blk w g t cs) (i : Nat) : w.frozen? ⟨g, i, none⟩ = false := by
 unfold Blk at h
 simp [World.frozen?, h]
theorem Blk.new (w : World) (t : TypeId) (cs : Array Value) : Blk (w.alloc (.cells cs t)) w.heap.size t cs := heap_alloc_new w _
theorem Blk.drew (h : Blk w g t cs) : Blk w.drew g t cs := h
theorem Blk.alloc (h : Blk w g t cs) (o : Obj) : Blk (w.alloc o) g t cs := (Below.heap_alloc w o g h.lt).trans h
theorem Blk.set_ (h : Blk w g t cs) (i : Nat) (u : Value) : Blk (w.setCell ⟨g, i, none⟩ u) g t (cs.setIfInBounds i u) := by
 unfold Blk at h ⊢
 simp [World.setCell, Array.getElem?_modify, h]
theorem Blk.far (h : Blk w g t cs) {p : Addr} (hp : g ≠ p.block) (u : Value) : Blk (w.setCell p u) g t cs := (Below.heap_setCell w p u g hp).trans h
theorem Blk.below {B : Nat} (h : Blk w g t cs) (hb : Below B w w') (hg : g < B) : Blk w' g t cs := (hb.block g hg).trans h
theorem Blk.ext (h : Blk w g t cs) (hb : Ext w w') : Blk w' g t cs := h.below hb h.lt
theorem Blk.grown {row : Option Nat} (h : Blk w g t cs) (hb : w.grownBy w' row) (hg : some g ≠ row) : Blk w' g t cs := (hb.block g h.lt hg).trans h
theorem Blk.sl (h : Blk w g t cs) {size n c : Nat} (hs : cs.size = n * size) (hc : n ≤ c) (hc2 : c ≤ 9223372036854775807) : SL w size (.slice (some ⟨g, 0, none⟩) n c) n cs.toList := by
 refine ⟨_, _, rfl, hc, hc2, by simpa using hs, fun _ => ⟨_, rfl, h.lt, fun j u hu => ?_⟩⟩
 have e : (⟨g, 0, none⟩ : Addr).add j = ⟨g, j, none⟩ := by
  unfold Addr.add
  by_cases hj : j = 0
  ·subst hj; rfl
  ·rw [if_neg hj]; simp
 rw [e, h.cell, ← hu]; simp
end
section
variable {P : Program} {ops : Array Oper} {rest : List Oper} {o : Oper} {a : Act} {w : World} {Q : Exit → Act → World → Prop}
theorem wLdB (hgd : o.guard = none) (ty : TypeId) (x : Operand) (ho : o.op = .load ty x) (g : Nat) (hx : a.eval x = .pointer (some ⟨g, 0, none⟩))
 {t : TypeId} {cs : Array Value} (hB : Blk w g t cs) (d : TypeDesc) (hu : P.underlying ty = some d) (hd : (match d with | .struct _ | .array _ _ => true | _ => false) = true)
 (n : Nat) (hs : (P.info? ty).map (·.size) = some n) (hn : cs.size = n) (h : wpList P ops Q rest (a.put o.dst (.agg cs)) w) : wpList P ops Q (o :: rest) a w :=
 wpList_load_row hgd ty x ho g hx t cs (0, 0) d hB hu hd (by rw [hn]; exact hs) h
theorem wStB (hgd : o.guard = none) (ty : TypeId) (x y : Operand) (ho : o.op = .store ty x y) (g : Nat) (cells : Array Value) (hx : a.eval x = .pointer (some ⟨g, 0, none⟩)) (hy : a.eval y = .agg cells)
 {t : TypeId} {old : Array Value} (hB : Blk w g t old) (n : Nat) (hs : (P.info? ty).map (·.size) = some n) (hn : cells.size = n) (hold : old.size = n) (h1 : cells.all (·.oneCell') = true)
 (h : ∀ w1, Blk w1 g t cells → w.grownBy w1 (some g) → wpList P ops Q rest (a.put o.dst undef) w1) : wpList P ops Q (o :: rest) a w :=
 wpList_store_row hgd ty x y ho g cells hx hy t old hB (by rw [hn]; exact hs) (by rw [hn, hold]) h1
  (h _ (setRow_heap w g old cells t (0, 0) hB) ⟨rfl, rfl, rfl, by simp, fun k hk hne => setRow_other w g k cells (fun e => hne (by rw [e]))⟩)
theorem ret_cell_tmp {fn : Func} {R : Ending → World → Prop} {p u : Tmp} {ty : TypeId} (h : fn.results = #[.cell p ty, .tmp u]) (hdf : a.defers = []) (g : Nat) {t : TypeId} {cs : Array Value}
 (hp : a.tmps.getD p undef = .pointer (some ⟨g, 0, none⟩)) (hB : Blk w g t cs) (d : TypeDesc) (hu : P.underlying ty = some d) (hd : (match d with | .struct _ | .array _ _ => true | _ => false) = true)
 (n : Nat) (hs : (P.info? ty).map (·.size) = some n) (hn : cs.size = n) (hR : R (.returned (.tuple #[.agg cs, a.tmps.getD u undef])) w) : bodyPost P fn R .ret a w := by
 refine bodyPost_ret ?_ hdf hR
 rw [results_cell_tmp h]
 have e := run_loadVar_row (P := P) w g t ty cs (0, 0) d hB hu hd (by rw [hn]; exact hs)
 simp [hp, asAddr, e, Result.andThen]
theorem ret_cell {fn : Func} {R : Ending → World → Prop} {p : Tmp} {ty : TypeId} (h : fn.results = #[.cell p ty]) (hdf : a.defers = []) (g : Nat) {t : TypeId} {cs : Array Value}
 (hp : a.tmps.getD p undef = .pointer (some ⟨g, 0, none⟩)) (hB : Blk w g t cs) (d : TypeDesc) (hu : P.underlying ty = some d) (hd : (match d with | .struct _ | .array _ _ => true | _ => false) = true)
 (n : Nat) (hs : (P.info? ty).map (·.size) = some n) (hn : cs.size = n) (hR : R (.returned (.agg cs)) w) : bodyPost P fn R .ret a w :=
 bodyPost_ret (results_cell_row h _ _ g t cs (0, 0) d hp hB hu hd (by rw [hn]; exact hs)) hdf hR
end
theorem run_index_agg {P : Program} (t e : TypeId) (n : Nat) (cs : Array Value) (i : Nat) (u : Value) (ht : P.underlying t = some (.array n e)) (k : IntKind) (he : P.underlying e = some (.int k)) (hs : (P.info? e).map (·.size) = some 1)
 (hi : i < n) (hu : cs[i]? = some u) (w : World) : (Instr.index t (.agg cs) (.int .i64 (i : Int))).run P w = .ok u w := by
 cases hq : P.info? e with
 | none => simp [hq] at hs
 | some inf =>
   have hz : inf.size = 1 := by simpa [hq] using hs
   have hb : (0 : Int) ≤ i ∧ (i : Int) < n := by omega
   have hagg : (isAgg e).run P w = .ok false w := by
    unfold isAgg
    rw [Sem.run_bind, run_underlying he w]
    rfl
   have hc : ((0 : Int) ≤ (i : Int) ∧ (i : Int) < (n : Int)) = True := by simp; omega
   simp only [Instr.index, asIntOf, Sem.run_bind, Sem.run_pure, Result.andThen_ok, run_underlying ht, hc, if_true]
   simp [sizeOf, typeInfo, hq, hz, part, hagg, hu]
section
variable {P : Program} {ops : Array Oper} {rest : List Oper} {o : Oper} {a : Act} {w : World} {Q : Exit → Act → World → Prop}
theorem wBox (hg : o.guard = none) (t : TypeId) (x : Operand) (ho : o.op = .box t x) (cs : Array Value) (hx : (a.eval x).cells = cs)
 (h : ∀ w1 g, Blk w1 g t cs → Ext w w1 → w.heap.size ≤ g → wpList P ops Q rest (a.put o.dst (.pointer (some ⟨g, 0, none⟩))) w1) : wpList P ops Q (o :: rest) a w := by
 subst hx
 refine wpList_plain hg fun K hK => ?_
 unfold Oper.wp execOp
 simp only [ho, Sem.run_bind, Instr.box, newVar, newRow, run_newObj_alloc, Sem.run_pure, Result.andThen_ok]
 exact hK _ _ (h _ _ (Blk.new w t _) ((Ext.refl w).alloc _) (Nat.le_refl _))
theorem wpList_alloc_abs (hg : o.guard = none) (t : TypeId) (ho : o.op = .alloc t) (z : Value) (hz : (P.info? t).bind (·.zero) = some z)
 (h : ∀ w1 g, Blk w1 g t z.cells → Ext w w1 → w.heap.size ≤ g → wpList P ops Q rest (a.put o.dst (.pointer (some ⟨g, 0, none⟩))) w1) : wpList P ops Q (o :: rest) a w := by
 cases hq : P.info? t with
 | none => simp [hq] at hz
 | some inf =>
   have hz' : inf.zero = some z := by simpa [hq] using hz
   have hzv : (zeroValue t).run P w = .ok z w := by simp [zeroValue, typeInfo, hq, hz']
   refine wpList_plain hg fun K hK => ?_
   unfold Oper.wp execOp
   simp only [ho, Sem.run_bind, Instr.alloc, hzv, newVar, newRow, run_newObj_alloc, Sem.run_pure, Result.andThen_ok]
   exact hK _ _ (h _ _ (Blk.new w t _) ((Ext.refl w).alloc _) (Nat.le_refl _))
end
theorem wpList_build_abs {P : Program} {ops : Array Oper} {rest : List Oper} {o : Oper} {a : Act} {w : World} {Q : Exit → Act → World → Prop} (hg : o.guard = none) (t : TypeId) (parts : Array (Nat × Operand)) (ho : o.op = .build t parts)
 (cs : Array Value) (hf : P.built t (parts.map fun (i, x) => (i, a.eval x)).toList = some cs) (h : wpList P ops Q rest (a.put o.dst (.agg cs)) w) : wpList P ops Q (o :: rest) a w :=
 wpList_build hg t parts ho (by rw [hf]; rfl) (by rw [hf]; exact h)
theorem wpList_build0 {P : Program} {ops : Array Oper} {rest : List Oper} {o : Oper} {a : Act} {w : World} {Q : Exit → Act → World → Prop} (hg : o.guard = none) (t : TypeId) (ho : o.op = .build t #[])
 (cs : Array Value) (hf : P.built t [] = some cs) (h : wpList P ops Q rest (a.put o.dst (.agg cs)) w) : wpList P ops Q (o :: rest) a w :=
 wpList_build_abs hg t #[] ho cs (by simpa using hf) h
theorem wpList_wanted {P : Program} {ops : Array Oper} {rest : List Oper} {o : Oper} {a : Act} {w : World} {Q : Exit → Act → World → Prop} (hw : Region.wanted o (yielded ops a.tmps) = true)
 (h : ∀ K : Act → World → Prop, (∀ a w, wpList P ops Q rest a w → K a w) → o.wp P a w K Q) : wpList P ops Q (o :: rest) a w :=
 wpList_step fun K hK => by rw [if_pos hw]; exact h K hK
theorem wpList_load_blk_g {P : Program} {ops : Array Oper} {rest : List Oper} {o : Oper} {a : Act} {w : World} {Q : Exit → Act → World → Prop} (hw : Region.wanted o (yielded ops a.tmps) = true)
 (ty : TypeId) (x : Operand) (ho : o.op = .load ty x) (g : Nat) (hx : a.eval x = .pointer (some ⟨g, 0, none⟩))
 {t : TypeId} {cs : Array Value} (hB : Blk w g t cs) (d : TypeDesc) (hu : P.underlying ty = some d) (hd : (match d with | .struct _ | .array _ _ => true | _ => false) = true)
 (n : Nat) (hs : (P.info? ty).map (·.size) = some n) (hn : cs.size = n) (h : wpList P ops Q rest (a.put o.dst (.agg cs)) w) : wpList P ops Q (o :: rest) a w :=
 wpList_wanted hw fun _ hK => wp_load_row ty x ho g hx t cs (0, 0) d hB hu hd (by rw [hn]; exact hs) (hK _ _ h)
theorem calls_turn {P : Program} {f : FuncId} {args : Array Value} {w : World} {v : Value} (h : Calls P f args w fun e w' => e = .returned v ∧ w = w') : Calls P f args w fun e w' => e = .returned v ∧ w' = w :=
 h.mono fun _ _ ⟨a, b⟩ => ⟨a, b.symm⟩
theorem wAlo' {P : Program} {ops : Array Oper} {rest : List Oper} {o : Oper} {a : Act} {w : World} {Q : Exit → Act → World → Prop} (hg : o.guard = none) (dst : Option Tmp) (hdst : o.dst = dst) (t : TypeId) (ho : o.op = .alloc t) (z : Value) (hz : (P.info? t).bind (·.zero) = some z)
 (h : ∀ w1 g, Blk w1 g t z.cells → Ext w w1 → w.heap.size ≤ g → wpList P ops Q rest (a.put dst (.pointer (some ⟨g, 0, none⟩))) w1) : wpList P ops Q (o :: rest) a w := by
 subst hdst
 exact wpList_alloc_abs hg t ho z hz h
theorem wpList_build0_g {P : Program} {ops : Array Oper} {rest : List Oper} {o : Oper} {a : Act} {w : World} {Q : Exit → Act → World → Prop} (hw : Region.wanted o (yielded ops a.tmps) = true) (t : TypeId) (ho : o.op = .build t #[])
 (cs : Array Value) (hf : P.built t [] = some cs) (h : wpList P ops Q rest (a.put o.dst (.agg cs)) w) : wpList P ops Q (o :: rest) a w :=
 wpList_wanted hw fun _ hK => wp_build t #[] ho (by simp [hf]) (by simpa [hf] using hK _ _ h)
theorem Ext.grown {a w w' : World} (h : Ext a w) {g : Nat} (hg : w.grownBy w' (some g)) (hB : a.heap.size ≤ g) : Ext a w' :=
 Below.grown h hg h.size (fun k hk => by injection hk with hk; omega)
theorem Ext.setCell {a w : World} (h : Ext a w) {p : Addr} (hp : a.heap.size ≤ p.block) (u : Value) : Ext a (w.setCell p u) := Below.setCell h hp u
theorem vint {a b : Int} (h : a = b) : Value.int .i64 a = Value.int .i64 b := by rw [h]
def ints (zs : List Int) : List Value := zs.map (Value.int .i64)
theorem ints_at (zs : List Int) (k : Nat) (u : Value) (h : (ints zs)[k]? = some u) : ∃ hk : k < zs.length, u = .int .i64 zs[k] := by
 unfold ints at h
 rw [List.getElem?_map] at h
 obtain ⟨z, hz, rfl⟩ := Option.map_eq_some_iff.1 h
 obtain ⟨hk, e⟩ := List.getElem?_eq_some_iff.1 hz
 exact ⟨hk, by rw [e]⟩
theorem ints_len (zs : List Int) : (ints zs).length = zs.length := by simp [ints]
abbrev Tok := Int × Int × Int
def tokv (t : Tok) : List Value := [.int .i64 t.1, .int .i64 t.2.1, .int .i64 t.2.2]
def toks (T : List Tok) : List Value := T.flatMap tokv
theorem toks_len (T : List Tok) : (toks T).length = T.length * 3 := by
 induction T with
 | nil => rfl
 | cons t T ih => simp only [toks, List.flatMap_cons, List.length_append] at ih ⊢; rw [ih]; simp [tokv]; omega
theorem toks_app (T U : List Tok) : toks (T ++ U) = toks T ++ toks U := by simp [toks]
theorem toks_at (T : List Tok) (k : Nat) (h : k < T.length) :
 (toks T)[k * 3]? = some (.int .i64 T[k].1) ∧ (toks T)[k * 3 + 1]? = some (.int .i64 T[k].2.1) ∧ (toks T)[k * 3 + 2]? = some (.int .i64 T[k].2.2) := by
 induction T generalizing k with
 | nil => simp at h
 | cons t T ih =>
   have e : toks (t :: T) = tokv t ++ toks T := by simp [toks]
   rw [e]
   cases k with
   | zero => simp [tokv]
   | succ k =>
     have h2 : k < T.length := by simpa using h
     obtain ⟨a, b, c⟩ := ih k h2
     refine ⟨?_, ?_, ?_⟩
     ·rw [List.getElem?_append_right (by simp [tokv]; omega), show (k + 1) * 3 - (tokv t).length = k * 3 by simp [tokv]; omega, a]; simp
     ·rw [List.getElem?_append_right (by simp [tokv]; omega), show (k + 1) * 3 + 1 - (tokv t).length = k * 3 + 1 by simp [tokv]; omega, b]; simp
     ·rw [List.getElem?_append_right (by simp [tokv]; omega), show (k + 1) * 3 + 2 - (tokv t).length = k * 3 + 2 by simp [tokv]; omega, c]; simp
theorem addr_next (ad : Addr) (i j : Nat) (hj : 0 < j) : (⟨(ad.add i).block, (ad.add i).off + j, none⟩ : Addr) = ad.add (i + j) := by
 unfold Addr.add
 rw [if_neg (show ¬ i + j = 0 by omega)]
 split
 ·next h => subst h; simp
 ·simp; omega
theorem SL.tok {w : World} {A : Option Addr} {n c : Nat} {T : List Tok} {k : Nat} (h : SL w 3 (.slice A n c) n (toks T)) (hk : k < n) (hn : T.length = n) (hkl : k < T.length) :
 ∃ ad, A = some ad ∧ ad.block < w.heap.size ∧ w.cell? (ad.add (k * 3)) = some (.int .i64 T[k].1) ∧ w.cell? ⟨(ad.add (k * 3)).block, (ad.add (k * 3)).off + 1, none⟩ = some (.int .i64 T[k].2.1) ∧ w.cell? ⟨(ad.add (k * 3)).block, (ad.add (k * 3)).off + 2, none⟩ = some (.int .i64 T[k].2.2) := by
 obtain ⟨A', c', e, _, _, h2, h3⟩ := h
 injection e with e1 e2 e3
 subst e1
 obtain ⟨ad, ea, hb, hc⟩ := h3 (by omega)
 obtain ⟨a, b, d⟩ := toks_at T k hkl
 exact ⟨ad, ea, hb, hc _ _ a, by rw [addr_next _ _ 1 (by omega)]; exact hc _ _ b, by rw [addr_next _ _ 2 (by omega)]; exact hc _ _ d⟩
def rp (n d : Int) : Int := (2 * n + d) / (2 * d)
def rnd (n d : Int) : Int := if n < 0 then -(rp (-n) d) else rp n d
theorem rp_bounds (n d : Int) (h0 : 0 ≤ n) (hd : 1 ≤ d) : 0 ≤ rp n d ∧ rp n d ≤ n + 1 := by
 unfold rp
 constructor
 ·exact Int.ediv_nonneg (by omega) (by omega)
 ·have h1 : (2 * n + d) / (2 * d) * (2 * d) ≤ 2 * n + d := Int.ediv_mul_le _ (by omega)
  generalize (2 * n + d) / (2 * d) = q at *
  refine Int.not_lt.1 fun hq => ?_
  have h2 : (n + 2) * (2 * d) ≤ q * (2 * d) := Int.mul_le_mul_of_nonneg_right (by omega) (by omega)
  have h3 : n * 2 ≤ n * (2 * d) := Int.mul_le_mul_of_nonneg_left (by omega) h0
  rw [Int.add_mul] at h2
  omega
theorem rp_eq (n d : Int) (hd : 1 ≤ d) : rp n d = n / d + (if d ≤ 2 * (n % d) then 1 else 0) := by
 have e := Int.mul_ediv_add_emod n d
 have r0 := Int.emod_nonneg n (show d ≠ 0 by omega)
 have r1 := Int.emod_lt_of_pos n (show 0 < d by omega)
 unfold rp
 have e2 : 2 * n + d = (2 * (n % d) + d) + (2 * d) * (n / d) := by
  have : 2 * d * (n / d) = 2 * (d * (n / d)) := Int.mul_assoc _ _ _
  omega
 rw [e2, Int.add_mul_ediv_left _ _ (by omega)]
 have : (2 * (n % d) + d) / (2 * d) = if d ≤ 2 * (n % d) then 1 else 0 := by
  split
  ·have e3 : 2 * (n % d) + d = (2 * (n % d) - d) + (2 * d) * 1 := by omega
   rw [e3, Int.add_mul_ediv_left _ _ (by omega), Int.ediv_eq_zero_of_lt (by omega) (by omega)]
   rfl
  ·exact Int.ediv_eq_zero_of_lt (by omega) (by omega)
 rw [this]; omega
theorem rnd_bounds (n d : Int) (hd : 1 ≤ d) : -(n.natAbs : Int) - 1 ≤ rnd n d ∧ rnd n d ≤ n.natAbs + 1 := by
 unfold rnd
 split
 ·have := rp_bounds (-n) d (by omega) hd; omega
 ·have := rp_bounds n d (by omega) hd; omega
def clampZ (n lo hi : Int) : Int := if n < lo then lo else if hi < n then hi else n
theorem clampZ_bounds (n lo hi : Int) (h : lo ≤ hi) : lo ≤ clampZ n lo hi ∧ clampZ n lo hi ≤ hi := by
 unfold clampZ; split <;> (try split) <;> omega
def inB (n lo hi : Int) : Bool := decide (lo ≤ n ∧ n ≤ hi)
theorem inB_iff {n lo hi : Int} : inB n lo hi = true ↔ lo ≤ n ∧ n ≤ hi := by simp [inB]
theorem inB_not {n lo hi : Int} : inB n lo hi = false ↔ n < lo ∨ hi < n := by rw [← Bool.not_eq_true, inB_iff]; omega
def allIn (zs : List Int) (lo hi : Int) : Bool := zs.all fun z => inB z lo hi
theorem allIn_iff {zs : List Int} {lo hi : Int} : allIn zs lo hi = true ↔ ∀ z ∈ zs, lo ≤ z ∧ z ≤ hi := by simp [allIn, inB_iff]
theorem allIn_no {zs : List Int} {lo hi : Int} {k : Nat} (hk : k < zs.length) (h : inB zs[k] lo hi = false) : allIn zs lo hi = false := by
 rw [← Bool.not_eq_true, allIn_iff]
 intro hh
 have := inB_iff.2 (hh _ (List.getElem_mem hk))
 rw [this] at h; cases h
theorem allIn_not {zs : List Int} {lo hi : Int} : (!zs.any fun z => decide (z < lo) || decide (hi < z)) = allIn zs lo hi := by
 rw [Bool.eq_iff_iff, allIn_iff]
 simp only [Bool.not_eq_true', List.any_eq_false, Bool.or_eq_true, decide_eq_true_eq]
 exact ⟨fun h z hz => by have := h z hz; omega, fun h z hz => by have := h z hz; omega⟩
theorem inB_any {zs : List Int} {lo hi : Int} : (zs.any fun z => !inB z lo hi) = !allIn zs lo hi := by
 simp [allIn, List.all_eq_not_any_not]
theorem rround_any (n d : Int) (w : World) (hn1 : -1000000000000000000 ≤ n) (hn : n ≤ 1000000000000000000) (hd : 1 ≤ d) (hd2 : d ≤ 1000000000000000000) :
 Calls Tryz.prog 63 #[.int .i64 n, .int .i64 d] w fun e w' => e = .returned (.int .i64 (rnd n d)) ∧ w = w' := by
 have pos : ∀ n : Int, 0 ≤ n → 0 ≤ n / d ∧ n / d ≤ n ∧ 0 ≤ n % d ∧ n % d < d := fun n h0 =>
  ⟨Int.ediv_nonneg h0 (by omega), Int.ediv_le_self _ h0, Int.emod_nonneg _ (by omega), Int.emod_lt_of_pos _ (by omega)⟩
 by_cases h : n < 0
 ·obtain ⟨m, rfl⟩ : ∃ m, n = -m := ⟨-n, by omega⟩
  have hm : 0 < m := by omega
  obtain ⟨q0, q1, r0, r1⟩ := pos m (by omega)
  have hfin : rnd (-m) d = -(m / d + (if d ≤ 2 * (m % d) then 1 else 0)) := by rw [rnd, if_pos h, rp_eq _ _ hd]; simp
  clear h pos
  by_cases h2 : d ≤ 2 * (m % d)
  ·rw [hfin, if_pos h2]; clear hfin
   go_enter Tryz.func63, Tryz.ntmps63
   go_wp2
   go_ret
   exact ⟨by simp, rfl⟩
  ·rw [hfin, if_neg h2]; clear hfin
   go_enter Tryz.func63, Tryz.ntmps63
   go_wp2
   go_ret
   exact ⟨by simp, rfl⟩
 ·obtain ⟨q0, q1, r0, r1⟩ := pos n (by omega)
  have hfin : rnd n d = n / d + (if d ≤ 2 * (n % d) then 1 else 0) := by rw [rnd, if_neg h, rp_eq _ _ hd]
  clear pos
  by_cases h2 : d ≤ 2 * (n % d)
  ·rw [hfin, if_pos h2]; clear hfin
   go_enter Tryz.func63, Tryz.ntmps63
   go_wp2
   go_ret
   exact ⟨rfl, rfl⟩
  ·rw [hfin, if_neg h2]; clear hfin
   go_enter Tryz.func63, Tryz.ntmps63
   go_wp2
   go_ret
   exact ⟨by simp, rfl⟩
theorem clamp_any (n lo hi : Int) (w : World) :
 Calls Tryz.prog 31 #[.int .i64 n, .int .i64 lo, .int .i64 hi] w fun e w' => e = .returned (.int .i64 (clampZ n lo hi)) ∧ w = w' := by
 by_cases h : n < lo
 ·go_enter Tryz.func31, Tryz.ntmps31
  go_wp2
  go_ret
  exact ⟨by simp [clampZ, h], rfl⟩
 ·by_cases h2 : hi < n
  ·go_enter Tryz.func31, Tryz.ntmps31
   go_wp2
   go_ret
   exact ⟨by unfold clampZ; rw [if_neg (by omega), if_pos h2]; rfl, rfl⟩
  ·go_enter Tryz.func31, Tryz.ntmps31
   go_wp2
   go_ret
   exact ⟨by unfold clampZ; rw [if_neg (by omega), if_neg (by omega)]; rfl, rfl⟩
theorem outside_any (n lo hi : Int) (w : World) :
 Calls Tryz.prog 20 #[.int .i64 n, .int .i64 lo, .int .i64 hi] w fun e w' => e = .returned (.bool (!inB n lo hi)) ∧ w = w' := by
 by_cases h : n < lo
 ·have h' : decide (n < lo) = true := by simpa using h
  have e : (!inB n lo hi) = true := by rw [inB_not.2 (Or.inl h)]; rfl
  rw [e]; clear e
  go_enter Tryz.func20, Tryz.ntmps20
  go_wp2
  go_ret
  exact ⟨rfl, rfl⟩
 ·have h' : decide (n < lo) = false := by simpa using h
  have e : (!inB n lo hi) = decide (hi < n) := by rw [Bool.eq_iff_iff, Bool.not_eq_true', inB_not]; simp; omega
  rw [e]; clear e
  go_enter Tryz.func20, Tryz.ntmps20
  go_wp2
  go_ret
  exact ⟨rfl, rfl⟩
theorem pow_le (k m : Nat) (h : k ≤ m) : (2 : Int) ^ k ≤ 2 ^ m := by
 have := Nat.pow_le_pow_right (n := 2) (by omega) h
 exact_mod_cast this
theorem pow_pos' (k : Nat) : (1 : Int) ≤ 2 ^ k := by
 have := Nat.two_pow_pos k
 exact_mod_cast this
theorem power_any (k : Nat) (w : World) (hk : k ≤ 62) : Calls Tryz.prog 59 #[.int .i64 k] w fun e w' => e = .returned (.int .i64 (2 ^ k)) ∧ w = w' := by
 have h1 := pow_le k 62 hk
 have h2 := pow_pos' k
 have h3 : (2 : Int) ^ 62 = 4611686018427387904 := by decide
 rw [h3] at h1
 clear h3
 go_enter Tryz.func59, Tryz.ntmps59
 go_wp2
 go_ret
 exact ⟨rfl, rfl⟩
end Go.Proofs.YtlhggcbpipmjhaaGreatDoor
