/- Contracts for the law DeskRunsCard, part 6: what the functions that it reaches answer, for all arguments that the theorems name. -/
import Derived.Test.YtlhggcbpipmjhaaGreatDoorMDeskRunsCard4
import Derived.Test.YtlhggcbpipmjhaaGreatDoorMDeskRunsCard5
import Derived.Deep.QuietTactic
import Derived.Test.YtlhggcbpipmjhaaGreatDoorMDeskRunsCard1
import Derived.StillTail
namespace Go.Proofs.YtlhggcbpipmjhaaGreatDoor.BM
set_option linter.unusedVariables false
set_option linter.unusedSimpArgs false
def realN (cs : List Int) : Nat → List Int
 | 0 => []
 | i + 1 => realN cs i ++ (if 0 < cs.getD i 0 then [(i : Int)] else [])
theorem realN_mem (cs : List Int) : ∀ (i : Nat) (s : Int), s ∈ realN cs i ↔ ∃ j : Nat, j < i ∧ s = (j : Int) ∧ 0 < cs.getD j 0
 | 0, s => by simp [realN]
 | i + 1, s => by
   rw [realN, List.mem_append, realN_mem cs i s]
   constructor
   ·rintro (⟨j, h1, h2, h3⟩ | h)
    ·exact ⟨j, by omega, h2, h3⟩
    ·split at h
     ·rename_i hp
      exact ⟨i, by omega, by simpa using h, hp⟩
     ·cases h
   ·rintro ⟨j, h1, h2, h3⟩
    by_cases hj : j < i
    ·exact .inl ⟨j, hj, h2, h3⟩
    ·obtain rfl : j = i := by omega
     right
     rw [if_pos h3]
     simpa using h2
theorem realN_nodup (cs : List Int) : ∀ i, (realN cs i).Nodup
 | 0 => by simp [realN]
 | i + 1 => by
   rw [realN, List.nodup_append]
   refine ⟨realN_nodup cs i, by split <;> simp, fun a ha b hb e => ?_⟩
   obtain ⟨j, h1, h2, -⟩ := (realN_mem cs i a).1 ha
   split at hb
   ·have : b = (i : Int) := by simpa using hb
    omega
   ·cases hb
theorem realN_len (cs : List Int) : ∀ i, (realN cs i).length ≤ i
 | 0 => by simp [realN]
 | i + 1 => by
   have := realN_len cs i
   rw [realN, List.length_append]
   split <;> simp <;> omega
def wtN (cs : List Int) (s : Int) : Nat := if s = -1 then 0 else (cs.getD s.toNat 0).toNat
theorem singN_sing (cs : List Int) : ∀ i, singN cs i = ((-1) :: realN cs i).map (sing (wtN cs))
 | 0 => rfl
 | i + 1 => by
   rw [singN, realN, singN_sing cs i, ← List.cons_append, List.map_append]
   congr 1
   split
   ·have : wtN cs (i : Int) = (cs.getD i 0).toNat := by unfold wtN; rw [if_neg (by omega)]; simp
    simp [sing, this]
   ·rfl
theorem realN_pos (cs : List Int) : ∀ i, (realN cs i).length = (posN cs i).length
 | 0 => rfl
 | i + 1 => by
   rw [realN, posN, List.length_append, List.length_append, realN_pos cs i]
   split <;> rfl
theorem filt_mem (f : Int → Nat) (k n : Nat) (s : Int) : s ∈ filt f k n ↔ (∃ j : Nat, j < n ∧ s = (j : Int)) ∧ f s = k + 1 := by
 unfold filt
 simp only [List.mem_filter, List.mem_map, List.mem_range, decide_eq_true_eq]
 constructor
 ·rintro ⟨⟨j, h1, h2⟩, h3⟩
  exact ⟨⟨j, h1, h2.symm⟩, h3⟩
 ·rintro ⟨⟨j, h1, h2⟩, h3⟩
  exact ⟨⟨j, h1, h2.symm⟩, h3⟩
theorem filt_nodup (f : Int → Nat) (k n : Nat) : (filt f k n).Nodup := by
 unfold filt
 rw [List.nodup_iff_pairwise_ne]
 refine List.Pairwise.filter _ ?_
 rw [List.pairwise_map]
 exact List.nodup_range.imp (fun h e => h (by injection e))
def grp (f : Int → Nat) (n : Nat) : Nat → List Int
 | 0 => []
 | k + 1 => grp f n k ++ filt f k n
theorem grp_eq (f : Int → Nat) (n : Nat) : ∀ k, (List.range k).flatMap (fun j => filt f j n) = grp f n k
 | 0 => rfl
 | k + 1 => by rw [List.range_succ, List.flatMap_append, grp_eq f n k]; simp [grp]
theorem xsN_grp (f : Int → Nat) (n : Nat) : xsN f n 16 0 = grp f n 16 := by
 unfold xsN
 rw [grp_eq]
 simp [filt]
theorem grp_mem (f : Int → Nat) (n : Nat) : ∀ (k : Nat) (s : Int), s ∈ grp f n k ↔ (∃ j : Nat, j < n ∧ s = (j : Int)) ∧ 1 ≤ f s ∧ f s ≤ k
 | 0, s => by
   simp only [grp, List.not_mem_nil, false_iff]
   rintro ⟨-, h1, h2⟩
   omega
 | k + 1, s => by
   rw [grp, List.mem_append, grp_mem f n k s, filt_mem]
   constructor
   ·rintro (⟨h1, h2, h3⟩ | ⟨h1, h2⟩)
    ·exact ⟨h1, h2, by omega⟩
    ·exact ⟨h1, by omega, by omega⟩
   ·rintro ⟨h1, h2, h3⟩
    by_cases h : f s ≤ k
    ·exact .inl ⟨h1, h2, h⟩
    ·exact .inr ⟨h1, by omega⟩
theorem grp_nodup (f : Int → Nat) (n : Nat) : ∀ k, (grp f n k).Nodup
 | 0 => by simp [grp]
 | k + 1 => by
   rw [grp, List.nodup_append]
   refine ⟨grp_nodup f n k, filt_nodup f k n, fun a ha b hb e => ?_⟩
   subst e
   have h1 := ((grp_mem f n k a).1 ha).2.2
   have h2 := ((filt_mem f k n a).1 hb).2
   omega
theorem sumOn_sub {l m : List Int} (hl : l.Nodup) (hm : m.Nodup) (h : ∀ s ∈ l, s ∈ m) (g : Int → Nat) : sumOn l g ≤ sumOn m g := by
 rw [sumOn_count hm g l h]
 refine sumOn_le (fun s _ => ?_)
 have h1 : l.count s ≤ 1 := List.nodup_iff_count.1 hl s
 have := Nat.mul_le_mul_left (g s) h1
 omega
theorem grp_len (f : Int → Nat) (n k : Nat) : (grp f n k).length ≤ n := by
 have h := sumOn_sub (grp_nodup f n k) (m := (List.range n).map Int.ofNat) (by
  rw [List.nodup_iff_pairwise_ne, List.pairwise_map]
  exact List.nodup_range.imp (fun h e => h (by injection e))) (fun s hs => by
   obtain ⟨j, h1, h2⟩ := ((grp_mem f n k s).1 hs).1
   exact List.mem_map.2 ⟨j, List.mem_range.2 h1, h2.symm⟩) (fun _ => 1)
 rw [sumOn_const, sumOn_const] at h
 simpa using h
theorem grp_kraft (f : Int → Nat) (n : Nat) : ∀ k, sumOn (grp f n (k + 1)) (fun s => 2 ^ (16 - f s)) = sumOn (grp f n k) (fun s => 2 ^ (16 - f s)) + (filt f k n).length * 2 ^ (15 - k) := fun k => by
 rw [grp, sumOn_append]
 congr 1
 rw [sumOn_eq (k := fun _ => 2 ^ (15 - k)) (fun s hs => by
  have h := ((filt_mem f k n s).1 hs).2
  show 2 ^ (16 - f s) = 2 ^ (15 - k)
  congr 1
  omega), sumOn_const]
theorem csN_getD (f : Int → Nat) (n j : Nat) (hj : j < 16) : (csN f n 16 0).getD j 0 = ((filt f j n).length : Int) := by
 rw [List.getD_eq_getElem?_getD, List.getElem?_eq_getElem (by rw [csN_len]; exact hj), csN_get, if_pos hj]
 rfl
theorem next_kraft (f : Int → Nat) (n : Nat) : ∀ k, k ≤ 16 → nextW (csN f n 16 0) k * 2 ^ (16 - k) = sumOn (grp f n k) (fun s => 2 ^ (16 - f s))
 | 0, _ => by simp [nextW, grp, sumOn]
 | k + 1, h => by
   have ih := next_kraft f n k (by omega)
   rw [grp_kraft, ← ih, nextW, csN_getD f n k (by omega), Int.toNat_natCast, show 16 - (k + 1) = 15 - k by omega, show 16 - k = (15 - k) + 1 by omega, Nat.pow_succ, Nat.add_mul]
   congr 1
   rw [Nat.mul_comm 2, Nat.mul_assoc, Nat.mul_comm 2]
theorem sumL_grp (f : Int → Nat) (n : Nat) : ∀ k, k ≤ 16 → sumL (csN f n 16 0) k = ((grp f n k).length : Int)
 | 0, _ => by simp [sumL, grp]
 | k + 1, h => by
   rw [sumL_succ _ k (by rw [csN_len]; omega), sumL_grp f n k (by omega), csN_get, if_pos (by omega), grp, List.length_append]
   simp
theorem toks_len (f : Int → Nat) (n : Nat) : ∀ k, k ≤ 16 → (codesW (csN f n 16 0) k).length = (grp f n k).length ∧ ∀ t ∈ zipC (codesW (csN f n 16 0) k) (grp f n k), t.2.1 = ((f t.1 : Nat) : Int)
 | 0, _ => by simp [codesW, grp, zipC]
 | k + 1, h => by
   obtain ⟨h1, h2⟩ := toks_len f n k (by omega)
   have hg := csN_getD f n k (by omega)
   rw [codesW, grp, hg, Int.toNat_natCast]
   refine ⟨by rw [List.length_append, List.length_append, h1, rowC_len], fun t ht => ?_⟩
   unfold zipC at ht h2
   rw [List.zipWith_append h1] at ht
   rcases List.mem_append.1 ht with ht | ht
   ·exact h2 t ht
   ·obtain ⟨i, hi, e⟩ := List.mem_iff_getElem.1 ht
    rw [List.getElem_zipWith] at e
    subst e
    have hm : (filt f k n)[i]'(by rw [List.length_zipWith, rowC_len] at hi; omega) ∈ filt f k n := List.getElem_mem _
    have hf := ((filt_mem f k n _).1 hm).2
    show (((rowC (csN f n 16 0) k (filt f k n).length)[i]'(by rw [List.length_zipWith] at hi; omega)).1 : Int) = _
    rw [hf]
    simp [rowC]
theorem len_of (f : Int → Nat) (n : Nat) (s : Int) (hs : s ∈ grp f n 16) : (findT (zipC (codesW (csN f n 16 0) 16) (grp f n 16)) s).isSome = true ∧ lenT (zipC (codesW (csN f n 16 0) 16) (grp f n 16)) s = f s := by
 obtain ⟨h1, h2⟩ := toks_len f n 16 (Nat.le_refl _)
 obtain ⟨p, hp, e⟩ := List.mem_iff_getElem.1 hs
 have hz : (zipC (codesW (csN f n 16 0) 16) (grp f n 16)).length = (grp f n 16).length := by rw [zipC_len _ _ (by omega), h1]
 have hm : (zipC (codesW (csN f n 16 0) 16) (grp f n 16))[p]'(by omega) ∈ zipC (codesW (csN f n 16 0) 16) (grp f n 16) := List.getElem_mem _
 have he : ((zipC (codesW (csN f n 16 0) 16) (grp f n 16))[p]'(by omega)).1 = s := by
  unfold zipC
  rw [List.getElem_zipWith]
  exact e
 cases hq : findT (zipC (codesW (csN f n 16 0) 16) (grp f n 16)) s with
 | none =>
   exfalso
   have := (List.find?_eq_none.1 hq) _ hm
   simp [he] at this
 | some t =>
   refine ⟨rfl, ?_⟩
   have ht := List.mem_of_find?_eq_some hq
   have ht1 := List.find?_some hq
   simp at ht1
   have h3 := h2 t ht
   rw [ht1] at h3
   unfold lenT bitsT
   rw [hq]
   show (digs t.2.2.toNat t.2.1.toNat).length = f s
   rw [digs_len, h3, Int.toNat_natCast]
theorem made_counts {counts : List Int} {n : Nat} (hn : counts.length = n) (h256 : n ≤ 256) (hb : ∀ z ∈ counts, 0 ≤ z ∧ z ≤ 9999) {S L : List Pack} (hS : S.Perm (singN counts n)) (hso : (S.map (·.1)).Pairwise (· ≤ ·)) (hR : Reach S 15 L) :
 let f := fun s => (cont (L.take (2 * S.length - 2))).count s
 (∀ s, f s ≠ 0 → s = -1 ∨ s ∈ realN counts n) ∧ (∀ s ∈ realN counts n, 1 ≤ f s ∧ f s ≤ 16) ∧ sumOn (realN counts n) (fun s => 2 ^ (16 - f s)) < 2 ^ 16 ∧
 ∀ ws : List Nat, ws.Perm (0 :: posN counts n) → ws.Pairwise (· ≤ ·) → sumOn (realN counts n) (fun s => wtN counts s * f s) = bestZ ws := by
 intro f
 have hSl : S.length = (realN counts n).length + 1 := by rw [hS.length_eq, singN_sing]; simp
 by_cases h0 : (realN counts n).length = 0
 ·have hr := List.eq_nil_of_length_eq_zero h0
  have hf : ∀ s, f s = 0 := fun s => by
   show (cont (L.take (2 * S.length - 2))).count s = 0
   rw [hSl, h0]
   simp [cont]
  rw [hr]
  refine ⟨fun s h => absurd (hf s) h, fun s h => (by cases h), (by simp [sumOn]), fun ws hw _ => ?_⟩
  have hl := hw.length_eq
  rw [List.length_cons, ← realN_pos, h0] at hl
  unfold bestZ
  rw [if_pos hl]
  rfl
 ·have hnd : ((-1 : Int) :: realN counts n).Nodup := by
   rw [List.nodup_cons]
   refine ⟨fun h => ?_, realN_nodup counts n⟩
   obtain ⟨j, -, h2, -⟩ := (realN_mem counts n _).1 h
   omega
  have hS2 : S.Perm (((-1 : Int) :: realN counts n).map (sing (wtN counts))) := by rw [← singN_sing]; exact hS
  obtain ⟨P, hP, hPs, hPL⟩ := hR.rows hso
  have hlen : 2 * ((-1 : Int) :: realN counts n).length - 2 ≤ (P 15).length := by
   rw [hPL, hR.len, hSl, List.length_cons]
   exact lenF_15 _ (by have := realN_len counts n; omega)
  obtain ⟨c1, c2, c3, c4, c5⟩ := packages hnd (by rw [List.length_cons]; omega) hS2 hP hPs hlen far
  rw [hPL, List.length_cons, ← hSl] at c1 c2 c3 c4 c5
  have hk : sumOn ((-1 : Int) :: realN counts n) (fun s => 2 ^ (16 - f s)) = 2 ^ (16 - f (-1)) + sumOn (realN counts n) (fun s => 2 ^ (16 - f s)) := rfl
  have hc : sumOn ((-1 : Int) :: realN counts n) (fun s => wtN counts s * f s) = wtN counts (-1) * f (-1) + sumOn (realN counts n) (fun s => wtN counts s * f s) := rfl
  have hw0 : wtN counts (-1) = 0 := by unfold wtN; rw [if_pos rfl]
  refine ⟨fun s h => ?_, fun s h => c2 s (List.mem_cons_of_mem _ h), ?_, fun ws hw hws => ?_⟩
  ·have := c1 s (List.count_pos_iff.1 (Nat.pos_of_ne_zero h))
   simpa using this
  ·have h1 : sumOn ((-1 : Int) :: realN counts n) (fun s => 2 ^ (16 - f s)) ≤ 2 ^ 16 := c3
   rw [hk] at h1
   have h2 : 0 < 2 ^ (16 - f (-1)) := Nat.two_pow_pos _
   omega
  ·rw [hw0, Nat.zero_mul, Nat.zero_add] at hc
   have hwt : ∀ s, wtN counts s ≤ 9999 := fun s => by
    unfold wtN
    split
    ·omega
    ·rw [List.getD_eq_getElem?_getD]
     cases hq : counts[s.toNat]? with
     | none => simp
     | some z => have := hb z (List.mem_of_getElem? hq); simp; omega
   have hbd : sumOn (realN counts n) (fun s => wtN counts s * f s) ≤ 256 * 159984 := by
    refine Nat.le_trans (sumOn_le (k := fun _ => 159984) (fun s hs => ?_)) ?_
    ·have h1 := (c2 s (List.mem_cons_of_mem _ hs)).2
     have h3 : wtN counts s * f s ≤ 9999 * 16 := Nat.mul_le_mul (hwt s) h1
     exact h3
    ·rw [sumOn_const]
     exact Nat.mul_le_mul_right _ (Nat.le_trans (realN_len counts n) h256)
   have hF : sumOn (realN counts n) (fun s => wtN counts s * f s) = pre (L.map (·.1)) (2 * S.length - 2) := hc.symm.trans c4
   have hlt : pre (L.map (·.1)) (2 * S.length - 2) < far := by rw [← hF]; unfold far; omega
   have h5 := c5 hlt
   have hwe : ws = S.map (·.1) := by
    refine List.Perm.eq_of_pairwise (le := (· ≤ ·)) (fun a b _ _ h1 h2 => by omega) hws hso ?_
    refine hw.trans ?_
    rw [← singN_pos]
    exact (hS.map _).symm
   rw [hF, ← h5, ← hwe]
   unfold bestZ
   have hwl : ws.length = S.length := by rw [hwe, List.length_map]
   rw [if_neg (by omega), hwl, hwe]
theorem made_good {counts cs xs : List Int} (hM : Made counts cs xs) (hb : bcheckZ counts = 0) :
 checkZ cs xs = 0 ∧ (∀ x ∈ xs, ∃ j : Nat, x = (j : Int) ∧ j < counts.length ∧ counts.getD j 0 ≠ 0) ∧ ∀ ws : List Nat, ws.Perm (0 :: posN counts counts.length) → ws.Pairwise (· ≤ ·) → costZ cs xs counts = (((bestZ ws : Nat) : Int), 0) := by
 obtain ⟨b1, b2⟩ := bcheck_zero hb
 have hbd := allIn_iff.1 b2
 obtain ⟨S, L, hS, hso, hR, hcs, hxs⟩ := hM
 obtain ⟨f1, f2, f3, f4⟩ := made_counts rfl b1 (fun z hz => by have := hbd z hz; omega) hS hso hR
 generalize (fun s => (cont (L.take (2 * S.length - 2))).count s) = f at *
 generalize hn : counts.length = n at *
 rw [xsN_grp] at hxs
 subst hcs hxs
 have hreal : ∀ s, s ∈ grp f n 16 ↔ s ∈ realN counts n := fun s => by
  rw [grp_mem]
  constructor
  ·rintro ⟨⟨j, h1, h2⟩, h3, -⟩
   rcases f1 s (by omega) with h | h
   ·omega
   ·exact h
  ·intro h
   obtain ⟨j, h1, h2, -⟩ := (realN_mem counts n s).1 h
   exact ⟨⟨j, h1, h2⟩, f2 s h⟩
 have hglen := grp_len f n 16
 have hcheck : checkZ (csN f n 16 0) (grp f n 16) = 0 := by
  rw [checkZ_words]
  ·rw [if_pos]
   unfold okW
   rw [List.all_eq_true]
   intro k hk
   have hk16 := List.mem_range.1 hk
   rw [decide_eq_true_eq]
   have h1 := next_kraft f n (k + 1) (by omega)
   have h2 : sumOn (grp f n (k + 1)) (fun s => 2 ^ (16 - f s)) ≤ sumOn (realN counts n) (fun s => 2 ^ (16 - f s)) := sumOn_sub (grp_nodup f n _) (realN_nodup counts n) (fun s hs => by
    obtain ⟨a, b, c⟩ := (grp_mem f n _ s).1 hs
    exact (hreal s).1 ((grp_mem f n 16 s).2 ⟨a, b, by omega⟩)) _
   have h3 : nextW (csN f n 16 0) (k + 1) * 2 ^ (16 - (k + 1)) < 2 ^ (k + 1) * 2 ^ (16 - (k + 1)) := by
    rw [← Nat.pow_add, show k + 1 + (16 - (k + 1)) = 16 by omega, h1]
    omega
   have := Nat.lt_of_mul_lt_mul_right h3
   omega
  ·rw [totOK_iff]
   refine ⟨allIn_iff.2 (fun z hz => ?_), ?_, ?_⟩
   ·obtain ⟨j, hj, rfl⟩ := List.mem_map.1 hz
    have h1 := List.mem_range.1 hj
    rw [if_pos h1]
    have := filt_len f j n
    omega
   ·rw [sumL_grp f n 16 (Nat.le_refl _)]
    omega
   ·exact sumL_grp f n 16 (Nat.le_refl _)
  ·refine allIn_iff.2 (fun z hz => ?_)
   obtain ⟨⟨j, h1, h2⟩, -⟩ := (grp_mem f n 16 z).1 hz
   omega
  ·exact grp_nodup f n 16
 refine ⟨hcheck, fun x hx => ?_, fun ws hw hws => ?_⟩
 ·obtain ⟨j, h1, h2, h3⟩ := (realN_mem counts n x).1 ((hreal x).1 hx)
  exact ⟨j, h2, h1, by omega⟩
 ·have hcost : ∀ i, i ≤ n → costL (zipC (codesW (csN f n 16 0) 16) (grp f n 16)) counts i = ((sumOn (realN counts i) (fun s => wtN counts s * f s) : Nat) : Int) := by
   have HT := fun s hs => (len_of f n s hs).2
   generalize zipC (codesW (csN f n 16 0) 16) (grp f n 16) = T at HT ⊢
   intro i
   induction i with
   | zero => intro _; rfl
   | succ i ih =>
     intro hi
     show costL T counts i + counts.getD i 0 * (lenT T (i : Int) : Int) = _
     rw [ih (by omega), realN, sumOn_append]
     have hz : 0 ≤ counts.getD i 0 := by
      rw [List.getD_eq_getElem?_getD]
      cases hq : counts[i]? with
      | none => simp
      | some z => exact (hbd z (List.mem_of_getElem? hq)).1
     by_cases hp : 0 < counts.getD i 0
     ·have hm : (i : Int) ∈ realN counts n := (realN_mem counts n _).2 ⟨i, by omega, rfl, hp⟩
      rw [if_pos hp, HT _ ((hreal _).2 hm)]
      have hw1 : wtN counts (i : Int) = (counts.getD i 0).toNat := by unfold wtN; rw [if_neg (by omega)]; simp
      have e : sumOn [(i : Int)] (fun s => wtN counts s * f s) = (counts.getD i 0).toNat * f (i : Int) := by simp [sumOn, hw1]
      rw [e, Int.natCast_add, Int.natCast_mul, Int.toNat_of_nonneg hz]
     ·rw [if_neg hp, show counts.getD i 0 = 0 by omega, Int.zero_mul]
      simp [sumOn]
  have hsome : ∀ s, s ∈ realN counts n → (findT (zipC (codesW (csN f n 16 0) 16) (grp f n 16)) s).isSome = true := fun s hs => (len_of f n s ((hreal s).2 hs)).1
  have hc := hcost n (Nat.le_refl _)
  clear hcost
  unfold costZ
  rw [if_pos hcheck, if_pos hb]
  clear hcheck
  generalize zipC (codesW (csN f n 16 0) 16) (grp f n 16) = T at *
  have hall : hasAll T counts = true := hasAll_yes (fun k hk => by
   by_cases hp : 0 < counts[k]
   ·exact .inr (hsome _ ((realN_mem counts n _).2 ⟨k, by omega, rfl, by simpa [hk] using hp⟩))
   ·exact .inl (by omega))
  rw [if_pos hall, hn, hc, f4 ws hw hws]
end Go.Proofs.YtlhggcbpipmjhaaGreatDoor.BM
namespace Go.Proofs.YtlhggcbpipmjhaaGreatDoor.BM
set_option linter.unusedVariables false
set_option linter.unusedSimpArgs false
open Go.RowKit
theorem reach_ex (S : List Pack) : ∀ f, ∃ L, Reach S f L
 | 0 => ⟨S, .zero⟩
 | f + 1 => by
   obtain ⟨L, h⟩ := reach_ex S f
   refine ⟨(pairP L ++ S).mergeSort (fun a b => decide (a.1 ≤ b.1)), h.step (List.mergeSort_perm _ _) ?_⟩
   rw [List.pairwise_map]
   exact (List.pairwise_mergeSort (le := fun a b : Pack => decide (a.1 ≤ b.1)) (fun a b c h1 h2 => by simp at h1 h2 ⊢; omega) (fun a b => by simp; omega) _).imp (fun {a b} h => by simpa using h)
theorem best_bd {counts : List Int} (hb : bcheckZ counts = 0) {ws : List Nat} (hw : ws.Perm (0 :: posN counts counts.length)) (hs : ws.Pairwise (· ≤ ·)) : bestZ ws ≤ 256 * 159984 := by
 obtain ⟨b1, b2⟩ := bcheck_zero hb
 have hbd := allIn_iff.1 b2
 have hS := List.mergeSort_perm (singN counts counts.length) (fun a b => decide (a.1 ≤ b.1))
 have hso : (((singN counts counts.length).mergeSort (fun a b => decide (a.1 ≤ b.1))).map (·.1)).Pairwise (· ≤ ·) := by
  rw [List.pairwise_map]
  exact (List.pairwise_mergeSort (le := fun a b : Pack => decide (a.1 ≤ b.1)) (fun a b c h1 h2 => by simp at h1 h2 ⊢; omega) (fun a b => by simp; omega) _).imp (fun {a b} h => by simpa using h)
 obtain ⟨L, hR⟩ := reach_ex ((singN counts counts.length).mergeSort (fun a b => decide (a.1 ≤ b.1))) 15
 obtain ⟨f1, f2, f3, f4⟩ := made_counts rfl b1 (fun z hz => by have := hbd z hz; omega) hS hso hR
 rw [← f4 ws hw hs]
 have hwt : ∀ s, wtN counts s ≤ 9999 := fun s => by
  unfold wtN
  split
  ·omega
  ·rw [List.getD_eq_getElem?_getD]
   cases hq : counts[s.toNat]? with
   | none => simp
   | some z => have := hbd z (List.mem_of_getElem? hq); simp; omega
 refine Nat.le_trans (sumOn_le (k := fun _ => 159984) (fun s hs => ?_)) ?_
 ·have h1 := (f2 s hs).2
  have h3 := Nat.mul_le_mul (hwt s) h1
  exact h3
 ·rw [sumOn_const]
  exact Nat.mul_le_mul_right _ (Nat.le_trans (realN_len counts _) b1)
def bestOf (counts : List Int) : Int := (bestZ ((0 :: posN counts counts.length).mergeSort (fun a b => decide (a ≤ b))) : Nat)
theorem sorted_ok (l : List Nat) : (l.mergeSort (fun a b => decide (a ≤ b))).Pairwise (· ≤ ·) :=
 (List.pairwise_mergeSort (le := fun a b : Nat => decide (a ≤ b)) (fun a b c h1 h2 => by simp at h1 h2 ⊢; omega) (fun a b => by simp; omega) _).imp (fun {a b} h => by simpa using h)
theorem best_of {counts : List Int} {ws : List Nat} (hw : ws.Perm (0 :: posN counts counts.length)) (hs : ws.Pairwise (· ≤ ·)) : ((bestZ ws : Nat) : Int) = bestOf counts := by
 unfold bestOf
 have e : ws = (0 :: posN counts counts.length).mergeSort (fun a b => decide (a ≤ b)) :=
  List.Perm.eq_of_pairwise (le := (· ≤ ·)) (fun a b _ _ h1 h2 => by omega) hs (sorted_ok _) (hw.trans (List.mergeSort_perm _ _).symm)
 rw [← e]
theorem bestOf_bd {counts : List Int} (hb : bcheckZ counts = 0) : 0 ≤ bestOf counts ∧ bestOf counts ≤ 900000000000 := by
 have := best_bd hb (List.mergeSort_perm _ _) (sorted_ok _)
 unfold bestOf
 omega
end Go.Proofs.YtlhggcbpipmjhaaGreatDoor.BM
namespace Go.Proofs.YtlhggcbpipmjhaaGreatDoor
set_option linter.unusedVariables false
set_option linter.unusedSimpArgs false
open Go.RowKit
structure Later (R : World → World → Prop) : Prop where
 refl : ∀ w, R w w
 trans : ∀ {a b c}, R a b → R b c → R a c
theorem later_ext : Later Ext := ⟨Ext.refl, fun h k => Ext.trans h k⟩
section
variable {P : Program} {ops : Array Oper} {md : Region.Mode} {R : World → World → Prop}
def YieldsR (P : Program) (ops : Array Oper) (R : World → World → Prop) (o : Oper) (v : Value) (a : Act) (wc : World) : Prop :=
 (Region.wanted o (yielded ops a.tmps) = true ∧ ∀ w, R wc w → o.quietAt P a (R w) w v) ∨ (Region.wanted o (yielded ops a.tmps) = false ∧ v = undef)
theorem YieldsR.mono (L : Later R) {o : Oper} {v : Value} {a : Act} {wc w : World} (h : YieldsR P ops R o v a wc) (hw : R wc w) : YieldsR P ops R o v a w :=
 h.imp (fun ⟨h1, h2⟩ => ⟨h1, fun w' h' => h2 w' (L.trans hw h')⟩) id
theorem YieldsR.of_same {o : Oper} {v : Value} {a a' : Act} {wc : World} (hy : YieldsR P ops R o v a wc) (he : execOp a'.eval o = execOp a.eval o)
 (hw : Region.wanted o (yielded ops a'.tmps) = Region.wanted o (yielded ops a.tmps)) : YieldsR P ops R o v a' wc := by
 unfold YieldsR Oper.quietAt at *
 rw [he, hw]
 exact hy
theorem wp_of_quietAt (L : Later R) {o : Oper} {a : Act} {v : Value} {w : World} {K : Act → World → Prop} {Q : Exit → Act → World → Prop} (h : o.quietAt P a (R w) w v) (hk : ∀ w', R w w' → K (a.put o.dst v) w') : o.wp P a w K Q := by
 unfold Oper.quietAt at h
 unfold Oper.wp
 generalize (execOp a.eval o).run P w = r at *
 cases r with
 | ok n w' =>
   cases n <;> simp only [Oper.quietUpon] at h <;> simp only [Oper.upon]
   case value u =>
    obtain ⟨e1, e2⟩ := h
    rw [e1, e2]
    exact hk _ (L.refl _)
   case skip =>
    obtain ⟨e1, e2⟩ := h
    rw [e1, ← e2]
    exact hk _ (L.refl _)
   case enter f args =>
    obtain ⟨e1, hc⟩ := h
    rw [e1]
    exact hc.mono fun e w'' ⟨he, hw''⟩ => by subst he; exact hk _ hw''
 | halt x w' => simp only [Oper.quietUpon] at h
theorem YieldsR.wpOp (L : Later R) {i : Nat} {o : Oper} {v : Value} {a : Act} {wc w : World} {Q : Exit → Act → World → Prop} (hi : ops[i]? = some o) (hy : YieldsR P ops R o v a wc) (hw : R wc w)
 {K : Act → World → Prop} (h : ∀ w', R w w' → K (a.put o.dst v) w') : wpOp P ops Q i K a w := by
 unfold Go.wpOp
 simp only [hi]
 rcases hy with ⟨h1, h2⟩ | ⟨h1, rfl⟩
 ·simp only [h1, if_true]
  exact .inl (wp_of_quietAt L (h2 w hw) h)
 ·simp only [h1, Bool.false_eq_true, if_false]
  exact h _ (L.refl _)
theorem wpOp_putR {j : Nat} {oi oj : Oper} {v : Value} {wc : World} {Q : Exit → Act → World → Prop} (hj : ops[j]? = some oj) (hap : oi.apart ops oj = true)
 (hsi : ∀ cs b, oi.op ≠ .select cs b) (hsj : ∀ cs b, oj.op ≠ .select cs b)
 (hQ : ∀ c a w, Q (.panic c) (a.put oi.dst v) w → Q (.panic c) a w) {K : Act → World → Prop} {a : Act} {w : World}
 (hy : YieldsR P ops R oi v a wc) (h : wpOp P ops Q j K (a.put oi.dst v) w) :
 wpOp P ops Q j (fun a' w' => YieldsR P ops R oi v a' wc ∧ K (a'.put oi.dst v) w') a w := by
 obtain ⟨h1, h2, h3⟩ := Oper.apart_spec hap
 have keep : ∀ (a : Act), YieldsR P ops R oi v a wc → ∀ u, YieldsR P ops R oi v (a.put oj.dst u) wc := fun a hy u =>
  hy.of_same (execOp_put oi hsi a oj.dst u h3) (wanted_put oi a oj.dst u h3)
 have keepD : ∀ d, YieldsR P ops R oi v { a with defers := d :: a.defers } wc := fun d => hy.of_same rfl rfl
 unfold wpOp at *
 simp only [hj] at *
 rw [wanted_put oj a oi.dst v h1] at h
 split
 ·rename_i hw
  simp only [hw, if_true] at h
  rcases h with h | ⟨hasks, hlets⟩
  case inr => exact .inr ⟨by unfold Oper.asks at *; rw [execOp_put oj hsj a oi.dst v h1] at hasks; exact hasks, hlets⟩
  refine .inl ?_
  unfold Oper.wp at *
  rw [execOp_put oj hsj a oi.dst v h1] at h
  generalize (execOp a.eval oj).run P w = r at *
  cases r with
  | ok n w' =>
    cases n <;> simp only [Oper.upon] at h ⊢
    case value u => exact ⟨keep a hy u, by rw [← Act.put_comm a v u h2]; exact h⟩
    case skip => exact ⟨keep a hy _, by rw [← Act.put_comm a v undef h2]; exact h⟩
    case defer d =>
     refine ⟨keep _ (keepD d) _, ?_⟩
     rw [← Act.put_comm _ v undef h2, ← Act.put_defers]
     exact h
    case enter f args =>
     refine Calls.mono h fun e w'' he => ?_
     cases e with
     | returned u => exact ⟨keep a hy u, by rw [← Act.put_comm a v u h2]; exact he⟩
     | panicked c => exact hQ _ _ _ he
     | outgrown => exact he
    case row row args => exact Rows.mono h fun u w'' he => ⟨keep a hy u, by rw [← Act.put_comm a v u h2]; exact he⟩
  | halt x w' =>
    cases x <;> simp only [Oper.upon] at h ⊢
    case panic u => exact hQ _ _ _ h
 ·rename_i hw
  simp only [hw] at h
  exact ⟨keep a hy _, by rw [← Act.put_comm a v undef h2]; exact h⟩
def wpAnyR (P : Program) (md : Region.Mode) (ops : Array Oper) (R : World → World → Prop) (Q : Exit → Act → World → Prop) : Nat → Array Bool → Act → World → Prop
 | 0, listed, a, wc => Region.ready md ops listed = [] ∧ ∀ w, R wc w → Q .normal a w
 | f + 1, listed, a, wc => (Region.ready md ops listed = [] → ∀ w, R wc w → Q .normal a w) ∧
   ∀ i ∈ Region.ready md ops listed, ∀ w, R wc w → wpOp P ops Q i (fun a' w' => R w w' ∧ wpAnyR P md ops R Q f (listed.setIfInBounds i true) a' w') a w
variable {Q : Exit → Act → World → Prop}
theorem wpAnyR_mono (L : Later R) : ∀ (f : Nat) (listed : Array Bool) (a : Act) (wc w : World), R wc w → wpAnyR P md ops R Q f listed a wc → wpAnyR P md ops R Q f listed a w
 | 0, _, _, _, _, hw, h => ⟨h.1, fun w' h' => h.2 w' (L.trans hw h')⟩
 | _ + 1, _, _, _, _, hw, h => ⟨fun h0 w' h' => h.1 h0 w' (L.trans hw h'), fun i hi w' h' => h.2 i hi w' (L.trans hw h')⟩
theorem wpAny_of_R (L : Later R) : ∀ (f : Nat) (listed : Array Bool) (a : Act) (wc w : World), R wc w → wpAnyR P md ops R Q f listed a wc → wpAny P md ops Q f listed a w
 | 0, _, _, _, _, hw, h => ⟨h.1, h.2 _ hw⟩
 | f + 1, _, _, _, _, hw, h => ⟨fun h0 => h.1 h0 _ hw, fun i hi => wpOp_mono (fun a' w' h' => wpAny_of_R L f _ a' w' w' (L.refl _) h'.2) (h.2 i hi _ hw)⟩
theorem wpAnyR_first (L : Later R) {i : Nat} {oi : Oper} {v : Value} (hi : ops[i]? = some oi) (hsel : ∀ (j : Nat) (o : Oper) cs b, ops[j]? = some o → o.op ≠ .select cs b)
 (hQ : ∀ c a w, Q (.panic c) (a.put oi.dst v) w → Q (.panic c) a w) :
 ∀ (fuel : Nat) (listed : Array Bool) (a : Act) (wc : World),
  (∀ j oj, ops[j]? = some oj → j ≠ i → listed.getD j true = false → (∀ e ∈ oj.after, Region.binds md e = true → e.on ≠ i) → oi.apart ops oj = true) →
  i ∈ Region.ready md ops listed → YieldsR P ops R oi v a wc →
  wpAnyR P md ops R Q fuel (listed.setIfInBounds i true) (a.put oi.dst v) wc → wpAnyR P md ops R Q (fuel + 1) listed a wc := by
 intro fuel
 induction fuel with
 | zero =>
   intro listed a wc _ hr hy H
   refine ⟨fun h => (by rw [h] at hr; cases hr), fun j hj w hw => ?_⟩
   by_cases hji : j = i
   ·subst hji; exact hy.wpOp L hi hw fun w' h' => ⟨h', wpAnyR_mono L _ _ _ _ _ (L.trans hw h') H⟩
   ·have := ready_mono hj hji
    rw [H.1] at this
    cases this
 | succ fuel ih =>
   intro listed a wc hfree hr hy H
   refine ⟨fun h => (by rw [h] at hr; cases hr), fun j hj w hw => ?_⟩
   by_cases hji : j = i
   ·subst hji; exact hy.wpOp L hi hw fun w' h' => ⟨h', wpAnyR_mono L _ _ _ _ _ (L.trans hw h') H⟩
   ·have h1 := H.2 j (ready_mono hj hji) w hw
    obtain ⟨hjun, oj, hoj, hall⟩ := mem_ready.1 hj
    have hnot : ∀ e ∈ oj.after, Region.binds md e = true → e.on ≠ i := fun e he hb heq => by
     have h1 := hall e he hb
     have h0 := (mem_ready.1 hr).1
     rw [heq] at h1
     rcases Nat.lt_or_ge i listed.size with h' | h'
     ·simp [h'] at h0 h1; rw [h0] at h1; cases h1
     ·simp [Array.getElem?_eq_none h'] at h1
    have h2 := wpOp_putR hoj (hfree j oj hoj hji hjun hnot) (fun cs b => hsel i oi cs b hi) (fun cs b => hsel j oj cs b hoj) hQ hy h1
    have hfree' : ∀ k ok, ops[k]? = some ok → k ≠ i → (listed.setIfInBounds j true).getD k true = false →
     (∀ e ∈ ok.after, Region.binds md e = true → e.on ≠ i) → oi.apart ops ok = true := fun k ok hk hki hun hno => by
     refine hfree k ok hk hki ?_ hno
     by_cases hjk : j = k
     ·subst hjk; exact hjun
     ·rw [getD_set_ne true hjk] at hun; exact hun
    refine wpOp_mono (fun a' w' h3 => ⟨h3.2.1, ih (listed.setIfInBounds j true) a' w' hfree' (ready_mono hr (Ne.symm hji)) (h3.1.mono L (L.trans hw h3.2.1)) ?_⟩) h2
    rw [Array.setIfInBounds_comm _ _ hji]
    exact h3.2.2
def wpLx (P : Program) (md : Region.Mode) (ops : Array Oper) (R : World → World → Prop) (Q : Exit → Act → World → Prop) : List Oper → Nat → Array Bool → Act → World → Prop
 | [], _, _, a, wc => ∀ w, R wc w → Q .normal a w
 | o :: rest, k, listed, a, wc =>
   (∃ v, YieldsR P ops R o v a wc ∧ wpLx P md ops R Q rest (k + 1) (listed.setIfInBounds k true) (a.put o.dst v) wc) ∨
   (Region.ready md ops listed = [k] ∧ ∀ w, R wc w → wpOp P ops Q k (fun a' w' => R w w' ∧ wpLx P md ops R Q rest (k + 1) (listed.setIfInBounds k true) a' w') a w)
theorem wpAnyR_lex (L : Later R) (hs : Region.noSelect ops = true) (hQ : ∀ c (a : Act) d v w, Q (.panic c) (a.put d v) w → Q (.panic c) a w) : ∀ (l : List Oper) (k : Nat) (listed : Array Bool) (a : Act) (wc : World), (∀ j, l[j]? = ops[k + j]?) →
 Region.lexFrom md ops l.length k listed = true → wpLx P md ops R Q l k listed a wc → wpAnyR P md ops R Q l.length listed a wc
 | [], _, _, _, _, _, hB, h => ⟨by simpa [Region.lexFrom] using hB, h⟩
 | o :: l, k, listed, a, wc, hl, hB, h => by
   have h0 : ops[k]? = some o := by simpa using (hl 0).symm
   simp only [List.length_cons, Region.lexFrom, Bool.and_eq_true] at hB
   obtain ⟨⟨hr, hf⟩, hB'⟩ := hB
   have hl' : ∀ j, l[j]? = ops[k + 1 + j]? := fun j => by have := hl (j + 1); simpa [Nat.add_assoc, Nat.add_comm 1 j] using this
   rcases h with ⟨v, hy, hK⟩ | ⟨hone, hK⟩
   ·exact wpAnyR_first L h0 (Region.noSelect_spec hs) (fun c a w => hQ c a _ _ w) l.length listed a wc (Region.free_spec h0 hf) (by simpa using hr) hy
     (wpAnyR_lex L hs hQ l (k + 1) _ _ _ hl' hB' hK)
   ·refine ⟨fun h0 => (by rw [h0] at hone; cases hone), fun i hi w hw => ?_⟩
    rw [hone] at hi
    have hik : i = k := by simpa using hi
    subst hik
    exact wpOp_mono (fun a' w' h' => ⟨h'.1, wpAnyR_lex L hs hQ l (i + 1) _ _ _ hl' hB' h'.2⟩) (hK w hw)
def onlyN (QN : Act → World → Prop) : Exit → Act → World → Prop
 | .normal, a, w => QN a w
 | _, _, _ => False
theorem wp_region_lx (L : Later R) {id : Nat} {a : Act} {w : World} {l : List Oper} (hm : P.follows .mixedOrders = true) (hB : Region.lexB .any l.toArray = true)
 (h : wpLx P .any l.toArray R (onlyN (fun a w => Q .normal a w)) l 0 (Array.replicate l.length false) a w.drew) : (Code.region id l.toArray true).wp P Q a w := by
 simp only [Region.lexB, Bool.and_eq_true] at hB
 refine Code.wp_mono (Q := onlyN (fun a w => Q .normal a w)) (fun e a w h => ?_) (wp_region_any hm (wpAny_of_R L _ _ _ _ _ (L.refl _) ?_))
 ·cases e <;> first | exact h | exact (h : False).elim
 ·have := wpAnyR_lex (md := .any) L hB.1 (fun _ _ _ _ _ h => h) l 0 (Array.replicate l.toArray.size false) a w.drew (by simp) (by simpa using hB.2) (by simpa using h)
  simpa using this
variable {o : Oper} {rest : List Oper} {k : Nat} {listed : Array Bool} {a : Act} {wc : World}
theorem lx_nil {QN : Act → World → Prop} (h : ∀ w, R wc w → QN a w) : wpLx P md ops R (onlyN QN) [] k listed a wc := h
theorem lx_at (hw : Region.wanted o (yielded ops a.tmps) = true) (v : Value) (h1 : ∀ w, R wc w → o.quietAt P a (R w) w v) (h2 : wpLx P md ops R Q rest (k + 1) (listed.setIfInBounds k true) (a.put o.dst v) wc) : wpLx P md ops R Q (o :: rest) k listed a wc :=
 .inl ⟨v, .inl ⟨hw, h1⟩, h2⟩
theorem lx_skip (hw : Region.wanted o (yielded ops a.tmps) = false) (h : wpLx P md ops R Q rest (k + 1) (listed.setIfInBounds k true) (a.put o.dst undef) wc) : wpLx P md ops R Q (o :: rest) k listed a wc :=
 .inl ⟨undef, .inr ⟨hw, rfl⟩, h⟩
theorem lx_run (hw : Region.wanted o (yielded ops a.tmps) = true) (v : Value) (h1 : ∀ w, (execOp a.eval o).run P w = .ok (.value v) w) (h2 : wpLx P md ops R Q rest (k + 1) (listed.setIfInBounds k true) (a.put o.dst v) wc) : wpLx P md ops R Q (o :: rest) k listed a wc :=
 lx_at hw v (fun w _ => by unfold Oper.quietAt; rw [h1]; exact ⟨rfl, rfl⟩) h2
theorem lx_read (hw : Region.wanted o (yielded ops a.tmps) = true) (v : Value) (h1 : ∀ w, R wc w → (execOp a.eval o).run P w = .ok (.value v) w) (h2 : wpLx P md ops R Q rest (k + 1) (listed.setIfInBounds k true) (a.put o.dst v) wc) : wpLx P md ops R Q (o :: rest) k listed a wc :=
 lx_at hw v (fun w hR => by unfold Oper.quietAt; rw [h1 w hR]; exact ⟨rfl, rfl⟩) h2
theorem lx_callF (hw : Region.wanted o (yielded ops a.tmps) = true) (f : FuncId) {fn : Func} (hf : P.funcs[f]? = some fn) (hname : (fn.name == "runtime.NumGoroutine") = false) (hb : fn.body.isSome = true) (xs : Array Operand) (ts : Array TypeId)
 (ho : o.op = .call { callee := .value (.func f), args := xs, argTypes := ts }) (args : Array Value) (hx : xs.map a.eval = args) (v : Value)
 (hc : ∀ w, R wc w → Calls P f args w fun e w' => e = .returned v ∧ R w w') (h : wpLx P md ops R Q rest (k + 1) (listed.setIfInBounds k true) (a.put o.dst v) wc) : wpLx P md ops R Q (o :: rest) k listed a wc := by
 obtain ⟨c, hb⟩ := Option.isSome_iff_exists.1 hb
 have hn : ¬ fn.name = "runtime.NumGoroutine" := by simpa using hname
 refine lx_at hw v (fun w hR => ?_) h
 have he : a.eval (.func f) = .func (.func f) #[] #[] := rfl
 have hrun : (execOp a.eval o).run P w = .ok (.enter f args) w := by simp [execOp, ho, resolve, hx, he, Deferred.ofValue, invoke, callFunc, hf, hb, hn]
 unfold Oper.quietAt
 rw [hrun]
 exact ⟨rfl, hc w hR⟩
end
section
variable {P : Program} {ops : Array Oper} {md : Region.Mode} {R : World → World → Prop}
def wpAnyRL (P : Program) (md : Region.Mode) (ops : Array Oper) (R : World → World → Prop) (Q : Exit → Act → World → Prop) (n : Nat) (F : Array Bool → Act → World → Prop) : Nat → Array Bool → Act → World → Prop
 | 0, listed, a, wc => ∀ w, R wc w → F listed a w
 | f + 1, listed, a, wc => Region.ready md ops listed ≠ [] ∧ ∀ i ∈ Region.ready md ops listed, i < n ∧ ∀ w, R wc w → wpOp P ops Q i (fun a' w' => R w w' ∧ wpAnyRL P md ops R Q n F f (listed.setIfInBounds i true) a' w') a w
variable {Q : Exit → Act → World → Prop} {n : Nat} {F : Array Bool → Act → World → Prop}
theorem wpAnyRL_mono (L : Later R) : ∀ (f : Nat) (listed : Array Bool) (a : Act) (wc w : World), R wc w → wpAnyRL P md ops R Q n F f listed a wc → wpAnyRL P md ops R Q n F f listed a w
 | 0, _, _, _, _, hw, h => fun w' h' => h w' (L.trans hw h')
 | _ + 1, _, _, _, _, hw, h => ⟨h.1, fun i hi => ⟨(h.2 i hi).1, fun w' h' => (h.2 i hi).2 w' (L.trans hw h')⟩⟩
theorem not_letsOut {QN : Act → World → Prop} (h : LetsOut (onlyN QN)) : False := by
 obtain ⟨a, w, h⟩ := h
 exact h
theorem wpOp_exit {i : Nat} {K : Act → World → Prop} {QN : Act → World → Prop} {Q' : Exit → Act → World → Prop} {a : Act} {w : World} (h : wpOp P ops (onlyN QN) i K a w) : wpOp P ops Q' i K a w := by
 have up : ∀ (o : Oper) (r : Result Next), o.upon P a K (onlyN QN) r → o.upon P a K Q' r := by
  intro o r h
  cases r with
  | ok nx w' =>
    cases nx <;> simp only [Oper.upon] at h ⊢ <;> first
     | exact h
     | exact Calls.mono h (fun e w'' he => by cases e <;> first | exact he | exact (he : False).elim | exact (not_letsOut he).elim)
  | halt x w' =>
    cases x <;> simp only [Oper.upon] at h ⊢
    case panic u => exact (h : False).elim
 unfold wpOp at *
 split
 ·rename_i ho; simpa [ho] using h
 ·rename_i o ho
  simp only [ho] at h
  split
  ·rename_i hw
   simp only [hw, if_true] at h
   rcases h with h | ⟨_, h⟩
   ·exact .inl (up _ _ h)
   ·exact (not_letsOut h).elim
  ·rename_i hw
   simpa [hw] using h
theorem wpAny_of_RL (L : Later R) {QN : Act → World → Prop} {Q' : Exit → Act → World → Prop} {g : Nat} (hF : ∀ listed a w, F listed a w → wpAny P md ops Q' g listed a w) :
 ∀ (f : Nat) (listed : Array Bool) (a : Act) (wc : World), wpAnyRL P md ops R (onlyN QN) n F f listed a wc → ∀ w, R wc w → wpAny P md ops Q' (f + g) listed a w
 | 0, listed, a, wc, h, w, hw => by rw [Nat.zero_add]; exact hF _ _ _ (h w hw)
 | f + 1, listed, a, wc, h, w, hw => by
   rw [show f + 1 + g = (f + g) + 1 by omega]
   exact ⟨fun h0 => absurd h0 h.1, fun i hi => wpOp_exit (QN := QN) (wpOp_mono (fun a' w' h' => wpAny_of_RL L hF f _ a' w' h'.2 w' (L.refl _)) ((h.2 i hi).2 w hw))⟩
theorem wpAnyRL_first (L : Later R) {QN : Act → World → Prop} {i : Nat} {oi : Oper} {v : Value} (hi : ops[i]? = some oi) (hsel : ∀ (j : Nat) (o : Oper) cs b, ops[j]? = some o → o.op ≠ .select cs b)
 (hs : Region.sinkB md ops n = true) (hc : Region.chainB md ops n = true) (hn : n < ops.size) (hin : i < n)
 (hdone : ∀ listed a w, F listed a w → ∀ j ∈ Region.ready md ops listed, n ≤ j) :
 ∀ (f : Nat) (listed : Array Bool) (a : Act) (wc : World), HeadInv md ops n listed →
  (∀ j oj, ops[j]? = some oj → j ≠ i → listed.getD j true = false → (∀ e ∈ oj.after, Region.binds md e = true → e.on ≠ i) → oi.apart ops oj = true) →
  i ∈ Region.ready md ops listed → YieldsR P ops R oi v a wc →
  wpAnyRL P md ops R (onlyN QN) n F f (listed.setIfInBounds i true) (a.put oi.dst v) wc → wpAnyRL P md ops R (onlyN QN) n F (f + 1) listed a wc := by
 intro f
 induction f with
 | zero =>
   intro listed a wc inv _ hr hy H
   have hun := (mem_ready.1 hr).1
   refine ⟨fun h => (by rw [h] at hr; cases hr), fun j hj => ?_⟩
   have hjn : j < n := by
    rcases Nat.lt_or_ge j n with h | h
    ·exact h
    ·exact absurd hj (tail_waits hs hc hn inv _ i rfl hin hun j h)
   refine ⟨hjn, fun w hw => ?_⟩
   by_cases hji : j = i
   ·subst hji; exact hy.wpOp L hi hw fun w' h' => ⟨h', wpAnyRL_mono L _ _ _ _ _ (L.trans hw h') H⟩
   ·have := hdone _ _ _ (H w hw) j (ready_mono hj hji)
    omega
 | succ f ih =>
   intro listed a wc inv hfree hr hy H
   have hun := (mem_ready.1 hr).1
   refine ⟨fun h => (by rw [h] at hr; cases hr), fun j hj => ?_⟩
   have hjn : j < n := by
    rcases Nat.lt_or_ge j n with h | h
    ·exact h
    ·exact absurd hj (tail_waits hs hc hn inv _ i rfl hin hun j h)
   refine ⟨hjn, fun w hw => ?_⟩
   by_cases hji : j = i
   ·subst hji; exact hy.wpOp L hi hw fun w' h' => ⟨h', wpAnyRL_mono L _ _ _ _ _ (L.trans hw h') H⟩
   ·have h1 := (H.2 j (ready_mono hj hji)).2 w hw
    obtain ⟨hjun, oj, hoj, hall⟩ := mem_ready.1 hj
    have hnot : ∀ e ∈ oj.after, Region.binds md e = true → e.on ≠ i := fun e he hb heq => by
     have h1 := hall e he hb
     rw [heq, getD_both hun] at h1
     cases h1
    have h2 := wpOp_putR hoj (hfree j oj hoj hji hjun hnot) (fun cs b => hsel i oi cs b hi) (fun cs b => hsel j oj cs b hoj) (fun _ _ _ h => h) hy h1
    have hfree' : ∀ k ok, ops[k]? = some ok → k ≠ i → (listed.setIfInBounds j true).getD k true = false →
     (∀ e ∈ ok.after, Region.binds md e = true → e.on ≠ i) → oi.apart ops ok = true := fun k ok hk hki hun hno => by
     refine hfree k ok hk hki ?_ hno
     by_cases hjk : j = k
     ·subst hjk; exact hjun
     ·rw [getD_set_ne true hjk] at hun; exact hun
    refine wpOp_mono (fun a' w' h3 => ⟨h3.2.1, ih (listed.setIfInBounds j true) a' w' (inv.set hj hjn) hfree' (ready_mono hr (Ne.symm hji)) (h3.1.mono L (L.trans hw h3.2.1)) ?_⟩) h2
    rw [Array.setIfInBounds_comm _ _ hji]
    exact h3.2.2
theorem wpAnyRL_lex (L : Later R) {QN : Act → World → Prop} {g : Nat} (hsel : Region.noSelect ops = true) (hs : Region.sinkB md ops n = true) (hc : Region.chainB md ops n = true) (hn : n < ops.size) :
 ∀ (l : List Oper) (k : Nat) (listed : Array Bool) (a : Act) (wc : World), (∀ j, j < l.length → l[j]? = ops[k + j]?) → k + l.length = n → HeadInv md ops n listed →
 Region.lexHead md ops g l.length k listed = true → wpLx P md ops R (onlyN QN) l k listed a wc →
 wpAnyRL P md ops R (onlyN QN) n (fun listed' a' w' => Region.seqB md ops g n listed' = true ∧ QN a' w') l.length listed a wc
 | [], k, listed, a, wc, _, hk, _, hB, h => by
   have : k = n := by simpa using hk
   subst this
   exact fun w hw => ⟨by simpa [Region.lexHead] using hB, h w hw⟩
 | o :: l, k, listed, a, wc, hl, hk, inv, hB, h => by
   have h0 : ops[k]? = some o := by simpa using (hl 0 (by simp)).symm
   simp only [List.length_cons, Region.lexHead, Bool.and_eq_true] at hB
   obtain ⟨⟨hr, hf⟩, hB'⟩ := hB
   have hkn : k < n := by simp only [List.length_cons] at hk; omega
   have hr' : k ∈ Region.ready md ops listed := by simpa using hr
   have hl' : ∀ j, j < l.length → l[j]? = ops[k + 1 + j]? := fun j hj => by have := hl (j + 1) (by simp; omega); simpa [Nat.add_assoc, Nat.add_comm 1 j] using this
   have hk' : k + 1 + l.length = n := by simp only [List.length_cons] at hk; omega
   rcases h with ⟨v, hy, hK⟩ | ⟨hone, hK⟩
   ·exact wpAnyRL_first L h0 (Region.noSelect_spec hsel) hs hc hn hkn (fun listed' a' w' hL => seqB_ready hL.1) l.length listed a wc inv (Region.free_spec h0 hf) hr' hy
     (wpAnyRL_lex L hsel hs hc hn l (k + 1) _ _ _ hl' hk' (inv.set hr' hkn) hB' hK)
   ·refine ⟨fun h0 => (by rw [h0] at hone; cases hone), fun i hi => ?_⟩
    rw [hone] at hi
    have hik : i = k := by simpa using hi
    subst hik
    exact ⟨hkn, fun w hw => wpOp_mono (fun a' w' h' => ⟨h'.1, wpAnyRL_lex L hsel hs hc hn l (i + 1) _ _ _ hl' hk' (inv.set hr' hkn) hB' h'.2⟩) (hK w hw)⟩
theorem wp_region_lxt (L : Later R) (n : Nat) {id : Nat} {a : Act} {w : World} {l : List Oper} (hm : P.follows .mixedOrders = true) (hB : Region.lexTailB .any l.toArray n = true)
 (h : wpLx P .any l.toArray R (onlyN (fun a w => wpList P l.toArray Q (l.drop n) a w)) (l.take n) 0 (Array.replicate l.length false) a w.drew) : (Code.region id l.toArray true).wp P Q a w := by
 simp only [Region.lexTailB, Bool.and_eq_true, decide_eq_true_eq] at hB
 obtain ⟨⟨⟨⟨hsel, hn⟩, hs⟩, hc⟩, hlex⟩ := hB
 have hn' : n < l.length := by simpa using hn
 have htl : (l.take n).length = n := by simp; omega
 have hdl : (l.drop n).length = l.toArray.size - n := by simp
 have inv0 : HeadInv .any l.toArray n (Array.replicate l.toArray.size false) :=
  ⟨by simp, fun j oj _ hl => (by rw [getD_replicate_false] at hl; cases hl), fun t _ ht => getD_in (by simpa using ht) (getD_replicate_false _ _)⟩
 have H := wpAnyRL_lex (md := .any) (g := l.toArray.size - n) L hsel hs hc hn (l.take n) 0 (Array.replicate l.toArray.size false) a w.drew (fun j hj => by
  have hj' : j < n := by rw [htl] at hj; exact hj
  simp [hj']) (by simpa using htl) inv0 (by rw [htl]; exact hlex) (by simpa using h)
 refine wp_region_any hm ?_
 have := wpAny_of_RL (Q' := Q) (g := l.toArray.size - n) L (fun listed a' w' hL => by
  have := wpAny_of_seq (md := .any) (Q' := Q) (l.drop n) n listed a' w' (fun j => by simp [List.getElem?_drop]) (by rw [hdl]; exact hL.1) hL.2
  rwa [hdl] at this) _ _ _ _ H _ (L.refl _)
 rw [htl, show n + (l.toArray.size - n) = l.toArray.size by omega] at this
 exact this
end
end Go.Proofs.YtlhggcbpipmjhaaGreatDoor
