/- Contracts for the law BestMakes, part 17: what the functions that it reaches answer, for all arguments that the theorems name. -/
import Derived.Test.YtideigpabbhhkaaMBestMakes15
import Derived.Test.YtideigpabbhhkaaMBestMakes13
import Derived.Test.YtideigpabbhhkaaMBestMakes12
import Derived.Test.YtideigpabbhhkaaMBestMakes11
import Derived.Test.YtideigpabbhhkaaMBestMakes2
import Derived.Outline
/- What best.Make answers is a table of just the symbols that come, and none undercuts it: plain. -/
namespace Go.Proofs.Ytideigpabbhhkaa.BM
set_option linter.unusedVariables false
set_option linter.unusedSimpArgs false
/-- the symbols that come -/
def realN (cs : List Int) : Nat → List Int
  | 0 => []
  | i + 1 => realN cs i ++ (if 0 < cs.getD i 0 then [(i : Int)] else [])
theorem realN_mem (cs : List Int) : ∀ (i : Nat) (s : Int), s ∈ realN cs i ↔ ∃ j : Nat, j < i ∧ s = (j : Int) ∧ 0 < cs.getD j 0
  | 0, s => by simp [realN]
  | i + 1, s => by
    rw [realN, List.mem_append, realN_mem cs i s]
    constructor
    · rintro (⟨j, h1, h2, h3⟩ | h)
      · exact ⟨j, by omega, h2, h3⟩
      · split at h
        · rename_i hp
          exact ⟨i, by omega, by simpa using h, hp⟩
        · cases h
    · rintro ⟨j, h1, h2, h3⟩
      by_cases hj : j < i
      · exact .inl ⟨j, hj, h2, h3⟩
      · obtain rfl : j = i := by omega
        right
        rw [if_pos h3]
        simpa using h2
theorem realN_nodup (cs : List Int) : ∀ i, (realN cs i).Nodup
  | 0 => by simp [realN]
  | i + 1 => by
    rw [realN, List.nodup_append]
    refine ⟨realN_nodup cs i, by split <;> simp, fun a ha b hb e => ?_⟩
    obtain ⟨j, h1, h2, -⟩ := (realN_mem cs i a).1 ha
    split at hb
    · have : b = (i : Int) := by simpa using hb
      omega
    · cases hb
theorem realN_len (cs : List Int) : ∀ i, (realN cs i).length ≤ i
  | 0 => by simp [realN]
  | i + 1 => by
    have := realN_len cs i
    rw [realN, List.length_append]
    split <;> simp <;> omega
def wtN (cs : List Int) (s : Int) : Nat := if s = -1 then 0 else (cs.getD s.toNat 0).toNat
theorem singN_sing (cs : List Int) : ∀ i, singN cs i = ((-1) :: realN cs i).map (sing (wtN cs))
  | 0 => rfl
  | i + 1 => by
    rw [singN, realN, singN_sing cs i, ← List.cons_append, List.map_append]
    congr 1
    split
    · have : wtN cs (i : Int) = (cs.getD i 0).toNat := by unfold wtN; rw [if_neg (by omega)]; simp
      simp [sing, this]
    · rfl
theorem realN_pos (cs : List Int) : ∀ i, (realN cs i).length = (posN cs i).length
  | 0 => rfl
  | i + 1 => by
    rw [realN, posN, List.length_append, List.length_append, realN_pos cs i]
    split <;> rfl
theorem filt_mem (f : Int → Nat) (k n : Nat) (s : Int) : s ∈ filt f k n ↔ (∃ j : Nat, j < n ∧ s = (j : Int)) ∧ f s = k + 1 := by
  unfold filt
  simp only [List.mem_filter, List.mem_map, List.mem_range, decide_eq_true_eq]
  constructor
  · rintro ⟨⟨j, h1, h2⟩, h3⟩
    exact ⟨⟨j, h1, h2.symm⟩, h3⟩
  · rintro ⟨⟨j, h1, h2⟩, h3⟩
    exact ⟨⟨j, h1, h2.symm⟩, h3⟩
theorem filt_nodup (f : Int → Nat) (k n : Nat) : (filt f k n).Nodup := by
  unfold filt
  rw [List.nodup_iff_pairwise_ne]
  refine List.Pairwise.filter _ ?_
  rw [List.pairwise_map]
  exact List.nodup_range.imp (fun h e => h (by injection e))
def grp (f : Int → Nat) (n : Nat) : Nat → List Int
  | 0 => []
  | k + 1 => grp f n k ++ filt f k n
theorem grp_eq (f : Int → Nat) (n : Nat) : ∀ k, (List.range k).flatMap (fun j => filt f j n) = grp f n k
  | 0 => rfl
  | k + 1 => by rw [List.range_succ, List.flatMap_append, grp_eq f n k]; simp [grp]
theorem xsN_grp (f : Int → Nat) (n : Nat) : xsN f n 16 0 = grp f n 16 := by
  unfold xsN
  rw [grp_eq]
  simp [filt]
theorem grp_mem (f : Int → Nat) (n : Nat) : ∀ (k : Nat) (s : Int), s ∈ grp f n k ↔ (∃ j : Nat, j < n ∧ s = (j : Int)) ∧ 1 ≤ f s ∧ f s ≤ k
  | 0, s => by
    simp only [grp, List.not_mem_nil, false_iff]
    rintro ⟨-, h1, h2⟩
    omega
  | k + 1, s => by
    rw [grp, List.mem_append, grp_mem f n k s, filt_mem]
    constructor
    · rintro (⟨h1, h2, h3⟩ | ⟨h1, h2⟩)
      · exact ⟨h1, h2, by omega⟩
      · exact ⟨h1, by omega, by omega⟩
    · rintro ⟨h1, h2, h3⟩
      by_cases h : f s ≤ k
      · exact .inl ⟨h1, h2, h⟩
      · exact .inr ⟨h1, by omega⟩
theorem grp_nodup (f : Int → Nat) (n : Nat) : ∀ k, (grp f n k).Nodup
  | 0 => by simp [grp]
  | k + 1 => by
    rw [grp, List.nodup_append]
    refine ⟨grp_nodup f n k, filt_nodup f k n, fun a ha b hb e => ?_⟩
    subst e
    have h1 := ((grp_mem f n k a).1 ha).2.2
    have h2 := ((filt_mem f k n a).1 hb).2
    omega
theorem sumOn_sub {l m : List Int} (hl : l.Nodup) (hm : m.Nodup) (h : ∀ s ∈ l, s ∈ m) (g : Int → Nat) : sumOn l g ≤ sumOn m g := by
  rw [sumOn_count hm g l h]
  refine sumOn_le (fun s _ => ?_)
  have h1 : l.count s ≤ 1 := List.nodup_iff_count.1 hl s
  have := Nat.mul_le_mul_left (g s) h1
  omega
theorem grp_len (f : Int → Nat) (n k : Nat) : (grp f n k).length ≤ n := by
  have h := sumOn_sub (grp_nodup f n k) (m := (List.range n).map Int.ofNat) (by
    rw [List.nodup_iff_pairwise_ne, List.pairwise_map]
    exact List.nodup_range.imp (fun h e => h (by injection e))) (fun s hs => by
      obtain ⟨j, h1, h2⟩ := ((grp_mem f n k s).1 hs).1
      exact List.mem_map.2 ⟨j, List.mem_range.2 h1, h2.symm⟩) (fun _ => 1)
  rw [sumOn_const, sumOn_const] at h
  simpa using h
theorem grp_kraft (f : Int → Nat) (n : Nat) : ∀ k, sumOn (grp f n (k + 1)) (fun s => 2 ^ (16 - f s)) = sumOn (grp f n k) (fun s => 2 ^ (16 - f s)) + (filt f k n).length * 2 ^ (15 - k) := fun k => by
  rw [grp, sumOn_append]
  congr 1
  rw [sumOn_eq (k := fun _ => 2 ^ (15 - k)) (fun s hs => by
    have h := ((filt_mem f k n s).1 hs).2
    show 2 ^ (16 - f s) = 2 ^ (15 - k)
    congr 1
    omega), sumOn_const]
theorem csN_getD (f : Int → Nat) (n j : Nat) (hj : j < 16) : (csN f n 16 0).getD j 0 = ((filt f j n).length : Int) := by
  rw [List.getD_eq_getElem?_getD, List.getElem?_eq_getElem (by rw [csN_len]; exact hj), csN_get, if_pos hj]
  rfl
theorem next_kraft (f : Int → Nat) (n : Nat) : ∀ k, k ≤ 16 → nextW (csN f n 16 0) k * 2 ^ (16 - k) = sumOn (grp f n k) (fun s => 2 ^ (16 - f s))
  | 0, _ => by simp [nextW, grp, sumOn]
  | k + 1, h => by
    have ih := next_kraft f n k (by omega)
    rw [grp_kraft, ← ih, nextW, csN_getD f n k (by omega), Int.toNat_natCast, show 16 - (k + 1) = 15 - k by omega, show 16 - k = (15 - k) + 1 by omega, Nat.pow_succ, Nat.add_mul]
    congr 1
    rw [Nat.mul_comm 2, Nat.mul_assoc, Nat.mul_comm 2]
theorem sumL_grp (f : Int → Nat) (n : Nat) : ∀ k, k ≤ 16 → sumL (csN f n 16 0) k = ((grp f n k).length : Int)
  | 0, _ => by simp [sumL, grp]
  | k + 1, h => by
    rw [sumL_succ _ k (by rw [csN_len]; omega), sumL_grp f n k (by omega), csN_get, if_pos (by omega), grp, List.length_append]
    simp
/-- the words' lengths -/
theorem toks_len (f : Int → Nat) (n : Nat) : ∀ k, k ≤ 16 → (codesW (csN f n 16 0) k).length = (grp f n k).length ∧ ∀ t ∈ zipC (codesW (csN f n 16 0) k) (grp f n k), t.2.1 = ((f t.1 : Nat) : Int)
  | 0, _ => by simp [codesW, grp, zipC]
  | k + 1, h => by
    obtain ⟨h1, h2⟩ := toks_len f n k (by omega)
    have hg := csN_getD f n k (by omega)
    rw [codesW, grp, hg, Int.toNat_natCast]
    refine ⟨by rw [List.length_append, List.length_append, h1, rowC_len], fun t ht => ?_⟩
    unfold zipC at ht h2
    rw [List.zipWith_append h1] at ht
    rcases List.mem_append.1 ht with ht | ht
    · exact h2 t ht
    · obtain ⟨i, hi, e⟩ := List.mem_iff_getElem.1 ht
      rw [List.getElem_zipWith] at e
      subst e
      have hm : (filt f k n)[i]'(by rw [List.length_zipWith, rowC_len] at hi; omega) ∈ filt f k n := List.getElem_mem _
      have hf := ((filt_mem f k n _).1 hm).2
      show (((rowC (csN f n 16 0) k (filt f k n).length)[i]'(by rw [List.length_zipWith] at hi; omega)).1 : Int) = _
      rw [hf]
      simp [rowC]
theorem len_of (f : Int → Nat) (n : Nat) (s : Int) (hs : s ∈ grp f n 16) : (findT (zipC (codesW (csN f n 16 0) 16) (grp f n 16)) s).isSome = true ∧ lenT (zipC (codesW (csN f n 16 0) 16) (grp f n 16)) s = f s := by
  obtain ⟨h1, h2⟩ := toks_len f n 16 (Nat.le_refl _)
  obtain ⟨p, hp, e⟩ := List.mem_iff_getElem.1 hs
  have hz : (zipC (codesW (csN f n 16 0) 16) (grp f n 16)).length = (grp f n 16).length := by rw [zipC_len _ _ (by omega), h1]
  have hm : (zipC (codesW (csN f n 16 0) 16) (grp f n 16))[p]'(by omega) ∈ zipC (codesW (csN f n 16 0) 16) (grp f n 16) := List.getElem_mem _
  have he : ((zipC (codesW (csN f n 16 0) 16) (grp f n 16))[p]'(by omega)).1 = s := by
    unfold zipC
    rw [List.getElem_zipWith]
    exact e
  cases hq : findT (zipC (codesW (csN f n 16 0) 16) (grp f n 16)) s with
  | none =>
    exfalso
    have := (List.find?_eq_none.1 hq) _ hm
    simp [he] at this
  | some t =>
    refine ⟨rfl, ?_⟩
    have ht := List.mem_of_find?_eq_some hq
    have ht1 := List.find?_some hq
    simp at ht1
    have h3 := h2 t ht
    rw [ht1] at h3
    unfold lenT bitsT
    rw [hq]
    show (digs t.2.2.toNat t.2.1.toNat).length = f s
    rw [digs_len, h3, Int.toNat_natCast]
/-- what the packages give, without the words of a table -/
theorem made_counts {counts : List Int} {n : Nat} (hn : counts.length = n) (h256 : n ≤ 256) (hb : ∀ z ∈ counts, 0 ≤ z ∧ z ≤ 9999) {S L : List Pack} (hS : S.Perm (singN counts n)) (hso : (S.map (·.1)).Pairwise (· ≤ ·)) (hR : Reach S 15 L) :
    let f := fun s => (cont (L.take (2 * S.length - 2))).count s
    (∀ s, f s ≠ 0 → s = -1 ∨ s ∈ realN counts n) ∧ (∀ s ∈ realN counts n, 1 ≤ f s ∧ f s ≤ 16) ∧ sumOn (realN counts n) (fun s => 2 ^ (16 - f s)) < 2 ^ 16 ∧
    ∀ ws : List Nat, ws.Perm (0 :: posN counts n) → ws.Pairwise (· ≤ ·) → sumOn (realN counts n) (fun s => wtN counts s * f s) = bestZ ws := by
  intro f
  have hSl : S.length = (realN counts n).length + 1 := by rw [hS.length_eq, singN_sing]; simp
  by_cases h0 : (realN counts n).length = 0
  · have hr := List.eq_nil_of_length_eq_zero h0
    have hf : ∀ s, f s = 0 := fun s => by
      show (cont (L.take (2 * S.length - 2))).count s = 0
      rw [hSl, h0]
      simp [cont]
    rw [hr]
    refine ⟨fun s h => absurd (hf s) h, fun s h => (by cases h), (by simp [sumOn]), fun ws hw _ => ?_⟩
    have hl := hw.length_eq
    rw [List.length_cons, ← realN_pos, h0] at hl
    unfold bestZ
    rw [if_pos hl]
    rfl
  · have hnd : ((-1 : Int) :: realN counts n).Nodup := by
      rw [List.nodup_cons]
      refine ⟨fun h => ?_, realN_nodup counts n⟩
      obtain ⟨j, -, h2, -⟩ := (realN_mem counts n _).1 h
      omega
    have hS2 : S.Perm (((-1 : Int) :: realN counts n).map (sing (wtN counts))) := by rw [← singN_sing]; exact hS
    obtain ⟨P, hP, hPs, hPL⟩ := hR.rows hso
    have hlen : 2 * ((-1 : Int) :: realN counts n).length - 2 ≤ (P 15).length := by
      rw [hPL, hR.len, hSl, List.length_cons]
      exact lenF_15 _ (by have := realN_len counts n; omega)
    obtain ⟨c1, c2, c3, c4, c5⟩ := packages hnd (by rw [List.length_cons]; omega) hS2 hP hPs hlen far
    rw [hPL, List.length_cons, ← hSl] at c1 c2 c3 c4 c5
    have hk : sumOn ((-1 : Int) :: realN counts n) (fun s => 2 ^ (16 - f s)) = 2 ^ (16 - f (-1)) + sumOn (realN counts n) (fun s => 2 ^ (16 - f s)) := rfl
    have hc : sumOn ((-1 : Int) :: realN counts n) (fun s => wtN counts s * f s) = wtN counts (-1) * f (-1) + sumOn (realN counts n) (fun s => wtN counts s * f s) := rfl
    have hw0 : wtN counts (-1) = 0 := by unfold wtN; rw [if_pos rfl]
    refine ⟨fun s h => ?_, fun s h => c2 s (List.mem_cons_of_mem _ h), ?_, fun ws hw hws => ?_⟩
    · have := c1 s (List.count_pos_iff.1 (Nat.pos_of_ne_zero h))
      simpa using this
    · have h1 : sumOn ((-1 : Int) :: realN counts n) (fun s => 2 ^ (16 - f s)) ≤ 2 ^ 16 := c3
      rw [hk] at h1
      have h2 : 0 < 2 ^ (16 - f (-1)) := Nat.two_pow_pos _
      omega
    · rw [hw0, Nat.zero_mul, Nat.zero_add] at hc
      have hwt : ∀ s, wtN counts s ≤ 9999 := fun s => by
        unfold wtN
        split
        · omega
        · rw [List.getD_eq_getElem?_getD]
          cases hq : counts[s.toNat]? with
          | none => simp
          | some z => have := hb z (List.mem_of_getElem? hq); simp; omega
      have hbd : sumOn (realN counts n) (fun s => wtN counts s * f s) ≤ 256 * 159984 := by
        refine Nat.le_trans (sumOn_le (k := fun _ => 159984) (fun s hs => ?_)) ?_
        · have h1 := (c2 s (List.mem_cons_of_mem _ hs)).2
          have h3 : wtN counts s * f s ≤ 9999 * 16 := Nat.mul_le_mul (hwt s) h1
          exact h3
        · rw [sumOn_const]
          exact Nat.mul_le_mul_right _ (Nat.le_trans (realN_len counts n) h256)
      have hF : sumOn (realN counts n) (fun s => wtN counts s * f s) = pre (L.map (·.1)) (2 * S.length - 2) := hc.symm.trans c4
      have hlt : pre (L.map (·.1)) (2 * S.length - 2) < far := by rw [← hF]; unfold far; omega
      have h5 := c5 hlt
      have hwe : ws = S.map (·.1) := by
        refine List.Perm.eq_of_pairwise (le := (· ≤ ·)) (fun a b _ _ h1 h2 => by omega) hws hso ?_
        refine hw.trans ?_
        rw [← singN_pos]
        exact (hS.map _).symm
      rw [hF, ← h5, ← hwe]
      unfold bestZ
      have hwl : ws.length = S.length := by rw [hwe, List.length_map]
      rw [if_neg (by omega), hwl, hwe]
theorem made_good {counts cs xs : List Int} (hM : Made counts cs xs) (hb : bcheckZ counts = 0) :
    checkZ cs xs = 0 ∧ (∀ x ∈ xs, ∃ j : Nat, x = (j : Int) ∧ j < counts.length ∧ counts.getD j 0 ≠ 0) ∧ ∀ ws : List Nat, ws.Perm (0 :: posN counts counts.length) → ws.Pairwise (· ≤ ·) → costZ cs xs counts = (((bestZ ws : Nat) : Int), 0) := by
  obtain ⟨b1, b2⟩ := bcheck_zero hb
  have hbd := allIn_iff.1 b2
  obtain ⟨S, L, hS, hso, hR, hcs, hxs⟩ := hM
  obtain ⟨f1, f2, f3, f4⟩ := made_counts rfl b1 (fun z hz => by have := hbd z hz; omega) hS hso hR
  generalize (fun s => (cont (L.take (2 * S.length - 2))).count s) = f at *
  generalize hn : counts.length = n at *
  rw [xsN_grp] at hxs
  subst hcs hxs
  have hreal : ∀ s, s ∈ grp f n 16 ↔ s ∈ realN counts n := fun s => by
    rw [grp_mem]
    constructor
    · rintro ⟨⟨j, h1, h2⟩, h3, -⟩
      rcases f1 s (by omega) with h | h
      · omega
      · exact h
    · intro h
      obtain ⟨j, h1, h2, -⟩ := (realN_mem counts n s).1 h
      exact ⟨⟨j, h1, h2⟩, f2 s h⟩
  have hglen := grp_len f n 16
  have hcheck : checkZ (csN f n 16 0) (grp f n 16) = 0 := by
    rw [checkZ_words]
    · rw [if_pos]
      unfold okW
      rw [List.all_eq_true]
      intro k hk
      have hk16 := List.mem_range.1 hk
      rw [decide_eq_true_eq]
      have h1 := next_kraft f n (k + 1) (by omega)
      have h2 : sumOn (grp f n (k + 1)) (fun s => 2 ^ (16 - f s)) ≤ sumOn (realN counts n) (fun s => 2 ^ (16 - f s)) := sumOn_sub (grp_nodup f n _) (realN_nodup counts n) (fun s hs => by
        obtain ⟨a, b, c⟩ := (grp_mem f n _ s).1 hs
        exact (hreal s).1 ((grp_mem f n 16 s).2 ⟨a, b, by omega⟩)) _
      have h3 : nextW (csN f n 16 0) (k + 1) * 2 ^ (16 - (k + 1)) < 2 ^ (k + 1) * 2 ^ (16 - (k + 1)) := by
        rw [← Nat.pow_add, show k + 1 + (16 - (k + 1)) = 16 by omega, h1]
        omega
      have := Nat.lt_of_mul_lt_mul_right h3
      omega
    · rw [totOK_iff]
      refine ⟨allIn_iff.2 (fun z hz => ?_), ?_, ?_⟩
      · obtain ⟨j, hj, rfl⟩ := List.mem_map.1 hz
        have h1 := List.mem_range.1 hj
        rw [if_pos h1]
        have := filt_len f j n
        omega
      · rw [sumL_grp f n 16 (Nat.le_refl _)]
        omega
      · exact sumL_grp f n 16 (Nat.le_refl _)
    · refine allIn_iff.2 (fun z hz => ?_)
      obtain ⟨⟨j, h1, h2⟩, -⟩ := (grp_mem f n 16 z).1 hz
      omega
    · exact grp_nodup f n 16
  refine ⟨hcheck, fun x hx => ?_, fun ws hw hws => ?_⟩
  · obtain ⟨j, h1, h2, h3⟩ := (realN_mem counts n x).1 ((hreal x).1 hx)
    exact ⟨j, h2, h1, by omega⟩
  · have hcost : ∀ i, i ≤ n → costL (zipC (codesW (csN f n 16 0) 16) (grp f n 16)) counts i = ((sumOn (realN counts i) (fun s => wtN counts s * f s) : Nat) : Int) := by
      have HT := fun s hs => (len_of f n s hs).2
      generalize zipC (codesW (csN f n 16 0) 16) (grp f n 16) = T at HT ⊢
      intro i
      induction i with
      | zero => intro _; rfl
      | succ i ih =>
        intro hi
        show costL T counts i + counts.getD i 0 * (lenT T (i : Int) : Int) = _
        rw [ih (by omega), realN, sumOn_append]
        have hz : 0 ≤ counts.getD i 0 := by
          rw [List.getD_eq_getElem?_getD]
          cases hq : counts[i]? with
          | none => simp
          | some z => exact (hbd z (List.mem_of_getElem? hq)).1
        by_cases hp : 0 < counts.getD i 0
        · have hm : (i : Int) ∈ realN counts n := (realN_mem counts n _).2 ⟨i, by omega, rfl, hp⟩
          rw [if_pos hp, HT _ ((hreal _).2 hm)]
          have hw1 : wtN counts (i : Int) = (counts.getD i 0).toNat := by unfold wtN; rw [if_neg (by omega)]; simp
          have e : sumOn [(i : Int)] (fun s => wtN counts s * f s) = (counts.getD i 0).toNat * f (i : Int) := by simp [sumOn, hw1]
          rw [e, Int.natCast_add, Int.natCast_mul, Int.toNat_of_nonneg hz]
        · rw [if_neg hp, show counts.getD i 0 = 0 by omega, Int.zero_mul]
          simp [sumOn]
    have hsome : ∀ s, s ∈ realN counts n → (findT (zipC (codesW (csN f n 16 0) 16) (grp f n 16)) s).isSome = true := fun s hs => (len_of f n s ((hreal s).2 hs)).1
    have hc := hcost n (Nat.le_refl _)
    clear hcost
    unfold costZ
    rw [if_pos hcheck, if_pos hb]
    clear hcheck
    generalize zipC (codesW (csN f n 16 0) 16) (grp f n 16) = T at *
    have hall : hasAll T counts = true := hasAll_yes (fun k hk => by
      by_cases hp : 0 < counts[k]
      · exact .inr (hsome _ ((realN_mem counts n _).2 ⟨k, by omega, rfl, by simpa [hk] using hp⟩))
      · exact .inl (by omega))
    rw [if_pos hall, hn, hc, f4 ws hw hws]
end Go.Proofs.Ytideigpabbhhkaa.BM
/- wordOf of the reference. -/
namespace Go.Proofs.Ytideigpabbhhkaa
set_option linter.unusedVariables false
set_option linter.unusedSimpArgs false
open Go.RowKit
set_option maxRecDepth 20000 in
set_option maxHeartbeats 1000000 in
theorem wordOf_any (cs xs : List Int) (sl : Value) (s : Int) (w : World) (hl : cs.length = 16) (hs : SL w 1 sl xs.length (ints xs)) (h : checkZ cs xs = 0) :
    Calls Try.prog 26 #[.agg (tblv cs sl), .int .i64 s] w fun e w' => e = .returned (.tuple #[.string (strB (bitsT (zipC (codesW cs 16) xs) s)), .bool (findT (zipC (codesW cs 16) xs) s).isSome]) ∧ Ext w w' := by
  obtain ⟨hal, hsum, hx256, hok, -, -⟩ := checkZ_zero h
  have hlast := hid_ (fun W g (h : Blk W g 25 (tblv cs sl)) => tblv_last h hl)
  have hts := hid_ (tblv_size cs sl hl)
  have HWO := hid_ (fun W => wordsOf_yes cs sl W hl hal hok)
  have hlen : (codesW cs 16).length = xs.length := by have := codesW_len cs (fun z hz => (allIn_iff.1 hal z hz).1) 16 (by omega); omega
  have hol := outW_len cs
  rw [hlen] at hol
  rw [hol] at HWO
  have HAT := hid_ (outW_at cs)
  have HZ := hid_ (zipC_syms (codesW cs 16) xs hlen)
  have HZA := hid_ (zipC_at (codesW cs 16) xs)
  have HZL : Hid ((zipC (codesW cs 16) xs).length = xs.length) := hid_ (by rw [zipC_len _ _ (by omega), hlen])
  have HCL := hid_ hlen
  have hs' := hs
  obtain ⟨A, c, rfl, hc1, hc2, -, -⟩ := hs'
  generalize tblv cs (.slice A xs.length c) = tv at *
  generalize strs (outW cs 16) = SS at *
  generalize codesW cs 16 = C at *
  clear hal hok hsum h hol hlen
  go_enter Try.func26, Try.ntmps26
  go_wp2_with (first
    | (refine wpList_box_abs rfl 25 (.tmp 0) rfl tv rfl ?_; intro w1 g hb1 hx1 hg)
    | (refine wpList_load_blk rfl 25 (.tmp 2) rfl _ rfl hb1 _ Try.underlying25 rfl 17 sizeTbl hts.out ?_)
    | (go_at_call 22; (with_reducible refine (HWO.out _).mono ?_); rintro e w2 ⟨B, d, rfl, hs2, hx2⟩; have hc16 := hlast.out _ _ (hb1.ext hx2)))
  have hsx := hs.ext (hx1.trans hx2)
  have hxw := hx1.trans hx2
  clear hc16
  go_loop [18] (fun i => ∃ k : Nat, k ≤ xs.length ∧ i = .int .i64 (k : Int) ∧ s ∉ xs.take k) (fun i => xs.length - (intOf i).toNat)
  case atStart => exact ⟨0, by omega, rfl, by simp⟩
  case round =>
    obtain ⟨k, hk, rfl, hno⟩ := hrel
    have HNO := hid_ hno
    clear hno
    by_cases hlt : k < xs.length
    · have hkC : k < C.length := by have := HCL.out; omega
      obtain ⟨ad, u, hA, -, hxk, hcell⟩ := hsx.at1 hlt
      obtain ⟨hkl2, rfl⟩ := ints_at _ _ _ hxk
      obtain ⟨bd, u, hB, hbl, hsk, hcells⟩ := hs2.at1 hlt
      rw [HAT.out k hkC] at hsk
      injection hsk with hsk
      subst hsk
      subst hA hB
      clear hxk
      by_cases hq : xs[k] = s
      · have hq' : (xs[k] == s) = true := by simpa using hq
        have HF : Hid (findT (zipC C xs) s = some (s, ((C[k]).1 : Int), ((C[k]).2 : Int))) := hid_ (by
          have hkz : k < (zipC C xs).length := by rw [HZL.out]; exact hlt
          have e1 := HZA.out k hkC hkl2 hkz
          have := findT_at (Z := zipC C xs) (s := s) hkz (by rw [HZ.out]; exact HNO.out) (by rw [e1]; exact hq)
          rw [this, e1]
          simp [hq])
        have HBT := hid_ (bitsT_some HF.out)
        clear hq
        generalize C[k] = p at *
        obtain ⟨p1, p2⟩ := p
        simp only at HF HBT hcells
        go_wp2_with fail
        go_ret2
        rw [HBT.out, HF.out]
        exact ⟨rfl, hxw⟩
      · have hq' : (xs[k] == s) = false := by simpa using hq
        have HN : Hid (s ∉ xs.take (k + 1)) := hid_ (by
          rw [List.take_succ_eq_append_getElem hkl2, List.mem_append]
          exact fun h => h.elim HNO.out (fun h => hq (List.mem_singleton.1 h).symm))
        clear hq
        go_wp2_with fail
        go_round
        case rel => exact ⟨k + 1, by omega, by go_num, HN.out⟩
        case measure => simp [intOf]; omega
    · have HF : Hid (findT (zipC C xs) s = none) := hid_ (findT_none (by
        rw [HZ.out]
        have := HNO.out
        rwa [List.take_of_length_le (by omega)] at this))
      have HBT : Hid (bitsT (zipC C xs) s = []) := hid_ (by unfold bitsT; rw [HF.out])
      go_wp2_with fail
      go_ret2
      rw [HBT.out, HF.out]
      exact ⟨rfl, hxw⟩
end Go.Proofs.Ytideigpabbhhkaa
/- TableCheck of the reference. -/
namespace Go.Proofs.Ytideigpabbhhkaa
set_option linter.unusedVariables false
set_option linter.unusedSimpArgs false
open Go.RowKit
theorem SL.take {w : World} {A : Option Addr} {n c : Nat} {xs : List Value} (h : SL w 1 (.slice A n c) n xs) {k : Nat} (hk : k ≤ n) : SL w 1 (.slice A k c) k (xs.take k) := by
  obtain ⟨A', c', e, h1, h1', h2, h3⟩ := h
  injection e with e1 e2 e3
  subst e1 e3
  refine ⟨A, c, rfl, by omega, h1', by simp; omega, fun hn => ?_⟩
  obtain ⟨ad, ea, hlt, hc⟩ := h3 (by omega)
  refine ⟨ad, ea, hlt, fun j u hu => hc j u ?_⟩
  have hj : j < k := by have := (List.getElem?_eq_some_iff.1 hu).1; simp at this; omega
  rwa [List.getElem?_take_of_lt hj] at hu
theorem totOK_no1 {cs xs : List Int} (h : allIn cs 0 256 = false) : totOK cs xs = false := by simp [totOK, h]
theorem totOK_no2 {cs xs : List Int} {k : Nat} (hk : k ≤ 16) (h : 256 < sumL cs k) : totOK cs xs = false := by
  cases h1 : allIn cs 0 256 with
  | false => exact totOK_no1 h1
  | true =>
    have key : ∀ j, k ≤ j → sumL cs k ≤ sumL cs j := by
      intro j hj
      induction j with
      | zero => obtain rfl : k = 0 := by omega
                exact Int.le_refl _
      | succ j ih =>
        rcases Nat.lt_or_ge j k with h2 | h2
        · obtain rfl : k = j + 1 := by omega
          exact Int.le_refl _
        · exact Int.le_trans (ih h2) (sumL_bd h1 j).2
    have := key 16 hk
    unfold totOK
    have h3 : ¬ sumL cs 16 ≤ 256 := by omega
    simp [h3]
set_option maxRecDepth 20000 in
set_option maxHeartbeats 1000000 in
theorem rcheck_any (cs xs : List Int) (sl : Value) (w : World) (hl : cs.length = 16) (hs : SL w 1 sl xs.length (ints xs)) :
    Calls Try.prog 8 #[.agg (tblv cs sl)] w fun e w' => e = .returned (.int .i64 (checkZ cs xs)) ∧ Ext w w' := by
  have hlast := hid_ (fun W g (h : Blk W g 25 (tblv cs sl)) => tblv_last h hl)
  have hts := hid_ (tblv_size cs sl hl)
  have HRG := hid_ (fun W g (h : Blk W g 25 (tblv cs sl)) => tblv_range h)
  have hcl := hid_ ((ints_len cs).trans hl)
  have HIX := hid_ (fun k (hk : k < cs.length) (h16 : k < 16) => fun W => run_index16 (ints cs).toArray k (.int .i64 cs[k]) h16 (bv_at cs k hk) W)
  have HL := hid_ hl
  have hs' := hs
  obtain ⟨A, c, rfl, hc1, hc2, -, -⟩ := hs'
  have HWY := hid_ (fun h1 h2 W => wordsOf_yes cs (.slice A xs.length c) W hl h1 h2)
  have HWN := hid_ (fun h1 h2 W => wordsOf_no cs (.slice A xs.length c) W hl h1 h2)
  generalize tblv cs (.slice A xs.length c) = tv at *
  go_enter Try.func8, Try.ntmps8
  go_wp2_with (first
    | (refine wpList_box_abs rfl 25 (.tmp 0) rfl tv rfl ?_; intro w1 g hb1 hx1 hg)
    | (refine wpList_load_mid rfl 22 (.tmp 12) rfl g 0 rfl (ints cs) _ (HRG.out _ _ hb1) Try.underlying22 rfl (by rw [hcl.out]; exact size16) ?_))
  have hc16 := hid_ (hlast.out _ _ hb1)
  go_loop [3, 14] (fun v i => ∃ k : Nat, k ≤ 16 ∧ i = .int .i64 (k : Int) ∧ v = .int .i64 (sumL cs k) ∧ (∀ z ∈ cs.take k, 0 ≤ z ∧ z ≤ 256) ∧ 0 ≤ sumL cs k ∧ sumL cs k ≤ 256 * k) (fun _ i => 16 - (intOf i).toNat)
  case atStart => exact ⟨0, by omega, rfl, rfl, by simp, by simp [sumL], by simp [sumL]⟩
  case round =>
    obtain ⟨k, hk, rfl, rfl, hin, s1, s2⟩ := hrel
    by_cases hlt : k < 16
    · have hkl : k < cs.length := by have := HL.out; omega
      have hix := HIX.out k hkl hlt
      have HS := hid_ (sumL_succ cs k hkl)
      have HIN := hid_ hin
      have HT2 := hid_ (fun h => checkZ_tot (totOK_no2 (cs := cs) (xs := xs) hk h))
      have HT1 := hid_ (fun h => checkZ_tot (totOK_no1 (cs := cs) (xs := xs) h))
      clear hin
      have HO := hid_ (fun W => outside_any cs[k] 0 256 W)
      cases hq : inB cs[k] 0 256 with
      | true =>
        obtain ⟨q1, q2⟩ := inB_iff.1 hq
        have HN := hid_ (allIn_take HIN.out hkl ⟨q1, q2⟩)
        rw [hq] at HO
        generalize sumL cs k = s at *
        by_cases hbig : 256 < s
        · have hbig' : decide (256 < s) = true := by simpa using hbig
          have HF := hid_ (HT2.out hbig)
          clear hq hbig
          go_wp2_with (go_at_call 20; (with_reducible refine (HO.out _).mono ?_); rintro e w' ⟨rfl, rfl⟩)
          go_ret
          exact ⟨by rw [HF.out]; rfl, hx1⟩
        · have hbig' : decide (256 < s) = false := by simpa using hbig
          clear hq hbig
          go_wp2_with (go_at_call 20; (with_reducible refine (HO.out _).mono ?_); rintro e w' ⟨rfl, rfl⟩)
          go_round
          case rel => exact ⟨k + 1, by omega, by go_num, by rw [HS.out], HN.out, by rw [HS.out]; omega, by rw [HS.out]; omega⟩
          case measure => simp [intOf]; omega
      | false =>
        have HF := hid_ (HT1.out (allIn_no hkl hq))
        rw [hq] at HO
        clear hq
        go_wp2_with (go_at_call 20; (with_reducible refine (HO.out _).mono ?_); rintro e w' ⟨rfl, rfl⟩)
        go_ret
        exact ⟨by rw [HF.out]; rfl, hx1⟩
    · have ek : k = 16 := by omega
      rw [ek] at s1 s2 hin ⊢
      have HA := hid_ (show allIn cs 0 256 = true by
        rw [List.take_of_length_le (by have := HL.out; omega)] at hin
        exact allIn_iff.2 hin)
      have HTK : Hid (sumL cs 16 ≤ 256 → sumL cs 16 = xs.length → totOK cs xs = true) := hid_ (fun a b => totOK_iff.2 ⟨HA.out, a, b⟩)
      have HTN : Hid (¬ (sumL cs 16 ≤ 256 ∧ sumL cs 16 = xs.length) → checkZ cs xs = 4) := hid_ (fun a => checkZ_tot (by
        rw [← Bool.not_eq_true, totOK_iff]
        rintro ⟨-, b, d⟩
        exact a ⟨b, d⟩))
      clear hin ek hk hlt
      generalize sumL cs 16 = s at *
      have h16 := hc16.out
      by_cases h1 : s ≤ 256
      · have h1' : decide (256 < s) = false := by simp; omega
        by_cases h2 : s = xs.length
        · have HTOK := hid_ (HTK.out h1 h2)
          subst h2
          have hneq : ((xs.length : Int) != (xs.length : Int)) = false := by simp
          have HZ1 := hid_ (fun h2 => checkZ_arg HTOK.out h2)
          have HZ2 := hid_ (fun h2 h3 => checkZ_dup HTOK.out h2 h3)
          have HZ3 := hid_ (fun h2 h3 => checkZ_words HTOK.out h2 h3)
          clear h1
          go_wp2_with fail
          go_loop [39] (fun i => ∃ k : Nat, k ≤ xs.length ∧ i = .int .i64 (k : Int) ∧ ∀ z ∈ xs.take k, 0 ≤ z ∧ z ≤ 255) (fun i => xs.length - (intOf i).toNat)
          case atStart => exact ⟨0, by omega, rfl, by simp⟩
          case round =>
            obtain ⟨k, hk, rfl, hin⟩ := hrel
            have HIN := hid_ hin
            clear hin
            by_cases hlt : k < xs.length
            · obtain ⟨ad, u, rfl, -, hxk, hcell⟩ := (hs.ext hx1).at1 hlt
              obtain ⟨hkl, rfl⟩ := ints_at _ _ _ hxk
              clear hxk
              have HO := hid_ (fun W => outside_any xs[k] 0 255 W)
              cases hq : inB xs[k] 0 255 with
              | true =>
                have HN := hid_ (allIn_take HIN.out hkl (inB_iff.1 hq))
                rw [hq] at HO
                clear hq
                go_wp2_with (go_at_call 20; (with_reducible refine (HO.out _).mono ?_); rintro e w' ⟨rfl, rfl⟩)
                go_round
                case rel => exact ⟨k + 1, by omega, by go_num, HN.out⟩
                case measure => simp [intOf]; omega
              | false =>
                have HF := hid_ (HZ1.out (allIn_no hkl hq))
                rw [hq] at HO
                clear hq
                go_wp2_with (go_at_call 20; (with_reducible refine (HO.out _).mono ?_); rintro e w' ⟨rfl, rfl⟩)
                go_ret
                exact ⟨by rw [HF.out]; rfl, hx1⟩
            · have e1 : xs.take k = xs := List.take_of_length_le (by omega)
              have HAX : Hid (allIn xs 0 255 = true) := hid_ (by have := HIN.out; rw [e1] at this; exact allIn_iff.2 this)
              clear e1
              have h16 := hc16.out
              go_wp2_with fail
              go_loop [49] (fun i => ∃ k : Nat, k ≤ xs.length ∧ i = .int .i64 (k : Int) ∧ (xs.take k).Nodup) (fun i => xs.length - (intOf i).toNat)
              case atStart => exact ⟨0, by omega, rfl, by simp⟩
              case round =>
                obtain ⟨m, hm, rfl, hnd⟩ := hrel
                have HND := hid_ hnd
                clear hnd
                by_cases hlt2 : m < xs.length
                · obtain ⟨ad, u, rfl, -, hxk, hcell⟩ := (hs.ext hx1).at1 hlt2
                  obtain ⟨hkl, rfl⟩ := ints_at _ _ _ hxk
                  clear hxk
                  have HS2 := hid_ (nodup_take_succ hkl)
                  have HH := hid_ (fun W (hx : Ext w W) => has_any (xs.take m) (some ad) c m xs[m] W (by simp; omega) (by have := (hs.ext hx).take (k := m) (by omega); rwa [show (ints xs).take m = ints (xs.take m) by simp [ints]] at this))
                  have h16 := hc16.out
                  by_cases hmem : xs[m] ∈ xs.take m
                  · have hd : decide (xs[m] ∈ xs.take m) = true := by simpa using hmem
                    have HF := hid_ (HZ2.out HAX.out (fun hnn => (((HS2.out).1 (List.Nodup.sublist (List.take_sublist _ _) hnn)).2 hmem)))
                    rw [hd] at HH
                    clear hd hmem
                    go_wp2_with (go_at_call 21; (with_reducible refine (HH.out _ hx1).mono ?_); rintro e w' ⟨rfl, rfl⟩)
                    go_ret
                    exact ⟨by rw [HF.out]; rfl, hx1⟩
                  · have hd : decide (xs[m] ∈ xs.take m) = false := by simpa using hmem
                    have HN := hid_ (HS2.out.2 ⟨HND.out, hmem⟩)
                    rw [hd] at HH
                    clear hd hmem
                    go_wp2_with (go_at_call 21; (with_reducible refine (HH.out _ hx1).mono ?_); rintro e w' ⟨rfl, rfl⟩)
                    go_round
                    case rel => exact ⟨m + 1, by omega, by go_num, HN.out⟩
                    case measure => simp [intOf]; omega
                · have e1 : xs.take m = xs := List.take_of_length_le (by omega)
                  rw [e1] at HND
                  have HF := hid_ (HZ3.out HAX.out HND.out)
                  clear e1
                  cases hok : okW cs with
                  | true =>
                    rw [hok] at HF
                    have HW := hid_ (HWY.out HA.out hok)
                    clear hok
                    go_wp2_with (first
                      | (refine wpList_load_blk rfl 25 (.tmp 1) rfl _ rfl hb1 _ Try.underlying25 rfl 17 sizeTbl hts.out ?_)
                      | (go_at_call 22; (with_reducible refine (HW.out _).mono ?_); rintro e w2 ⟨B, d, rfl, hs2, hx2⟩))
                    go_ret
                    exact ⟨by rw [HF.out]; rfl, hx1.trans hx2⟩
                  | false =>
                    rw [hok] at HF
                    have HW := hid_ (HWN.out HA.out hok)
                    clear hok
                    go_wp2_with (first
                      | (refine wpList_load_blk rfl 25 (.tmp 1) rfl _ rfl hb1 _ Try.underlying25 rfl 17 sizeTbl hts.out ?_)
                      | (go_at_call 22; (with_reducible refine (HW.out _).mono ?_); rintro e w2 ⟨rfl, hx2⟩))
                    go_ret
                    exact ⟨by rw [HF.out]; rfl, hx1.trans hx2⟩
        · have h2' : (s != (xs.length : Int)) = true := by simpa using h2
          have HF := hid_ (HTN.out (fun h => h2 h.2))
          clear h2 h1
          go_wp2_with fail
          go_ret
          exact ⟨by rw [HF.out]; rfl, hx1⟩
      · have h1' : decide (256 < s) = true := by simp; omega
        have HF := hid_ (HTN.out (fun h => h1 h.1))
        clear h1
        go_wp2_with fail
        go_ret
        exact ⟨by rw [HF.out]; rfl, hx1⟩
end Go.Proofs.Ytideigpabbhhkaa
