/- Contracts for the law BestMakes, part 9: what the functions that it reaches answer, for all arguments that the theorems name. -/
import Derived.Test.YtideigpabbhhkaaMBestMakes1
import Derived.Test.YtideigpabbhhkaaMBestMakes4
/- Package merge, in plain words: no table undercuts the packages. -/
namespace Go.Proofs.Ytideigpabbhhkaa.BM
set_option linter.unusedVariables false
set_option linter.unusedSimpArgs false
/-- the sum of the first a -/
def pre (l : List Nat) (a : Nat) : Nat := (l.take a).sum
theorem pre_zero (l : List Nat) : pre l 0 = 0 := rfl
theorem pre_cons (x : Nat) (l : List Nat) (k : Nat) : pre (x :: l) (k + 1) = x + pre l k := by simp [pre]
theorem pre_all (l : List Nat) : pre l l.length = l.sum := by simp [pre]
theorem pre_mono (l : List Nat) {a b : Nat} (h : a ≤ b) : pre l a ≤ pre l b := by
  induction l generalizing a b with
  | nil => simp [pre]
  | cons x l ih =>
    cases a with
    | zero => simp [pre]
    | succ a => cases b with
      | zero => omega
      | succ b => rw [pre_cons, pre_cons]; have := ih (a := a) (b := b) (by omega); omega
theorem pre_cons_le : ∀ (k : Nat) (x : Nat) (l : List Nat), (x :: l).Pairwise (· ≤ ·) → k ≤ l.length → pre (x :: l) k ≤ pre l k
  | 0, x, l, _, _ => by simp [pre]
  | k + 1, x, [], _, h => by simp at h
  | k + 1, x, y :: l, h, hk => by
    rw [pre_cons, pre_cons]
    rw [List.pairwise_cons] at h
    have h1 := h.1 y (by simp)
    have h2 := pre_cons_le k y l h.2 (by simpa using hk)
    omega
/-- the first ones of a sorted list undercut any others -/
theorem pre_sub {l : List Nat} (h : l.Pairwise (· ≤ ·)) {s : List Nat} (hs : s.Sublist l) : pre l s.length ≤ s.sum := by
  induction hs with
  | slnil => simp [pre]
  | cons x hs ih =>
    have h2 := (List.pairwise_cons.1 h).2
    have := pre_cons_le _ x _ h hs.length_le
    exact Nat.le_trans this (ih h2)
  | cons_cons x hs ih =>
    have h2 := (List.pairwise_cons.1 h).2
    have := ih h2
    simp only [List.length_cons, List.sum_cons, pre_cons]
    omega
theorem pre_part {l p q : List Nat} (h : l.Pairwise (· ≤ ·)) (hp : l.Perm (p ++ q)) : pre l p.length ≤ p.sum := by
  obtain ⟨p', h1, h2⟩ := List.exists_perm_sublist (List.sublist_append_left p q) hp.symm
  have := pre_sub h h2
  rwa [h1.length_eq, h1.sum_nat] at this
def pairs : List Nat → List Nat
  | x :: y :: r => (x + y) :: pairs r
  | _ => []
theorem pairs_len : ∀ l : List Nat, (pairs l).length = l.length / 2
  | [] => rfl
  | [_] => (by simp [pairs])
  | x :: y :: r => by simp [pairs, pairs_len r]; omega
theorem pairs_pre : ∀ (l : List Nat) (b : Nat), 2 * b ≤ l.length → pre (pairs l) b = pre l (2 * b)
  | _, 0, _ => by simp [pre]
  | [], b + 1, h => by simp at h
  | [_], b + 1, h => by simp at h; omega
  | x :: y :: r, b + 1, h => by
    have := pairs_pre r b (by simp at h; omega)
    rw [pairs, pre_cons, this, show 2 * (b + 1) = 2 * b + 1 + 1 by omega, pre_cons, pre_cons]
    omega
/-- rows of packages' weights: row 0 is the deepest one -/
structure Rows (ws : List Nat) (R : Nat → List Nat) : Prop where
  zero : R 0 = ws
  sorted : ∀ f, (R f).Pairwise (· ≤ ·)
  next : ∀ f, (R (f + 1)).Perm (pairs (R f) ++ ws)
section
variable {ws : List Nat} {R : Nat → List Nat}
theorem Rows.len (h : Rows ws R) (f : Nat) : (R (f + 1)).length = (R f).length / 2 + ws.length := by
  rw [(h.next f).length_eq, List.length_append, pairs_len]
theorem Rows.merge (h : Rows ws R) (f a b : Nat) (ha : a ≤ ws.length) (hb : 2 * b ≤ (R f).length) : pre (R (f + 1)) (a + b) ≤ pre ws a + pre (R f) (2 * b) := by
  have hb' : b ≤ (pairs (R f)).length := by rw [pairs_len]; omega
  have hp : (R (f + 1)).Perm (((pairs (R f)).take b ++ ws.take a) ++ ((pairs (R f)).drop b ++ ws.drop a)) := by
    refine (h.next f).trans ?_
    have e1 : pairs (R f) ++ ws = (pairs (R f)).take b ++ ((pairs (R f)).drop b ++ (ws.take a ++ ws.drop a)) := by
      rw [← List.append_assoc, List.take_append_drop, List.take_append_drop]
    rw [e1, List.append_assoc]
    refine List.Perm.append_left _ ?_
    rw [← List.append_assoc, ← List.append_assoc]
    exact List.Perm.append_right _ List.perm_append_comm
  have := pre_part (h.sorted (f + 1)) hp
  rw [List.length_append, List.length_take, List.length_take, List.sum_append] at this
  rw [← pairs_pre _ _ hb]
  simp only [pre] at this ⊢
  rw [Nat.min_eq_left ha, Nat.min_eq_left hb', Nat.add_comm] at this
  omega
end
/-- the least of g 0 .. g m, and of far -/
def minTo (far : Nat) (g : Nat → Nat) : Nat → Nat
  | 0 => min far (g 0)
  | m + 1 => min (minTo far g m) (g (m + 1))
theorem minTo_le (far : Nat) (g : Nat → Nat) : ∀ (m c : Nat), c ≤ m → minTo far g m ≤ g c
  | 0, c, h => by
    obtain rfl : c = 0 := by omega
    exact Nat.min_le_right _ _
  | m + 1, c, h => by
    unfold minTo
    by_cases hc : c = m + 1
    · subst hc; exact Nat.min_le_right _ _
    · exact Nat.le_trans (Nat.min_le_left _ _) (minTo_le far g m c (by omega))
theorem minTo_far (far : Nat) (g : Nat → Nat) : ∀ m, minTo far g m ≤ far
  | 0 => Nat.min_le_left _ _
  | m + 1 => Nat.le_trans (Nat.min_le_left _ _) (minTo_far far g m)
theorem minTo_at (far : Nat) (g : Nat → Nat) : ∀ m, minTo far g m < far → ∃ c, c ≤ m ∧ minTo far g m = g c
  | 0, h => by
    unfold minTo at h ⊢
    exact ⟨0, by omega, by omega⟩
  | m + 1, h => by
    unfold minTo at h ⊢
    by_cases hc : g (m + 1) ≤ minTo far g m
    · exact ⟨m + 1, by omega, by omega⟩
    · obtain ⟨c, h1, h2⟩ := minTo_at far g m (by omega)
      exact ⟨c, by omega, by omega⟩
/-- what the `left` lightest take beyond this length, if m words of it are free and f lengths come behind it -/
def D (W : Nat → Nat) (far : Nat) : Nat → Nat → Nat → Nat
  | 0, left, m => if left ≤ m then 0 else far
  | f + 1, left, m => if left ≤ m then 0 else minTo far (fun c => W (left - c) + D W far f (left - c) (min (2 * (m - c)) (left - c))) m
theorem D_fit (W : Nat → Nat) (far f left m : Nat) (h : left ≤ m) : D W far f left m = 0 := by cases f <;> simp [D, h]
section
variable {ws : List Nat} {R : Nat → List Nat}
theorem D_low (h : Rows ws R) (far : Nat) : ∀ (f left m : Nat), left ≤ ws.length → m < left → D (pre ws) far (f + 1) left m < far →
    2 * (left - m) ≤ (R f).length ∧ pre (R f) (2 * (left - m)) ≤ D (pre ws) far (f + 1) left m
  | 0, left, m, hl, hm, hf => by
    have hf0 := hf
    rw [D, if_neg (by omega)] at hf ⊢
    obtain ⟨c, hc, e⟩ := minTo_at _ _ _ hf
    rw [e] at hf ⊢
    rw [h.zero]
    by_cases hfit : left - c ≤ min (2 * (m - c)) (left - c)
    · rw [D, if_pos hfit] at hf ⊢
      refine ⟨by omega, ?_⟩
      have := pre_mono ws (a := 2 * (left - m)) (b := left - c) (by omega)
      omega
    · rw [D, if_neg hfit] at hf
      omega
  | f + 1, left, m, hl, hm, hf => by
    rw [D, if_neg (by omega)] at hf ⊢
    obtain ⟨c, hc, e⟩ := minTo_at _ _ _ hf
    rw [e] at hf ⊢
    by_cases hfit : left - c ≤ min (2 * (m - c)) (left - c)
    · rw [D_fit _ _ _ _ _ hfit] at hf ⊢
      have hk : 2 * (left - m) ≤ left - c := by omega
      have h1 : pre (R (f + 1)) (2 * (left - m)) ≤ pre ws (2 * (left - m)) + pre (R f) (2 * 0) := h.merge f (2 * (left - m)) 0 (by omega) (by omega)
      have e0 : pre (R f) (2 * 0) = 0 := rfl
      have h2 := pre_mono ws (a := 2 * (left - m)) (b := left - c) hk
      exact ⟨by rw [h.len]; omega, by omega⟩
    · have hm' : min (2 * (m - c)) (left - c) = 2 * (m - c) := by omega
      rw [hm'] at hf ⊢ hfit
      obtain ⟨h1, h2⟩ := D_low h far f (left - c) (2 * (m - c)) (by omega) (by omega) (by omega)
      have h3 := h.merge f (left - c) (left - c - 2 * (m - c)) (by omega) h1
      rw [show left - c + (left - c - 2 * (m - c)) = 2 * (left - m) by omega] at h3
      exact ⟨by rw [h.len]; omega, by omega⟩
/-- no road of the table's undercuts the packages -/
theorem low (h : Rows ws R) (far f : Nat) (hn : 2 ≤ ws.length) (hf : D (pre ws) far (f + 1) ws.length 2 < far) :
    pre (R (f + 1)) (2 * ws.length - 2) ≤ pre ws ws.length + D (pre ws) far (f + 1) ws.length 2 := by
  by_cases h2 : ws.length = 2
  · have h1 := h.merge f 2 0 (by omega) (by omega)
    have e0 : pre (R f) (2 * 0) = 0 := rfl
    rw [h2]
    rw [show 2 * 2 - 2 = 2 + 0 by rfl]
    omega
  · obtain ⟨h1, h3⟩ := D_low h far f ws.length 2 (by omega) (by omega) hf
    have h4 := h.merge f ws.length (ws.length - 2) (by omega) h1
    rw [show ws.length + (ws.length - 2) = 2 * ws.length - 2 by omega] at h4
    omega
end
def kraft (f : Nat) (X : List (Nat × Nat)) : Nat := (X.map fun x => 2 ^ (f - x.2)).sum
def cost (X : List (Nat × Nat)) : Nat := (X.map fun x => x.1 * x.2).sum
def wsum (X : List (Nat × Nat)) : Nat := (X.map (·.1)).sum
def deeper (X : List (Nat × Nat)) : List (Nat × Nat) := (X.filter fun x => decide (0 < x.2)).map fun x => (x.1, x.2 - 1)
theorem deeper_len (X : List (Nat × Nat)) : (deeper X).length ≤ X.length := by rw [deeper, List.length_map]; exact List.length_filter_le _ _
theorem deeper_cost : ∀ X : List (Nat × Nat), cost X = wsum (deeper X) + cost (deeper X)
  | [] => rfl
  | (w, 0) :: X => by
    have := deeper_cost X
    simp only [cost, wsum, deeper, List.map_cons, List.sum_cons] at this ⊢
    rw [List.filter_cons_of_neg (by simp)]
    omega
  | (w, e + 1) :: X => by
    have := deeper_cost X
    simp only [cost, wsum, deeper, List.map_cons, List.sum_cons] at this ⊢
    rw [List.filter_cons_of_pos (by simp)]
    simp only [List.map_cons, List.sum_cons, Nat.add_sub_cancel]
    have e2 : w * (e + 1) = w + w * e := by rw [Nat.mul_succ]; omega
    omega
theorem deeper_kraft (f : Nat) : ∀ X : List (Nat × Nat), (∀ x ∈ X, x.2 ≤ f + 1) → kraft (f + 1) X = (X.length - (deeper X).length) * 2 ^ (f + 1) + kraft f (deeper X)
  | [], _ => by simp [kraft, deeper]
  | (w, 0) :: X, h => by
    have ih := deeper_kraft f X (fun x hx => h x (by simp [hx]))
    have hl := deeper_len X
    simp only [kraft, deeper, List.map_cons, List.sum_cons] at ih ⊢
    rw [List.filter_cons_of_neg (by simp), ih, List.length_cons]
    simp only [deeper] at hl
    rw [show X.length + 1 - _ = (X.length - (List.map (fun x : Nat × Nat => (x.1, x.2 - 1)) (List.filter (fun x => decide (0 < x.2)) X)).length) + 1 by omega, Nat.add_mul]
    simp
    omega
  | (w, e + 1) :: X, h => by
    have ih := deeper_kraft f X (fun x hx => h x (by simp [hx]))
    simp only [kraft, deeper, List.map_cons, List.sum_cons] at ih ⊢
    rw [List.filter_cons_of_pos (by simp), ih]
    simp only [List.map_cons, List.sum_cons, List.length_cons, Nat.add_sub_add_right, Nat.add_sub_cancel]
    omega
theorem kraft_le (f : Nat) (X : List (Nat × Nat)) : kraft f X ≤ X.length * 2 ^ f := by
  induction X with
  | nil => simp [kraft]
  | cons x X ih =>
    simp only [kraft, List.map_cons, List.sum_cons, List.length_cons, Nat.add_mul] at ih ⊢
    have := Nat.pow_le_pow_right (show 0 < 2 by omega) (show f - x.2 ≤ f by omega)
    omega
/-- weights of a part of ws -/
def Part (ws : List Nat) (X : List (Nat × Nat)) : Prop := ∃ q, ws.Perm (X.map (·.1) ++ q)
theorem Part.deeper {ws : List Nat} {X : List (Nat × Nat)} (h : Part ws X) : Part ws (deeper X) := by
  obtain ⟨q, hq⟩ := h
  refine ⟨(X.filter fun x => !decide (0 < x.2)).map (·.1) ++ q, hq.trans ?_⟩
  rw [← List.append_assoc]
  refine List.Perm.append_right _ ?_
  have h1 := (List.filter_append_perm (fun x : Nat × Nat => decide (0 < x.2)) X).symm.map (·.1)
  rw [List.map_append] at h1
  simpa [BM.deeper, List.map_map, Function.comp_def] using h1
theorem Part.pre {ws : List Nat} {X : List (Nat × Nat)} (hs : ws.Pairwise (· ≤ ·)) (h : Part ws X) : pre ws X.length ≤ wsum X := by
  obtain ⟨q, hq⟩ := h
  have := pre_part hs hq
  rwa [List.length_map] at this
/-- no lengths that fit undercut the table's roads -/
theorem D_high {ws : List Nat} (hs : ws.Pairwise (· ≤ ·)) (far : Nat) : ∀ (f : Nat) (X : List (Nat × Nat)) (m : Nat), Part ws X → (∀ x ∈ X, x.2 ≤ f) → kraft f X ≤ m * 2 ^ f → D (BM.pre ws) far f X.length m ≤ cost X
  | 0, X, m, _, _, hk => by
    have : kraft 0 X = X.length := by
      clear hk
      induction X with
      | nil => rfl
      | cons x X ih =>
        have ih := ih (by obtain ⟨q, hq⟩ := ‹Part ws (x :: X)›; exact ⟨x.1 :: q, hq.trans (by simpa using List.perm_middle.symm)⟩) (fun y hy => ‹∀ y ∈ x :: X, y.2 ≤ 0› y (by simp [hy]))
        simp only [kraft, List.map_cons, List.sum_cons, List.length_cons] at ih ⊢
        rw [ih]; simp; omega
    rw [this] at hk
    rw [D_fit _ _ _ _ _ (by omega)]
    omega
  | f + 1, X, m, hp, he, hk => by
    rw [D]
    by_cases hfit : X.length ≤ m
    · rw [if_pos hfit]; omega
    · rw [if_neg hfit]
      have hl := deeper_len X
      have h1 := deeper_kraft f X he
      have h2 := kraft_le f (deeper X)
      rw [h1] at hk
      have hpos : 0 < 2 ^ f := Nat.pos_of_ne_zero (by simp)
      have e2 : 2 ^ (f + 1) = 2 * 2 ^ f := by rw [Nat.pow_succ]; omega
      obtain ⟨c, hc⟩ : ∃ c, X.length - (deeper X).length = c := ⟨_, rfl⟩
      rw [hc] at hk h1
      have hcm : c ≤ m := by
        refine Nat.le_of_mul_le_mul_right (Nat.le_trans (Nat.le_add_right _ _) hk) (Nat.pos_of_ne_zero (by simp))
      have hkr : kraft f (deeper X) ≤ (2 * (m - c)) * 2 ^ f := by
        have e3 : m * 2 ^ (f + 1) = c * 2 ^ (f + 1) + (m - c) * 2 ^ (f + 1) := by rw [← Nat.add_mul]; congr 1; omega
        rw [e3] at hk
        have e4 : (m - c) * 2 ^ (f + 1) = 2 * (m - c) * 2 ^ f := by rw [e2, Nat.mul_comm 2 (m - c), Nat.mul_assoc]
        omega
      have hlen : X.length - c = (deeper X).length := by omega
      have hm' : kraft f (deeper X) ≤ min (2 * (m - c)) (deeper X).length * 2 ^ f := by
        rcases Nat.le_total (2 * (m - c)) (deeper X).length with h | h
        · rw [Nat.min_eq_left h]; exact hkr
        · rw [Nat.min_eq_right h]; exact h2
      have ih := D_high hs far f (deeper X) _ hp.deeper (fun x hx => by
        rw [deeper] at hx
        obtain ⟨y, hy, rfl⟩ := List.mem_map.1 hx
        have := he y ((List.mem_filter.1 hy).1)
        show y.2 - 1 ≤ f
        omega) hm'
      have h3 := minTo_le far (fun c => BM.pre ws (X.length - c) + D (BM.pre ws) far f (X.length - c) (min (2 * (m - c)) (X.length - c))) m c hcm
      simp only [hlen] at h3
      have h4 := hp.deeper.pre hs
      have h5 := deeper_cost X
      omega
end Go.Proofs.Ytideigpabbhhkaa.BM
/- Package merge: what the packages give each symbol fits, and no table undercuts it. -/
namespace Go.Proofs.Ytideigpabbhhkaa.BM
set_option linter.unusedVariables false
set_option linter.unusedSimpArgs false
/-- a package: its weight, and whose it is made of -/
abbrev Pack := Nat × List Int
def pairP : List Pack → List Pack
  | x :: y :: r => (x.1 + y.1, x.2 ++ y.2) :: pairP r
  | _ => []
def prs : List Pack → List (Pack × Pack)
  | x :: y :: r => (x, y) :: prs r
  | _ => []
def comb (p : Pack × Pack) : Pack := (p.1.1 + p.2.1, p.1.2 ++ p.2.2)
def flat2 (Z : List (Pack × Pack)) : List Pack := Z.flatMap fun p => [p.1, p.2]
theorem pairP_prs : ∀ L, pairP L = (prs L).map comb
  | [] => rfl
  | [_] => rfl
  | x :: y :: r => by simp [pairP, prs, comb, pairP_prs r]
theorem prs_flat : ∀ L : List Pack, ∃ r, L = flat2 (prs L) ++ r
  | [] => ⟨[], rfl⟩
  | [x] => ⟨[x], rfl⟩
  | x :: y :: r => by
    obtain ⟨q, h⟩ := prs_flat r
    exact ⟨q, by simp only [prs, flat2, List.flatMap_cons, List.cons_append, List.nil_append] at h ⊢; rw [← h]⟩
theorem pairP_weights : ∀ L : List Pack, (pairP L).map (·.1) = pairs (L.map (·.1))
  | [] => rfl
  | [_] => rfl
  | x :: y :: r => by simp [pairP, pairs, pairP_weights r]
theorem perm_lift {α β : Type} (f : α → β) {l' m : List β} (h : l'.Perm m) : ∀ l : List α, m = l.map f → ∃ l'' : List α, l''.Perm l ∧ l''.map f = l' := by
  induction h with
  | nil =>
    intro l hl
    have : l = [] := by cases l with | nil => rfl | cons a b => simp at hl
    subst this
    exact ⟨[], .nil, rfl⟩
  | cons x _ ih =>
    intro l hl
    cases l with
    | nil => simp at hl
    | cons a l =>
      simp only [List.map_cons, List.cons.injEq] at hl
      obtain ⟨l'', h1, h2⟩ := ih l hl.2
      exact ⟨a :: l'', h1.cons a, by simp [h2, hl.1]⟩
  | swap x y l0 =>
    intro l hl
    match l, hl with
    | a :: b :: l, hl =>
      simp only [List.map_cons, List.cons.injEq] at hl
      exact ⟨b :: a :: l, .swap _ _ _, by simp [hl.1, hl.2.1, hl.2.2]⟩
  | trans _ _ ih1 ih2 =>
    intro l hl
    obtain ⟨l2, h1, h2⟩ := ih2 l hl
    obtain ⟨l3, h3, h4⟩ := ih1 l2 h2.symm
    exact ⟨l3, h3.trans h1, h4⟩
/-- a part of two lists together is a part of each -/
theorem part_split {α : Type} : ∀ (T U A B : List α), (T ++ U).Perm (A ++ B) → ∃ T1 T2 A' B', T.Perm (T1 ++ T2) ∧ A.Perm (T1 ++ A') ∧ B.Perm (T2 ++ B')
  | [], U, A, B, _ => ⟨[], [], A, B, .nil, .refl _, .refl _⟩
  | x :: T, U, A, B, h => by
    have hx : x ∈ A ++ B := h.subset (by simp)
    rcases List.mem_append.1 hx with hA | hB
    · obtain ⟨s, t, rfl⟩ := List.append_of_mem hA
      have h1 : (x :: (T ++ U)).Perm (x :: ((s ++ t) ++ B)) := by
        refine (show (x :: T ++ U).Perm _ from h).trans ?_
        rw [List.append_assoc, List.append_assoc]
        exact List.perm_middle
      obtain ⟨T1, T2, A', B', p1, p2, p3⟩ := part_split T U (s ++ t) B (List.Perm.cons_inv h1)
      exact ⟨x :: T1, T2, A', B', p1.cons x, List.perm_middle.trans (p2.cons x), p3⟩
    · obtain ⟨s, t, rfl⟩ := List.append_of_mem hB
      have h1 : (x :: (T ++ U)).Perm (x :: (A ++ (s ++ t))) := by
        refine (show (x :: T ++ U).Perm _ from h).trans ?_
        rw [← List.append_assoc, ← List.append_assoc]
        exact List.perm_middle
      obtain ⟨T1, T2, A', B', p1, p2, p3⟩ := part_split T U A (s ++ t) (List.Perm.cons_inv h1)
      exact ⟨T1, x :: T2, A', B', (p1.cons x).trans List.perm_middle.symm, p2, List.perm_middle.trans (p3.cons x)⟩
def cont (T : List Pack) : List Int := T.flatMap (·.2)
theorem cont_perm {T U : List Pack} (h : T.Perm U) : (cont T).Perm (cont U) := h.flatMap_right _
theorem cont_append (T U : List Pack) : cont (T ++ U) = cont T ++ cont U := by simp [cont]
theorem cont_flat2 : ∀ Z : List (Pack × Pack), cont (flat2 Z) = cont (Z.map comb)
  | [] => rfl
  | p :: Z => by
    have := cont_flat2 Z
    simp only [cont, flat2, List.flatMap_cons, List.map_cons, comb, List.cons_append, List.nil_append, List.append_assoc] at this ⊢
    rw [this]
/-- packages that are part of all pairs are made of as many twos -/
theorem pair_part {L T A : List Pack} (h : (pairP L).Perm (T ++ A)) : ∃ V W, L.Perm (V ++ W) ∧ V.length = 2 * T.length ∧ cont V = cont T := by
  rw [pairP_prs] at h
  obtain ⟨Z, hz, e⟩ := perm_lift comb h.symm (prs L) rfl
  obtain ⟨Z1, Z2, rfl, e1, e2⟩ := List.map_eq_append_iff.1 e
  obtain ⟨r, hr⟩ := prs_flat L
  have hf : (flat2 (prs L)).Perm (flat2 Z1 ++ flat2 Z2) := by
    have : (flat2 (Z1 ++ Z2)).Perm (flat2 (prs L)) := hz.flatMap_right _
    rw [show flat2 (Z1 ++ Z2) = flat2 Z1 ++ flat2 Z2 by simp [flat2]] at this
    exact this.symm
  refine ⟨flat2 Z1, flat2 Z2 ++ r, ?_, ?_, by rw [cont_flat2, e1]⟩
  · rw [hr]
    refine (hf.append_right r).trans ?_
    rw [List.append_assoc]
  · rw [← e1, List.length_map]
    clear hf e e1 hz
    induction Z1 with
    | nil => rfl
    | cons p Z ih => simp only [flat2, List.flatMap_cons, List.length_append, List.length_cons, List.length_nil] at ih ⊢; omega
structure PRows (S : List Pack) (P : Nat → List Pack) : Prop where
  zero : P 0 = S
  next : ∀ f, (P (f + 1)).Perm (pairP (P f) ++ S)
/-- the widths of levels, the deepest one's being 1 -/
def width : List (List Int) → Nat
  | [] => 0
  | S :: r => S.length * 2 ^ r.length + width r
def sing (wt : Int → Nat) (s : Int) : Pack := (wt s, [s])
theorem cont_sing (wt : Int → Nat) : ∀ Z : List Int, cont (Z.map (sing wt)) = Z
  | [] => rfl
  | s :: Z => by have := cont_sing wt Z; simp only [cont, List.map_cons, List.flatMap_cons, sing] at this ⊢; rw [this]; rfl
theorem sing_part {wt : Int → Nat} {syms : List Int} {T U S : List Pack} (hS : S.Perm (syms.map (sing wt))) (h : S.Perm (T ++ U)) : ∃ Z r, syms.Perm (Z ++ r) ∧ T = Z.map (sing wt) := by
  obtain ⟨Z, hz, e⟩ := perm_lift (sing wt) (h.symm.trans hS) syms rfl
  obtain ⟨Z1, Z2, rfl, e1, e2⟩ := List.map_eq_append_iff.1 e
  exact ⟨Z1, Z2, hz.symm, e1.symm⟩
/-- what is made of packages of row f, by levels -/
theorem levels {wt : Int → Nat} {syms : List Int} {S : List Pack} {P : Nat → List Pack} (hS : S.Perm (syms.map (sing wt))) (h : PRows S P) : ∀ (f : Nat) (T U : List Pack), (P f).Perm (T ++ U) →
    ∃ Ss : List (List Int), Ss.length = f + 1 ∧ (cont T).Perm Ss.flatten ∧ (∀ Z ∈ Ss, ∃ r, syms.Perm (Z ++ r)) ∧ width Ss = T.length * 2 ^ f
  | 0, T, U, hp => by
    rw [h.zero] at hp
    obtain ⟨Z, r, hz, rfl⟩ := sing_part hS hp
    refine ⟨[Z], rfl, by rw [cont_sing]; simp, fun Y hY => by simp at hY; subst hY; exact ⟨r, hz⟩, by simp [width]⟩
  | f + 1, T, U, hp => by
    obtain ⟨T1, T2, A', B', p1, p2, p3⟩ := part_split T U _ _ (hp.symm.trans (h.next f))
    obtain ⟨V, W, hv, hl, hc⟩ := pair_part p2
    obtain ⟨Ss, k1, k2, k3, k4⟩ := levels hS h f V W hv
    obtain ⟨Z, r, hz, rfl⟩ := sing_part hS p3
    refine ⟨Z :: Ss, by simp [k1], ?_, ?_, ?_⟩
    · have := cont_perm p1
      rw [cont_append, cont_sing, ← hc] at this
      refine this.trans (List.perm_append_comm.trans ?_)
      rw [List.flatten_cons]
      exact k2.append_left Z
    · intro Y hY
      rcases List.mem_cons.1 hY with rfl | hY
      · exact ⟨r, hz⟩
      · exact k3 Y hY
    · have hT := p1.length_eq
      rw [List.length_append, List.length_map] at hT
      rw [width, k1, k4, hl, hT, Nat.pow_succ]
      rw [show 2 * T1.length * 2 ^ f = T1.length * (2 ^ f * 2) by rw [Nat.mul_comm 2 T1.length, Nat.mul_assoc, Nat.mul_comm 2]]
      rw [Nat.add_mul]
      omega
/-- in how many levels s stands -/
def cntL : List (List Int) → Int → Nat
  | [], _ => 0
  | S :: r, s => (if s ∈ S then 1 else 0) + cntL r s
theorem cntL_le : ∀ (Ss : List (List Int)) (s : Int), cntL Ss s ≤ Ss.length
  | [], _ => Nat.le_refl _
  | S :: r, s => by
    have := cntL_le r s
    rw [cntL, List.length_cons]
    split <;> omega
theorem nodup_part {syms Z r : List Int} (hn : syms.Nodup) (h : syms.Perm (Z ++ r)) : Z.Nodup ∧ (∀ s ∈ Z, s ∈ syms) := by
  have := h.nodup_iff.1 hn
  exact ⟨(List.nodup_append.1 this).1, fun s hs => h.symm.subset (by simp [hs])⟩
theorem count_levels {syms : List Int} (hn : syms.Nodup) : ∀ (Ss : List (List Int)), (∀ Z ∈ Ss, ∃ r, syms.Perm (Z ++ r)) → ∀ s, Ss.flatten.count s = cntL Ss s
  | [], _, s => rfl
  | Z :: r, h, s => by
    obtain ⟨q, hq⟩ := h Z (by simp)
    have hz := (nodup_part hn hq).1
    rw [List.flatten_cons, List.count_append, count_levels hn r (fun Y hY => h Y (by simp [hY])) s, cntL]
    by_cases hs : s ∈ Z
    · have h1 := List.nodup_iff_count.1 hz s
      have h2 := List.count_pos_iff.2 hs
      rw [if_pos hs]
      omega
    · rw [if_neg hs, List.count_eq_zero_of_not_mem hs]
def sumOn (l : List Int) (g : Int → Nat) : Nat := (l.map g).sum
theorem sumOn_perm {a b : List Int} (h : a.Perm b) (g : Int → Nat) : sumOn a g = sumOn b g := (h.map g).sum_nat
theorem sumOn_append (a b : List Int) (g : Int → Nat) : sumOn (a ++ b) g = sumOn a g + sumOn b g := by simp [sumOn]
theorem sumOn_le {l : List Int} {g k : Int → Nat} (h : ∀ s ∈ l, g s ≤ k s) : sumOn l g ≤ sumOn l k := by
  induction l with
  | nil => exact Nat.le_refl _
  | cons x l ih =>
    have h1 := h x (by simp)
    have h2 := ih (fun s hs => h s (by simp [hs]))
    simp only [sumOn, List.map_cons, List.sum_cons] at h2 ⊢
    omega
theorem sumOn_eq {l : List Int} {g k : Int → Nat} (h : ∀ s ∈ l, g s = k s) : sumOn l g = sumOn l k := by
  have : l.map g = l.map k := List.map_congr_left h
  simp [sumOn, this]
theorem sumOn_add (l : List Int) (g k : Int → Nat) : sumOn l (fun s => g s + k s) = sumOn l g + sumOn l k := by
  induction l with
  | nil => rfl
  | cons x l ih => simp only [sumOn, List.map_cons, List.sum_cons] at ih ⊢; omega
theorem sumOn_const (l : List Int) (c : Nat) : sumOn l (fun _ => c) = l.length * c := by
  induction l with
  | nil => simp [sumOn]
  | cons x l ih => simp only [sumOn, List.map_cons, List.sum_cons, List.length_cons, Nat.add_mul] at ih ⊢; omega
/-- Kraft's sum of the levels' counts -/
theorem kraft_levels {syms : List Int} (hn : syms.Nodup) : ∀ (Ss : List (List Int)), (∀ Z ∈ Ss, ∃ r, syms.Perm (Z ++ r)) → width Ss + sumOn syms (fun s => 2 ^ (Ss.length - cntL Ss s)) ≤ syms.length * 2 ^ Ss.length
  | [], _ => by
    have : sumOn syms (fun s => 2 ^ (([] : List (List Int)).length - cntL [] s)) = sumOn syms (fun _ => 1) := sumOn_eq (fun s _ => by simp [cntL])
    rw [this, sumOn_const]
    simp [width]
  | Z :: r, h => by
    have ih := kraft_levels hn r (fun Y hY => h Y (by simp [hY]))
    obtain ⟨q, hq⟩ := h Z (by simp)
    have hnq := hq.nodup_iff.1 hn
    obtain ⟨-, -, hd⟩ := List.nodup_append.1 hnq
    rw [sumOn_perm hq, sumOn_append] at ih ⊢
    have hl := hq.length_eq
    rw [List.length_append] at hl
    have h1 : sumOn Z (fun s => 2 ^ ((Z :: r).length - cntL (Z :: r) s)) = sumOn Z (fun s => 2 ^ (r.length - cntL r s)) := sumOn_eq (fun s hs => by
      rw [cntL, if_pos hs, List.length_cons]
      congr 1
      omega)
    have h2 : sumOn q (fun s => 2 ^ ((Z :: r).length - cntL (Z :: r) s)) ≤ sumOn q (fun s => 2 ^ (r.length - cntL r s)) + q.length * 2 ^ r.length := by
      rw [← sumOn_const, ← sumOn_add]
      refine sumOn_le (fun s hs => ?_)
      have hns : s ∉ Z := fun hz => hd s hz s hs rfl
      rw [cntL, if_neg hns, List.length_cons, Nat.zero_add]
      have hc := cntL_le r s
      rw [show r.length + 1 - cntL r s = (r.length - cntL r s) + 1 by omega, Nat.pow_succ]
      have := Nat.pow_le_pow_right (show 0 < 2 by omega) (show r.length - cntL r s ≤ r.length by omega)
      omega
    have hw : width (Z :: r) = Z.length * 2 ^ r.length + width r := rfl
    have hp : 2 ^ (Z :: r).length = 2 ^ r.length * 2 := by rw [List.length_cons, Nat.pow_succ]
    rw [hw, hp, hl, h1]
    rw [hl] at ih
    have e : (Z.length + q.length) * (2 ^ r.length * 2) = (Z.length + q.length) * 2 ^ r.length + (Z.length * 2 ^ r.length + q.length * 2 ^ r.length) := by
      rw [← Nat.mul_assoc, Nat.mul_comm _ 2, ← Nat.add_mul]
      omega
    rw [e]
    omega
theorem sumOn_one {l : List Int} (hn : l.Nodup) (g : Int → Nat) (x : Int) (hx : x ∈ l) : sumOn l (fun s => g s * if x = s then 1 else 0) = g x := by
  induction l with
  | nil => cases hx
  | cons y l ih =>
    rw [List.nodup_cons] at hn
    simp only [sumOn, List.map_cons, List.sum_cons] at ih ⊢
    by_cases h : x = y
    · subst h
      have : (l.map fun s => g s * if x = s then 1 else 0) = l.map fun _ => 0 := List.map_congr_left (fun s hs => by
        have : x ≠ s := fun h => hn.1 (h ▸ hs)
        simp [this])
      rw [this, if_pos rfl]
      have h0 := sumOn_const l 0
      unfold sumOn at h0
      rw [h0]
      omega
    · rw [if_neg h, ih hn.2 (by simpa [h] using hx)]
      omega
theorem sumOn_count {syms : List Int} (hn : syms.Nodup) (g : Int → Nat) : ∀ (C : List Int), (∀ s ∈ C, s ∈ syms) → sumOn C g = sumOn syms (fun s => g s * C.count s)
  | [], _ => by
    have : sumOn syms (fun s => g s * ([] : List Int).count s) = sumOn syms (fun _ => 0) := sumOn_eq (fun s _ => by simp)
    rw [this, sumOn_const]
    rfl
  | x :: C, h => by
    have ih := sumOn_count hn g C (fun s hs => h s (by simp [hs]))
    have h1 := sumOn_one hn g x (h x (by simp))
    have e : sumOn syms (fun s => g s * (x :: C).count s) = sumOn syms (fun s => g s * C.count s + g s * if x = s then 1 else 0) := sumOn_eq (fun s _ => by
      rw [List.count_cons, Nat.mul_add]
      simp only [beq_iff_eq])
    rw [e, sumOn_add, h1, ← ih]
    simp only [sumOn, List.map_cons, List.sum_cons]
    omega
theorem good_pairs {wt : Int → Nat} : ∀ L : List Pack, (∀ p ∈ L, p.1 = sumOn p.2 wt) → ∀ p ∈ pairP L, p.1 = sumOn p.2 wt
  | [], _, p, hp => by simp [pairP] at hp
  | [_], _, p, hp => by simp [pairP] at hp
  | x :: y :: r, h, p, hp => by
    rw [pairP] at hp
    rcases List.mem_cons.1 hp with rfl | hp
    · rw [sumOn_append, ← h x (by simp), ← h y (by simp)]
    · exact good_pairs r (fun q hq => h q (by simp [hq])) p hp
theorem good_rows {wt : Int → Nat} {syms : List Int} {S : List Pack} {P : Nat → List Pack} (hS : S.Perm (syms.map (sing wt))) (h : PRows S P) : ∀ f, ∀ p ∈ P f, p.1 = sumOn p.2 wt
  | 0, p, hp => by
    rw [h.zero] at hp
    obtain ⟨s, -, rfl⟩ := List.mem_map.1 (hS.subset hp)
    simp [sing, sumOn]
  | f + 1, p, hp => by
    rcases List.mem_append.1 ((h.next f).subset hp) with hp | hp
    · exact good_pairs _ (good_rows hS h f) p hp
    · obtain ⟨s, -, rfl⟩ := List.mem_map.1 (hS.subset hp)
      simp [sing, sumOn]
theorem weight_cont {wt : Int → Nat} : ∀ T : List Pack, (∀ p ∈ T, p.1 = sumOn p.2 wt) → (T.map (·.1)).sum = sumOn (cont T) wt
  | [], _ => rfl
  | p :: T, h => by
    have ih := weight_cont T (fun q hq => h q (by simp [hq]))
    have e : cont (p :: T) = p.2 ++ cont T := rfl
    rw [List.map_cons, List.sum_cons, ih, e, sumOn_append, ← h p (by simp)]
/-- THE PACKAGES: what they give each symbol fits, and costs what the first ones weigh; no table undercuts it -/
theorem packages {wt : Int → Nat} {syms : List Int} {S : List Pack} {P : Nat → List Pack} (hn : syms.Nodup) (h2 : 2 ≤ syms.length) (hS : S.Perm (syms.map (sing wt))) (h : PRows S P)
    (hs : ∀ f, ((P f).map (·.1)).Pairwise (· ≤ ·)) (hlen : 2 * syms.length - 2 ≤ (P 15).length) (far : Nat) :
    let C := cont ((P 15).take (2 * syms.length - 2))
    let F := pre ((P 15).map (·.1)) (2 * syms.length - 2)
    (∀ s ∈ C, s ∈ syms) ∧ (∀ s ∈ syms, 1 ≤ C.count s ∧ C.count s ≤ 16) ∧ sumOn syms (fun s => 2 ^ (16 - C.count s)) ≤ 2 ^ 16 ∧ sumOn syms (fun s => wt s * C.count s) = F ∧
    (F < far → pre (S.map (·.1)) syms.length + D (pre (S.map (·.1))) far 15 syms.length 2 = F) := by
  intro C F
  have hT : (P 15).Perm ((P 15).take (2 * syms.length - 2) ++ (P 15).drop (2 * syms.length - 2)) := by rw [List.take_append_drop]
  obtain ⟨Ss, k1, k2, k3, k4⟩ := levels hS h 15 _ _ hT
  have hTl : ((P 15).take (2 * syms.length - 2)).length = 2 * syms.length - 2 := by rw [List.length_take]; omega
  rw [hTl] at k4
  have hcount : ∀ s, C.count s = cntL Ss s := fun s => by rw [k2.count_eq s, count_levels hn Ss k3 s]
  have hCs : ∀ s ∈ C, s ∈ syms := fun s hs => by
    obtain ⟨Z, hZ, hsZ⟩ := List.mem_flatten.1 (k2.subset hs)
    obtain ⟨r, hr⟩ := k3 Z hZ
    exact (nodup_part hn hr).2 s hsZ
  have hk : sumOn syms (fun s => 2 ^ (16 - C.count s)) ≤ 2 ^ 16 := by
    have := kraft_levels hn Ss k3
    rw [k4, k1] at this
    have e : sumOn syms (fun s => 2 ^ (15 + 1 - cntL Ss s)) = sumOn syms (fun s => 2 ^ (16 - C.count s)) := sumOn_eq (fun s _ => by rw [hcount])
    rw [e] at this
    have e2 : syms.length * 2 ^ (15 + 1) = (2 * syms.length - 2) * 2 ^ 15 + 2 ^ 16 := by
      have : 2 * syms.length = (2 * syms.length - 2) + 2 := by omega
      rw [show syms.length * 2 ^ (15 + 1) = (2 * syms.length) * 2 ^ 15 by rw [Nat.pow_succ]; omega, this, Nat.add_mul]
      simp
    omega
  have hle : ∀ s, C.count s ≤ 16 := fun s => by rw [hcount]; have := cntL_le Ss s; omega
  have hone : ∀ s ∈ syms, 1 ≤ C.count s := fun s hs => by
    rcases Nat.eq_zero_or_pos (C.count s) with h0 | h0
    · exfalso
      obtain ⟨a, b, rfl⟩ := List.append_of_mem hs
      have hl : 1 ≤ (a ++ b).length := by simp at h2 ⊢; omega
      rw [sumOn_perm (List.perm_middle : (a ++ s :: b).Perm (s :: (a ++ b)))] at hk
      have e : sumOn (s :: (a ++ b)) (fun s => 2 ^ (16 - C.count s)) = 2 ^ (16 - C.count s) + sumOn (a ++ b) (fun s => 2 ^ (16 - C.count s)) := rfl
      have hp : sumOn (a ++ b) (fun _ => 1) ≤ sumOn (a ++ b) (fun s => 2 ^ (16 - C.count s)) := sumOn_le (fun _ _ => Nat.pos_of_ne_zero (by simp))
      rw [sumOn_const] at hp
      rw [e, h0] at hk
      omega
    · exact h0
  have hF : sumOn syms (fun s => wt s * C.count s) = F := by
    rw [← sumOn_count hn wt C hCs, ← weight_cont _ (fun p hp => good_rows hS h 15 p (List.mem_of_mem_take hp))]
    show _ = ((((P 15).map (·.1)).take (2 * syms.length - 2))).sum
    rw [List.map_take]
  refine ⟨hCs, fun s hs => ⟨hone s hs, hle s⟩, hk, hF, fun hfar => ?_⟩
  have hws : (S.map (·.1)).length = syms.length := by rw [List.length_map, hS.length_eq, List.length_map]
  have hR : Rows (S.map (·.1)) (fun f => (P f).map (·.1)) := ⟨by rw [h.zero], hs, fun f => by
    have := (h.next f).map (·.1)
    rw [List.map_append, pairP_weights] at this
    exact this⟩
  -- the table's road of the packages' own lengths
  have hsor : (S.map (·.1)).Pairwise (· ≤ ·) := by have := hs 0; rwa [h.zero] at this
  let X : List (Nat × Nat) := syms.map fun s => (wt s, C.count s - 1)
  have hXp : Part (S.map (·.1)) X := ⟨[], by
    rw [List.append_nil]
    have := hS.map (·.1)
    rw [List.map_map] at this
    rw [List.map_map]
    exact this⟩
  have hX1 : ∀ x ∈ X, x.2 ≤ 15 := fun x hx => by
    obtain ⟨s, hs, rfl⟩ := List.mem_map.1 hx
    have := hle s
    show C.count s - 1 ≤ 15
    omega
  have hXk : kraft 15 X ≤ 2 * 2 ^ 15 := by
    have e : kraft 15 X = sumOn syms (fun s => 2 ^ (16 - C.count s)) := by
      unfold kraft
      rw [List.map_map]
      have : syms.map ((fun x : Nat × Nat => 2 ^ (15 - x.2)) ∘ fun s => (wt s, C.count s - 1)) = syms.map fun s => 2 ^ (16 - C.count s) := List.map_congr_left (fun s hs => by
        have := hone s hs
        show 2 ^ (15 - (C.count s - 1)) = _
        congr 1
        omega)
      rw [this]
      rfl
    rw [e]
    exact hk
  have hXl : X.length = syms.length := List.length_map _
  have hi := D_high hsor far 15 X 2 hXp hX1 hXk
  rw [hXl] at hi
  have hcost : pre (S.map (·.1)) syms.length + cost X = F := by
    have e1 : pre (S.map (·.1)) syms.length = sumOn syms wt := by
      rw [← hws, pre_all, (hS.map (·.1)).sum_nat, List.map_map]
      rfl
    have e2 : cost X = sumOn syms (fun s => wt s * (C.count s - 1)) := by
      unfold cost
      rw [List.map_map]
      rfl
    rw [e1, e2, ← sumOn_add, ← hF]
    refine sumOn_eq (fun s hs => ?_)
    have := hone s hs
    obtain ⟨c, hc⟩ : ∃ c, C.count s = c + 1 := ⟨C.count s - 1, by omega⟩
    rw [hc, Nat.add_sub_cancel, Nat.mul_add]
    omega
  have hlow : D (pre (S.map (·.1))) far 15 (S.map (·.1)).length 2 < far → pre ((P 15).map (·.1)) (2 * (S.map (·.1)).length - 2) ≤ pre (S.map (·.1)) (S.map (·.1)).length + D (pre (S.map (·.1))) far 15 (S.map (·.1)).length 2 := fun hf => low hR far 14 (by omega) hf
  rw [hws] at hlow
  have hlow2 := hlow (by omega)
  show pre (S.map (·.1)) syms.length + _ = F
  have hF2 : F = pre ((P 15).map (·.1)) (2 * syms.length - 2) := rfl
  omega
end Go.Proofs.Ytideigpabbhhkaa.BM
/- What a row owns lies apart from blocks of another type. -/
namespace Go.Proofs.Ytideigpabbhhkaa
set_option linter.unusedVariables false
set_option linter.unusedSimpArgs false
open Go.RowKit
theorem own_typed {w : World} {base size n : Nat} {e : TypeId} {v : Value} {xs : List Value} (h : w.ownsRow base e size v n xs) : ∀ g, v.ownBlock = some g → ∃ cs, w.heap[g]? = some (.cells cs e (0, 0)) := by
  obtain ⟨-, hh⟩ := h
  intro g hg
  rcases hh with ⟨rfl, -⟩ | ⟨k, cap, cur, rfl, -, hk, -⟩
  · simp [Value.ownBlock] at hg
  · have : k = g := by simpa [Value.ownBlock] using hg
    subst this
    exact ⟨_, hk⟩
theorem own_apart {w : World} {B1 B2 s1 s2 n1 n2 : Nat} {e1 e2 : TypeId} {v1 v2 : Value} {x1 x2 : List Value} (h1 : w.ownsRow B1 e1 s1 v1 n1 x1) (h2 : w.ownsRow B2 e2 s2 v2 n2 x2) (hne : e1 ≠ e2) : ∀ x, v1.ownBlock = some x → v2.ownBlock ≠ some x := by
  intro x hx hy
  obtain ⟨cs, h3⟩ := own_typed h1 x hx
  obtain ⟨ds, h4⟩ := own_typed h2 x hy
  rw [h3] at h4
  injection h4 with h4
  injection h4 with _ h4
  exact hne h4
theorem own_blk_ne {w : World} {B s n g : Nat} {e t : TypeId} {v : Value} {xs : List Value} {cs : Array Value} (h : w.ownsRow B e s v n xs) (hb : Blk w g t cs) (hne : e ≠ t) : some g ≠ v.ownBlock := by
  intro hx
  obtain ⟨ds, h3⟩ := own_typed h g hx.symm
  unfold Blk at hb
  rw [h3] at hb
  injection hb with hb
  injection hb with _ hb
  exact hne hb
end Go.Proofs.Ytideigpabbhhkaa
/- Slices that are owned, out of words. -/
namespace Go.Proofs.Ytideigpabbhhkaa
set_option linter.unusedVariables false
set_option linter.unusedSimpArgs false
open Go.RowKit
/-- an owned row, its value written out -/
def OwnV (w : World) (base : Nat) (e : TypeId) (size : Nat) (v : Value) (n : Nat) (xs : List Value) : Prop := ∃ A c, v = .slice A n c ∧ w.ownsRow base e size (.slice A n c) n xs
theorem OwnV.mk {w : World} {base : Nat} {e : TypeId} {size n : Nat} {v : Value} {xs : List Value} (h : w.ownsRow base e size v n xs) : OwnV w base e size v n xs := by
  obtain ⟨A, c, rfl, -, -⟩ := own_form h
  exact ⟨A, c, rfl, h⟩
theorem OwnV.nil (w : World) (base : Nat) (e : TypeId) (size : Nat) : OwnV w base e size (.slice none 0 0) 0 [] := ⟨none, 0, rfl, World.ownsRow_nil _ _ _ _⟩
theorem own_out {w : World} {base : Nat} {e : TypeId} {size n c : Nat} {A : Option Addr} {xs : List Value} (h : w.ownsRow base e size (.slice A n c) n xs) : SL w size (.slice A n c) n xs ∧ ∀ ad, A = some ad → base ≤ ad.block := by
  obtain ⟨B, d, e1, h1, h2⟩ := own_form h
  injection e1 with e1 e2 e3
  subst e1 e3
  exact ⟨h1, h2⟩
theorem own_ext0 {w w' : World} {base : Nat} {e : TypeId} {size n : Nat} {v : Value} {xs : List Value} (h : w.ownsRow base e size v n xs) (hb : Ext w w') : w'.ownsRow base e size v n xs := by
  obtain ⟨hl, hh⟩ := h
  refine ⟨hl, ?_⟩
  rcases hh with ⟨rfl, rfl⟩ | ⟨g, cap, cur, rfl, h1, hg, h2⟩
  · exact .inl ⟨rfl, rfl⟩
  · exact .inr ⟨g, cap, cur, rfl, h1, (hb.block g (Blk.lt (w := w) (t := e) (cs := cur) hg)).trans hg, h2⟩
end Go.Proofs.Ytideigpabbhhkaa
