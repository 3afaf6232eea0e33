/- Contracts for the law DeskRunsCard, part 3: what the functions that it reaches answer, for all arguments that the theorems name. -/

namespace Go.Proofs.YtlhggcbpipmjhaaGreatDoor.BM
set_option linter.unusedVariables false
set_option linter.unusedSimpArgs false
def pre (l : List Nat) (a : Nat) : Nat := (l.take a).sum
theorem pre_cons (x : Nat) (l : List Nat) (k : Nat) : pre (x :: l) (k + 1) = x + pre l k := by simp [pre]
theorem pre_all (l : List Nat) : pre l l.length = l.sum := by simp [pre]
theorem pre_mono (l : List Nat) {a b : Nat} (h : a ≤ b) : pre l a ≤ pre l b := by
 induction l generalizing a b with
 | nil => simp [pre]
 | cons x l ih =>
   cases a with
   | zero => simp [pre]
   | succ a => cases b with
     | zero => omega
     | succ b => rw [pre_cons, pre_cons]; have := ih (a := a) (b := b) (by omega); omega
theorem pre_cons_le : ∀ (k : Nat) (x : Nat) (l : List Nat), (x :: l).Pairwise (· ≤ ·) → k ≤ l.length → pre (x :: l) k ≤ pre l k
 | 0, x, l, _, _ => by simp [pre]
 | k + 1, x, [], _, h => by simp at h
 | k + 1, x, y :: l, h, hk => by
   rw [pre_cons, pre_cons]
   rw [List.pairwise_cons] at h
   have h1 := h.1 y (by simp)
   have h2 := pre_cons_le k y l h.2 (by simpa using hk)
   omega
theorem pre_sub {l : List Nat} (h : l.Pairwise (· ≤ ·)) {s : List Nat} (hs : s.Sublist l) : pre l s.length ≤ s.sum := by
 induction hs with
 | slnil => simp [pre]
 | cons x hs ih =>
   have h2 := (List.pairwise_cons.1 h).2
   have := pre_cons_le _ x _ h hs.length_le
   exact Nat.le_trans this (ih h2)
 | cons_cons x hs ih =>
   have h2 := (List.pairwise_cons.1 h).2
   have := ih h2
   simp only [List.length_cons, List.sum_cons, pre_cons]
   omega
theorem pre_part {l p q : List Nat} (h : l.Pairwise (· ≤ ·)) (hp : l.Perm (p ++ q)) : pre l p.length ≤ p.sum := by
 obtain ⟨p', h1, h2⟩ := List.exists_perm_sublist (List.sublist_append_left p q) hp.symm
 have := pre_sub h h2
 rwa [h1.length_eq, h1.sum_nat] at this
def pairs : List Nat → List Nat
 | x :: y :: r => (x + y) :: pairs r
 | _ => []
theorem pairs_len : ∀ l : List Nat, (pairs l).length = l.length / 2
 | [] => rfl
 | [_] => (by simp [pairs])
 | x :: y :: r => by simp [pairs, pairs_len r]; omega
theorem pairs_pre : ∀ (l : List Nat) (b : Nat), 2 * b ≤ l.length → pre (pairs l) b = pre l (2 * b)
 | _, 0, _ => by simp [pre]
 | [], b + 1, h => by simp at h
 | [_], b + 1, h => by simp at h; omega
 | x :: y :: r, b + 1, h => by
   have := pairs_pre r b (by simp at h; omega)
   rw [pairs, pre_cons, this, show 2 * (b + 1) = 2 * b + 1 + 1 by omega, pre_cons, pre_cons]
   omega
structure Rows (ws : List Nat) (R : Nat → List Nat) : Prop where
 zero : R 0 = ws
 sorted : ∀ f, (R f).Pairwise (· ≤ ·)
 next : ∀ f, (R (f + 1)).Perm (pairs (R f) ++ ws)
section
variable {ws : List Nat} {R : Nat → List Nat}
theorem Rows.len (h : Rows ws R) (f : Nat) : (R (f + 1)).length = (R f).length / 2 + ws.length := by
 rw [(h.next f).length_eq, List.length_append, pairs_len]
theorem Rows.merge (h : Rows ws R) (f a b : Nat) (ha : a ≤ ws.length) (hb : 2 * b ≤ (R f).length) : pre (R (f + 1)) (a + b) ≤ pre ws a + pre (R f) (2 * b) := by
 have hb' : b ≤ (pairs (R f)).length := by rw [pairs_len]; omega
 have hp : (R (f + 1)).Perm (((pairs (R f)).take b ++ ws.take a) ++ ((pairs (R f)).drop b ++ ws.drop a)) := by
  refine (h.next f).trans ?_
  have e1 : pairs (R f) ++ ws = (pairs (R f)).take b ++ ((pairs (R f)).drop b ++ (ws.take a ++ ws.drop a)) := by
   rw [← List.append_assoc, List.take_append_drop, List.take_append_drop]
  rw [e1, List.append_assoc]
  refine List.Perm.append_left _ ?_
  rw [← List.append_assoc, ← List.append_assoc]
  exact List.Perm.append_right _ List.perm_append_comm
 have := pre_part (h.sorted (f + 1)) hp
 rw [List.length_append, List.length_take, List.length_take, List.sum_append] at this
 rw [← pairs_pre _ _ hb]
 simp only [pre] at this ⊢
 rw [Nat.min_eq_left ha, Nat.min_eq_left hb', Nat.add_comm] at this
 omega
end
def minTo (far : Nat) (g : Nat → Nat) : Nat → Nat
 | 0 => min far (g 0)
 | m + 1 => min (minTo far g m) (g (m + 1))
theorem minTo_le (far : Nat) (g : Nat → Nat) : ∀ (m c : Nat), c ≤ m → minTo far g m ≤ g c
 | 0, c, h => by
   obtain rfl : c = 0 := by omega
   exact Nat.min_le_right _ _
 | m + 1, c, h => by
   unfold minTo
   by_cases hc : c = m + 1
   ·subst hc; exact Nat.min_le_right _ _
   ·exact Nat.le_trans (Nat.min_le_left _ _) (minTo_le far g m c (by omega))
theorem minTo_far (far : Nat) (g : Nat → Nat) : ∀ m, minTo far g m ≤ far
 | 0 => Nat.min_le_left _ _
 | m + 1 => Nat.le_trans (Nat.min_le_left _ _) (minTo_far far g m)
theorem minTo_at (far : Nat) (g : Nat → Nat) : ∀ m, minTo far g m < far → ∃ c, c ≤ m ∧ minTo far g m = g c
 | 0, h => by
   unfold minTo at h ⊢
   exact ⟨0, by omega, by omega⟩
 | m + 1, h => by
   unfold minTo at h ⊢
   by_cases hc : g (m + 1) ≤ minTo far g m
   ·exact ⟨m + 1, by omega, by omega⟩
   ·obtain ⟨c, h1, h2⟩ := minTo_at far g m (by omega)
    exact ⟨c, by omega, by omega⟩
def D (W : Nat → Nat) (far : Nat) : Nat → Nat → Nat → Nat
 | 0, left, m => if left ≤ m then 0 else far
 | f + 1, left, m => if left ≤ m then 0 else minTo far (fun c => W (left - c) + D W far f (left - c) (min (2 * (m - c)) (left - c))) m
theorem D_fit (W : Nat → Nat) (far f left m : Nat) (h : left ≤ m) : D W far f left m = 0 := by cases f <;> simp [D, h]
section
variable {ws : List Nat} {R : Nat → List Nat}
theorem D_low (h : Rows ws R) (far : Nat) : ∀ (f left m : Nat), left ≤ ws.length → m < left → D (pre ws) far (f + 1) left m < far →
 2 * (left - m) ≤ (R f).length ∧ pre (R f) (2 * (left - m)) ≤ D (pre ws) far (f + 1) left m
 | 0, left, m, hl, hm, hf => by
   have hf0 := hf
   rw [D, if_neg (by omega)] at hf ⊢
   obtain ⟨c, hc, e⟩ := minTo_at _ _ _ hf
   rw [e] at hf ⊢
   rw [h.zero]
   by_cases hfit : left - c ≤ min (2 * (m - c)) (left - c)
   ·rw [D, if_pos hfit] at hf ⊢
    refine ⟨by omega, ?_⟩
    have := pre_mono ws (a := 2 * (left - m)) (b := left - c) (by omega)
    omega
   ·rw [D, if_neg hfit] at hf
    omega
 | f + 1, left, m, hl, hm, hf => by
   rw [D, if_neg (by omega)] at hf ⊢
   obtain ⟨c, hc, e⟩ := minTo_at _ _ _ hf
   rw [e] at hf ⊢
   by_cases hfit : left - c ≤ min (2 * (m - c)) (left - c)
   ·rw [D_fit _ _ _ _ _ hfit] at hf ⊢
    have hk : 2 * (left - m) ≤ left - c := by omega
    have h1 : pre (R (f + 1)) (2 * (left - m)) ≤ pre ws (2 * (left - m)) + pre (R f) (2 * 0) := h.merge f (2 * (left - m)) 0 (by omega) (by omega)
    have e0 : pre (R f) (2 * 0) = 0 := rfl
    have h2 := pre_mono ws (a := 2 * (left - m)) (b := left - c) hk
    exact ⟨by rw [h.len]; omega, by omega⟩
   ·have hm' : min (2 * (m - c)) (left - c) = 2 * (m - c) := by omega
    rw [hm'] at hf ⊢ hfit
    obtain ⟨h1, h2⟩ := D_low h far f (left - c) (2 * (m - c)) (by omega) (by omega) (by omega)
    have h3 := h.merge f (left - c) (left - c - 2 * (m - c)) (by omega) h1
    rw [show left - c + (left - c - 2 * (m - c)) = 2 * (left - m) by omega] at h3
    exact ⟨by rw [h.len]; omega, by omega⟩
theorem low (h : Rows ws R) (far f : Nat) (hn : 2 ≤ ws.length) (hf : D (pre ws) far (f + 1) ws.length 2 < far) :
 pre (R (f + 1)) (2 * ws.length - 2) ≤ pre ws ws.length + D (pre ws) far (f + 1) ws.length 2 := by
 by_cases h2 : ws.length = 2
 ·have h1 := h.merge f 2 0 (by omega) (by omega)
  have e0 : pre (R f) (2 * 0) = 0 := rfl
  rw [h2]
  rw [show 2 * 2 - 2 = 2 + 0 by rfl]
  omega
 ·obtain ⟨h1, h3⟩ := D_low h far f ws.length 2 (by omega) (by omega) hf
  have h4 := h.merge f ws.length (ws.length - 2) (by omega) h1
  rw [show ws.length + (ws.length - 2) = 2 * ws.length - 2 by omega] at h4
  omega
end
def kraft (f : Nat) (X : List (Nat × Nat)) : Nat := (X.map fun x => 2 ^ (f - x.2)).sum
def cost (X : List (Nat × Nat)) : Nat := (X.map fun x => x.1 * x.2).sum
def wsum (X : List (Nat × Nat)) : Nat := (X.map (·.1)).sum
def deeper (X : List (Nat × Nat)) : List (Nat × Nat) := (X.filter fun x => decide (0 < x.2)).map fun x => (x.1, x.2 - 1)
theorem deeper_len (X : List (Nat × Nat)) : (deeper X).length ≤ X.length := by rw [deeper, List.length_map]; exact List.length_filter_le _ _
theorem deeper_cost : ∀ X : List (Nat × Nat), cost X = wsum (deeper X) + cost (deeper X)
 | [] => rfl
 | (w, 0) :: X => by
   have := deeper_cost X
   simp only [cost, wsum, deeper, List.map_cons, List.sum_cons] at this ⊢
   rw [List.filter_cons_of_neg (by simp)]
   omega
 | (w, e + 1) :: X => by
   have := deeper_cost X
   simp only [cost, wsum, deeper, List.map_cons, List.sum_cons] at this ⊢
   rw [List.filter_cons_of_pos (by simp)]
   simp only [List.map_cons, List.sum_cons, Nat.add_sub_cancel]
   have e2 : w * (e + 1) = w + w * e := by rw [Nat.mul_succ]; omega
   omega
theorem deeper_kraft (f : Nat) : ∀ X : List (Nat × Nat), (∀ x ∈ X, x.2 ≤ f + 1) → kraft (f + 1) X = (X.length - (deeper X).length) * 2 ^ (f + 1) + kraft f (deeper X)
 | [], _ => by simp [kraft, deeper]
 | (w, 0) :: X, h => by
   have ih := deeper_kraft f X (fun x hx => h x (by simp [hx]))
   have hl := deeper_len X
   simp only [kraft, deeper, List.map_cons, List.sum_cons] at ih ⊢
   rw [List.filter_cons_of_neg (by simp), ih, List.length_cons]
   simp only [deeper] at hl
   rw [show X.length + 1 - _ = (X.length - (List.map (fun x : Nat × Nat => (x.1, x.2 - 1)) (List.filter (fun x => decide (0 < x.2)) X)).length) + 1 by omega, Nat.add_mul]
   simp
   omega
 | (w, e + 1) :: X, h => by
   have ih := deeper_kraft f X (fun x hx => h x (by simp [hx]))
   simp only [kraft, deeper, List.map_cons, List.sum_cons] at ih ⊢
   rw [List.filter_cons_of_pos (by simp), ih]
   simp only [List.map_cons, List.sum_cons, List.length_cons, Nat.add_sub_add_right, Nat.add_sub_cancel]
   omega
theorem kraft_le (f : Nat) (X : List (Nat × Nat)) : kraft f X ≤ X.length * 2 ^ f := by
 induction X with
 | nil => simp [kraft]
 | cons x X ih =>
   simp only [kraft, List.map_cons, List.sum_cons, List.length_cons, Nat.add_mul] at ih ⊢
   have := Nat.pow_le_pow_right (show 0 < 2 by omega) (show f - x.2 ≤ f by omega)
   omega
def Part (ws : List Nat) (X : List (Nat × Nat)) : Prop := ∃ q, ws.Perm (X.map (·.1) ++ q)
theorem Part.deeper {ws : List Nat} {X : List (Nat × Nat)} (h : Part ws X) : Part ws (deeper X) := by
 obtain ⟨q, hq⟩ := h
 refine ⟨(X.filter fun x => !decide (0 < x.2)).map (·.1) ++ q, hq.trans ?_⟩
 rw [← List.append_assoc]
 refine List.Perm.append_right _ ?_
 have h1 := (List.filter_append_perm (fun x : Nat × Nat => decide (0 < x.2)) X).symm.map (·.1)
 rw [List.map_append] at h1
 simpa [BM.deeper, List.map_map, Function.comp_def] using h1
theorem Part.pre {ws : List Nat} {X : List (Nat × Nat)} (hs : ws.Pairwise (· ≤ ·)) (h : Part ws X) : pre ws X.length ≤ wsum X := by
 obtain ⟨q, hq⟩ := h
 have := pre_part hs hq
 rwa [List.length_map] at this
theorem D_high {ws : List Nat} (hs : ws.Pairwise (· ≤ ·)) (far : Nat) : ∀ (f : Nat) (X : List (Nat × Nat)) (m : Nat), Part ws X → (∀ x ∈ X, x.2 ≤ f) → kraft f X ≤ m * 2 ^ f → D (BM.pre ws) far f X.length m ≤ cost X
 | 0, X, m, _, _, hk => by
   have : kraft 0 X = X.length := by
    clear hk
    induction X with
    | nil => rfl
    | cons x X ih =>
      have ih := ih (by obtain ⟨q, hq⟩ := ‹Part ws (x :: X)›; exact ⟨x.1 :: q, hq.trans (by simpa using List.perm_middle.symm)⟩) (fun y hy => ‹∀ y ∈ x :: X, y.2 ≤ 0› y (by simp [hy]))
      simp only [kraft, List.map_cons, List.sum_cons, List.length_cons] at ih ⊢
      rw [ih]; simp; omega
   rw [this] at hk
   rw [D_fit _ _ _ _ _ (by omega)]
   omega
 | f + 1, X, m, hp, he, hk => by
   rw [D]
   by_cases hfit : X.length ≤ m
   ·rw [if_pos hfit]; omega
   ·rw [if_neg hfit]
    have hl := deeper_len X
    have h1 := deeper_kraft f X he
    have h2 := kraft_le f (deeper X)
    rw [h1] at hk
    have hpos : 0 < 2 ^ f := Nat.pos_of_ne_zero (by simp)
    have e2 : 2 ^ (f + 1) = 2 * 2 ^ f := by rw [Nat.pow_succ]; omega
    obtain ⟨c, hc⟩ : ∃ c, X.length - (deeper X).length = c := ⟨_, rfl⟩
    rw [hc] at hk h1
    have hcm : c ≤ m := by
     refine Nat.le_of_mul_le_mul_right (Nat.le_trans (Nat.le_add_right _ _) hk) (Nat.pos_of_ne_zero (by simp))
    have hkr : kraft f (deeper X) ≤ (2 * (m - c)) * 2 ^ f := by
     have e3 : m * 2 ^ (f + 1) = c * 2 ^ (f + 1) + (m - c) * 2 ^ (f + 1) := by rw [← Nat.add_mul]; congr 1; omega
     rw [e3] at hk
     have e4 : (m - c) * 2 ^ (f + 1) = 2 * (m - c) * 2 ^ f := by rw [e2, Nat.mul_comm 2 (m - c), Nat.mul_assoc]
     omega
    have hlen : X.length - c = (deeper X).length := by omega
    have hm' : kraft f (deeper X) ≤ min (2 * (m - c)) (deeper X).length * 2 ^ f := by
     rcases Nat.le_total (2 * (m - c)) (deeper X).length with h | h
     ·rw [Nat.min_eq_left h]; exact hkr
     ·rw [Nat.min_eq_right h]; exact h2
    have ih := D_high hs far f (deeper X) _ hp.deeper (fun x hx => by
     rw [deeper] at hx
     obtain ⟨y, hy, rfl⟩ := List.mem_map.1 hx
     have := he y ((List.mem_filter.1 hy).1)
     show y.2 - 1 ≤ f
     omega) hm'
    have h3 := minTo_le far (fun c => BM.pre ws (X.length - c) + D (BM.pre ws) far f (X.length - c) (min (2 * (m - c)) (X.length - c))) m c hcm
    simp only [hlen] at h3
    have h4 := hp.deeper.pre hs
    have h5 := deeper_cost X
    omega
end Go.Proofs.YtlhggcbpipmjhaaGreatDoor.BM
namespace Go.Proofs.YtlhggcbpipmjhaaGreatDoor.BM
set_option linter.unusedVariables false
set_option linter.unusedSimpArgs false
abbrev Pack := Nat × List Int
def pairP : List Pack → List Pack
 | x :: y :: r => (x.1 + y.1, x.2 ++ y.2) :: pairP r
 | _ => []
def prs : List Pack → List (Pack × Pack)
 | x :: y :: r => (x, y) :: prs r
 | _ => []
def comb (p : Pack × Pack) : Pack := (p.1.1 + p.2.1, p.1.2 ++ p.2.2)
def flat2 (Z : List (Pack × Pack)) : List Pack := Z.flatMap fun p => [p.1, p.2]
theorem pairP_prs : ∀ L, pairP L = (prs L).map comb
 | [] => rfl
 | [_] => rfl
 | x :: y :: r => by simp [pairP, prs, comb, pairP_prs r]
theorem prs_flat : ∀ L : List Pack, ∃ r, L = flat2 (prs L) ++ r
 | [] => ⟨[], rfl⟩
 | [x] => ⟨[x], rfl⟩
 | x :: y :: r => by
   obtain ⟨q, h⟩ := prs_flat r
   exact ⟨q, by simp only [prs, flat2, List.flatMap_cons, List.cons_append, List.nil_append] at h ⊢; rw [← h]⟩
theorem pairP_weights : ∀ L : List Pack, (pairP L).map (·.1) = pairs (L.map (·.1))
 | [] => rfl
 | [_] => rfl
 | x :: y :: r => by simp [pairP, pairs, pairP_weights r]
theorem perm_lift {α β : Type} (f : α → β) {l' m : List β} (h : l'.Perm m) : ∀ l : List α, m = l.map f → ∃ l'' : List α, l''.Perm l ∧ l''.map f = l' := by
 induction h with
 | nil =>
   intro l hl
   have : l = [] := by cases l with | nil => rfl | cons a b => simp at hl
   subst this
   exact ⟨[], .nil, rfl⟩
 | cons x _ ih =>
   intro l hl
   cases l with
   | nil => simp at hl
   | cons a l =>
     simp only [List.map_cons, List.cons.injEq] at hl
     obtain ⟨l'', h1, h2⟩ := ih l hl.2
     exact ⟨a :: l'', h1.cons a, by simp [h2, hl.1]⟩
 | swap x y l0 =>
   intro l hl
   match l, hl with
   | a :: b :: l, hl =>
     simp only [List.map_cons, List.cons.injEq] at hl
     exact ⟨b :: a :: l, .swap _ _ _, by simp [hl.1, hl.2.1, hl.2.2]⟩
 | trans _ _ ih1 ih2 =>
   intro l hl
   obtain ⟨l2, h1, h2⟩ := ih2 l hl
   obtain ⟨l3, h3, h4⟩ := ih1 l2 h2.symm
   exact ⟨l3, h3.trans h1, h4⟩
theorem part_split {α : Type} : ∀ (T U A B : List α), (T ++ U).Perm (A ++ B) → ∃ T1 T2 A' B', T.Perm (T1 ++ T2) ∧ A.Perm (T1 ++ A') ∧ B.Perm (T2 ++ B')
 | [], U, A, B, _ => ⟨[], [], A, B, .nil, .refl _, .refl _⟩
 | x :: T, U, A, B, h => by
   have hx : x ∈ A ++ B := h.subset (by simp)
   rcases List.mem_append.1 hx with hA | hB
   ·obtain ⟨s, t, rfl⟩ := List.append_of_mem hA
    have h1 : (x :: (T ++ U)).Perm (x :: ((s ++ t) ++ B)) := by
     refine (show (x :: T ++ U).Perm _ from h).trans ?_
     rw [List.append_assoc, List.append_assoc]
     exact List.perm_middle
    obtain ⟨T1, T2, A', B', p1, p2, p3⟩ := part_split T U (s ++ t) B (List.Perm.cons_inv h1)
    exact ⟨x :: T1, T2, A', B', p1.cons x, List.perm_middle.trans (p2.cons x), p3⟩
   ·obtain ⟨s, t, rfl⟩ := List.append_of_mem hB
    have h1 : (x :: (T ++ U)).Perm (x :: (A ++ (s ++ t))) := by
     refine (show (x :: T ++ U).Perm _ from h).trans ?_
     rw [← List.append_assoc, ← List.append_assoc]
     exact List.perm_middle
    obtain ⟨T1, T2, A', B', p1, p2, p3⟩ := part_split T U A (s ++ t) (List.Perm.cons_inv h1)
    exact ⟨T1, x :: T2, A', B', (p1.cons x).trans List.perm_middle.symm, p2, List.perm_middle.trans (p3.cons x)⟩
def cont (T : List Pack) : List Int := T.flatMap (·.2)
theorem cont_perm {T U : List Pack} (h : T.Perm U) : (cont T).Perm (cont U) := h.flatMap_right _
theorem cont_append (T U : List Pack) : cont (T ++ U) = cont T ++ cont U := by simp [cont]
theorem cont_flat2 : ∀ Z : List (Pack × Pack), cont (flat2 Z) = cont (Z.map comb)
 | [] => rfl
 | p :: Z => by
   have := cont_flat2 Z
   simp only [cont, flat2, List.flatMap_cons, List.map_cons, comb, List.cons_append, List.nil_append, List.append_assoc] at this ⊢
   rw [this]
theorem pair_part {L T A : List Pack} (h : (pairP L).Perm (T ++ A)) : ∃ V W, L.Perm (V ++ W) ∧ V.length = 2 * T.length ∧ cont V = cont T := by
 rw [pairP_prs] at h
 obtain ⟨Z, hz, e⟩ := perm_lift comb h.symm (prs L) rfl
 obtain ⟨Z1, Z2, rfl, e1, e2⟩ := List.map_eq_append_iff.1 e
 obtain ⟨r, hr⟩ := prs_flat L
 have hf : (flat2 (prs L)).Perm (flat2 Z1 ++ flat2 Z2) := by
  have : (flat2 (Z1 ++ Z2)).Perm (flat2 (prs L)) := hz.flatMap_right _
  rw [show flat2 (Z1 ++ Z2) = flat2 Z1 ++ flat2 Z2 by simp [flat2]] at this
  exact this.symm
 refine ⟨flat2 Z1, flat2 Z2 ++ r, ?_, ?_, by rw [cont_flat2, e1]⟩
 ·rw [hr]
  refine (hf.append_right r).trans ?_
  rw [List.append_assoc]
 ·rw [← e1, List.length_map]
  clear hf e e1 hz
  induction Z1 with
  | nil => rfl
  | cons p Z ih => simp only [flat2, List.flatMap_cons, List.length_append, List.length_cons, List.length_nil] at ih ⊢; omega
structure PRows (S : List Pack) (P : Nat → List Pack) : Prop where
 zero : P 0 = S
 next : ∀ f, (P (f + 1)).Perm (pairP (P f) ++ S)
def width : List (List Int) → Nat
 | [] => 0
 | S :: r => S.length * 2 ^ r.length + width r
def sing (wt : Int → Nat) (s : Int) : Pack := (wt s, [s])
theorem cont_sing (wt : Int → Nat) : ∀ Z : List Int, cont (Z.map (sing wt)) = Z
 | [] => rfl
 | s :: Z => by have := cont_sing wt Z; simp only [cont, List.map_cons, List.flatMap_cons, sing] at this ⊢; rw [this]; rfl
theorem sing_part {wt : Int → Nat} {syms : List Int} {T U S : List Pack} (hS : S.Perm (syms.map (sing wt))) (h : S.Perm (T ++ U)) : ∃ Z r, syms.Perm (Z ++ r) ∧ T = Z.map (sing wt) := by
 obtain ⟨Z, hz, e⟩ := perm_lift (sing wt) (h.symm.trans hS) syms rfl
 obtain ⟨Z1, Z2, rfl, e1, e2⟩ := List.map_eq_append_iff.1 e
 exact ⟨Z1, Z2, hz.symm, e1.symm⟩
theorem levels {wt : Int → Nat} {syms : List Int} {S : List Pack} {P : Nat → List Pack} (hS : S.Perm (syms.map (sing wt))) (h : PRows S P) : ∀ (f : Nat) (T U : List Pack), (P f).Perm (T ++ U) →
 ∃ Ss : List (List Int), Ss.length = f + 1 ∧ (cont T).Perm Ss.flatten ∧ (∀ Z ∈ Ss, ∃ r, syms.Perm (Z ++ r)) ∧ width Ss = T.length * 2 ^ f
 | 0, T, U, hp => by
   rw [h.zero] at hp
   obtain ⟨Z, r, hz, rfl⟩ := sing_part hS hp
   refine ⟨[Z], rfl, by rw [cont_sing]; simp, fun Y hY => by simp at hY; subst hY; exact ⟨r, hz⟩, by simp [width]⟩
 | f + 1, T, U, hp => by
   obtain ⟨T1, T2, A', B', p1, p2, p3⟩ := part_split T U _ _ (hp.symm.trans (h.next f))
   obtain ⟨V, W, hv, hl, hc⟩ := pair_part p2
   obtain ⟨Ss, k1, k2, k3, k4⟩ := levels hS h f V W hv
   obtain ⟨Z, r, hz, rfl⟩ := sing_part hS p3
   refine ⟨Z :: Ss, by simp [k1], ?_, ?_, ?_⟩
   ·have := cont_perm p1
    rw [cont_append, cont_sing, ← hc] at this
    refine this.trans (List.perm_append_comm.trans ?_)
    rw [List.flatten_cons]
    exact k2.append_left Z
   ·intro Y hY
    rcases List.mem_cons.1 hY with rfl | hY
    ·exact ⟨r, hz⟩
    ·exact k3 Y hY
   ·have hT := p1.length_eq
    rw [List.length_append, List.length_map] at hT
    rw [width, k1, k4, hl, hT, Nat.pow_succ]
    rw [show 2 * T1.length * 2 ^ f = T1.length * (2 ^ f * 2) by rw [Nat.mul_comm 2 T1.length, Nat.mul_assoc, Nat.mul_comm 2]]
    rw [Nat.add_mul]
    omega
def cntL : List (List Int) → Int → Nat
 | [], _ => 0
 | S :: r, s => (if s ∈ S then 1 else 0) + cntL r s
theorem cntL_le : ∀ (Ss : List (List Int)) (s : Int), cntL Ss s ≤ Ss.length
 | [], _ => Nat.le_refl _
 | S :: r, s => by
   have := cntL_le r s
   rw [cntL, List.length_cons]
   split <;> omega
theorem nodup_part {syms Z r : List Int} (hn : syms.Nodup) (h : syms.Perm (Z ++ r)) : Z.Nodup ∧ (∀ s ∈ Z, s ∈ syms) := by
 have := h.nodup_iff.1 hn
 exact ⟨(List.nodup_append.1 this).1, fun s hs => h.symm.subset (by simp [hs])⟩
theorem count_levels {syms : List Int} (hn : syms.Nodup) : ∀ (Ss : List (List Int)), (∀ Z ∈ Ss, ∃ r, syms.Perm (Z ++ r)) → ∀ s, Ss.flatten.count s = cntL Ss s
 | [], _, s => rfl
 | Z :: r, h, s => by
   obtain ⟨q, hq⟩ := h Z (by simp)
   have hz := (nodup_part hn hq).1
   rw [List.flatten_cons, List.count_append, count_levels hn r (fun Y hY => h Y (by simp [hY])) s, cntL]
   by_cases hs : s ∈ Z
   ·have h1 := List.nodup_iff_count.1 hz s
    have h2 := List.count_pos_iff.2 hs
    rw [if_pos hs]
    omega
   ·rw [if_neg hs, List.count_eq_zero_of_not_mem hs]
def sumOn (l : List Int) (g : Int → Nat) : Nat := (l.map g).sum
theorem sumOn_perm {a b : List Int} (h : a.Perm b) (g : Int → Nat) : sumOn a g = sumOn b g := (h.map g).sum_nat
theorem sumOn_append (a b : List Int) (g : Int → Nat) : sumOn (a ++ b) g = sumOn a g + sumOn b g := by simp [sumOn]
theorem sumOn_le {l : List Int} {g k : Int → Nat} (h : ∀ s ∈ l, g s ≤ k s) : sumOn l g ≤ sumOn l k := by
 induction l with
 | nil => exact Nat.le_refl _
 | cons x l ih =>
   have h1 := h x (by simp)
   have h2 := ih (fun s hs => h s (by simp [hs]))
   simp only [sumOn, List.map_cons, List.sum_cons] at h2 ⊢
   omega
theorem sumOn_eq {l : List Int} {g k : Int → Nat} (h : ∀ s ∈ l, g s = k s) : sumOn l g = sumOn l k := by
 have : l.map g = l.map k := List.map_congr_left h
 simp [sumOn, this]
theorem sumOn_add (l : List Int) (g k : Int → Nat) : sumOn l (fun s => g s + k s) = sumOn l g + sumOn l k := by
 induction l with
 | nil => rfl
 | cons x l ih => simp only [sumOn, List.map_cons, List.sum_cons] at ih ⊢; omega
theorem sumOn_const (l : List Int) (c : Nat) : sumOn l (fun _ => c) = l.length * c := by
 induction l with
 | nil => simp [sumOn]
 | cons x l ih => simp only [sumOn, List.map_cons, List.sum_cons, List.length_cons, Nat.add_mul] at ih ⊢; omega
theorem kraft_levels {syms : List Int} (hn : syms.Nodup) : ∀ (Ss : List (List Int)), (∀ Z ∈ Ss, ∃ r, syms.Perm (Z ++ r)) → width Ss + sumOn syms (fun s => 2 ^ (Ss.length - cntL Ss s)) ≤ syms.length * 2 ^ Ss.length
 | [], _ => by
   have : sumOn syms (fun s => 2 ^ (([] : List (List Int)).length - cntL [] s)) = sumOn syms (fun _ => 1) := sumOn_eq (fun s _ => by simp [cntL])
   rw [this, sumOn_const]
   simp [width]
 | Z :: r, h => by
   have ih := kraft_levels hn r (fun Y hY => h Y (by simp [hY]))
   obtain ⟨q, hq⟩ := h Z (by simp)
   have hnq := hq.nodup_iff.1 hn
   obtain ⟨-, -, hd⟩ := List.nodup_append.1 hnq
   rw [sumOn_perm hq, sumOn_append] at ih ⊢
   have hl := hq.length_eq
   rw [List.length_append] at hl
   have h1 : sumOn Z (fun s => 2 ^ ((Z :: r).length - cntL (Z :: r) s)) = sumOn Z (fun s => 2 ^ (r.length - cntL r s)) := sumOn_eq (fun s hs => by
    rw [cntL, if_pos hs, List.length_cons]
    congr 1
    omega)
   have h2 : sumOn q (fun s => 2 ^ ((Z :: r).length - cntL (Z :: r) s)) ≤ sumOn q (fun s => 2 ^ (r.length - cntL r s)) + q.length * 2 ^ r.length := by
    rw [← sumOn_const, ← sumOn_add]
    refine sumOn_le (fun s hs => ?_)
    have hns : s ∉ Z := fun hz => hd s hz s hs rfl
    rw [cntL, if_neg hns, List.length_cons, Nat.zero_add]
    have hc := cntL_le r s
    rw [show r.length + 1 - cntL r s = (r.length - cntL r s) + 1 by omega, Nat.pow_succ]
    have := Nat.pow_le_pow_right (show 0 < 2 by omega) (show r.length - cntL r s ≤ r.length by omega)
    omega
   have hw : width (Z :: r) = Z.length * 2 ^ r.length + width r := rfl
   have hp : 2 ^ (Z :: r).length = 2 ^ r.length * 2 := by rw [List.length_cons, Nat.pow_succ]
   rw [hw, hp, hl, h1]
   rw [hl] at ih
   have e : (Z.length + q.length) * (2 ^ r.length * 2) = (Z.length + q.length) * 2 ^ r.length + (Z.length * 2 ^ r.length + q.length * 2 ^ r.length) := by
    rw [← Nat.mul_assoc, Nat.mul_comm _ 2, ← Nat.add_mul]
    omega
   rw [e]
   omega
theorem sumOn_one {l : List Int} (hn : l.Nodup) (g : Int → Nat) (x : Int) (hx : x ∈ l) : sumOn l (fun s => g s * if x = s then 1 else 0) = g x := by
 induction l with
 | nil => cases hx
 | cons y l ih =>
   rw [List.nodup_cons] at hn
   simp only [sumOn, List.map_cons, List.sum_cons] at ih ⊢
   by_cases h : x = y
   ·subst h
    have : (l.map fun s => g s * if x = s then 1 else 0) = l.map fun _ => 0 := List.map_congr_left (fun s hs => by
     have : x ≠ s := fun h => hn.1 (h ▸ hs)
     simp [this])
    rw [this, if_pos rfl]
    have h0 := sumOn_const l 0
    unfold sumOn at h0
    rw [h0]
    omega
   ·rw [if_neg h, ih hn.2 (by simpa [h] using hx)]
    omega
theorem sumOn_count {syms : List Int} (hn : syms.Nodup) (g : Int → Nat) : ∀ (C : List Int), (∀ s ∈ C, s ∈ syms) → sumOn C g = sumOn syms (fun s => g s * C.count s)
 | [], _ => by
   have : sumOn syms (fun s => g s * ([] : List Int).count s) = sumOn syms (fun _ => 0) := sumOn_eq (fun s _ => by simp)
   rw [this, sumOn_const]
   rfl
 | x :: C, h => by
   have ih := sumOn_count hn g C (fun s hs => h s (by simp [hs]))
   have h1 := sumOn_one hn g x (h x (by simp))
   have e : sumOn syms (fun s => g s * (x :: C).count s) = sumOn syms (fun s => g s * C.count s + g s * if x = s then 1 else 0) := sumOn_eq (fun s _ => by
    rw [List.count_cons, Nat.mul_add]
    simp only [beq_iff_eq])
   rw [e, sumOn_add, h1, ← ih]
   simp only [sumOn, List.map_cons, List.sum_cons]
   omega
theorem good_pairs {wt : Int → Nat} : ∀ L : List Pack, (∀ p ∈ L, p.1 = sumOn p.2 wt) → ∀ p ∈ pairP L, p.1 = sumOn p.2 wt
 | [], _, p, hp => by simp [pairP] at hp
 | [_], _, p, hp => by simp [pairP] at hp
 | x :: y :: r, h, p, hp => by
   rw [pairP] at hp
   rcases List.mem_cons.1 hp with rfl | hp
   ·rw [sumOn_append, ← h x (by simp), ← h y (by simp)]
   ·exact good_pairs r (fun q hq => h q (by simp [hq])) p hp
theorem good_rows {wt : Int → Nat} {syms : List Int} {S : List Pack} {P : Nat → List Pack} (hS : S.Perm (syms.map (sing wt))) (h : PRows S P) : ∀ f, ∀ p ∈ P f, p.1 = sumOn p.2 wt
 | 0, p, hp => by
   rw [h.zero] at hp
   obtain ⟨s, -, rfl⟩ := List.mem_map.1 (hS.subset hp)
   simp [sing, sumOn]
 | f + 1, p, hp => by
   rcases List.mem_append.1 ((h.next f).subset hp) with hp | hp
   ·exact good_pairs _ (good_rows hS h f) p hp
   ·obtain ⟨s, -, rfl⟩ := List.mem_map.1 (hS.subset hp)
    simp [sing, sumOn]
theorem weight_cont {wt : Int → Nat} : ∀ T : List Pack, (∀ p ∈ T, p.1 = sumOn p.2 wt) → (T.map (·.1)).sum = sumOn (cont T) wt
 | [], _ => rfl
 | p :: T, h => by
   have ih := weight_cont T (fun q hq => h q (by simp [hq]))
   have e : cont (p :: T) = p.2 ++ cont T := rfl
   rw [List.map_cons, List.sum_cons, ih, e, sumOn_append, ← h p (by simp)]
theorem packages {wt : Int → Nat} {syms : List Int} {S : List Pack} {P : Nat → List Pack} (hn : syms.Nodup) (h2 : 2 ≤ syms.length) (hS : S.Perm (syms.map (sing wt))) (h : PRows S P)
 (hs : ∀ f, ((P f).map (·.1)).Pairwise (· ≤ ·)) (hlen : 2 * syms.length - 2 ≤ (P 15).length) (far : Nat) :
 let C := cont ((P 15).take (2 * syms.length - 2))
 let F := pre ((P 15).map (·.1)) (2 * syms.length - 2)
 (∀ s ∈ C, s ∈ syms) ∧ (∀ s ∈ syms, 1 ≤ C.count s ∧ C.count s ≤ 16) ∧ sumOn syms (fun s => 2 ^ (16 - C.count s)) ≤ 2 ^ 16 ∧ sumOn syms (fun s => wt s * C.count s) = F ∧
 (F < far → pre (S.map (·.1)) syms.length + D (pre (S.map (·.1))) far 15 syms.length 2 = F) := by
 intro C F
 have hT : (P 15).Perm ((P 15).take (2 * syms.length - 2) ++ (P 15).drop (2 * syms.length - 2)) := by rw [List.take_append_drop]
 obtain ⟨Ss, k1, k2, k3, k4⟩ := levels hS h 15 _ _ hT
 have hTl : ((P 15).take (2 * syms.length - 2)).length = 2 * syms.length - 2 := by rw [List.length_take]; omega
 rw [hTl] at k4
 have hcount : ∀ s, C.count s = cntL Ss s := fun s => by rw [k2.count_eq s, count_levels hn Ss k3 s]
 have hCs : ∀ s ∈ C, s ∈ syms := fun s hs => by
  obtain ⟨Z, hZ, hsZ⟩ := List.mem_flatten.1 (k2.subset hs)
  obtain ⟨r, hr⟩ := k3 Z hZ
  exact (nodup_part hn hr).2 s hsZ
 have hk : sumOn syms (fun s => 2 ^ (16 - C.count s)) ≤ 2 ^ 16 := by
  have := kraft_levels hn Ss k3
  rw [k4, k1] at this
  have e : sumOn syms (fun s => 2 ^ (15 + 1 - cntL Ss s)) = sumOn syms (fun s => 2 ^ (16 - C.count s)) := sumOn_eq (fun s _ => by rw [hcount])
  rw [e] at this
  have e2 : syms.length * 2 ^ (15 + 1) = (2 * syms.length - 2) * 2 ^ 15 + 2 ^ 16 := by
   have : 2 * syms.length = (2 * syms.length - 2) + 2 := by omega
   rw [show syms.length * 2 ^ (15 + 1) = (2 * syms.length) * 2 ^ 15 by rw [Nat.pow_succ]; omega, this, Nat.add_mul]
   simp
  omega
 have hle : ∀ s, C.count s ≤ 16 := fun s => by rw [hcount]; have := cntL_le Ss s; omega
 have hone : ∀ s ∈ syms, 1 ≤ C.count s := fun s hs => by
  rcases Nat.eq_zero_or_pos (C.count s) with h0 | h0
  ·exfalso
   obtain ⟨a, b, rfl⟩ := List.append_of_mem hs
   have hl : 1 ≤ (a ++ b).length := by simp at h2 ⊢; omega
   rw [sumOn_perm (List.perm_middle : (a ++ s :: b).Perm (s :: (a ++ b)))] at hk
   have e : sumOn (s :: (a ++ b)) (fun s => 2 ^ (16 - C.count s)) = 2 ^ (16 - C.count s) + sumOn (a ++ b) (fun s => 2 ^ (16 - C.count s)) := rfl
   have hp : sumOn (a ++ b) (fun _ => 1) ≤ sumOn (a ++ b) (fun s => 2 ^ (16 - C.count s)) := sumOn_le (fun _ _ => Nat.pos_of_ne_zero (by simp))
   rw [sumOn_const] at hp
   rw [e, h0] at hk
   omega
  ·exact h0
 have hF : sumOn syms (fun s => wt s * C.count s) = F := by
  rw [← sumOn_count hn wt C hCs, ← weight_cont _ (fun p hp => good_rows hS h 15 p (List.mem_of_mem_take hp))]
  show _ = ((((P 15).map (·.1)).take (2 * syms.length - 2))).sum
  rw [List.map_take]
 refine ⟨hCs, fun s hs => ⟨hone s hs, hle s⟩, hk, hF, fun hfar => ?_⟩
 have hws : (S.map (·.1)).length = syms.length := by rw [List.length_map, hS.length_eq, List.length_map]
 have hR : Rows (S.map (·.1)) (fun f => (P f).map (·.1)) := ⟨by rw [h.zero], hs, fun f => by
  have := (h.next f).map (·.1)
  rw [List.map_append, pairP_weights] at this
  exact this⟩
 -- the table's road of the packages' own lengths
 have hsor : (S.map (·.1)).Pairwise (· ≤ ·) := by have := hs 0; rwa [h.zero] at this
 let X : List (Nat × Nat) := syms.map fun s => (wt s, C.count s - 1)
 have hXp : Part (S.map (·.1)) X := ⟨[], by
  rw [List.append_nil]
  have := hS.map (·.1)
  rw [List.map_map] at this
  rw [List.map_map]
  exact this⟩
 have hX1 : ∀ x ∈ X, x.2 ≤ 15 := fun x hx => by
  obtain ⟨s, hs, rfl⟩ := List.mem_map.1 hx
  have := hle s
  show C.count s - 1 ≤ 15
  omega
 have hXk : kraft 15 X ≤ 2 * 2 ^ 15 := by
  have e : kraft 15 X = sumOn syms (fun s => 2 ^ (16 - C.count s)) := by
   unfold kraft
   rw [List.map_map]
   have : syms.map ((fun x : Nat × Nat => 2 ^ (15 - x.2)) ∘ fun s => (wt s, C.count s - 1)) = syms.map fun s => 2 ^ (16 - C.count s) := List.map_congr_left (fun s hs => by
    have := hone s hs
    show 2 ^ (15 - (C.count s - 1)) = _
    congr 1
    omega)
   rw [this]
   rfl
  rw [e]
  exact hk
 have hXl : X.length = syms.length := List.length_map _
 have hi := D_high hsor far 15 X 2 hXp hX1 hXk
 rw [hXl] at hi
 have hcost : pre (S.map (·.1)) syms.length + cost X = F := by
  have e1 : pre (S.map (·.1)) syms.length = sumOn syms wt := by
   rw [← hws, pre_all, (hS.map (·.1)).sum_nat, List.map_map]
   rfl
  have e2 : cost X = sumOn syms (fun s => wt s * (C.count s - 1)) := by
   unfold cost
   rw [List.map_map]
   rfl
  rw [e1, e2, ← sumOn_add, ← hF]
  refine sumOn_eq (fun s hs => ?_)
  have := hone s hs
  obtain ⟨c, hc⟩ : ∃ c, C.count s = c + 1 := ⟨C.count s - 1, by omega⟩
  rw [hc, Nat.add_sub_cancel, Nat.mul_add]
  omega
 have hlow : D (pre (S.map (·.1))) far 15 (S.map (·.1)).length 2 < far → pre ((P 15).map (·.1)) (2 * (S.map (·.1)).length - 2) ≤ pre (S.map (·.1)) (S.map (·.1)).length + D (pre (S.map (·.1))) far 15 (S.map (·.1)).length 2 := fun hf => low hR far 14 (by omega) hf
 rw [hws] at hlow
 have hlow2 := hlow (by omega)
 show pre (S.map (·.1)) syms.length + _ = F
 have hF2 : F = pre ((P 15).map (·.1)) (2 * syms.length - 2) := rfl
 omega
end Go.Proofs.YtlhggcbpipmjhaaGreatDoor.BM
namespace Go.Proofs.YtlhggcbpipmjhaaGreatDoor.BM
set_option linter.unusedVariables false
set_option linter.unusedSimpArgs false
def singN (cs : List Int) : Nat → List Pack
 | 0 => [(0, [-1])]
 | i + 1 => singN cs i ++ (if 0 < cs.getD i 0 then [((cs.getD i 0).toNat, [(i : Int)])] else [])
theorem singN_mem (cs : List Int) (h : ∀ z ∈ cs, z ≤ 9999) : ∀ i, ∀ p ∈ singN cs i, p.2.length = 1 ∧ p.1 ≤ 9999
 | 0, p, hp => by simp [singN] at hp; subst hp; simp
 | i + 1, p, hp => by
   rw [singN, List.mem_append] at hp
   rcases hp with hp | hp
   ·exact singN_mem cs h i p hp
   ·split at hp
    ·have e : p = ((cs.getD i 0).toNat, [(i : Int)]) := by simpa using hp
     subst e
     refine ⟨rfl, ?_⟩
     rename_i hpos
     rw [List.getD_eq_getElem?_getD] at hpos ⊢
     cases hq : cs[i]? with
     | none => rw [hq] at hpos; simp at hpos
     | some z => have := h z (List.mem_of_getElem? hq); simp; omega
    ·cases hp
inductive Reach (S : List Pack) : Nat → List Pack → Prop
 | zero : Reach S 0 S
 | step {f : Nat} {L L' : List Pack} : Reach S f L → L'.Perm (pairP L ++ S) → (L'.map (·.1)).Pairwise (· ≤ ·) → Reach S (f + 1) L'
def lenF (n : Nat) : Nat → Nat
 | 0 => n
 | f + 1 => lenF n f / 2 + n
theorem lenF_bd (n : Nat) : ∀ f, n ≤ lenF n f ∧ lenF n f ≤ 2 * n
 | 0 => by unfold lenF; omega
 | f + 1 => by have := lenF_bd n f; unfold lenF; omega
theorem lenF_15 : ∀ n, n ≤ 257 → 2 * n - 2 ≤ lenF n 15 := by
 have h : ∀ n : Fin 258, 2 * n.val - 2 ≤ lenF n.val 15 := by decide +kernel
 exact fun n hn => h ⟨n, by omega⟩
theorem pairP_len (L : List Pack) : (pairP L).length = L.length / 2 := by
 have := congrArg List.length (pairP_weights L)
 rw [List.length_map, pairs_len, List.length_map] at this
 exact this
theorem Reach.len {S : List Pack} : ∀ {f L}, Reach S f L → L.length = lenF S.length f
 | _, _, .zero => rfl
 | _, _, .step h hp _ => by rw [hp.length_eq, List.length_append, pairP_len, h.len]; rfl
theorem pairP_mem : ∀ (L : List Pack) (p : Pack), p ∈ pairP L → ∃ x ∈ L, ∃ y ∈ L, p = (x.1 + y.1, x.2 ++ y.2)
 | [], p, h => by simp [pairP] at h
 | [_], p, h => by simp [pairP] at h
 | x :: y :: r, p, h => by
   rw [pairP, List.mem_cons] at h
   rcases h with h | h
   ·exact ⟨x, by simp, y, by simp, h⟩
   ·obtain ⟨a, ha, b, hb, e⟩ := pairP_mem r p h
    exact ⟨a, by simp [ha], b, by simp [hb], e⟩
theorem Reach.bound {S : List Pack} (hS : ∀ p ∈ S, p.2.length ≤ 1 ∧ p.1 ≤ 9999) : ∀ {f L}, Reach S f L → ∀ p ∈ L, p.2.length ≤ 2 ^ f ∧ p.1 ≤ 9999 * 2 ^ f
 | _, _, .zero, p, hp => by have := hS p hp; simpa using this
 | f + 1, _, .step h hp _, p, hm => by
   have hpos : 0 < 2 ^ f := Nat.two_pow_pos f
   have h1 := hp.subset hm
   rw [Nat.pow_succ]
   rcases List.mem_append.1 h1 with h1 | h1
   ·obtain ⟨x, hx, y, hy, e⟩ := pairP_mem _ _ h1
    have a := h.bound hS x hx
    have b := h.bound hS y hy
    subst e
    simp only [List.length_append]
    omega
   ·have := hS p h1
    omega
def nextP (S L : List Pack) : List Pack := (pairP L ++ S).mergeSort (fun a b => decide (a.1 ≤ b.1))
theorem nextP_perm (S L : List Pack) : (nextP S L).Perm (pairP L ++ S) := List.mergeSort_perm _ _
theorem nextP_sorted (S L : List Pack) : ((nextP S L).map (·.1)).Pairwise (· ≤ ·) := by
 rw [List.pairwise_map]
 refine (List.pairwise_mergeSort (le := fun a b : Pack => decide (a.1 ≤ b.1)) (fun a b c h1 h2 => by simp at h1 h2 ⊢; omega) (fun a b => by simp; omega) _).imp ?_
 intro a b h
 simpa using h
def iterP (S L : List Pack) : Nat → List Pack
 | 0 => L
 | g + 1 => nextP S (iterP S L g)
theorem Reach.rows {S : List Pack} (hs : (S.map (·.1)).Pairwise (· ≤ ·)) : ∀ {f L}, Reach S f L → ∃ P, PRows S P ∧ (∀ g, ((P g).map (·.1)).Pairwise (· ≤ ·)) ∧ P f = L
 | _, _, .zero => ⟨iterP S S, ⟨rfl, fun g => nextP_perm S _⟩, fun g => (by cases g with | zero => exact hs | succ g => exact nextP_sorted S _), rfl⟩
 | f + 1, L', .step h hp hso => by
   obtain ⟨P, h1, h2, h3⟩ := h.rows hs
   refine ⟨fun g => if g ≤ f then P g else iterP S L' (g - (f + 1)), ⟨?_, fun g => ?_⟩, fun g => ?_, ?_⟩
   ·show (if 0 ≤ f then P 0 else _) = S
    rw [if_pos (Nat.zero_le _)]; exact h1.zero
   ·show (if g + 1 ≤ f then P (g + 1) else iterP S L' (g + 1 - (f + 1))).Perm (pairP (if g ≤ f then P g else iterP S L' (g - (f + 1))) ++ S)
    by_cases hg : g + 1 ≤ f
    ·rw [if_pos hg, if_pos (by omega)]; exact h1.next g
    ·rw [if_neg hg]
     by_cases hg2 : g ≤ f
     ·obtain rfl : g = f := by omega
      rw [if_pos (Nat.le_refl _), h3, show g + 1 - (g + 1) = 0 by omega]
      exact hp
     ·rw [if_neg hg2, show g + 1 - (f + 1) = (g - (f + 1)) + 1 by omega]
      exact nextP_perm S _
   ·show ((if g ≤ f then P g else iterP S L' (g - (f + 1))).map (·.1)).Pairwise (· ≤ ·)
    split
    ·exact h2 g
    ·cases g - (f + 1) with
     | zero => exact hso
     | succ q => exact nextP_sorted S _
   ·show (if f + 1 ≤ f then _ else iterP S L' (f + 1 - (f + 1))) = L'
    rw [if_neg (by omega), Nat.sub_self]
    rfl
theorem pairP_get : ∀ (L : List Pack) (j : Nat) (h : 2 * j + 1 < L.length), (pairP L)[j]? = some ((L[2 * j]'(by omega)).1 + L[2 * j + 1].1, (L[2 * j]'(by omega)).2 ++ L[2 * j + 1].2)
 | [], j, h => by simp at h
 | [_], j, h => by simp at h
 | x :: y :: r, 0, h => by simp [pairP]
 | x :: y :: r, j + 1, h => by
   have := pairP_get r j (by simp at h; omega)
   rw [pairP, List.getElem?_cons_succ, this]
   simp [show 2 * (j + 1) = 2 * j + 1 + 1 by omega]
theorem pairP_take {L : List Pack} {j : Nat} (h : 2 * j + 1 < L.length) : (pairP L).take (j + 1) = (pairP L).take j ++ [((L[2 * j]'(by omega)).1 + L[2 * j + 1].1, (L[2 * j]'(by omega)).2 ++ L[2 * j + 1].2)] := by
 have hg := pairP_get L j h
 obtain ⟨hj, e⟩ := List.getElem?_eq_some_iff.1 hg
 rw [List.take_succ_eq_append_getElem hj, e]
def filt (f : Int → Nat) (k i : Nat) : List Int := ((List.range i).map Int.ofNat).filter fun s => decide (f s = k + 1)
theorem filt_succ (f : Int → Nat) (k i : Nat) : filt f k (i + 1) = filt f k i ++ (if f (i : Int) = k + 1 then [(i : Int)] else []) := by
 unfold filt
 rw [List.range_succ, List.map_append, List.filter_append]
 congr 1
 by_cases h : f (i : Int) = k + 1
 ·simp [h]
 ·simp [h]
theorem filt_len (f : Int → Nat) (k i : Nat) : (filt f k i).length ≤ i := by
 unfold filt
 exact Nat.le_trans (List.length_filter_le _ _) (by simp)
def csN (f : Int → Nat) (n k i : Nat) : List Int := (List.range 16).map fun j => if j < k then ((filt f j n).length : Int) else if j = k then ((filt f k i).length : Int) else 0
def xsN (f : Int → Nat) (n k i : Nat) : List Int := (List.range k).flatMap (fun j => filt f j n) ++ filt f k i
theorem csN_len (f : Int → Nat) (n k i : Nat) : (csN f n k i).length = 16 := by simp [csN]
theorem csN_zero (f : Int → Nat) (n : Nat) : csN f n 0 0 = List.replicate 16 0 := by
 rw [List.eq_replicate_iff]
 refine ⟨csN_len f n 0 0, fun b hb => ?_⟩
 obtain ⟨j, -, rfl⟩ := List.mem_map.1 hb
 simp [filt]
theorem csN_next (f : Int → Nat) (n k : Nat) : csN f n k n = csN f n (k + 1) 0 := by
 unfold csN
 refine List.map_congr_left fun j _ => ?_
 by_cases h1 : j < k
 ·rw [if_pos h1, if_pos (by omega)]
 ·rw [if_neg h1]
  by_cases h2 : j = k
  ·rw [if_pos h2, if_pos (by omega), h2]
  ·rw [if_neg h2, if_neg (by omega)]
   split
   ·simp [filt]
   ·rfl
theorem csN_get (f : Int → Nat) (n k i j : Nat) (hj : j < (csN f n k i).length) : (csN f n k i)[j] = if j < k then ((filt f j n).length : Int) else if j = k then ((filt f k i).length : Int) else 0 := by
 simp [csN]
theorem csN_at (f : Int → Nat) (n k i : Nat) (hk : k < 16) : (csN f n k i)[k]'(by rw [csN_len]; exact hk) = ((filt f k i).length : Int) := by
 simp [csN]
theorem csN_keep (f : Int → Nat) (n k i : Nat) (h : f (i : Int) ≠ k + 1) : csN f n k (i + 1) = csN f n k i := by
 unfold csN
 rw [filt_succ, if_neg h, List.append_nil]
theorem csN_set (f : Int → Nat) (n k i : Nat) (h : f (i : Int) = k + 1) : (csN f n k i).set k (((filt f k i).length : Int) + 1) = csN f n k (i + 1) := by
 apply List.ext_getElem
 ·rw [List.length_set, csN_len, csN_len]
 ·intro j h1 h2
  rw [List.getElem_set, csN_get, csN_get]
  by_cases hj : k = j
  ·subst hj
   rw [if_pos rfl, if_neg (by omega), if_pos rfl, filt_succ, if_pos h, List.length_append]
   simp
  ·rw [if_neg hj]
   by_cases h1 : j < k
   ·rw [if_pos h1, if_pos h1]
   ·rw [if_neg h1, if_neg h1, if_neg (by omega), if_neg (by omega)]
theorem xsN_next (f : Int → Nat) (n k : Nat) : xsN f n k n = xsN f n (k + 1) 0 := by
 unfold xsN
 rw [List.range_succ, List.flatMap_append]
 simp [filt]
theorem xsN_keep (f : Int → Nat) (n k i : Nat) (h : f (i : Int) ≠ k + 1) : xsN f n k (i + 1) = xsN f n k i := by
 unfold xsN
 rw [filt_succ, if_neg h, List.append_nil]
theorem xsN_snoc (f : Int → Nat) (n k i : Nat) (h : f (i : Int) = k + 1) : xsN f n k (i + 1) = xsN f n k i ++ [(i : Int)] := by
 unfold xsN
 rw [filt_succ, if_pos h, List.append_assoc]
theorem xsN_len (f : Int → Nat) (n : Nat) : ∀ k i, (xsN f n k i).length ≤ k * n + i
 | k, i => by
   unfold xsN
   rw [List.length_append]
   have h1 : ∀ k, ((List.range k).flatMap (fun j => filt f j n)).length ≤ k * n := fun k => by
    induction k with
    | zero => simp
    | succ k ih =>
      rw [List.range_succ, List.flatMap_append, List.length_append, Nat.add_mul, Nat.one_mul]
      have := filt_len f k n
      simp
      simp at ih
      omega
   have := h1 k
   have := filt_len f k i
   omega
def Made (counts cs xs : List Int) : Prop :=
 ∃ S L, S.Perm (singN counts counts.length) ∧ (S.map (·.1)).Pairwise (· ≤ ·) ∧ Reach S 15 L ∧
  cs = csN (fun s => (cont (L.take (2 * S.length - 2))).count s) counts.length 16 0 ∧ xs = xsN (fun s => (cont (L.take (2 * S.length - 2))).count s) counts.length 16 0
end Go.Proofs.YtlhggcbpipmjhaaGreatDoor.BM
