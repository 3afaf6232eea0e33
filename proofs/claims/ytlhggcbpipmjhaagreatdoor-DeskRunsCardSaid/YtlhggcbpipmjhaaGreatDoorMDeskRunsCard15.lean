/- Contracts for the law DeskRunsCard, part 15: what the functions that it reaches answer, for all arguments that the theorems name. -/
import Derived.Test.YtlhggcbpipmjhaaGreatDoorMDeskRunsCard14
namespace Go.Proofs.YtlhggcbpipmjhaaGreatDoor.SM
set_option linter.unusedVariables false
set_option linter.unusedSimpArgs false
section
variable {α : Type} (d : α) (wt : α → Int)
theorem rot_seg {L N : List α} {a m b : Nat} (h : N.Perm L ∧ ∀ x, at_ d N x = rotAt d L a m b x) (h1 : a ≤ m) (h2 : m ≤ b) : Seg d L N a b :=
 ⟨h.1, fun x hx => by rw [h.2]; unfold rotAt; rw [if_neg (by omega)], fun x p q => by
  rw [h.2]
  unfold rotAt
  rw [if_pos ⟨p, q⟩]
  split
  ·exact ⟨_, by omega, by omega, rfl⟩
  ·exact ⟨_, by omega, by omega, rfl⟩⟩
structure Found (M : List α) (a m b mid s : Nat) : Prop where
 lo : (if mid < m then mid + m - b else a) ≤ s
 hi : s ≤ (if mid < m then mid else m)
 below : s = (if mid < m then mid + m - b else a) ∨ wA d wt M (s - 1) ≤ wA d wt M (mid + m - s)
 above : s = (if mid < m then mid else m) ∨ wA d wt M (mid + m - s - 1) ≤ wA d wt M s
theorem Found.at_ {M : List α} {a m b mid s : Nat} (ham : a < m) (hmb : m < b) (k1 : 2 * mid ≤ a + b) (k2 : a + b < 2 * mid + 2) (h : Found d wt M a m b mid s) :
 (s ≤ m ∧ a ≤ s ∧ s ≤ mid ∧ mid + m - s ≤ b ∧ m ≤ mid + m - s) ∧ ((s = a ∨ mid + m - s = b) ∨ wA d wt M (s - 1) ≤ wA d wt M (mid + m - s)) ∧ ((s = m ∨ mid + m - s = m) ∨ wA d wt M (mid + m - s - 1) ≤ wA d wt M s) := by
 obtain ⟨lo, hi, bel, abv⟩ := h
 by_cases hq : mid < m
 ·rw [if_pos hq] at lo hi bel abv
  refine ⟨by omega, ?_, ?_⟩
  ·rcases bel with h | h
   ·exact .inl (.inr (by omega))
   ·exact .inr h
  ·rcases abv with h | h
   ·exact .inl (.inr (by omega))
   ·exact .inr h
 ·rw [if_neg hq] at lo hi bel abv
  refine ⟨by omega, ?_, ?_⟩
  ·rcases bel with h | h
   ·exact .inl (.inl (by omega))
   ·exact .inr h
  ·rcases abv with h | h
   ·exact .inl (.inl (by omega))
   ·exact .inr h
theorem halves {M N : List α} {a m b mid s : Nat} (ham : a < m) (hmb : m < b) (k1 : 2 * mid ≤ a + b) (k2 : a + b < 2 * mid + 2) (h1 : Sorted d wt M a m) (h2 : Sorted d wt M m b) (hf : Found d wt M a m b mid s) (hN : ∀ x, at_ d N x = rotAt d M s m (mid + m - s) x) :
 Sorted d wt N a s ∧ Sorted d wt N s mid ∧ Sorted d wt N mid (mid + m - s) ∧ Sorted d wt N (mid + m - s) b ∧
 ∀ x y, a ≤ x → x < mid → mid ≤ y → y < b → wA d wt N x ≤ wA d wt N y := by
 obtain ⟨⟨c1, c2, c3, c4, c5⟩, bel, abv⟩ := hf.at_ d wt ham hmb k1 k2
 have hm1 : a ≤ mid := by omega
 have hm2 : mid < b := by omega
 obtain ⟨e, he⟩ : ∃ e, mid + m - s = e := ⟨_, rfl⟩
 rw [he] at hN bel abv c4 c5
 rw [he]
 have hes : e - m = mid - s := by omega
 -- what N holds
 have n1 : ∀ x, x < s → wA d wt N x = wA d wt M x := fun x hx => by unfold wA; rw [hN]; unfold rotAt; rw [if_neg (by omega)]
 have n2 : ∀ x, s ≤ x → x < mid → wA d wt N x = wA d wt M (m + (x - s)) := fun x h1 h2 => by unfold wA; rw [hN]; unfold rotAt; rw [if_pos (by omega), if_pos (by omega)]
 have n3 : ∀ x, mid ≤ x → x < e → wA d wt N x = wA d wt M (s + (x - mid)) := fun x h1 h2 => by
  unfold wA; rw [hN]; unfold rotAt; rw [if_pos (by omega), if_neg (by omega)]
  congr 2
  omega
 have n4 : ∀ x, e ≤ x → wA d wt N x = wA d wt M x := fun x hx => by unfold wA; rw [hN]; unfold rotAt; rw [if_neg (by omega)]
 have b1 : ∀ x y, a ≤ x → x < s → e ≤ y → y < b → wA d wt M x ≤ wA d wt M y := fun x y p q r t => by
  rcases bel with h | h
  ·exfalso
   omega
  ·have q1 : wA d wt M x ≤ wA d wt M (s - 1) := by
    by_cases hx : x = s - 1
    ·rw [hx]; exact Int.le_refl _
    ·exact h1 x (s - 1) p (by omega) (by omega)
   have q2 : wA d wt M e ≤ wA d wt M y := by
    by_cases hy : y = e
    ·rw [hy]; exact Int.le_refl _
    ·exact h2 e y (by omega) (by omega) t
   omega
 have b2 : ∀ x y, m ≤ x → x < e → s ≤ y → y < m → wA d wt M x ≤ wA d wt M y := fun x y p q r t => by
  rcases abv with h | h
  ·exfalso
   omega
  ·have q1 : wA d wt M x ≤ wA d wt M (e - 1) := by
    by_cases hx : x = e - 1
    ·rw [hx]; exact Int.le_refl _
    ·exact h2 x (e - 1) p (by omega) (by omega)
   have q2 : wA d wt M s ≤ wA d wt M y := by
    by_cases hy : y = s
    ·rw [hy]; exact Int.le_refl _
    ·exact h1 s y (by omega) (by omega) t
   omega
 refine ⟨fun x y p q r => ?_, fun x y p q r => ?_, fun x y p q r => ?_, fun x y p q r => ?_, fun x y p q r t => ?_⟩
 ·rw [n1 x (by omega), n1 y r]; exact h1 x y p q (by omega)
 ·rw [n2 x p (by omega), n2 y (by omega) r]; exact h2 _ _ (by omega) (by omega) (by omega)
 ·rw [n3 x p (by omega), n3 y (by omega) r]; exact h1 _ _ (by omega) (by omega) (by omega)
 ·rw [n4 x p, n4 y (by omega)]; exact h2 x y (by omega) q r
 ·by_cases hx : x < s <;> by_cases hy : y < e
  ·rw [n1 x hx, n3 y r hy]; by_cases hxy : x = s + (y - mid)
   ·rw [hxy]; exact Int.le_refl _
   ·exact h1 _ _ p (by omega) (by omega)
  ·rw [n1 x hx, n4 y (by omega)]; exact b1 x y p hx (by omega) t
  ·rw [n2 x (by omega) q, n3 y r hy]; exact b2 _ _ (by omega) (by omega) (by omega) (by omega)
  ·rw [n2 x (by omega) q, n4 y (by omega)]; by_cases hxy : m + (x - s) = y
   ·rw [hxy]; exact Int.le_refl _
   ·exact h2 _ _ (by omega) (by omega) t
theorem halves_sorted {N N1 N2 : List α} {a mid b : Nat} (hc : ∀ x y, a ≤ x → x < mid → mid ≤ y → y < b → wA d wt N x ≤ wA d wt N y) (k1 : Seg d N N1 a mid) (s1 : Sorted d wt N1 a mid) (k2 : Seg d N1 N2 mid b) (s2 : Sorted d wt N2 mid b) (hm1 : a ≤ mid) (hm2 : mid ≤ b) : Sorted d wt N2 a b := by
 refine Sorted.join d wt (s1.of_out d wt k2 (.inl (Nat.le_refl _))) s2 (fun x y p q r t => ?_)
 obtain ⟨x', p1, p2, e1⟩ := k1.val x p q
 obtain ⟨y', q1, q2, e2⟩ := k2.val y r t
 have f1 : wA d wt N2 x = wA d wt N x' := by unfold wA; rw [k2.out x (by omega), e1]
 have f2 : wA d wt N2 y = wA d wt N y' := by unfold wA; rw [e2, k1.out y' (by omega)]
 rw [f1, f2]
 exact hc x' y' p1 p2 q1 q2
structure GoneUp (L M : List α) (a k : Nat) : Prop where
 perm : M.Perm L
 at_ : ∀ x, at_ d M x = if x = k then SM.at_ d L a else if a ≤ x ∧ x < k then SM.at_ d L (x + 1) else SM.at_ d L x
theorem GoneUp.start (L : List α) (a : Nat) : GoneUp d L L a a := ⟨.refl _, fun x => by
 by_cases h : x = a
 ·rw [if_pos h, h]
 ·rw [if_neg h, if_neg (by omega)]⟩
theorem GoneUp.step {L M : List α} {a k : Nat} (h : GoneUp d L M a k) (hak : a ≤ k) (hk : k + 1 < L.length) : GoneUp d L (swp d M k (k + 1)) a (k + 1) := by
 have hl := h.perm.length_eq
 refine ⟨(swp_perm d M _ _ (by omega) (by omega)).trans h.perm, fun x => ?_⟩
 rw [at_swp d M _ _ x (by omega) (by omega)]
 by_cases h1 : x = k + 1
 ·rw [if_pos h1, if_pos h1, h.at_, if_pos rfl]
 ·rw [if_neg h1, if_neg h1]
  by_cases h2 : x = k
  ·rw [if_pos h2, if_pos (by omega), h.at_, if_neg (by omega), if_neg (by omega), h2]
  ·rw [if_neg h2, h.at_, if_neg h2]
   by_cases h3 : a ≤ x ∧ x < k
   ·rw [if_pos h3, if_pos (by omega)]
   ·rw [if_neg h3, if_neg (by omega)]
theorem GoneUp.seg {L M : List α} {a k b : Nat} (h : GoneUp d L M a k) (hak : a ≤ k) (hk : k < b) : Seg d L M a b :=
 ⟨h.perm, fun x hx => by rw [h.at_, if_neg (by omega), if_neg (by omega)], fun x p q => by
  rw [h.at_]
  split
  ·exact ⟨a, by omega, by omega, rfl⟩
  ·split
   ·exact ⟨x + 1, by omega, by omega, rfl⟩
   ·exact ⟨x, p, q, rfl⟩⟩
theorem GoneUp.sorted {L M : List α} {a b i : Nat} (hs : Sorted d wt L (a + 1) b) (hi : a + 1 ≤ i) (hib : i ≤ b) (h1 : i = a + 1 ∨ wA d wt L (i - 1) ≤ wA d wt L a) (h2 : i = b ∨ wA d wt L a ≤ wA d wt L i) (h : GoneUp d L M a (i - 1)) : Sorted d wt M a b := by
 have hw : ∀ x, wA d wt M x = if x = i - 1 then wA d wt L a else if a ≤ x ∧ x < i - 1 then wA d wt L (x + 1) else wA d wt L x := fun x => by
  unfold wA
  rw [h.at_]
  split
  ·rfl
  ·split <;> rfl
 have lo : ∀ x, a < x → x < i → wA d wt L x ≤ wA d wt L a := fun x p q => by
  rcases h1 with h1 | h1
  ·omega
  ·by_cases hx : x = i - 1
   ·rw [hx]; exact h1
   ·exact Int.le_trans (hs x (i - 1) (by omega) (by omega) (by omega)) h1
 have hi' : ∀ y, i ≤ y → y < b → wA d wt L a ≤ wA d wt L y := fun y p q => by
  rcases h2 with h2 | h2
  ·omega
  ·by_cases hy : y = i
   ·rw [hy]; exact h2
   ·exact Int.le_trans h2 (hs i y (by omega) (by omega) q)
 intro x y p q r
 rw [hw, hw]
 by_cases hx : x = i - 1
 ·rw [if_pos hx, if_neg (by omega), if_neg (by omega)]
  exact hi' y (by omega) r
 ·rw [if_neg hx]
  by_cases hx2 : x < i - 1
  ·rw [if_pos ⟨p, hx2⟩]
   by_cases hy : y = i - 1
   ·rw [if_pos hy]
    exact lo (x + 1) (by omega) (by omega)
   ·rw [if_neg hy]
    by_cases hy2 : y < i - 1
    ·rw [if_pos ⟨by omega, hy2⟩]
     exact hs _ _ (by omega) (by omega) (by omega)
    ·rw [if_neg (by omega)]
     exact hs _ _ (by omega) (by omega) r
  ·rw [if_neg (by omega), if_neg (by omega), if_neg (by omega)]
   exact hs _ _ (by omega) q r
structure GoneDown (L M : List α) (m k : Nat) : Prop where
 perm : M.Perm L
 at_ : ∀ x, at_ d M x = if x = k then SM.at_ d L m else if k < x ∧ x ≤ m then SM.at_ d L (x - 1) else SM.at_ d L x
theorem GoneDown.start (L : List α) (m : Nat) : GoneDown d L L m m := ⟨.refl _, fun x => by
 by_cases h : x = m
 ·rw [if_pos h, h]
 ·rw [if_neg h, if_neg (by omega)]⟩
theorem GoneDown.step {L M : List α} {m k : Nat} (h : GoneDown d L M m k) (hk0 : 0 < k) (hkm : k ≤ m) (hm : m < L.length) : GoneDown d L (swp d M k (k - 1)) m (k - 1) := by
 have hl := h.perm.length_eq
 refine ⟨(swp_perm d M _ _ (by omega) (by omega)).trans h.perm, fun x => ?_⟩
 rw [at_swp d M _ _ x (by omega) (by omega)]
 by_cases h1 : x = k - 1
 ·rw [if_pos h1, if_pos h1, h.at_, if_pos rfl]
 ·rw [if_neg h1, if_neg h1]
  by_cases h2 : x = k
  ·rw [if_pos h2, if_pos (by omega), h.at_, if_neg (by omega), if_neg (by omega), h2]
  ·rw [if_neg h2, h.at_, if_neg h2]
   by_cases h3 : k < x ∧ x ≤ m
   ·rw [if_pos h3, if_pos (by omega)]
   ·rw [if_neg h3, if_neg (by omega)]
theorem GoneDown.seg {L M : List α} {a m k b : Nat} (h : GoneDown d L M m k) (hak : a ≤ k) (hkm : k ≤ m) (hm : m < b) : Seg d L M a b :=
 ⟨h.perm, fun x hx => by rw [h.at_, if_neg (by omega), if_neg (by omega)], fun x p q => by
  rw [h.at_]
  split
  ·exact ⟨m, by omega, by omega, rfl⟩
  ·split
   ·exact ⟨x - 1, by omega, by omega, rfl⟩
   ·exact ⟨x, p, q, rfl⟩⟩
theorem GoneDown.sorted {L M : List α} {a m i : Nat} (hs : Sorted d wt L a m) (hi : a ≤ i) (him : i ≤ m) (h1 : i = a ∨ wA d wt L (i - 1) ≤ wA d wt L m) (h2 : i = m ∨ wA d wt L m ≤ wA d wt L i) (h : GoneDown d L M m i) : Sorted d wt M a (m + 1) := by
 have hw : ∀ x, wA d wt M x = if x = i then wA d wt L m else if i < x ∧ x ≤ m then wA d wt L (x - 1) else wA d wt L x := fun x => by
  unfold wA
  rw [h.at_]
  split
  ·rfl
  ·split <;> rfl
 have lo : ∀ x, a ≤ x → x < i → wA d wt L x ≤ wA d wt L m := fun x p q => by
  rcases h1 with h1 | h1
  ·omega
  ·by_cases hx : x = i - 1
   ·rw [hx]; exact h1
   ·exact Int.le_trans (hs x (i - 1) (by omega) (by omega) (by omega)) h1
 have hi' : ∀ y, i ≤ y → y < m → wA d wt L m ≤ wA d wt L y := fun y p q => by
  rcases h2 with h2 | h2
  ·omega
  ·by_cases hy : y = i
   ·rw [hy]; exact h2
   ·exact Int.le_trans h2 (hs i y (by omega) (by omega) q)
 intro x y p q r
 rw [hw, hw]
 by_cases hx : x = i
 ·rw [if_pos hx, if_neg (by omega), if_pos (by omega)]
  exact hi' (y - 1) (by omega) (by omega)
 ·rw [if_neg hx]
  by_cases hx2 : i < x
  ·rw [if_pos (by omega), if_neg (by omega), if_pos (by omega)]
   exact hs _ _ (by omega) (by omega) (by omega)
  ·rw [if_neg (by omega)]
   by_cases hy : y = i
   ·rw [if_pos hy]
    exact lo x p (by omega)
   ·rw [if_neg hy]
    by_cases hy2 : i < y
    ·rw [if_pos (by omega)]
     by_cases hxy : x = y - 1
     ·omega
     ·exact hs _ _ p (by omega) (by omega)
    ·rw [if_neg (by omega)]
     exact hs _ _ p q (by omega)
end
end Go.Proofs.YtlhggcbpipmjhaaGreatDoor.SM
namespace Go.Proofs.YtlhggcbpipmjhaaGreatDoor
set_option linter.unusedVariables false
set_option linter.unusedSimpArgs false
open Go.RowKit
section
open SM
set_option maxRecDepth 20000 in
set_option maxHeartbeats 16000000 in
theorem symL_any (gd : Nat) (L : List Pk) (tl : List Value) (n c a b : Nat) (w : World) (hn : L.length = n) (hn2 : n ≤ 1000000) (hab : a + 1 < b) (hbn : b ≤ n) (hone : OnesP L) (hD : DS w gd L tl) (h2 : Sorted pk0 pw L (a + 1) b) :
 Calls Tryz.prog 150 #[.slice (some ⟨gd, 0, none⟩) n c, .int .i64 (a : Int), .int .i64 ((a + 1 : Nat) : Int), .int .i64 (b : Int), .func (.func 105) #[] #[]] w (SortIs gd L tl a b w) := by
 have HN := hid_ hn
 have HONE := hid_ hone
 have HS2 := hid_ h2
 clear hn hone h2
 go_enter Tryz.func150, Tryz.ntmps150
 go_upto_region 3 with (first
  | ((with_reducible apply gS 27); refine wl_run rfl (.int .i64 ((a + 1 - a : Nat) : Int)) (ex_subN rfl rfl rfl (by omega) (by omega)) ?_)
  | ((with_reducible apply gS 28); refine wl_run rfl (.bool true) (ex_eql rfl rfl rfl (by simp)) ?_))
 go_loopw [10, 11] (fun iv jv wr => ∃ (i j : Nat), a + 1 ≤ i ∧ i ≤ j ∧ j ≤ b ∧ iv = .int .i64 (i : Int) ∧ jv = .int .i64 (j : Int) ∧ DS wr gd L tl ∧ (i = a + 1 ∨ wA pk0 pw L (i - 1) ≤ wA pk0 pw L a) ∧ (j = b ∨ wA pk0 pw L a ≤ wA pk0 pw L j) ∧ Upd (fun x => x = gd) w wr) (fun i j _ => (intOf j).toNat - (intOf i).toNat)
 case atStart => exact ⟨a + 1, b, by omega, by omega, by omega, rfl, rfl, hD, .inl rfl, .inl rfl, Upd.refl _ w⟩
 case round =>
  clear hD
  obtain ⟨i, j, hai, hij, hjb, rfl, rfl, hD, hlo, hhi, hu⟩ := hrel
  have hml := HN.out
  by_cases hlt : i < j
  ·have hDd : DS wr.drew gd L tl := Blk.drew hD
   obtain ⟨h, hh, hh1, hh2⟩ : ∃ h, (i + j) / 2 = h ∧ i ≤ h ∧ h < j := ⟨_, rfl, by omega, by omega⟩
   by_cases hls : wA pk0 pw L h < wA pk0 pw L a
   ·have hB : decide (cmpZ (L[h]'(by omega)).1 (L[a]'(by omega)).1 < 0) = true := by
     rw [less_cmp, ← wA_get L h (by omega), ← wA_get L a (by omega)]
     simpa using hls
    go_wp2_with (first
     | ((with_reducible apply gS 33); refine wl_run rfl (.bool true) (ex_lss rfl rfl rfl (by simpa using hlt)) ?_)
     | ((with_reducible apply gS 36); refine wl_run rfl (.int .i64 ((i + j : Nat) : Int)) (ex_addN rfl rfl rfl (by omega)) ?_)
     | ((with_reducible apply gS 37); refine wl_run rfl (.int .u64 ((i + j : Nat) : Int)) (ex_toU rfl rfl (by omega)) ?_)
     | ((with_reducible apply gS 38); refine wl_run rfl (.int .u64 ((h : Nat) : Int)) (by rw [← hh]; exact ex_halfU rfl rfl rfl) ?_)
     | ((with_reducible apply gS 39); refine wl_run rfl (.int .i64 ((h : Nat) : Int)) (ex_ofU rfl rfl (by omega)) ?_))
    refine wp_region_lx later_ext (by kernel_rfl) (by kernel_rfl) ?_
    refine lx_run (by rfl) (.func (.func 105) #[] #[]) (ex_move rfl rfl) ?_
    simp only [Act.put, sA, sB, sC]
    refine lx_run (by rfl) (.slice (some ⟨gd, 0, none⟩) n c) (ex_move rfl rfl) ?_
    simp only [Act.put, sA, sB, sC]
    refine lx_run (by rfl) (.int .i64 ((h : Nat) : Int)) (ex_move rfl rfl) ?_
    simp only [Act.put, sA, sB, sC]
    refine lx_run (by rfl) (.pointer (some ⟨gd, (h) * 2, none⟩)) (ex_ixPk rfl rfl rfl (by omega)) ?_
    simp only [Act.put, sA, sB, sC]
    refine lx_read (by rfl) (.agg (pkV (L[h]'(by omega)))) (fun W hW => ex_loadPk rfl (hDd.ext hW) (by omega) rfl) ?_
    simp only [Act.put, sA, sB, sC]
    refine lx_run (by rfl) (.slice (some ⟨gd, 0, none⟩) n c) (ex_move rfl rfl) ?_
    simp only [Act.put, sA, sB, sC]
    refine lx_run (by rfl) (.int .i64 ((a : Nat) : Int)) (ex_move rfl rfl) ?_
    simp only [Act.put, sA, sB, sC]
    refine lx_run (by rfl) (.pointer (some ⟨gd, (a) * 2, none⟩)) (ex_ixPk rfl rfl rfl (by omega)) ?_
    simp only [Act.put, sA, sB, sC]
    refine lx_read (by rfl) (.agg (pkV (L[a]'(by omega)))) (fun W hW => ex_loadPk rfl (hDd.ext hW) (by omega) rfl) ?_
    simp only [Act.put, sA, sB, sC]
    refine lx_callV (by rfl) _ _ _ rfl rfl goesBy #[.agg (pkV (L[h]'(by omega))), .agg (pkV (L[a]'(by omega)))] (by simp [Act.eval]) (.int .i64 (cmpZ (L[h]'(by omega)).1 (L[a]'(by omega)).1)) (fun W h => byWeight_any _ _ W) ?_
    simp only [Act.put, sA, sB, sC]
    refine lx_run (by rfl) (.bool true) (ex_lss rfl rfl rfl hB) ?_
    simp only [Act.put, sA, sB, sC]
    refine lx_nil ?_
    intro w4 hx4
    have hD4 := hDd.ext hx4
    have hu4 : Upd (fun x => x = gd) w w4 := hu.drew.trans (Upd.of_ext (S := fun _ => False) hx4) (fun _ h => h.elim)
    go_wp2_with ((with_reducible apply gS 52); refine wl_run rfl (.int .i64 ((h + 1 : Nat) : Int)) (ex_addN (i := h) (d := 1) rfl rfl rfl (by omega)) ?_)
    go_roundw
    case rel => exact ⟨h + 1, j, by omega, by omega, hjb, by go_num, rfl, hD4, .inr (by rw [Nat.add_sub_cancel]; omega), hhi, hu4⟩
    case measure => simp [intOf]; omega
   ·have hB : decide (cmpZ (L[h]'(by omega)).1 (L[a]'(by omega)).1 < 0) = false := by
     rw [less_cmp, ← wA_get L h (by omega), ← wA_get L a (by omega)]
     simpa using hls
    go_wp2_with (first
     | ((with_reducible apply gS 33); refine wl_run rfl (.bool true) (ex_lss rfl rfl rfl (by simpa using hlt)) ?_)
     | ((with_reducible apply gS 36); refine wl_run rfl (.int .i64 ((i + j : Nat) : Int)) (ex_addN rfl rfl rfl (by omega)) ?_)
     | ((with_reducible apply gS 37); refine wl_run rfl (.int .u64 ((i + j : Nat) : Int)) (ex_toU rfl rfl (by omega)) ?_)
     | ((with_reducible apply gS 38); refine wl_run rfl (.int .u64 ((h : Nat) : Int)) (by rw [← hh]; exact ex_halfU rfl rfl rfl) ?_)
     | ((with_reducible apply gS 39); refine wl_run rfl (.int .i64 ((h : Nat) : Int)) (ex_ofU rfl rfl (by omega)) ?_))
    refine wp_region_lx later_ext (by kernel_rfl) (by kernel_rfl) ?_
    refine lx_run (by rfl) (.func (.func 105) #[] #[]) (ex_move rfl rfl) ?_
    simp only [Act.put, sA, sB, sC]
    refine lx_run (by rfl) (.slice (some ⟨gd, 0, none⟩) n c) (ex_move rfl rfl) ?_
    simp only [Act.put, sA, sB, sC]
    refine lx_run (by rfl) (.int .i64 ((h : Nat) : Int)) (ex_move rfl rfl) ?_
    simp only [Act.put, sA, sB, sC]
    refine lx_run (by rfl) (.pointer (some ⟨gd, (h) * 2, none⟩)) (ex_ixPk rfl rfl rfl (by omega)) ?_
    simp only [Act.put, sA, sB, sC]
    refine lx_read (by rfl) (.agg (pkV (L[h]'(by omega)))) (fun W hW => ex_loadPk rfl (hDd.ext hW) (by omega) rfl) ?_
    simp only [Act.put, sA, sB, sC]
    refine lx_run (by rfl) (.slice (some ⟨gd, 0, none⟩) n c) (ex_move rfl rfl) ?_
    simp only [Act.put, sA, sB, sC]
    refine lx_run (by rfl) (.int .i64 ((a : Nat) : Int)) (ex_move rfl rfl) ?_
    simp only [Act.put, sA, sB, sC]
    refine lx_run (by rfl) (.pointer (some ⟨gd, (a) * 2, none⟩)) (ex_ixPk rfl rfl rfl (by omega)) ?_
    simp only [Act.put, sA, sB, sC]
    refine lx_read (by rfl) (.agg (pkV (L[a]'(by omega)))) (fun W hW => ex_loadPk rfl (hDd.ext hW) (by omega) rfl) ?_
    simp only [Act.put, sA, sB, sC]
    refine lx_callV (by rfl) _ _ _ rfl rfl goesBy #[.agg (pkV (L[h]'(by omega))), .agg (pkV (L[a]'(by omega)))] (by simp [Act.eval]) (.int .i64 (cmpZ (L[h]'(by omega)).1 (L[a]'(by omega)).1)) (fun W h => byWeight_any _ _ W) ?_
    simp only [Act.put, sA, sB, sC]
    refine lx_run (by rfl) (.bool false) (ex_lss rfl rfl rfl hB) ?_
    simp only [Act.put, sA, sB, sC]
    refine lx_nil ?_
    intro w4 hx4
    have hD4 := hDd.ext hx4
    have hu4 : Upd (fun x => x = gd) w w4 := hu.drew.trans (Upd.of_ext (S := fun _ => False) hx4) (fun _ h => h.elim)
    go_wp2_with fail
    go_roundw
    case rel => exact ⟨i, h, hai, by omega, by omega, rfl, rfl, hD4, hlo, .inr (by omega), hu4⟩
    case measure => simp [intOf]; omega
  ·obtain rfl : i = j := by omega
   have hg0 := GoneUp.start pk0 L a
   go_upto_region 9 with ((with_reducible apply gS 33); refine wl_run rfl (.bool false) (ex_lss rfl rfl rfl (by simp)) ?_)
   go_loopw [13] (fun kv wr => ∃ (k : Nat) (M : List Pk), a ≤ k ∧ k ≤ i - 1 ∧ kv = .int .i64 (k : Int) ∧ DS wr gd M tl ∧ GoneUp pk0 L M a k ∧ Upd (fun x => x = gd) w wr) (fun k _ => i - (intOf k).toNat)
   case atStart => exact ⟨a, L, by omega, by omega, rfl, hD, hg0, hu⟩
   case round =>
    clear hD hg0 hu
    obtain ⟨k, M, hak, hki, rfl, hD, hg, hu⟩ := hrel
    have hMl : M.length = n := hg.perm.length_eq.trans HN.out
    have hone := HONE.out.perm hg.perm
    by_cases hlk : k < i - 1
    ·go_wp2_with (first
      | ((with_reducible apply gS 57); refine wl_run rfl (.int .i64 ((i - 1 : Nat) : Int)) (ex_subN (i := i) (d := 1) rfl rfl rfl (by omega) (by omega)) ?_)
      | ((with_reducible apply gS 58); refine wl_run rfl (.bool true) (ex_lss rfl rfl rfl (by simpa using hlk)) ?_))
     have hDD : DS wr.drew gd M tl := Blk.drew hD
     have hu4 := hu.drew
     refine wp_region_of (fun k => k == 9 || k == 13) (fun W => DS W gd M tl) (by kernel_rfl) ?_
     refine og_pure (k := 0) (by kernel_rfl) rfl (by rfl) (.slice (some ⟨gd, 0, none⟩) n c) (ex_move rfl rfl) ?_
     simp only [Act.put, sA, sB, sC]
     refine og_pure (k := 1) (by kernel_rfl) rfl (by rfl) (.int .i64 ((k : Nat) : Int)) (ex_move rfl rfl) ?_
     simp only [Act.put, sA, sB, sC]
     refine og_pure (k := 2) (by kernel_rfl) rfl (by rfl) (.slice (some ⟨gd, 0, none⟩) n c) (ex_move rfl rfl) ?_
     simp only [Act.put, sA, sB, sC]
     refine og_pure (k := 3) (by kernel_rfl) rfl (by rfl) (.int .i64 ((k : Nat) : Int)) (ex_move rfl rfl) ?_
     simp only [Act.put, sA, sB, sC]
     refine og_pure (k := 4) (by kernel_rfl) rfl (by rfl) (.int .i64 ((k + 1 : Nat) : Int)) (ex_addN (i := k) (d := 1) rfl rfl rfl (by omega)) ?_
     simp only [Act.put, sA, sB, sC]
     refine og_pure (k := 5) (by kernel_rfl) rfl (by rfl) (.slice (some ⟨gd, 0, none⟩) n c) (ex_move rfl rfl) ?_
     simp only [Act.put, sA, sB, sC]
     refine og_pure (k := 6) (by kernel_rfl) rfl (by rfl) (.int .i64 ((k : Nat) : Int)) (ex_move rfl rfl) ?_
     simp only [Act.put, sA, sB, sC]
     refine og_pure (k := 7) (by kernel_rfl) rfl (by rfl) (.int .i64 ((k + 1 : Nat) : Int)) (ex_addN (i := k) (d := 1) rfl rfl rfl (by omega)) ?_
     simp only [Act.put, sA, sB, sC]
     refine og_pure (k := 8) (by kernel_rfl) rfl (by rfl) (.pointer (some ⟨gd, (k + 1) * 2, none⟩)) (ex_ixPk rfl rfl rfl (by omega)) ?_
     simp only [Act.put, sA, sB, sC]
     refine og_pure (k := 10) (by kernel_rfl) rfl (by rfl) (.slice (some ⟨gd, 0, none⟩) n c) (ex_move rfl rfl) ?_
     simp only [Act.put, sA, sB, sC]
     refine og_pure (k := 11) (by kernel_rfl) rfl (by rfl) (.int .i64 ((k : Nat) : Int)) (ex_move rfl rfl) ?_
     simp only [Act.put, sA, sB, sC]
     refine og_pure (k := 12) (by kernel_rfl) rfl (by rfl) (.pointer (some ⟨gd, (k) * 2, none⟩)) (ex_ixPk rfl rfl rfl (by omega)) ?_
     simp only [Act.put, sA, sB, sC]
     refine og_fix (k := 9) (by kernel_rfl) rfl (by rfl) (.agg (pkV M[k + 1])) (fun W hW => ex_loadPk rfl hW (by omega) rfl) hDD ?_
     simp only [Act.put, sA, sB, sC]
     refine og_fix (k := 13) (by kernel_rfl) rfl (by rfl) (.agg (pkV M[k])) (fun W hW => ex_loadPk rfl hW (by omega) rfl) hDD ?_
     simp only [Act.put, sA, sB, sC]
     refine og_pure (k := 14) (by kernel_rfl) rfl (by rfl) (.pointer (some ⟨gd, (k) * 2, none⟩)) (ex_ixPk rfl rfl rfl (by omega)) ?_
     simp only [Act.put, sA, sB, sC]
     refine of_loud (k := 15) (by kernel_rfl) rfl ?_
     refine wl_storePk rfl _ _ rfl gd M tl hDD (k) (by omega) M[k + 1] (hone _ (List.getElem_mem _)) rfl rfl ?_
     intro w5 hD5 hu5
     refine oi_end ⟨fun h => (by cases h), ?_⟩
     simp only [Act.put, sA, sB, sC]
     refine og_pure (k := 16) (by kernel_rfl) rfl (by rfl) (.pointer (some ⟨gd, (k + 1) * 2, none⟩)) (ex_ixPk rfl rfl rfl (by omega)) ?_
     simp only [Act.put, sA, sB, sC]
     refine of_loud (k := 17) (by kernel_rfl) rfl ?_
     refine wl_storePk rfl _ _ rfl gd (M.set (k) M[k + 1]) tl hD5 (k + 1) (by rw [List.length_set]; omega) M[k] (hone _ (List.getElem_mem _)) rfl rfl ?_
     intro w6 hD6 hu6
     refine oi_end ⟨fun h => (by cases h), ?_⟩
     simp only [Act.put, sA, sB, sC]
     refine of_done (by kernel_rfl) ?_
     have hD7 : DS w6 gd (swp pk0 M k (k + 1)) tl := by rw [← swp_eq M k (k + 1) (by omega) (by omega)]; exact hD6
     have hu7 := (hu4.trans hu5 (fun x h => .inl h)).trans hu6 (fun x h => .inl h)
     go_wp2_with ((with_reducible apply gS 60); refine wl_run rfl (.int .i64 ((k + 1 : Nat) : Int)) (ex_addN (i := k) (d := 1) rfl rfl rfl (by omega)) ?_)
     go_roundw
     case rel => exact ⟨k + 1, swp pk0 M k (k + 1), by omega, by omega, by go_num, hD7, hg.step pk0 hak (by omega), hu7⟩
     case measure => simp [intOf]; omega
    ·obtain rfl : k = i - 1 := by omega
     go_wp2_with (first
      | ((with_reducible apply gS 57); refine wl_run rfl (.int .i64 ((i - 1 : Nat) : Int)) (ex_subN (i := i) (d := 1) rfl rfl rfl (by omega) (by omega)) ?_)
      | ((with_reducible apply gS 58); refine wl_run rfl (.bool false) (ex_lss rfl rfl rfl (by simp)) ?_))
     go_end0
     exact ⟨rfl, M, hD, hg.seg pk0 hak (by omega), GoneUp.sorted pk0 pw HS2.out (by omega) hjb hlo hhi hg, hu⟩
end
section
open SM
set_option maxRecDepth 20000 in
set_option maxHeartbeats 16000000 in
theorem symR_any (gd : Nat) (L : List Pk) (tl : List Value) (n c a m : Nat) (w : World) (hn : L.length = n) (hn2 : n ≤ 1000000) (ham : a + 1 < m) (hmn : m + 1 ≤ n) (hone : OnesP L) (hD : DS w gd L tl) (h2 : Sorted pk0 pw L a m) :
 Calls Tryz.prog 150 #[.slice (some ⟨gd, 0, none⟩) n c, .int .i64 (a : Int), .int .i64 (m : Int), .int .i64 ((m + 1 : Nat) : Int), .func (.func 105) #[] #[]] w (SortIs gd L tl a (m + 1) w) := by
 have HN := hid_ hn
 have HONE := hid_ hone
 have HS2 := hid_ h2
 clear hn hone h2
 go_enter Tryz.func150, Tryz.ntmps150
 go_upto_region 15 with (first
  | ((with_reducible apply gS 27); refine wl_run rfl (.int .i64 ((m - a : Nat) : Int)) (ex_subN rfl rfl rfl (by omega) (by omega)) ?_)
  | ((with_reducible apply gS 28); refine wl_run rfl (.bool false) (ex_eql rfl rfl rfl (by simp; omega)) ?_)
  | ((with_reducible apply gS 79); refine wl_run rfl (.int .i64 ((m + 1 - m : Nat) : Int)) (ex_subN rfl rfl rfl (by omega) (by omega)) ?_)
  | ((with_reducible apply gS 80); refine wl_run rfl (.bool true) (ex_eql rfl rfl rfl (by simp)) ?_))
 go_loopw [14, 15] (fun iv jv wr => ∃ (i j : Nat), a ≤ i ∧ i ≤ j ∧ j ≤ m ∧ iv = .int .i64 (i : Int) ∧ jv = .int .i64 (j : Int) ∧ DS wr gd L tl ∧ (i = a ∨ wA pk0 pw L (i - 1) ≤ wA pk0 pw L m) ∧ (j = m ∨ wA pk0 pw L m ≤ wA pk0 pw L j) ∧ Upd (fun x => x = gd) w wr) (fun i j _ => (intOf j).toNat - (intOf i).toNat)
 case atStart => exact ⟨a, m, by omega, by omega, by omega, rfl, rfl, hD, .inl rfl, .inl rfl, Upd.refl _ w⟩
 case round =>
  clear hD
  obtain ⟨i, j, hai, hij, hjb, rfl, rfl, hD, hlo, hhi, hu⟩ := hrel
  have hml := HN.out
  by_cases hlt : i < j
  ·have hDd : DS wr.drew gd L tl := Blk.drew hD
   obtain ⟨h, hh, hh1, hh2⟩ : ∃ h, (i + j) / 2 = h ∧ i ≤ h ∧ h < j := ⟨_, rfl, by omega, by omega⟩
   by_cases hls : wA pk0 pw L m < wA pk0 pw L h
   ·have hB : decide (cmpZ (L[m]'(by omega)).1 (L[h]'(by omega)).1 < 0) = true := by
     rw [less_cmp, ← wA_get L h (by omega), ← wA_get L m (by omega)]
     simpa using hls
    go_wp2_with (first
     | ((with_reducible apply gS 85); refine wl_run rfl (.bool true) (ex_lss rfl rfl rfl (by simpa using hlt)) ?_)
     | ((with_reducible apply gS 88); refine wl_run rfl (.int .i64 ((i + j : Nat) : Int)) (ex_addN rfl rfl rfl (by omega)) ?_)
     | ((with_reducible apply gS 89); refine wl_run rfl (.int .u64 ((i + j : Nat) : Int)) (ex_toU rfl rfl (by omega)) ?_)
     | ((with_reducible apply gS 90); refine wl_run rfl (.int .u64 ((h : Nat) : Int)) (by rw [← hh]; exact ex_halfU rfl rfl rfl) ?_)
     | ((with_reducible apply gS 91); refine wl_run rfl (.int .i64 ((h : Nat) : Int)) (ex_ofU rfl rfl (by omega)) ?_))
    refine wp_region_lx later_ext (by kernel_rfl) (by kernel_rfl) ?_
    refine lx_run (by rfl) (.func (.func 105) #[] #[]) (ex_move rfl rfl) ?_
    simp only [Act.put, sA, sB, sC]
    refine lx_run (by rfl) (.slice (some ⟨gd, 0, none⟩) n c) (ex_move rfl rfl) ?_
    simp only [Act.put, sA, sB, sC]
    refine lx_run (by rfl) (.int .i64 ((m : Nat) : Int)) (ex_move rfl rfl) ?_
    simp only [Act.put, sA, sB, sC]
    refine lx_run (by rfl) (.pointer (some ⟨gd, (m) * 2, none⟩)) (ex_ixPk rfl rfl rfl (by omega)) ?_
    simp only [Act.put, sA, sB, sC]
    refine lx_read (by rfl) (.agg (pkV (L[m]'(by omega)))) (fun W hW => ex_loadPk rfl (hDd.ext hW) (by omega) rfl) ?_
    simp only [Act.put, sA, sB, sC]
    refine lx_run (by rfl) (.slice (some ⟨gd, 0, none⟩) n c) (ex_move rfl rfl) ?_
    simp only [Act.put, sA, sB, sC]
    refine lx_run (by rfl) (.int .i64 ((h : Nat) : Int)) (ex_move rfl rfl) ?_
    simp only [Act.put, sA, sB, sC]
    refine lx_run (by rfl) (.pointer (some ⟨gd, (h) * 2, none⟩)) (ex_ixPk rfl rfl rfl (by omega)) ?_
    simp only [Act.put, sA, sB, sC]
    refine lx_read (by rfl) (.agg (pkV (L[h]'(by omega)))) (fun W hW => ex_loadPk rfl (hDd.ext hW) (by omega) rfl) ?_
    simp only [Act.put, sA, sB, sC]
    refine lx_callV (by rfl) _ _ _ rfl rfl goesBy #[.agg (pkV (L[m]'(by omega))), .agg (pkV (L[h]'(by omega)))] (by simp [Act.eval]) (.int .i64 (cmpZ (L[m]'(by omega)).1 (L[h]'(by omega)).1)) (fun W h => byWeight_any _ _ W) ?_
    simp only [Act.put, sA, sB, sC]
    refine lx_run (by rfl) (.bool true) (ex_lss rfl rfl rfl hB) ?_
    simp only [Act.put, sA, sB, sC]
    refine lx_run (by rfl) (.bool false) (ex_not (b := true) rfl rfl) ?_
    simp only [Act.put, sA, sB, sC]
    refine lx_nil ?_
    intro w4 hx4
    have hD4 := hDd.ext hx4
    have hu4 : Upd (fun x => x = gd) w w4 := hu.drew.trans (Upd.of_ext (S := fun _ => False) hx4) (fun _ h => h.elim)
    go_wp2_with fail
    go_roundw
    case rel => exact ⟨i, h, hai, by omega, by omega, rfl, rfl, hD4, hlo, .inr (by omega), hu4⟩
    case measure => simp [intOf]; omega
   ·have hB : decide (cmpZ (L[m]'(by omega)).1 (L[h]'(by omega)).1 < 0) = false := by
     rw [less_cmp, ← wA_get L h (by omega), ← wA_get L m (by omega)]
     simpa using hls
    go_wp2_with (first
     | ((with_reducible apply gS 85); refine wl_run rfl (.bool true) (ex_lss rfl rfl rfl (by simpa using hlt)) ?_)
     | ((with_reducible apply gS 88); refine wl_run rfl (.int .i64 ((i + j : Nat) : Int)) (ex_addN rfl rfl rfl (by omega)) ?_)
     | ((with_reducible apply gS 89); refine wl_run rfl (.int .u64 ((i + j : Nat) : Int)) (ex_toU rfl rfl (by omega)) ?_)
     | ((with_reducible apply gS 90); refine wl_run rfl (.int .u64 ((h : Nat) : Int)) (by rw [← hh]; exact ex_halfU rfl rfl rfl) ?_)
     | ((with_reducible apply gS 91); refine wl_run rfl (.int .i64 ((h : Nat) : Int)) (ex_ofU rfl rfl (by omega)) ?_))
    refine wp_region_lx later_ext (by kernel_rfl) (by kernel_rfl) ?_
    refine lx_run (by rfl) (.func (.func 105) #[] #[]) (ex_move rfl rfl) ?_
    simp only [Act.put, sA, sB, sC]
    refine lx_run (by rfl) (.slice (some ⟨gd, 0, none⟩) n c) (ex_move rfl rfl) ?_
    simp only [Act.put, sA, sB, sC]
    refine lx_run (by rfl) (.int .i64 ((m : Nat) : Int)) (ex_move rfl rfl) ?_
    simp only [Act.put, sA, sB, sC]
    refine lx_run (by rfl) (.pointer (some ⟨gd, (m) * 2, none⟩)) (ex_ixPk rfl rfl rfl (by omega)) ?_
    simp only [Act.put, sA, sB, sC]
    refine lx_read (by rfl) (.agg (pkV (L[m]'(by omega)))) (fun W hW => ex_loadPk rfl (hDd.ext hW) (by omega) rfl) ?_
    simp only [Act.put, sA, sB, sC]
    refine lx_run (by rfl) (.slice (some ⟨gd, 0, none⟩) n c) (ex_move rfl rfl) ?_
    simp only [Act.put, sA, sB, sC]
    refine lx_run (by rfl) (.int .i64 ((h : Nat) : Int)) (ex_move rfl rfl) ?_
    simp only [Act.put, sA, sB, sC]
    refine lx_run (by rfl) (.pointer (some ⟨gd, (h) * 2, none⟩)) (ex_ixPk rfl rfl rfl (by omega)) ?_
    simp only [Act.put, sA, sB, sC]
    refine lx_read (by rfl) (.agg (pkV (L[h]'(by omega)))) (fun W hW => ex_loadPk rfl (hDd.ext hW) (by omega) rfl) ?_
    simp only [Act.put, sA, sB, sC]
    refine lx_callV (by rfl) _ _ _ rfl rfl goesBy #[.agg (pkV (L[m]'(by omega))), .agg (pkV (L[h]'(by omega)))] (by simp [Act.eval]) (.int .i64 (cmpZ (L[m]'(by omega)).1 (L[h]'(by omega)).1)) (fun W h => byWeight_any _ _ W) ?_
    simp only [Act.put, sA, sB, sC]
    refine lx_run (by rfl) (.bool false) (ex_lss rfl rfl rfl hB) ?_
    simp only [Act.put, sA, sB, sC]
    refine lx_run (by rfl) (.bool true) (ex_not (b := false) rfl rfl) ?_
    simp only [Act.put, sA, sB, sC]
    refine lx_nil ?_
    intro w4 hx4
    have hD4 := hDd.ext hx4
    have hu4 : Upd (fun x => x = gd) w w4 := hu.drew.trans (Upd.of_ext (S := fun _ => False) hx4) (fun _ h => h.elim)
    go_wp2_with ((with_reducible apply gS 105); refine wl_run rfl (.int .i64 ((h + 1 : Nat) : Int)) (ex_addN (i := h) (d := 1) rfl rfl rfl (by omega)) ?_)
    go_roundw
    case rel => exact ⟨h + 1, j, by omega, by omega, hjb, by go_num, rfl, hD4, .inr (by rw [Nat.add_sub_cancel]; omega), hhi, hu4⟩
    case measure => simp [intOf]; omega
  ·obtain rfl : i = j := by omega
   have hg0 := GoneDown.start pk0 L m
   go_upto_region 21 with ((with_reducible apply gS 85); refine wl_run rfl (.bool false) (ex_lss rfl rfl rfl (by simp)) ?_)
   go_loopw [17] (fun kv wr => ∃ (k : Nat) (M : List Pk), i ≤ k ∧ k ≤ m ∧ kv = .int .i64 (k : Int) ∧ DS wr gd M tl ∧ GoneDown pk0 L M m k ∧ Upd (fun x => x = gd) w wr) (fun k _ => (intOf k).toNat)
   case atStart => exact ⟨m, L, by omega, by omega, rfl, hD, hg0, hu⟩
   case round =>
    clear hD hg0 hu
    obtain ⟨k, M, hik, hkm, rfl, hD, hg, hu⟩ := hrel
    have hMl : M.length = n := hg.perm.length_eq.trans HN.out
    have hone := HONE.out.perm hg.perm
    by_cases hlk : i < k
    ·go_wp2_with ((with_reducible apply gS 110); refine wl_run rfl (.bool true) (ex_gtr rfl rfl rfl (by simpa using hlk)) ?_)
     have hDD : DS wr.drew gd M tl := Blk.drew hD
     have hu4 := hu.drew
     refine wp_region_of (fun k => k == 9 || k == 13) (fun W => DS W gd M tl) (by kernel_rfl) ?_
     refine og_pure (k := 0) (by kernel_rfl) rfl (by rfl) (.slice (some ⟨gd, 0, none⟩) n c) (ex_move rfl rfl) ?_
     simp only [Act.put, sA, sB, sC]
     refine og_pure (k := 1) (by kernel_rfl) rfl (by rfl) (.int .i64 ((k : Nat) : Int)) (ex_move rfl rfl) ?_
     simp only [Act.put, sA, sB, sC]
     refine og_pure (k := 2) (by kernel_rfl) rfl (by rfl) (.slice (some ⟨gd, 0, none⟩) n c) (ex_move rfl rfl) ?_
     simp only [Act.put, sA, sB, sC]
     refine og_pure (k := 3) (by kernel_rfl) rfl (by rfl) (.int .i64 ((k : Nat) : Int)) (ex_move rfl rfl) ?_
     simp only [Act.put, sA, sB, sC]
     refine og_pure (k := 4) (by kernel_rfl) rfl (by rfl) (.int .i64 ((k - 1 : Nat) : Int)) (ex_subN (i := k) (d := 1) rfl rfl rfl (by omega) (by omega)) ?_
     simp only [Act.put, sA, sB, sC]
     refine og_pure (k := 5) (by kernel_rfl) rfl (by rfl) (.slice (some ⟨gd, 0, none⟩) n c) (ex_move rfl rfl) ?_
     simp only [Act.put, sA, sB, sC]
     refine og_pure (k := 6) (by kernel_rfl) rfl (by rfl) (.int .i64 ((k : Nat) : Int)) (ex_move rfl rfl) ?_
     simp only [Act.put, sA, sB, sC]
     refine og_pure (k := 7) (by kernel_rfl) rfl (by rfl) (.int .i64 ((k - 1 : Nat) : Int)) (ex_subN (i := k) (d := 1) rfl rfl rfl (by omega) (by omega)) ?_
     simp only [Act.put, sA, sB, sC]
     refine og_pure (k := 8) (by kernel_rfl) rfl (by rfl) (.pointer (some ⟨gd, (k - 1) * 2, none⟩)) (ex_ixPk rfl rfl rfl (by omega)) ?_
     simp only [Act.put, sA, sB, sC]
     refine og_pure (k := 10) (by kernel_rfl) rfl (by rfl) (.slice (some ⟨gd, 0, none⟩) n c) (ex_move rfl rfl) ?_
     simp only [Act.put, sA, sB, sC]
     refine og_pure (k := 11) (by kernel_rfl) rfl (by rfl) (.int .i64 ((k : Nat) : Int)) (ex_move rfl rfl) ?_
     simp only [Act.put, sA, sB, sC]
     refine og_pure (k := 12) (by kernel_rfl) rfl (by rfl) (.pointer (some ⟨gd, (k) * 2, none⟩)) (ex_ixPk rfl rfl rfl (by omega)) ?_
     simp only [Act.put, sA, sB, sC]
     refine og_fix (k := 9) (by kernel_rfl) rfl (by rfl) (.agg (pkV M[k - 1])) (fun W hW => ex_loadPk rfl hW (by omega) rfl) hDD ?_
     simp only [Act.put, sA, sB, sC]
     refine og_fix (k := 13) (by kernel_rfl) rfl (by rfl) (.agg (pkV M[k])) (fun W hW => ex_loadPk rfl hW (by omega) rfl) hDD ?_
     simp only [Act.put, sA, sB, sC]
     refine og_pure (k := 14) (by kernel_rfl) rfl (by rfl) (.pointer (some ⟨gd, (k) * 2, none⟩)) (ex_ixPk rfl rfl rfl (by omega)) ?_
     simp only [Act.put, sA, sB, sC]
     refine of_loud (k := 15) (by kernel_rfl) rfl ?_
     refine wl_storePk rfl _ _ rfl gd M tl hDD (k) (by omega) M[k - 1] (hone _ (List.getElem_mem _)) rfl rfl ?_
     intro w5 hD5 hu5
     refine oi_end ⟨fun h => (by cases h), ?_⟩
     simp only [Act.put, sA, sB, sC]
     refine og_pure (k := 16) (by kernel_rfl) rfl (by rfl) (.pointer (some ⟨gd, (k - 1) * 2, none⟩)) (ex_ixPk rfl rfl rfl (by omega)) ?_
     simp only [Act.put, sA, sB, sC]
     refine of_loud (k := 17) (by kernel_rfl) rfl ?_
     refine wl_storePk rfl _ _ rfl gd (M.set (k) M[k - 1]) tl hD5 (k - 1) (by rw [List.length_set]; omega) M[k] (hone _ (List.getElem_mem _)) rfl rfl ?_
     intro w6 hD6 hu6
     refine oi_end ⟨fun h => (by cases h), ?_⟩
     simp only [Act.put, sA, sB, sC]
     refine of_done (by kernel_rfl) ?_
     have hD7 : DS w6 gd (swp pk0 M k (k - 1)) tl := by rw [← swp_eq M k (k - 1) (by omega) (by omega)]; exact hD6
     have hu7 := (hu4.trans hu5 (fun x h => .inl h)).trans hu6 (fun x h => .inl h)
     go_wp2_with ((with_reducible apply gS 112); refine wl_run rfl (.int .i64 ((k - 1 : Nat) : Int)) (ex_subN (i := k) (d := 1) rfl rfl rfl (by omega) (by omega)) ?_)
     go_roundw
     case rel => exact ⟨k - 1, swp pk0 M k (k - 1), by omega, by omega, by go_num, hD7, hg.step pk0 (by omega) hkm (by omega), hu7⟩
     case measure => simp [intOf]; omega
    ·obtain rfl : i = k := by omega
     go_wp2_with ((with_reducible apply gS 110); refine wl_run rfl (.bool false) (ex_gtr rfl rfl rfl (by simp)) ?_)
     go_end0
     exact ⟨rfl, M, hD, hg.seg pk0 hai hkm (by omega), GoneDown.sorted pk0 pw HS2.out hai hkm hlo hhi hg, hu⟩
end
end Go.Proofs.YtlhggcbpipmjhaaGreatDoor
