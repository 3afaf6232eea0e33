/- Contracts for the law DeskRunsCard, part 16: what the functions that it reaches answer, for all arguments that the theorems name. -/
import Derived.Test.YtlhggcbpipmjhaaGreatDoorMDeskRunsCard14
import Derived.Deep.CutRange
import Derived.Test.YtlhggcbpipmjhaaGreatDoorMDeskRunsCard15
import Derived.Test.YtlhggcbpipmjhaaGreatDoorMDeskRunsCard5
import Derived.Test.YtlhggcbpipmjhaaGreatDoorMDeskRunsCard10
namespace Go.Proofs.YtlhggcbpipmjhaaGreatDoor
set_option linter.unusedVariables false
set_option linter.unusedSimpArgs false
open Go.RowKit
section
open SM
set_option maxRecDepth 20000 in
set_option maxHeartbeats 8000000 in
theorem swapRange_any (gd : Nat) (L : List Pk) (tl : List Value) (n c a b k : Nat) (w : World) (hn : L.length = n) (hn2 : n ≤ 1000000) (hab : a + k ≤ b) (hbn : b + k ≤ n) (hone : OnesP L) (hD : DS w gd L tl) :
 Calls Tryz.prog 158 #[.slice (some ⟨gd, 0, none⟩) n c, .int .i64 (a : Int), .int .i64 (b : Int), .int .i64 (k : Int), .func (.func 105) #[] #[]] w fun e w' => e = .returned (.tuple #[]) ∧ ∃ M, DS w' gd M tl ∧ Swapped pk0 L M a b k ∧ Upd (fun x => x = gd) w w' := by
 have HN := hid_ hn
 have HONE := hid_ hone
 clear hn hone
 have hs0 := Swapped.zero pk0 L a b
 go_enter Tryz.func158, Tryz.ntmps158
 go_upto_region 1 with fail
 go_loopw [10] (fun iv wr => ∃ (i : Nat) (M : List Pk), i ≤ k ∧ iv = .int .i64 (i : Int) ∧ DS wr gd M tl ∧ Swapped pk0 L M a b i ∧ Upd (fun x => x = gd) w wr) (fun i _ => k - (intOf i).toNat)
 case atStart => exact ⟨0, L, by omega, rfl, hD, hs0, Upd.refl _ w⟩
 case round =>
  clear hD hs0
  obtain ⟨i, M, hik, rfl, hD, hsw, hu⟩ := hrel
  have hml : M.length = n := hsw.1.length_eq.trans HN.out
  have hone := HONE.out.perm hsw.1
  by_cases hlt : i < k
  ·go_wp2_with ((with_reducible apply gS 13); refine wl_run rfl (.bool true) (ex_lss rfl rfl rfl (by simpa using hlt)) ?_)
   have hDD : DS wr.drew gd M tl := Blk.drew hD
   have hu4 := hu.drew
   refine wp_region_of (fun k => k == 13 || k == 19) (fun W => DS W gd M tl) (by kernel_rfl) ?_
   refine og_pure (k := 0) (by kernel_rfl) rfl (by rfl) (.slice (some ⟨gd, 0, none⟩) n c) (ex_move rfl rfl) ?_
   simp only [Act.put, sA, sB, sC]
   refine og_pure (k := 1) (by kernel_rfl) rfl (by rfl) (.int .i64 ((a : Nat) : Int)) (ex_move rfl rfl) ?_
   simp only [Act.put, sA, sB, sC]
   refine og_pure (k := 2) (by kernel_rfl) rfl (by rfl) (.int .i64 ((i : Nat) : Int)) (ex_move rfl rfl) ?_
   simp only [Act.put, sA, sB, sC]
   refine og_pure (k := 3) (by kernel_rfl) rfl (by rfl) (.int .i64 ((a + i : Nat) : Int)) (ex_addN rfl rfl rfl (by omega)) ?_
   simp only [Act.put, sA, sB, sC]
   refine og_pure (k := 4) (by kernel_rfl) rfl (by rfl) (.slice (some ⟨gd, 0, none⟩) n c) (ex_move rfl rfl) ?_
   simp only [Act.put, sA, sB, sC]
   refine og_pure (k := 5) (by kernel_rfl) rfl (by rfl) (.int .i64 ((b : Nat) : Int)) (ex_move rfl rfl) ?_
   simp only [Act.put, sA, sB, sC]
   refine og_pure (k := 6) (by kernel_rfl) rfl (by rfl) (.int .i64 ((i : Nat) : Int)) (ex_move rfl rfl) ?_
   simp only [Act.put, sA, sB, sC]
   refine og_pure (k := 7) (by kernel_rfl) rfl (by rfl) (.int .i64 ((b + i : Nat) : Int)) (ex_addN rfl rfl rfl (by omega)) ?_
   simp only [Act.put, sA, sB, sC]
   refine og_pure (k := 8) (by kernel_rfl) rfl (by rfl) (.slice (some ⟨gd, 0, none⟩) n c) (ex_move rfl rfl) ?_
   simp only [Act.put, sA, sB, sC]
   refine og_pure (k := 9) (by kernel_rfl) rfl (by rfl) (.int .i64 ((b : Nat) : Int)) (ex_move rfl rfl) ?_
   simp only [Act.put, sA, sB, sC]
   refine og_pure (k := 10) (by kernel_rfl) rfl (by rfl) (.int .i64 ((i : Nat) : Int)) (ex_move rfl rfl) ?_
   simp only [Act.put, sA, sB, sC]
   refine og_pure (k := 11) (by kernel_rfl) rfl (by rfl) (.int .i64 ((b + i : Nat) : Int)) (ex_addN rfl rfl rfl (by omega)) ?_
   simp only [Act.put, sA, sB, sC]
   refine og_pure (k := 12) (by kernel_rfl) rfl (by rfl) (.pointer (some ⟨gd, (b + i) * 2, none⟩)) (ex_ixPk rfl rfl rfl (by omega)) ?_
   simp only [Act.put, sA, sB, sC]
   refine og_pure (k := 14) (by kernel_rfl) rfl (by rfl) (.slice (some ⟨gd, 0, none⟩) n c) (ex_move rfl rfl) ?_
   simp only [Act.put, sA, sB, sC]
   refine og_pure (k := 15) (by kernel_rfl) rfl (by rfl) (.int .i64 ((a : Nat) : Int)) (ex_move rfl rfl) ?_
   simp only [Act.put, sA, sB, sC]
   refine og_pure (k := 16) (by kernel_rfl) rfl (by rfl) (.int .i64 ((i : Nat) : Int)) (ex_move rfl rfl) ?_
   simp only [Act.put, sA, sB, sC]
   refine og_pure (k := 17) (by kernel_rfl) rfl (by rfl) (.int .i64 ((a + i : Nat) : Int)) (ex_addN rfl rfl rfl (by omega)) ?_
   simp only [Act.put, sA, sB, sC]
   refine og_pure (k := 18) (by kernel_rfl) rfl (by rfl) (.pointer (some ⟨gd, (a + i) * 2, none⟩)) (ex_ixPk rfl rfl rfl (by omega)) ?_
   simp only [Act.put, sA, sB, sC]
   refine og_fix (k := 13) (by kernel_rfl) rfl (by rfl) (.agg (pkV M[b + i])) (fun W hW => ex_loadPk rfl hW (by omega) rfl) hDD ?_
   simp only [Act.put, sA, sB, sC]
   refine og_fix (k := 19) (by kernel_rfl) rfl (by rfl) (.agg (pkV M[a + i])) (fun W hW => ex_loadPk rfl hW (by omega) rfl) hDD ?_
   simp only [Act.put, sA, sB, sC]
   refine og_pure (k := 20) (by kernel_rfl) rfl (by rfl) (.pointer (some ⟨gd, (a + i) * 2, none⟩)) (ex_ixPk rfl rfl rfl (by omega)) ?_
   simp only [Act.put, sA, sB, sC]
   refine of_loud (k := 21) (by kernel_rfl) rfl ?_
   refine wl_storePk rfl _ _ rfl gd M tl hDD (a + i) (by omega) M[b + i] (hone _ (List.getElem_mem _)) rfl rfl ?_
   intro w5 hD5 hu5
   refine oi_end ⟨fun h => (by cases h), ?_⟩
   simp only [Act.put, sA, sB, sC]
   refine og_pure (k := 22) (by kernel_rfl) rfl (by rfl) (.pointer (some ⟨gd, (b + i) * 2, none⟩)) (ex_ixPk rfl rfl rfl (by omega)) ?_
   simp only [Act.put, sA, sB, sC]
   refine of_loud (k := 23) (by kernel_rfl) rfl ?_
   refine wl_storePk rfl _ _ rfl gd (M.set (a + i) M[b + i]) tl hD5 (b + i) (by rw [List.length_set]; omega) M[a + i] (hone _ (List.getElem_mem _)) rfl rfl ?_
   intro w6 hD6 hu6
   refine oi_end ⟨fun h => (by cases h), ?_⟩
   simp only [Act.put, sA, sB, sC]
   refine of_done (by kernel_rfl) ?_
   have hD7 : DS w6 gd (swp pk0 M (a + i) (b + i)) tl := by rw [← swp_eq M (a + i) (b + i) (by omega) (by omega)]; exact hD6
   have hu7 := (hu4.trans hu5 (fun x h => .inl h)).trans hu6 (fun x h => .inl h)
   have hsw' := hsw.step pk0 (by omega) (by have := HN.out; omega)
   go_wp2_with ((with_reducible apply gS 15); refine wl_run rfl (.int .i64 ((i + 1 : Nat) : Int)) (ex_addN (i := i) (d := 1) rfl rfl rfl (by omega)) ?_)
   go_roundw
   case rel => exact ⟨i + 1, swp pk0 M (a + i) (b + i), by omega, by go_num, hD7, hsw', hu7⟩
   case measure => simp [intOf]; omega
  ·obtain rfl : i = k := by omega
   go_wp2_with ((with_reducible apply gS 13); refine wl_run rfl (.bool false) (ex_lss rfl rfl rfl (by simp)) ?_)
   go_end0
   exact ⟨rfl, M, hD, hsw, hu⟩
set_option maxRecDepth 20000 in
set_option maxHeartbeats 8000000 in
theorem rotate_any (gd : Nat) (L : List Pk) (tl : List Value) (n c a m b : Nat) (w : World) (hn : L.length = n) (hn2 : n ≤ 1000000) (ham : a < m) (hmb : m < b) (hbn : b ≤ n) (hone : OnesP L) (hD : DS w gd L tl) :
 Calls Tryz.prog 157 #[.slice (some ⟨gd, 0, none⟩) n c, .int .i64 (a : Int), .int .i64 (m : Int), .int .i64 (b : Int), .func (.func 105) #[] #[]] w fun e w' => e = .returned (.tuple #[]) ∧ ∃ M, DS w' gd M tl ∧ (M.Perm L ∧ ∀ x, at_ pk0 M x = rotAt pk0 L a m b x) ∧ Upd (fun x => x = gd) w w' := by
 have HN := hid_ hn
 have HONE := hid_ hone
 have HS := hid_ (fun (M : List Pk) a b k W (h1 : a + k ≤ b) (h2 : b + k ≤ n) (hM : M.Perm L) (h : DS W gd M tl) => swapRange_any gd M tl n c a b k W (hM.length_eq.trans hn) hn2 h1 h2 (hone.perm hM) h)
 clear hn hone
 have hr0 := Rot.start pk0 L a m b (by omega) (by omega)
 go_enter Tryz.func157, Tryz.ntmps157
 go_upto_region 2 with (first
  | ((with_reducible apply gS 14); refine wl_run rfl (.int .i64 ((m - a : Nat) : Int)) (ex_subN rfl rfl rfl (by omega) (by omega)) ?_)
  | ((with_reducible apply gS 17); refine wl_run rfl (.int .i64 ((b - m : Nat) : Int)) (ex_subN rfl rfl rfl (by omega) (by omega)) ?_))
 go_loopw [10, 11] (fun iv jv wr => ∃ (i j : Nat) (M : List Pk), 1 ≤ i ∧ 1 ≤ j ∧ i ≤ m - a ∧ j ≤ b - m ∧ iv = .int .i64 (i : Int) ∧ jv = .int .i64 (j : Int) ∧ DS wr gd M tl ∧ Rot pk0 L M a m b i j ∧ Upd (fun x => x = gd) w wr) (fun i j _ => (intOf i).toNat + (intOf j).toNat)
 case atStart => exact ⟨m - a, b - m, L, by omega, by omega, by omega, by omega, rfl, rfl, hD, hr0, Upd.refl _ w⟩
 case round =>
  clear hD hr0
  obtain ⟨i, j, M, hi1, hj1, hi, hj, rfl, rfl, hD, hrot, hu⟩ := hrel
  by_cases heq : i = j
  ·subst heq
   have HS1 := hid_ (HS.out M (m - i) m i wr (by omega) (by omega) hrot.perm hD)
   go_wp2_with (first
    | ((with_reducible apply gS 20); refine wl_run rfl (.bool false) (ex_neq rfl rfl rfl (by simp)) ?_)
    | ((with_reducible apply gS 53); refine wl_run rfl (.int .i64 ((m - i : Nat) : Int)) (ex_subN rfl rfl rfl (by omega) (by omega)) ?_)
    | (go_at_call 158; (with_reducible refine HS1.out.mono ?_); rintro e w3 ⟨rfl, N, hD3, hsw, hu3⟩))
   go_end0
   exact ⟨rfl, N, hD3, hrot.last pk0 (by omega) hsw, hu.trans hu3 (fun x h => .inl h)⟩
  ·by_cases hgt : j < i
   ·have HS1 := hid_ (HS.out M (m - i) m j wr (by omega) (by omega) hrot.perm hD)
    go_wp2_with (first
     | ((with_reducible apply gS 20); refine wl_run rfl (.bool true) (ex_neq rfl rfl rfl (by simpa using heq)) ?_)
     | ((with_reducible apply gS 23); refine wl_run rfl (.bool true) (ex_gtr rfl rfl rfl (by simpa using hgt)) ?_)
     | ((with_reducible apply gS 27); refine wl_run rfl (.int .i64 ((m - i : Nat) : Int)) (ex_subN rfl rfl rfl (by omega) (by omega)) ?_)
     | (go_at_call 158; (with_reducible refine HS1.out.mono ?_); rintro e w3 ⟨rfl, N, hD3, hsw, hu3⟩)
     | ((with_reducible apply gS 34); refine wl_run rfl (.int .i64 ((i - j : Nat) : Int)) (ex_subN rfl rfl rfl (by omega) (by omega)) ?_))
    go_roundw
    case rel => exact ⟨i - j, j, N, by omega, hj1, by omega, hj, by go_num, rfl, hD3, hrot.left pk0 hgt (by omega) hsw, hu.trans hu3 (fun x h => .inl h)⟩
    case measure => simp [intOf]; omega
   ·have HS1 := hid_ (HS.out M (m - i) (m + j - i) i wr (by omega) (by omega) hrot.perm hD)
    go_wp2_with (first
     | ((with_reducible apply gS 20); refine wl_run rfl (.bool true) (ex_neq rfl rfl rfl (by simpa using heq)) ?_)
     | ((with_reducible apply gS 23); refine wl_run rfl (.bool false) (ex_gtr rfl rfl rfl (by simpa using hgt)) ?_)
     | ((with_reducible apply gS 38); refine wl_run rfl (.int .i64 ((m - i : Nat) : Int)) (ex_subN rfl rfl rfl (by omega) (by omega)) ?_)
     | ((with_reducible apply gS 41); refine wl_run rfl (.int .i64 ((m + j : Nat) : Int)) (ex_addN rfl rfl rfl (by omega)) ?_)
     | ((with_reducible apply gS 43); refine wl_run rfl (.int .i64 ((m + j - i : Nat) : Int)) (ex_subN rfl rfl rfl (by omega) (by omega)) ?_)
     | (go_at_call 158; (with_reducible refine HS1.out.mono ?_); rintro e w3 ⟨rfl, N, hD3, hsw, hu3⟩)
     | ((with_reducible apply gS 49); refine wl_run rfl (.int .i64 ((j - i : Nat) : Int)) (ex_subN rfl rfl rfl (by omega) (by omega)) ?_))
    go_roundw
    case rel => exact ⟨i, j - i, N, hi1, by omega, hi, by omega, rfl, by go_num, hD3, hrot.right pk0 (by omega) (by omega) hsw, hu.trans hu3 (fun x h => .inl h)⟩
    case measure => simp [intOf]; omega
end
section
open SM
theorem rot_id {α : Type} (d : α) {L : List α} {s m e : Nat} (h : s = m ∨ e = m) (x : Nat) : rotAt d L s m e x = at_ d L x := by
 unfold rotAt
 split
 ·split
  ·congr 1; omega
  ·congr 1; omega
 ·rfl
set_option maxRecDepth 20000 in
set_option maxHeartbeats 16000000 in
theorem symG_any (gd : Nat) (L : List Pk) (tl : List Value) (n c a m b : Nat) (w : World) (hn : L.length = n) (hn2 : n ≤ 1000000) (ham : a + 1 < m) (hmb : m + 1 < b) (hbn : b ≤ n) (hone : OnesP L) (hD : DS w gd L tl) (h1 : Sorted pk0 pw L a m) (h2 : Sorted pk0 pw L m b)
 (HR : ∀ a' m' b' M W, a ≤ a' → a' < m' → m' < b' → b' ≤ b → b' - a' < b - a → M.Perm L → DS W gd M tl → Sorted pk0 pw M a' m' → Sorted pk0 pw M m' b' → Calls Tryz.prog 150 #[.slice (some ⟨gd, 0, none⟩) n c, .int .i64 (a' : Int), .int .i64 (m' : Int), .int .i64 (b' : Int), .func (.func 105) #[] #[]] W (SortIs gd M tl a' b' W)) :
 Calls Tryz.prog 150 #[.slice (some ⟨gd, 0, none⟩) n c, .int .i64 (a : Int), .int .i64 (m : Int), .int .i64 (b : Int), .func (.func 105) #[] #[]] w (SortIs gd L tl a b w) := by
 have HN := hid_ hn
 have HONE := hid_ hone
 have HS1 := hid_ h1
 have HS2 := hid_ h2
 have HRR := hid_ HR
 clear hn hone h1 h2 HR
 obtain ⟨md, hm, hk1, hk2⟩ : ∃ md, (a + b) / 2 = md ∧ 2 * md ≤ a + b ∧ a + b < 2 * md + 2 := ⟨_, rfl, by omega, by omega⟩
 obtain ⟨nn, hnn⟩ : ∃ nn, md + m = nn := ⟨_, rfl⟩
 obtain ⟨s0, hs0⟩ : ∃ s0, Hid (s0 = if md < m then nn - b else a) := ⟨_, hid_ rfl⟩
 obtain ⟨r0, hr0⟩ : ∃ r0, Hid (r0 = if md < m then md else m) := ⟨_, hid_ rfl⟩
 go_enter Tryz.func150, Tryz.ntmps150
 go_upto_if 140 with (first
  | ((with_reducible apply gS 140); refine wl_run rfl (.bool (decide (md < m))) (ex_gtr rfl rfl rfl (by simp)) ?_)
  | ((with_reducible apply gS 27); refine wl_run rfl (.int .i64 ((m - a : Nat) : Int)) (ex_subN rfl rfl rfl (by omega) (by omega)) ?_)
  | ((with_reducible apply gS 28); refine wl_run rfl (.bool false) (ex_eql rfl rfl rfl (by simp; omega)) ?_)
  | ((with_reducible apply gS 79); refine wl_run rfl (.int .i64 ((b - m : Nat) : Int)) (ex_subN rfl rfl rfl (by omega) (by omega)) ?_)
  | ((with_reducible apply gS 80); refine wl_run rfl (.bool false) (ex_eql rfl rfl rfl (by simp; omega)) ?_)
  | ((with_reducible apply gS 131); refine wl_run rfl (.int .i64 ((a + b : Nat) : Int)) (ex_addN rfl rfl rfl (by omega)) ?_)
  | ((with_reducible apply gS 132); refine wl_run rfl (.int .u64 ((a + b : Nat) : Int)) (ex_toU rfl rfl (by omega)) ?_)
  | ((with_reducible apply gS 133); refine wl_run rfl (.int .u64 ((md : Nat) : Int)) (by rw [← hm]; exact ex_halfU rfl rfl rfl) ?_)
  | ((with_reducible apply gS 134); refine wl_run rfl (.int .i64 ((md : Nat) : Int)) (ex_ofU rfl rfl (by omega)) ?_)
  | ((with_reducible apply gS 137); refine wl_run rfl (.int .i64 ((nn : Nat) : Int)) (by rw [← hnn]; exact ex_addN rfl rfl rfl (by omega)) ?_))
 simp only [Act.put, sA, sB, sC]
 go_cut [20, 21] from 140 to 146 (fun sv rv wx => sv = .int .i64 (s0 : Int) ∧ rv = .int .i64 (r0 : Int) ∧ wx = w)
 case first =>
  by_cases hq : md < m
  ·rw [decide_eq_true hq]
   go_wp2_with (first
    | ((with_reducible apply gS 143); refine wl_run rfl (.int .i64 ((nn - b : Nat) : Int)) (ex_subN rfl rfl rfl (by omega) (by omega)) ?_))
   go_meet
   refine ⟨by rw [hs0.out, if_pos hq], by rw [hr0.out, if_pos hq], rfl⟩
  ·rw [decide_eq_false hq]
   go_wp2_with fail
   go_meet
   refine ⟨by rw [hs0.out, if_neg hq], by rw [hr0.out, if_neg hq], rfl⟩
 case rest =>
 obtain ⟨e1, e2, hwx⟩ := hcut
 have hwy := hwx.symm
 subst hwy e1 e2
 clear hwx
 have hsr : s0 ≤ r0 ∧ a ≤ s0 ∧ r0 ≤ m ∧ r0 ≤ md ∧ nn - s0 ≤ b := by
  have e1 := hs0.out
  have e2 := hr0.out
  by_cases hq : md < m
  ·rw [if_pos hq] at e1 e2; omega
  ·rw [if_neg hq] at e1 e2; omega
 go_upto_region 33 with ((with_reducible apply gS 148); refine wl_run rfl (.int .i64 ((nn - 1 : Nat) : Int)) (ex_subN (i := nn) (d := 1) rfl rfl rfl (by omega) (by omega)) ?_)
 go_loopw [20, 21] (fun sv rv wr => ∃ (s r : Nat), s0 ≤ s ∧ s ≤ r ∧ r ≤ r0 ∧ sv = .int .i64 (s : Int) ∧ rv = .int .i64 (r : Int) ∧ DS wr gd L tl ∧ (s = s0 ∨ wA pk0 pw L (s - 1) ≤ wA pk0 pw L (nn - s)) ∧ (r = r0 ∨ wA pk0 pw L (nn - r - 1) ≤ wA pk0 pw L r) ∧ Upd (fun x => x = gd) w wr) (fun i j _ => (intOf j).toNat - (intOf i).toNat)
 case atStart => exact ⟨s0, r0, by omega, by omega, by omega, rfl, rfl, hD, .inl rfl, .inl rfl, Upd.refl _ w⟩
 case round =>
  clear hD
  obtain ⟨s, r, hss, hsr', hrr, rfl, rfl, hD, hlo, hhi, hu⟩ := hrel
  have hml := HN.out
  by_cases hlt : s < r
  ·have hDd : DS wr.drew gd L tl := Blk.drew hD
   obtain ⟨h, hh, hh1, hh2⟩ : ∃ h, (s + r) / 2 = h ∧ s ≤ h ∧ h < r := ⟨_, rfl, by omega, by omega⟩
   by_cases hls : wA pk0 pw L (nn - 1 - h) < wA pk0 pw L h
   ·have hB : decide (cmpZ (L[nn - 1 - h]'(by omega)).1 (L[h]'(by omega)).1 < 0) = true := by
     rw [less_cmp, ← wA_get L _ (by omega), ← wA_get L h (by omega)]
     simpa using hls
    go_wp2_with (first
     | ((with_reducible apply gS 151); refine wl_run rfl (.bool true) (ex_lss rfl rfl rfl (by simpa using hlt)) ?_)
     | ((with_reducible apply gS 154); refine wl_run rfl (.int .i64 ((s + r : Nat) : Int)) (ex_addN rfl rfl rfl (by omega)) ?_)
     | ((with_reducible apply gS 155); refine wl_run rfl (.int .u64 ((s + r : Nat) : Int)) (ex_toU rfl rfl (by omega)) ?_)
     | ((with_reducible apply gS 156); refine wl_run rfl (.int .u64 ((h : Nat) : Int)) (by rw [← hh]; exact ex_halfU rfl rfl rfl) ?_)
     | ((with_reducible apply gS 157); refine wl_run rfl (.int .i64 ((h : Nat) : Int)) (ex_ofU rfl rfl (by omega)) ?_))
    refine wp_region_lx later_ext (by kernel_rfl) (by kernel_rfl) ?_
    refine lx_run (by rfl) (.func (.func 105) #[] #[]) (ex_move rfl rfl) ?_
    simp only [Act.put, sA, sB, sC]
    refine lx_run (by rfl) (.slice (some ⟨gd, 0, none⟩) n c) (ex_move rfl rfl) ?_
    simp only [Act.put, sA, sB, sC]
    refine lx_run (by rfl) (.int .i64 ((nn - 1 : Nat) : Int)) (ex_move rfl rfl) ?_
    simp only [Act.put, sA, sB, sC]
    refine lx_run (by rfl) (.int .i64 ((h : Nat) : Int)) (ex_move rfl rfl) ?_
    simp only [Act.put, sA, sB, sC]
    refine lx_run (by rfl) (.int .i64 ((nn - 1 - h : Nat) : Int)) (ex_subN rfl rfl rfl (by omega) (by omega)) ?_
    simp only [Act.put, sA, sB, sC]
    refine lx_run (by rfl) (.pointer (some ⟨gd, (nn - 1 - h) * 2, none⟩)) (ex_ixPk rfl rfl rfl (by omega)) ?_
    simp only [Act.put, sA, sB, sC]
    refine lx_read (by rfl) (.agg (pkV (L[nn - 1 - h]'(by omega)))) (fun W hW => ex_loadPk rfl (hDd.ext hW) (by omega) rfl) ?_
    simp only [Act.put, sA, sB, sC]
    refine lx_run (by rfl) (.slice (some ⟨gd, 0, none⟩) n c) (ex_move rfl rfl) ?_
    simp only [Act.put, sA, sB, sC]
    refine lx_run (by rfl) (.int .i64 ((h : Nat) : Int)) (ex_move rfl rfl) ?_
    simp only [Act.put, sA, sB, sC]
    refine lx_run (by rfl) (.pointer (some ⟨gd, (h) * 2, none⟩)) (ex_ixPk rfl rfl rfl (by omega)) ?_
    simp only [Act.put, sA, sB, sC]
    refine lx_read (by rfl) (.agg (pkV (L[h]'(by omega)))) (fun W hW => ex_loadPk rfl (hDd.ext hW) (by omega) rfl) ?_
    simp only [Act.put, sA, sB, sC]
    refine lx_callV (by rfl) _ _ _ rfl rfl goesBy #[.agg (pkV (L[nn - 1 - h]'(by omega))), .agg (pkV (L[h]'(by omega)))] (by simp [Act.eval]) (.int .i64 (cmpZ (L[nn - 1 - h]'(by omega)).1 (L[h]'(by omega)).1)) (fun W h => byWeight_any _ _ W) ?_
    simp only [Act.put, sA, sB, sC]
    refine lx_run (by rfl) (.bool true) (ex_lss rfl rfl rfl hB) ?_
    simp only [Act.put, sA, sB, sC]
    refine lx_run (by rfl) (.bool false) (ex_not (b := true) rfl rfl) ?_
    simp only [Act.put, sA, sB, sC]
    refine lx_nil ?_
    intro w4 hx4
    have hD4 := hDd.ext hx4
    have hu4 : Upd (fun x => x = gd) w w4 := hu.drew.trans (Upd.of_ext (S := fun _ => False) hx4) (fun _ h => h.elim)
    go_wp2_with fail
    go_roundw
    case rel => exact ⟨s, h, hss, by omega, by omega, rfl, rfl, hD4, hlo, .inr (by rw [show nn - h - 1 = nn - 1 - h by omega]; omega), hu4⟩
    case measure => simp [intOf]; omega
   ·have hB : decide (cmpZ (L[nn - 1 - h]'(by omega)).1 (L[h]'(by omega)).1 < 0) = false := by
     rw [less_cmp, ← wA_get L _ (by omega), ← wA_get L h (by omega)]
     simpa using hls
    go_wp2_with (first
     | ((with_reducible apply gS 151); refine wl_run rfl (.bool true) (ex_lss rfl rfl rfl (by simpa using hlt)) ?_)
     | ((with_reducible apply gS 154); refine wl_run rfl (.int .i64 ((s + r : Nat) : Int)) (ex_addN rfl rfl rfl (by omega)) ?_)
     | ((with_reducible apply gS 155); refine wl_run rfl (.int .u64 ((s + r : Nat) : Int)) (ex_toU rfl rfl (by omega)) ?_)
     | ((with_reducible apply gS 156); refine wl_run rfl (.int .u64 ((h : Nat) : Int)) (by rw [← hh]; exact ex_halfU rfl rfl rfl) ?_)
     | ((with_reducible apply gS 157); refine wl_run rfl (.int .i64 ((h : Nat) : Int)) (ex_ofU rfl rfl (by omega)) ?_))
    refine wp_region_lx later_ext (by kernel_rfl) (by kernel_rfl) ?_
    refine lx_run (by rfl) (.func (.func 105) #[] #[]) (ex_move rfl rfl) ?_
    simp only [Act.put, sA, sB, sC]
    refine lx_run (by rfl) (.slice (some ⟨gd, 0, none⟩) n c) (ex_move rfl rfl) ?_
    simp only [Act.put, sA, sB, sC]
    refine lx_run (by rfl) (.int .i64 ((nn - 1 : Nat) : Int)) (ex_move rfl rfl) ?_
    simp only [Act.put, sA, sB, sC]
    refine lx_run (by rfl) (.int .i64 ((h : Nat) : Int)) (ex_move rfl rfl) ?_
    simp only [Act.put, sA, sB, sC]
    refine lx_run (by rfl) (.int .i64 ((nn - 1 - h : Nat) : Int)) (ex_subN rfl rfl rfl (by omega) (by omega)) ?_
    simp only [Act.put, sA, sB, sC]
    refine lx_run (by rfl) (.pointer (some ⟨gd, (nn - 1 - h) * 2, none⟩)) (ex_ixPk rfl rfl rfl (by omega)) ?_
    simp only [Act.put, sA, sB, sC]
    refine lx_read (by rfl) (.agg (pkV (L[nn - 1 - h]'(by omega)))) (fun W hW => ex_loadPk rfl (hDd.ext hW) (by omega) rfl) ?_
    simp only [Act.put, sA, sB, sC]
    refine lx_run (by rfl) (.slice (some ⟨gd, 0, none⟩) n c) (ex_move rfl rfl) ?_
    simp only [Act.put, sA, sB, sC]
    refine lx_run (by rfl) (.int .i64 ((h : Nat) : Int)) (ex_move rfl rfl) ?_
    simp only [Act.put, sA, sB, sC]
    refine lx_run (by rfl) (.pointer (some ⟨gd, (h) * 2, none⟩)) (ex_ixPk rfl rfl rfl (by omega)) ?_
    simp only [Act.put, sA, sB, sC]
    refine lx_read (by rfl) (.agg (pkV (L[h]'(by omega)))) (fun W hW => ex_loadPk rfl (hDd.ext hW) (by omega) rfl) ?_
    simp only [Act.put, sA, sB, sC]
    refine lx_callV (by rfl) _ _ _ rfl rfl goesBy #[.agg (pkV (L[nn - 1 - h]'(by omega))), .agg (pkV (L[h]'(by omega)))] (by simp [Act.eval]) (.int .i64 (cmpZ (L[nn - 1 - h]'(by omega)).1 (L[h]'(by omega)).1)) (fun W h => byWeight_any _ _ W) ?_
    simp only [Act.put, sA, sB, sC]
    refine lx_run (by rfl) (.bool false) (ex_lss rfl rfl rfl hB) ?_
    simp only [Act.put, sA, sB, sC]
    refine lx_run (by rfl) (.bool true) (ex_not (b := false) rfl rfl) ?_
    simp only [Act.put, sA, sB, sC]
    refine lx_nil ?_
    intro w4 hx4
    have hD4 := hDd.ext hx4
    have hu4 : Upd (fun x => x = gd) w w4 := hu.drew.trans (Upd.of_ext (S := fun _ => False) hx4) (fun _ h => h.elim)
    go_wp2_with ((with_reducible apply gS 173); refine wl_run rfl (.int .i64 ((h + 1 : Nat) : Int)) (ex_addN (i := h) (d := 1) rfl rfl rfl (by omega)) ?_)
    go_roundw
    case rel => exact ⟨h + 1, r, by omega, by omega, hrr, by go_num, rfl, hD4, .inr (by rw [Nat.add_sub_cancel, show nn - (h + 1) = nn - 1 - h by omega]; omega), hhi, hu4⟩
    case measure => simp [intOf]; omega
  ·obtain rfl : s = r := by omega
   have hf : SM.Found pk0 pw L a m b md s := ⟨by rw [hnn, ← hs0.out]; exact hss, by rw [← hr0.out]; exact hrr, by rw [hnn, ← hs0.out]; exact hlo, by rw [hnn, ← hr0.out]; exact hhi⟩
   obtain ⟨⟨c1, c2, c3, c4, c5⟩, -, -⟩ := hf.at_ pk0 pw (by omega) (by omega) hk1 hk2
   obtain ⟨e, he⟩ : ∃ e, nn - s = e := ⟨_, rfl⟩
   have HHV := hid_ (fun (N : List Pk) (h : ∀ x, at_ pk0 N x = rotAt pk0 L s m e x) => halves pk0 pw (N := N) (by omega) (by omega) hk1 hk2 HS1.out HS2.out hf (by rw [hnn, he]; exact h))
   rw [hnn, he] at HHV
   rw [hnn, he] at c4 c5
   clear hf hlo hhi hss hrr hsr hs0 hr0 hsr'
   go_upto_region 39 with (first
    | ((with_reducible apply gS 151); refine wl_run rfl (.bool false) (ex_lss rfl rfl rfl (by simp)) ?_)
    | ((with_reducible apply gS 177); refine wl_run rfl (.int .i64 ((e : Nat) : Int)) (by rw [← he]; exact ex_subN rfl rfl rfl (by omega) (by omega)) ?_))
   go_cut [185] from 178 to 185 (fun cv wx => cv = .bool (decide (s < m ∧ m < e)) ∧ wx = wr)
   case first =>
    by_cases hq : s < m
    ·by_cases hq2 : m < e
     ·go_wp2_with (first
       | ((with_reducible apply gS 180); refine wl_run rfl (.bool true) (ex_lss rfl rfl rfl (by simpa using hq)) ?_)
       | ((with_reducible apply gS 184); refine wl_run_g (by rfl) (.bool true) (ex_lss rfl rfl rfl (by simpa using hq2)) ?_))
      go_meet
      exact ⟨by rw [decide_eq_true (show s < m ∧ m < e from ⟨hq, hq2⟩)], rfl⟩
     ·go_wp2_with (first
       | ((with_reducible apply gS 180); refine wl_run rfl (.bool true) (ex_lss rfl rfl rfl (by simpa using hq)) ?_)
       | ((with_reducible apply gS 184); refine wl_run_g (by rfl) (.bool false) (ex_lss rfl rfl rfl (by simpa using hq2)) ?_))
      go_meet
      exact ⟨by rw [decide_eq_false (show ¬ (s < m ∧ m < e) from fun h => hq2 h.2)], rfl⟩
    ·go_wp2_with ((with_reducible apply gS 180); refine wl_run rfl (.bool false) (ex_lss rfl rfl rfl (by simpa using hq)) ?_)
     go_meet
     exact ⟨by rw [decide_eq_false (show ¬ (s < m ∧ m < e) from fun h => hq h.1)], rfl⟩
   case rest =>
   obtain ⟨e1, hwx⟩ := hcut
   have hwy := hwx.symm
   subst hwy e1
   clear hwx
   go_upto_if 185 with fail
   go_cut [] from 185 to 191 (fun wx => ∃ N, DS wx gd N tl ∧ (N.Perm L ∧ ∀ x, at_ pk0 N x = rotAt pk0 L s m e x) ∧ Upd (fun x => x = gd) w wx)
   case first =>
    by_cases hq : s < m ∧ m < e
    ·have HROT := hid_ (rotate_any gd L tl n c s m e wr HN.out hn2 hq.1 hq.2 (by omega) HONE.out hD)
     rw [decide_eq_true hq]
     go_wp2_with (go_at_call 157; (with_reducible refine HROT.out.mono ?_); rintro e9 w3 ⟨rfl, N, hD3, hrot, hu3⟩)
     go_meet
     exact ⟨N, hD3, hrot, hu.trans hu3 (fun x h => .inl h)⟩
    ·rw [decide_eq_false hq]
     go_wp2_with fail
     go_meet
     exact ⟨L, hD, ⟨.refl _, fun x => (rot_id pk0 (by omega) x).symm⟩, hu⟩
   case rest =>
   obtain ⟨N, hDN, ⟨hNp, hNr⟩, huN⟩ := hcut
   obtain ⟨k1, k2, k3, k4, k5⟩ := HHV.out N hNr
   have hNseg := rot_seg pk0 ⟨hNp, hNr⟩ c1 c5
   clear hD hu HHV hNr
   go_upto_region 41 with fail
   go_cut [199] from 192 to 199 (fun cv wx => cv = .bool (decide (a < s ∧ s < md)) ∧ wx = wc)
   case first =>
    by_cases hq : a < s
    ·by_cases hq2 : s < md
     ·go_wp2_with (first
       | ((with_reducible apply gS 194); refine wl_run rfl (.bool true) (ex_lss rfl rfl rfl (by simpa using hq)) ?_)
       | ((with_reducible apply gS 198); refine wl_run_g (by rfl) (.bool true) (ex_lss rfl rfl rfl (by simpa using hq2)) ?_))
      go_meet
      exact ⟨by rw [decide_eq_true (show a < s ∧ s < md from ⟨hq, hq2⟩)], rfl⟩
     ·go_wp2_with (first
       | ((with_reducible apply gS 194); refine wl_run rfl (.bool true) (ex_lss rfl rfl rfl (by simpa using hq)) ?_)
       | ((with_reducible apply gS 198); refine wl_run_g (by rfl) (.bool false) (ex_lss rfl rfl rfl (by simpa using hq2)) ?_))
      go_meet
      exact ⟨by rw [decide_eq_false (show ¬ (a < s ∧ s < md) from fun h => hq2 h.2)], rfl⟩
    ·go_wp2_with ((with_reducible apply gS 194); refine wl_run rfl (.bool false) (ex_lss rfl rfl rfl (by simpa using hq)) ?_)
     go_meet
     exact ⟨by rw [decide_eq_false (show ¬ (a < s ∧ s < md) from fun h => hq h.1)], rfl⟩
   case rest =>
   obtain ⟨e1, hwx⟩ := hcut
   have hwy := hwx.symm
   subst hwy e1
   clear hwx
   go_upto_if 199 with fail
   go_cut [] from 199 to 205 (fun wx => ∃ N1, DS wx gd N1 tl ∧ Seg pk0 N N1 a md ∧ Sorted pk0 pw N1 a md ∧ Upd (fun x => x = gd) w wx)
   case first =>
    by_cases hq : a < s ∧ s < md
    ·have HRC := hid_ (HRR.out a s md N wc (by omega) hq.1 hq.2 (by omega) (by omega) hNp hDN k1 k2)
     rw [decide_eq_true hq]
     go_wp2_with (go_at_call 150; (with_reducible refine HRC.out.mono ?_); rintro e9 w3 ⟨rfl, N1, hD3, hs3, ho3, hu3⟩)
     go_meet
     exact ⟨N1, hD3, hs3, ho3, huN.trans hu3 (fun x h => .inl h)⟩
    ·rw [decide_eq_false hq]
     go_wp2_with fail
     go_meet
     exact ⟨N, hDN, Seg.refl pk0 _ _ _, (by by_cases h1 : a < s; (obtain rfl : s = md := by omega); exact k1; (obtain rfl : a = s := by omega); exact k2), huN⟩
   case rest =>
   obtain ⟨N1, hD1, hseg1, hsor1, hu1⟩ := hcut
   have hp1 := hseg1.perm.trans hNp
   have k3' := k3.of_out pk0 pw hseg1 (.inr (Nat.le_refl _))
   have k4' := k4.of_out pk0 pw hseg1 (.inr (by omega))
   have hfin : ∀ N2, Seg pk0 N1 N2 md b → Sorted pk0 pw N2 md b → Seg pk0 L N2 a b ∧ Sorted pk0 pw N2 a b := fun N2 q1 q2 =>
    ⟨((hNseg.wide pk0 c2 c4).trans pk0 (hseg1.wide pk0 (Nat.le_refl _) (by omega))).trans pk0 (q1.wide pk0 (by omega) (Nat.le_refl _)), halves_sorted pk0 pw k5 hseg1 hsor1 q1 q2 (by omega) (by omega)⟩
   have HFIN := hid_ hfin
   clear hfin k5 k1 k2 k3 k4 hDN huN hNseg
   by_cases hq : md < e
   ·by_cases hq2 : e < b
    ·have HRC := hid_ (HRR.out md e b N1 wc (by omega) hq hq2 (by omega) (by omega) hp1 hD1 k3' k4')
     go_wp2_with (first
      | ((with_reducible apply gS 208); refine wl_run rfl (.bool true) (ex_lss rfl rfl rfl (by simpa using hq)) ?_)
      | ((with_reducible apply gS 212); refine wl_run_g (by rfl) (.bool true) (ex_lss rfl rfl rfl (by simpa using hq2)) ?_)
      | (go_at_call 150; (with_reducible refine HRC.out.mono ?_); rintro e9 w3 ⟨rfl, N2, hD3, hs3, ho3, hu3⟩))
     go_end0
     exact ⟨rfl, N2, hD3, (HFIN.out N2 hs3 ho3).1, (HFIN.out N2 hs3 ho3).2, hu1.trans hu3 (fun x h => .inl h)⟩
    ·obtain rfl : e = b := by omega
     go_wp2_with (first
      | ((with_reducible apply gS 208); refine wl_run rfl (.bool true) (ex_lss rfl rfl rfl (by simpa using hq)) ?_)
      | ((with_reducible apply gS 212); refine wl_run_g (by rfl) (.bool false) (ex_lss rfl rfl rfl (by simp)) ?_))
     go_end0
     exact ⟨rfl, N1, hD1, (HFIN.out N1 (Seg.refl pk0 _ _ _) k3').1, (HFIN.out N1 (Seg.refl pk0 _ _ _) k3').2, hu1⟩
   ·obtain rfl : md = e := by omega
    go_wp2_with ((with_reducible apply gS 208); refine wl_run rfl (.bool false) (ex_lss rfl rfl rfl (by simp)) ?_)
    go_end0
    exact ⟨rfl, N1, hD1, (HFIN.out N1 (Seg.refl pk0 _ _ _) k4').1, (HFIN.out N1 (Seg.refl pk0 _ _ _) k4').2, hu1⟩
end
section
open SM
theorem sym_any (gd : Nat) (tl : List Value) (n c : Nat) (hn2 : n ≤ 1000000) : ∀ (k : Nat) (L : List Pk) (a m b : Nat) (w : World), b - a ≤ k → L.length = n → a < m → m < b → b ≤ n → OnesP L → DS w gd L tl → Sorted pk0 pw L a m → Sorted pk0 pw L m b →
 Calls Tryz.prog 150 #[.slice (some ⟨gd, 0, none⟩) n c, .int .i64 (a : Int), .int .i64 (m : Int), .int .i64 (b : Int), .func (.func 105) #[] #[]] w (SortIs gd L tl a b w)
 | 0, L, a, m, b, w, hk, hn, ham, hmb, hbn, hone, hD, h1, h2 => by omega
 | k + 1, L, a, m, b, w, hk, hn, ham, hmb, hbn, hone, hD, h1, h2 => by
   by_cases e1 : m = a + 1
   ·subst e1
    exact symL_any gd L tl n c a b w hn hn2 hmb hbn hone hD h2
   ·by_cases e2 : b = m + 1
    ·subst e2
     exact symR_any gd L tl n c a m w hn hn2 (by omega) hbn hone hD h1
    ·exact symG_any gd L tl n c a m b w hn hn2 (by omega) (by omega) hbn hone hD h1 h2 (fun a' m' b' M W p1 p2 p3 p4 p5 p6 p7 p8 p9 => sym_any gd tl n c hn2 k M a' m' b' W (by omega) (p6.length_eq.trans hn) p2 p3 (by omega) (hone.perm p6) p7 p8 p9)
def Blocked (M : List Pk) (bs p : Nat) : Prop := (∃ q, p = q * bs) ∧ ∀ q, Sorted pk0 pw M (q * bs) (min (q * bs + bs) p)
def BlockedN (M : List Pk) (bs n : Nat) : Prop := ∀ q, Sorted pk0 pw M (q * bs) (min (q * bs + bs) n)
theorem Blocked.zero (M : List Pk) (bs : Nat) : Blocked M bs 0 := ⟨⟨0, by simp⟩, fun q x y h1 h2 h3 => by omega⟩
theorem Blocked.last {M N : List Pk} {bs p t : Nat} (h : Blocked M bs p) (hs : Seg pk0 M N p t) (ho : Sorted pk0 pw N p t) (ht : t ≤ p + bs) : BlockedN N bs t := by
 obtain ⟨⟨k, hk⟩, h⟩ := h
 intro q
 rcases Nat.lt_trichotomy q k with hq | hq | hq
 ·have e : (q + 1) * bs ≤ k * bs := Nat.mul_le_mul_right _ hq
  rw [Nat.add_mul, Nat.one_mul] at e
  have h1 := h q
  rw [Nat.min_eq_left (by omega)] at h1
  have h2 := h1.of_out pk0 pw hs (.inl (by omega))
  exact h2.sub pk0 pw (Nat.le_refl _) (by omega)
 ·subst hq
  rw [← hk]
  exact ho.sub pk0 pw (Nat.le_refl _) (by omega)
 ·have e : (k + 1) * bs ≤ q * bs := Nat.mul_le_mul_right _ hq
  rw [Nat.add_mul, Nat.one_mul] at e
  intro x y h1 h2 h3
  omega
theorem Blocked.step {M N : List Pk} {bs p : Nat} (h : Blocked M bs p) (hs : Seg pk0 M N p (p + bs)) (ho : Sorted pk0 pw N p (p + bs)) : Blocked N bs (p + bs) := by
 refine ⟨?_, h.last hs ho (Nat.le_refl _)⟩
 obtain ⟨⟨k, hk⟩, -⟩ := h
 exact ⟨k + 1, by rw [Nat.add_mul, Nat.one_mul, hk]⟩
def HalfP (M : List Pk) (bs p n : Nat) : Prop := Blocked M (bs + bs) p ∧ ∀ q, p ≤ q * bs → Sorted pk0 pw M (q * bs) (min (q * bs + bs) n)
theorem HalfP.start {M : List Pk} {bs n : Nat} (h : BlockedN M bs n) : HalfP M bs 0 n := ⟨Blocked.zero M _, fun q _ => h q⟩
theorem HalfP.at_ {M : List Pk} {bs p n : Nat} (h : HalfP M bs p n) : Sorted pk0 pw M p (min (p + bs) n) ∧ Sorted pk0 pw M (p + bs) (min (p + bs + bs) n) := by
 obtain ⟨⟨⟨k, hk⟩, -⟩, h⟩ := h
 have e1 : p = (2 * k) * bs := by rw [hk, Nat.mul_add, ← Nat.add_mul]; congr 1; omega
 have h1 := h (2 * k) (by omega)
 have h2 := h (2 * k + 1) (by rw [Nat.add_mul]; omega)
 rw [Nat.add_mul, Nat.one_mul] at h2
 rw [← e1] at h1 h2
 exact ⟨h1, h2⟩
theorem HalfP.step {M N : List Pk} {bs p n : Nat} (h : HalfP M bs p n) (hs : Seg pk0 M N p (p + bs + bs)) (ho : Sorted pk0 pw N p (p + bs + bs)) : HalfP N bs (p + bs + bs) n := by
 rw [Nat.add_assoc] at hs ho ⊢
 refine ⟨h.1.step hs ho, fun q hq => ?_⟩
 exact (h.2 q (by omega)).of_out pk0 pw hs (.inr (by omega))
theorem HalfP.stop {M N : List Pk} {bs p n : Nat} (h : HalfP M bs p n) (hs : Seg pk0 M N p n) (ho : Sorted pk0 pw N p n) (ht : n ≤ p + bs + bs) : BlockedN N (bs + bs) n := h.1.last hs ho (by omega)
theorem BlockedN.all {M : List Pk} {bs n : Nat} (h : BlockedN M bs n) (hn : n ≤ bs) : Sorted pk0 pw M 0 n := by
 have h0 := h 0
 rw [Nat.zero_mul, Nat.zero_add, Nat.min_eq_right hn] at h0
 exact h0
attribute [local irreducible] HalfP Blocked BlockedN
set_option maxRecDepth 20000 in
set_option maxHeartbeats 8000000 in
theorem stable_any (gd : Nat) (L : List Pk) (tl : List Value) (n c : Nat) (w : World) (hn : L.length = n) (hn2 : n ≤ 1000000) (hone : OnesP L) (hD : DS w gd L tl) :
 Calls Tryz.prog 134 #[.slice (some ⟨gd, 0, none⟩) n c, .int .i64 (n : Int), .func (.func 105) #[] #[]] w (SortIs gd L tl 0 n w) := by
 have HI := hid_ (fun (M : List Pk) a b W (h : a ≤ b) (h2 : b ≤ n) (hM : M.Perm L) (hd : DS W gd M tl) => insSort_any gd M tl n c a b W (hM.length_eq.trans hn) hn2 h h2 (hone.perm hM) hd)
 have HS := hid_ (fun (M : List Pk) a m b W (h : a < m) (h1 : m < b) (h2 : b ≤ n) (hM : M.Perm L) (hd : DS W gd M tl) => sym_any gd tl n c hn2 (b - a) M a m b W (Nat.le_refl _) (hM.length_eq.trans hn) h h1 h2 (hone.perm hM) hd)
 have hs0 := Seg.refl pk0 L 0 n
 have hb0 := hid_ (Blocked.zero L 20)
 clear hn hone
 go_enter Tryz.func134, Tryz.ntmps134
 go_upto_region 2 with fail
 go_loopw [7, 8] (fun av bv wr => ∃ (p b : Nat) (M : List Pk), p ≤ n ∧ p + 20 = b ∧ av = .int .i64 (p : Int) ∧ bv = .int .i64 (b : Int) ∧ DS wr gd M tl ∧ Seg pk0 L M 0 n ∧ Hid (Blocked M 20 p) ∧ Upd (fun x => x = gd) w wr) (fun a _ _ => n - (intOf a).toNat)
 case atStart => exact ⟨0, 20, L, by omega, rfl, rfl, rfl, hD, hs0, hb0, Upd.refl _ w⟩
 case round =>
  clear hD hs0 hb0
  obtain ⟨p, b, M, hp, hpb, rfl, rfl, hD, hseg, hB, hu⟩ := hrel
  by_cases hlt : b ≤ n
  ·have HC := hid_ (HI.out M p b wr (by omega) hlt hseg.perm hD)
   go_wp2_with (first
    | ((with_reducible apply gS 13); refine wl_run rfl (.bool true) (ex_leq rfl rfl rfl (by simp; omega)) ?_)
    | (go_at_call 149; (with_reducible refine HC.out.mono ?_); rintro e9 w3 ⟨rfl, N, hD3, hs3, ho3, hu3⟩)
    | ((with_reducible apply gS 22); refine wl_run rfl (.int .i64 ((b + 20 : Nat) : Int)) (ex_addN rfl rfl rfl (by omega)) ?_))
   go_roundw
   case rel => exact ⟨b, b + 20, N, hlt, rfl, by go_num, by go_num, hD3, hseg.trans pk0 (hs3.wide pk0 (Nat.zero_le _) hlt), hid_ (by subst hpb; exact hB.out.step hs3 ho3), hu.trans hu3 (fun x h => .inl h)⟩
   case measure => simp [intOf]; omega
  ·have HC := hid_ (HI.out M p n wr hp (Nat.le_refl _) hseg.perm hD)
   go_upto_region 7 with (first
    | ((with_reducible apply gS 13); refine wl_run rfl (.bool false) (ex_leq rfl rfl rfl (by simp; omega)) ?_)
    | (go_at_call 149; (with_reducible refine HC.out.mono ?_); rintro e9 w3 ⟨rfl, N, hD3, hs3, ho3, hu3⟩))
   have hb0 := hid_ (hB.out.last hs3 ho3 (by omega))
   have hseg3 := hseg.trans pk0 (hs3.wide pk0 (Nat.zero_le _) (Nat.le_refl _))
   have hu0 := hu.trans hu3 (fun x h => .inl h)
   clear hD hseg hB hu hs3 ho3 hu3 HC
   go_loopw [6] (fun sv wr => ∃ (bs : Nat) (M : List Pk), 20 ≤ bs ∧ bs ≤ 2000020 ∧ sv = .int .i64 (bs : Int) ∧ DS wr gd M tl ∧ Seg pk0 L M 0 n ∧ Hid (BlockedN M bs n) ∧ Upd (fun x => x = gd) w wr) (fun a _ => n - (intOf a).toNat)
   case atStart => exact ⟨20, N, by omega, by omega, rfl, hD3, hseg3, hb0, hu0⟩
   case round =>
    clear hD3 hseg3 hb0 hu0
    obtain ⟨bs, M, h20, hbs, rfl, hD, hseg, hB, hu⟩ := hrel
    by_cases hlt2 : bs < n
    ·have hh0 := hid_ (HalfP.start hB.out)
     obtain ⟨b2, hb2⟩ : ∃ b2, bs + bs = b2 := ⟨_, rfl⟩
     go_upto_region 9 with (first
      | ((with_reducible apply gS 30); refine wl_run rfl (.bool true) (ex_lss rfl rfl rfl (by simpa using hlt2)) ?_)
      | ((with_reducible apply gS 32); refine wl_run rfl (.int .i64 (b2 : Int)) (by rw [show b2 = 2 * bs by omega]; exact ex_mulN rfl rfl rfl (by omega)) ?_))
     go_loopw [7, 8] (fun av bv wr => ∃ (p b : Nat) (M : List Pk), p ≤ n ∧ p + bs + bs = b ∧ av = .int .i64 (p : Int) ∧ bv = .int .i64 (b : Int) ∧ DS wr gd M tl ∧ Seg pk0 L M 0 n ∧ Hid (HalfP M bs p n) ∧ Upd (fun x => x = gd) w wr) (fun a _ _ => n - (intOf a).toNat)
     case atStart => exact ⟨0, b2, M, by omega, by omega, rfl, rfl, hD, hseg, hh0, hu⟩
     case round =>
      clear hD hseg hB hu hh0
      obtain ⟨p, b, M, hp, hpb, rfl, rfl, hD, hseg, hH, hu⟩ := hrel
      obtain ⟨m, hpm⟩ : ∃ m, p + bs = m := ⟨_, rfl⟩
      have hat := hid_ hH.out.at_
      rw [hpb, hpm] at hat
      by_cases hlt3 : b ≤ n
      ·have HC := hid_ (HS.out M p m b wr (by omega) (by omega) hlt3 hseg.perm hD (by have := hat.out.1; rwa [Nat.min_eq_left (by omega)] at this) (by have := hat.out.2; rwa [Nat.min_eq_left (by omega)] at this))
       go_wp2_with (first
        | ((with_reducible apply gS 35); refine wl_run rfl (.bool true) (ex_leq rfl rfl rfl (by simp; omega)) ?_)
        | ((with_reducible apply gS 40); refine wl_run rfl (.int .i64 (m : Int)) (by rw [← hpm]; exact ex_addN rfl rfl rfl (by omega)) ?_)
        | (go_at_call 150; (with_reducible refine HC.out.mono ?_); rintro e9 w3 ⟨rfl, N, hD3, hs3, ho3, hu3⟩)
        | ((with_reducible apply gS 47); refine wl_run rfl (.int .i64 (b2 : Int)) (by rw [show b2 = 2 * bs by omega]; exact ex_mulN rfl rfl rfl (by omega)) ?_)
        | ((with_reducible apply gS 48); refine wl_run rfl (.int .i64 ((b + b2 : Nat) : Int)) (ex_addN rfl rfl rfl (by omega)) ?_))
       go_roundw
       case rel => exact ⟨b, b + b2, N, hlt3, by omega, rfl, by go_num, hD3, hseg.trans pk0 (hs3.wide pk0 (Nat.zero_le _) hlt3), hid_ (by subst hpb; exact hH.out.step hs3 ho3), hu.trans hu3 (fun x h => .inl h)⟩
       case measure => simp [intOf]; omega
      ·by_cases hm : m < n
       ·have HC := hid_ (HS.out M p m n wr (by omega) hm (Nat.le_refl _) hseg.perm hD (by have := hat.out.1; rwa [Nat.min_eq_left (by omega)] at this) (by have := hat.out.2; rwa [Nat.min_eq_right (by omega)] at this))
        go_wp2_with (first
         | ((with_reducible apply gS 35); refine wl_run rfl (.bool false) (ex_leq rfl rfl rfl (by simp; omega)) ?_)
         | ((with_reducible apply gS 51); refine wl_run rfl (.int .i64 (m : Int)) (by rw [← hpm]; exact ex_addN rfl rfl rfl (by omega)) ?_)
         | ((with_reducible apply gS 54); refine wl_run rfl (.bool true) (ex_lss rfl rfl rfl (by simp; omega)) ?_)
         | (go_at_call 150; (with_reducible refine HC.out.mono ?_); rintro e9 w3 ⟨rfl, N, hD3, hs3, ho3, hu3⟩)
         | ((with_reducible apply gS 62); refine wl_run rfl (.int .i64 (b2 : Int)) (by rw [show b2 = bs * 2 by omega]; exact ex_mulN rfl rfl rfl (by omega)) ?_))
        go_roundw
        case rel => exact ⟨b2, N, by omega, by omega, by go_num, hD3, hseg.trans pk0 (hs3.wide pk0 (Nat.zero_le _) (Nat.le_refl _)), hid_ (by rw [← hb2]; exact hH.out.stop hs3 ho3 (by omega)), hu.trans hu3 (fun x h => .inl h)⟩
        case measure => simp [intOf]; omega
       ·have hso := hat.out.1
        rw [Nat.min_eq_right (by omega)] at hso
        go_wp2_with (first
         | ((with_reducible apply gS 35); refine wl_run rfl (.bool false) (ex_leq rfl rfl rfl (by simp; omega)) ?_)
         | ((with_reducible apply gS 51); refine wl_run rfl (.int .i64 (m : Int)) (by rw [← hpm]; exact ex_addN rfl rfl rfl (by omega)) ?_)
         | ((with_reducible apply gS 54); refine wl_run rfl (.bool false) (ex_lss rfl rfl rfl (by simp; omega)) ?_)
         | ((with_reducible apply gS 62); refine wl_run rfl (.int .i64 (b2 : Int)) (by rw [show b2 = bs * 2 by omega]; exact ex_mulN rfl rfl rfl (by omega)) ?_))
        go_roundw
        case rel => exact ⟨b2, M, by omega, by omega, by go_num, hD, hseg, hid_ (by rw [← hb2]; exact hH.out.stop (Seg.refl pk0 _ _ _) hso (by omega)), hu⟩
        case measure => simp [intOf]; omega
    ·have hfin := hB.out.all (by omega)
     go_wp2_with ((with_reducible apply gS 30); refine wl_run rfl (.bool false) (ex_lss rfl rfl rfl (by simpa using hlt2)) ?_)
     go_end0
     exact ⟨rfl, M, hD, hseg, hfin, hu⟩
set_option maxRecDepth 20000 in
theorem sort_any (gd : Nat) (L : List Pk) (tl : List Value) (n c : Nat) (w : World) (hn : L.length = n) (hn2 : n ≤ 1000000) (hone : OnesP L) (hD : DS w gd L tl) :
 Calls Tryz.prog 104 #[.slice (some ⟨gd, 0, none⟩) n c, .func (.func 105) #[] #[]] w (SortIs gd L tl 0 n w) := by
 have H := hid_ (stable_any gd L tl n c w hn hn2 hone hD)
 clear hn hone
 go_enter Tryz.func104, Tryz.ntmps104
 go_wp2_with (go_at_call 134; (with_reducible refine H.out.mono ?_); rintro e9 w3 ⟨rfl, N, hD3, hs3, ho3, hu3⟩)
 go_end0
 exact ⟨rfl, N, hD3, hs3, ho3, hu3⟩
end
theorem own_typed {w : World} {base size n : Nat} {e : TypeId} {v : Value} {xs : List Value} (h : w.ownsRow base e size v n xs) : ∀ g, v.ownBlock = some g → ∃ cs, w.heap[g]? = some (.cells cs e (0, 0)) := by
 obtain ⟨-, hh⟩ := h
 intro g hg
 rcases hh with ⟨rfl, -⟩ | ⟨k, cap, cur, rfl, -, hk, -⟩
 ·simp [Value.ownBlock] at hg
 ·have : k = g := by simpa [Value.ownBlock] using hg
  subst this
  exact ⟨_, hk⟩
theorem own_blk_ne {w : World} {B s n g : Nat} {e t : TypeId} {v : Value} {xs : List Value} {cs : Array Value} (h : w.ownsRow B e s v n xs) (hb : Blk w g t cs) (hne : e ≠ t) : some g ≠ v.ownBlock := by
 intro hx
 obtain ⟨ds, h3⟩ := own_typed h g hx.symm
 unfold Blk at hb
 rw [h3] at hb
 injection hb with hb
 injection hb with _ hb
 exact hne hb
end Go.Proofs.YtlhggcbpipmjhaaGreatDoor
