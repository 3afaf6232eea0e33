/- Contracts for the law RescueDecodesCard, part 12: what the functions that it reaches answer, for all arguments that the theorems name. -/
import Derived.Outline
import Derived.Test.YtkggcjdlpendfaaGreatDoorMRescueDecodesCard11
import Derived.Test.YtkggcjdlpendfaaGreatDoorMRescueDecodesCard1
import Derived.Test.YtkggcjdlpendfaaGreatDoorMRescueDecodesCard9
import Derived.Test.YtkggcjdlpendfaaGreatDoorMRescueDecodesCard2
import Derived.Test.YtkggcjdlpendfaaGreatDoorMRescueDecodesCard10
import Derived.WalkKit
namespace Go.Proofs.YtkggcjdlpendfaaGreatDoor
set_option linter.unusedVariables false
set_option linter.unusedSimpArgs false
open Go.RowKit
theorem SL.take {w : World} {A : Option Addr} {n c : Nat} {xs : List Value} (h : SL w 1 (.slice A n c) n xs) {k : Nat} (hk : k ≤ n) : SL w 1 (.slice A k c) k (xs.take k) := by
 obtain ⟨A', c', e, h1, h1', h2, h3⟩ := h
 injection e with e1 e2 e3
 subst e1 e3
 refine ⟨A, c, rfl, by omega, h1', by simp; omega, fun hn => ?_⟩
 obtain ⟨ad, ea, hlt, hc⟩ := h3 (by omega)
 refine ⟨ad, ea, hlt, fun j u hu => hc j u ?_⟩
 have hj : j < k := by have := (List.getElem?_eq_some_iff.1 hu).1; simp at this; omega
 rwa [List.getElem?_take_of_lt hj] at hu
theorem totOK_no1 {cs xs : List Int} (h : allIn cs 0 256 = false) : totOK cs xs = false := by simp [totOK, h]
theorem totOK_no2 {cs xs : List Int} {k : Nat} (hk : k ≤ 16) (h : 256 < sumL cs k) : totOK cs xs = false := by
 cases h1 : allIn cs 0 256 with
 | false => exact totOK_no1 h1
 | true =>
   have key : ∀ j, k ≤ j → sumL cs k ≤ sumL cs j := by
    intro j hj
    induction j with
    | zero => obtain rfl : k = 0 := by omega
              exact Int.le_refl _
    | succ j ih =>
      rcases Nat.lt_or_ge j k with h2 | h2
      ·obtain rfl : k = j + 1 := by omega
       exact Int.le_refl _
      ·exact Int.le_trans (ih h2) (sumL_bd h1 j).2
   have := key 16 hk
   unfold totOK
   have h3 : ¬ sumL cs 16 ≤ 256 := by omega
   simp [h3]
set_option maxRecDepth 20000 in
set_option maxHeartbeats 1000000 in
theorem rcheck_any (cs xs : List Int) (sl : Value) (w : World) (hl : cs.length = 16) (hs : SL w 1 sl xs.length (ints xs)) :
 Calls Tryz.prog 73 #[.agg (tblv cs sl)] w fun e w' => e = .returned (.int .i64 (checkZ cs xs)) ∧ Ext w w' := by
 have hlast := hid_ (fun W g (h : Blk W g 42 (tblv cs sl)) => tblv_last h hl)
 have hts := hid_ (tblv_size cs sl hl)
 have HRG := hid_ (fun W g (h : Blk W g 42 (tblv cs sl)) => tblv_range h)
 have hcl := hid_ ((ints_len cs).trans hl)
 have HIX := hid_ (fun k (hk : k < cs.length) (h16 : k < 16) => fun W => run_index16 (ints cs).toArray k (.int .i64 cs[k]) h16 (bv_at cs k hk) W)
 have HL := hid_ hl
 have hs' := hs
 obtain ⟨A, c, rfl, hc1, hc2, -, -⟩ := hs'
 have HWY := hid_ (fun h1 h2 W => wordsOf_yes cs (.slice A xs.length c) W hl h1 h2)
 have HWN := hid_ (fun h1 h2 W => wordsOf_no cs (.slice A xs.length c) W hl h1 h2)
 generalize tblv cs (.slice A xs.length c) = tv at *
 go_enter Tryz.func73, Tryz.ntmps73
 go_wp2_with (first
  | (refine wBox rfl 42 (.tmp 0) rfl tv rfl ?_; intro w1 g hb1 hx1 hg)
  | (refine wpList_load_mid rfl 40 (.tmp 12) rfl g 0 rfl (ints cs) _ (HRG.out _ _ hb1) Tryz.underlying40 rfl (by rw [hcl.out]; exact size16) ?_))
 have hc16 := hid_ (hlast.out _ _ hb1)
 go_loop [3, 14] (fun v i => ∃ k : Nat, k ≤ 16 ∧ i = .int .i64 (k : Int) ∧ v = .int .i64 (sumL cs k) ∧ (∀ z ∈ cs.take k, 0 ≤ z ∧ z ≤ 256) ∧ 0 ≤ sumL cs k ∧ sumL cs k ≤ 256 * k) (fun _ i => 16 - (intOf i).toNat)
 case atStart => exact ⟨0, by omega, rfl, rfl, by simp, by simp [sumL], by simp [sumL]⟩
 case round =>
  obtain ⟨k, hk, rfl, rfl, hin, s1, s2⟩ := hrel
  by_cases hlt : k < 16
  ·have hkl : k < cs.length := by have := HL.out; omega
   have hix := HIX.out k hkl hlt
   have HS := hid_ (sumL_succ cs k hkl)
   have HIN := hid_ hin
   have HT2 := hid_ (fun h => checkZ_tot (totOK_no2 (cs := cs) (xs := xs) hk h))
   have HT1 := hid_ (fun h => checkZ_tot (totOK_no1 (cs := cs) (xs := xs) h))
   clear hin
   have HO := hid_ (fun W => outside_any cs[k] 0 256 W)
   cases hq : inB cs[k] 0 256 with
   | true =>
     obtain ⟨q1, q2⟩ := inB_iff.1 hq
     have HN := hid_ (allIn_take HIN.out hkl ⟨q1, q2⟩)
     rw [hq] at HO
     generalize sumL cs k = s at *
     by_cases hbig : 256 < s
     ·have hbig' : decide (256 < s) = true := by simpa using hbig
      have HF := hid_ (HT2.out hbig)
      clear hq hbig
      go_wp2_with (go_at_call 54; (with_reducible refine (HO.out _).mono ?_); rintro e w' ⟨rfl, rfl⟩)
      go_ret
      exact ⟨by rw [HF.out]; rfl, hx1⟩
     ·have hbig' : decide (256 < s) = false := by simpa using hbig
      clear hq hbig
      go_wp2_with (go_at_call 54; (with_reducible refine (HO.out _).mono ?_); rintro e w' ⟨rfl, rfl⟩)
      go_round
      case rel => exact ⟨k + 1, by omega, by go_num, by rw [HS.out], HN.out, by rw [HS.out]; omega, by rw [HS.out]; omega⟩
      case measure => simp [intOf]; omega
   | false =>
     have HF := hid_ (HT1.out (allIn_no hkl hq))
     rw [hq] at HO
     clear hq
     go_wp2_with (go_at_call 54; (with_reducible refine (HO.out _).mono ?_); rintro e w' ⟨rfl, rfl⟩)
     go_ret
     exact ⟨by rw [HF.out]; rfl, hx1⟩
  ·have ek : k = 16 := by omega
   rw [ek] at s1 s2 hin ⊢
   have HA := hid_ (show allIn cs 0 256 = true by
    rw [List.take_of_length_le (by have := HL.out; omega)] at hin
    exact allIn_iff.2 hin)
   have HTK : Hid (sumL cs 16 ≤ 256 → sumL cs 16 = xs.length → totOK cs xs = true) := hid_ (fun a b => totOK_iff.2 ⟨HA.out, a, b⟩)
   have HTN : Hid (¬ (sumL cs 16 ≤ 256 ∧ sumL cs 16 = xs.length) → checkZ cs xs = 4) := hid_ (fun a => checkZ_tot (by
    rw [← Bool.not_eq_true, totOK_iff]
    rintro ⟨-, b, d⟩
    exact a ⟨b, d⟩))
   clear hin ek hk hlt
   generalize sumL cs 16 = s at *
   have h16 := hc16.out
   by_cases h1 : s ≤ 256
   ·have h1' : decide (256 < s) = false := by simp; omega
    by_cases h2 : s = xs.length
    ·have HTOK := hid_ (HTK.out h1 h2)
     subst h2
     have hneq : ((xs.length : Int) != (xs.length : Int)) = false := by simp
     have HZ1 := hid_ (fun h2 => checkZ_arg HTOK.out h2)
     have HZ2 := hid_ (fun h2 h3 => checkZ_dup HTOK.out h2 h3)
     have HZ3 := hid_ (fun h2 h3 => checkZ_words HTOK.out h2 h3)
     clear h1
     go_wp2_with fail
     go_loop [39] (fun i => ∃ k : Nat, k ≤ xs.length ∧ i = .int .i64 (k : Int) ∧ ∀ z ∈ xs.take k, 0 ≤ z ∧ z ≤ 255) (fun i => xs.length - (intOf i).toNat)
     case atStart => exact ⟨0, by omega, rfl, by simp⟩
     case round =>
      obtain ⟨k, hk, rfl, hin⟩ := hrel
      have HIN := hid_ hin
      clear hin
      by_cases hlt : k < xs.length
      ·obtain ⟨ad, u, rfl, -, hxk, hcell⟩ := (hs.ext hx1).at1 hlt
       obtain ⟨hkl, rfl⟩ := ints_at _ _ _ hxk
       clear hxk
       have HO := hid_ (fun W => outside_any xs[k] 0 255 W)
       cases hq : inB xs[k] 0 255 with
       | true =>
         have HN := hid_ (allIn_take HIN.out hkl (inB_iff.1 hq))
         rw [hq] at HO
         clear hq
         go_wp2_with (go_at_call 54; (with_reducible refine (HO.out _).mono ?_); rintro e w' ⟨rfl, rfl⟩)
         go_round
         case rel => exact ⟨k + 1, by omega, by go_num, HN.out⟩
         case measure => simp [intOf]; omega
       | false =>
         have HF := hid_ (HZ1.out (allIn_no hkl hq))
         rw [hq] at HO
         clear hq
         go_wp2_with (go_at_call 54; (with_reducible refine (HO.out _).mono ?_); rintro e w' ⟨rfl, rfl⟩)
         go_ret
         exact ⟨by rw [HF.out]; rfl, hx1⟩
      ·have e1 : xs.take k = xs := List.take_of_length_le (by omega)
       have HAX : Hid (allIn xs 0 255 = true) := hid_ (by have := HIN.out; rw [e1] at this; exact allIn_iff.2 this)
       clear e1
       have h16 := hc16.out
       go_wp2_with fail
       go_loop [49] (fun i => ∃ k : Nat, k ≤ xs.length ∧ i = .int .i64 (k : Int) ∧ (xs.take k).Nodup) (fun i => xs.length - (intOf i).toNat)
       case atStart => exact ⟨0, by omega, rfl, by simp⟩
       case round =>
        obtain ⟨m, hm, rfl, hnd⟩ := hrel
        have HND := hid_ hnd
        clear hnd
        by_cases hlt2 : m < xs.length
        ·obtain ⟨ad, u, rfl, -, hxk, hcell⟩ := (hs.ext hx1).at1 hlt2
         obtain ⟨hkl, rfl⟩ := ints_at _ _ _ hxk
         clear hxk
         have HS2 := hid_ (nodup_take_succ hkl)
         have HH := hid_ (fun W (hx : Ext w W) => has_any (xs.take m) (some ad) c m xs[m] W (by simp; omega) (by have := (hs.ext hx).take (k := m) (by omega); rwa [show (ints xs).take m = ints (xs.take m) by simp [ints]] at this))
         have h16 := hc16.out
         by_cases hmem : xs[m] ∈ xs.take m
         ·have hd : decide (xs[m] ∈ xs.take m) = true := by simpa using hmem
          have HF := hid_ (HZ2.out HAX.out (fun hnn => (((HS2.out).1 (List.Nodup.sublist (List.take_sublist _ _) hnn)).2 hmem)))
          rw [hd] at HH
          clear hd hmem
          go_wp2_with (go_at_call 129; (with_reducible refine (HH.out _ hx1).mono ?_); rintro e w' ⟨rfl, rfl⟩)
          go_ret
          exact ⟨by rw [HF.out]; rfl, hx1⟩
         ·have hd : decide (xs[m] ∈ xs.take m) = false := by simpa using hmem
          have HN := hid_ (HS2.out.2 ⟨HND.out, hmem⟩)
          rw [hd] at HH
          clear hd hmem
          go_wp2_with (go_at_call 129; (with_reducible refine (HH.out _ hx1).mono ?_); rintro e w' ⟨rfl, rfl⟩)
          go_round
          case rel => exact ⟨m + 1, by omega, by go_num, HN.out⟩
          case measure => simp [intOf]; omega
        ·have e1 : xs.take m = xs := List.take_of_length_le (by omega)
         rw [e1] at HND
         have HF := hid_ (HZ3.out HAX.out HND.out)
         clear e1
         cases hok : okW cs with
         | true =>
           rw [hok] at HF
           have HW := hid_ (HWY.out HA.out hok)
           clear hok
           go_wp2_with (first
            | (refine wLdB rfl 42 (.tmp 1) rfl _ rfl hb1 _ Tryz.underlying42 rfl 17 sizeTbl hts.out ?_)
            | (go_at_call 130; (with_reducible refine (HW.out _).mono ?_); rintro e w2 ⟨B, d, rfl, hs2, hx2⟩))
           go_ret
           exact ⟨by rw [HF.out]; rfl, hx1.trans hx2⟩
         | false =>
           rw [hok] at HF
           have HW := hid_ (HWN.out HA.out hok)
           clear hok
           go_wp2_with (first
            | (refine wLdB rfl 42 (.tmp 1) rfl _ rfl hb1 _ Tryz.underlying42 rfl 17 sizeTbl hts.out ?_)
            | (go_at_call 130; (with_reducible refine (HW.out _).mono ?_); rintro e w2 ⟨rfl, hx2⟩))
           go_ret
           exact ⟨by rw [HF.out]; rfl, hx1.trans hx2⟩
    ·have h2' : (s != (xs.length : Int)) = true := by simpa using h2
     have HF := hid_ (HTN.out (fun h => h2 h.2))
     clear h2 h1
     go_wp2_with fail
     go_ret
     exact ⟨by rw [HF.out]; rfl, hx1⟩
   ·have h1' : decide (256 < s) = true := by simp; omega
    have HF := hid_ (HTN.out (fun h => h1 h.1))
    clear h1
    go_wp2_with fail
    go_ret
    exact ⟨by rw [HF.out]; rfl, hx1⟩
set_option maxRecDepth 20000 in
set_option maxHeartbeats 4000000 in
theorem tablesCheck_any (t1 t2 : List Value) (z1 z2 : Int) (w : World) (h1 : t1.length = 17) (h2 : t2.length = 17)
 (C1 : ∀ W, Ext w W → Calls Tryz.prog 73 #[.agg t1.toArray] W fun e W' => e = .returned (.int .i64 z1) ∧ Ext W W')
 (C2 : ∀ W, Ext w W → Calls Tryz.prog 73 #[.agg t2.toArray] W fun e W' => e = .returned (.int .i64 z2) ∧ Ext W W') :
 Calls Tryz.prog 76 #[.agg (t1 ++ t2).toArray] w fun e w' => e = .returned (.int .i64 (if z1 = 0 then z2 else z1)) ∧ Ext w w' := by
 have HRT := hid_ (fun W g (hb : Blk W g 44 (t1 ++ t2).toArray) => range_two h1 hb)
 have hl1 := hid_ h1
 have hl2 := hid_ h2
 have HC1 := hid_ C1
 have HC2 := hid_ C2
 clear C1 C2 h1 h2
 generalize htt : (t1 ++ t2).toArray = tt at *
 clear htt
 by_cases hz : z1 = 0
 ·rw [if_pos hz]
  subst hz
  go_enter Tryz.func76, Tryz.ntmps76
  go_wp2_with (first
   | (refine wBox rfl 44 (.tmp 0) rfl tt rfl ?_; intro w1 g hb1 hx1 hg; have hr1 := (HRT.out _ _ hb1).1)
   | (refine wpList_load_mid rfl 42 (.tmp 4) rfl g 0 rfl t1 _ hr1 Tryz.underlying42 rfl (by rw [hl1.out]; exact sizeTbl) ?_)
   | (go_at_call 73; (with_reducible refine (HC1.out _ hx1).mono ?_); rintro e w2 ⟨rfl, hx2⟩; have hr2 := (HRT.out _ _ (hb1.ext hx2)).2)
   | (refine wpList_load_mid rfl 42 (.tmp 10) rfl g 17 rfl t2 _ hr2 Tryz.underlying42 rfl (by rw [hl2.out]; exact sizeTbl) ?_)
   | (go_at_call 73; (with_reducible refine (HC2.out _ (hx1.trans hx2)).mono ?_); rintro e w3 ⟨rfl, hx3⟩))
  go_ret
  exact ⟨rfl, (hx1.trans hx2).trans hx3⟩
 ·rw [if_neg hz]
  have hz1 : (z1 != 0) = true := by simpa using hz
  go_enter Tryz.func76, Tryz.ntmps76
  go_wp2_with (first
   | (refine wBox rfl 44 (.tmp 0) rfl tt rfl ?_; intro w1 g hb1 hx1 hg; have hr1 := (HRT.out _ _ hb1).1)
   | (refine wpList_load_mid rfl 42 (.tmp 4) rfl g 0 rfl t1 _ hr1 Tryz.underlying42 rfl (by rw [hl1.out]; exact sizeTbl) ?_)
   | (go_at_call 73; (with_reducible refine (HC1.out _ hx1).mono ?_); rintro e w2 ⟨rfl, hx2⟩))
  go_ret
  exact ⟨rfl, hx1.trans hx2⟩
set_option maxRecDepth 20000 in
set_option maxHeartbeats 4000000 in
theorem rfcheck_yf (pt : Int) (hpt : pt = 1 ∨ pt = 3) (wd hi ev : Int) (qs : List Int) (t1 t2 : List Value) (A : Option Addr) (n c : Nat) (z1 z2 : Int) (w : World) (hq : qs.length = 64) (h1 : t1.length = 17) (h2 : t2.length = 17)
 (k1 : inB wd 1 64 = true) (k2 : inB hi 1 64 = true) (k3 : inB ev 0 100 = true) (kq : allIn qs 1 255 = false) :
 Calls Tryz.prog 52 #[.agg (fileL wd hi pt qs t1 t2 ev (.slice A n c)).toArray] w fun e w' => e = .returned (.int .i64 (1)) ∧ Ext w w' := by
 have HF := hid_ (fun W g (hb : Blk W g 47 (fileL wd hi pt qs t1 t2 ev (.slice A n c)).toArray) => fileB hb hq h1 h2)
 have W1 := hid_ (fun W => outside_any wd 1 64 W)
 have W2 := hid_ (fun W => outside_any hi 1 64 W)
 have W3 := hid_ (fun W => outside_any ev 0 100 W)
 have HQ : Hid (∀ W, Calls Tryz.prog 67 #[.agg (ints qs).toArray, .int .i64 1, .int .i64 255] W fun e w' => e = .returned (.bool false) ∧ Ext W w') := hid_ (fun W => by have h := blockWithin_any qs 1 255 W hq; rw [kq] at h; exact h)
 clear kq
 have hql := hid_ ((ints_len qs).trans hq)
 have hl3 : Hid ((t1 ++ t2).length = 34) := hid_ (by simp [h1, h2])
 clear h1 h2 hq
 generalize (fileL wd hi pt qs t1 t2 ev (.slice A n c)).toArray = fv at *
 generalize inB wd 1 64 = b1 at *
 generalize inB hi 1 64 = b2 at *
 generalize inB ev 0 100 = b3 at *
 subst k1 k2 k3
 rcases hpt with rfl | rfl
 all_goals
  go_enter Tryz.func52, Tryz.ntmps52
  go_wp2_with (first
   | (refine wBox rfl 47 (.tmp 0) rfl fv rfl ?_; intro w1 g hb1 hx1 hg; have hf1 := HF.out _ _ hb1; have c0 := hf1.c0; have c1 := hf1.c1; have c2 := hf1.c2; have c101 := hf1.c101)
   | (go_at_call 54; (with_reducible refine (W1.out _).mono ?_); rintro e w2 ⟨rfl, rfl⟩)
   | (go_at_call 54; (with_reducible refine (W2.out _).mono ?_); rintro e w2 ⟨rfl, rfl⟩)
   | (go_at_call 54; (with_reducible refine (W3.out _).mono ?_); rintro e w2 ⟨rfl, rfl⟩)
   | (refine wpList_load_mid_g (by rfl) 33 (.tmp 28) rfl g 3 rfl (ints qs) _ hf1.q Tryz.underlying33 rfl (by rw [hql.out]; exact size48) ?_)
   | (go_at_call 67; (with_reducible refine (HQ.out _).mono ?_); rintro e w2 ⟨rfl, hx2⟩; have hb2 := hb1.ext hx2; have hf2 := HF.out _ _ hb2))
  go_ret
  exact ⟨rfl, hx1.trans hx2⟩
set_option maxRecDepth 20000 in
set_option maxHeartbeats 4000000 in
theorem rfcheck_yt (pt : Int) (hpt : pt = 1 ∨ pt = 3) (wd hi ev : Int) (qs : List Int) (t1 t2 : List Value) (A : Option Addr) (n c : Nat) (z1 z2 : Int) (w : World) (hq : qs.length = 64) (h1 : t1.length = 17) (h2 : t2.length = 17)
 (k1 : inB wd 1 64 = true) (k2 : inB hi 1 64 = true) (k3 : inB ev 0 100 = true) (kq : allIn qs 1 255 = true) (o1 : t1.toArray.all (·.oneCell') = true) (o2 : t2.toArray.all (·.oneCell') = true)
 (C1 : ∀ W, Ext w W → Calls Tryz.prog 73 #[.agg t1.toArray] W fun e W' => e = .returned (.int .i64 z1) ∧ Ext W W')
 (C2 : ∀ W, Ext w W → Calls Tryz.prog 73 #[.agg t2.toArray] W fun e W' => e = .returned (.int .i64 z2) ∧ Ext W W') :
 Calls Tryz.prog 52 #[.agg (fileL wd hi pt qs t1 t2 ev (.slice A n c)).toArray] w fun e w' => e = .returned (.int .i64 (if z1 = 0 then (if z2 = 0 then (if 90000 < n then 2 else 0) else z2) else z1)) ∧ Ext w w' := by
 have HF := hid_ (fun W g (hb : Blk W g 47 (fileL wd hi pt qs t1 t2 ev (.slice A n c)).toArray) => fileB hb hq h1 h2)
 have W1 := hid_ (fun W => outside_any wd 1 64 W)
 have W2 := hid_ (fun W => outside_any hi 1 64 W)
 have W3 := hid_ (fun W => outside_any ev 0 100 W)
 have HQ : Hid (∀ W, Calls Tryz.prog 67 #[.agg (ints qs).toArray, .int .i64 1, .int .i64 255] W fun e w' => e = .returned (.bool true) ∧ Ext W w') := hid_ (fun W => by have h := blockWithin_any qs 1 255 W hq; rw [kq] at h; exact h)
 clear kq
 have hql := hid_ ((ints_len qs).trans hq)
 have hl3 : Hid ((t1 ++ t2).length = 34) := hid_ (by simp [h1, h2])
 have HT := hid_ (fun W (hx : Ext w W) => tablesCheck_any t1 t2 z1 z2 W h1 h2 (fun V hV => C1 V (hx.trans hV)) (fun V hV => C2 V (hx.trans hV)))
 clear o1 o2 C1 C2
 clear h1 h2 hq
 generalize (fileL wd hi pt qs t1 t2 ev (.slice A n c)).toArray = fv at *
 generalize inB wd 1 64 = b1 at *
 generalize inB hi 1 64 = b2 at *
 generalize inB ev 0 100 = b3 at *
 subst k1 k2 k3
 have HT0 := HT
 clear HT
 by_cases y1 : z1 = 0
 ·by_cases y2 : z2 = 0
  ·have HT : Hid (∀ W, Ext w W → Calls Tryz.prog 76 #[.agg (t1 ++ t2).toArray] W fun e W' => e = .returned (.int .i64 0) ∧ Ext W W') := hid_ (fun W hW => by have h := HT0.out W hW; rw [if_pos y1, y2] at h; exact h)
   clear HT0
   rw [if_pos y1, if_pos y2]
   clear y1 y2
   by_cases hn : 90000 < n
   ·have hn' : decide ((90000 : Int) < (n : Int)) = true := by simp; omega
    rw [if_pos hn]
    rcases hpt with rfl | rfl
    all_goals
     go_enter Tryz.func52, Tryz.ntmps52
     go_wp2_with (first
      | (refine wBox rfl 47 (.tmp 0) rfl fv rfl ?_; intro w1 g hb1 hx1 hg; have hf1 := HF.out _ _ hb1; have c0 := hf1.c0; have c1 := hf1.c1; have c2 := hf1.c2; have c101 := hf1.c101)
      | (go_at_call 54; (with_reducible refine (W1.out _).mono ?_); rintro e w2 ⟨rfl, rfl⟩)
      | (go_at_call 54; (with_reducible refine (W2.out _).mono ?_); rintro e w2 ⟨rfl, rfl⟩)
      | (go_at_call 54; (with_reducible refine (W3.out _).mono ?_); rintro e w2 ⟨rfl, rfl⟩)
      | (refine wpList_load_mid_g (by rfl) 33 (.tmp 28) rfl g 3 rfl (ints qs) _ hf1.q Tryz.underlying33 rfl (by rw [hql.out]; exact size48) ?_)
      | (go_at_call 67; (with_reducible refine (HQ.out _).mono ?_); rintro e w2 ⟨rfl, hx2⟩; have hb2 := hb1.ext hx2; have hf2 := HF.out _ _ hb2)
      | (refine wpList_load_mid rfl 44 (.tmp 33) rfl g 67 rfl (t1 ++ t2) _ hf2.tt Tryz.underlying44 rfl (by rw [hl3.out]; exact sizeTbls) ?_)
      | (go_at_call 76; (with_reducible refine (HT.out _ (hx1.trans hx2)).mono ?_); rintro e w3 ⟨rfl, hx3⟩; have c102 := (HF.out _ _ (hb2.ext hx3)).c102))
     go_ret
     exact ⟨rfl, (hx1.trans hx2).trans hx3⟩
   ·have hn' : decide ((90000 : Int) < (n : Int)) = false := by simp; omega
    rw [if_neg hn]
    rcases hpt with rfl | rfl
    all_goals
     go_enter Tryz.func52, Tryz.ntmps52
     go_wp2_with (first
      | (refine wBox rfl 47 (.tmp 0) rfl fv rfl ?_; intro w1 g hb1 hx1 hg; have hf1 := HF.out _ _ hb1; have c0 := hf1.c0; have c1 := hf1.c1; have c2 := hf1.c2; have c101 := hf1.c101)
      | (go_at_call 54; (with_reducible refine (W1.out _).mono ?_); rintro e w2 ⟨rfl, rfl⟩)
      | (go_at_call 54; (with_reducible refine (W2.out _).mono ?_); rintro e w2 ⟨rfl, rfl⟩)
      | (go_at_call 54; (with_reducible refine (W3.out _).mono ?_); rintro e w2 ⟨rfl, rfl⟩)
      | (refine wpList_load_mid_g (by rfl) 33 (.tmp 28) rfl g 3 rfl (ints qs) _ hf1.q Tryz.underlying33 rfl (by rw [hql.out]; exact size48) ?_)
      | (go_at_call 67; (with_reducible refine (HQ.out _).mono ?_); rintro e w2 ⟨rfl, hx2⟩; have hb2 := hb1.ext hx2; have hf2 := HF.out _ _ hb2)
      | (refine wpList_load_mid rfl 44 (.tmp 33) rfl g 67 rfl (t1 ++ t2) _ hf2.tt Tryz.underlying44 rfl (by rw [hl3.out]; exact sizeTbls) ?_)
      | (go_at_call 76; (with_reducible refine (HT.out _ (hx1.trans hx2)).mono ?_); rintro e w3 ⟨rfl, hx3⟩; have c102 := (HF.out _ _ (hb2.ext hx3)).c102))
     go_ret
     exact ⟨rfl, (hx1.trans hx2).trans hx3⟩
  ·have HT : Hid (∀ W, Ext w W → Calls Tryz.prog 76 #[.agg (t1 ++ t2).toArray] W fun e W' => e = .returned (.int .i64 z2) ∧ Ext W W') := hid_ (fun W hW => by have h := HT0.out W hW; rw [if_pos y1] at h; exact h)
   clear HT0
   have hz1 : (z2 != 0) = true := by simpa using y2
   rw [if_pos y1, if_neg y2]
   clear y1 y2
   rcases hpt with rfl | rfl
   all_goals
    go_enter Tryz.func52, Tryz.ntmps52
    go_wp2_with (first
     | (refine wBox rfl 47 (.tmp 0) rfl fv rfl ?_; intro w1 g hb1 hx1 hg; have hf1 := HF.out _ _ hb1; have c0 := hf1.c0; have c1 := hf1.c1; have c2 := hf1.c2; have c101 := hf1.c101)
     | (go_at_call 54; (with_reducible refine (W1.out _).mono ?_); rintro e w2 ⟨rfl, rfl⟩)
     | (go_at_call 54; (with_reducible refine (W2.out _).mono ?_); rintro e w2 ⟨rfl, rfl⟩)
     | (go_at_call 54; (with_reducible refine (W3.out _).mono ?_); rintro e w2 ⟨rfl, rfl⟩)
     | (refine wpList_load_mid_g (by rfl) 33 (.tmp 28) rfl g 3 rfl (ints qs) _ hf1.q Tryz.underlying33 rfl (by rw [hql.out]; exact size48) ?_)
     | (go_at_call 67; (with_reducible refine (HQ.out _).mono ?_); rintro e w2 ⟨rfl, hx2⟩; have hb2 := hb1.ext hx2; have hf2 := HF.out _ _ hb2)
     | (refine wpList_load_mid rfl 44 (.tmp 33) rfl g 67 rfl (t1 ++ t2) _ hf2.tt Tryz.underlying44 rfl (by rw [hl3.out]; exact sizeTbls) ?_)
     | (go_at_call 76; (with_reducible refine (HT.out _ (hx1.trans hx2)).mono ?_); rintro e w3 ⟨rfl, hx3⟩; have c102 := (HF.out _ _ (hb2.ext hx3)).c102))
    go_ret
    exact ⟨rfl, (hx1.trans hx2).trans hx3⟩
 ·have HT : Hid (∀ W, Ext w W → Calls Tryz.prog 76 #[.agg (t1 ++ t2).toArray] W fun e W' => e = .returned (.int .i64 z1) ∧ Ext W W') := hid_ (fun W hW => by have h := HT0.out W hW; rw [if_neg y1] at h; exact h)
  clear HT0
  have hz1 : (z1 != 0) = true := by simpa using y1
  rw [if_neg y1]
  clear y1
  rcases hpt with rfl | rfl
  all_goals
   go_enter Tryz.func52, Tryz.ntmps52
   go_wp2_with (first
    | (refine wBox rfl 47 (.tmp 0) rfl fv rfl ?_; intro w1 g hb1 hx1 hg; have hf1 := HF.out _ _ hb1; have c0 := hf1.c0; have c1 := hf1.c1; have c2 := hf1.c2; have c101 := hf1.c101)
    | (go_at_call 54; (with_reducible refine (W1.out _).mono ?_); rintro e w2 ⟨rfl, rfl⟩)
    | (go_at_call 54; (with_reducible refine (W2.out _).mono ?_); rintro e w2 ⟨rfl, rfl⟩)
    | (go_at_call 54; (with_reducible refine (W3.out _).mono ?_); rintro e w2 ⟨rfl, rfl⟩)
    | (refine wpList_load_mid_g (by rfl) 33 (.tmp 28) rfl g 3 rfl (ints qs) _ hf1.q Tryz.underlying33 rfl (by rw [hql.out]; exact size48) ?_)
    | (go_at_call 67; (with_reducible refine (HQ.out _).mono ?_); rintro e w2 ⟨rfl, hx2⟩; have hb2 := hb1.ext hx2; have hf2 := HF.out _ _ hb2)
    | (refine wpList_load_mid rfl 44 (.tmp 33) rfl g 67 rfl (t1 ++ t2) _ hf2.tt Tryz.underlying44 rfl (by rw [hl3.out]; exact sizeTbls) ?_)
    | (go_at_call 76; (with_reducible refine (HT.out _ (hx1.trans hx2)).mono ?_); rintro e w3 ⟨rfl, hx3⟩; have c102 := (HF.out _ _ (hb2.ext hx3)).c102))
   go_ret
   exact ⟨rfl, (hx1.trans hx2).trans hx3⟩
theorem tblL_one (cs : List Int) (sl : Value) (h : ∃ A n c, sl = .slice A n c) : (tblL cs sl).toArray.all (·.oneCell') = true := by
 obtain ⟨A, n, c, rfl⟩ := h
 refine all_oneCell_toArray fun v hv => ?_
 unfold tblL at hv
 rcases List.mem_append.1 hv with hv | hv
 ·obtain ⟨z, -, rfl⟩ := List.mem_map.1 hv
  rfl
 ·rw [List.mem_singleton.1 hv]
  rfl
theorem argsOK_iff {wd hi pt ev : Int} (h : argsOK wd hi pt ev = true) : inB wd 1 64 = true ∧ inB hi 1 64 = true ∧ inB ev 0 100 = true ∧ (pt = 1 ∨ pt = 3) := by
 unfold argsOK at h
 simp only [Bool.and_eq_true, Bool.or_eq_true, beq_iff_eq] at h
 exact ⟨h.1.1.1, h.1.1.2, h.2, h.1.2⟩
theorem fcheck_any (wd hi pt ev : Int) (qs cs1 xs1 : List Int) (s1 : Value) (cs2 xs2 : List Int) (s2 : Value) (bs : List Nat) (sd : Value) (w : World) (hq : qs.length = 64) (h1 : cs1.length = 16) (h2 : cs2.length = 16)
 (hs1 : SL w 1 s1 xs1.length (ints xs1)) (hs2 : SL w 1 s2 xs2.length (ints xs2)) (hsd : SL w 1 sd bs.length (bytesV bs)) :
 Calls Tryz.prog 50 #[.agg (fileL wd hi pt qs (tblL cs1 s1) (tblL cs2 s2) ev sd).toArray] w fun e w' => e = .returned (.int .i64 (fcheckZ wd hi pt qs (checkZ cs1 xs1) (checkZ cs2 xs2) ev bs.length)) ∧ Ext w w' := by
 have o1 := tblL_one cs1 s1 (let ⟨A, c, h, _⟩ := hs1; ⟨A, _, c, h⟩)
 have o2 := tblL_one cs2 s2 (let ⟨A, c, h, _⟩ := hs2; ⟨A, _, c, h⟩)
 obtain ⟨A, c, rfl, -⟩ := hsd
 have l1 := tblL_len cs1 s1 h1
 have l2 := tblL_len cs2 s2 h2
 unfold fcheckZ
 cases ha : argsOK wd hi pt ev with
 | false => exact fcheck_no wd hi pt ev qs _ _ _ w hq l1 l2 ha
 | true =>
   obtain ⟨k1, k2, k3, hp⟩ := argsOK_iff ha
   cases kq : allIn qs 1 255 with
   | false =>
     exact fcheck_yf pt hp wd hi ev qs _ _ A _ c 0 0 w hq l1 l2 k1 k2 k3 kq
   | true =>
     exact fcheck_yt pt hp wd hi ev qs _ _ A _ c _ _ w hq l1 l2 k1 k2 k3 kq o1 o2 (fun W hW => check_any cs1 xs1 s1 W h1 (hs1.ext hW)) (fun W hW => check_any cs2 xs2 s2 W h2 (hs2.ext hW))
theorem rfcheck_any (wd hi pt ev : Int) (qs cs1 xs1 : List Int) (s1 : Value) (cs2 xs2 : List Int) (s2 : Value) (bs : List Nat) (sd : Value) (w : World) (hq : qs.length = 64) (h1 : cs1.length = 16) (h2 : cs2.length = 16)
 (hs1 : SL w 1 s1 xs1.length (ints xs1)) (hs2 : SL w 1 s2 xs2.length (ints xs2)) (hsd : SL w 1 sd bs.length (bytesV bs)) :
 Calls Tryz.prog 52 #[.agg (fileL wd hi pt qs (tblL cs1 s1) (tblL cs2 s2) ev sd).toArray] w fun e w' => e = .returned (.int .i64 (fcheckZ wd hi pt qs (checkZ cs1 xs1) (checkZ cs2 xs2) ev bs.length)) ∧ Ext w w' := by
 have o1 := tblL_one cs1 s1 (let ⟨A, c, h, _⟩ := hs1; ⟨A, _, c, h⟩)
 have o2 := tblL_one cs2 s2 (let ⟨A, c, h, _⟩ := hs2; ⟨A, _, c, h⟩)
 obtain ⟨A, c, rfl, -⟩ := hsd
 have l1 := tblL_len cs1 s1 h1
 have l2 := tblL_len cs2 s2 h2
 unfold fcheckZ
 cases ha : argsOK wd hi pt ev with
 | false => exact rfcheck_no wd hi pt ev qs _ _ _ w hq l1 l2 ha
 | true =>
   obtain ⟨k1, k2, k3, hp⟩ := argsOK_iff ha
   cases kq : allIn qs 1 255 with
   | false =>
     exact rfcheck_yf pt hp wd hi ev qs _ _ A _ c 0 0 w hq l1 l2 k1 k2 k3 kq
   | true =>
     exact rfcheck_yt pt hp wd hi ev qs _ _ A _ c _ _ w hq l1 l2 k1 k2 k3 kq o1 o2 (fun W hW => rcheck_any cs1 xs1 s1 W h1 (hs1.ext hW)) (fun W hW => rcheck_any cs2 xs2 s2 W h2 (hs2.ext hW))
def zstep (s : Int × Int × Bool) : Int × Int × Bool :=
 if s.2.2 then (if s.2.1 = 7 then (s.1 + 1, s.2.1, false) else if s.1 = 0 then (s.1, s.2.1 + 1, false) else (s.1 - 1, s.2.1 + 1, true))
 else (if s.1 = 7 then (s.1, s.2.1 + 1, true) else if s.2.1 = 0 then (s.1 + 1, s.2.1, true) else (s.1 + 1, s.2.1 - 1, false))
def zst : Nat → Int × Int × Bool
 | 0 => (0, 0, true)
 | k + 1 => zstep (zst k)
def zigAt (k : Nat) : Int := 8 * (zst k).1 + (zst k).2.1
def zigL : List Int := (List.range 64).map zigAt
theorem zst_bd (k : Nat) (h : k < 64) : 0 ≤ (zst k).1 ∧ (zst k).1 ≤ 7 ∧ 0 ≤ (zst k).2.1 ∧ (zst k).2.1 ≤ 7 :=
 (by decide +kernel : ∀ j : Fin 64, 0 ≤ (zst j.val).1 ∧ (zst j.val).1 ≤ 7 ∧ 0 ≤ (zst j.val).2.1 ∧ (zst j.val).2.1 ≤ 7) ⟨k, h⟩
theorem zigL_len : zigL.length = 64 := by simp [zigL]
theorem zigL_take_succ (k : Nat) (h : k < 64) : zigL.take (k + 1) = zigL.take k ++ [zigAt k] := by
 rw [List.take_succ_eq_append_getElem (by rw [zigL_len]; exact h)]
 simp [zigL]
theorem zigL_get (k : Nat) (h : k < zigL.length) : zigL[k] = zigAt k := by simp [zigL]
theorem zigAt_bd (k : Nat) (h : k < 64) : 0 ≤ zigAt k ∧ zigAt k < 64 := by
 have := zst_bd k h
 unfold zigAt
 omega
def zrow (s k : Nat) : List Int := (List.range k).filterMap fun (j : Nat) =>
 let r : Int := if s % 2 = 0 then 7 - (j : Int) else (j : Int)
 if 0 ≤ (s : Int) - r ∧ (s : Int) - r ≤ 7 then some (8 * r + (s - r)) else none
theorem zrow_succ (s k : Nat) : zrow s (k + 1) = zrow s k ++ (if 0 ≤ (s : Int) - (if s % 2 = 0 then 7 - (k : Int) else k) ∧ (s : Int) - (if s % 2 = 0 then 7 - (k : Int) else k) ≤ 7 then [8 * (if s % 2 = 0 then 7 - (k : Int) else k) + (s - (if s % 2 = 0 then 7 - (k : Int) else k))] else []) := by
 unfold zrow
 rw [List.range_succ, List.filterMap_append]
 congr 1
 simp only [List.filterMap_cons, List.filterMap_nil]
 by_cases h : 0 ≤ (s : Int) - (if s % 2 = 0 then 7 - (k : Int) else k) ∧ (s : Int) - (if s % 2 = 0 then 7 - (k : Int) else k) ≤ 7
 ·rw [if_pos h, if_pos h]
 ·rw [if_neg h, if_neg h]
def zall (s : Nat) : List Int := (List.range s).flatMap fun s => zrow s 8
theorem zall_succ (s : Nat) : zall (s + 1) = zall s ++ zrow s 8 := by
 unfold zall
 rw [List.range_succ, List.flatMap_append]
 simp
theorem zall_15 : zall 15 = zigL := by decide +kernel
theorem zlen (s k : Nat) (hs : s ≤ 15) (hk : k ≤ 8) : (zall s ++ zrow s k).length ≤ 200 :=
 (by decide +kernel : ∀ (s : Fin 16) (k : Fin 9), (zall s.val ++ zrow s.val k.val).length ≤ 200) ⟨s, by omega⟩ ⟨k, by omega⟩
def zfrom (zs : List Int) (k : Nat) : List Int := (List.range k).foldl (fun l i => l.set (zigAt i).toNat (zs.getD i 0)) (List.replicate 64 0)
theorem zfrom_succ (zs : List Int) (k : Nat) : zfrom zs (k + 1) = (zfrom zs k).set (zigAt k).toNat (zs.getD k 0) := by
 unfold zfrom
 rw [List.range_succ, List.foldl_append]
 rfl
theorem zfrom_len (zs : List Int) (k : Nat) : (zfrom zs k).length = 64 := by
 induction k with
 | zero => simp [zfrom]
 | succ k ih => rw [zfrom_succ]; simpa using ih
def zto (zs : List Int) : List Int := (List.range 64).map fun i => zs.getD (zigAt i).toNat 0
theorem zto_len (zs : List Int) : (zto zs).length = 64 := by simp [zto]
theorem zto_set (zs : List Int) (k : Nat) (h : k < 64) : ((zto zs).take k ++ List.replicate (64 - k) 0).set k (zs.getD (zigAt k).toNat 0) = (zto zs).take (k + 1) ++ List.replicate (64 - (k + 1)) 0 := by
 have hl : ((zto zs).take k).length = k := by rw [List.length_take, zto_len]; omega
 rw [List.set_append_right _ _ (by omega), hl, Nat.sub_self, List.take_succ_eq_append_getElem (by rw [zto_len]; exact h)]
 obtain ⟨m, hm⟩ : ∃ m, 64 - k = m + 1 := ⟨64 - k - 1, by omega⟩
 have hm2 : 64 - (k + 1) = m := by omega
 rw [hm, hm2, List.replicate_succ, List.set_cons_zero]
 simp [zto]
theorem size47 : (Tryz.prog.info? 32).map (·.size) = some 64 := by kernel_rfl
theorem zero47 : (Tryz.prog.info? 32).bind (·.zero) = some (.agg (bv (List.replicate 64 0))) := by kernel_rfl
theorem elt_int : Elt Tryz.prog 22 3 1 8 := ⟨Tryz.underlying22, by kernel_rfl, by omega⟩
theorem zord_set (k : Nat) (h : k < 64) (z : Int) : (zigL.take k ++ List.replicate (64 - k) 0).set k z = zigL.take k ++ [z] ++ List.replicate (64 - (k + 1)) 0 := by
 have hl : (zigL.take k).length = k := by rw [List.length_take, zigL_len]; omega
 rw [List.set_append_right _ _ (by omega), hl, Nat.sub_self]
 obtain ⟨m, hm⟩ : ∃ m, 64 - k = m + 1 := ⟨64 - k - 1, by omega⟩
 have hm2 : 64 - (k + 1) = m := by omega
 rw [hm, hm2, List.replicate_succ, List.set_cons_zero]
 simp
theorem tup {s : Int × Int × Bool} {a b : Int} {c : Bool} (h : s = (a, b, c)) : s.1 = a ∧ s.2.1 = b ∧ s.2.2 = c := by subst h; exact ⟨rfl, rfl, rfl⟩
set_option maxHeartbeats 800000 in
theorem order_any (w : World) : Calls Tryz.prog 139 #[] w fun e w' => e = .returned (.agg (bv zigL)) ∧ Ext w w' := by
 go_enter Tryz.func139, Tryz.ntmps139
 go_wp2_with (refine wpList_alloc_abs rfl 32 rfl _ zero47 ?_; intro w1 g hb1 hx1 hg)
 go_loopw [1, 2, 3, 5] (fun r c u i wr => ∃ k : Nat, k ≤ 64 ∧ i = .int .i64 k ∧ r = .int .i64 (zst k).1 ∧ c = .int .i64 (zst k).2.1 ∧ u = .bool (zst k).2.2 ∧ Blk wr g 32 (bv (zigL.take k ++ List.replicate (64 - k) 0)) ∧ Ext w wr) (fun _ _ _ i _ => 64 - (intOf i).toNat)
 case atStart => exact ⟨0, by omega, rfl, rfl, rfl, rfl, hb1, hx1⟩
 case round =>
  obtain ⟨k, hk, rfl, rfl, rfl, rfl, hb, hx⟩ := hrel
  by_cases hlt : k < 64
  ·obtain ⟨b1, b2, b3, b4⟩ := zst_bd k hlt
   have HS : Hid (zst (k + 1) = zstep (zst k)) := hid_ rfl
   have HZ : Hid (zigAt k = 8 * (zst k).1 + (zst k).2.1) := hid_ rfl
   obtain ⟨old, hold⟩ : ∃ u, wr.cell? ⟨g, k, none⟩ = some u := by
    rw [hb.cell k]
    exact ⟨_, bv_at _ k (by simp [zigL_len]; omega)⟩
   have hfr := hb.frozen k
   have hnew := hid_ (hb.set_ k (.int .i64 (8 * (zst k).1 + (zst k).2.1)))
   generalize hst : zst k = st at *
   obtain ⟨r, c, u⟩ := st
   have HST := hid_ hst
   clear hst
   simp only at b1 b2 b3 b4 HZ hnew
   have fin : ∀ (a b : Int) (d : Bool), zstep (r, c, u) = (a, b, d) → zst (k + 1) = (a, b, d) := fun a b d h => by rw [HS.out, h]
   have FIN := hid_ fin
   have hblk : Hid (Blk (wr.setCell ⟨g, k, none⟩ (.int .i64 (8 * r + c))) g 32 (bv (zigL.take (k + 1) ++ List.replicate (64 - (k + 1)) 0))) := by
    have := hnew.out
    rw [bv_set, zord_set k hlt] at this
    rw [zigL_take_succ k hlt, HZ.out]
    exact this
   have hxx := hid_ (hx.setCell (p := ⟨g, k, none⟩) hg (.int .i64 (8 * r + c)))
   clear fin hnew hb hx
   cases u with
   | true =>
     by_cases h7 : c = 7
     ·obtain ⟨f1, f2, f3⟩ := tup (FIN.out (r + 1) c false (by simp [zstep, h7]))
      have F := hid_ f1; have F2 := hid_ f2; have F3 := hid_ f3
      have h7' : (c == 7) = true := by simpa using h7
      clear f1 f2 f3 h7
      go_wp2_with fail
      go_roundw
      case rel => exact ⟨k + 1, by omega, by go_num, by rw [F.out], by rw [F2.out], by rw [F3.out], hblk.out, hxx.out⟩
      case measure => simp [intOf]; omega
     ·have h7' : (c == 7) = false := by simpa using h7
      by_cases h0 : r = 0
      ·obtain ⟨f1, f2, f3⟩ := tup (FIN.out r (c + 1) false (by simp [zstep, h7, h0]))
       have F := hid_ f1; have F2 := hid_ f2; have F3 := hid_ f3
       have h0' : (r == 0) = true := by simpa using h0
       clear f1 f2 f3 h7 h0
       go_wp2_with fail
       go_roundw
       case rel => exact ⟨k + 1, by omega, by go_num, by rw [F.out], by rw [F2.out], by rw [F3.out], hblk.out, hxx.out⟩
       case measure => simp [intOf]; omega
      ·obtain ⟨f1, f2, f3⟩ := tup (FIN.out (r - 1) (c + 1) true (by simp [zstep, h7, h0]))
       have F := hid_ f1; have F2 := hid_ f2; have F3 := hid_ f3
       have h0' : (r == 0) = false := by simpa using h0
       clear f1 f2 f3 h7 h0
       go_wp2_with fail
       go_roundw
       case rel => exact ⟨k + 1, by omega, by go_num, by rw [F.out], by rw [F2.out], by rw [F3.out], hblk.out, hxx.out⟩
       case measure => simp [intOf]; omega
   | false =>
     by_cases h7 : r = 7
     ·obtain ⟨f1, f2, f3⟩ := tup (FIN.out r (c + 1) true (by simp [zstep, h7]))
      have F := hid_ f1; have F2 := hid_ f2; have F3 := hid_ f3
      have h7' : (r == 7) = true := by simpa using h7
      clear f1 f2 f3 h7
      go_wp2_with fail
      go_roundw
      case rel => exact ⟨k + 1, by omega, by go_num, by rw [F.out], by rw [F2.out], by rw [F3.out], hblk.out, hxx.out⟩
      case measure => simp [intOf]; omega
     ·have h7' : (r == 7) = false := by simpa using h7
      by_cases h0 : c = 0
      ·obtain ⟨f1, f2, f3⟩ := tup (FIN.out (r + 1) c true (by simp [zstep, h7, h0]))
       have F := hid_ f1; have F2 := hid_ f2; have F3 := hid_ f3
       have h0' : (c == 0) = true := by simpa using h0
       clear f1 f2 f3 h7 h0
       go_wp2_with fail
       go_roundw
       case rel => exact ⟨k + 1, by omega, by go_num, by rw [F.out], by rw [F2.out], by rw [F3.out], hblk.out, hxx.out⟩
       case measure => simp [intOf]; omega
      ·obtain ⟨f1, f2, f3⟩ := tup (FIN.out (r + 1) (c - 1) false (by simp [zstep, h7, h0]))
       have F := hid_ f1; have F2 := hid_ f2; have F3 := hid_ f3
       have h0' : (c == 0) = false := by simpa using h0
       clear f1 f2 f3 h7 h0
       go_wp2_with fail
       go_roundw
       case rel => exact ⟨k + 1, by omega, by go_num, by rw [F.out], by rw [F2.out], by rw [F3.out], hblk.out, hxx.out⟩
       case measure => simp [intOf]; omega
  ·obtain rfl : k = 64 := by omega
   have hs : Hid ((bv zigL).size = 64) := hid_ (by rw [bv_size, zigL_len])
   have ho := hid_ (bv_one zigL)
   have e : zigL.take 64 ++ List.replicate (64 - 64) 0 = zigL := by rw [List.take_of_length_le (by rw [zigL_len]; omega)]; simp
   rw [e] at hb
   clear e
   generalize hcz : bv zigL = cz at *
   have HCZ := hid_ hcz
   clear hcz
   go_wp2_with (first
    | (refine wLdB rfl 32 (.tmp 0) rfl _ rfl hb _ Tryz.underlying32 rfl 64 size47 hs.out ?_)
    | (refine wStB rfl 32 (.tmp 0) (.tmp 51) rfl _ _ rfl rfl hb 64 size47 hs.out hs.out ho.out ?_; intro w7 hb7 hg7))
   exact ret_cell rfl rfl _ rfl hb7 _ Tryz.underlying32 rfl 64 size47 hs.out ⟨by rw [HCZ.out], hx.grown hg7 hg⟩
set_option maxHeartbeats 800000 in
theorem rzigOrder_own (w : World) : Calls Tryz.prog 185 #[] w fun e w' => ∃ v, e = .returned v ∧ w'.ownsRow w.heap.size 3 1 v 64 (ints zigL) ∧ Ext w w' := by
 go_enter Tryz.func185, Tryz.ntmps185
 go_wp2_with fail
 go_loopw [1, 6] (fun v i wr => ∃ s : Nat, s ≤ 15 ∧ i = .int .i64 s ∧ wr.ownsRow w.heap.size 3 1 v (zall s).length (ints (zall s)) ∧ Ext w wr) (fun _ i _ => 15 - (intOf i).toNat)
 case atStart => exact ⟨0, by omega, rfl, World.ownsRow_nil _ _ _ _, Ext.refl w⟩
 case round =>
  obtain ⟨s, hs, rfl, hown, hx⟩ := hrel
  by_cases hlt : s < 15
  ·have hsd : decide ((s : Int) < 15) = true := by simp; omega
   go_wp2_with fail
   obtain ⟨wo, rfl⟩ : ∃ wo : World, wo = wr := ⟨_, rfl⟩
   go_loopw [1, 9] (fun v i wr => ∃ k : Nat, k ≤ 8 ∧ i = .int .i64 k ∧ wr.ownsRow w.heap.size 3 1 v (zall s ++ zrow s k).length (ints (zall s ++ zrow s k)) ∧ Ext w wr) (fun _ i _ => 8 - (intOf i).toNat)
   case atStart => exact ⟨0, by omega, rfl, by simpa [zrow] using hown, hx⟩
   case round =>
    obtain ⟨k, hk, rfl, hown2, hx2⟩ := hrel
    by_cases hlk : k < 8
    ·have hzl := zlen s k hs hk
     have hlen : (ints (zall s ++ zrow s k)).length = (zall s ++ zrow s k).length := ints_len _
     have HZ := hid_ (zrow_succ s k)
     by_cases hp : s % 2 = 0
     ·have hp' : ((s : Int) % 2 == 0) = true := by simp; omega
      rw [if_pos hp] at HZ
      cases hq : inB ((s : Int) - (7 - (k : Int))) 0 7 with
      | true =>
        have hin := inB_iff.1 hq
        have HZ2 := hid_ (HZ.out.trans (by rw [if_pos hin]))
        clear HZ hin hp hlen
        go_wp2_with (first
         | (go_at_call 54; refine (outside_any _ _ _ _).mono ?_; rintro e w' ⟨rfl, rfl⟩)
         | (at_builtin; go_must (refine wpList_append_sl elt_int rfl _ _ rfl w.heap.size _ _ _ rfl (hown2.alloc _) _ 1 [.int .i64 _] rfl (one_sl _ _ _) (int_one _) (by omega) (by omega) (by have := hx2.size; simp; omega) ?_); intro v' w7 hown7 hb7))
        go_roundw
        case rel =>
         refine ⟨k + 1, by omega, by go_num, ?_, (hx2.alloc _).trans' hb7⟩
         rw [HZ2.out, ← List.append_assoc]
         exact own_snoc hown7
        case measure => simp [intOf]; omega
      | false =>
        have hin := inB_not.1 hq
        have HZ2 := hid_ (HZ.out.trans (by rw [if_neg (by omega)]))
        clear HZ hin hp hlen
        go_wp2_with (go_at_call 54; refine (outside_any _ _ _ _).mono ?_; rintro e w' ⟨rfl, rfl⟩)
        go_roundw
        case rel => exact ⟨k + 1, by omega, by go_num, by rw [HZ2.out, List.append_nil]; exact hown2, hx2⟩
        case measure => simp [intOf]; omega
     ·have hp' : ((s : Int) % 2 == 0) = false := by simp; omega
      rw [if_neg hp] at HZ
      cases hq : inB ((s : Int) - (k : Int)) 0 7 with
      | true =>
        have hin := inB_iff.1 hq
        have HZ2 := hid_ (HZ.out.trans (by rw [if_pos hin]))
        clear HZ hin hp hlen
        go_wp2_with (first
         | (go_at_call 54; refine (outside_any _ _ _ _).mono ?_; rintro e w' ⟨rfl, rfl⟩)
         | (at_builtin; go_must (refine wpList_append_sl elt_int rfl _ _ rfl w.heap.size _ _ _ rfl (hown2.alloc _) _ 1 [.int .i64 _] rfl (one_sl _ _ _) (int_one _) (by omega) (by omega) (by have := hx2.size; simp; omega) ?_); intro v' w7 hown7 hb7))
        go_roundw
        case rel =>
         refine ⟨k + 1, by omega, by go_num, ?_, (hx2.alloc _).trans' hb7⟩
         rw [HZ2.out, ← List.append_assoc]
         exact own_snoc hown7
        case measure => simp [intOf]; omega
      | false =>
        have hin := inB_not.1 hq
        have HZ2 := hid_ (HZ.out.trans (by rw [if_neg (by omega)]))
        clear HZ hin hp hlen
        go_wp2_with (go_at_call 54; refine (outside_any _ _ _ _).mono ?_; rintro e w' ⟨rfl, rfl⟩)
        go_roundw
        case rel => exact ⟨k + 1, by omega, by go_num, by rw [HZ2.out, List.append_nil]; exact hown2, hx2⟩
        case measure => simp [intOf]; omega
    ·obtain rfl : k = 8 := by omega
     have HS := hid_ (zall_succ s)
     go_wp2_with fail
     go_roundw
     case rel => exact ⟨s + 1, by omega, by go_num, by rw [HS.out]; exact hown2, hx2⟩
     case measure => simp [intOf]; omega
  ·obtain rfl : s = 15 := by omega
   rw [zall_15] at hown
   rw [zigL_len] at hown
   have HSL := hid_ hown
   clear hown
   go_wp2_with fail
   go_ret
   exact ⟨_, rfl, HSL.out, hx⟩
theorem rzigOrder_sl (w : World) : Calls Tryz.prog 185 #[] w fun e w' => ∃ A c, e = .returned (.slice A 64 c) ∧ SL w' 1 (.slice A 64 c) 64 (ints zigL) ∧ (∀ ad, A = some ad → w.heap.size ≤ ad.block) ∧ Ext w w' :=
 (rzigOrder_own w).mono fun e w' ⟨v, he, hs, hx⟩ => by
   obtain ⟨A, c, rfl, h1, h2⟩ := own_form hs
   exact ⟨A, c, he, h1, h2, hx⟩
theorem run_index47 (cs : Array Value) (i : Nat) (u : Value) (hi : i < 64) (hu : cs[i]? = some u) (w : World) : (Instr.index 32 (.agg cs) (.int .i64 (i : Int))).run Tryz.prog w = .ok u w :=
 run_index_agg _ _ 64 cs i u Tryz.underlying32 _ Tryz.underlying3 sizeInt hi hu w
theorem zigN (k : Nat) (h : k < 64) : ∃ n : Nat, zigAt k = (n : Int) ∧ n < 64 := by
 have := zigAt_bd k h
 exact ⟨(zigAt k).toNat, by omega, by omega⟩
end Go.Proofs.YtkggcjdlpendfaaGreatDoor
