/- Contracts for the law RescueHurtsCard, part 6: what the functions that it reaches answer, for all arguments that the theorems name. -/
import Derived.Test.YtkggcjdlpendfaaGreatDoorMRescueHurtsCard3
import Derived.Outline
import Derived.Test.YtkggcjdlpendfaaGreatDoorMRescueHurtsCard2
import Derived.Test.YtkggcjdlpendfaaGreatDoorMRescueHurtsCard1
import Derived.Test.YtkggcjdlpendfaaGreatDoorMRescueHurtsCard5
import Derived.ArgAppend
import Derived.Lib.SlBytesConst
import Derived.Deep.Cut
import Derived.Test.YtkggcjdlpendfaaGreatDoorMRescueHurtsCard4
import Derived.RangeFuncNested
import Derived.RangeFuncBound
import Derived.RangeFuncCalls
import Derived.RangeFuncLeaves
import Derived.OwnWalkIn
import Derived.TacticsInMore
import Derived.LoopNIn
import Derived.LoopIn
import Derived.Laws.MakeOwn
import Derived.WideKeyPair
import Derived.IntWalk
import Derived.Deep.CutRange
import Derived.BigGuardPart
import Derived.Deep.Slices
import Derived.Lib.FrozenHead
import Derived.Lib.Builder
import Derived.Lib.UnsafeStr
import Derived.Lib.AppendStr
import Derived.Laws.Externs
import Derived.RegionTactic
import Derived.Shelf.Small.Bits
import Derived.Shelf.Strconv.Itoa0
import Derived.Shelf.Strings.Search1
import Derived.Shelf.Strings.Search2
import Derived.Shelf.Strings.Search3
import Derived.Shelf.LaysM
import Derived.Shelf.Strings.Shaped
import Derived.Shelf.Strings.Prefix
import Derived.Shelf.Bytes.SlIndexSmall
import Derived.Ground.SlbNamesProg
import Derived.Shelf.Bytes.SlCountOne
import Derived.Shelf.Bytes.SlIndexAt
import Derived.Shelf.Bytes.SlSearch0
import Derived.Shelf.Bytes.SlSearch1
import Derived.Shelf.Bytes.SlSearch2
import Derived.Shelf.Bytes.SlIndexWhole
import Derived.Shelf.Bytes.SlCountWhole
import Derived.Shelf.Bytes.Small
import Derived.Shelf.Bytes.IndexByte
import Derived.Test.YtkggcjdlpendfaaGreatDoorProg
import Derived.Laws.CopyOwn
namespace Go.Proofs.YtkggcjdlpendfaaGreatDoor
set_option linter.unusedVariables false
set_option linter.unusedSimpArgs false
open Go.RowKit
set_option maxRecDepth 20000 in
set_option maxHeartbeats 4000000 in
theorem rfcheck_na (wd hi pt ev : Int) (qs : List Int) (t1 t2 : List Value) (sd : Value) (w : World) (hq : qs.length = 64) (h1 : t1.length = 17) (h2 : t2.length = 17) (k1 : inB wd 1 64 = false) :
 Calls Tryz.prog 52 #[.agg (fileL wd hi pt qs t1 t2 ev sd).toArray] w fun e w' => e = .returned (.int .i64 1) ∧ Ext w w' := by
 have HF := hid_ (fun W g (hb : Blk W g 47 (fileL wd hi pt qs t1 t2 ev sd).toArray) => fileB hb hq h1 h2)
 have W1 := hid_ (fun W => outside_any wd 1 64 W)
 have W2 := hid_ (fun W => outside_any hi 1 64 W)
 have W3 := hid_ (fun W => outside_any ev 0 100 W)
 generalize (fileL wd hi pt qs t1 t2 ev sd).toArray = fv at *
 generalize inB wd 1 64 = b1 at *
 generalize inB hi 1 64 = b2 at *
 generalize inB ev 0 100 = b3 at *
 subst k1
 go_enter Tryz.func52, Tryz.ntmps52
 go_wp2_with (first
  | (refine wBox rfl 47 (.tmp 0) rfl fv rfl ?_; intro w1 g hb1 hx1 hg; obtain ⟨c0, c1, c2, -, -, -, -, c101, -⟩ := HF.out _ _ hb1)
  | (go_at_call 54; (with_reducible refine (W1.out _).mono ?_); rintro e w2 ⟨rfl, rfl⟩)
  | (go_at_call 54; (with_reducible refine (W2.out _).mono ?_); rintro e w2 ⟨rfl, rfl⟩)
  | (go_at_call 54; (with_reducible refine (W3.out _).mono ?_); rintro e w2 ⟨rfl, rfl⟩))
 go_ret
 exact ⟨rfl, hx1⟩
set_option maxRecDepth 20000 in
set_option maxHeartbeats 4000000 in
theorem rfcheck_nb (wd hi pt ev : Int) (qs : List Int) (t1 t2 : List Value) (sd : Value) (w : World) (hq : qs.length = 64) (h1 : t1.length = 17) (h2 : t2.length = 17) (k1 : inB wd 1 64 = true) (k2 : inB hi 1 64 = false) :
 Calls Tryz.prog 52 #[.agg (fileL wd hi pt qs t1 t2 ev sd).toArray] w fun e w' => e = .returned (.int .i64 1) ∧ Ext w w' := by
 have HF := hid_ (fun W g (hb : Blk W g 47 (fileL wd hi pt qs t1 t2 ev sd).toArray) => fileB hb hq h1 h2)
 have W1 := hid_ (fun W => outside_any wd 1 64 W)
 have W2 := hid_ (fun W => outside_any hi 1 64 W)
 have W3 := hid_ (fun W => outside_any ev 0 100 W)
 generalize (fileL wd hi pt qs t1 t2 ev sd).toArray = fv at *
 generalize inB wd 1 64 = b1 at *
 generalize inB hi 1 64 = b2 at *
 generalize inB ev 0 100 = b3 at *
 subst k1 k2
 go_enter Tryz.func52, Tryz.ntmps52
 go_wp2_with (first
  | (refine wBox rfl 47 (.tmp 0) rfl fv rfl ?_; intro w1 g hb1 hx1 hg; obtain ⟨c0, c1, c2, -, -, -, -, c101, -⟩ := HF.out _ _ hb1)
  | (go_at_call 54; (with_reducible refine (W1.out _).mono ?_); rintro e w2 ⟨rfl, rfl⟩)
  | (go_at_call 54; (with_reducible refine (W2.out _).mono ?_); rintro e w2 ⟨rfl, rfl⟩)
  | (go_at_call 54; (with_reducible refine (W3.out _).mono ?_); rintro e w2 ⟨rfl, rfl⟩))
 go_ret
 exact ⟨rfl, hx1⟩
set_option maxRecDepth 20000 in
set_option maxHeartbeats 4000000 in
theorem rfcheck_nc (wd hi pt ev : Int) (qs : List Int) (t1 t2 : List Value) (sd : Value) (w : World) (hq : qs.length = 64) (h1 : t1.length = 17) (h2 : t2.length = 17) (k1 : inB wd 1 64 = true) (k2 : inB hi 1 64 = true) (p1 : (pt != 1) = true) (p2 : (pt != 3) = true) :
 Calls Tryz.prog 52 #[.agg (fileL wd hi pt qs t1 t2 ev sd).toArray] w fun e w' => e = .returned (.int .i64 1) ∧ Ext w w' := by
 have HF := hid_ (fun W g (hb : Blk W g 47 (fileL wd hi pt qs t1 t2 ev sd).toArray) => fileB hb hq h1 h2)
 have W1 := hid_ (fun W => outside_any wd 1 64 W)
 have W2 := hid_ (fun W => outside_any hi 1 64 W)
 have W3 := hid_ (fun W => outside_any ev 0 100 W)
 generalize (fileL wd hi pt qs t1 t2 ev sd).toArray = fv at *
 generalize inB wd 1 64 = b1 at *
 generalize inB hi 1 64 = b2 at *
 generalize inB ev 0 100 = b3 at *
 subst k1 k2
 go_enter Tryz.func52, Tryz.ntmps52
 go_wp2_with (first
  | (refine wBox rfl 47 (.tmp 0) rfl fv rfl ?_; intro w1 g hb1 hx1 hg; obtain ⟨c0, c1, c2, -, -, -, -, c101, -⟩ := HF.out _ _ hb1)
  | (go_at_call 54; (with_reducible refine (W1.out _).mono ?_); rintro e w2 ⟨rfl, rfl⟩)
  | (go_at_call 54; (with_reducible refine (W2.out _).mono ?_); rintro e w2 ⟨rfl, rfl⟩)
  | (go_at_call 54; (with_reducible refine (W3.out _).mono ?_); rintro e w2 ⟨rfl, rfl⟩))
 go_ret
 exact ⟨rfl, hx1⟩
set_option maxRecDepth 20000 in
set_option maxHeartbeats 4000000 in
theorem rfcheck_nd (wd hi ev : Int) (qs : List Int) (t1 t2 : List Value) (sd : Value) (w : World) (hq : qs.length = 64) (h1 : t1.length = 17) (h2 : t2.length = 17) (k1 : inB wd 1 64 = true) (k2 : inB hi 1 64 = true) (k3 : inB ev 0 100 = false) :
 Calls Tryz.prog 52 #[.agg (fileL wd hi 1 qs t1 t2 ev sd).toArray] w fun e w' => e = .returned (.int .i64 1) ∧ Ext w w' := by
 have HF := hid_ (fun W g (hb : Blk W g 47 (fileL wd hi 1 qs t1 t2 ev sd).toArray) => fileB hb hq h1 h2)
 have W1 := hid_ (fun W => outside_any wd 1 64 W)
 have W2 := hid_ (fun W => outside_any hi 1 64 W)
 have W3 := hid_ (fun W => outside_any ev 0 100 W)
 generalize (fileL wd hi 1 qs t1 t2 ev sd).toArray = fv at *
 generalize inB wd 1 64 = b1 at *
 generalize inB hi 1 64 = b2 at *
 generalize inB ev 0 100 = b3 at *
 subst k1 k2 k3
 go_enter Tryz.func52, Tryz.ntmps52
 go_wp2_with (first
  | (refine wBox rfl 47 (.tmp 0) rfl fv rfl ?_; intro w1 g hb1 hx1 hg; obtain ⟨c0, c1, c2, -, -, -, -, c101, -⟩ := HF.out _ _ hb1)
  | (go_at_call 54; (with_reducible refine (W1.out _).mono ?_); rintro e w2 ⟨rfl, rfl⟩)
  | (go_at_call 54; (with_reducible refine (W2.out _).mono ?_); rintro e w2 ⟨rfl, rfl⟩)
  | (go_at_call 54; (with_reducible refine (W3.out _).mono ?_); rintro e w2 ⟨rfl, rfl⟩))
 go_ret
 exact ⟨rfl, hx1⟩
set_option maxRecDepth 20000 in
set_option maxHeartbeats 4000000 in
theorem rfcheck_ne (wd hi ev : Int) (qs : List Int) (t1 t2 : List Value) (sd : Value) (w : World) (hq : qs.length = 64) (h1 : t1.length = 17) (h2 : t2.length = 17) (k1 : inB wd 1 64 = true) (k2 : inB hi 1 64 = true) (k3 : inB ev 0 100 = false) :
 Calls Tryz.prog 52 #[.agg (fileL wd hi 3 qs t1 t2 ev sd).toArray] w fun e w' => e = .returned (.int .i64 1) ∧ Ext w w' := by
 have HF := hid_ (fun W g (hb : Blk W g 47 (fileL wd hi 3 qs t1 t2 ev sd).toArray) => fileB hb hq h1 h2)
 have W1 := hid_ (fun W => outside_any wd 1 64 W)
 have W2 := hid_ (fun W => outside_any hi 1 64 W)
 have W3 := hid_ (fun W => outside_any ev 0 100 W)
 generalize (fileL wd hi 3 qs t1 t2 ev sd).toArray = fv at *
 generalize inB wd 1 64 = b1 at *
 generalize inB hi 1 64 = b2 at *
 generalize inB ev 0 100 = b3 at *
 subst k1 k2 k3
 go_enter Tryz.func52, Tryz.ntmps52
 go_wp2_with (first
  | (refine wBox rfl 47 (.tmp 0) rfl fv rfl ?_; intro w1 g hb1 hx1 hg; obtain ⟨c0, c1, c2, -, -, -, -, c101, -⟩ := HF.out _ _ hb1)
  | (go_at_call 54; (with_reducible refine (W1.out _).mono ?_); rintro e w2 ⟨rfl, rfl⟩)
  | (go_at_call 54; (with_reducible refine (W2.out _).mono ?_); rintro e w2 ⟨rfl, rfl⟩)
  | (go_at_call 54; (with_reducible refine (W3.out _).mono ?_); rintro e w2 ⟨rfl, rfl⟩))
 go_ret
 exact ⟨rfl, hx1⟩
theorem rfcheck_no (wd hi pt ev : Int) (qs : List Int) (t1 t2 : List Value) (sd : Value) (w : World) (hq : qs.length = 64) (h1 : t1.length = 17) (h2 : t2.length = 17) (h : argsOK wd hi pt ev = false) :
 Calls Tryz.prog 52 #[.agg (fileL wd hi pt qs t1 t2 ev sd).toArray] w fun e w' => e = .returned (.int .i64 1) ∧ Ext w w' := by
 unfold argsOK at h
 cases k1 : inB wd 1 64 with
 | false => exact rfcheck_na wd hi pt ev qs t1 t2 sd w hq h1 h2 k1
 | true =>
   cases k2 : inB hi 1 64 with
   | false => exact rfcheck_nb wd hi pt ev qs t1 t2 sd w hq h1 h2 k1 k2
   | true =>
     by_cases p1 : pt = 1
     ·subst p1
      cases k3 : inB ev 0 100 with
      | false => exact rfcheck_nd wd hi ev qs t1 t2 sd w hq h1 h2 k1 k2 k3
      | true => rw [k1, k2, k3] at h; cases h
     ·by_cases p3 : pt = 3
      ·subst p3
       cases k3 : inB ev 0 100 with
       | false => exact rfcheck_ne wd hi ev qs t1 t2 sd w hq h1 h2 k1 k2 k3
       | true => rw [k1, k2, k3] at h; cases h
      ·exact rfcheck_nc wd hi pt ev qs t1 t2 sd w hq h1 h2 k1 k2 (by simpa using p1) (by simpa using p3)
theorem SL.take {w : World} {A : Option Addr} {n c : Nat} {xs : List Value} (h : SL w 1 (.slice A n c) n xs) {k : Nat} (hk : k ≤ n) : SL w 1 (.slice A k c) k (xs.take k) := by
 obtain ⟨A', c', e, h1, h1', h2, h3⟩ := h
 injection e with e1 e2 e3
 subst e1 e3
 refine ⟨A, c, rfl, by omega, h1', by simp; omega, fun hn => ?_⟩
 obtain ⟨ad, ea, hlt, hc⟩ := h3 (by omega)
 refine ⟨ad, ea, hlt, fun j u hu => hc j u ?_⟩
 have hj : j < k := by have := (List.getElem?_eq_some_iff.1 hu).1; simp at this; omega
 rwa [List.getElem?_take_of_lt hj] at hu
theorem totOK_no1 {cs xs : List Int} (h : allIn cs 0 256 = false) : totOK cs xs = false := by simp [totOK, h]
theorem totOK_no2 {cs xs : List Int} {k : Nat} (hk : k ≤ 16) (h : 256 < sumL cs k) : totOK cs xs = false := by
 cases h1 : allIn cs 0 256 with
 | false => exact totOK_no1 h1
 | true =>
   have key : ∀ j, k ≤ j → sumL cs k ≤ sumL cs j := by
    intro j hj
    induction j with
    | zero => obtain rfl : k = 0 := by omega
              exact Int.le_refl _
    | succ j ih =>
      rcases Nat.lt_or_ge j k with h2 | h2
      ·obtain rfl : k = j + 1 := by omega
       exact Int.le_refl _
      ·exact Int.le_trans (ih h2) (sumL_bd h1 j).2
   have := key 16 hk
   unfold totOK
   have h3 : ¬ sumL cs 16 ≤ 256 := by omega
   simp [h3]
set_option maxRecDepth 20000 in
set_option maxHeartbeats 1000000 in
theorem rcheck_any (cs xs : List Int) (sl : Value) (w : World) (hl : cs.length = 16) (hs : SL w 1 sl xs.length (ints xs)) :
 Calls Tryz.prog 73 #[.agg (tblv cs sl)] w fun e w' => e = .returned (.int .i64 (checkZ cs xs)) ∧ Ext w w' := by
 have hlast := hid_ (fun W g (h : Blk W g 42 (tblv cs sl)) => tblv_last h hl)
 have hts := hid_ (tblv_size cs sl hl)
 have HRG := hid_ (fun W g (h : Blk W g 42 (tblv cs sl)) => tblv_range h)
 have hcl := hid_ ((ints_len cs).trans hl)
 have HIX := hid_ (fun k (hk : k < cs.length) (h16 : k < 16) => fun W => run_index16 (ints cs).toArray k (.int .i64 cs[k]) h16 (bv_at cs k hk) W)
 have HL := hid_ hl
 have hs' := hs
 obtain ⟨A, c, rfl, hc1, hc2, -, -⟩ := hs'
 have HWY := hid_ (fun h1 h2 W => wordsOf_yes cs (.slice A xs.length c) W hl h1 h2)
 have HWN := hid_ (fun h1 h2 W => wordsOf_no cs (.slice A xs.length c) W hl h1 h2)
 generalize tblv cs (.slice A xs.length c) = tv at *
 go_enter Tryz.func73, Tryz.ntmps73
 go_wp2_with (first
  | (refine wBox rfl 42 (.tmp 0) rfl tv rfl ?_; intro w1 g hb1 hx1 hg)
  | (refine wpList_load_mid rfl 40 (.tmp 12) rfl g 0 rfl (ints cs) _ (HRG.out _ _ hb1) Tryz.underlying40 rfl (by rw [hcl.out]; exact size16) ?_))
 have hc16 := hid_ (hlast.out _ _ hb1)
 go_loop [3, 14] (fun v i => ∃ k : Nat, k ≤ 16 ∧ i = .int .i64 (k : Int) ∧ v = .int .i64 (sumL cs k) ∧ (∀ z ∈ cs.take k, 0 ≤ z ∧ z ≤ 256) ∧ 0 ≤ sumL cs k ∧ sumL cs k ≤ 256 * k) (fun _ i => 16 - (intOf i).toNat)
 case atStart => exact ⟨0, by omega, rfl, rfl, by simp, by simp [sumL], by simp [sumL]⟩
 case round =>
  obtain ⟨k, hk, rfl, rfl, hin, s1, s2⟩ := hrel
  by_cases hlt : k < 16
  ·have hkl : k < cs.length := by have := HL.out; omega
   have hix := HIX.out k hkl hlt
   have HS := hid_ (sumL_succ cs k hkl)
   have HIN := hid_ hin
   have HT2 := hid_ (fun h => checkZ_tot (totOK_no2 (cs := cs) (xs := xs) hk h))
   have HT1 := hid_ (fun h => checkZ_tot (totOK_no1 (cs := cs) (xs := xs) h))
   clear hin
   have HO := hid_ (fun W => outside_any cs[k] 0 256 W)
   cases hq : inB cs[k] 0 256 with
   | true =>
     obtain ⟨q1, q2⟩ := inB_iff.1 hq
     have HN := hid_ (allIn_take HIN.out hkl ⟨q1, q2⟩)
     rw [hq] at HO
     generalize sumL cs k = s at *
     by_cases hbig : 256 < s
     ·have hbig' : decide (256 < s) = true := by simpa using hbig
      have HF := hid_ (HT2.out hbig)
      clear hq hbig
      go_wp2_with (go_at_call 54; (with_reducible refine (HO.out _).mono ?_); rintro e w' ⟨rfl, rfl⟩)
      go_ret
      exact ⟨by rw [HF.out]; rfl, hx1⟩
     ·have hbig' : decide (256 < s) = false := by simpa using hbig
      clear hq hbig
      go_wp2_with (go_at_call 54; (with_reducible refine (HO.out _).mono ?_); rintro e w' ⟨rfl, rfl⟩)
      go_round
      case rel => exact ⟨k + 1, by omega, by go_num, by rw [HS.out], HN.out, by rw [HS.out]; omega, by rw [HS.out]; omega⟩
      case measure => simp [intOf]; omega
   | false =>
     have HF := hid_ (HT1.out (allIn_no hkl hq))
     rw [hq] at HO
     clear hq
     go_wp2_with (go_at_call 54; (with_reducible refine (HO.out _).mono ?_); rintro e w' ⟨rfl, rfl⟩)
     go_ret
     exact ⟨by rw [HF.out]; rfl, hx1⟩
  ·have ek : k = 16 := by omega
   rw [ek] at s1 s2 hin ⊢
   have HA := hid_ (show allIn cs 0 256 = true by
    rw [List.take_of_length_le (by have := HL.out; omega)] at hin
    exact allIn_iff.2 hin)
   have HTK : Hid (sumL cs 16 ≤ 256 → sumL cs 16 = xs.length → totOK cs xs = true) := hid_ (fun a b => totOK_iff.2 ⟨HA.out, a, b⟩)
   have HTN : Hid (¬ (sumL cs 16 ≤ 256 ∧ sumL cs 16 = xs.length) → checkZ cs xs = 4) := hid_ (fun a => checkZ_tot (by
    rw [← Bool.not_eq_true, totOK_iff]
    rintro ⟨-, b, d⟩
    exact a ⟨b, d⟩))
   clear hin ek hk hlt
   generalize sumL cs 16 = s at *
   have h16 := hc16.out
   by_cases h1 : s ≤ 256
   ·have h1' : decide (256 < s) = false := by simp; omega
    by_cases h2 : s = xs.length
    ·have HTOK := hid_ (HTK.out h1 h2)
     subst h2
     have hneq : ((xs.length : Int) != (xs.length : Int)) = false := by simp
     have HZ1 := hid_ (fun h2 => checkZ_arg HTOK.out h2)
     have HZ2 := hid_ (fun h2 h3 => checkZ_dup HTOK.out h2 h3)
     have HZ3 := hid_ (fun h2 h3 => checkZ_words HTOK.out h2 h3)
     clear h1
     go_wp2_with fail
     go_loop [39] (fun i => ∃ k : Nat, k ≤ xs.length ∧ i = .int .i64 (k : Int) ∧ ∀ z ∈ xs.take k, 0 ≤ z ∧ z ≤ 255) (fun i => xs.length - (intOf i).toNat)
     case atStart => exact ⟨0, by omega, rfl, by simp⟩
     case round =>
      obtain ⟨k, hk, rfl, hin⟩ := hrel
      have HIN := hid_ hin
      clear hin
      by_cases hlt : k < xs.length
      ·obtain ⟨ad, u, rfl, -, hxk, hcell⟩ := (hs.ext hx1).at1 hlt
       obtain ⟨hkl, rfl⟩ := ints_at _ _ _ hxk
       clear hxk
       have HO := hid_ (fun W => outside_any xs[k] 0 255 W)
       cases hq : inB xs[k] 0 255 with
       | true =>
         have HN := hid_ (allIn_take HIN.out hkl (inB_iff.1 hq))
         rw [hq] at HO
         clear hq
         go_wp2_with (go_at_call 54; (with_reducible refine (HO.out _).mono ?_); rintro e w' ⟨rfl, rfl⟩)
         go_round
         case rel => exact ⟨k + 1, by omega, by go_num, HN.out⟩
         case measure => simp [intOf]; omega
       | false =>
         have HF := hid_ (HZ1.out (allIn_no hkl hq))
         rw [hq] at HO
         clear hq
         go_wp2_with (go_at_call 54; (with_reducible refine (HO.out _).mono ?_); rintro e w' ⟨rfl, rfl⟩)
         go_ret
         exact ⟨by rw [HF.out]; rfl, hx1⟩
      ·have e1 : xs.take k = xs := List.take_of_length_le (by omega)
       have HAX : Hid (allIn xs 0 255 = true) := hid_ (by have := HIN.out; rw [e1] at this; exact allIn_iff.2 this)
       clear e1
       have h16 := hc16.out
       go_wp2_with fail
       go_loop [49] (fun i => ∃ k : Nat, k ≤ xs.length ∧ i = .int .i64 (k : Int) ∧ (xs.take k).Nodup) (fun i => xs.length - (intOf i).toNat)
       case atStart => exact ⟨0, by omega, rfl, by simp⟩
       case round =>
        obtain ⟨m, hm, rfl, hnd⟩ := hrel
        have HND := hid_ hnd
        clear hnd
        by_cases hlt2 : m < xs.length
        ·obtain ⟨ad, u, rfl, -, hxk, hcell⟩ := (hs.ext hx1).at1 hlt2
         obtain ⟨hkl, rfl⟩ := ints_at _ _ _ hxk
         clear hxk
         have HS2 := hid_ (nodup_take_succ hkl)
         have HH := hid_ (fun W (hx : Ext w W) => has_any (xs.take m) (some ad) c m xs[m] W (by simp; omega) (by have := (hs.ext hx).take (k := m) (by omega); rwa [show (ints xs).take m = ints (xs.take m) by simp [ints]] at this))
         have h16 := hc16.out
         by_cases hmem : xs[m] ∈ xs.take m
         ·have hd : decide (xs[m] ∈ xs.take m) = true := by simpa using hmem
          have HF := hid_ (HZ2.out HAX.out (fun hnn => (((HS2.out).1 (List.Nodup.sublist (List.take_sublist _ _) hnn)).2 hmem)))
          rw [hd] at HH
          clear hd hmem
          go_wp2_with (go_at_call 129; (with_reducible refine (HH.out _ hx1).mono ?_); rintro e w' ⟨rfl, rfl⟩)
          go_ret
          exact ⟨by rw [HF.out]; rfl, hx1⟩
         ·have hd : decide (xs[m] ∈ xs.take m) = false := by simpa using hmem
          have HN := hid_ (HS2.out.2 ⟨HND.out, hmem⟩)
          rw [hd] at HH
          clear hd hmem
          go_wp2_with (go_at_call 129; (with_reducible refine (HH.out _ hx1).mono ?_); rintro e w' ⟨rfl, rfl⟩)
          go_round
          case rel => exact ⟨m + 1, by omega, by go_num, HN.out⟩
          case measure => simp [intOf]; omega
        ·have e1 : xs.take m = xs := List.take_of_length_le (by omega)
         rw [e1] at HND
         have HF := hid_ (HZ3.out HAX.out HND.out)
         clear e1
         cases hok : okW cs with
         | true =>
           rw [hok] at HF
           have HW := hid_ (HWY.out HA.out hok)
           clear hok
           go_wp2_with (first
            | (refine wLdB rfl 42 (.tmp 1) rfl _ rfl hb1 _ Tryz.underlying42 rfl 17 sizeTbl hts.out ?_)
            | (go_at_call 130; (with_reducible refine (HW.out _).mono ?_); rintro e w2 ⟨B, d, rfl, hs2, hx2⟩))
           go_ret
           exact ⟨by rw [HF.out]; rfl, hx1.trans hx2⟩
         | false =>
           rw [hok] at HF
           have HW := hid_ (HWN.out HA.out hok)
           clear hok
           go_wp2_with (first
            | (refine wLdB rfl 42 (.tmp 1) rfl _ rfl hb1 _ Tryz.underlying42 rfl 17 sizeTbl hts.out ?_)
            | (go_at_call 130; (with_reducible refine (HW.out _).mono ?_); rintro e w2 ⟨rfl, hx2⟩))
           go_ret
           exact ⟨by rw [HF.out]; rfl, hx1.trans hx2⟩
    ·have h2' : (s != (xs.length : Int)) = true := by simpa using h2
     have HF := hid_ (HTN.out (fun h => h2 h.2))
     clear h2 h1
     go_wp2_with fail
     go_ret
     exact ⟨by rw [HF.out]; rfl, hx1⟩
   ·have h1' : decide (256 < s) = true := by simp; omega
    have HF := hid_ (HTN.out (fun h => h1 h.1))
    clear h1
    go_wp2_with fail
    go_ret
    exact ⟨by rw [HF.out]; rfl, hx1⟩
set_option maxRecDepth 20000 in
set_option maxHeartbeats 4000000 in
theorem tablesCheck_any (t1 t2 : List Value) (z1 z2 : Int) (w : World) (h1 : t1.length = 17) (h2 : t2.length = 17)
 (C1 : ∀ W, Ext w W → Calls Tryz.prog 73 #[.agg t1.toArray] W fun e W' => e = .returned (.int .i64 z1) ∧ Ext W W')
 (C2 : ∀ W, Ext w W → Calls Tryz.prog 73 #[.agg t2.toArray] W fun e W' => e = .returned (.int .i64 z2) ∧ Ext W W') :
 Calls Tryz.prog 76 #[.agg (t1 ++ t2).toArray] w fun e w' => e = .returned (.int .i64 (if z1 = 0 then z2 else z1)) ∧ Ext w w' := by
 have HRT := hid_ (fun W g (hb : Blk W g 44 (t1 ++ t2).toArray) => range_two h1 hb)
 have hl1 := hid_ h1
 have hl2 := hid_ h2
 have HC1 := hid_ C1
 have HC2 := hid_ C2
 clear C1 C2 h1 h2
 generalize htt : (t1 ++ t2).toArray = tt at *
 clear htt
 by_cases hz : z1 = 0
 ·rw [if_pos hz]
  subst hz
  go_enter Tryz.func76, Tryz.ntmps76
  go_wp2_with (first
   | (refine wBox rfl 44 (.tmp 0) rfl tt rfl ?_; intro w1 g hb1 hx1 hg; have hr1 := (HRT.out _ _ hb1).1)
   | (refine wpList_load_mid rfl 42 (.tmp 4) rfl g 0 rfl t1 _ hr1 Tryz.underlying42 rfl (by rw [hl1.out]; exact sizeTbl) ?_)
   | (go_at_call 73; (with_reducible refine (HC1.out _ hx1).mono ?_); rintro e w2 ⟨rfl, hx2⟩; have hr2 := (HRT.out _ _ (hb1.ext hx2)).2)
   | (refine wpList_load_mid rfl 42 (.tmp 10) rfl g 17 rfl t2 _ hr2 Tryz.underlying42 rfl (by rw [hl2.out]; exact sizeTbl) ?_)
   | (go_at_call 73; (with_reducible refine (HC2.out _ (hx1.trans hx2)).mono ?_); rintro e w3 ⟨rfl, hx3⟩))
  go_ret
  exact ⟨rfl, (hx1.trans hx2).trans hx3⟩
 ·rw [if_neg hz]
  have hz1 : (z1 != 0) = true := by simpa using hz
  go_enter Tryz.func76, Tryz.ntmps76
  go_wp2_with (first
   | (refine wBox rfl 44 (.tmp 0) rfl tt rfl ?_; intro w1 g hb1 hx1 hg; have hr1 := (HRT.out _ _ hb1).1)
   | (refine wpList_load_mid rfl 42 (.tmp 4) rfl g 0 rfl t1 _ hr1 Tryz.underlying42 rfl (by rw [hl1.out]; exact sizeTbl) ?_)
   | (go_at_call 73; (with_reducible refine (HC1.out _ hx1).mono ?_); rintro e w2 ⟨rfl, hx2⟩))
  go_ret
  exact ⟨rfl, hx1.trans hx2⟩
set_option maxRecDepth 20000 in
set_option maxHeartbeats 4000000 in
theorem rfcheck_yf (pt : Int) (hpt : pt = 1 ∨ pt = 3) (wd hi ev : Int) (qs : List Int) (t1 t2 : List Value) (A : Option Addr) (n c : Nat) (z1 z2 : Int) (w : World) (hq : qs.length = 64) (h1 : t1.length = 17) (h2 : t2.length = 17)
 (k1 : inB wd 1 64 = true) (k2 : inB hi 1 64 = true) (k3 : inB ev 0 100 = true) (kq : allIn qs 1 255 = false) :
 Calls Tryz.prog 52 #[.agg (fileL wd hi pt qs t1 t2 ev (.slice A n c)).toArray] w fun e w' => e = .returned (.int .i64 (1)) ∧ Ext w w' := by
 have HF := hid_ (fun W g (hb : Blk W g 47 (fileL wd hi pt qs t1 t2 ev (.slice A n c)).toArray) => fileB hb hq h1 h2)
 have W1 := hid_ (fun W => outside_any wd 1 64 W)
 have W2 := hid_ (fun W => outside_any hi 1 64 W)
 have W3 := hid_ (fun W => outside_any ev 0 100 W)
 have HQ : Hid (∀ W, Calls Tryz.prog 67 #[.agg (ints qs).toArray, .int .i64 1, .int .i64 255] W fun e w' => e = .returned (.bool false) ∧ Ext W w') := hid_ (fun W => by have h := blockWithin_any qs 1 255 W hq; rw [kq] at h; exact h)
 clear kq
 have hql := hid_ ((ints_len qs).trans hq)
 have hl3 : Hid ((t1 ++ t2).length = 34) := hid_ (by simp [h1, h2])
 clear h1 h2 hq
 generalize (fileL wd hi pt qs t1 t2 ev (.slice A n c)).toArray = fv at *
 generalize inB wd 1 64 = b1 at *
 generalize inB hi 1 64 = b2 at *
 generalize inB ev 0 100 = b3 at *
 subst k1 k2 k3
 rcases hpt with rfl | rfl
 all_goals
  go_enter Tryz.func52, Tryz.ntmps52
  go_wp2_with (first
   | (refine wBox rfl 47 (.tmp 0) rfl fv rfl ?_; intro w1 g hb1 hx1 hg; have hf1 := HF.out _ _ hb1; have c0 := hf1.c0; have c1 := hf1.c1; have c2 := hf1.c2; have c101 := hf1.c101)
   | (go_at_call 54; (with_reducible refine (W1.out _).mono ?_); rintro e w2 ⟨rfl, rfl⟩)
   | (go_at_call 54; (with_reducible refine (W2.out _).mono ?_); rintro e w2 ⟨rfl, rfl⟩)
   | (go_at_call 54; (with_reducible refine (W3.out _).mono ?_); rintro e w2 ⟨rfl, rfl⟩)
   | (refine wpList_load_mid_g (by rfl) 33 (.tmp 28) rfl g 3 rfl (ints qs) _ hf1.q Tryz.underlying33 rfl (by rw [hql.out]; exact size48) ?_)
   | (go_at_call 67; (with_reducible refine (HQ.out _).mono ?_); rintro e w2 ⟨rfl, hx2⟩; have hb2 := hb1.ext hx2; have hf2 := HF.out _ _ hb2))
  go_ret
  exact ⟨rfl, hx1.trans hx2⟩
set_option maxRecDepth 20000 in
set_option maxHeartbeats 4000000 in
theorem rfcheck_yt (pt : Int) (hpt : pt = 1 ∨ pt = 3) (wd hi ev : Int) (qs : List Int) (t1 t2 : List Value) (A : Option Addr) (n c : Nat) (z1 z2 : Int) (w : World) (hq : qs.length = 64) (h1 : t1.length = 17) (h2 : t2.length = 17)
 (k1 : inB wd 1 64 = true) (k2 : inB hi 1 64 = true) (k3 : inB ev 0 100 = true) (kq : allIn qs 1 255 = true) (o1 : t1.toArray.all (·.oneCell') = true) (o2 : t2.toArray.all (·.oneCell') = true)
 (C1 : ∀ W, Ext w W → Calls Tryz.prog 73 #[.agg t1.toArray] W fun e W' => e = .returned (.int .i64 z1) ∧ Ext W W')
 (C2 : ∀ W, Ext w W → Calls Tryz.prog 73 #[.agg t2.toArray] W fun e W' => e = .returned (.int .i64 z2) ∧ Ext W W') :
 Calls Tryz.prog 52 #[.agg (fileL wd hi pt qs t1 t2 ev (.slice A n c)).toArray] w fun e w' => e = .returned (.int .i64 (if z1 = 0 then (if z2 = 0 then (if 90000 < n then 2 else 0) else z2) else z1)) ∧ Ext w w' := by
 have HF := hid_ (fun W g (hb : Blk W g 47 (fileL wd hi pt qs t1 t2 ev (.slice A n c)).toArray) => fileB hb hq h1 h2)
 have W1 := hid_ (fun W => outside_any wd 1 64 W)
 have W2 := hid_ (fun W => outside_any hi 1 64 W)
 have W3 := hid_ (fun W => outside_any ev 0 100 W)
 have HQ : Hid (∀ W, Calls Tryz.prog 67 #[.agg (ints qs).toArray, .int .i64 1, .int .i64 255] W fun e w' => e = .returned (.bool true) ∧ Ext W w') := hid_ (fun W => by have h := blockWithin_any qs 1 255 W hq; rw [kq] at h; exact h)
 clear kq
 have hql := hid_ ((ints_len qs).trans hq)
 have hl3 : Hid ((t1 ++ t2).length = 34) := hid_ (by simp [h1, h2])
 have HT := hid_ (fun W (hx : Ext w W) => tablesCheck_any t1 t2 z1 z2 W h1 h2 (fun V hV => C1 V (hx.trans hV)) (fun V hV => C2 V (hx.trans hV)))
 clear o1 o2 C1 C2
 clear h1 h2 hq
 generalize (fileL wd hi pt qs t1 t2 ev (.slice A n c)).toArray = fv at *
 generalize inB wd 1 64 = b1 at *
 generalize inB hi 1 64 = b2 at *
 generalize inB ev 0 100 = b3 at *
 subst k1 k2 k3
 have HT0 := HT
 clear HT
 by_cases y1 : z1 = 0
 ·by_cases y2 : z2 = 0
  ·have HT : Hid (∀ W, Ext w W → Calls Tryz.prog 76 #[.agg (t1 ++ t2).toArray] W fun e W' => e = .returned (.int .i64 0) ∧ Ext W W') := hid_ (fun W hW => by have h := HT0.out W hW; rw [if_pos y1, y2] at h; exact h)
   clear HT0
   rw [if_pos y1, if_pos y2]
   clear y1 y2
   by_cases hn : 90000 < n
   ·have hn' : decide ((90000 : Int) < (n : Int)) = true := by simp; omega
    rw [if_pos hn]
    rcases hpt with rfl | rfl
    all_goals
     go_enter Tryz.func52, Tryz.ntmps52
     go_wp2_with (first
      | (refine wBox rfl 47 (.tmp 0) rfl fv rfl ?_; intro w1 g hb1 hx1 hg; have hf1 := HF.out _ _ hb1; have c0 := hf1.c0; have c1 := hf1.c1; have c2 := hf1.c2; have c101 := hf1.c101)
      | (go_at_call 54; (with_reducible refine (W1.out _).mono ?_); rintro e w2 ⟨rfl, rfl⟩)
      | (go_at_call 54; (with_reducible refine (W2.out _).mono ?_); rintro e w2 ⟨rfl, rfl⟩)
      | (go_at_call 54; (with_reducible refine (W3.out _).mono ?_); rintro e w2 ⟨rfl, rfl⟩)
      | (refine wpList_load_mid_g (by rfl) 33 (.tmp 28) rfl g 3 rfl (ints qs) _ hf1.q Tryz.underlying33 rfl (by rw [hql.out]; exact size48) ?_)
      | (go_at_call 67; (with_reducible refine (HQ.out _).mono ?_); rintro e w2 ⟨rfl, hx2⟩; have hb2 := hb1.ext hx2; have hf2 := HF.out _ _ hb2)
      | (refine wpList_load_mid rfl 44 (.tmp 33) rfl g 67 rfl (t1 ++ t2) _ hf2.tt Tryz.underlying44 rfl (by rw [hl3.out]; exact sizeTbls) ?_)
      | (go_at_call 76; (with_reducible refine (HT.out _ (hx1.trans hx2)).mono ?_); rintro e w3 ⟨rfl, hx3⟩; have c102 := (HF.out _ _ (hb2.ext hx3)).c102))
     go_ret
     exact ⟨rfl, (hx1.trans hx2).trans hx3⟩
   ·have hn' : decide ((90000 : Int) < (n : Int)) = false := by simp; omega
    rw [if_neg hn]
    rcases hpt with rfl | rfl
    all_goals
     go_enter Tryz.func52, Tryz.ntmps52
     go_wp2_with (first
      | (refine wBox rfl 47 (.tmp 0) rfl fv rfl ?_; intro w1 g hb1 hx1 hg; have hf1 := HF.out _ _ hb1; have c0 := hf1.c0; have c1 := hf1.c1; have c2 := hf1.c2; have c101 := hf1.c101)
      | (go_at_call 54; (with_reducible refine (W1.out _).mono ?_); rintro e w2 ⟨rfl, rfl⟩)
      | (go_at_call 54; (with_reducible refine (W2.out _).mono ?_); rintro e w2 ⟨rfl, rfl⟩)
      | (go_at_call 54; (with_reducible refine (W3.out _).mono ?_); rintro e w2 ⟨rfl, rfl⟩)
      | (refine wpList_load_mid_g (by rfl) 33 (.tmp 28) rfl g 3 rfl (ints qs) _ hf1.q Tryz.underlying33 rfl (by rw [hql.out]; exact size48) ?_)
      | (go_at_call 67; (with_reducible refine (HQ.out _).mono ?_); rintro e w2 ⟨rfl, hx2⟩; have hb2 := hb1.ext hx2; have hf2 := HF.out _ _ hb2)
      | (refine wpList_load_mid rfl 44 (.tmp 33) rfl g 67 rfl (t1 ++ t2) _ hf2.tt Tryz.underlying44 rfl (by rw [hl3.out]; exact sizeTbls) ?_)
      | (go_at_call 76; (with_reducible refine (HT.out _ (hx1.trans hx2)).mono ?_); rintro e w3 ⟨rfl, hx3⟩; have c102 := (HF.out _ _ (hb2.ext hx3)).c102))
     go_ret
     exact ⟨rfl, (hx1.trans hx2).trans hx3⟩
  ·have HT : Hid (∀ W, Ext w W → Calls Tryz.prog 76 #[.agg (t1 ++ t2).toArray] W fun e W' => e = .returned (.int .i64 z2) ∧ Ext W W') := hid_ (fun W hW => by have h := HT0.out W hW; rw [if_pos y1] at h; exact h)
   clear HT0
   have hz1 : (z2 != 0) = true := by simpa using y2
   rw [if_pos y1, if_neg y2]
   clear y1 y2
   rcases hpt with rfl | rfl
   all_goals
    go_enter Tryz.func52, Tryz.ntmps52
    go_wp2_with (first
     | (refine wBox rfl 47 (.tmp 0) rfl fv rfl ?_; intro w1 g hb1 hx1 hg; have hf1 := HF.out _ _ hb1; have c0 := hf1.c0; have c1 := hf1.c1; have c2 := hf1.c2; have c101 := hf1.c101)
     | (go_at_call 54; (with_reducible refine (W1.out _).mono ?_); rintro e w2 ⟨rfl, rfl⟩)
     | (go_at_call 54; (with_reducible refine (W2.out _).mono ?_); rintro e w2 ⟨rfl, rfl⟩)
     | (go_at_call 54; (with_reducible refine (W3.out _).mono ?_); rintro e w2 ⟨rfl, rfl⟩)
     | (refine wpList_load_mid_g (by rfl) 33 (.tmp 28) rfl g 3 rfl (ints qs) _ hf1.q Tryz.underlying33 rfl (by rw [hql.out]; exact size48) ?_)
     | (go_at_call 67; (with_reducible refine (HQ.out _).mono ?_); rintro e w2 ⟨rfl, hx2⟩; have hb2 := hb1.ext hx2; have hf2 := HF.out _ _ hb2)
     | (refine wpList_load_mid rfl 44 (.tmp 33) rfl g 67 rfl (t1 ++ t2) _ hf2.tt Tryz.underlying44 rfl (by rw [hl3.out]; exact sizeTbls) ?_)
     | (go_at_call 76; (with_reducible refine (HT.out _ (hx1.trans hx2)).mono ?_); rintro e w3 ⟨rfl, hx3⟩; have c102 := (HF.out _ _ (hb2.ext hx3)).c102))
    go_ret
    exact ⟨rfl, (hx1.trans hx2).trans hx3⟩
 ·have HT : Hid (∀ W, Ext w W → Calls Tryz.prog 76 #[.agg (t1 ++ t2).toArray] W fun e W' => e = .returned (.int .i64 z1) ∧ Ext W W') := hid_ (fun W hW => by have h := HT0.out W hW; rw [if_neg y1] at h; exact h)
  clear HT0
  have hz1 : (z1 != 0) = true := by simpa using y1
  rw [if_neg y1]
  clear y1
  rcases hpt with rfl | rfl
  all_goals
   go_enter Tryz.func52, Tryz.ntmps52
   go_wp2_with (first
    | (refine wBox rfl 47 (.tmp 0) rfl fv rfl ?_; intro w1 g hb1 hx1 hg; have hf1 := HF.out _ _ hb1; have c0 := hf1.c0; have c1 := hf1.c1; have c2 := hf1.c2; have c101 := hf1.c101)
    | (go_at_call 54; (with_reducible refine (W1.out _).mono ?_); rintro e w2 ⟨rfl, rfl⟩)
    | (go_at_call 54; (with_reducible refine (W2.out _).mono ?_); rintro e w2 ⟨rfl, rfl⟩)
    | (go_at_call 54; (with_reducible refine (W3.out _).mono ?_); rintro e w2 ⟨rfl, rfl⟩)
    | (refine wpList_load_mid_g (by rfl) 33 (.tmp 28) rfl g 3 rfl (ints qs) _ hf1.q Tryz.underlying33 rfl (by rw [hql.out]; exact size48) ?_)
    | (go_at_call 67; (with_reducible refine (HQ.out _).mono ?_); rintro e w2 ⟨rfl, hx2⟩; have hb2 := hb1.ext hx2; have hf2 := HF.out _ _ hb2)
    | (refine wpList_load_mid rfl 44 (.tmp 33) rfl g 67 rfl (t1 ++ t2) _ hf2.tt Tryz.underlying44 rfl (by rw [hl3.out]; exact sizeTbls) ?_)
    | (go_at_call 76; (with_reducible refine (HT.out _ (hx1.trans hx2)).mono ?_); rintro e w3 ⟨rfl, hx3⟩; have c102 := (HF.out _ _ (hb2.ext hx3)).c102))
   go_ret
   exact ⟨rfl, (hx1.trans hx2).trans hx3⟩
theorem tblL_one (cs : List Int) (sl : Value) (h : ∃ A n c, sl = .slice A n c) : (tblL cs sl).toArray.all (·.oneCell') = true := by
 obtain ⟨A, n, c, rfl⟩ := h
 refine all_oneCell_toArray fun v hv => ?_
 unfold tblL at hv
 rcases List.mem_append.1 hv with hv | hv
 ·obtain ⟨z, -, rfl⟩ := List.mem_map.1 hv
  rfl
 ·rw [List.mem_singleton.1 hv]
  rfl
theorem argsOK_iff {wd hi pt ev : Int} (h : argsOK wd hi pt ev = true) : inB wd 1 64 = true ∧ inB hi 1 64 = true ∧ inB ev 0 100 = true ∧ (pt = 1 ∨ pt = 3) := by
 unfold argsOK at h
 simp only [Bool.and_eq_true, Bool.or_eq_true, beq_iff_eq] at h
 exact ⟨h.1.1.1, h.1.1.2, h.2, h.1.2⟩
theorem fcheck_any (wd hi pt ev : Int) (qs cs1 xs1 : List Int) (s1 : Value) (cs2 xs2 : List Int) (s2 : Value) (bs : List Nat) (sd : Value) (w : World) (hq : qs.length = 64) (h1 : cs1.length = 16) (h2 : cs2.length = 16)
 (hs1 : SL w 1 s1 xs1.length (ints xs1)) (hs2 : SL w 1 s2 xs2.length (ints xs2)) (hsd : SL w 1 sd bs.length (bytesV bs)) :
 Calls Tryz.prog 50 #[.agg (fileL wd hi pt qs (tblL cs1 s1) (tblL cs2 s2) ev sd).toArray] w fun e w' => e = .returned (.int .i64 (fcheckZ wd hi pt qs (checkZ cs1 xs1) (checkZ cs2 xs2) ev bs.length)) ∧ Ext w w' := by
 have o1 := tblL_one cs1 s1 (let ⟨A, c, h, _⟩ := hs1; ⟨A, _, c, h⟩)
 have o2 := tblL_one cs2 s2 (let ⟨A, c, h, _⟩ := hs2; ⟨A, _, c, h⟩)
 obtain ⟨A, c, rfl, -⟩ := hsd
 have l1 := tblL_len cs1 s1 h1
 have l2 := tblL_len cs2 s2 h2
 unfold fcheckZ
 cases ha : argsOK wd hi pt ev with
 | false => exact fcheck_no wd hi pt ev qs _ _ _ w hq l1 l2 ha
 | true =>
   obtain ⟨k1, k2, k3, hp⟩ := argsOK_iff ha
   cases kq : allIn qs 1 255 with
   | false =>
     exact fcheck_yf pt hp wd hi ev qs _ _ A _ c 0 0 w hq l1 l2 k1 k2 k3 kq
   | true =>
     exact fcheck_yt pt hp wd hi ev qs _ _ A _ c _ _ w hq l1 l2 k1 k2 k3 kq o1 o2 (fun W hW => check_any cs1 xs1 s1 W h1 (hs1.ext hW)) (fun W hW => check_any cs2 xs2 s2 W h2 (hs2.ext hW))
theorem rfcheck_any (wd hi pt ev : Int) (qs cs1 xs1 : List Int) (s1 : Value) (cs2 xs2 : List Int) (s2 : Value) (bs : List Nat) (sd : Value) (w : World) (hq : qs.length = 64) (h1 : cs1.length = 16) (h2 : cs2.length = 16)
 (hs1 : SL w 1 s1 xs1.length (ints xs1)) (hs2 : SL w 1 s2 xs2.length (ints xs2)) (hsd : SL w 1 sd bs.length (bytesV bs)) :
 Calls Tryz.prog 52 #[.agg (fileL wd hi pt qs (tblL cs1 s1) (tblL cs2 s2) ev sd).toArray] w fun e w' => e = .returned (.int .i64 (fcheckZ wd hi pt qs (checkZ cs1 xs1) (checkZ cs2 xs2) ev bs.length)) ∧ Ext w w' := by
 have o1 := tblL_one cs1 s1 (let ⟨A, c, h, _⟩ := hs1; ⟨A, _, c, h⟩)
 have o2 := tblL_one cs2 s2 (let ⟨A, c, h, _⟩ := hs2; ⟨A, _, c, h⟩)
 obtain ⟨A, c, rfl, -⟩ := hsd
 have l1 := tblL_len cs1 s1 h1
 have l2 := tblL_len cs2 s2 h2
 unfold fcheckZ
 cases ha : argsOK wd hi pt ev with
 | false => exact rfcheck_no wd hi pt ev qs _ _ _ w hq l1 l2 ha
 | true =>
   obtain ⟨k1, k2, k3, hp⟩ := argsOK_iff ha
   cases kq : allIn qs 1 255 with
   | false =>
     exact rfcheck_yf pt hp wd hi ev qs _ _ A _ c 0 0 w hq l1 l2 k1 k2 k3 kq
   | true =>
     exact rfcheck_yt pt hp wd hi ev qs _ _ A _ c _ _ w hq l1 l2 k1 k2 k3 kq o1 o2 (fun W hW => rcheck_any cs1 xs1 s1 W h1 (hs1.ext hW)) (fun W hW => rcheck_any cs2 xs2 s2 W h2 (hs2.ext hW))
theorem u8_wrap (n : Nat) : IntKind.u8.wrap (n : Int) = ((n % 256 : Nat) : Int) := by
 simp [IntKind.wrap, IntKind.signed, IntKind.bits]
theorem run_conv8p (n : Nat) (W : World) : (convert 3 5 (.int .i64 (n : Int))).run Tryz.prog W = .ok (.int .u8 ((n % 256 : Nat) : Int)) W := by
 simp [convert, run_underlying Tryz.underlying3, run_underlying Tryz.underlying5, Conv.intToInt, u8_wrap]
section
variable {o : Oper} {a : Act}
theorem ex_conv8m {x : Operand} (ho : o.op = .convert 3 5 x) {n : Nat} (hx : a.eval x = .int .i64 (n : Int)) (w : World) : (execOp a.eval o).run Tryz.prog w = .ok (.value (.int .u8 ((n % 256 : Nat) : Int))) w := by
 simp only [execOp, ho, hx, Sem.run_bind, run_conv8p, Result.andThen_ok, Sem.run_pure]
end
theorem cells_sl (w : World) (T : TypeId) (cs : List Value) (n : Nat) (hn : cs.length = n) (h : n ≤ 1000) : SL (w.alloc (.cells cs.toArray T)) 1 (.slice (some ⟨w.heap.size, 0, none⟩) n n) n cs := by
 have := (Blk.new w T cs.toArray).sl (size := 1) (n := n) (c := n) (by simp [hn]) (by omega) (by omega)
 simpa using this
theorem ext_own {a w w' : World} {e size n : Nat} {v : Value} {xs : List Value} (hx : Ext a w) (ho : w.ownsRow a.heap.size e size v n xs) (hg : w.grownBy w' v.ownBlock) : Ext a w' :=
 Below.grown hx hg hx.size (fun k hk => (ho.lt k hk).1)
theorem ext_own' {a w w' : World} {e size n : Nat} {v : Value} {xs : List Value} {o : Obj} (hx : Ext a w) (ho : w.ownsRow a.heap.size e size v n xs) (hg : (w.alloc o).grownBy w' v.ownBlock) : Ext a w' :=
 ext_own (hx.alloc o) (ho.alloc o) hg
theorem byte_one (l : List Nat) : ∀ u ∈ bytesV l, u.oneCell' = true := by
 intro u hu
 obtain ⟨z, -, rfl⟩ := List.mem_map.1 hu
 rfl
theorem bytesV_app (a b : List Nat) : bytesV (a ++ b) = bytesV a ++ bytesV b := by simp [bytesV]
section
open Go.RowKit Go.Shelf
theorem Upd.mono_ {S S' : Nat → Prop} {w w' : World} (h : Upd S w w') (hS : ∀ x, S x → S' x) : Upd S' w w' := ⟨h.os, h.tape, h.output, h.size, fun b hb hn => h.block b hb (fun q => hn (hS b q))⟩
attribute [local irreducible] mapS sect shB planeS planesZ showZ
attribute [local go_sem] Oper.semAt_some
end
def mendAt (T1 T2 : List Tok) (n e : Nat) (P : List (List Nat)) (i : Nat) : Int × List Int := if i < P.length then decR true T1 T2 ((lenAt n e i : Nat) : Int) (plZ (P.getD i [])) else (5, [])
def mendPart (T1 T2 : List Tok) (n e : Nat) (P : List (List Nat)) (i : Nat) : List Int := if (mendAt T1 T2 n e P i).1 = 0 then (mendAt T1 T2 n e P i).2 else List.replicate (lenAt n e i * 64) 0
def mendL (T1 T2 : List Tok) (n e : Nat) (P : List (List Nat)) : Nat → List Int × List Int
 | 0 => ([], [])
 | k + 1 => ((mendL T1 T2 n e P k).1 ++ mendPart T1 T2 n e P k, if (mendAt T1 T2 n e P k).1 = 0 then (mendL T1 T2 n e P k).2 else (mendL T1 T2 n e P k).2 ++ [(k : Int)])
def atK (n e i : Nat) : Nat := min (i * spanE n e) n
def RcIs (E wd hi : Int) (L : List (List Int)) (Y : List Int) (w : World) (e : Ending) (w' : World) : Prop := ∃ B k d C j c, e = .returned (.tuple #[.agg (picV wd hi (.slice B k d)), .slice C j c, .int .i64 E]) ∧ RowsS w' B k d L ∧ SL w' 1 (.slice C j c) j (ints Y) ∧ Y.length = j ∧ Ext w w'
theorem fcheck_zero {wd hi pt : Int} {qs : List Int} {z1 z2 ev : Int} {n : Nat} (h : fcheckZ wd hi pt qs z1 z2 ev n = 0) :
 ∃ a b p : Nat, wd = a ∧ hi = b ∧ pt = p ∧ 1 ≤ a ∧ a ≤ 64 ∧ 1 ≤ b ∧ b ≤ 64 ∧ (p = 1 ∨ p = 3) ∧ 0 ≤ ev ∧ ev ≤ 100 ∧ allIn qs 1 255 = true ∧ z1 = 0 ∧ z2 = 0 ∧ n ≤ 90000 := by
 unfold fcheckZ at h
 split at h
 ·rename_i hc
  simp only [Bool.and_eq_true] at hc
  obtain ⟨k1, k2, k3, hp⟩ := argsOK_iff hc.1
  rw [inB_iff] at k1 k2 k3
  by_cases h1 : z1 = 0
  ·rw [if_pos h1] at h
   by_cases h2 : z2 = 0
   ·rw [if_pos h2] at h
    by_cases h3 : 90000 < n
    ·rw [if_pos h3] at h; cases h
    ·exact ⟨wd.toNat, hi.toNat, pt.toNat, by omega, by omega, by omega, by omega, by omega, by omega, by omega, by omega, k3.1, k3.2, hc.2, h1, h2, by omega⟩
   ·rw [if_neg h2] at h; exact absurd h h2
  ·rw [if_neg h1] at h; exact absurd h h1
 ·cases h
def HurtIs (q : FC × Int) (w : World) (e : Ending) (w' : World) : Prop := ∃ s1 s2 sd, e = .returned (.tuple #[.agg (q.1.cells s1 s2 sd), .int .i64 q.2]) ∧ q.1.at_ w' s1 s2 sd ∧ Ext w w'
set_option maxRecDepth 20000 in
set_option maxHeartbeats 4000000 in
theorem rhurt_bad (fv : Array Value) (hfs : fv.size = 103) (E : Int) (hE : E ≠ 0) (k : Int) (w : World) (HC : ∀ W, Ext w W → Calls Tryz.prog 52 #[.agg fv] W fun e W' => e = .returned (.int .i64 E) ∧ Ext W W') :
 Calls Tryz.prog 21 #[.agg fv, .int .i64 k] w (HurtIs (FC.zero, E) w) := by
 have HC := hid_ HC
 have hts := hid_ hfs
 have hne : (E != 0) = true := by simpa using hE
 have HZ := zeroFileV
 have HB := hid_ built0F
 have hz0 := hid_ zFile_size
 have hzs : Hid ((Value.agg zFile).cells.size = 103) := hid_ zFile_size
 have hzo := hid_ zFile_one
 have HR : Hid (∀ W, Ext w W → HurtIs (FC.zero, E) w (.returned (.tuple #[.agg zFile, .int .i64 E])) W) := hid_ (fun W h => ⟨_, _, _, rfl, zero_at W, h⟩)
 generalize zFile = pz at *
 clear hE hfs
 go_enter Tryz.func21, Tryz.ntmps21
 go_wp2_with (first
  | ((with_reducible apply gS 2); refine wBox rfl 47 (.tmp 0) rfl fv rfl ?_; intro w1 gf hb1 hx1 hgf)
  | ((with_reducible apply gS 4); refine wAlo' rfl (some 4) rfl 47 rfl _ HZ ?_; intro w2 gp hp2 hx2 hgp; have hb2 := hb1.ext hx2; have hx12 := hx1.trans hx2)
  | ((with_reducible apply gS 13); refine wLdB rfl 47 (.tmp 2) rfl gf rfl hb2 _ Tryz.underlying47 rfl 103 sizeFile hts.out ?_)
  | (go_at_call 52; (with_reducible refine (HC.out _ hx12).mono ?_); rintro e w3 ⟨rfl, hx3⟩; have hp3 := hp2.ext hx3; have hx13 := hx12.trans hx3)
  | ((with_reducible apply gS 16); refine wl_run rfl (.bool true) (ex_neq rfl rfl rfl hne) ?_)
  | ((with_reducible apply gS 17); refine wpList_build0_g (by rfl) 47 rfl _ HB.out ?_)
  | ((with_reducible apply gT 4 17); refine wStB rfl 47 (.tmp 4) (.tmp 17) rfl gp pz rfl rfl hp3 103 sizeFile hz0.out hzs.out hzo.out ?_; intro w4 hb4 hg4; have hx4 := hx13.grown hg4 (by have := hx1.size; omega)))
 exact ret_cell_tmp rfl rfl gp rfl hb4 _ Tryz.underlying47 rfl 103 sizeFile hz0.out (HR.out _ hx4)
set_option maxRecDepth 20000 in
set_option maxHeartbeats 4000000 in
theorem hurt_bad (fv : Array Value) (hfs : fv.size = 103) (E : Int) (hE : E ≠ 0) (k : Int) (w : World) (HC : ∀ W, Ext w W → Calls Tryz.prog 50 #[.agg fv] W fun e W' => e = .returned (.int .i64 E) ∧ Ext W W') :
 Calls Tryz.prog 20 #[.agg fv, .int .i64 k] w (HurtIs (FC.zero, E) w) := by
 have HC := hid_ HC
 have hts := hid_ hfs
 have hne : (E != 0) = true := by simpa using hE
 have HZ := zeroFileV
 have HB := hid_ built0F
 have hz0 := hid_ zFile_size
 have hzs : Hid ((Value.agg zFile).cells.size = 103) := hid_ zFile_size
 have hzo := hid_ zFile_one
 have HR : Hid (∀ W, Ext w W → HurtIs (FC.zero, E) w (.returned (.tuple #[.agg zFile, .int .i64 E])) W) := hid_ (fun W h => ⟨_, _, _, rfl, zero_at W, h⟩)
 generalize zFile = pz at *
 clear hE hfs
 go_enter Tryz.func20, Tryz.ntmps20
 go_wp2_with (first
  | ((with_reducible apply gS 2); refine wBox rfl 47 (.tmp 0) rfl fv rfl ?_; intro w1 gf hb1 hx1 hgf)
  | ((with_reducible apply gS 4); refine wAlo' rfl (some 4) rfl 47 rfl _ HZ ?_; intro w2 gp hp2 hx2 hgp; have hb2 := hb1.ext hx2; have hx12 := hx1.trans hx2)
  | ((with_reducible apply gS 12); refine wLdB rfl 47 (.tmp 2) rfl gf rfl hb2 _ Tryz.underlying47 rfl 103 sizeFile hts.out ?_)
  | (go_at_call 50; (with_reducible refine (HC.out _ hx12).mono ?_); rintro e w3 ⟨rfl, hx3⟩; have hp3 := hp2.ext hx3; have hx13 := hx12.trans hx3)
  | ((with_reducible apply gS 15); refine wl_run rfl (.bool true) (ex_neq rfl rfl rfl hne) ?_)
  | ((with_reducible apply gS 16); refine wpList_build0_g (by rfl) 47 rfl _ HB.out ?_)
  | ((with_reducible apply gT 4 16); refine wStB rfl 47 (.tmp 4) (.tmp 16) rfl gp pz rfl rfl hp3 103 sizeFile hz0.out hzs.out hzo.out ?_; intro w4 hb4 hg4; have hx4 := hx13.grown hg4 (by have := hx1.size; omega)))
 exact ret_cell_tmp rfl rfl gp rfl hb4 _ Tryz.underlying47 rfl 103 sizeFile hz0.out (HR.out _ hx4)
set_option maxRecDepth 20000 in
set_option maxHeartbeats 4000000 in
theorem rhurt_none (F : FC) (hF : F.shaped) (s1 s2 : Value) (A : Option Addr) (n c : Nat) (k : Int) (w : World)
 (HC : ∀ W, Ext w W → Calls Tryz.prog 52 #[.agg (F.cells s1 s2 (.slice A n c))] W fun e W' => e = .returned (.int .i64 0) ∧ Ext W W')
 (HS : ∀ W, Ext w W → Calls Tryz.prog 53 #[.slice A n c] W fun e W' => e = .returned (.tuple #[.slice none 0 0, .slice none 0 0, .int .i64 4]) ∧ Ext W W') :
 Calls Tryz.prog 21 #[.agg (F.cells s1 s2 (.slice A n c)), .int .i64 k] w (HurtIs (FC.zero, 4) w) := by
 have HF := hid_ (fun W g (h : Blk W g 47 (F.cells s1 s2 (.slice A n c))) => fileB h hF.1 (tblL_len _ _ hF.2.1) (tblL_len _ _ hF.2.2))
 have hts := hid_ (FC.size hF s1 s2 (.slice A n c))
 have HC := hid_ HC
 have HS := hid_ HS
 have HZ := zeroFileV
 have HB := hid_ built0F
 have hz0 := hid_ zFile_size
 have hzs : Hid ((Value.agg zFile).cells.size = 103) := hid_ zFile_size
 have hzo := hid_ zFile_one
 have HR : Hid (∀ W, Ext w W → HurtIs (FC.zero, 4) w (.returned (.tuple #[.agg zFile, .int .i64 4])) W) := hid_ (fun W h => ⟨_, _, _, rfl, zero_at W, h⟩)
 generalize zFile = pz at *
 generalize F.cells s1 s2 (.slice A n c) = fv at *
 clear hF
 go_enter Tryz.func21, Tryz.ntmps21
 go_wp2_with (first
  | ((with_reducible apply gS 2); refine wBox rfl 47 (.tmp 0) rfl fv rfl ?_; intro w1 gf hb1 hx1 hgf)
  | ((with_reducible apply gS 4); refine wAlo' rfl (some 4) rfl 47 rfl _ HZ ?_; intro w2 gp hp2 hx2 hgp; have hb2 := hb1.ext hx2; have hx12 := hx1.trans hx2)
  | ((with_reducible apply gS 13); refine wLdB rfl 47 (.tmp 2) rfl gf rfl hb2 _ Tryz.underlying47 rfl 103 sizeFile hts.out ?_)
  | (go_at_call 52; (with_reducible refine (HC.out _ hx12).mono ?_); rintro e w3 ⟨rfl, hx3⟩; have hp3 := hp2.ext hx3; have hx13 := hx12.trans hx3; have c102 := (HF.out _ _ (hb2.ext hx3)).c102)
  | (go_at_call 53; (with_reducible refine (HS.out _ hx13).mono ?_); rintro e w4 ⟨rfl, hx4⟩; have hp4 := hp3.ext hx4; have hx14 := hx13.trans hx4)
  | ((with_reducible apply gS 28); refine wpList_build0_g (by rfl) 47 rfl _ HB.out ?_)
  | ((with_reducible apply gT 4 28); refine wStB rfl 47 (.tmp 4) (.tmp 28) rfl gp pz rfl rfl hp4 103 sizeFile hz0.out hzs.out hzo.out ?_; intro w5 hb5 hg5; have hx5 := hx14.grown hg5 (by have := hx1.size; omega)))
 exact ret_cell_tmp rfl rfl gp rfl hb5 _ Tryz.underlying47 rfl 103 sizeFile hz0.out (HR.out _ hx5)
set_option maxRecDepth 20000 in
set_option maxHeartbeats 4000000 in
theorem hurt_none (F : FC) (hF : F.shaped) (s1 s2 : Value) (A : Option Addr) (n c : Nat) (k : Int) (w : World)
 (HC : ∀ W, Ext w W → Calls Tryz.prog 50 #[.agg (F.cells s1 s2 (.slice A n c))] W fun e W' => e = .returned (.int .i64 0) ∧ Ext W W')
 (HS : ∀ W, Ext w W → Calls Tryz.prog 34 #[.slice A n c] W fun e W' => e = .returned (.tuple #[.slice none 0 0, .slice none 0 0, .int .i64 4]) ∧ Ext W W') :
 Calls Tryz.prog 20 #[.agg (F.cells s1 s2 (.slice A n c)), .int .i64 k] w (HurtIs (FC.zero, 4) w) := by
 have HF := hid_ (fun W g (h : Blk W g 47 (F.cells s1 s2 (.slice A n c))) => fileB h hF.1 (tblL_len _ _ hF.2.1) (tblL_len _ _ hF.2.2))
 have hts := hid_ (FC.size hF s1 s2 (.slice A n c))
 have HC := hid_ HC
 have HS := hid_ HS
 have HZ := zeroFileV
 have HB := hid_ built0F
 have hz0 := hid_ zFile_size
 have hzs : Hid ((Value.agg zFile).cells.size = 103) := hid_ zFile_size
 have hzo := hid_ zFile_one
 have HR : Hid (∀ W, Ext w W → HurtIs (FC.zero, 4) w (.returned (.tuple #[.agg zFile, .int .i64 4])) W) := hid_ (fun W h => ⟨_, _, _, rfl, zero_at W, h⟩)
 generalize zFile = pz at *
 generalize F.cells s1 s2 (.slice A n c) = fv at *
 clear hF
 go_enter Tryz.func20, Tryz.ntmps20
 go_wp2_with (first
  | ((with_reducible apply gS 2); refine wBox rfl 47 (.tmp 0) rfl fv rfl ?_; intro w1 gf hb1 hx1 hgf)
  | ((with_reducible apply gS 4); refine wAlo' rfl (some 4) rfl 47 rfl _ HZ ?_; intro w2 gp hp2 hx2 hgp; have hb2 := hb1.ext hx2; have hx12 := hx1.trans hx2)
  | ((with_reducible apply gS 12); refine wLdB rfl 47 (.tmp 2) rfl gf rfl hb2 _ Tryz.underlying47 rfl 103 sizeFile hts.out ?_)
  | (go_at_call 50; (with_reducible refine (HC.out _ hx12).mono ?_); rintro e w3 ⟨rfl, hx3⟩; have hp3 := hp2.ext hx3; have hx13 := hx12.trans hx3; have c102 := (HF.out _ _ (hb2.ext hx3)).c102)
  | (go_at_call 34; (with_reducible refine (HS.out _ hx13).mono ?_); rintro e w4 ⟨rfl, hx4⟩; have hp4 := hp3.ext hx4; have hx14 := hx13.trans hx4)
  | ((with_reducible apply gS 39); refine wpList_build0_g (by rfl) 47 rfl _ HB.out ?_)
  | ((with_reducible apply gT 4 39); refine wStB rfl 47 (.tmp 4) (.tmp 39) rfl gp pz rfl rfl hp4 103 sizeFile hz0.out hzs.out hzo.out ?_; intro w5 hb5 hg5; have hx5 := hx14.grown hg5 (by have := hx1.size; omega)))
 exact ret_cell_tmp rfl rfl gp rfl hb5 _ Tryz.underlying47 rfl 103 sizeFile hz0.out (HR.out _ hx5)
set_option maxRecDepth 20000 in
set_option maxHeartbeats 4000000 in
theorem rhurt_out (F : FC) (hF : F.shaped) (s1 s2 : Value) (A : Option Addr) (n c : Nat) (k : Int) (pn : Nat) (hpn : pn ≤ 2000000) (hk : k < 0 ∨ (pn : Int) ≤ k) (w : World)
 (HC : ∀ W, Ext w W → Calls Tryz.prog 52 #[.agg (F.cells s1 s2 (.slice A n c))] W fun e W' => e = .returned (.int .i64 0) ∧ Ext W W')
 (HS : ∀ W, Ext w W → Calls Tryz.prog 53 #[.slice A n c] W fun e W' => (∃ PA pc u, e = .returned (.tuple #[.slice PA pn pc, u, .int .i64 0])) ∧ Ext W W') :
 Calls Tryz.prog 21 #[.agg (F.cells s1 s2 (.slice A n c)), .int .i64 k] w (HurtIs (FC.zero, 5) w) := by
 have HF := hid_ (fun W g (h : Blk W g 47 (F.cells s1 s2 (.slice A n c))) => fileB h hF.1 (tblL_len _ _ hF.2.1) (tblL_len _ _ hF.2.2))
 have hts := hid_ (FC.size hF s1 s2 (.slice A n c))
 have HC := hid_ HC
 have HS := hid_ HS
 have HZ := zeroFileV
 have HB := hid_ built0F
 have hz0 := hid_ zFile_size
 have hzs : Hid ((Value.agg zFile).cells.size = 103) := hid_ zFile_size
 have hzo := hid_ zFile_one
 have HR : Hid (∀ W, Ext w W → HurtIs (FC.zero, 5) w (.returned (.tuple #[.agg zFile, .int .i64 5])) W) := hid_ (fun W h => ⟨_, _, _, rfl, zero_at W, h⟩)
 generalize zFile = pz at *
 generalize F.cells s1 s2 (.slice A n c) = fv at *
 clear hF
 have HO : Hid (∀ W, Calls Tryz.prog 54 #[.int .i64 k, .int .i64 0, .int .i64 ((pn : Int) - 1)] W fun e w' => e = .returned (.bool true) ∧ W = w') := hid_ (fun W => by have h := outside_any k 0 ((pn : Int) - 1) W; rwa [inB_not.2 (by omega)] at h)
 clear hk
 go_enter Tryz.func21, Tryz.ntmps21
 go_wp2_with (first
  | ((with_reducible apply gS 2); refine wBox rfl 47 (.tmp 0) rfl fv rfl ?_; intro w1 gf hb1 hx1 hgf)
  | ((with_reducible apply gS 4); refine wAlo' rfl (some 4) rfl 47 rfl _ HZ ?_; intro w2 gp hp2 hx2 hgp; have hb2 := hb1.ext hx2; have hx12 := hx1.trans hx2)
  | ((with_reducible apply gS 13); refine wLdB rfl 47 (.tmp 2) rfl gf rfl hb2 _ Tryz.underlying47 rfl 103 sizeFile hts.out ?_)
  | (go_at_call 52; (with_reducible refine (HC.out _ hx12).mono ?_); rintro e w3 ⟨rfl, hx3⟩; have hp3 := hp2.ext hx3; have hx13 := hx12.trans hx3; have c102 := (HF.out _ _ (hb2.ext hx3)).c102)
  | (go_at_call 53; (with_reducible refine (HS.out _ hx13).mono ?_); rintro e w4 ⟨⟨PA, pc, pu, rfl⟩, hx4⟩; have hp4 := hp3.ext hx4; have hx14 := hx13.trans hx4)
  | (go_at_call 54; (with_reducible refine (HO.out _).mono ?_); rintro e w9 ⟨rfl, rfl⟩)
  | ((with_reducible apply gS 35); refine wpList_build0_g (by rfl) 47 rfl _ HB.out ?_)
  | ((with_reducible apply gT 4 35); refine wStB rfl 47 (.tmp 4) (.tmp 35) rfl gp pz rfl rfl hp4 103 sizeFile hz0.out hzs.out hzo.out ?_; intro w5 hb5 hg5; have hx5 := hx14.grown hg5 (by have := hx1.size; omega)))
 exact ret_cell_tmp rfl rfl gp rfl hb5 _ Tryz.underlying47 rfl 103 sizeFile hz0.out (HR.out _ hx5)
set_option maxRecDepth 20000 in
set_option maxHeartbeats 4000000 in
theorem hurt_neg (F : FC) (hF : F.shaped) (s1 s2 : Value) (A : Option Addr) (n c : Nat) (k : Int) (pn : Nat) (hpn : pn ≤ 2000000) (hk : k < 0) (w : World)
 (HC : ∀ W, Ext w W → Calls Tryz.prog 50 #[.agg (F.cells s1 s2 (.slice A n c))] W fun e W' => e = .returned (.int .i64 0) ∧ Ext W W')
 (HS : ∀ W, Ext w W → Calls Tryz.prog 34 #[.slice A n c] W fun e W' => (∃ PA pc u, e = .returned (.tuple #[.slice PA pn pc, u, .int .i64 0])) ∧ Ext W W') :
 Calls Tryz.prog 20 #[.agg (F.cells s1 s2 (.slice A n c)), .int .i64 k] w (HurtIs (FC.zero, 5) w) := by
 have HF := hid_ (fun W g (h : Blk W g 47 (F.cells s1 s2 (.slice A n c))) => fileB h hF.1 (tblL_len _ _ hF.2.1) (tblL_len _ _ hF.2.2))
 have hts := hid_ (FC.size hF s1 s2 (.slice A n c))
 have HC := hid_ HC
 have HS := hid_ HS
 have HZ := zeroFileV
 have HB := hid_ built0F
 have hz0 := hid_ zFile_size
 have hzs : Hid ((Value.agg zFile).cells.size = 103) := hid_ zFile_size
 have hzo := hid_ zFile_one
 have HR : Hid (∀ W, Ext w W → HurtIs (FC.zero, 5) w (.returned (.tuple #[.agg zFile, .int .i64 5])) W) := hid_ (fun W h => ⟨_, _, _, rfl, zero_at W, h⟩)
 generalize zFile = pz at *
 generalize F.cells s1 s2 (.slice A n c) = fv at *
 clear hF
 have hk1 : decide (k < 0) = true := by simpa using hk
 go_enter Tryz.func20, Tryz.ntmps20
 go_wp2_with (first
  | ((with_reducible apply gS 2); refine wBox rfl 47 (.tmp 0) rfl fv rfl ?_; intro w1 gf hb1 hx1 hgf)
  | ((with_reducible apply gS 4); refine wAlo' rfl (some 4) rfl 47 rfl _ HZ ?_; intro w2 gp hp2 hx2 hgp; have hb2 := hb1.ext hx2; have hx12 := hx1.trans hx2)
  | ((with_reducible apply gS 12); refine wLdB rfl 47 (.tmp 2) rfl gf rfl hb2 _ Tryz.underlying47 rfl 103 sizeFile hts.out ?_)
  | (go_at_call 50; (with_reducible refine (HC.out _ hx12).mono ?_); rintro e w3 ⟨rfl, hx3⟩; have hp3 := hp2.ext hx3; have hx13 := hx12.trans hx3; have c102 := (HF.out _ _ (hb2.ext hx3)).c102)
  | (go_at_call 34; (with_reducible refine (HS.out _ hx13).mono ?_); rintro e w4 ⟨⟨PA, pc, pu, rfl⟩, hx4⟩; have hp4 := hp3.ext hx4; have hx14 := hx13.trans hx4)
  | ((with_reducible apply gS 39); refine wpList_build0_g (by rfl) 47 rfl _ HB.out ?_)
  | ((with_reducible apply gT 4 39); refine wStB rfl 47 (.tmp 4) (.tmp 39) rfl gp pz rfl rfl hp4 103 sizeFile hz0.out hzs.out hzo.out ?_; intro w5 hb5 hg5; have hx5 := hx14.grown hg5 (by have := hx1.size; omega)))
 exact ret_cell_tmp rfl rfl gp rfl hb5 _ Tryz.underlying47 rfl 103 sizeFile hz0.out (HR.out _ hx5)
set_option maxRecDepth 20000 in
set_option maxHeartbeats 4000000 in
theorem hurt_far (F : FC) (hF : F.shaped) (s1 s2 : Value) (A : Option Addr) (n c : Nat) (k : Int) (pn : Nat) (hpn : pn ≤ 2000000) (hk : (pn : Int) ≤ k) (w : World)
 (HC : ∀ W, Ext w W → Calls Tryz.prog 50 #[.agg (F.cells s1 s2 (.slice A n c))] W fun e W' => e = .returned (.int .i64 0) ∧ Ext W W')
 (HS : ∀ W, Ext w W → Calls Tryz.prog 34 #[.slice A n c] W fun e W' => (∃ PA pc u, e = .returned (.tuple #[.slice PA pn pc, u, .int .i64 0])) ∧ Ext W W') :
 Calls Tryz.prog 20 #[.agg (F.cells s1 s2 (.slice A n c)), .int .i64 k] w (HurtIs (FC.zero, 5) w) := by
 have HF := hid_ (fun W g (h : Blk W g 47 (F.cells s1 s2 (.slice A n c))) => fileB h hF.1 (tblL_len _ _ hF.2.1) (tblL_len _ _ hF.2.2))
 have hts := hid_ (FC.size hF s1 s2 (.slice A n c))
 have HC := hid_ HC
 have HS := hid_ HS
 have HZ := zeroFileV
 have HB := hid_ built0F
 have hz0 := hid_ zFile_size
 have hzs : Hid ((Value.agg zFile).cells.size = 103) := hid_ zFile_size
 have hzo := hid_ zFile_one
 have HR : Hid (∀ W, Ext w W → HurtIs (FC.zero, 5) w (.returned (.tuple #[.agg zFile, .int .i64 5])) W) := hid_ (fun W h => ⟨_, _, _, rfl, zero_at W, h⟩)
 generalize zFile = pz at *
 generalize F.cells s1 s2 (.slice A n c) = fv at *
 clear hF
 have hk0 : decide (k < 0) = false := by simp; omega
 have hk1 : decide ((pn : Int) ≤ k) = true := by simpa using hk
 go_enter Tryz.func20, Tryz.ntmps20
 go_wp2_with (first
  | ((with_reducible apply gS 2); refine wBox rfl 47 (.tmp 0) rfl fv rfl ?_; intro w1 gf hb1 hx1 hgf)
  | ((with_reducible apply gS 4); refine wAlo' rfl (some 4) rfl 47 rfl _ HZ ?_; intro w2 gp hp2 hx2 hgp; have hb2 := hb1.ext hx2; have hx12 := hx1.trans hx2)
  | ((with_reducible apply gS 12); refine wLdB rfl 47 (.tmp 2) rfl gf rfl hb2 _ Tryz.underlying47 rfl 103 sizeFile hts.out ?_)
  | (go_at_call 50; (with_reducible refine (HC.out _ hx12).mono ?_); rintro e w3 ⟨rfl, hx3⟩; have hp3 := hp2.ext hx3; have hx13 := hx12.trans hx3; have c102 := (HF.out _ _ (hb2.ext hx3)).c102)
  | (go_at_call 34; (with_reducible refine (HS.out _ hx13).mono ?_); rintro e w4 ⟨⟨PA, pc, pu, rfl⟩, hx4⟩; have hp4 := hp3.ext hx4; have hx14 := hx13.trans hx4)
  | ((with_reducible apply gS 39); refine wpList_build0_g (by rfl) 47 rfl _ HB.out ?_)
  | ((with_reducible apply gT 4 39); refine wStB rfl 47 (.tmp 4) (.tmp 39) rfl gp pz rfl rfl hp4 103 sizeFile hz0.out hzs.out hzo.out ?_; intro w5 hb5 hg5; have hx5 := hx14.grown hg5 (by have := hx1.size; omega)))
 exact ret_cell_tmp rfl rfl gp rfl hb5 _ Tryz.underlying47 rfl 103 sizeFile hz0.out (HR.out _ hx5)
end Go.Proofs.YtkggcjdlpendfaaGreatDoor
