/- Contracts for the law FilePacks, part 5: what the functions that it reaches answer, for all arguments that the theorems name. -/
import Derived.Test.YtlepchdlkhogiaaMFilePacks2
import Derived.Test.YtlepchdlkhogiaaMFilePacks4
import Derived.Test.YtlepchdlkhogiaaMFilePacks3
import Derived.Outline
/- R.FileCheck: an argument out of its bounds. -/
namespace Go.Proofs.Ytlepchdlkhogiaa
set_option linter.unusedVariables false
set_option linter.unusedSimpArgs false
open Go.RowKit
set_option maxRecDepth 20000 in
set_option maxHeartbeats 4000000 in
theorem rfcheck_nc (wd hi pt ev : Int) (qs : List Int) (t1 t2 : List Value) (sd : Value) (w : World) (hq : qs.length = 64) (h1 : t1.length = 17) (h2 : t2.length = 17) (k1 : inB wd 1 64 = true) (k2 : inB hi 1 64 = true) (p1 : (pt != 1) = true) (p2 : (pt != 3) = true) :
    Calls Try.prog 43 #[.agg (fileL wd hi pt qs t1 t2 ev sd).toArray] w fun e w' => e = .returned (.int .i64 1) ∧ Ext w w' := by
  have HF := hid_ (fun W g (hb : Blk W g 50 (fileL wd hi pt qs t1 t2 ev sd).toArray) => fileB hb hq h1 h2)
  have W1 := hid_ (fun W => outside_any wd 1 64 W)
  have W2 := hid_ (fun W => outside_any hi 1 64 W)
  have W3 := hid_ (fun W => outside_any ev 0 100 W)
  generalize (fileL wd hi pt qs t1 t2 ev sd).toArray = fv at *
  generalize inB wd 1 64 = b1 at *
  generalize inB hi 1 64 = b2 at *
  generalize inB ev 0 100 = b3 at *
  subst k1 k2
  go_enter Try.func43, Try.ntmps43
  go_wp2_with (first
    | (refine wpList_box_abs rfl 50 (.tmp 0) rfl fv rfl ?_; intro w1 g hb1 hx1 hg; obtain ⟨c0, c1, c2, -, -, -, -, c101, -⟩ := HF.out _ _ hb1)
    | (go_at_call 36; (with_reducible refine (W1.out _).mono ?_); rintro e w2 ⟨rfl, rfl⟩)
    | (go_at_call 36; (with_reducible refine (W2.out _).mono ?_); rintro e w2 ⟨rfl, rfl⟩)
    | (go_at_call 36; (with_reducible refine (W3.out _).mono ?_); rintro e w2 ⟨rfl, rfl⟩))
  go_ret
  exact ⟨rfl, hx1⟩
end Go.Proofs.Ytlepchdlkhogiaa
/- R.FileCheck: an argument out of its bounds. -/
namespace Go.Proofs.Ytlepchdlkhogiaa
set_option linter.unusedVariables false
set_option linter.unusedSimpArgs false
open Go.RowKit
set_option maxRecDepth 20000 in
set_option maxHeartbeats 4000000 in
theorem rfcheck_nd (wd hi ev : Int) (qs : List Int) (t1 t2 : List Value) (sd : Value) (w : World) (hq : qs.length = 64) (h1 : t1.length = 17) (h2 : t2.length = 17) (k1 : inB wd 1 64 = true) (k2 : inB hi 1 64 = true) (k3 : inB ev 0 100 = false) :
    Calls Try.prog 43 #[.agg (fileL wd hi 1 qs t1 t2 ev sd).toArray] w fun e w' => e = .returned (.int .i64 1) ∧ Ext w w' := by
  have HF := hid_ (fun W g (hb : Blk W g 50 (fileL wd hi 1 qs t1 t2 ev sd).toArray) => fileB hb hq h1 h2)
  have W1 := hid_ (fun W => outside_any wd 1 64 W)
  have W2 := hid_ (fun W => outside_any hi 1 64 W)
  have W3 := hid_ (fun W => outside_any ev 0 100 W)
  generalize (fileL wd hi 1 qs t1 t2 ev sd).toArray = fv at *
  generalize inB wd 1 64 = b1 at *
  generalize inB hi 1 64 = b2 at *
  generalize inB ev 0 100 = b3 at *
  subst k1 k2 k3
  go_enter Try.func43, Try.ntmps43
  go_wp2_with (first
    | (refine wpList_box_abs rfl 50 (.tmp 0) rfl fv rfl ?_; intro w1 g hb1 hx1 hg; obtain ⟨c0, c1, c2, -, -, -, -, c101, -⟩ := HF.out _ _ hb1)
    | (go_at_call 36; (with_reducible refine (W1.out _).mono ?_); rintro e w2 ⟨rfl, rfl⟩)
    | (go_at_call 36; (with_reducible refine (W2.out _).mono ?_); rintro e w2 ⟨rfl, rfl⟩)
    | (go_at_call 36; (with_reducible refine (W3.out _).mono ?_); rintro e w2 ⟨rfl, rfl⟩))
  go_ret
  exact ⟨rfl, hx1⟩
end Go.Proofs.Ytlepchdlkhogiaa
/- R.FileCheck: an argument out of its bounds. -/
namespace Go.Proofs.Ytlepchdlkhogiaa
set_option linter.unusedVariables false
set_option linter.unusedSimpArgs false
open Go.RowKit
set_option maxRecDepth 20000 in
set_option maxHeartbeats 4000000 in
theorem rfcheck_ne (wd hi ev : Int) (qs : List Int) (t1 t2 : List Value) (sd : Value) (w : World) (hq : qs.length = 64) (h1 : t1.length = 17) (h2 : t2.length = 17) (k1 : inB wd 1 64 = true) (k2 : inB hi 1 64 = true) (k3 : inB ev 0 100 = false) :
    Calls Try.prog 43 #[.agg (fileL wd hi 3 qs t1 t2 ev sd).toArray] w fun e w' => e = .returned (.int .i64 1) ∧ Ext w w' := by
  have HF := hid_ (fun W g (hb : Blk W g 50 (fileL wd hi 3 qs t1 t2 ev sd).toArray) => fileB hb hq h1 h2)
  have W1 := hid_ (fun W => outside_any wd 1 64 W)
  have W2 := hid_ (fun W => outside_any hi 1 64 W)
  have W3 := hid_ (fun W => outside_any ev 0 100 W)
  generalize (fileL wd hi 3 qs t1 t2 ev sd).toArray = fv at *
  generalize inB wd 1 64 = b1 at *
  generalize inB hi 1 64 = b2 at *
  generalize inB ev 0 100 = b3 at *
  subst k1 k2 k3
  go_enter Try.func43, Try.ntmps43
  go_wp2_with (first
    | (refine wpList_box_abs rfl 50 (.tmp 0) rfl fv rfl ?_; intro w1 g hb1 hx1 hg; obtain ⟨c0, c1, c2, -, -, -, -, c101, -⟩ := HF.out _ _ hb1)
    | (go_at_call 36; (with_reducible refine (W1.out _).mono ?_); rintro e w2 ⟨rfl, rfl⟩)
    | (go_at_call 36; (with_reducible refine (W2.out _).mono ?_); rintro e w2 ⟨rfl, rfl⟩)
    | (go_at_call 36; (with_reducible refine (W3.out _).mono ?_); rintro e w2 ⟨rfl, rfl⟩))
  go_ret
  exact ⟨rfl, hx1⟩
end Go.Proofs.Ytlepchdlkhogiaa
/- R.FileCheck: an argument out of its bounds. -/
namespace Go.Proofs.Ytlepchdlkhogiaa
set_option linter.unusedVariables false
set_option linter.unusedSimpArgs false
open Go.RowKit
theorem rfcheck_no (wd hi pt ev : Int) (qs : List Int) (t1 t2 : List Value) (sd : Value) (w : World) (hq : qs.length = 64) (h1 : t1.length = 17) (h2 : t2.length = 17) (h : argsOK wd hi pt ev = false) :
    Calls Try.prog 43 #[.agg (fileL wd hi pt qs t1 t2 ev sd).toArray] w fun e w' => e = .returned (.int .i64 1) ∧ Ext w w' := by
  unfold argsOK at h
  cases k1 : inB wd 1 64 with
  | false => exact rfcheck_na wd hi pt ev qs t1 t2 sd w hq h1 h2 k1
  | true =>
    cases k2 : inB hi 1 64 with
    | false => exact rfcheck_nb wd hi pt ev qs t1 t2 sd w hq h1 h2 k1 k2
    | true =>
      by_cases p1 : pt = 1
      · subst p1
        cases k3 : inB ev 0 100 with
        | false => exact rfcheck_nd wd hi ev qs t1 t2 sd w hq h1 h2 k1 k2 k3
        | true => rw [k1, k2, k3] at h; cases h
      · by_cases p3 : pt = 3
        · subst p3
          cases k3 : inB ev 0 100 with
          | false => exact rfcheck_ne wd hi ev qs t1 t2 sd w hq h1 h2 k1 k2 k3
          | true => rw [k1, k2, k3] at h; cases h
        · exact rfcheck_nc wd hi pt ev qs t1 t2 sd w hq h1 h2 k1 k2 (by simpa using p1) (by simpa using p3)
end Go.Proofs.Ytlepchdlkhogiaa
/- TableCheck of the reference. -/
namespace Go.Proofs.Ytlepchdlkhogiaa
set_option linter.unusedVariables false
set_option linter.unusedSimpArgs false
open Go.RowKit
theorem SL.take {w : World} {A : Option Addr} {n c : Nat} {xs : List Value} (h : SL w 1 (.slice A n c) n xs) {k : Nat} (hk : k ≤ n) : SL w 1 (.slice A k c) k (xs.take k) := by
  obtain ⟨A', c', e, h1, h1', h2, h3⟩ := h
  injection e with e1 e2 e3
  subst e1 e3
  refine ⟨A, c, rfl, by omega, h1', by simp; omega, fun hn => ?_⟩
  obtain ⟨ad, ea, hlt, hc⟩ := h3 (by omega)
  refine ⟨ad, ea, hlt, fun j u hu => hc j u ?_⟩
  have hj : j < k := by have := (List.getElem?_eq_some_iff.1 hu).1; simp at this; omega
  rwa [List.getElem?_take_of_lt hj] at hu
theorem totOK_no1 {cs xs : List Int} (h : allIn cs 0 256 = false) : totOK cs xs = false := by simp [totOK, h]
theorem totOK_no2 {cs xs : List Int} {k : Nat} (hk : k ≤ 16) (h : 256 < sumL cs k) : totOK cs xs = false := by
  cases h1 : allIn cs 0 256 with
  | false => exact totOK_no1 h1
  | true =>
    have key : ∀ j, k ≤ j → sumL cs k ≤ sumL cs j := by
      intro j hj
      induction j with
      | zero => obtain rfl : k = 0 := by omega
                exact Int.le_refl _
      | succ j ih =>
        rcases Nat.lt_or_ge j k with h2 | h2
        · obtain rfl : k = j + 1 := by omega
          exact Int.le_refl _
        · exact Int.le_trans (ih h2) (sumL_bd h1 j).2
    have := key 16 hk
    unfold totOK
    have h3 : ¬ sumL cs 16 ≤ 256 := by omega
    simp [h3]
set_option maxRecDepth 20000 in
set_option maxHeartbeats 1000000 in
theorem rcheck_any (cs xs : List Int) (sl : Value) (w : World) (hl : cs.length = 16) (hs : SL w 1 sl xs.length (ints xs)) :
    Calls Try.prog 91 #[.agg (tblv cs sl)] w fun e w' => e = .returned (.int .i64 (checkZ cs xs)) ∧ Ext w w' := by
  have hlast := hid_ (fun W g (h : Blk W g 45 (tblv cs sl)) => tblv_last h hl)
  have hts := hid_ (tblv_size cs sl hl)
  have HRG := hid_ (fun W g (h : Blk W g 45 (tblv cs sl)) => tblv_range h)
  have hcl := hid_ ((ints_len cs).trans hl)
  have HIX := hid_ (fun k (hk : k < cs.length) (h16 : k < 16) => fun W => run_index16 (ints cs).toArray k (.int .i64 cs[k]) h16 (bv_at cs k hk) W)
  have HL := hid_ hl
  have hs' := hs
  obtain ⟨A, c, rfl, hc1, hc2, -, -⟩ := hs'
  have HWY := hid_ (fun h1 h2 W => wordsOf_yes cs (.slice A xs.length c) W hl h1 h2)
  have HWN := hid_ (fun h1 h2 W => wordsOf_no cs (.slice A xs.length c) W hl h1 h2)
  generalize tblv cs (.slice A xs.length c) = tv at *
  go_enter Try.func91, Try.ntmps91
  go_wp2_with (first
    | (refine wpList_box_abs rfl 45 (.tmp 0) rfl tv rfl ?_; intro w1 g hb1 hx1 hg)
    | (refine wpList_load_mid rfl 43 (.tmp 12) rfl g 0 rfl (ints cs) _ (HRG.out _ _ hb1) Try.underlying43 rfl (by rw [hcl.out]; exact size16) ?_))
  have hc16 := hid_ (hlast.out _ _ hb1)
  go_loop [3, 14] (fun v i => ∃ k : Nat, k ≤ 16 ∧ i = .int .i64 (k : Int) ∧ v = .int .i64 (sumL cs k) ∧ (∀ z ∈ cs.take k, 0 ≤ z ∧ z ≤ 256) ∧ 0 ≤ sumL cs k ∧ sumL cs k ≤ 256 * k) (fun _ i => 16 - (intOf i).toNat)
  case atStart => exact ⟨0, by omega, rfl, rfl, by simp, by simp [sumL], by simp [sumL]⟩
  case round =>
    obtain ⟨k, hk, rfl, rfl, hin, s1, s2⟩ := hrel
    by_cases hlt : k < 16
    · have hkl : k < cs.length := by have := HL.out; omega
      have hix := HIX.out k hkl hlt
      have HS := hid_ (sumL_succ cs k hkl)
      have HIN := hid_ hin
      have HT2 := hid_ (fun h => checkZ_tot (totOK_no2 (cs := cs) (xs := xs) hk h))
      have HT1 := hid_ (fun h => checkZ_tot (totOK_no1 (cs := cs) (xs := xs) h))
      clear hin
      have HO := hid_ (fun W => outside_any cs[k] 0 256 W)
      cases hq : inB cs[k] 0 256 with
      | true =>
        obtain ⟨q1, q2⟩ := inB_iff.1 hq
        have HN := hid_ (allIn_take HIN.out hkl ⟨q1, q2⟩)
        rw [hq] at HO
        generalize sumL cs k = s at *
        by_cases hbig : 256 < s
        · have hbig' : decide (256 < s) = true := by simpa using hbig
          have HF := hid_ (HT2.out hbig)
          clear hq hbig
          go_wp2_with (go_at_call 36; (with_reducible refine (HO.out _).mono ?_); rintro e w' ⟨rfl, rfl⟩)
          go_ret
          exact ⟨by rw [HF.out]; rfl, hx1⟩
        · have hbig' : decide (256 < s) = false := by simpa using hbig
          clear hq hbig
          go_wp2_with (go_at_call 36; (with_reducible refine (HO.out _).mono ?_); rintro e w' ⟨rfl, rfl⟩)
          go_round
          case rel => exact ⟨k + 1, by omega, by go_num, by rw [HS.out], HN.out, by rw [HS.out]; omega, by rw [HS.out]; omega⟩
          case measure => simp [intOf]; omega
      | false =>
        have HF := hid_ (HT1.out (allIn_no hkl hq))
        rw [hq] at HO
        clear hq
        go_wp2_with (go_at_call 36; (with_reducible refine (HO.out _).mono ?_); rintro e w' ⟨rfl, rfl⟩)
        go_ret
        exact ⟨by rw [HF.out]; rfl, hx1⟩
    · have ek : k = 16 := by omega
      rw [ek] at s1 s2 hin ⊢
      have HA := hid_ (show allIn cs 0 256 = true by
        rw [List.take_of_length_le (by have := HL.out; omega)] at hin
        exact allIn_iff.2 hin)
      have HTK : Hid (sumL cs 16 ≤ 256 → sumL cs 16 = xs.length → totOK cs xs = true) := hid_ (fun a b => totOK_iff.2 ⟨HA.out, a, b⟩)
      have HTN : Hid (¬ (sumL cs 16 ≤ 256 ∧ sumL cs 16 = xs.length) → checkZ cs xs = 4) := hid_ (fun a => checkZ_tot (by
        rw [← Bool.not_eq_true, totOK_iff]
        rintro ⟨-, b, d⟩
        exact a ⟨b, d⟩))
      clear hin ek hk hlt
      generalize sumL cs 16 = s at *
      have h16 := hc16.out
      by_cases h1 : s ≤ 256
      · have h1' : decide (256 < s) = false := by simp; omega
        by_cases h2 : s = xs.length
        · have HTOK := hid_ (HTK.out h1 h2)
          subst h2
          have hneq : ((xs.length : Int) != (xs.length : Int)) = false := by simp
          have HZ1 := hid_ (fun h2 => checkZ_arg HTOK.out h2)
          have HZ2 := hid_ (fun h2 h3 => checkZ_dup HTOK.out h2 h3)
          have HZ3 := hid_ (fun h2 h3 => checkZ_words HTOK.out h2 h3)
          clear h1
          go_wp2_with fail
          go_loop [39] (fun i => ∃ k : Nat, k ≤ xs.length ∧ i = .int .i64 (k : Int) ∧ ∀ z ∈ xs.take k, 0 ≤ z ∧ z ≤ 255) (fun i => xs.length - (intOf i).toNat)
          case atStart => exact ⟨0, by omega, rfl, by simp⟩
          case round =>
            obtain ⟨k, hk, rfl, hin⟩ := hrel
            have HIN := hid_ hin
            clear hin
            by_cases hlt : k < xs.length
            · obtain ⟨ad, u, rfl, -, hxk, hcell⟩ := (hs.ext hx1).at1 hlt
              obtain ⟨hkl, rfl⟩ := ints_at _ _ _ hxk
              clear hxk
              have HO := hid_ (fun W => outside_any xs[k] 0 255 W)
              cases hq : inB xs[k] 0 255 with
              | true =>
                have HN := hid_ (allIn_take HIN.out hkl (inB_iff.1 hq))
                rw [hq] at HO
                clear hq
                go_wp2_with (go_at_call 36; (with_reducible refine (HO.out _).mono ?_); rintro e w' ⟨rfl, rfl⟩)
                go_round
                case rel => exact ⟨k + 1, by omega, by go_num, HN.out⟩
                case measure => simp [intOf]; omega
              | false =>
                have HF := hid_ (HZ1.out (allIn_no hkl hq))
                rw [hq] at HO
                clear hq
                go_wp2_with (go_at_call 36; (with_reducible refine (HO.out _).mono ?_); rintro e w' ⟨rfl, rfl⟩)
                go_ret
                exact ⟨by rw [HF.out]; rfl, hx1⟩
            · have e1 : xs.take k = xs := List.take_of_length_le (by omega)
              have HAX : Hid (allIn xs 0 255 = true) := hid_ (by have := HIN.out; rw [e1] at this; exact allIn_iff.2 this)
              clear e1
              have h16 := hc16.out
              go_wp2_with fail
              go_loop [49] (fun i => ∃ k : Nat, k ≤ xs.length ∧ i = .int .i64 (k : Int) ∧ (xs.take k).Nodup) (fun i => xs.length - (intOf i).toNat)
              case atStart => exact ⟨0, by omega, rfl, by simp⟩
              case round =>
                obtain ⟨m, hm, rfl, hnd⟩ := hrel
                have HND := hid_ hnd
                clear hnd
                by_cases hlt2 : m < xs.length
                · obtain ⟨ad, u, rfl, -, hxk, hcell⟩ := (hs.ext hx1).at1 hlt2
                  obtain ⟨hkl, rfl⟩ := ints_at _ _ _ hxk
                  clear hxk
                  have HS2 := hid_ (nodup_take_succ hkl)
                  have HH := hid_ (fun W (hx : Ext w W) => has_any (xs.take m) (some ad) c m xs[m] W (by simp; omega) (by have := (hs.ext hx).take (k := m) (by omega); rwa [show (ints xs).take m = ints (xs.take m) by simp [ints]] at this))
                  have h16 := hc16.out
                  by_cases hmem : xs[m] ∈ xs.take m
                  · have hd : decide (xs[m] ∈ xs.take m) = true := by simpa using hmem
                    have HF := hid_ (HZ2.out HAX.out (fun hnn => (((HS2.out).1 (List.Nodup.sublist (List.take_sublist _ _) hnn)).2 hmem)))
                    rw [hd] at HH
                    clear hd hmem
                    go_wp2_with (go_at_call 99; (with_reducible refine (HH.out _ hx1).mono ?_); rintro e w' ⟨rfl, rfl⟩)
                    go_ret
                    exact ⟨by rw [HF.out]; rfl, hx1⟩
                  · have hd : decide (xs[m] ∈ xs.take m) = false := by simpa using hmem
                    have HN := hid_ (HS2.out.2 ⟨HND.out, hmem⟩)
                    rw [hd] at HH
                    clear hd hmem
                    go_wp2_with (go_at_call 99; (with_reducible refine (HH.out _ hx1).mono ?_); rintro e w' ⟨rfl, rfl⟩)
                    go_round
                    case rel => exact ⟨m + 1, by omega, by go_num, HN.out⟩
                    case measure => simp [intOf]; omega
                · have e1 : xs.take m = xs := List.take_of_length_le (by omega)
                  rw [e1] at HND
                  have HF := hid_ (HZ3.out HAX.out HND.out)
                  clear e1
                  cases hok : okW cs with
                  | true =>
                    rw [hok] at HF
                    have HW := hid_ (HWY.out HA.out hok)
                    clear hok
                    go_wp2_with (first
                      | (refine wpList_load_blk rfl 45 (.tmp 1) rfl _ rfl hb1 _ Try.underlying45 rfl 17 sizeTbl hts.out ?_)
                      | (go_at_call 100; (with_reducible refine (HW.out _).mono ?_); rintro e w2 ⟨B, d, rfl, hs2, hx2⟩))
                    go_ret
                    exact ⟨by rw [HF.out]; rfl, hx1.trans hx2⟩
                  | false =>
                    rw [hok] at HF
                    have HW := hid_ (HWN.out HA.out hok)
                    clear hok
                    go_wp2_with (first
                      | (refine wpList_load_blk rfl 45 (.tmp 1) rfl _ rfl hb1 _ Try.underlying45 rfl 17 sizeTbl hts.out ?_)
                      | (go_at_call 100; (with_reducible refine (HW.out _).mono ?_); rintro e w2 ⟨rfl, hx2⟩))
                    go_ret
                    exact ⟨by rw [HF.out]; rfl, hx1.trans hx2⟩
        · have h2' : (s != (xs.length : Int)) = true := by simpa using h2
          have HF := hid_ (HTN.out (fun h => h2 h.2))
          clear h2 h1
          go_wp2_with fail
          go_ret
          exact ⟨by rw [HF.out]; rfl, hx1⟩
      · have h1' : decide (256 < s) = true := by simp; omega
        have HF := hid_ (HTN.out (fun h => h1 h.1))
        clear h1
        go_wp2_with fail
        go_ret
        exact ⟨by rw [HF.out]; rfl, hx1⟩
end Go.Proofs.Ytlepchdlkhogiaa
/- TablesCheck of the reference. -/
namespace Go.Proofs.Ytlepchdlkhogiaa
set_option linter.unusedVariables false
set_option linter.unusedSimpArgs false
open Go.RowKit
set_option maxRecDepth 20000 in
set_option maxHeartbeats 4000000 in
theorem tablesCheck_any (t1 t2 : List Value) (z1 z2 : Int) (w : World) (h1 : t1.length = 17) (h2 : t2.length = 17)
    (C1 : ∀ W, Ext w W → Calls Try.prog 91 #[.agg t1.toArray] W fun e W' => e = .returned (.int .i64 z1) ∧ Ext W W')
    (C2 : ∀ W, Ext w W → Calls Try.prog 91 #[.agg t2.toArray] W fun e W' => e = .returned (.int .i64 z2) ∧ Ext W W') :
    Calls Try.prog 66 #[.agg (t1 ++ t2).toArray] w fun e w' => e = .returned (.int .i64 (if z1 = 0 then z2 else z1)) ∧ Ext w w' := by
  have HRT := hid_ (fun W g (hb : Blk W g 47 (t1 ++ t2).toArray) => range_two h1 hb)
  have hl1 := hid_ h1
  have hl2 := hid_ h2
  have HC1 := hid_ C1
  have HC2 := hid_ C2
  clear C1 C2 h1 h2
  generalize htt : (t1 ++ t2).toArray = tt at *
  clear htt
  by_cases hz : z1 = 0
  · rw [if_pos hz]
    subst hz
    go_enter Try.func66, Try.ntmps66
    go_wp2_with (first
      | (refine wpList_box_abs rfl 47 (.tmp 0) rfl tt rfl ?_; intro w1 g hb1 hx1 hg; have hr1 := (HRT.out _ _ hb1).1)
      | (refine wpList_load_mid rfl 45 (.tmp 4) rfl g 0 rfl t1 _ hr1 Try.underlying45 rfl (by rw [hl1.out]; exact sizeTbl) ?_)
      | (go_at_call 91; (with_reducible refine (HC1.out _ hx1).mono ?_); rintro e w2 ⟨rfl, hx2⟩; have hr2 := (HRT.out _ _ (hb1.ext hx2)).2)
      | (refine wpList_load_mid rfl 45 (.tmp 10) rfl g 17 rfl t2 _ hr2 Try.underlying45 rfl (by rw [hl2.out]; exact sizeTbl) ?_)
      | (go_at_call 91; (with_reducible refine (HC2.out _ (hx1.trans hx2)).mono ?_); rintro e w3 ⟨rfl, hx3⟩))
    go_ret
    exact ⟨rfl, (hx1.trans hx2).trans hx3⟩
  · rw [if_neg hz]
    have hz1 : (z1 != 0) = true := by simpa using hz
    go_enter Try.func66, Try.ntmps66
    go_wp2_with (first
      | (refine wpList_box_abs rfl 47 (.tmp 0) rfl tt rfl ?_; intro w1 g hb1 hx1 hg; have hr1 := (HRT.out _ _ hb1).1)
      | (refine wpList_load_mid rfl 45 (.tmp 4) rfl g 0 rfl t1 _ hr1 Try.underlying45 rfl (by rw [hl1.out]; exact sizeTbl) ?_)
      | (go_at_call 91; (with_reducible refine (HC1.out _ hx1).mono ?_); rintro e w2 ⟨rfl, hx2⟩))
    go_ret
    exact ⟨rfl, hx1.trans hx2⟩
end Go.Proofs.Ytlepchdlkhogiaa
/- R.FileCheck: arguments within their bounds. -/
namespace Go.Proofs.Ytlepchdlkhogiaa
set_option linter.unusedVariables false
set_option linter.unusedSimpArgs false
open Go.RowKit
set_option maxRecDepth 20000 in
set_option maxHeartbeats 4000000 in
theorem rfcheck_y1f (wd hi ev : Int) (qs : List Int) (t1 t2 : List Value) (A : Option Addr) (n c : Nat) (z1 z2 : Int) (w : World) (hq : qs.length = 64) (h1 : t1.length = 17) (h2 : t2.length = 17)
    (k1 : inB wd 1 64 = true) (k2 : inB hi 1 64 = true) (k3 : inB ev 0 100 = true) (kq : allIn qs 1 255 = false) :
    Calls Try.prog 43 #[.agg (fileL wd hi 1 qs t1 t2 ev (.slice A n c)).toArray] w fun e w' => e = .returned (.int .i64 (1)) ∧ Ext w w' := by
  have HF := hid_ (fun W g (hb : Blk W g 50 (fileL wd hi 1 qs t1 t2 ev (.slice A n c)).toArray) => fileB hb hq h1 h2)
  have W1 := hid_ (fun W => outside_any wd 1 64 W)
  have W2 := hid_ (fun W => outside_any hi 1 64 W)
  have W3 := hid_ (fun W => outside_any ev 0 100 W)
  have HQ : Hid (∀ W, Calls Try.prog 39 #[.agg (ints qs).toArray, .int .i64 1, .int .i64 255] W fun e w' => e = .returned (.bool false) ∧ Ext W w') := hid_ (fun W => by have h := blockWithin_any qs 1 255 W hq; rw [kq] at h; exact h)
  clear kq
  have hql := hid_ ((ints_len qs).trans hq)
  have hl3 : Hid ((t1 ++ t2).length = 34) := hid_ (by simp [h1, h2])
  clear h1 h2 hq
  generalize (fileL wd hi 1 qs t1 t2 ev (.slice A n c)).toArray = fv at *
  generalize inB wd 1 64 = b1 at *
  generalize inB hi 1 64 = b2 at *
  generalize inB ev 0 100 = b3 at *
  subst k1 k2 k3
  go_enter Try.func43, Try.ntmps43
  go_wp2_with (first
    | (refine wpList_box_abs rfl 50 (.tmp 0) rfl fv rfl ?_; intro w1 g hb1 hx1 hg; have hf1 := HF.out _ _ hb1; have c0 := hf1.c0; have c1 := hf1.c1; have c2 := hf1.c2; have c101 := hf1.c101)
    | (go_at_call 36; (with_reducible refine (W1.out _).mono ?_); rintro e w2 ⟨rfl, rfl⟩)
    | (go_at_call 36; (with_reducible refine (W2.out _).mono ?_); rintro e w2 ⟨rfl, rfl⟩)
    | (go_at_call 36; (with_reducible refine (W3.out _).mono ?_); rintro e w2 ⟨rfl, rfl⟩)
    | (refine wpList_load_mid_g (by rfl) 31 (.tmp 28) rfl g 3 rfl (ints qs) _ hf1.q Try.underlying31 rfl (by rw [hql.out]; exact size48) ?_)
    | (go_at_call 39; (with_reducible refine (HQ.out _).mono ?_); rintro e w2 ⟨rfl, hx2⟩; have hb2 := hb1.ext hx2; have hf2 := HF.out _ _ hb2))
  go_ret
  exact ⟨rfl, hx1.trans hx2⟩
end Go.Proofs.Ytlepchdlkhogiaa
/- R.FileCheck: arguments within their bounds. -/
namespace Go.Proofs.Ytlepchdlkhogiaa
set_option linter.unusedVariables false
set_option linter.unusedSimpArgs false
open Go.RowKit
set_option maxRecDepth 20000 in
set_option maxHeartbeats 4000000 in
theorem rfcheck_y3f (wd hi ev : Int) (qs : List Int) (t1 t2 : List Value) (A : Option Addr) (n c : Nat) (z1 z2 : Int) (w : World) (hq : qs.length = 64) (h1 : t1.length = 17) (h2 : t2.length = 17)
    (k1 : inB wd 1 64 = true) (k2 : inB hi 1 64 = true) (k3 : inB ev 0 100 = true) (kq : allIn qs 1 255 = false) :
    Calls Try.prog 43 #[.agg (fileL wd hi 3 qs t1 t2 ev (.slice A n c)).toArray] w fun e w' => e = .returned (.int .i64 (1)) ∧ Ext w w' := by
  have HF := hid_ (fun W g (hb : Blk W g 50 (fileL wd hi 3 qs t1 t2 ev (.slice A n c)).toArray) => fileB hb hq h1 h2)
  have W1 := hid_ (fun W => outside_any wd 1 64 W)
  have W2 := hid_ (fun W => outside_any hi 1 64 W)
  have W3 := hid_ (fun W => outside_any ev 0 100 W)
  have HQ : Hid (∀ W, Calls Try.prog 39 #[.agg (ints qs).toArray, .int .i64 1, .int .i64 255] W fun e w' => e = .returned (.bool false) ∧ Ext W w') := hid_ (fun W => by have h := blockWithin_any qs 1 255 W hq; rw [kq] at h; exact h)
  clear kq
  have hql := hid_ ((ints_len qs).trans hq)
  have hl3 : Hid ((t1 ++ t2).length = 34) := hid_ (by simp [h1, h2])
  clear h1 h2 hq
  generalize (fileL wd hi 3 qs t1 t2 ev (.slice A n c)).toArray = fv at *
  generalize inB wd 1 64 = b1 at *
  generalize inB hi 1 64 = b2 at *
  generalize inB ev 0 100 = b3 at *
  subst k1 k2 k3
  go_enter Try.func43, Try.ntmps43
  go_wp2_with (first
    | (refine wpList_box_abs rfl 50 (.tmp 0) rfl fv rfl ?_; intro w1 g hb1 hx1 hg; have hf1 := HF.out _ _ hb1; have c0 := hf1.c0; have c1 := hf1.c1; have c2 := hf1.c2; have c101 := hf1.c101)
    | (go_at_call 36; (with_reducible refine (W1.out _).mono ?_); rintro e w2 ⟨rfl, rfl⟩)
    | (go_at_call 36; (with_reducible refine (W2.out _).mono ?_); rintro e w2 ⟨rfl, rfl⟩)
    | (go_at_call 36; (with_reducible refine (W3.out _).mono ?_); rintro e w2 ⟨rfl, rfl⟩)
    | (refine wpList_load_mid_g (by rfl) 31 (.tmp 28) rfl g 3 rfl (ints qs) _ hf1.q Try.underlying31 rfl (by rw [hql.out]; exact size48) ?_)
    | (go_at_call 39; (with_reducible refine (HQ.out _).mono ?_); rintro e w2 ⟨rfl, hx2⟩; have hb2 := hb1.ext hx2; have hf2 := HF.out _ _ hb2))
  go_ret
  exact ⟨rfl, hx1.trans hx2⟩
end Go.Proofs.Ytlepchdlkhogiaa
/- R.FileCheck: arguments within their bounds. -/
namespace Go.Proofs.Ytlepchdlkhogiaa
set_option linter.unusedVariables false
set_option linter.unusedSimpArgs false
open Go.RowKit
set_option maxRecDepth 20000 in
set_option maxHeartbeats 4000000 in
theorem rfcheck_y1t (wd hi ev : Int) (qs : List Int) (t1 t2 : List Value) (A : Option Addr) (n c : Nat) (z1 z2 : Int) (w : World) (hq : qs.length = 64) (h1 : t1.length = 17) (h2 : t2.length = 17)
    (k1 : inB wd 1 64 = true) (k2 : inB hi 1 64 = true) (k3 : inB ev 0 100 = true) (kq : allIn qs 1 255 = true) (o1 : t1.toArray.all (·.oneCell') = true) (o2 : t2.toArray.all (·.oneCell') = true)
    (C1 : ∀ W, Ext w W → Calls Try.prog 91 #[.agg t1.toArray] W fun e W' => e = .returned (.int .i64 z1) ∧ Ext W W')
    (C2 : ∀ W, Ext w W → Calls Try.prog 91 #[.agg t2.toArray] W fun e W' => e = .returned (.int .i64 z2) ∧ Ext W W') :
    Calls Try.prog 43 #[.agg (fileL wd hi 1 qs t1 t2 ev (.slice A n c)).toArray] w fun e w' => e = .returned (.int .i64 (if z1 = 0 then (if z2 = 0 then (if 90000 < n then 2 else 0) else z2) else z1)) ∧ Ext w w' := by
  have HF := hid_ (fun W g (hb : Blk W g 50 (fileL wd hi 1 qs t1 t2 ev (.slice A n c)).toArray) => fileB hb hq h1 h2)
  have W1 := hid_ (fun W => outside_any wd 1 64 W)
  have W2 := hid_ (fun W => outside_any hi 1 64 W)
  have W3 := hid_ (fun W => outside_any ev 0 100 W)
  have HQ : Hid (∀ W, Calls Try.prog 39 #[.agg (ints qs).toArray, .int .i64 1, .int .i64 255] W fun e w' => e = .returned (.bool true) ∧ Ext W w') := hid_ (fun W => by have h := blockWithin_any qs 1 255 W hq; rw [kq] at h; exact h)
  clear kq
  have hql := hid_ ((ints_len qs).trans hq)
  have hl3 : Hid ((t1 ++ t2).length = 34) := hid_ (by simp [h1, h2])
  have HT := hid_ (fun W (hx : Ext w W) => tablesCheck_any t1 t2 z1 z2 W h1 h2 (fun V hV => C1 V (hx.trans hV)) (fun V hV => C2 V (hx.trans hV)))
  clear o1 o2 C1 C2
  clear h1 h2 hq
  generalize (fileL wd hi 1 qs t1 t2 ev (.slice A n c)).toArray = fv at *
  generalize inB wd 1 64 = b1 at *
  generalize inB hi 1 64 = b2 at *
  generalize inB ev 0 100 = b3 at *
  subst k1 k2 k3
  have HT0 := HT
  clear HT
  by_cases y1 : z1 = 0
  · by_cases y2 : z2 = 0
    · have HT : Hid (∀ W, Ext w W → Calls Try.prog 66 #[.agg (t1 ++ t2).toArray] W fun e W' => e = .returned (.int .i64 0) ∧ Ext W W') := hid_ (fun W hW => by have h := HT0.out W hW; rw [if_pos y1, y2] at h; exact h)
      clear HT0
      rw [if_pos y1, if_pos y2]
      clear y1 y2
      by_cases hn : 90000 < n
      · have hn' : decide ((90000 : Int) < (n : Int)) = true := by simp; omega
        rw [if_pos hn]
        go_enter Try.func43, Try.ntmps43
        go_wp2_with (first
          | (refine wpList_box_abs rfl 50 (.tmp 0) rfl fv rfl ?_; intro w1 g hb1 hx1 hg; have hf1 := HF.out _ _ hb1; have c0 := hf1.c0; have c1 := hf1.c1; have c2 := hf1.c2; have c101 := hf1.c101)
          | (go_at_call 36; (with_reducible refine (W1.out _).mono ?_); rintro e w2 ⟨rfl, rfl⟩)
          | (go_at_call 36; (with_reducible refine (W2.out _).mono ?_); rintro e w2 ⟨rfl, rfl⟩)
          | (go_at_call 36; (with_reducible refine (W3.out _).mono ?_); rintro e w2 ⟨rfl, rfl⟩)
          | (refine wpList_load_mid_g (by rfl) 31 (.tmp 28) rfl g 3 rfl (ints qs) _ hf1.q Try.underlying31 rfl (by rw [hql.out]; exact size48) ?_)
          | (go_at_call 39; (with_reducible refine (HQ.out _).mono ?_); rintro e w2 ⟨rfl, hx2⟩; have hb2 := hb1.ext hx2; have hf2 := HF.out _ _ hb2)
          | (refine wpList_load_mid rfl 47 (.tmp 33) rfl g 67 rfl (t1 ++ t2) _ hf2.tt Try.underlying47 rfl (by rw [hl3.out]; exact sizeTbls) ?_)
          | (go_at_call 66; (with_reducible refine (HT.out _ (hx1.trans hx2)).mono ?_); rintro e w3 ⟨rfl, hx3⟩; have c102 := (HF.out _ _ (hb2.ext hx3)).c102))
        go_ret
        exact ⟨rfl, (hx1.trans hx2).trans hx3⟩
      · have hn' : decide ((90000 : Int) < (n : Int)) = false := by simp; omega
        rw [if_neg hn]
        go_enter Try.func43, Try.ntmps43
        go_wp2_with (first
          | (refine wpList_box_abs rfl 50 (.tmp 0) rfl fv rfl ?_; intro w1 g hb1 hx1 hg; have hf1 := HF.out _ _ hb1; have c0 := hf1.c0; have c1 := hf1.c1; have c2 := hf1.c2; have c101 := hf1.c101)
          | (go_at_call 36; (with_reducible refine (W1.out _).mono ?_); rintro e w2 ⟨rfl, rfl⟩)
          | (go_at_call 36; (with_reducible refine (W2.out _).mono ?_); rintro e w2 ⟨rfl, rfl⟩)
          | (go_at_call 36; (with_reducible refine (W3.out _).mono ?_); rintro e w2 ⟨rfl, rfl⟩)
          | (refine wpList_load_mid_g (by rfl) 31 (.tmp 28) rfl g 3 rfl (ints qs) _ hf1.q Try.underlying31 rfl (by rw [hql.out]; exact size48) ?_)
          | (go_at_call 39; (with_reducible refine (HQ.out _).mono ?_); rintro e w2 ⟨rfl, hx2⟩; have hb2 := hb1.ext hx2; have hf2 := HF.out _ _ hb2)
          | (refine wpList_load_mid rfl 47 (.tmp 33) rfl g 67 rfl (t1 ++ t2) _ hf2.tt Try.underlying47 rfl (by rw [hl3.out]; exact sizeTbls) ?_)
          | (go_at_call 66; (with_reducible refine (HT.out _ (hx1.trans hx2)).mono ?_); rintro e w3 ⟨rfl, hx3⟩; have c102 := (HF.out _ _ (hb2.ext hx3)).c102))
        go_ret
        exact ⟨rfl, (hx1.trans hx2).trans hx3⟩
    · have HT : Hid (∀ W, Ext w W → Calls Try.prog 66 #[.agg (t1 ++ t2).toArray] W fun e W' => e = .returned (.int .i64 z2) ∧ Ext W W') := hid_ (fun W hW => by have h := HT0.out W hW; rw [if_pos y1] at h; exact h)
      clear HT0
      have hz1 : (z2 != 0) = true := by simpa using y2
      rw [if_pos y1, if_neg y2]
      clear y1 y2
      go_enter Try.func43, Try.ntmps43
      go_wp2_with (first
        | (refine wpList_box_abs rfl 50 (.tmp 0) rfl fv rfl ?_; intro w1 g hb1 hx1 hg; have hf1 := HF.out _ _ hb1; have c0 := hf1.c0; have c1 := hf1.c1; have c2 := hf1.c2; have c101 := hf1.c101)
        | (go_at_call 36; (with_reducible refine (W1.out _).mono ?_); rintro e w2 ⟨rfl, rfl⟩)
        | (go_at_call 36; (with_reducible refine (W2.out _).mono ?_); rintro e w2 ⟨rfl, rfl⟩)
        | (go_at_call 36; (with_reducible refine (W3.out _).mono ?_); rintro e w2 ⟨rfl, rfl⟩)
        | (refine wpList_load_mid_g (by rfl) 31 (.tmp 28) rfl g 3 rfl (ints qs) _ hf1.q Try.underlying31 rfl (by rw [hql.out]; exact size48) ?_)
        | (go_at_call 39; (with_reducible refine (HQ.out _).mono ?_); rintro e w2 ⟨rfl, hx2⟩; have hb2 := hb1.ext hx2; have hf2 := HF.out _ _ hb2)
        | (refine wpList_load_mid rfl 47 (.tmp 33) rfl g 67 rfl (t1 ++ t2) _ hf2.tt Try.underlying47 rfl (by rw [hl3.out]; exact sizeTbls) ?_)
        | (go_at_call 66; (with_reducible refine (HT.out _ (hx1.trans hx2)).mono ?_); rintro e w3 ⟨rfl, hx3⟩; have c102 := (HF.out _ _ (hb2.ext hx3)).c102))
      go_ret
      exact ⟨rfl, (hx1.trans hx2).trans hx3⟩
  · have HT : Hid (∀ W, Ext w W → Calls Try.prog 66 #[.agg (t1 ++ t2).toArray] W fun e W' => e = .returned (.int .i64 z1) ∧ Ext W W') := hid_ (fun W hW => by have h := HT0.out W hW; rw [if_neg y1] at h; exact h)
    clear HT0
    have hz1 : (z1 != 0) = true := by simpa using y1
    rw [if_neg y1]
    clear y1
    go_enter Try.func43, Try.ntmps43
    go_wp2_with (first
      | (refine wpList_box_abs rfl 50 (.tmp 0) rfl fv rfl ?_; intro w1 g hb1 hx1 hg; have hf1 := HF.out _ _ hb1; have c0 := hf1.c0; have c1 := hf1.c1; have c2 := hf1.c2; have c101 := hf1.c101)
      | (go_at_call 36; (with_reducible refine (W1.out _).mono ?_); rintro e w2 ⟨rfl, rfl⟩)
      | (go_at_call 36; (with_reducible refine (W2.out _).mono ?_); rintro e w2 ⟨rfl, rfl⟩)
      | (go_at_call 36; (with_reducible refine (W3.out _).mono ?_); rintro e w2 ⟨rfl, rfl⟩)
      | (refine wpList_load_mid_g (by rfl) 31 (.tmp 28) rfl g 3 rfl (ints qs) _ hf1.q Try.underlying31 rfl (by rw [hql.out]; exact size48) ?_)
      | (go_at_call 39; (with_reducible refine (HQ.out _).mono ?_); rintro e w2 ⟨rfl, hx2⟩; have hb2 := hb1.ext hx2; have hf2 := HF.out _ _ hb2)
      | (refine wpList_load_mid rfl 47 (.tmp 33) rfl g 67 rfl (t1 ++ t2) _ hf2.tt Try.underlying47 rfl (by rw [hl3.out]; exact sizeTbls) ?_)
      | (go_at_call 66; (with_reducible refine (HT.out _ (hx1.trans hx2)).mono ?_); rintro e w3 ⟨rfl, hx3⟩; have c102 := (HF.out _ _ (hb2.ext hx3)).c102))
    go_ret
    exact ⟨rfl, (hx1.trans hx2).trans hx3⟩
end Go.Proofs.Ytlepchdlkhogiaa
/- R.FileCheck: arguments within their bounds. -/
namespace Go.Proofs.Ytlepchdlkhogiaa
set_option linter.unusedVariables false
set_option linter.unusedSimpArgs false
open Go.RowKit
set_option maxRecDepth 20000 in
set_option maxHeartbeats 4000000 in
theorem rfcheck_y3t (wd hi ev : Int) (qs : List Int) (t1 t2 : List Value) (A : Option Addr) (n c : Nat) (z1 z2 : Int) (w : World) (hq : qs.length = 64) (h1 : t1.length = 17) (h2 : t2.length = 17)
    (k1 : inB wd 1 64 = true) (k2 : inB hi 1 64 = true) (k3 : inB ev 0 100 = true) (kq : allIn qs 1 255 = true) (o1 : t1.toArray.all (·.oneCell') = true) (o2 : t2.toArray.all (·.oneCell') = true)
    (C1 : ∀ W, Ext w W → Calls Try.prog 91 #[.agg t1.toArray] W fun e W' => e = .returned (.int .i64 z1) ∧ Ext W W')
    (C2 : ∀ W, Ext w W → Calls Try.prog 91 #[.agg t2.toArray] W fun e W' => e = .returned (.int .i64 z2) ∧ Ext W W') :
    Calls Try.prog 43 #[.agg (fileL wd hi 3 qs t1 t2 ev (.slice A n c)).toArray] w fun e w' => e = .returned (.int .i64 (if z1 = 0 then (if z2 = 0 then (if 90000 < n then 2 else 0) else z2) else z1)) ∧ Ext w w' := by
  have HF := hid_ (fun W g (hb : Blk W g 50 (fileL wd hi 3 qs t1 t2 ev (.slice A n c)).toArray) => fileB hb hq h1 h2)
  have W1 := hid_ (fun W => outside_any wd 1 64 W)
  have W2 := hid_ (fun W => outside_any hi 1 64 W)
  have W3 := hid_ (fun W => outside_any ev 0 100 W)
  have HQ : Hid (∀ W, Calls Try.prog 39 #[.agg (ints qs).toArray, .int .i64 1, .int .i64 255] W fun e w' => e = .returned (.bool true) ∧ Ext W w') := hid_ (fun W => by have h := blockWithin_any qs 1 255 W hq; rw [kq] at h; exact h)
  clear kq
  have hql := hid_ ((ints_len qs).trans hq)
  have hl3 : Hid ((t1 ++ t2).length = 34) := hid_ (by simp [h1, h2])
  have HT := hid_ (fun W (hx : Ext w W) => tablesCheck_any t1 t2 z1 z2 W h1 h2 (fun V hV => C1 V (hx.trans hV)) (fun V hV => C2 V (hx.trans hV)))
  clear o1 o2 C1 C2
  clear h1 h2 hq
  generalize (fileL wd hi 3 qs t1 t2 ev (.slice A n c)).toArray = fv at *
  generalize inB wd 1 64 = b1 at *
  generalize inB hi 1 64 = b2 at *
  generalize inB ev 0 100 = b3 at *
  subst k1 k2 k3
  have HT0 := HT
  clear HT
  by_cases y1 : z1 = 0
  · by_cases y2 : z2 = 0
    · have HT : Hid (∀ W, Ext w W → Calls Try.prog 66 #[.agg (t1 ++ t2).toArray] W fun e W' => e = .returned (.int .i64 0) ∧ Ext W W') := hid_ (fun W hW => by have h := HT0.out W hW; rw [if_pos y1, y2] at h; exact h)
      clear HT0
      rw [if_pos y1, if_pos y2]
      clear y1 y2
      by_cases hn : 90000 < n
      · have hn' : decide ((90000 : Int) < (n : Int)) = true := by simp; omega
        rw [if_pos hn]
        go_enter Try.func43, Try.ntmps43
        go_wp2_with (first
          | (refine wpList_box_abs rfl 50 (.tmp 0) rfl fv rfl ?_; intro w1 g hb1 hx1 hg; have hf1 := HF.out _ _ hb1; have c0 := hf1.c0; have c1 := hf1.c1; have c2 := hf1.c2; have c101 := hf1.c101)
          | (go_at_call 36; (with_reducible refine (W1.out _).mono ?_); rintro e w2 ⟨rfl, rfl⟩)
          | (go_at_call 36; (with_reducible refine (W2.out _).mono ?_); rintro e w2 ⟨rfl, rfl⟩)
          | (go_at_call 36; (with_reducible refine (W3.out _).mono ?_); rintro e w2 ⟨rfl, rfl⟩)
          | (refine wpList_load_mid_g (by rfl) 31 (.tmp 28) rfl g 3 rfl (ints qs) _ hf1.q Try.underlying31 rfl (by rw [hql.out]; exact size48) ?_)
          | (go_at_call 39; (with_reducible refine (HQ.out _).mono ?_); rintro e w2 ⟨rfl, hx2⟩; have hb2 := hb1.ext hx2; have hf2 := HF.out _ _ hb2)
          | (refine wpList_load_mid rfl 47 (.tmp 33) rfl g 67 rfl (t1 ++ t2) _ hf2.tt Try.underlying47 rfl (by rw [hl3.out]; exact sizeTbls) ?_)
          | (go_at_call 66; (with_reducible refine (HT.out _ (hx1.trans hx2)).mono ?_); rintro e w3 ⟨rfl, hx3⟩; have c102 := (HF.out _ _ (hb2.ext hx3)).c102))
        go_ret
        exact ⟨rfl, (hx1.trans hx2).trans hx3⟩
      · have hn' : decide ((90000 : Int) < (n : Int)) = false := by simp; omega
        rw [if_neg hn]
        go_enter Try.func43, Try.ntmps43
        go_wp2_with (first
          | (refine wpList_box_abs rfl 50 (.tmp 0) rfl fv rfl ?_; intro w1 g hb1 hx1 hg; have hf1 := HF.out _ _ hb1; have c0 := hf1.c0; have c1 := hf1.c1; have c2 := hf1.c2; have c101 := hf1.c101)
          | (go_at_call 36; (with_reducible refine (W1.out _).mono ?_); rintro e w2 ⟨rfl, rfl⟩)
          | (go_at_call 36; (with_reducible refine (W2.out _).mono ?_); rintro e w2 ⟨rfl, rfl⟩)
          | (go_at_call 36; (with_reducible refine (W3.out _).mono ?_); rintro e w2 ⟨rfl, rfl⟩)
          | (refine wpList_load_mid_g (by rfl) 31 (.tmp 28) rfl g 3 rfl (ints qs) _ hf1.q Try.underlying31 rfl (by rw [hql.out]; exact size48) ?_)
          | (go_at_call 39; (with_reducible refine (HQ.out _).mono ?_); rintro e w2 ⟨rfl, hx2⟩; have hb2 := hb1.ext hx2; have hf2 := HF.out _ _ hb2)
          | (refine wpList_load_mid rfl 47 (.tmp 33) rfl g 67 rfl (t1 ++ t2) _ hf2.tt Try.underlying47 rfl (by rw [hl3.out]; exact sizeTbls) ?_)
          | (go_at_call 66; (with_reducible refine (HT.out _ (hx1.trans hx2)).mono ?_); rintro e w3 ⟨rfl, hx3⟩; have c102 := (HF.out _ _ (hb2.ext hx3)).c102))
        go_ret
        exact ⟨rfl, (hx1.trans hx2).trans hx3⟩
    · have HT : Hid (∀ W, Ext w W → Calls Try.prog 66 #[.agg (t1 ++ t2).toArray] W fun e W' => e = .returned (.int .i64 z2) ∧ Ext W W') := hid_ (fun W hW => by have h := HT0.out W hW; rw [if_pos y1] at h; exact h)
      clear HT0
      have hz1 : (z2 != 0) = true := by simpa using y2
      rw [if_pos y1, if_neg y2]
      clear y1 y2
      go_enter Try.func43, Try.ntmps43
      go_wp2_with (first
        | (refine wpList_box_abs rfl 50 (.tmp 0) rfl fv rfl ?_; intro w1 g hb1 hx1 hg; have hf1 := HF.out _ _ hb1; have c0 := hf1.c0; have c1 := hf1.c1; have c2 := hf1.c2; have c101 := hf1.c101)
        | (go_at_call 36; (with_reducible refine (W1.out _).mono ?_); rintro e w2 ⟨rfl, rfl⟩)
        | (go_at_call 36; (with_reducible refine (W2.out _).mono ?_); rintro e w2 ⟨rfl, rfl⟩)
        | (go_at_call 36; (with_reducible refine (W3.out _).mono ?_); rintro e w2 ⟨rfl, rfl⟩)
        | (refine wpList_load_mid_g (by rfl) 31 (.tmp 28) rfl g 3 rfl (ints qs) _ hf1.q Try.underlying31 rfl (by rw [hql.out]; exact size48) ?_)
        | (go_at_call 39; (with_reducible refine (HQ.out _).mono ?_); rintro e w2 ⟨rfl, hx2⟩; have hb2 := hb1.ext hx2; have hf2 := HF.out _ _ hb2)
        | (refine wpList_load_mid rfl 47 (.tmp 33) rfl g 67 rfl (t1 ++ t2) _ hf2.tt Try.underlying47 rfl (by rw [hl3.out]; exact sizeTbls) ?_)
        | (go_at_call 66; (with_reducible refine (HT.out _ (hx1.trans hx2)).mono ?_); rintro e w3 ⟨rfl, hx3⟩; have c102 := (HF.out _ _ (hb2.ext hx3)).c102))
      go_ret
      exact ⟨rfl, (hx1.trans hx2).trans hx3⟩
  · have HT : Hid (∀ W, Ext w W → Calls Try.prog 66 #[.agg (t1 ++ t2).toArray] W fun e W' => e = .returned (.int .i64 z1) ∧ Ext W W') := hid_ (fun W hW => by have h := HT0.out W hW; rw [if_neg y1] at h; exact h)
    clear HT0
    have hz1 : (z1 != 0) = true := by simpa using y1
    rw [if_neg y1]
    clear y1
    go_enter Try.func43, Try.ntmps43
    go_wp2_with (first
      | (refine wpList_box_abs rfl 50 (.tmp 0) rfl fv rfl ?_; intro w1 g hb1 hx1 hg; have hf1 := HF.out _ _ hb1; have c0 := hf1.c0; have c1 := hf1.c1; have c2 := hf1.c2; have c101 := hf1.c101)
      | (go_at_call 36; (with_reducible refine (W1.out _).mono ?_); rintro e w2 ⟨rfl, rfl⟩)
      | (go_at_call 36; (with_reducible refine (W2.out _).mono ?_); rintro e w2 ⟨rfl, rfl⟩)
      | (go_at_call 36; (with_reducible refine (W3.out _).mono ?_); rintro e w2 ⟨rfl, rfl⟩)
      | (refine wpList_load_mid_g (by rfl) 31 (.tmp 28) rfl g 3 rfl (ints qs) _ hf1.q Try.underlying31 rfl (by rw [hql.out]; exact size48) ?_)
      | (go_at_call 39; (with_reducible refine (HQ.out _).mono ?_); rintro e w2 ⟨rfl, hx2⟩; have hb2 := hb1.ext hx2; have hf2 := HF.out _ _ hb2)
      | (refine wpList_load_mid rfl 47 (.tmp 33) rfl g 67 rfl (t1 ++ t2) _ hf2.tt Try.underlying47 rfl (by rw [hl3.out]; exact sizeTbls) ?_)
      | (go_at_call 66; (with_reducible refine (HT.out _ (hx1.trans hx2)).mono ?_); rintro e w3 ⟨rfl, hx3⟩; have c102 := (HF.out _ _ (hb2.ext hx3)).c102))
    go_ret
    exact ⟨rfl, (hx1.trans hx2).trans hx3⟩
end Go.Proofs.Ytlepchdlkhogiaa
