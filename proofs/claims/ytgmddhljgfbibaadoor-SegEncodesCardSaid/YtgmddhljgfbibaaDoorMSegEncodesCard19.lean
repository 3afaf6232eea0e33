/- Contracts for the law SegEncodesCard, part 19: what the functions that it reaches answer, for all arguments that the theorems name. -/
import Derived.Test.YtgmddhljgfbibaaDoorMSegEncodesCard10
import Derived.Test.YtgmddhljgfbibaaDoorMSegEncodesCard1
import Derived.Outline
import Derived.Test.YtgmddhljgfbibaaDoorMSegEncodesCard13
import Derived.Test.YtgmddhljgfbibaaDoorMSegEncodesCard12
import Derived.Lib.FrozenHead
import Derived.Lib.Builder
import Derived.Lib.UnsafeStr
import Derived.Lib.AppendStr
import Derived.Laws.Externs
import Derived.RegionTactic
import Derived.Test.YtgmddhljgfbibaaDoorMSegEncodesCard7
/- TableCheck of the reference. -/
namespace Go.Proofs.YtgmddhljgfbibaaDoor
set_option linter.unusedVariables false
set_option linter.unusedSimpArgs false
open Go.RowKit
theorem SL.take {w : World} {A : Option Addr} {n c : Nat} {xs : List Value} (h : SL w 1 (.slice A n c) n xs) {k : Nat} (hk : k ≤ n) : SL w 1 (.slice A k c) k (xs.take k) := by
  obtain ⟨A', c', e, h1, h1', h2, h3⟩ := h
  injection e with e1 e2 e3
  subst e1 e3
  refine ⟨A, c, rfl, by omega, h1', by simp; omega, fun hn => ?_⟩
  obtain ⟨ad, ea, hlt, hc⟩ := h3 (by omega)
  refine ⟨ad, ea, hlt, fun j u hu => hc j u ?_⟩
  have hj : j < k := by have := (List.getElem?_eq_some_iff.1 hu).1; simp at this; omega
  rwa [List.getElem?_take_of_lt hj] at hu
theorem totOK_no1 {cs xs : List Int} (h : allIn cs 0 256 = false) : totOK cs xs = false := by simp [totOK, h]
theorem totOK_no2 {cs xs : List Int} {k : Nat} (hk : k ≤ 16) (h : 256 < sumL cs k) : totOK cs xs = false := by
  cases h1 : allIn cs 0 256 with
  | false => exact totOK_no1 h1
  | true =>
    have key : ∀ j, k ≤ j → sumL cs k ≤ sumL cs j := by
      intro j hj
      induction j with
      | zero => obtain rfl : k = 0 := by omega
                exact Int.le_refl _
      | succ j ih =>
        rcases Nat.lt_or_ge j k with h2 | h2
        · obtain rfl : k = j + 1 := by omega
          exact Int.le_refl _
        · exact Int.le_trans (ih h2) (sumL_bd h1 j).2
    have := key 16 hk
    unfold totOK
    have h3 : ¬ sumL cs 16 ≤ 256 := by omega
    simp [h3]
set_option maxRecDepth 20000 in
set_option maxHeartbeats 1000000 in
theorem rcheck_any (cs xs : List Int) (sl : Value) (w : World) (hl : cs.length = 16) (hs : SL w 1 sl xs.length (ints xs)) :
    Calls Tryd.prog 56 #[.agg (tblv cs sl)] w fun e w' => e = .returned (.int .i64 (checkZ cs xs)) ∧ Ext w w' := by
  have hlast := hid_ (fun W g (h : Blk W g 32 (tblv cs sl)) => tblv_last h hl)
  have hts := hid_ (tblv_size cs sl hl)
  have HRG := hid_ (fun W g (h : Blk W g 32 (tblv cs sl)) => tblv_range h)
  have hcl := hid_ ((ints_len cs).trans hl)
  have HIX := hid_ (fun k (hk : k < cs.length) (h16 : k < 16) => fun W => run_index16 (ints cs).toArray k (.int .i64 cs[k]) h16 (bv_at cs k hk) W)
  have HL := hid_ hl
  have hs' := hs
  obtain ⟨A, c, rfl, hc1, hc2, -, -⟩ := hs'
  have HWY := hid_ (fun h1 h2 W => wordsOf_yes cs (.slice A xs.length c) W hl h1 h2)
  have HWN := hid_ (fun h1 h2 W => wordsOf_no cs (.slice A xs.length c) W hl h1 h2)
  generalize tblv cs (.slice A xs.length c) = tv at *
  go_enter Tryd.func56, Tryd.ntmps56
  go_wp2_with (first
    | (refine wpList_box_abs rfl 32 (.tmp 0) rfl tv rfl ?_; intro w1 g hb1 hx1 hg)
    | (refine wpList_load_mid rfl 29 (.tmp 12) rfl g 0 rfl (ints cs) _ (HRG.out _ _ hb1) Tryd.underlying29 rfl (by rw [hcl.out]; exact size16) ?_))
  have hc16 := hid_ (hlast.out _ _ hb1)
  go_loop [3, 14] (fun v i => ∃ k : Nat, k ≤ 16 ∧ i = .int .i64 (k : Int) ∧ v = .int .i64 (sumL cs k) ∧ (∀ z ∈ cs.take k, 0 ≤ z ∧ z ≤ 256) ∧ 0 ≤ sumL cs k ∧ sumL cs k ≤ 256 * k) (fun _ i => 16 - (intOf i).toNat)
  case atStart => exact ⟨0, by omega, rfl, rfl, by simp, by simp [sumL], by simp [sumL]⟩
  case round =>
    obtain ⟨k, hk, rfl, rfl, hin, s1, s2⟩ := hrel
    by_cases hlt : k < 16
    · have hkl : k < cs.length := by have := HL.out; omega
      have hix := HIX.out k hkl hlt
      have HS := hid_ (sumL_succ cs k hkl)
      have HIN := hid_ hin
      have HT2 := hid_ (fun h => checkZ_tot (totOK_no2 (cs := cs) (xs := xs) hk h))
      have HT1 := hid_ (fun h => checkZ_tot (totOK_no1 (cs := cs) (xs := xs) h))
      clear hin
      have HO := hid_ (fun W => outside_any cs[k] 0 256 W)
      cases hq : inB cs[k] 0 256 with
      | true =>
        obtain ⟨q1, q2⟩ := inB_iff.1 hq
        have HN := hid_ (allIn_take HIN.out hkl ⟨q1, q2⟩)
        rw [hq] at HO
        generalize sumL cs k = s at *
        by_cases hbig : 256 < s
        · have hbig' : decide (256 < s) = true := by simpa using hbig
          have HF := hid_ (HT2.out hbig)
          clear hq hbig
          go_wp2_with (go_at_call 41; (with_reducible refine (HO.out _).mono ?_); rintro e w' ⟨rfl, rfl⟩)
          go_ret
          exact ⟨by rw [HF.out]; rfl, hx1⟩
        · have hbig' : decide (256 < s) = false := by simpa using hbig
          clear hq hbig
          go_wp2_with (go_at_call 41; (with_reducible refine (HO.out _).mono ?_); rintro e w' ⟨rfl, rfl⟩)
          go_round
          case rel => exact ⟨k + 1, by omega, by go_num, by rw [HS.out], HN.out, by rw [HS.out]; omega, by rw [HS.out]; omega⟩
          case measure => simp [intOf]; omega
      | false =>
        have HF := hid_ (HT1.out (allIn_no hkl hq))
        rw [hq] at HO
        clear hq
        go_wp2_with (go_at_call 41; (with_reducible refine (HO.out _).mono ?_); rintro e w' ⟨rfl, rfl⟩)
        go_ret
        exact ⟨by rw [HF.out]; rfl, hx1⟩
    · have ek : k = 16 := by omega
      rw [ek] at s1 s2 hin ⊢
      have HA := hid_ (show allIn cs 0 256 = true by
        rw [List.take_of_length_le (by have := HL.out; omega)] at hin
        exact allIn_iff.2 hin)
      have HTK : Hid (sumL cs 16 ≤ 256 → sumL cs 16 = xs.length → totOK cs xs = true) := hid_ (fun a b => totOK_iff.2 ⟨HA.out, a, b⟩)
      have HTN : Hid (¬ (sumL cs 16 ≤ 256 ∧ sumL cs 16 = xs.length) → checkZ cs xs = 4) := hid_ (fun a => checkZ_tot (by
        rw [← Bool.not_eq_true, totOK_iff]
        rintro ⟨-, b, d⟩
        exact a ⟨b, d⟩))
      clear hin ek hk hlt
      generalize sumL cs 16 = s at *
      have h16 := hc16.out
      by_cases h1 : s ≤ 256
      · have h1' : decide (256 < s) = false := by simp; omega
        by_cases h2 : s = xs.length
        · have HTOK := hid_ (HTK.out h1 h2)
          subst h2
          have hneq : ((xs.length : Int) != (xs.length : Int)) = false := by simp
          have HZ1 := hid_ (fun h2 => checkZ_arg HTOK.out h2)
          have HZ2 := hid_ (fun h2 h3 => checkZ_dup HTOK.out h2 h3)
          have HZ3 := hid_ (fun h2 h3 => checkZ_words HTOK.out h2 h3)
          clear h1
          go_wp2_with fail
          go_loop [39] (fun i => ∃ k : Nat, k ≤ xs.length ∧ i = .int .i64 (k : Int) ∧ ∀ z ∈ xs.take k, 0 ≤ z ∧ z ≤ 255) (fun i => xs.length - (intOf i).toNat)
          case atStart => exact ⟨0, by omega, rfl, by simp⟩
          case round =>
            obtain ⟨k, hk, rfl, hin⟩ := hrel
            have HIN := hid_ hin
            clear hin
            by_cases hlt : k < xs.length
            · obtain ⟨ad, u, rfl, -, hxk, hcell⟩ := (hs.ext hx1).at1 hlt
              obtain ⟨hkl, rfl⟩ := ints_at _ _ _ hxk
              clear hxk
              have HO := hid_ (fun W => outside_any xs[k] 0 255 W)
              cases hq : inB xs[k] 0 255 with
              | true =>
                have HN := hid_ (allIn_take HIN.out hkl (inB_iff.1 hq))
                rw [hq] at HO
                clear hq
                go_wp2_with (go_at_call 41; (with_reducible refine (HO.out _).mono ?_); rintro e w' ⟨rfl, rfl⟩)
                go_round
                case rel => exact ⟨k + 1, by omega, by go_num, HN.out⟩
                case measure => simp [intOf]; omega
              | false =>
                have HF := hid_ (HZ1.out (allIn_no hkl hq))
                rw [hq] at HO
                clear hq
                go_wp2_with (go_at_call 41; (with_reducible refine (HO.out _).mono ?_); rintro e w' ⟨rfl, rfl⟩)
                go_ret
                exact ⟨by rw [HF.out]; rfl, hx1⟩
            · have e1 : xs.take k = xs := List.take_of_length_le (by omega)
              have HAX : Hid (allIn xs 0 255 = true) := hid_ (by have := HIN.out; rw [e1] at this; exact allIn_iff.2 this)
              clear e1
              have h16 := hc16.out
              go_wp2_with fail
              go_loop [49] (fun i => ∃ k : Nat, k ≤ xs.length ∧ i = .int .i64 (k : Int) ∧ (xs.take k).Nodup) (fun i => xs.length - (intOf i).toNat)
              case atStart => exact ⟨0, by omega, rfl, by simp⟩
              case round =>
                obtain ⟨m, hm, rfl, hnd⟩ := hrel
                have HND := hid_ hnd
                clear hnd
                by_cases hlt2 : m < xs.length
                · obtain ⟨ad, u, rfl, -, hxk, hcell⟩ := (hs.ext hx1).at1 hlt2
                  obtain ⟨hkl, rfl⟩ := ints_at _ _ _ hxk
                  clear hxk
                  have HS2 := hid_ (nodup_take_succ hkl)
                  have HH := hid_ (fun W (hx : Ext w W) => has_any (xs.take m) (some ad) c m xs[m] W (by simp; omega) (by have := (hs.ext hx).take (k := m) (by omega); rwa [show (ints xs).take m = ints (xs.take m) by simp [ints]] at this))
                  have h16 := hc16.out
                  by_cases hmem : xs[m] ∈ xs.take m
                  · have hd : decide (xs[m] ∈ xs.take m) = true := by simpa using hmem
                    have HF := hid_ (HZ2.out HAX.out (fun hnn => (((HS2.out).1 (List.Nodup.sublist (List.take_sublist _ _) hnn)).2 hmem)))
                    rw [hd] at HH
                    clear hd hmem
                    go_wp2_with (go_at_call 81; (with_reducible refine (HH.out _ hx1).mono ?_); rintro e w' ⟨rfl, rfl⟩)
                    go_ret
                    exact ⟨by rw [HF.out]; rfl, hx1⟩
                  · have hd : decide (xs[m] ∈ xs.take m) = false := by simpa using hmem
                    have HN := hid_ (HS2.out.2 ⟨HND.out, hmem⟩)
                    rw [hd] at HH
                    clear hd hmem
                    go_wp2_with (go_at_call 81; (with_reducible refine (HH.out _ hx1).mono ?_); rintro e w' ⟨rfl, rfl⟩)
                    go_round
                    case rel => exact ⟨m + 1, by omega, by go_num, HN.out⟩
                    case measure => simp [intOf]; omega
                · have e1 : xs.take m = xs := List.take_of_length_le (by omega)
                  rw [e1] at HND
                  have HF := hid_ (HZ3.out HAX.out HND.out)
                  clear e1
                  cases hok : okW cs with
                  | true =>
                    rw [hok] at HF
                    have HW := hid_ (HWY.out HA.out hok)
                    clear hok
                    go_wp2_with (first
                      | (refine wpList_load_blk rfl 32 (.tmp 1) rfl _ rfl hb1 _ Tryd.underlying32 rfl 17 sizeTbl hts.out ?_)
                      | (go_at_call 60; (with_reducible refine (HW.out _).mono ?_); rintro e w2 ⟨B, d, rfl, hs2, hx2⟩))
                    go_ret
                    exact ⟨by rw [HF.out]; rfl, hx1.trans hx2⟩
                  | false =>
                    rw [hok] at HF
                    have HW := hid_ (HWN.out HA.out hok)
                    clear hok
                    go_wp2_with (first
                      | (refine wpList_load_blk rfl 32 (.tmp 1) rfl _ rfl hb1 _ Tryd.underlying32 rfl 17 sizeTbl hts.out ?_)
                      | (go_at_call 60; (with_reducible refine (HW.out _).mono ?_); rintro e w2 ⟨rfl, hx2⟩))
                    go_ret
                    exact ⟨by rw [HF.out]; rfl, hx1.trans hx2⟩
        · have h2' : (s != (xs.length : Int)) = true := by simpa using h2
          have HF := hid_ (HTN.out (fun h => h2 h.2))
          clear h2 h1
          go_wp2_with fail
          go_ret
          exact ⟨by rw [HF.out]; rfl, hx1⟩
      · have h1' : decide (256 < s) = true := by simp; omega
        have HF := hid_ (HTN.out (fun h => h1 h.1))
        clear h1
        go_wp2_with fail
        go_ret
        exact ⟨by rw [HF.out]; rfl, hx1⟩
end Go.Proofs.YtgmddhljgfbibaaDoor
/- TablesCheck of the reference. -/
namespace Go.Proofs.YtgmddhljgfbibaaDoor
set_option linter.unusedVariables false
set_option linter.unusedSimpArgs false
open Go.RowKit
set_option maxRecDepth 20000 in
set_option maxHeartbeats 4000000 in
theorem tablesCheck_any (t1 t2 : List Value) (z1 z2 : Int) (w : World) (h1 : t1.length = 17) (h2 : t2.length = 17)
    (C1 : ∀ W, Ext w W → Calls Tryd.prog 56 #[.agg t1.toArray] W fun e W' => e = .returned (.int .i64 z1) ∧ Ext W W')
    (C2 : ∀ W, Ext w W → Calls Tryd.prog 56 #[.agg t2.toArray] W fun e W' => e = .returned (.int .i64 z2) ∧ Ext W W') :
    Calls Tryd.prog 29 #[.agg (t1 ++ t2).toArray] w fun e w' => e = .returned (.int .i64 (if z1 = 0 then z2 else z1)) ∧ Ext w w' := by
  have HRT := hid_ (fun W g (hb : Blk W g 34 (t1 ++ t2).toArray) => range_two h1 hb)
  have hl1 := hid_ h1
  have hl2 := hid_ h2
  have HC1 := hid_ C1
  have HC2 := hid_ C2
  clear C1 C2 h1 h2
  generalize htt : (t1 ++ t2).toArray = tt at *
  clear htt
  by_cases hz : z1 = 0
  · rw [if_pos hz]
    subst hz
    go_enter Tryd.func29, Tryd.ntmps29
    go_wp2_with (first
      | (refine wpList_box_abs rfl 34 (.tmp 0) rfl tt rfl ?_; intro w1 g hb1 hx1 hg; have hr1 := (HRT.out _ _ hb1).1)
      | (refine wpList_load_mid rfl 32 (.tmp 4) rfl g 0 rfl t1 _ hr1 Tryd.underlying32 rfl (by rw [hl1.out]; exact sizeTbl) ?_)
      | (go_at_call 56; (with_reducible refine (HC1.out _ hx1).mono ?_); rintro e w2 ⟨rfl, hx2⟩; have hr2 := (HRT.out _ _ (hb1.ext hx2)).2)
      | (refine wpList_load_mid rfl 32 (.tmp 10) rfl g 17 rfl t2 _ hr2 Tryd.underlying32 rfl (by rw [hl2.out]; exact sizeTbl) ?_)
      | (go_at_call 56; (with_reducible refine (HC2.out _ (hx1.trans hx2)).mono ?_); rintro e w3 ⟨rfl, hx3⟩))
    go_ret
    exact ⟨rfl, (hx1.trans hx2).trans hx3⟩
  · rw [if_neg hz]
    have hz1 : (z1 != 0) = true := by simpa using hz
    go_enter Tryd.func29, Tryd.ntmps29
    go_wp2_with (first
      | (refine wpList_box_abs rfl 34 (.tmp 0) rfl tt rfl ?_; intro w1 g hb1 hx1 hg; have hr1 := (HRT.out _ _ hb1).1)
      | (refine wpList_load_mid rfl 32 (.tmp 4) rfl g 0 rfl t1 _ hr1 Tryd.underlying32 rfl (by rw [hl1.out]; exact sizeTbl) ?_)
      | (go_at_call 56; (with_reducible refine (HC1.out _ hx1).mono ?_); rintro e w2 ⟨rfl, hx2⟩))
    go_ret
    exact ⟨rfl, hx1.trans hx2⟩
end Go.Proofs.YtgmddhljgfbibaaDoor
/- wordOf of the reference. -/
namespace Go.Proofs.YtgmddhljgfbibaaDoor
set_option linter.unusedVariables false
set_option linter.unusedSimpArgs false
open Go.RowKit
set_option maxRecDepth 20000 in
set_option maxHeartbeats 1000000 in
theorem wordOf_any (cs xs : List Int) (sl : Value) (s : Int) (w : World) (hl : cs.length = 16) (hs : SL w 1 sl xs.length (ints xs)) (h : checkZ cs xs = 0) :
    Calls Tryd.prog 32 #[.agg (tblv cs sl), .int .i64 s] w fun e w' => e = .returned (.tuple #[.string (strB (bitsT (zipC (codesW cs 16) xs) s)), .bool (findT (zipC (codesW cs 16) xs) s).isSome]) ∧ Ext w w' := by
  obtain ⟨hal, hsum, hx256, hok, -, -⟩ := checkZ_zero h
  have hlast := hid_ (fun W g (h : Blk W g 32 (tblv cs sl)) => tblv_last h hl)
  have hts := hid_ (tblv_size cs sl hl)
  have HWO := hid_ (fun W => wordsOf_yes cs sl W hl hal hok)
  have hlen : (codesW cs 16).length = xs.length := by have := codesW_len cs (fun z hz => (allIn_iff.1 hal z hz).1) 16 (by omega); omega
  have hol := outW_len cs
  rw [hlen] at hol
  rw [hol] at HWO
  have HAT := hid_ (outW_at cs)
  have HZ := hid_ (zipC_syms (codesW cs 16) xs hlen)
  have HZA := hid_ (zipC_at (codesW cs 16) xs)
  have HZL : Hid ((zipC (codesW cs 16) xs).length = xs.length) := hid_ (by rw [zipC_len _ _ (by omega), hlen])
  have HCL := hid_ hlen
  have hs' := hs
  obtain ⟨A, c, rfl, hc1, hc2, -, -⟩ := hs'
  generalize tblv cs (.slice A xs.length c) = tv at *
  generalize strs (outW cs 16) = SS at *
  generalize codesW cs 16 = C at *
  clear hal hok hsum h hol hlen
  go_enter Tryd.func32, Tryd.ntmps32
  go_wp2_with (first
    | (refine wpList_box_abs rfl 32 (.tmp 0) rfl tv rfl ?_; intro w1 g hb1 hx1 hg)
    | (refine wpList_load_blk rfl 32 (.tmp 2) rfl _ rfl hb1 _ Tryd.underlying32 rfl 17 sizeTbl hts.out ?_)
    | (go_at_call 60; (with_reducible refine (HWO.out _).mono ?_); rintro e w2 ⟨B, d, rfl, hs2, hx2⟩; have hc16 := hlast.out _ _ (hb1.ext hx2)))
  have hsx := hs.ext (hx1.trans hx2)
  have hxw := hx1.trans hx2
  clear hc16
  go_loop [18] (fun i => ∃ k : Nat, k ≤ xs.length ∧ i = .int .i64 (k : Int) ∧ s ∉ xs.take k) (fun i => xs.length - (intOf i).toNat)
  case atStart => exact ⟨0, by omega, rfl, by simp⟩
  case round =>
    obtain ⟨k, hk, rfl, hno⟩ := hrel
    have HNO := hid_ hno
    clear hno
    by_cases hlt : k < xs.length
    · have hkC : k < C.length := by have := HCL.out; omega
      obtain ⟨ad, u, hA, -, hxk, hcell⟩ := hsx.at1 hlt
      obtain ⟨hkl2, rfl⟩ := ints_at _ _ _ hxk
      obtain ⟨bd, u, hB, hbl, hsk, hcells⟩ := hs2.at1 hlt
      rw [HAT.out k hkC] at hsk
      injection hsk with hsk
      subst hsk
      subst hA hB
      clear hxk
      by_cases hq : xs[k] = s
      · have hq' : (xs[k] == s) = true := by simpa using hq
        have HF : Hid (findT (zipC C xs) s = some (s, ((C[k]).1 : Int), ((C[k]).2 : Int))) := hid_ (by
          have hkz : k < (zipC C xs).length := by rw [HZL.out]; exact hlt
          have e1 := HZA.out k hkC hkl2 hkz
          have := findT_at (Z := zipC C xs) (s := s) hkz (by rw [HZ.out]; exact HNO.out) (by rw [e1]; exact hq)
          rw [this, e1]
          simp [hq])
        have HBT := hid_ (bitsT_some HF.out)
        clear hq
        generalize C[k] = p at *
        obtain ⟨p1, p2⟩ := p
        simp only at HF HBT hcells
        go_wp2_with fail
        go_ret2
        rw [HBT.out, HF.out]
        exact ⟨rfl, hxw⟩
      · have hq' : (xs[k] == s) = false := by simpa using hq
        have HN : Hid (s ∉ xs.take (k + 1)) := hid_ (by
          rw [List.take_succ_eq_append_getElem hkl2, List.mem_append]
          exact fun h => h.elim HNO.out (fun h => hq (List.mem_singleton.1 h).symm))
        clear hq
        go_wp2_with fail
        go_round
        case rel => exact ⟨k + 1, by omega, by go_num, HN.out⟩
        case measure => simp [intOf]; omega
    · have HF : Hid (findT (zipC C xs) s = none) := hid_ (findT_none (by
        rw [HZ.out]
        have := HNO.out
        rwa [List.take_of_length_le (by omega)] at this))
      have HBT : Hid (bitsT (zipC C xs) s = []) := hid_ (by unfold bitsT; rw [HF.out])
      go_wp2_with fail
      go_ret2
      rw [HBT.out, HF.out]
      exact ⟨rfl, hxw⟩
end Go.Proofs.YtgmddhljgfbibaaDoor
/- strings.Builder: WriteString and String of a builder that the call made, in binary digits. -/
namespace Go.Proofs.YtgmddhljgfbibaaDoor
set_option linter.unusedVariables false
set_option linter.unusedSimpArgs false
open Go.RowKit
def bitC (L : List Bool) : List Value := Lib.byteCells (L.map chB)
theorem bitC_len (L : List Bool) : (bitC L).length = L.length := by simp [bitC, Lib.byteCells]
theorem bitC_str (L D : List Bool) : bitC L ++ Lib.strCells (strB D) = bitC (L ++ D) := by
  simp [bitC, Lib.byteCells, Lib.strCells, strB_data]
/-- the builder in block b holds these digits; its buffer is row r -/
def BldS (w : World) (b : Nat) (L : List Bool) (r : Option Nat) : Prop :=
  ∃ p v, (p = .pointer none ∨ p = .pointer (some ⟨b, 0, none⟩)) ∧ w.heap[b]? = some (.cells #[p, v] 71 (0, 0)) ∧ w.ownsRowF (b + 1) 5 1 v L.length (bitC L) ∧ v.ownBlock = r ∧ (L = [] → v = .slice none 0 0)
theorem BldS.new (w : World) (b : Nat) (h : Blk w b 71 #[.pointer none, .slice none 0 0]) : BldS w b [] none :=
  ⟨_, _, .inl rfl, h, ⟨by simp [bitC, Lib.byteCells], .inl ⟨rfl, rfl⟩⟩, rfl, fun _ => rfl⟩
theorem BldS.lt {w : World} {b : Nat} {L : List Bool} {r : Option Nat} (h : BldS w b L r) : b < w.heap.size := by
  obtain ⟨p, v, -, hb, -⟩ := h
  exact Blk.lt (w := w) (t := 71) (cs := #[p, v]) hb
theorem BldS.row {w : World} {b : Nat} {L : List Bool} {r : Option Nat} (h : BldS w b L r) : ∀ k, r = some k → b < k ∧ k < w.heap.size := by
  obtain ⟨p, v, -, hb, hown, hr, -⟩ := h
  intro k hk
  rcases hown.2 with ⟨rfl, -⟩ | ⟨g, cap, cur, fz, rfl, h1, hg, -⟩
  · rw [← hr] at hk; simp [Value.ownBlock] at hk
  · rw [← hr] at hk
    have : g = k := by simpa [Value.ownBlock] using hk
    subst this
    refine ⟨by omega, ?_⟩
    rcases Nat.lt_or_ge g w.heap.size with h' | h'
    · exact h'
    · simp [Array.getElem?_eq_none h'] at hg
theorem ownsRowF_upd {w w' : World} {B n : Nat} {e : TypeId} {v : Value} {xs : List Value} (hown : w.ownsRowF B e 1 v n xs) (h : ∀ k, v.ownBlock = some k → k < w.heap.size → w'.heap[k]? = w.heap[k]?) : w'.ownsRowF B e 1 v n xs := by
  refine ⟨hown.1, ?_⟩
  rcases hown.2 with ⟨rfl, h2⟩ | ⟨g, cap, cur, fz, rfl, h1, hg, h3⟩
  · exact .inl ⟨rfl, h2⟩
  · refine .inr ⟨g, cap, cur, fz, rfl, h1, ?_, h3⟩
    rw [h g (by simp [Value.ownBlock]) ?_]
    · exact hg
    · rcases Nat.lt_or_ge g w.heap.size with h' | h'
      · exact h'
      · simp [Array.getElem?_eq_none h'] at hg
theorem BldS.upd {S : Nat → Prop} {w w' : World} {b : Nat} {L : List Bool} {r : Option Nat} (h : BldS w b L r) (hu : Upd S w w') (h1 : ¬ S b) (h2 : ∀ k, r = some k → ¬ S k) : BldS w' b L r := by
  have hlt := h.lt
  obtain ⟨p, v, hp, hb, hown, hr, h0⟩ := h
  exact ⟨p, v, hp, (hu.block b hlt h1).trans hb, ownsRowF_upd hown (fun k hk hkl => hu.block k hkl (h2 k (by rw [← hr, hk]))), hr, h0⟩
theorem BldS.ext {w w' : World} {b : Nat} {L : List Bool} {r : Option Nat} (h : BldS w b L r) (hx : Ext w w') : BldS w' b L r :=
  h.upd (S := fun _ => False) (Upd.of_ext hx) (by simp) (by simp)
theorem BldS.drew {w : World} {b : Nat} {L : List Bool} {r : Option Nat} (h : BldS w b L r) : BldS w.drew b L r := h
theorem sizeBld : (Tryd.prog.info? 71).map (·.size) = some 2 := by kernel_rfl
theorem liesBld : liesAt Tryd.prog Tryd.prog.depth 71 (2 / Tryd.prog.cellsOf 71) 0 71 1 = true := by kernel_rfl
theorem zeroBld : (Tryd.prog.info? 71).bind (·.zero) = some (.agg #[.pointer none, .slice none 0 0]) := by kernel_rfl
theorem infoU8 : (Tryd.prog.info? 5).map (fun i => (i.zero, i.size, i.bytes)) = some (some (.int .u8 0), 1, 1) := by kernel_rfl
theorem cellsU8 : Tryd.prog.cellsOf 5 = 1 := by kernel_rfl
set_option maxHeartbeats 1000000 in
set_option maxRecDepth 100000 in
theorem copyCheck_used (b : Nat) (w : World) (h0 : w.cell? ⟨b, 0, none⟩ = some (.pointer (some ⟨b, 0, none⟩))) :
    Calls Tryd.prog 61 #[.pointer (some ⟨b, 0, none⟩)] w fun e w' => e = .returned (.tuple #[]) ∧ w = w' := by
  obtain ⟨j, hj, _⟩ := Option.map_eq_some_iff.1 sizeBld
  have hne := fun W => Lib.run_neq_ptr_same (P := Tryd.prog) W ⟨b, 0, none⟩ Tryd.underlying69 hj
  go_enter Tryd.func61, Tryd.ntmps61
  go_wp2_with fail
  go_end0
  exact ⟨rfl, rfl⟩
set_option maxHeartbeats 1000000 in
set_option maxRecDepth 100000 in
theorem copyCheck_fresh (b : Nat) (w : World) (h0 : w.cell? ⟨b, 0, none⟩ = some (.pointer none)) (hsh : w.shape? b = some (71, 2)) (hfz : w.frozen? ⟨b, 0, none⟩ = false) :
    Calls Tryd.prog 61 #[.pointer (some ⟨b, 0, none⟩)] w fun e w' => e = .returned (.tuple #[]) ∧ w' = w.setCell ⟨b, 0, none⟩ (.pointer (some ⟨b, 0, none⟩)) := by
  obtain ⟨j, hj, hjs⟩ := Option.map_eq_some_iff.1 sizeBld
  go_enter Tryd.func61, Tryd.ntmps61
  go_wp2_with fail
  rw [Lib.run_to_unsafe w ⟨b, 0, none⟩ Tryd.underlying69 Tryd.underlying156 hj (by rw [hjs]; decide) hsh (Nat.zero_lt_succ 1)]
  simp only [Result.andThen]
  rw [Oper.upon_value]
  go_wp2_with fail
  rw [run_callFunc_extern Tryd.func85 (by kernel_rfl) (by kernel_rfl) (by kernel_rfl) (e := Extern.AbiNoEscape.same) (by kernel_rfl)]
  rw [Lib.run_noEscape]
  simp only [Result.andThen]
  rw [Oper.upon_value]
  go_wp2_with fail
  rw [Lib.run_from_unsafe w ⟨b, 0, none⟩ Tryd.underlying156 Tryd.underlying69 hj hsh liesBld]
  simp only [Result.andThen]
  rw [Oper.upon_value]
  go_wp2_with fail
  go_end0
  exact ⟨rfl, rfl⟩
theorem copyCheck_any (b : Nat) (L : List Bool) (r : Option Nat) (w : World) (h : BldS w b L r) :
    Calls Tryd.prog 61 #[.pointer (some ⟨b, 0, none⟩)] w fun e w' => e = .returned (.tuple #[]) ∧ (∃ v, w'.heap[b]? = some (.cells #[.pointer (some ⟨b, 0, none⟩), v] 71 (0, 0)) ∧ w'.ownsRowF (b + 1) 5 1 v L.length (bitC L) ∧ v.ownBlock = r ∧ (L = [] → v = .slice none 0 0)) ∧ Upd (fun x => x = b) w w' := by
  obtain ⟨p, v, hp, hb, hown, hr, h0⟩ := h
  have c0 : w.cell? ⟨b, 0, none⟩ = some p := by rw [Lib.cell_of_heap hb]; rfl
  rcases hp with rfl | rfl
  · refine (copyCheck_fresh b w c0 (by simp [World.shape?, hb]) (by simp [World.frozen?, hb])).mono ?_
    rintro e w' ⟨rfl, rfl⟩
    refine ⟨rfl, ⟨v, by simp [World.setCell, Array.getElem?_modify, hb], ownsRowF_upd hown (fun k hk hkl => Below.heap_setCell _ _ _ _ ?_), hr, h0⟩, (Upd.refl (fun x => x = b) w).setCell (p := ⟨b, 0, none⟩) rfl _⟩
    rcases hown.2 with ⟨rfl, -⟩ | ⟨g, cap, cur, fz, rfl, h1, -⟩
    · simp [Value.ownBlock] at hk
    · have : g = k := by simpa [Value.ownBlock] using hk
      show k ≠ b
      omega
  · refine (copyCheck_used b w c0).mono ?_
    rintro e w' ⟨rfl, rfl⟩
    exact ⟨rfl, ⟨v, hb, hown, hr, h0⟩, Upd.refl _ w⟩
set_option maxHeartbeats 2000000 in
set_option maxRecDepth 100000 in
theorem writeString_any (b : Nat) (L D : List Bool) (r : Option Nat) (w : World) (h : BldS w b L r) (hlen : L.length + D.length ≤ 140737488355328) :
    Calls Tryd.prog 33 #[.pointer (some ⟨b, 0, none⟩), .string (strB D)] w fun e w' => e = .returned (.tuple #[.int .i64 (D.length : Int), .nilIface]) ∧
      ∃ r', BldS w' b (L ++ D) r' ∧ Upd (fun x => x = b ∨ r = some x) w w' := by
  obtain ⟨i0, hi, hz0, hz1, hz2⟩ := info_parts infoU8
  have hsz := strB_size D
  have HC := hid_ (copyCheck_any b L r w h)
  have hblt := h.lt
  have hD := hid_ (bitC_str L D)
  generalize hs : strB D = s at *
  go_enter Tryd.func33, Tryd.ntmps33
  go_wp2_with (go_at_call 61; refine HC.out.mono ?_)
  rintro e w1 ⟨rfl, ⟨v, hbk, hown, rfl, h0⟩, hu1⟩
  have c0 : w1.cell? ⟨b, 0, none⟩ = some (.pointer (some ⟨b, 0, none⟩)) := by rw [Lib.cell_of_heap hbk]; rfl
  have c1 : w1.cell? ⟨b, 1, none⟩ = some v := by rw [Lib.cell_of_heap hbk]; rfl
  have hb1 := hu1.size
  have HS := hid_ hsz
  clear hsz
  go_wp2_with (at_builtin; refine Lib.wpList_append_own_stringF _ rfl _ _ 22 9 rfl (b + 1) 5 i0 Tryd.underlying22 Tryd.underlying9 hi hz0 hz1 hz2 _ _ _ rfl hown s rfl ?c3 ?c4 ?c5 ?_)
  case c3 => have := HS.out; unfold maxLen; omega
  case c4 => have := HS.out; omega
  case c5 => omega
  intro v' w2 hown' hgrow hiff
  have hvb : v.ownBlock ≠ some b := by
    rcases hown.2 with ⟨rfl, -⟩ | ⟨g, cap, cur, fz, rfl, h1, -⟩
    · simp [Value.ownBlock]
    · simp only [Value.ownBlock, ne_eq, Option.some.injEq]; omega
  have hb2 : w2.heap[b]? = some (.cells #[.pointer (some ⟨b, 0, none⟩), v] 71 (0, 0)) := by
    rw [hgrow.block b (by omega) (fun e => hvb e.symm)]
    exact hbk
  have d0 : w2.cell? ⟨b, 0, none⟩ = some (.pointer (some ⟨b, 0, none⟩)) := by rw [Lib.cell_of_heap hb2]; rfl
  have d1 : w2.cell? ⟨b, 1, none⟩ = some v := by rw [Lib.cell_of_heap hb2]; rfl
  have f1 : w2.frozen? ⟨b, 1, none⟩ = false := Lib.frozen_of_heap hb2 1
  have hu2 : Upd (fun x => x = b ∨ v.ownBlock = some x) w w2 := by
    have h9 : Upd (fun x => x = b ∨ v.ownBlock = some x) w w1 := ⟨hu1.os, hu1.tape, hu1.output, hu1.size, fun x hx hn => hu1.block x hx (fun e => hn (.inl e))⟩
    exact h9.grown hgrow (fun k hk => .inl (.inr hk))
  have HI := hid_ hiff
  obtain ⟨ao, n', cap, rfl⟩ : ∃ ao n' cap, v' = .slice ao n' cap := by
    rcases hown'.2 with ⟨hv, _⟩ | ⟨g, cap, cur, fz, hv, _⟩
    · exact ⟨_, _, _, hv⟩
    · exact ⟨_, _, _, hv⟩
  have hv'b : (Value.slice ao n' cap).ownBlock ≠ some b := by
    rcases hown'.2 with ⟨hv, -⟩ | ⟨g, cap, cur, fz, hv, h1, -⟩
    · rw [hv]; simp [Value.ownBlock]
    · rw [hv]; simp only [Value.ownBlock, ne_eq, Option.some.injEq]; omega
  clear hiff
  go_wp2_with fail
  go_ret2
  refine ⟨by first | rfl | (rw [HS.out]; rfl), _, ⟨.pointer (some ⟨b, 0, none⟩), .slice ao n' cap, .inr rfl, by simp [World.setCell, Array.getElem?_modify, hb2], ?_, rfl, ?_⟩, hu2.setCell (p := ⟨b, 1, none⟩) (.inl rfl) _⟩
  · rw [← hD.out, List.length_append, ← HS.out]
    exact ownsRowF_upd hown' (fun k hk hkl => Below.heap_setCell _ _ _ _ (fun e => hv'b (by rw [hk, e])))
  · intro hnil
    obtain ⟨hL, hDn⟩ := List.append_eq_nil_iff.1 hnil
    have hs0 : s = ByteArray.empty := by rw [← hs, hDn]; rfl
    exact HI.out.2 ⟨h0 hL, hs0⟩
theorem unsafeString_none (W : World) (q : Option Addr) : (Builtin.unsafeString_ #[129, 3] 9 #[.pointer q, .int .i64 0]).run Tryd.prog W = .ok (.string .empty) W :=
  Lib.run_unsafeString_none W _ _ _ q
set_option maxHeartbeats 2000000 in
set_option maxRecDepth 100000 in
theorem string_nil (b : Nat) (p : Value) (w : World) (hbk : w.heap[b]? = some (.cells #[p, .slice none 0 0] 71 (0, 0))) :
    Calls Tryd.prog 36 #[.pointer (some ⟨b, 0, none⟩)] w fun e w' => e = .returned (.string ⟨#[]⟩) ∧ Ext w w' := by
  have hUS := unsafeString_none
  have c1 : w.drew.cell? ⟨b, 1, none⟩ = some (.slice none 0 0) := by
    have : w.drew.heap[b]? = some (.cells #[p, .slice none 0 0] 71 (0, 0)) := hbk
    rw [Lib.cell_of_heap this]; rfl
  have hSD : (Builtin.unsafeSliceData_ #[22] 129 #[.slice none 0 0]).run Tryd.prog w.drew = .ok (.pointer none) w.drew := rfl
  go_enter Tryd.func36, Tryd.ntmps36
  go_wp2_with fail
  go_region
  all_goals (go_wp2_with fail; go_ret; exact ⟨rfl, (Ext.refl w).drew⟩)
set_option maxHeartbeats 2000000 in
set_option maxRecDepth 100000 in
theorem string_some (b : Nat) (L : List Bool) (r : Option Nat) (w : World) (h : BldS w b L r) (h0 : L ≠ []) :
    Calls Tryd.prog 36 #[.pointer (some ⟨b, 0, none⟩)] w fun e w' => e = .returned (.string (strB L)) ∧ Upd (fun x => r = some x) w w' := by
  obtain ⟨p, v, -, hbk, hown, rfl, -⟩ := h
  have hl0 : L.length ≠ 0 := by simpa using h0
  have hm : L.map chB ≠ [] := by simpa using h0
  obtain ⟨g, cap, cur, fz, rfl, hbg, hg, hfz, hnc, hcm, hcs, htake⟩ : ∃ g cap cur fz, v = .slice (some ⟨g, 0, none⟩) L.length cap ∧ b + 1 ≤ g ∧ w.heap[g]? = some (.cells cur 5 fz) ∧ fz.2 ≤ L.length * 1 ∧ L.length ≤ cap ∧ cap ≤ maxLen ∧ cur.size = cap * 1 ∧ cur.toList.take (L.length * 1) = bitC L := by
    rcases hown.2 with ⟨_, hz⟩ | ⟨g, cap, cur, fz, hv, r⟩
    · exact absurd hz hl0
    · exact ⟨g, cap, cur, fz, hv, r⟩
  have c1 : w.drew.cell? ⟨b, 1, none⟩ = some (.slice (some ⟨g, 0, none⟩) L.length cap) := by
    have : w.drew.heap[b]? = some (.cells #[p, .slice (some ⟨g, 0, none⟩) L.length cap] 71 (0, 0)) := hbk
    rw [Lib.cell_of_heap this]; rfl
  have hSD : (Builtin.unsafeSliceData_ #[22] 129 #[.slice (some ⟨g, 0, none⟩) L.length cap]).run Tryd.prog w.drew = .ok (.pointer (some ⟨g, 0, none⟩)) w.drew :=
    Lib.run_unsafeSliceData_row _ _ _ _ _ _ (by omega)
  have hUS : (Builtin.unsafeString_ #[129, 3] 9 #[.pointer (some ⟨g, 0, none⟩), .int .i64 (L.length : Int)]).run Tryd.prog w.drew = .ok (.string (strB L)) (w.drew.freeze ⟨g, 0, none⟩ L.length) := by
    have := Lib.run_unsafeString_row (P := Tryd.prog) w.drew 129 3 9 5 Tryd.underlying129 cellsU8 g cur.size (by have hg' : w.drew.heap[g]? = some (.cells cur 5 fz) := hg; simp [World.shape?, hg']) (L.map chB) hm (by rw [List.length_map]; omega) (by rw [List.length_map]; unfold maxLen at hcm; omega) (fun j x hx => by
      have := hown.cells (g := g) rfl j (.int .u8 x.toNat) (by simp only [bitC, Lib.byteCells, List.getElem?_map] at hx ⊢; rw [hx]; rfl)
      exact this)
    rw [List.length_map] at this
    exact this
  have hfr : Upd (fun x => (Value.slice (some ⟨g, 0, none⟩) L.length cap).ownBlock = some x) w (w.drew.freeze ⟨g, 0, none⟩ L.length) := by
    unfold World.freeze
    split
    · exact (Upd.refl _ w).drew
    · exact ⟨rfl, rfl, rfl, by simp, fun x hx hn => by
        have hne : g ≠ x := fun e => hn (by rw [← e]; rfl)
        show (w.heap.modify g _)[x]? = _
        rw [Array.getElem?_modify, if_neg hne]⟩
  generalize w.drew.freeze ⟨g, 0, none⟩ L.length = wf at *
  clear hl0 hm h0
  go_enter Tryd.func36, Tryd.ntmps36
  go_wp2_with fail
  go_region
  all_goals (go_wp2_with fail; go_ret; exact ⟨rfl, hfr⟩)
theorem string_any (b : Nat) (L : List Bool) (r : Option Nat) (w : World) (h : BldS w b L r) :
    Calls Tryd.prog 36 #[.pointer (some ⟨b, 0, none⟩)] w fun e w' => e = .returned (.string (strB L)) ∧ Upd (fun x => r = some x) w w' := by
  by_cases h0 : L = []
  · subst h0
    obtain ⟨p, v, -, hbk, -, -, hv⟩ := h
    rw [hv rfl] at hbk
    refine (string_nil b p w hbk).mono ?_
    rintro e w' ⟨rfl, hx⟩
    exact ⟨rfl, Upd.of_ext hx⟩
  · exact string_some b L r w h h0
end Go.Proofs.YtgmddhljgfbibaaDoor
