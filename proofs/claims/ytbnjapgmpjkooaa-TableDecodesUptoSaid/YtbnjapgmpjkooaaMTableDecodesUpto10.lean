/- Contracts for the law TableDecodesUpto, part 10: what the functions that it reaches answer, for all arguments that the theorems name. -/
import Derived.Test.YtbnjapgmpjkooaaMTableDecodesUpto8
import Derived.Test.YtbnjapgmpjkooaaMTableDecodesUpto9
import Derived.Test.YtbnjapgmpjkooaaMTableDecodesUpto2
import Derived.Test.YtbnjapgmpjkooaaMTableDecodesUpto5
import Derived.Outline
import Derived.Test.YtbnjapgmpjkooaaMTableDecodesUpto3
import Derived.Test.YtbnjapgmpjkooaaMTableDecodesUpto1
import Derived.Test.YtbnjapgmpjkooaaMTableDecodesUpto4
import Derived.Test.YtbnjapgmpjkooaaRows
import Derived.ProofKit
import Derived.OpenShut
import Derived.JoinedCond
/- BitsRead of the reference. -/
namespace Go.Proofs.Ytbnjapgmpjkooaa
set_option linter.unusedVariables false
set_option linter.unusedSimpArgs false
open Go.RowKit
theorem Ext.grownR {a w w' : World} (h : Ext a w) {row : Option Nat} (hg : w.grownBy w' row) (hB : ∀ b, row = some b → a.heap.size ≤ b) : Ext a w' :=
  Below.grown h hg h.size (fun k hk => hB k hk)
set_option maxRecDepth 20000 in
set_option maxHeartbeats 2000000 in
theorem rread_any (bs : List Nat) (ws : List Int) (bv wv : Value) (w : World) (hb : SL w 1 bv bs.length (bytesV bs)) (hlt : ∀ b ∈ bs, b < 256) (hn : bs.length ≤ 100000000000) (hw : SL w 1 wv ws.length (ints ws)) :
    Calls Try.prog 12 #[bv, wv] w (RdIs (rdZ (digsOf bs) ws) w) := by
  have hw' := hw
  obtain ⟨B, d, rfl, hd1, hd2, -, -⟩ := hw'
  by_cases hl : ws.length ≤ 20000
  case neg =>
    have HE : Hid (rdZ (digsOf bs) ws = ([], 0, 2)) := hid_ (by unfold rdZ; rw [if_neg hl])
    generalize rdZ (digsOf bs) ws = ez at *
    generalize ws.length = n at *
    clear hb hn hw
    go_enter Try.func12, Try.ntmps12
    go_wp2_with fail
    go_ret3
    exact RdIs.err HE.out (Ext.refl _)
  have HE : Hid (rdZ (digsOf bs) ws = rdGo (digsOf bs) ws 0 []) := hid_ (by unfold rdZ; rw [if_pos hl])
  have HN := hid_ (fun W h => digitsOf_any bs bv W h hlt (by omega))
  have HD := hid_ (digsOf_len bs)
  have HSX := hid_ (fun i j h => strB_extract (digsOf bs) i j h)
  have HSS := hid_ (strB_size (digsOf bs))
  have HFB := hid_ (fun p k W (h : k ≤ 60) => fromBin_any (((digsOf bs).drop p).take k) W (by rw [List.length_take]; omega))
  generalize hez : rdZ (digsOf bs) ws = ez at *
  clear hez hlt
  obtain ⟨nw, hnw⟩ : ∃ nw, nw = ws.length := ⟨_, rfl⟩
  have HWL : Hid (ws.length = nw) := hid_ hnw.symm
  rw [← hnw] at hw hl hd1 ⊢
  clear hnw
  generalize strB (digsOf bs) = sb at *
  generalize bs.length = n at *
  go_enter Try.func12, Try.ntmps12
  go_wp2_with (go_at_call 36; (with_reducible refine (HN.out _ hb).mono ?_); rintro e w2 ⟨rfl, hx2⟩)
  go_loopw [8, 9, 19] (fun q s i wr => ∃ (k p : Nat) (acc : List Int) (A' : Option Addr) (c' : Nat), k ≤ nw ∧ i = .int .i64 (k : Int) ∧ q = .int .i64 (p : Int) ∧ s = .slice A' k c' ∧ wr.ownsRow w.heap.size 3 1 (.slice A' k c') k (ints acc) ∧ Hid (acc.length = k) ∧ Hid (ez = rdGo (digsOf bs) (ws.drop k) p acc) ∧ Ext w wr ∧ p ≤ 8 * n) (fun _ _ i _ => nw - (intOf i).toNat)
  case atStart => exact ⟨0, 0, [], none, 0, by omega, rfl, rfl, rfl, own_nil _ _ _ _, hid_ rfl, hid_ (by rw [HE.out]; rfl), hx2, by omega⟩
  case round =>
    clear hx2
    obtain ⟨k, p, acc, A9, c9, hk, rfl, rfl, rfl, hown, HAL, HZ, hx, hpn⟩ := hrel
    have hss : sb.size = 8 * n := by rw [HSS.out, HD.out]
    by_cases hlt : k < nw
    · obtain ⟨ad, u, rfl, -, hxk, hcell⟩ := (hw.ext hx).at1 hlt
      obtain ⟨hkl, rfl⟩ := ints_at _ _ _ hxk
      have HDR : Hid (ws.drop k = ws[k] :: ws.drop (k + 1)) := hid_ (List.drop_eq_getElem_cons hkl)
      rw [HDR.out] at HZ
      clear hxk HDR
      generalize ws[k] = z at *
      have HW := hid_ (fun W => outside_any z 0 24 W)
      by_cases hz : inB z 0 24 = true
      · rw [hz] at HW
        have HIZ := hid_ hz
        rw [inB_iff] at hz
        obtain ⟨zn, rfl⟩ : ∃ zn : Nat, z = (zn : Int) := ⟨z.toNat, by omega⟩
        have hwr1 : IntKind.i64.wrap ((p : Int) + (zn : Int)) = (p : Int) + (zn : Int) := IntWalk.i64_in _ (by omega)
        by_cases hfit : p + zn ≤ 8 * n
        · have HZ2 : Hid (ez = rdGo (digsOf bs) (ws.drop (k + 1)) (p + zn) (acc ++ [((numB (((digsOf bs).drop p).take zn) : Nat) : Int)])) := hid_ (by
            rw [HZ.out, rdGo_one HIZ.out (by rw [HD.out]; simpa using hfit)]; rfl)
          have hd : decide ((sb.size : Int) < (p : Int) + (zn : Int)) = false := by simp; omega
          have hfitI : (p : Int) + (zn : Int) ≤ (sb.size : Int) := by omega
          have HX : Hid (sb.extract p (p + zn) = strB (((digsOf bs).drop p).take zn)) := hid_ (by rw [HSX.out p (p + zn) (by omega), show p + zn - p = zn by omega])
          have HG := hid_ (fun W => HFB.out p zn W (by omega))
          rw [← HX.out] at HG
          generalize numB (((digsOf bs).drop p).take zn) = y at *
          clear HZ HX
          have hsz2 := hown.lt
          go_wp2_with (first
            | (go_at_call 28; (with_reducible refine (HW.out _).mono ?_); rintro e w4 ⟨rfl, rfl⟩)
            | (go_at_call 37; (with_reducible refine (HG.out _).mono ?_); rintro e w5 ⟨rfl, hx5⟩)
            | (at_builtin; go_must (refine wpList_append_slf elt_intR rfl _ _ rfl w.heap.size (.slice A9 k c9) _ _ rfl ((own_keep hown hx5).alloc _) _ 1 [.int .i64 _] rfl (one_sl _ _ _) (int_one _) (by omega) (by omega) (by have := hx.size; have := hx5.size; simp; omega) ?_); intro A7 c7 w7 hown7 hg7 hrow7))
          go_roundw
          case rel => exact ⟨k + 1, p + zn, acc ++ [(y : Int)], A7, c7, by omega, by go_num, by go_num, rfl, by rw [ints_app]; exact hown7, hid_ (by simp [HAL.out]), HZ2, Ext.grownR ((hx.trans hx5).alloc _) hg7 (fun b hb => (hsz2 b hb).1), by omega⟩
          case measure => simp [intOf]; omega
        · have hd : decide ((sb.size : Int) < (p : Int) + (zn : Int)) = true := by simp; omega
          have HZ2 : Hid (ez = ([], 0, 3)) := hid_ (by rw [HZ.out, rdGo_out HIZ.out (by rw [HD.out]; simpa using hfit)])
          clear HZ
          go_wp2_with (first
            | (go_at_call 28; (with_reducible refine (HW.out _).mono ?_); rintro e w4 ⟨rfl, rfl⟩))
          go_ret3
          exact RdIs.err HZ2.out hx
      · have hz' : inB z 0 24 = false := by simpa using hz
        rw [hz'] at HW
        have HZ2 : Hid (ez = ([], 0, 1)) := hid_ (by rw [HZ.out, rdGo_bad hz'])
        clear HZ hz hz'
        go_wp2_with (go_at_call 28; (with_reducible refine (HW.out _).mono ?_); rintro e w4 ⟨rfl, rfl⟩)
        go_ret3
        exact RdIs.err HZ2.out hx
    · have ek : k = nw := by omega
      subst ek
      have HZ2 : Hid (ez = (acc, ((p : Nat) : Int), 0)) := hid_ (by rw [HZ.out, List.drop_of_length_le (by rw [HWL.out]; exact Nat.le_refl _)]; rfl)
      obtain ⟨hsl, -⟩ := own_out hown
      clear HZ
      go_wp2_with fail
      go_ret3
      rw [HZ2.out]
      exact ⟨A9, c9, by rw [HAL.out]; rfl, by rw [HAL.out]; exact hsl, hx⟩
end Go.Proofs.Ytbnjapgmpjkooaa
/- TableCheck of the reference. -/
namespace Go.Proofs.Ytbnjapgmpjkooaa
set_option linter.unusedVariables false
set_option linter.unusedSimpArgs false
open Go.RowKit
theorem SL.take {w : World} {A : Option Addr} {n c : Nat} {xs : List Value} (h : SL w 1 (.slice A n c) n xs) {k : Nat} (hk : k ≤ n) : SL w 1 (.slice A k c) k (xs.take k) := by
  obtain ⟨A', c', e, h1, h1', h2, h3⟩ := h
  injection e with e1 e2 e3
  subst e1 e3
  refine ⟨A, c, rfl, by omega, h1', by simp; omega, fun hn => ?_⟩
  obtain ⟨ad, ea, hlt, hc⟩ := h3 (by omega)
  refine ⟨ad, ea, hlt, fun j u hu => hc j u ?_⟩
  have hj : j < k := by have := (List.getElem?_eq_some_iff.1 hu).1; simp at this; omega
  rwa [List.getElem?_take_of_lt hj] at hu
theorem totOK_no1 {cs xs : List Int} (h : allIn cs 0 256 = false) : totOK cs xs = false := by simp [totOK, h]
theorem totOK_no2 {cs xs : List Int} {k : Nat} (hk : k ≤ 16) (h : 256 < sumL cs k) : totOK cs xs = false := by
  cases h1 : allIn cs 0 256 with
  | false => exact totOK_no1 h1
  | true =>
    have key : ∀ j, k ≤ j → sumL cs k ≤ sumL cs j := by
      intro j hj
      induction j with
      | zero => obtain rfl : k = 0 := by omega
                exact Int.le_refl _
      | succ j ih =>
        rcases Nat.lt_or_ge j k with h2 | h2
        · obtain rfl : k = j + 1 := by omega
          exact Int.le_refl _
        · exact Int.le_trans (ih h2) (sumL_bd h1 j).2
    have := key 16 hk
    unfold totOK
    have h3 : ¬ sumL cs 16 ≤ 256 := by omega
    simp [h3]
set_option maxRecDepth 20000 in
set_option maxHeartbeats 1000000 in
theorem rcheck_any (cs xs : List Int) (sl : Value) (w : World) (hl : cs.length = 16) (hs : SL w 1 sl xs.length (ints xs)) :
    Calls Try.prog 41 #[.agg (tblv cs sl)] w fun e w' => e = .returned (.int .i64 (checkZ cs xs)) ∧ Ext w w' := by
  have hlast := hid_ (fun W g (h : Blk W g 38 (tblv cs sl)) => tblv_last h hl)
  have hts := hid_ (tblv_size cs sl hl)
  have HRG := hid_ (fun W g (h : Blk W g 38 (tblv cs sl)) => tblv_range h)
  have hcl := hid_ ((ints_len cs).trans hl)
  have HIX := hid_ (fun k (hk : k < cs.length) (h16 : k < 16) => fun W => run_index16 (ints cs).toArray k (.int .i64 cs[k]) h16 (bv_at cs k hk) W)
  have HL := hid_ hl
  have hs' := hs
  obtain ⟨A, c, rfl, hc1, hc2, -, -⟩ := hs'
  have HWY := hid_ (fun h1 h2 W => wordsOf_yes cs (.slice A xs.length c) W hl h1 h2)
  have HWN := hid_ (fun h1 h2 W => wordsOf_no cs (.slice A xs.length c) W hl h1 h2)
  generalize tblv cs (.slice A xs.length c) = tv at *
  go_enter Try.func41, Try.ntmps41
  go_wp2_with (first
    | (refine wpList_box_abs rfl 38 (.tmp 0) rfl tv rfl ?_; intro w1 g hb1 hx1 hg)
    | (refine wpList_load_mid rfl 36 (.tmp 12) rfl g 0 rfl (ints cs) _ (HRG.out _ _ hb1) Try.underlying36 rfl (by rw [hcl.out]; exact size16) ?_))
  have hc16 := hid_ (hlast.out _ _ hb1)
  go_loop [3, 14] (fun v i => ∃ k : Nat, k ≤ 16 ∧ i = .int .i64 (k : Int) ∧ v = .int .i64 (sumL cs k) ∧ (∀ z ∈ cs.take k, 0 ≤ z ∧ z ≤ 256) ∧ 0 ≤ sumL cs k ∧ sumL cs k ≤ 256 * k) (fun _ i => 16 - (intOf i).toNat)
  case atStart => exact ⟨0, by omega, rfl, rfl, by simp, by simp [sumL], by simp [sumL]⟩
  case round =>
    obtain ⟨k, hk, rfl, rfl, hin, s1, s2⟩ := hrel
    by_cases hlt : k < 16
    · have hkl : k < cs.length := by have := HL.out; omega
      have hix := HIX.out k hkl hlt
      have HS := hid_ (sumL_succ cs k hkl)
      have HIN := hid_ hin
      have HT2 := hid_ (fun h => checkZ_tot (totOK_no2 (cs := cs) (xs := xs) hk h))
      have HT1 := hid_ (fun h => checkZ_tot (totOK_no1 (cs := cs) (xs := xs) h))
      clear hin
      have HO := hid_ (fun W => outside_any cs[k] 0 256 W)
      cases hq : inB cs[k] 0 256 with
      | true =>
        obtain ⟨q1, q2⟩ := inB_iff.1 hq
        have HN := hid_ (allIn_take HIN.out hkl ⟨q1, q2⟩)
        rw [hq] at HO
        generalize sumL cs k = s at *
        by_cases hbig : 256 < s
        · have hbig' : decide (256 < s) = true := by simpa using hbig
          have HF := hid_ (HT2.out hbig)
          clear hq hbig
          go_wp2_with (go_at_call 28; (with_reducible refine (HO.out _).mono ?_); rintro e w' ⟨rfl, rfl⟩)
          go_ret
          exact ⟨by rw [HF.out]; rfl, hx1⟩
        · have hbig' : decide (256 < s) = false := by simpa using hbig
          clear hq hbig
          go_wp2_with (go_at_call 28; (with_reducible refine (HO.out _).mono ?_); rintro e w' ⟨rfl, rfl⟩)
          go_round
          case rel => exact ⟨k + 1, by omega, by go_num, by rw [HS.out], HN.out, by rw [HS.out]; omega, by rw [HS.out]; omega⟩
          case measure => simp [intOf]; omega
      | false =>
        have HF := hid_ (HT1.out (allIn_no hkl hq))
        rw [hq] at HO
        clear hq
        go_wp2_with (go_at_call 28; (with_reducible refine (HO.out _).mono ?_); rintro e w' ⟨rfl, rfl⟩)
        go_ret
        exact ⟨by rw [HF.out]; rfl, hx1⟩
    · have ek : k = 16 := by omega
      rw [ek] at s1 s2 hin ⊢
      have HA := hid_ (show allIn cs 0 256 = true by
        rw [List.take_of_length_le (by have := HL.out; omega)] at hin
        exact allIn_iff.2 hin)
      have HTK : Hid (sumL cs 16 ≤ 256 → sumL cs 16 = xs.length → totOK cs xs = true) := hid_ (fun a b => totOK_iff.2 ⟨HA.out, a, b⟩)
      have HTN : Hid (¬ (sumL cs 16 ≤ 256 ∧ sumL cs 16 = xs.length) → checkZ cs xs = 4) := hid_ (fun a => checkZ_tot (by
        rw [← Bool.not_eq_true, totOK_iff]
        rintro ⟨-, b, d⟩
        exact a ⟨b, d⟩))
      clear hin ek hk hlt
      generalize sumL cs 16 = s at *
      have h16 := hc16.out
      by_cases h1 : s ≤ 256
      · have h1' : decide (256 < s) = false := by simp; omega
        by_cases h2 : s = xs.length
        · have HTOK := hid_ (HTK.out h1 h2)
          subst h2
          have hneq : ((xs.length : Int) != (xs.length : Int)) = false := by simp
          have HZ1 := hid_ (fun h2 => checkZ_arg HTOK.out h2)
          have HZ2 := hid_ (fun h2 h3 => checkZ_dup HTOK.out h2 h3)
          have HZ3 := hid_ (fun h2 h3 => checkZ_words HTOK.out h2 h3)
          clear h1
          go_wp2_with fail
          go_loop [39] (fun i => ∃ k : Nat, k ≤ xs.length ∧ i = .int .i64 (k : Int) ∧ ∀ z ∈ xs.take k, 0 ≤ z ∧ z ≤ 255) (fun i => xs.length - (intOf i).toNat)
          case atStart => exact ⟨0, by omega, rfl, by simp⟩
          case round =>
            obtain ⟨k, hk, rfl, hin⟩ := hrel
            have HIN := hid_ hin
            clear hin
            by_cases hlt : k < xs.length
            · obtain ⟨ad, u, rfl, -, hxk, hcell⟩ := (hs.ext hx1).at1 hlt
              obtain ⟨hkl, rfl⟩ := ints_at _ _ _ hxk
              clear hxk
              have HO := hid_ (fun W => outside_any xs[k] 0 255 W)
              cases hq : inB xs[k] 0 255 with
              | true =>
                have HN := hid_ (allIn_take HIN.out hkl (inB_iff.1 hq))
                rw [hq] at HO
                clear hq
                go_wp2_with (go_at_call 28; (with_reducible refine (HO.out _).mono ?_); rintro e w' ⟨rfl, rfl⟩)
                go_round
                case rel => exact ⟨k + 1, by omega, by go_num, HN.out⟩
                case measure => simp [intOf]; omega
              | false =>
                have HF := hid_ (HZ1.out (allIn_no hkl hq))
                rw [hq] at HO
                clear hq
                go_wp2_with (go_at_call 28; (with_reducible refine (HO.out _).mono ?_); rintro e w' ⟨rfl, rfl⟩)
                go_ret
                exact ⟨by rw [HF.out]; rfl, hx1⟩
            · have e1 : xs.take k = xs := List.take_of_length_le (by omega)
              have HAX : Hid (allIn xs 0 255 = true) := hid_ (by have := HIN.out; rw [e1] at this; exact allIn_iff.2 this)
              clear e1
              have h16 := hc16.out
              go_wp2_with fail
              go_loop [49] (fun i => ∃ k : Nat, k ≤ xs.length ∧ i = .int .i64 (k : Int) ∧ (xs.take k).Nodup) (fun i => xs.length - (intOf i).toNat)
              case atStart => exact ⟨0, by omega, rfl, by simp⟩
              case round =>
                obtain ⟨m, hm, rfl, hnd⟩ := hrel
                have HND := hid_ hnd
                clear hnd
                by_cases hlt2 : m < xs.length
                · obtain ⟨ad, u, rfl, -, hxk, hcell⟩ := (hs.ext hx1).at1 hlt2
                  obtain ⟨hkl, rfl⟩ := ints_at _ _ _ hxk
                  clear hxk
                  have HS2 := hid_ (nodup_take_succ hkl)
                  have HH := hid_ (fun W (hx : Ext w W) => has_any (xs.take m) (some ad) c m xs[m] W (by simp; omega) (by have := (hs.ext hx).take (k := m) (by omega); rwa [show (ints xs).take m = ints (xs.take m) by simp [ints]] at this))
                  have h16 := hc16.out
                  by_cases hmem : xs[m] ∈ xs.take m
                  · have hd : decide (xs[m] ∈ xs.take m) = true := by simpa using hmem
                    have HF := hid_ (HZ2.out HAX.out (fun hnn => (((HS2.out).1 (List.Nodup.sublist (List.take_sublist _ _) hnn)).2 hmem)))
                    rw [hd] at HH
                    clear hd hmem
                    go_wp2_with (go_at_call 58; (with_reducible refine (HH.out _ hx1).mono ?_); rintro e w' ⟨rfl, rfl⟩)
                    go_ret
                    exact ⟨by rw [HF.out]; rfl, hx1⟩
                  · have hd : decide (xs[m] ∈ xs.take m) = false := by simpa using hmem
                    have HN := hid_ (HS2.out.2 ⟨HND.out, hmem⟩)
                    rw [hd] at HH
                    clear hd hmem
                    go_wp2_with (go_at_call 58; (with_reducible refine (HH.out _ hx1).mono ?_); rintro e w' ⟨rfl, rfl⟩)
                    go_round
                    case rel => exact ⟨m + 1, by omega, by go_num, HN.out⟩
                    case measure => simp [intOf]; omega
                · have e1 : xs.take m = xs := List.take_of_length_le (by omega)
                  rw [e1] at HND
                  have HF := hid_ (HZ3.out HAX.out HND.out)
                  clear e1
                  cases hok : okW cs with
                  | true =>
                    rw [hok] at HF
                    have HW := hid_ (HWY.out HA.out hok)
                    clear hok
                    go_wp2_with (first
                      | (refine wpList_load_blk rfl 38 (.tmp 1) rfl _ rfl hb1 _ Try.underlying38 rfl 17 sizeTbl hts.out ?_)
                      | (go_at_call 59; (with_reducible refine (HW.out _).mono ?_); rintro e w2 ⟨B, d, rfl, hs2, hx2⟩))
                    go_ret
                    exact ⟨by rw [HF.out]; rfl, hx1.trans hx2⟩
                  | false =>
                    rw [hok] at HF
                    have HW := hid_ (HWN.out HA.out hok)
                    clear hok
                    go_wp2_with (first
                      | (refine wpList_load_blk rfl 38 (.tmp 1) rfl _ rfl hb1 _ Try.underlying38 rfl 17 sizeTbl hts.out ?_)
                      | (go_at_call 59; (with_reducible refine (HW.out _).mono ?_); rintro e w2 ⟨rfl, hx2⟩))
                    go_ret
                    exact ⟨by rw [HF.out]; rfl, hx1.trans hx2⟩
        · have h2' : (s != (xs.length : Int)) = true := by simpa using h2
          have HF := hid_ (HTN.out (fun h => h2 h.2))
          clear h2 h1
          go_wp2_with fail
          go_ret
          exact ⟨by rw [HF.out]; rfl, hx1⟩
      · have h1' : decide (256 < s) = true := by simp; omega
        have HF := hid_ (HTN.out (fun h => h1 h.1))
        clear h1
        go_wp2_with fail
        go_ret
        exact ⟨by rw [HF.out]; rfl, hx1⟩
end Go.Proofs.Ytbnjapgmpjkooaa
/- TableDecode of the reference. -/
namespace Go.Proofs.Ytbnjapgmpjkooaa
set_option linter.unusedVariables false
set_option linter.unusedSimpArgs false
open Go.RowKit
theorem wordIn_drop {D : List Bool} {p : Nat} (hp : p ≤ D.length) : wordIn (D.drop p) 0 = wordIn D p := by
  funext t
  unfold wordIn
  rw [List.drop_zero, List.length_drop]
  congr 1
  rw [Bool.eq_iff_iff]
  simp only [decide_eq_true_eq]
  omega
theorem symZ_drop {T : List Tok} {D : List Bool} {p : Nat} (hp : p ≤ D.length) : symZ T (D.drop p) 0 = ((symZ T D p).1, (symZ T D p).2.1 - p, (symZ T D p).2.2) := by
  cases h : T.find? (wordIn D p) with
  | some t =>
    rw [symZ_some h, symZ_some (by rw [wordIn_drop hp]; exact h)]
    simp
  | none =>
    rw [symZ_none h, symZ_none (by rw [wordIn_drop hp]; exact h), List.length_drop]
    simp only [Nat.sub_self, Prod.mk.injEq, true_and, Nat.zero_add]
    by_cases h2 : D.length < p + 16
    · rw [if_pos h2, if_pos (by omega)]
    · rw [if_neg h2, if_neg (by omega)]
theorem symZ_ge {T : List Tok} {D : List Bool} {p : Nat} : p ≤ (symZ T D p).2.1 := by
  unfold symZ
  split <;> simp
set_option maxRecDepth 20000 in
set_option maxHeartbeats 2000000 in
theorem rdecode_bad (cs xs : List Int) (bs : List Nat) (sl bv : Value) (many : Int) (w : World) (hl : cs.length = 16) (hs : SL w 1 sl xs.length (ints xs)) (h : checkZ cs xs ≠ 0 ∨ (checkZ cs xs = 0 ∧ inB many 0 20000 = false)) :
    Calls Try.prog 15 #[.agg (tblv cs sl), bv, .int .i64 many] w (RdIs (decZ cs xs (digsOf bs) many) w) := by
  have HC := hid_ (fun W h => rcheck_any cs xs sl W hl h)
  have hts := hid_ (tblv_size cs sl hl)
  rcases h with h | ⟨h, h2⟩
  · have HE : Hid (decZ cs xs (digsOf bs) many = ([], 0, checkZ cs xs)) := hid_ (by unfold decZ; rw [if_neg h])
    generalize decZ cs xs (digsOf bs) many = ez at *
    generalize tblv cs sl = tv at *
    generalize checkZ cs xs = z at *
    have hz : (z != 0) = true := by simpa using h
    clear h
    go_enter Try.func15, Try.ntmps15
    go_wp2_with (first
      | (refine wpList_box_abs rfl 38 (.tmp 0) rfl tv rfl ?_; intro w1 g hb1 hx1 hg; have hs1 := hs.ext hx1)
      | (refine wpList_load_blk rfl 38 (.tmp 3) rfl _ rfl hb1 _ Try.underlying38 rfl 17 sizeTbl hts.out ?_)
      | (go_at_call 41; (with_reducible refine (HC.out _ hs1).mono ?_); rintro e w2 ⟨rfl, hx2⟩))
    go_ret3
    exact RdIs.err HE.out (hx1.trans hx2)
  · have HE : Hid (decZ cs xs (digsOf bs) many = ([], 0, 1)) := hid_ (by unfold decZ; rw [if_pos h, h2]; rfl)
    have HO := hid_ (fun W => outside_any many 0 20000 W)
    rw [h2] at HO
    generalize decZ cs xs (digsOf bs) many = ez at *
    rw [h] at HC
    generalize tblv cs sl = tv at *
    clear h h2
    go_enter Try.func15, Try.ntmps15
    go_wp2_with (first
      | (refine wpList_box_abs rfl 38 (.tmp 0) rfl tv rfl ?_; intro w1 g hb1 hx1 hg; have hs1 := hs.ext hx1)
      | (refine wpList_load_blk rfl 38 (.tmp 3) rfl _ rfl hb1 _ Try.underlying38 rfl 17 sizeTbl hts.out ?_)
      | (go_at_call 41; (with_reducible refine (HC.out _ hs1).mono ?_); rintro e w2 ⟨rfl, hx2⟩)
      | (go_at_call 28; (with_reducible refine (HO.out _).mono ?_); rintro e w3 ⟨rfl, rfl⟩))
    go_ret3
    exact RdIs.err HE.out (hx1.trans hx2)
set_option maxRecDepth 20000 in
set_option maxHeartbeats 2000000 in
theorem rdecode_good (cs xs : List Int) (bs : List Nat) (sl bv : Value) (mn : Nat) (w : World) (hl : cs.length = 16) (hs : SL w 1 sl xs.length (ints xs)) (hb : SL w 1 bv bs.length (bytesV bs)) (hlt : ∀ b ∈ bs, b < 256) (hn : bs.length ≤ 100000000000) (h : checkZ cs xs = 0) (h2 : mn ≤ 20000) :
    Calls Try.prog 15 #[.agg (tblv cs sl), bv, .int .i64 (mn : Int)] w (RdIs (decGo (zipC (codesW cs 16) xs) (digsOf bs) mn 0 []) w) := by
  have HC := hid_ (fun W h => rcheck_any cs xs sl W hl h)
  rw [h] at HC
  have HO := hid_ (fun W => outside_any (mn : Int) 0 20000 W)
  rw [inB_iff.2 (show 0 ≤ (mn : Int) ∧ (mn : Int) ≤ 20000 by omega)] at HO
  have hts := hid_ (tblv_size cs sl hl)
  have HD : Hid ((digsOf bs).length = 8 * bs.length) := hid_ (digsOf_len bs)
  have HLE := hid_ (fun p (h : p ≤ (digsOf bs).length) => symZ_le (T := zipC (codesW cs 16) xs) h)
  have HGE := hid_ (fun p => symZ_ge (T := zipC (codesW cs 16) xs) (D := digsOf bs) (p := p))
  have HN := hid_ (fun W h => digitsOf_any bs bv W h hlt (by omega))
  have HSY : Hid (∀ p W, p ≤ (digsOf bs).length → SL W 1 sl xs.length (ints xs) → Calls Try.prog 42 #[.agg (tblv cs sl), .string (strB ((digsOf bs).drop p))] W fun e w' => e = .returned (.tuple #[.int .i64 (symZ (zipC (codesW cs 16) xs) (digsOf bs) p).1, .string (if (symZ (zipC (codesW cs 16) xs) (digsOf bs) p).2.2 = 0 then strB ((digsOf bs).drop (symZ (zipC (codesW cs 16) xs) (digsOf bs) p).2.1) else ⟨#[]⟩), .int .i64 (symZ (zipC (codesW cs 16) xs) (digsOf bs) p).2.2]) ∧ Ext W w') := hid_ (fun p W hp hsl => by
    have := symOf_any cs xs sl ((digsOf bs).drop p) W hl hsl h (by rw [List.length_drop, HD.out]; omega)
    rw [symZ_drop hp] at this
    simp only [List.drop_drop] at this
    rwa [show p + ((symZ (zipC (codesW cs 16) xs) (digsOf bs) p).2.1 - p) = (symZ (zipC (codesW cs 16) xs) (digsOf bs) p).2.1 by have := symZ_ge (T := zipC (codesW cs 16) xs) (D := digsOf bs) (p := p); omega] at this)
  have HSZ := hid_ (fun p => strB_size ((digsOf bs).drop p))
  generalize zipC (codesW cs 16) xs = T at *
  generalize tblv cs sl = tv at *
  have hb' := hb
  obtain ⟨A, c, rfl, -, -, -, -⟩ := hb'
  clear h hlt
  obtain ⟨n, hnn⟩ : ∃ n, n = bs.length := ⟨_, rfl⟩
  rw [← hnn] at hb hn HN HD ⊢
  clear hnn
  obtain ⟨ez, hez⟩ : ∃ ez, ez = decGo T (digsOf bs) mn 0 [] := ⟨_, rfl⟩
  have HEZ := hid_ hez
  rw [← hez]
  clear hez
  go_enter Try.func15, Try.ntmps15
  go_wp2_with (first
    | (refine wpList_box_abs rfl 38 (.tmp 0) rfl tv rfl ?_; intro w1 g hb1 hx1 hg; have hs1 := hs.ext hx1)
    | (refine wpList_load_blk rfl 38 (.tmp 3) rfl _ rfl hb1 _ Try.underlying38 rfl 17 sizeTbl hts.out ?_)
    | (go_at_call 41; (with_reducible refine (HC.out _ hs1).mono ?_); rintro e w2 ⟨rfl, hx2⟩; have hbb := hb.ext (hx1.trans hx2))
    | (go_at_call 28; (with_reducible refine (HO.out _).mono ?_); rintro e w3 ⟨rfl, rfl⟩)
    | (go_at_call 36; (with_reducible refine (HN.out _ hbb).mono ?_); rintro e w4 ⟨rfl, hx4⟩; have hb4 := (hb1.ext hx2).ext hx4; have hs4 := (hs1.ext hx2).ext hx4))
  have hx := (hx1.trans hx2).trans hx4
  clear hb1 hs1 hbb
  go_loopw [10, 11, 25] (fun q s i wr => ∃ (k p : Nat) (acc : List Int) (A' : Option Addr) (c' : Nat), k ≤ mn ∧ i = .int .i64 (k : Int) ∧ q = .string (strB ((digsOf bs).drop p)) ∧ s = .slice A' k c' ∧ wr.ownsRow w4.heap.size 3 1 (.slice A' k c') k (ints acc) ∧ Hid (acc.length = k) ∧ Hid (ez = decGo T (digsOf bs) (mn - k) p acc) ∧ p ≤ 8 * n ∧ Ext w4 wr) (fun _ _ i _ => mn - (intOf i).toNat)
  case atStart => exact ⟨0, 0, [], none, 0, by omega, rfl, rfl, rfl, own_nil _ _ _ _, hid_ rfl, HEZ, by omega, Ext.refl _⟩
  case round =>
    clear HEZ hx1 hx2 hx4
    have hx0 := hx
    clear hx
    obtain ⟨k, p, acc, A9, c9, hk, rfl, rfl, rfl, hown, HAL, HEZ, hpn, hx4⟩ := hrel
    have hx := hx0.trans hx4
    have hpd : p ≤ (digsOf bs).length := by rw [HD.out]; exact hpn
    by_cases hlt : k < mn
    · have HEK : Hid (ez = decGo T (digsOf bs) (mn - (k + 1) + 1) p acc) := hid_ (by rw [HEZ.out, show mn - (k + 1) + 1 = mn - k by omega])
      clear HEZ
      have HG := hid_ (fun W h => HSY.out p W hpd h)
      have hle := HLE.out p hpd
      rw [HD.out] at hle
      have hbr := hb4.ext hx4
      have hsr := hs4.ext hx4
      by_cases he : (symZ T (digsOf bs) p).2.2 = 0
      · have HZ2 := hid_ (HEK.out.trans (decGo_yes he))
        rw [he, if_pos rfl] at HG
        clear HEK he
        generalize (symZ T (digsOf bs) p).1 = y at *
        generalize (symZ T (digsOf bs) p).2.1 = q at *
        generalize hsq : strB ((digsOf bs).drop q) = sq at *
        have HSQ := hid_ hsq
        clear hsq
        generalize strB ((digsOf bs).drop p) = sp at *
        have hown4 := hown.lt
        go_wp2_with (first
          | (refine wpList_load_blk rfl 38 (.tmp 3) rfl _ rfl hbr _ Try.underlying38 rfl 17 sizeTbl hts.out ?_)
          | (go_at_call 42; (with_reducible refine (HG.out _ hsr).mono ?_); rintro e w5 ⟨rfl, hx5⟩)
          | (at_builtin; go_must (refine wpList_append_slf elt_intR rfl _ _ rfl w4.heap.size (.slice A9 k c9) _ _ rfl ((own_keep hown hx5).alloc _) _ 1 [.int .i64 _] rfl (one_sl _ _ _) (int_one _) (by omega) (by omega) (by have := hx4.size; have := hx5.size; simp; omega) ?_); intro A7 c7 w7 hown7 hg7 hrow7))
        have hx7 : Ext w4 w7 := Ext.grownR ((hx4.trans hx5).alloc _) hg7 (fun b hb => (hown4 b hb).1)
        go_roundw
        case rel => exact ⟨k + 1, q, acc ++ [y], A7, c7, by omega, by go_num, by rw [HSQ.out], rfl, by rw [ints_app]; exact hown7, hid_ (by simp [HAL.out]), HZ2, hle, hx7⟩
        case measure => simp [intOf]; omega
      · have HZ2 := hid_ (HEK.out.trans (decGo_no he))
        have he2 : ((symZ T (digsOf bs) p).2.2 != 0) = true := by simpa using he
        rw [if_neg he] at HG
        clear HEK he
        generalize (symZ T (digsOf bs) p).1 = y at *
        generalize (symZ T (digsOf bs) p).2.1 = q at *
        generalize (symZ T (digsOf bs) p).2.2 = er at *
        generalize strB ((digsOf bs).drop p) = sp at *
        go_wp2_with (first
          | (refine wpList_load_blk rfl 38 (.tmp 3) rfl _ rfl hbr _ Try.underlying38 rfl 17 sizeTbl hts.out ?_)
          | (go_at_call 42; (with_reducible refine (HG.out _ hsr).mono ?_); rintro e w5 ⟨rfl, hx5⟩))
        go_ret3
        exact RdIs.err HZ2.out (hx.trans hx5)
    · have ek : k = mn := by omega
      subst ek
      have HZ2 : Hid (ez = (acc, ((p : Nat) : Int), 0)) := hid_ (by rw [HEZ.out, Nat.sub_self]; rfl)
      obtain ⟨hsl, -⟩ := own_out hown
      have hsz := HSZ.out p
      rw [List.length_drop, HD.out] at hsz
      clear HEZ
      generalize strB ((digsOf bs).drop p) = sp at *
      have hwr1 : IntKind.i64.wrap (8 * (n : Int)) = 8 * (n : Int) := IntWalk.i64_in _ (by omega)
      have hwr2 : IntKind.i64.wrap (8 * (n : Int) - (sp.size : Int)) = (p : Int) := by rw [IntWalk.i64_in _ (by omega)]; omega
      have HSP := hid_ hsz
      clear hsz
      go_wp2_with fail
      go_ret3
      rw [HZ2.out]
      exact ⟨A9, c9, by rw [HAL.out]; rfl, by rw [HAL.out]; exact hsl, hx⟩
end Go.Proofs.Ytbnjapgmpjkooaa
/- bad of the law's package: a table that may not be. -/
namespace Go.Proofs.Ytbnjapgmpjkooaa
set_option linter.unusedVariables false
set_option linter.unusedSimpArgs false
open Go.RowKit
theorem size_tbl_row (sl : Value) : (tblv (List.replicate 16 0) sl).size = 17 := by simp [tblv, ints]
set_option maxRecDepth 20000 in
set_option maxHeartbeats 400000 in
theorem bad_any (w : World) : Calls Try.prog 17 #[] w fun e w' => ∃ g, e = .returned (.agg (tblv (List.replicate 16 0) (.slice (some ⟨g, 0, none⟩) 1 1))) ∧ SL w' 1 (.slice (some ⟨g, 0, none⟩) 1 1) 1 (ints [1]) ∧ Ext w w' := by
  go_enter Try.func17, Try.ntmps17
  go_wp2_with fail
  refine ret_cell rfl rfl _ rfl ((Blk.new w 38 _).alloc _) _ Try.underlying38 rfl 17 sizeTbl rfl ⟨w.heap.size + 1, rfl, ?_, ((Ext.refl w).alloc _).alloc _⟩
  have h := (Blk.new (w.alloc (.cells (tblv (List.replicate 16 0) (.slice (some ⟨w.heap.size + 1, 0, none⟩) 1 1)) 38)) 3 #[.int .i64 1]).sl (size := 1) (n := 1) (c := 1) rfl (by omega) (by omega)
  rw [World.size_alloc] at h
  exact h
end Go.Proofs.Ytbnjapgmpjkooaa
/- The walk of the law TableChecks. -/
namespace Go.Proofs.Ytbnjapgmpjkooaa
set_option linter.unusedVariables false
set_option linter.unusedSimpArgs false
open Go.RowKit
theorem checkZ_bad : checkZ (List.replicate 16 0) [1] = 4 := by decide
theorem check_bad (w : World) (g : Nat) (hs : SL w 1 (.slice (some ⟨g, 0, none⟩) 1 1) 1 (ints [1])) :
    Calls Try.prog 16 #[.agg (tblv (List.replicate 16 0) (.slice (some ⟨g, 0, none⟩) 1 1))] w fun e w' => e = .returned (.int .i64 4) ∧ Ext w w' := by
  have := check_any (List.replicate 16 0) [1] (.slice (some ⟨g, 0, none⟩) 1 1) w (by simp) hs
  rwa [checkZ_bad] at this
/-- the bad table, whatever it is: Check says no -/
theorem bad_abs (w : World) : Calls Try.prog 17 #[] w fun e w' => ∃ tv, e = .returned (.agg tv) ∧ Hid (∀ W, Ext w' W → Calls Try.prog 16 #[.agg tv] W fun e W' => e = .returned (.int .i64 4) ∧ Ext W W') ∧ Ext w w' :=
  (bad_any w).mono fun _ _ ⟨g, he, hs, hx⟩ => ⟨_, he, hid_ (fun W hW => check_bad W g (hs.ext hW)), hx⟩
end Go.Proofs.Ytbnjapgmpjkooaa
/- The law TableDecodes, walked. -/
namespace Go.Proofs.Ytbnjapgmpjkooaa
set_option linter.unusedVariables false
set_option linter.unusedSimpArgs false
open Go.RowKit
theorem decZ_good {cs xs : List Int} {D : List Bool} {mn : Nat} (h : checkZ cs xs = 0) (h2 : mn ≤ 20000) : decZ cs xs D (mn : Int) = decGo (zipC (codesW cs 16) xs) D mn 0 [] := by
  unfold decZ
  rw [if_pos h, inB_iff.2 (by omega), if_pos rfl]
  rfl
theorem decode_any (cs xs : List Int) (bs : List Nat) (sl bv : Value) (many : Int) (w : World) (hl : cs.length = 16) (hs : SL w 1 sl xs.length (ints xs)) (hb : SL w 1 bv bs.length (bytesV bs)) (hlt : ∀ b ∈ bs, b < 256) (hn : bs.length ≤ 100000000000) :
    Calls Try.prog 14 #[.agg (tblv cs sl), bv, .int .i64 many] w (RdIs (decZ cs xs (digsOf bs) many) w) := by
  by_cases h : checkZ cs xs = 0
  · by_cases h2 : inB many 0 20000 = true
    · rw [inB_iff] at h2
      obtain ⟨mn, rfl⟩ : ∃ mn : Nat, many = (mn : Int) := ⟨many.toNat, by omega⟩
      rw [decZ_good h (by omega)]
      exact decode_good cs xs bs sl bv mn w hl hs hb hlt hn h (by omega)
    · exact decode_bad cs xs bs sl bv many w hl hs (.inr ⟨h, by simpa using h2⟩)
  · exact decode_bad cs xs bs sl bv many w hl hs (.inl h)
theorem rdecode_any (cs xs : List Int) (bs : List Nat) (sl bv : Value) (many : Int) (w : World) (hl : cs.length = 16) (hs : SL w 1 sl xs.length (ints xs)) (hb : SL w 1 bv bs.length (bytesV bs)) (hlt : ∀ b ∈ bs, b < 256) (hn : bs.length ≤ 100000000000) :
    Calls Try.prog 15 #[.agg (tblv cs sl), bv, .int .i64 many] w (RdIs (decZ cs xs (digsOf bs) many) w) := by
  by_cases h : checkZ cs xs = 0
  · by_cases h2 : inB many 0 20000 = true
    · rw [inB_iff] at h2
      obtain ⟨mn, rfl⟩ : ∃ mn : Nat, many = (mn : Int) := ⟨many.toNat, by omega⟩
      rw [decZ_good h (by omega)]
      exact rdecode_good cs xs bs sl bv mn w hl hs hb hlt hn h (by omega)
    · exact rdecode_bad cs xs bs sl bv many w hl hs (.inr ⟨h, by simpa using h2⟩)
  · exact rdecode_bad cs xs bs sl bv many w hl hs (.inl h)
end Go.Proofs.Ytbnjapgmpjkooaa
namespace Go.Proofs.Ytbnjapgmpjkooaa.tableDecodes
open Go.RowKit
set_option maxRecDepth 20000 in
set_option maxHeartbeats 1000000 in
theorem walk (cs xs : List Int) (sl : Value) (hl : cs.length = 16) (_ : ∀ z ∈ cs, inI64 z) (_ : ∀ z ∈ xs, inI64 z) (v : Value) (bs : List Nat) (hlt : ∀ b ∈ bs, b < 256) (hn : bs.length ≤ 1048576) (many : Int) (_ : (Lit.int .i64 many).wf = true) (w : World) (hs : SL w 1 sl xs.length (ints xs)) (hv : SL w 1 v bs.length (bytesV bs)) :
    Calls Try.prog 5 #[.agg (tblv cs sl), v, .int .i64 many] w fun e w' => e = .returned (.bool true) ∧ Ext w w' := by
  have H1 := hid_ (fun W h h2 => decode_any cs xs bs sl v many W hl h h2 hlt (by omega))
  have H2 := hid_ (fun W h h2 => rdecode_any cs xs bs sl v many W hl h h2 hlt (by omega))
  have H3 := hid_ (fun W => bad_abs W)
  have hts := hid_ (tblv_size cs sl hl)
  generalize tblv cs sl = tv at *
  unfold RdIs at H1 H2
  have HE := hid_ (fun W x y (a : SL W 1 x (decZ cs xs (digsOf bs) many).1.length (ints (decZ cs xs (digsOf bs) many).1)) (b : SL W 1 y (decZ cs xs (digsOf bs) many).1.length (ints (decZ cs xs (digsOf bs) many).1)) => (eqInt_any x y (decZ cs xs (digsOf bs) many).1 (decZ cs xs (digsOf bs) many).1 W a b).mono (fun e w' h => (⟨by rw [h.1]; simp, by rw [h.2]; exact Ext.refl _⟩ : e = .returned (.bool true) ∧ Ext W w')))
  generalize (decZ cs xs (digsOf bs) many).1 = out at *
  generalize (decZ cs xs (digsOf bs) many).2.1 = m at *
  generalize (decZ cs xs (digsOf bs) many).2.2 = z at *
  have e1 : (z == z) = true := by simp
  have e2 : (m == m) = true := by simp
  clear hn hlt
  go_enter Try.func5, Try.ntmps5
  go_wp2_with (first
    | (refine wpList_box_abs rfl 38 (.tmp 0) rfl tv rfl ?_; intro w1 g hb1 hx1 hg; have hs1 := hs.ext hx1; have hv1 := hv.ext hx1)
    | (refine wpList_load_blk rfl 38 (.tmp 3) rfl _ rfl hb1 _ Try.underlying38 rfl 17 sizeTbl hts.out ?_)
    | (go_at_call 14; (with_reducible refine (H1.out _ hs1 hv1).mono ?_); rintro e w2 ⟨A, c, rfl, hs2, hx2⟩; have hb2 := hb1.ext hx2; have hst2 := hs1.ext hx2; have hsv2 := hv1.ext hx2)
    | (refine wpList_load_blk rfl 38 (.tmp 3) rfl _ rfl hb2 _ Try.underlying38 rfl 17 sizeTbl hts.out ?_)
    | (go_at_call 15; (with_reducible refine (H2.out _ hst2 hsv2).mono ?_); rintro e w3 ⟨B, d, rfl, hs3, hx3⟩; have hs23 := hs2.ext hx3)
    | (go_at_call 13; (with_reducible refine (HE.out _ _ _ hs23 hs3).mono ?_); rintro e w5 ⟨rfl, hx5⟩)
    | (go_at_call 17; (with_reducible refine (H3.out _).mono ?_); rintro e w6 ⟨tb, rfl, H4, hx6⟩)
    | (go_at_call 16; (with_reducible refine (H4.out _ (Ext.refl _)).mono ?_); rintro e w7 ⟨rfl, hx7⟩))
  go_ret
  exact ⟨rfl, ((((hx1.trans hx2).trans hx3).trans hx5).trans hx6).trans hx7⟩
end Go.Proofs.Ytbnjapgmpjkooaa.tableDecodes
/- What the bound of an ..UptoSaid gives. -/
namespace Go.Proofs.Ytbnjapgmpjkooaa
set_option linter.unusedVariables false
set_option linter.unusedSimpArgs false
open Go.RowKit Go.ChangeShapes Go.WideShapes Go.ChangeAt
section
variable {H : Type}
theorem bulk_pos (d : DataW H) : 1 ≤ Rows.uptoBulk d := by
  cases d with
  | lit l => cases l <;> simp [Rows.uptoBulk]
  | _ => simp [Rows.uptoBulk]
theorem bulk_many (l : List (DataW H)) : l.length ≤ Rows.uptoBulkAll l := by
  induction l with
  | nil => simp [Rows.uptoBulkAll]
  | cons d l ih => have := bulk_pos d; simp only [Rows.uptoBulkAll, List.length_cons]; omega
theorem bulk_part {d : DataW H} : ∀ {l : List (DataW H)}, d ∈ l → Rows.uptoBulk d ≤ Rows.uptoBulkAll l
  | x :: l, h => by
    simp only [Rows.uptoBulkAll]
    rcases List.mem_cons.1 h with rfl | h
    · omega
    · have := bulk_part h; omega
variable {enc : TypeId × Value → H} {P : Program} {w : World} {base : Nat} {spare : Nat → Bool} {held : Bool}
theorem bulk_slice {t e : TypeId} {A : Option Addr} {n c : Nat} {d : DataW H} {p : List MemPlace} {l : List (DataW H)} (ht : P.underlying t = some (.slice e)) (h : DataW.Trod enc P w base spare held t (.slice A n c) d p) (hd : d ∈ l) (hk : Rows.uptoSmall H l = true) : n ≤ 1048576 := by
  have hb : Rows.uptoBulkAll l ≤ 1048576 := of_decide_eq_true hk
  have h1 := bulk_part hd
  obtain ⟨fuel, hf⟩ := h
  rcases Go.Deep.open_slice ht hf with ⟨h0, -⟩ | ⟨a, len, cap, m, k, D, Pl, hcs, -, hl, hm, hmm, hx, -⟩
  · have : n = 0 := by simpa [Value.cells] using congrArg (fun l => match l with | [Value.slice _ n _] => n | _ => 0) h0
    omega
  · have hn : n = len := by simpa [Value.cells] using congrArg (fun l => match l with | [Value.slice _ n _] => n | _ => 0) hcs
    have hdd : d = .slice ((List.range len).map D) ((List.range (m - len)).map fun j => D (len + j)) := congrArg Prod.fst hx
    rw [hdd] at h1
    have h2 := bulk_many ((List.range len).map D)
    simp only [List.length_map, List.length_range] at h2
    simp only [Rows.uptoBulk] at h1
    omega
theorem bulk_sl {t e : TypeId} {v : Value} {sz n : Nat} {xs : List Value} {w0 : World} {d : DataW H} {p : List MemPlace} {l : List (DataW H)} (hs : SL w0 sz v n xs) (ht : P.underlying t = some (.slice e)) (h : DataW.Trod enc P w base spare held t v d p) (hd : d ∈ l) (hk : Rows.uptoSmall H l = true) : n ≤ 1048576 := by
  obtain ⟨A, c, rfl, -⟩ := hs
  exact bulk_slice ht h hd hk
end
end Go.Proofs.Ytbnjapgmpjkooaa
namespace Go.Proofs.Ytbnjapgmpjkooaa
set_option linter.unusedVariables false
set_option linter.unusedSimpArgs false
open Go.RowKit Go.ChangeShapes Go.WideShapes Go.ChangeAt
theorem own : ownKnob Try.prog.godebug = none := by kernel_rfl
theorem laidOut : laidOutB Try.prog = true := by kernel_rfl
section
variable {H : Type} {enc : TypeId × Value → H} {P : Program}
theorem below_trodAll (hl : laidOutB P = true) {W W' : World} (hb : Below W.heap.size W W') : ∀ {ts : List TypeId} {vs : List Value} {ds : List (DataW H)} {ps : List MemPlace},
    (∀ t ∈ ts, P.readableRec t = true ∧ t < P.types.size) → DataW.TrodAll enc P W 0 (fun _ => true) true ts vs ds ps → (∀ x ∈ ps, x.block < W.heap.size) →
    DataW.TrodAll enc P W' 0 (fun b => decide (b < W.heap.size)) true ts vs ds ps
  | [], _, _, _, _, h, _ => by
    obtain ⟨rfl, rfl, rfl⟩ := trodAll_nil h
    exact trodAll_mk0
  | t :: ts, vs, ds, ps, hr, h, hlt => by
    obtain ⟨v, vs1, d, ds1, a, b, rfl, rfl, rfl, h1, h2⟩ := trodAll_cons h
    exact ⟨a, b, Below.trod hl (hr t (by simp)).1 (hr t (by simp)).2 h1 hb (fun x hx => hlt x (by simp [hx])),
      below_trodAll hl hb (fun t ht => hr t (by simp [ht])) h2 (fun x hx => hlt x (by simp [hx])), rfl⟩

/-- a law's row is met: true, and new blocks alone -/
theorem law_post {f : Func} {s : ChangeSpec} {W W' : World} {args : Array Value} {ds gs : List (DataW H)} {before : List MemPlace}
    (hl : laidOutB P = true) (tb : TypeId) (htb : P.underlying tb = some .bool) (hft : f.resultTypes = #[tb]) (hvars : s.vars = [])
    (hr : ∀ t ∈ f.params.toList, P.readableRec t = true ∧ t < P.types.size)
    (hW : DataW.Whole enc P f.params.toList s.vars false W args.toList ds gs before)
    (hfn : s.fn H (ds ++ gs) = { results := [.lit (.bool true)], args := ds })
    (hb : Ext W W') : s.post enc P f false true false false W args (.bool true) W' := by
  have hlt : ∀ p ∈ before, p.block < W.heap.size := fun p hp => by simpa using hW.lt p hp
  have hW' := hW
  obtain ⟨p, q, hA, hV, rfl, hfz, hnd⟩ := hW
  rw [hvars] at hV
  obtain ⟨rfl, rfl⟩ := trodVars_none hV
  simp only [List.append_nil] at hlt hW'
  refine ⟨ds, [], p, [], p, [], hW', ?_, ?_, ?_, ?_, fun h => by cases h⟩
  · rw [hft, hfn]
    exact trodAll_cons_mk (shut_bool htb _) trodAll_mk0
  · rw [hfn]
    exact below_trodAll hl hb hr hA hlt
  · rw [hfn, hvars]
    rfl
  · exact World.keptBut_mono (fun p hp => ⟨hp, Or.inr (Or.inl hp)⟩) (hb.frame (· ∈ p))
end
end Go.Proofs.Ytbnjapgmpjkooaa
