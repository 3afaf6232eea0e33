/- Contracts for the law ScanEncodesCard, part 33: what the functions that it reaches answer, for all arguments that the theorems name. -/
import Derived.Test.YtgmddhljgfbibaaDoorMScanEncodesCard18
import Derived.Test.YtgmddhljgfbibaaDoorMScanEncodesCard19
import Derived.Test.YtgmddhljgfbibaaDoorMScanEncodesCard15
import Derived.Test.YtgmddhljgfbibaaDoorMScanEncodesCard32
import Derived.Test.YtgmddhljgfbibaaDoorMScanEncodesCard30
import Derived.Test.YtgmddhljgfbibaaDoorRows
import Derived.Test.YtgmddhljgfbibaaDoorMScanEncodesCard1
import Derived.ProofKit
import Derived.OpenShut
import Derived.JoinedCond
/- parts of the reference. -/
namespace Go.Proofs.YtgmddhljgfbibaaDoor
set_option linter.unusedVariables false
set_option linter.unusedSimpArgs false
open Go.RowKit
attribute [local irreducible] bv partsL cutE cutK
set_option maxRecDepth 20000 in
set_option maxHeartbeats 2000000 in
theorem parts_any (n e : Nat) (hn : n ≤ 1000000) (he : e ≤ 1000000) (w : World) :
    Calls Tryd.prog 52 #[.int .i64 (n : Int), .int .i64 (e : Int)] w fun en w' => ∃ B d, en = .returned (.slice B (cutK n e) d) ∧ SL w' 1 (.slice B (cutK n e) d) (cutK n e) (ints (partsL n e (cutK n e))) ∧ Ext w w' := by
  by_cases h : e = 0 ∨ n = 0
  · obtain ⟨hE, hK⟩ := cut_whole h
    have hL : partsL n e 1 = [(n : Int)] := by
      simp only [partsL, List.nil_append, hE]
      simp
    rw [hK, hL]
    clear hE hK hL
    by_cases h0 : e = 0
    · have H8 : Hid (decide ((e : Int) = 0) = true) := hid_ (by rw [decide_eq_true_eq]; omega)
      clear h h0
      go_enter Tryd.func52, Tryd.ntmps52
      go_wp2_with (first
        | (show wpList _ _ _ (⟨some 7, _, _, _, _, _⟩ :: _) _ _; refine wl_run rfl (.bool true) (ex_eql rfl rfl rfl H8.out) ?_)
        | (show wpList _ _ _ (⟨some 13, _, _, _, _, _⟩ :: _) _ _; refine wpList_lit1 rfl 30 3 (.tmp 12) rfl (some 13) rfl Tryd.underlying30 1 sizeI zeroI _ rfl rfl (by omega) (by omega) ?_; intro w1 g hb1 hx1 hg1))
      go_ret
      exact ⟨_, _, rfl, blk_one hb1, hx1⟩
    · have H8 : Hid (decide ((e : Int) = 0) = false) := hid_ (by rw [decide_eq_false_iff_not]; omega)
      have H11 : Hid (decide ((n : Int) = 0) = true) := hid_ (by rw [decide_eq_true_eq]; omega)
      clear h h0
      go_enter Tryd.func52, Tryd.ntmps52
      go_wp2_with (first
        | (show wpList _ _ _ (⟨some 7, _, _, _, _, _⟩ :: _) _ _; refine wl_run rfl (.bool false) (ex_eql rfl rfl rfl H8.out) ?_)
        | (show wpList _ _ _ (⟨some 10, _, _, _, _, _⟩ :: _) _ _; refine wl_run_g (by rfl) (.bool true) (ex_eql rfl rfl rfl H11.out) ?_)
        | (show wpList _ _ _ (⟨some 13, _, _, _, _, _⟩ :: _) _ _; refine wpList_lit1 rfl 30 3 (.tmp 12) rfl (some 13) rfl Tryd.underlying30 1 sizeI zeroI _ rfl rfl (by omega) (by omega) ?_; intro w1 g hb1 hx1 hg1))
      go_ret
      exact ⟨_, _, rfl, blk_one hb1, hx1⟩
  · have HE := hid_ (cut_part h).1
    have HLT := hid_ (fun i => cutK_lt (i := i) h)
    have HKL := hid_ (cutK_le (n := n) (e := e))
    have HE0 : Hid (0 < e) := hid_ (by omega)
    have H8 : Hid (decide ((e : Int) = 0) = false) := hid_ (by rw [decide_eq_false_iff_not]; omega)
    have H11 : Hid (decide ((n : Int) = 0) = false) := hid_ (by rw [decide_eq_false_iff_not]; omega)
    have how : OwnV w w.heap.size 3 1 (.slice none 0 0) 0 (ints (partsL n e 0)) := by
      have h0 : partsL n e 0 = [] := by unfold partsL; rfl
      rw [h0]
      exact OwnV.nil _ _ _ _
    clear h
    obtain ⟨K, hK⟩ : ∃ K, cutK n e = K := ⟨_, rfl⟩
    rw [hK] at HLT HKL ⊢
    clear hK
    go_enter Tryd.func52, Tryd.ntmps52
    go_wp2_with (first
      | (show wpList _ _ _ (⟨some 7, _, _, _, _, _⟩ :: _) _ _; refine wl_run rfl (.bool false) (ex_eql rfl rfl rfl H8.out) ?_)
      | (show wpList _ _ _ (⟨some 10, _, _, _, _, _⟩ :: _) _ _; refine wl_run_g (by rfl) (.bool false) (ex_eql rfl rfl rfl H11.out) ?_))
    go_loopw [0, 5] (fun iv x wr => ∃ (k p : Nat), Hid (p = n - k * e ∧ k ≤ K) ∧ p ≤ n ∧ iv = .int .i64 (p : Int) ∧ OwnV wr w.heap.size 3 1 x k (ints (partsL n e k)) ∧ Ext w wr) (fun i _ _ => (intOf i).toNat)
    case atStart => exact ⟨0, n, hid_ (by omega), by omega, rfl, how, Ext.refl _⟩
    case round =>
      clear how
      obtain ⟨k, p, HP, hpn, rfl, ⟨OA, oc, rfl, hown⟩, hx⟩ := hrel
      by_cases hlt : 0 < p
      · obtain ⟨mn, hmn⟩ : ∃ q, min p e = q := ⟨_, rfl⟩
        have hk1 : k < K := by have h1 := HP.out; exact (HLT.out k).2 (by omega)
        have hk2 : k ≤ 1000001 := by have h1 := HKL.out; omega
        have HNX : Hid (partsL n e (k + 1) = partsL n e k ++ [(mn : Int)]) := hid_ (by
          have h1 := HP.out
          have h2 : n - k * cutE n e = p := by rw [HE.out, h1.1]
          rw [partsL, h2, HE.out, hmn])
        obtain ⟨p2, hp2⟩ : ∃ q, p - mn = q := ⟨_, rfl⟩
        have HP2 : Hid (p2 = n - (k + 1) * e ∧ k + 1 ≤ K) := hid_ (by have h1 := HP.out; rw [Nat.succ_mul]; omega)
        have HPP := hid_ hp2
        have hp3 : p2 < p := by have := HE0.out; omega
        have hml : mn ≤ p := by omega
        clear hp2
        go_wp2_with (first
          | (show wpList _ _ _ (⟨some 19, _, _, _, _, _⟩ :: _) _ _; refine wl_run rfl (.int .i64 (mn : Int)) (by rw [← hmn]; exact ex_minN (i := p) (d := e) rfl rfl rfl) ?_)
          | (show wpList _ _ _ (⟨some 20, _, _, _, _, _⟩ :: _) _ _; refine wpList_lit1 rfl 30 3 (.tmp 19) rfl (some 20) rfl Tryd.underlying30 1 sizeI zeroI _ rfl rfl (by omega) (by omega) ?_; intro w1 g hb1 hx1 hg1; have ho1 := own_keep hown hx1)
          | (show wpList _ _ _ (⟨some 21, _, _, _, _, _⟩ :: _) _ _; at_builtin; refine wpList_append_slf elt_intR rfl (.tmp 16) (.tmp 20) rfl w.heap.size (.slice OA k oc) k (ints (partsL n e k)) rfl ho1 _ 1 (ints [(mn : Int)]) rfl (blk_one hb1) (ints_one_mem _) (by omega) (by omega) (by have := hx.size; have := hx1.size; omega) ?_; intro A4 c4 w4 ho4 hgr4 hor4; have hx4 := (hx.trans hx1).grown' hgr4 (fun b hb => (ho1.lt b hb).1))
          | (show wpList _ _ _ (⟨some 25, _, _, _, _, _⟩ :: _) _ _; refine wl_run rfl (.int .i64 (mn : Int)) (by rw [← hmn]; exact ex_minN (i := p) (d := e) rfl rfl rfl) ?_)
          | (show wpList _ _ _ (⟨some 26, _, _, _, _, _⟩ :: _) _ _; refine wl_run rfl (.int .i64 (p2 : Int)) (by rw [← HPP.out]; exact ex_subN (i := p) (d := mn) rfl rfl rfl (by omega) (by omega)) ?_))
        go_roundw
        case rel => exact ⟨k + 1, p2, HP2, by omega, rfl, ⟨A4, c4, rfl, by rw [HNX.out, ints_app]; exact ho4⟩, hx4⟩
        case measure => simp [intOf]; omega
      · have hk : k = K := by
          have h1 := HP.out
          have h2 : ¬ k < K := fun h => hlt (by have h3 := (HLT.out k).1 h; omega)
          omega
        subst hk
        go_wp2_with fail
        go_ret
        exact ⟨_, _, rfl, (own_out hown).1, hx⟩
end Go.Proofs.YtgmddhljgfbibaaDoor
/- ScanEncode of the reference. Printed by wip/gen/mkrscanenc.py. -/
namespace Go.Proofs.YtgmddhljgfbibaaDoor
set_option linter.unusedVariables false
set_option linter.unusedSimpArgs false
open Go.RowKit
theorem goesRSegEnc : Goes Tryd.prog 13 := ⟨_, Tryd.func13, by kernel_rfl, by kernel_rfl⟩
theorem rest_drop {n E i : Nat} {Z : List Int} (hZ : Z.length = n * 64) (cnt : Nat) (hc : min (n - i * E) E = cnt) : ((ints (Z.drop (i * E * 64))).drop (cnt * 64)).take ((n - i * E - cnt) * 64) = ints (Z.drop ((i + 1) * E * 64)) := by
  have h1 : ((ints (Z.drop (i * E * 64))).drop (cnt * 64)) = ints (Z.drop ((i + 1) * E * 64)) := by
    have e : (ints (Z.drop (i * E * 64))).drop (cnt * 64) = ints (Z.drop (i * E * 64 + cnt * 64)) := by
      simp only [ints, List.map_drop, List.drop_drop]
    rw [e]
    congr 1
    by_cases h : E ≤ n - i * E
    · have : cnt = E := by omega
      subst this
      rw [Nat.succ_mul, Nat.add_mul]
    · have h2 : cnt = n - i * E := by omega
      rw [List.drop_of_length_le (by rw [hZ]; omega), List.drop_of_length_le (by rw [hZ, Nat.succ_mul]; exact Nat.mul_le_mul_right _ (by omega))]
  rw [h1, List.take_of_length_le]
  rw [ints_len, List.length_drop, hZ, ← Nat.sub_mul, Nat.succ_mul]
  exact Nat.mul_le_mul_right _ (by omega)
theorem SL.top {w : World} {A : Option Addr} {n c h : Nat} {xs : List Value} (hs : SL w 64 (.slice A n c) n xs) (hh : h ≤ n) : SL w 64 (.slice A h c) h (xs.take (h * 64)) := by
  have := hs.subK (l := 0) (h := h) (by omega) hh
  simpa [subA_0] using this
set_option maxRecDepth 20000 in
theorem rscanEnc_range (tt : Array Value) (v : Value) (nn : Int) (w : World) (h : nn < 0 ∨ 100 < nn) : Calls Tryd.prog 19 #[.agg tt, v, .int .i64 nn] w (SegIs (1, []) w) := by
  have HIN := hid_ (fun W => outside_any nn 0 100 W)
  have hin : inB nn 0 100 = false := by
    cases hq : inB nn 0 100 with
    | false => rfl
    | true => have := inB_iff.1 hq; omega
  rw [hin] at HIN
  clear hin h
  go_enter Tryd.func19, Tryd.ntmps19
  go_wp2_with (first
    | (show wpList _ _ _ (⟨some 3, _, _, _, _, _⟩ :: _) _ _; refine wpList_box_abs rfl 34 (.tmp 0) rfl tt rfl ?_; intro w1 g hb1 hx1 hg)
    | (go_at_call 41; (with_reducible refine (HIN.out _).mono ?_); rintro e w' ⟨rfl, rfl⟩))
  refine bodyPost_ret (results_tmp2 rfl _ _ _) rfl ?_
  refine ⟨hx1, ?_⟩
  rw [if_neg (show ¬ (1 : Int) = 0 by decide)]
  rfl
attribute [local irreducible] bytesV bv segR scanGo partsL cutE cutK blocksE stuffZ packB padB
set_option maxRecDepth 20000 in
theorem rscanEnc_bad (tt : Array Value) (hsz0 : tt.size = 34) (z : Int) (hz : z ≠ 0) (v : Value) (nn : Int) (w : World) (h0I : ¬ nn < 0) (h4I : ¬ 100 < nn)
    (CT : ∀ W, Ext w W → Calls Tryd.prog 29 #[.agg tt] W fun e W' => e = .returned (.int .i64 z) ∧ Ext W W') : Calls Tryd.prog 19 #[.agg tt, v, .int .i64 nn] w (SegIs (z, []) w) := by
  have HIN := hid_ (fun W => outside_any nn 0 100 W)
  have hin : inB nn 0 100 = true := inB_iff.2 (by omega)
  rw [hin] at HIN
  have HCT := hid_ CT
  have hsz := hid_ hsz0
  have hzb : (z != 0) = true := by simpa using hz
  have HZ := hid_ hz
  clear hin h0I h4I CT hsz0 hz
  go_enter Tryd.func19, Tryd.ntmps19
  go_wp2_with (first
    | (show wpList _ _ _ (⟨some 3, _, _, _, _, _⟩ :: _) _ _; refine wpList_box_abs rfl 34 (.tmp 0) rfl tt rfl ?_; intro w1 g hb1 hx1 hg)
    | (go_at_call 41; (with_reducible refine (HIN.out _).mono ?_); rintro e w' ⟨rfl, rfl⟩)
    | (show wpList _ _ _ (⟨some 17, _, _, _, _, _⟩ :: _) _ _; refine wpList_load_blk rfl 34 (.tmp 3) rfl g rfl hb1 _ Tryd.underlying34 rfl 34 sizeTbls hsz.out ?_)
    | (go_at_call 29; (with_reducible refine (HCT.out _ hx1).mono ?_); rintro e w2 ⟨rfl, hx2⟩))
  refine bodyPost_ret (results_tmp2 rfl _ _ _) rfl ?_
  refine ⟨hx1.trans hx2, ?_⟩
  rw [if_neg HZ.out]
  rfl
set_option maxRecDepth 20000 in
set_option maxHeartbeats 8000000 in
theorem rscanEnc_good (T1 T2 : List Tok) (f1 : FitT T1) (f2 : FitT T2) (tt : Array Value) (hsz0 : tt.size = 34) (A : Option Addr) (n c : Nat) (Z : List Int) (hZ : Z.length = n * 64) (e : Nat) (he : e ≤ 100) (w : World) (hs : SL w 64 (.slice A n c) n (ints Z))
    (CT : ∀ W, Ext w W → Calls Tryd.prog 29 #[.agg tt] W fun e W' => e = .returned (.int .i64 0) ∧ Ext W W')
    (SG : ∀ W A' m c' P, Ext w W → P.length = m * 64 → SL W 64 (.slice A' m c') m (ints P) → Calls Tryd.prog 13 #[.agg tt, .slice A' m c'] W (SegIsF (segR T1 T2 m P) W)) :
    Calls Tryd.prog 19 #[.agg tt, .slice A n c, .int .i64 (e : Int)] w (SegIs (scanR T1 T2 n e Z) w) := by
  have HIN := hid_ (fun W => outside_any (e : Int) 0 100 W)
  have hin : inB (e : Int) 0 100 = true := inB_iff.2 (by omega)
  rw [hin] at HIN
  have HCT := hid_ CT
  have hsz := hid_ hsz0
  have HSG := hid_ SG
  have HBC := hid_ (fun W (h : Ext w W) => blocksCheck_any A n c Z hZ W (hs.ext h))
  have HSL := hid_ (fun i m => segR_len f1 f2 m (pieceZ n e i Z))
  have HZ := hid_ hZ
  have HS := hid_ hs
  have hnc : n ≤ c := by obtain ⟨A', c', q, q1, q2, -, -⟩ := hs; injection q with q3 q4 q5; omega
  obtain ⟨FR, hFR⟩ : ∃ r, scanR T1 T2 n e Z = r := ⟨_, rfl⟩
  have HFE : Hid (blocksE n Z ≠ 0 → FR = (blocksE n Z, [])) := hid_ (fun h => by rw [← hFR]; unfold scanR; rw [if_pos h])
  have HFO : Hid (blocksE n Z = 0 → FR = scanGo T1 T2 n e Z (cutK n e) 0 []) := hid_ (fun h => by rw [← hFR]; unfold scanR; rw [if_neg (by simp [h])])
  rw [hFR]
  clear hFR hin CT SG hZ hs f1 f2 hsz0
  by_cases hbe : blocksE n Z = 0
  · have hn4 := blocksE_le hbe
    rw [hbe] at HBC
    have HSP := hid_ (fun W => parts_any n e (by omega) (by omega) W)
    have hK := cutK_le (n := n) (e := e)
    have hRR : ∃ R, scanGo T1 T2 n e Z (cutK n e) 0 [] = R := ⟨_, rfl⟩
    obtain ⟨R, hRR⟩ := hRR
    have HR0 : Hid (scanGo T1 T2 n e Z (cutK n e - 0) 0 [] = R) := hid_ hRR
    have HFR : Hid (FR = R) := hid_ (by rw [HFO.out hbe, hRR])
    have HAT := hid_ (fun i (h : i < cutK n e) => cut_at h)
    obtain ⟨K, hKK⟩ : ∃ K, cutK n e = K := ⟨_, rfl⟩
    rw [hKK] at HSP HR0 HAT hK
    clear hRR hKK hbe HFE HFO
    go_enter Tryd.func19, Tryd.ntmps19
    go_wp2_with (first
      | (show wpList _ _ _ (⟨some 3, _, _, _, _, _⟩ :: _) _ _; refine wpList_box_abs rfl 34 (.tmp 0) rfl tt rfl ?_; intro w1 g hb1 hx1 hg)
      | (go_at_call 41; (with_reducible refine (HIN.out _).mono ?_); rintro e w' ⟨rfl, rfl⟩)
      | (show wpList _ _ _ (⟨some 17, _, _, _, _, _⟩ :: _) _ _; refine wpList_load_blk rfl 34 (.tmp 3) rfl g rfl hb1 _ Tryd.underlying34 rfl 34 sizeTbls hsz.out ?_)
      | (go_at_call 29; (with_reducible refine (HCT.out _ hx1).mono ?_); rintro e w2 ⟨rfl, hx2⟩; have hx2' := hx1.trans hx2)
      | (go_at_call 30; (with_reducible refine (HBC.out _ hx2').mono ?_); rintro e w3 ⟨rfl, hx3⟩; have hx3' := hx2'.trans hx3)
      | (go_at_call 52; (with_reducible refine (HSP.out _).mono ?_); rintro e w4 ⟨B4, d4, rfl, hsp, hx4⟩; have hx4' := hx3'.trans hx4))
    have hg4 := ((hb1.ext hx2).ext hx3).ext hx4
    have how : OwnV w4 w4.heap.size 5 1 (.slice none 0 0) 0 (bytesV []) := by unfold bytesV; exact OwnV.nil _ _ _ _
    have HSP4 := hid_ hsp
    have HG4 := hid_ hg4
    have HX4 := hid_ hx4'
    have hrest : Hid (SL w 64 (.slice A n c) n (ints (Z.drop (0 * cutE n e * 64)))) := hid_ (by rw [Nat.zero_mul, Nat.zero_mul, List.drop_zero]; exact HS.out)
    clear hb1 hx1 hx2 hx2' hx3 hx3' hx4 hx4' hsp hg4 hg hnc
    go_loopw [1, 10, 32] (fun b x iv wr => ∃ (i m left ci : Nat) (Ai : Option Addr) (acc : List Nat), i ≤ K ∧ iv = .int .i64 (i : Int) ∧ b = .slice Ai left ci ∧ Hid (left = n - i * cutE n e) ∧ left ≤ n ∧ Hid (SL w 64 (.slice Ai left ci) left (ints (Z.drop (i * cutE n e * 64)))) ∧ Hid (acc.length = m) ∧ m ≤ i * 1000000002 ∧ OwnV wr w4.heap.size 5 1 x m (bytesV acc) ∧ Hid (scanGo T1 T2 n e Z (K - i) i acc = R) ∧ Ext w4 wr) (fun _ _ i _ => K - (intOf i).toNat)
    case atStart => exact ⟨0, 0, n, c, A, [], by omega, rfl, rfl, hid_ (by omega), by omega, hrest, hid_ rfl, by omega, how, HR0, Ext.refl _⟩
    case round =>
      clear how HR0 hrest
      obtain ⟨i, m, left, ci, Ai, acc, hi, rfl, rfl, HLF, hll, HSR0, HM, hm, ⟨OA, oc, rfl, hown⟩, HR, hx⟩ := hrel
      by_cases hlt : i < K
      · obtain ⟨td, u, hB, htb, hxk, hcell⟩ := HSP4.out.at1 hlt
        subst hB
        obtain ⟨ln, hln⟩ : ∃ q, min left (cutE n e) = q := ⟨_, rfl⟩
        have hu : u = .int .i64 (ln : Int) := by
          have h := partsL_at n e K i hlt
          have h2 : (ints (partsL n e K))[i]? = some (.int .i64 ((min (n - i * cutE n e) (cutE n e) : Nat) : Int)) := by
            rw [ints, List.getElem?_map, List.getElem?_eq_getElem (by rw [partsL_len]; exact hlt), h]
            rfl
          rw [h2, ← HLF.out, hln] at hxk
          exact (Option.some.inj hxk).symm
        subst hu
        have hcell0 : wr.cell? (td.add i) = some (.int .i64 (ln : Int)) := (hx.cell (p := td.add i) (by rw [block_of_add]; exact htb)).trans hcell
        have hlnl : ln ≤ left := by omega
        have hlc : left ≤ ci := by obtain ⟨A', c', q, q1, q2, -, -⟩ := HSR0.out; injection q with q3 q4 q5; omega
        have HP : Hid ((pieceZ n e i Z).length = ln * 64) := hid_ (by rw [pieceZ_len HZ.out, ← HLF.out, hln])
        have e3 : (ints (Z.drop (i * cutE n e * 64))).take (ln * 64) = ints (pieceZ n e i Z) := by
          unfold pieceZ
          rw [← HLF.out, hln]
          simp [ints, List.map_take]
        have HPS := hid_ (fun W (h : Ext w W) => (HSR0.out.ext h).top hlnl)
        rw [e3] at HPS
        have HSR := hid_ (fun W (h : Ext w W) => HSG.out W _ _ _ _ h HP.out (HPS.out W h))
        have HER : Hid (∀ r, segR T1 T2 ln (pieceZ n e i Z) = r → r.1 ≠ 0 → R = (r.1, [])) := hid_ (fun r h h0 => by rw [← HR.out, show K - i = (K - (i + 1)) + 1 by omega]; exact scanGo_err (by rw [← HLF.out, hln]; exact h) h0)
        have HOK : Hid (∀ r, segR T1 T2 ln (pieceZ n e i Z) = r → r.1 = 0 → scanGo T1 T2 n e Z (K - (i + 1)) (i + 1) (acc ++ markZ i ++ r.2) = R) := hid_ (fun r h h0 => by rw [← HR.out, show K - i = (K - (i + 1)) + 1 by omega]; exact (scanGo_ok (by rw [← HLF.out, hln]; exact h) h0).symm)
        obtain ⟨lf2, hlf2⟩ : ∃ q, left - ln = q := ⟨_, rfl⟩
        have HLF2 : Hid (lf2 = n - (i + 1) * cutE n e) := hid_ (by have := HLF.out; rw [Nat.succ_mul]; omega)
        obtain ⟨cl, hcl⟩ : ∃ q, ci - ln = q := ⟨_, rfl⟩
        have HRS : Hid (SL w 64 (.slice (subA Ai ci ln) lf2 cl) lf2 (ints (Z.drop ((i + 1) * cutE n e * 64)))) := hid_ (by
          have h := HSR0.out.subK hlnl (Nat.le_refl left)
          rw [← rest_drop HZ.out ln (by rw [← HLF.out]; exact hln), ← HLF.out]
          rw [hlf2, hcl] at h
          rw [hlf2]
          exact h)
        have HSUB := hid_ (fun (o : Oper) (a : Act) (x lo' : Operand) (ho : o.op = .slice 35 x (some lo') none none) (hx : a.eval x = .slice Ai left ci) (h1 : a.eval lo' = .int .i64 (ln : Int)) (W : World) => ex_subF ho hx h1 hlnl hlc W)
        rw [hlf2, hcl] at HSUB
        have hl2 : lf2 ≤ n := by omega
        have hsl := HSL.out i ln
        obtain ⟨r, hr⟩ : ∃ r, segR T1 T2 ln (pieceZ n e i Z) = r := ⟨_, rfl⟩
        rw [hr] at HSR hsl
        have HER := hid_ (HER.out r hr)
        have HOK := hid_ (HOK.out r hr)
        generalize subA Ai ci ln = SA at *
        generalize pieceZ n e i Z = P at *
        clear hr e3 hcl hlf2 hln HR HPS HP hxk hcell htb HSR0
        obtain ⟨r1, r2⟩ := r
        dsimp only at hsl HER HOK
        have HRA : Hid (∀ W e W', SegIsF (r1, r2) W e W' → ∃ B k d, e = .returned (.tuple #[.slice B k d, .int .i64 r1]) ∧ (r1 = 0 → r2.length = k ∧ SL W' 1 (.slice B k d) k (bytesV r2) ∧ ∀ ad, B = some ad → W.heap.size ≤ ad.block) ∧ Ext W W') := hid_ (fun W e W' h => by
          obtain ⟨hx, h⟩ := h
          by_cases h0 : r1 = 0
          · subst h0
            rw [if_pos rfl] at h
            obtain ⟨B, k, d, rfl, h1, h2, -, h3⟩ := h
            exact ⟨B, k, d, rfl, fun _ => ⟨h1, h2, h3⟩, hx⟩
          · rw [if_neg h0] at h
            exact ⟨none, 0, 0, h, fun h => absurd h h0, hx⟩)
        go_wp2_with fail
        have hxd : Ext w4 wr.drew := hx.drew
        have HGX := hid_ (fun W (h : Ext wr.drew W) => ((HG4.out.ext hxd).ext h))
        have howd := own_keep hown (Ext.refl wr).drew
        have hI : Ext wr.drew wr.drew := Ext.refl _
        clear hcell0
        by_cases h0 : r1 = 0
        · subst h0
          by_cases hp : 0 < i
          · have H61 : Hid (decide ((0 : Int) < (i : Int)) = true) := hid_ (by rw [decide_eq_true]; omega)
            obtain ⟨i7, hi7⟩ : ∃ q, i + 7 = q := ⟨_, rfl⟩
            have HI7 := hid_ hi7
            obtain ⟨m8, hm8⟩ : ∃ q, i7 % 8 = q := ⟨_, rfl⟩
            have HM8 := hid_ hm8
            obtain ⟨q, hq⟩ : ∃ q, 208 + m8 = q := ⟨_, rfl⟩
            have HQ := hid_ hq
            have hq2 : q < 256 := by omega
            have hi72 : i7 < 1000 := by omega
            have hm82 : m8 < 8 := by omega
            have HMZ : Hid (markZ i = [255, q]) := hid_ (by unfold markZ; rw [if_neg (by omega), ← hq, show (i - 1) % 8 = m8 by omega])
            clear hi7 hm8 hq
            refine wp_region_oi (Ext wr.drew) (by kernel_rfl) ?_
            refine oi_fix (k := 0) (by kernel_rfl) rfl (by rfl) (.agg tt) (fun W hW => ex_loadB rfl rfl (HGX.out W hW) Tryd.underlying34 rfl sizeTbls hsz.out) hI ?_
            simp only [Act.put, List.setIfInBounds_toArray, List.set_cons_succ, List.set_cons_zero]
            refine oi_run (k := 1) (by kernel_rfl) rfl (by rfl) (.slice Ai left ci) (ex_move rfl rfl) hI ?_
            simp only [Act.put, List.setIfInBounds_toArray, List.set_cons_succ, List.set_cons_zero]
            refine oi_run (k := 2) (by kernel_rfl) rfl (by rfl) (.int .i64 (ln : Int)) (ex_move rfl rfl) hI ?_
            simp only [Act.put, List.setIfInBounds_toArray, List.set_cons_succ, List.set_cons_zero]
            refine oi_run (k := 3) (by kernel_rfl) rfl (by rfl) (.slice Ai ln ci) (ex_subT rfl rfl rfl hlnl hlc) hI ?_
            simp only [Act.put, List.setIfInBounds_toArray, List.set_cons_succ, List.set_cons_zero]
            refine oi_loud (k := 4) (by kernel_rfl) rfl ?_
            refine wl_enter (by rfl) (run_callv _ _ _ rfl rfl goesRSegEnc #[.agg tt, .slice Ai ln ci] (by simp [Act.eval])) ?_
            refine (HSR.out _ (HX4.out.trans hxd)).mono ?_
            intro e9 w9 h9
            obtain ⟨B9, k9, d9, rfl, hr9, hx9⟩ := HRA.out _ _ _ h9
            refine ⟨_, rfl, oi_end ⟨hx9, ?_⟩⟩
            simp only [Act.put, List.setIfInBounds_toArray, List.set_cons_succ, List.set_cons_zero]
            refine oi_run (k := 5) (by kernel_rfl) rfl (by rfl) (.tuple #[.slice B9 k9 d9, .int .i64 0]) (ex_move rfl rfl) hx9 ?_
            simp only [Act.put, List.setIfInBounds_toArray, List.set_cons_succ, List.set_cons_zero]
            refine oi_run (k := 6) (by kernel_rfl) rfl (by rfl) (.slice B9 k9 d9) (ex_extract rfl rfl rfl) hx9 ?_
            simp only [Act.put, List.setIfInBounds_toArray, List.set_cons_succ, List.set_cons_zero]
            refine oi_run (k := 7) (by kernel_rfl) rfl (by rfl) (.int .i64 0) (ex_extract rfl rfl rfl) hx9 ?_
            simp only [Act.put, List.setIfInBounds_toArray, List.set_cons_succ, List.set_cons_zero]
            refine oi_run (k := 8) (by kernel_rfl) rfl (by rfl) (.slice B9 k9 d9) (ex_assign rfl rfl) hx9 ?_
            simp only [Act.put, List.setIfInBounds_toArray, List.set_cons_succ, List.set_cons_zero]
            refine oi_run (k := 9) (by kernel_rfl) rfl (by rfl) (.int .i64 0) (ex_assign rfl rfl) hx9 ?_
            simp only [Act.put, List.setIfInBounds_toArray, List.set_cons_succ, List.set_cons_zero]
            refine oi_done (by kernel_rfl) ?_
            obtain ⟨hk9, hs9, hf9⟩ := hr9 (by first | rfl | trivial)
            have hlo := own_lowB howd
            have ho9 := own_keep howd hx9
            have hx19 := hxd.trans hx9
            go_wp2_with (first
              | (show wpList _ _ _ (⟨some 50, _, _, _, _, _⟩ :: _) _ _; refine wl_run rfl (.slice SA lf2 cl) (HSUB.out _ _ _ _ rfl rfl rfl) ?_)
              | (show wpList _ _ _ (⟨some 52, _, _, _, _, _⟩ :: _) _ _; refine wl_run rfl (.bool true) (ex_gtr rfl rfl rfl H61.out) ?_)
              | (show wpList _ _ _ (⟨some 55, _, _, _, _, _⟩ :: _) _ _; refine wl_run rfl (.int .i64 (i7 : Int)) (by rw [← HI7.out]; exact ex_addN (i := i) (d := 7) rfl rfl rfl (by omega)) ?_)
              | (show wpList _ _ _ (⟨some 56, _, _, _, _, _⟩ :: _) _ _; refine wl_run rfl (.int .i64 (m8 : Int)) (by rw [← HM8.out]; exact ex_remN (i := i7) (d := 8) rfl rfl rfl (by omega) (by omega)) ?_)
              | (show wpList _ _ _ (⟨some 57, _, _, _, _, _⟩ :: _) _ _; refine wl_run rfl (.int .i64 (q : Int)) (by rw [← HQ.out]; exact ex_addN (i := 208) (d := m8) rfl rfl rfl (by omega)) ?_)
              | (show wpList _ _ _ (⟨some 58, _, _, _, _, _⟩ :: _) _ _; refine wl_run rfl (.int .u8 ((q : Nat) : Int)) (ex_convS rfl rfl (by omega)) ?_)
              | (show wpList _ _ _ (⟨some 59, _, _, _, _, _⟩ :: _) _ _; refine wpList_lit2B rfl _ _ rfl (some 59) rfl 255 q rfl rfl ?_; intro w11 g11 hb11 hx11 hg11; have ho11 := own_keep ho9 hx11; have hs11 := hs9.ext hx11)
              | (show wpList _ _ _ (⟨some 60, _, _, _, _, _⟩ :: _) _ _; at_builtin; refine wpList_append_slf elt_by rfl (.tmp 53) (.tmp 59) rfl w4.heap.size (.slice OA m oc) m (bytesV acc) rfl ho11 _ 2 (bytesV [255, q]) rfl (byte_row rfl hb11) (byteOne _) (by omega) (by omega) (by have := (hx19.trans hx11).size; omega) ?_; intro A12 c12 w12 ho12 hgr12 hor12; have hx12 := (hx19.trans hx11).grown' hgr12 (fun b hb => (ho11.lt b hb).1); have hs12 := hs11.upd (upd_grown hgr12) (fun ad e1 e2 => by have h1 := hf9 ad e1; have h2 := (hlo _ e2).2; omega))
              | (show wpList _ _ _ (⟨some 63, _, _, _, _, _⟩ :: _) _ _; at_builtin; refine wpList_append_slf elt_by rfl (.tmp 61) (.tmp 62) rfl w4.heap.size (.slice A12 (m + 2) c12) (m + 2) (bytesV acc ++ bytesV [255, q]) rfl ho12 _ k9 (bytesV r2) rfl hs12 (byteOne _) (by omega) (by omega) hx12.size ?_; intro A10 c10 w10 ho10 hgr10 hor10; have hx10 := hx12.grown' hgr10 (fun b hb => (ho12.lt b hb).1)))
            go_roundw
            case rel =>
              refine ⟨i + 1, m + 2 + k9, lf2, cl, SA, acc ++ markZ i ++ r2, by omega, by go_num, rfl, HLF2, hl2, HRS, hid_ ?_, by omega, ⟨A10, c10, rfl, ?_⟩, HOK.out (by first | rfl | trivial), hx10⟩
              · rw [List.length_append, List.length_append, HM.out, hk9, HMZ.out]; rfl
              · rw [bytesV_app', bytesV_app', HMZ.out]
                exact ho10
            case measure => simp [intOf]; omega
          · have H61 : Hid (decide ((0 : Int) < (i : Int)) = false) := hid_ (by rw [decide_eq_false_iff_not]; omega)
            have HMZ : Hid (markZ i = []) := hid_ (by unfold markZ; rw [if_pos (by omega)])
            refine wp_region_oi (Ext wr.drew) (by kernel_rfl) ?_
            refine oi_fix (k := 0) (by kernel_rfl) rfl (by rfl) (.agg tt) (fun W hW => ex_loadB rfl rfl (HGX.out W hW) Tryd.underlying34 rfl sizeTbls hsz.out) hI ?_
            simp only [Act.put, List.setIfInBounds_toArray, List.set_cons_succ, List.set_cons_zero]
            refine oi_run (k := 1) (by kernel_rfl) rfl (by rfl) (.slice Ai left ci) (ex_move rfl rfl) hI ?_
            simp only [Act.put, List.setIfInBounds_toArray, List.set_cons_succ, List.set_cons_zero]
            refine oi_run (k := 2) (by kernel_rfl) rfl (by rfl) (.int .i64 (ln : Int)) (ex_move rfl rfl) hI ?_
            simp only [Act.put, List.setIfInBounds_toArray, List.set_cons_succ, List.set_cons_zero]
            refine oi_run (k := 3) (by kernel_rfl) rfl (by rfl) (.slice Ai ln ci) (ex_subT rfl rfl rfl hlnl hlc) hI ?_
            simp only [Act.put, List.setIfInBounds_toArray, List.set_cons_succ, List.set_cons_zero]
            refine oi_loud (k := 4) (by kernel_rfl) rfl ?_
            refine wl_enter (by rfl) (run_callv _ _ _ rfl rfl goesRSegEnc #[.agg tt, .slice Ai ln ci] (by simp [Act.eval])) ?_
            refine (HSR.out _ (HX4.out.trans hxd)).mono ?_
            intro e9 w9 h9
            obtain ⟨B9, k9, d9, rfl, hr9, hx9⟩ := HRA.out _ _ _ h9
            refine ⟨_, rfl, oi_end ⟨hx9, ?_⟩⟩
            simp only [Act.put, List.setIfInBounds_toArray, List.set_cons_succ, List.set_cons_zero]
            refine oi_run (k := 5) (by kernel_rfl) rfl (by rfl) (.tuple #[.slice B9 k9 d9, .int .i64 0]) (ex_move rfl rfl) hx9 ?_
            simp only [Act.put, List.setIfInBounds_toArray, List.set_cons_succ, List.set_cons_zero]
            refine oi_run (k := 6) (by kernel_rfl) rfl (by rfl) (.slice B9 k9 d9) (ex_extract rfl rfl rfl) hx9 ?_
            simp only [Act.put, List.setIfInBounds_toArray, List.set_cons_succ, List.set_cons_zero]
            refine oi_run (k := 7) (by kernel_rfl) rfl (by rfl) (.int .i64 0) (ex_extract rfl rfl rfl) hx9 ?_
            simp only [Act.put, List.setIfInBounds_toArray, List.set_cons_succ, List.set_cons_zero]
            refine oi_run (k := 8) (by kernel_rfl) rfl (by rfl) (.slice B9 k9 d9) (ex_assign rfl rfl) hx9 ?_
            simp only [Act.put, List.setIfInBounds_toArray, List.set_cons_succ, List.set_cons_zero]
            refine oi_run (k := 9) (by kernel_rfl) rfl (by rfl) (.int .i64 0) (ex_assign rfl rfl) hx9 ?_
            simp only [Act.put, List.setIfInBounds_toArray, List.set_cons_succ, List.set_cons_zero]
            refine oi_done (by kernel_rfl) ?_
            obtain ⟨hk9, hs9, hf9⟩ := hr9 (by first | rfl | trivial)
            have hlo := own_lowB howd
            have ho9 := own_keep howd hx9
            have hx19 := hxd.trans hx9
            go_wp2_with (first
              | (show wpList _ _ _ (⟨some 50, _, _, _, _, _⟩ :: _) _ _; refine wl_run rfl (.slice SA lf2 cl) (HSUB.out _ _ _ _ rfl rfl rfl) ?_)
              | (show wpList _ _ _ (⟨some 52, _, _, _, _, _⟩ :: _) _ _; refine wl_run rfl (.bool false) (ex_gtr rfl rfl rfl H61.out) ?_)
              | (show wpList _ _ _ (⟨some 63, _, _, _, _, _⟩ :: _) _ _; at_builtin; refine wpList_append_slf elt_by rfl (.tmp 61) (.tmp 62) rfl w4.heap.size (.slice OA m oc) m (bytesV acc) rfl ho9 _ k9 (bytesV r2) rfl hs9 (byteOne _) (by omega) (by omega) hx19.size ?_; intro A10 c10 w10 ho10 hgr10 hor10; have hx10 := hx19.grown' hgr10 (fun b hb => (ho9.lt b hb).1)))
            go_roundw
            case rel =>
              refine ⟨i + 1, m + k9, lf2, cl, SA, acc ++ markZ i ++ r2, by omega, by go_num, rfl, HLF2, hl2, HRS, hid_ ?_, by omega, ⟨A10, c10, rfl, ?_⟩, HOK.out (by first | rfl | trivial), hx10⟩
              · rw [List.length_append, List.length_append, HM.out, hk9, HMZ.out]; rfl
              · rw [bytesV_app', bytesV_app', HMZ.out]
                rw [show bytesV [] = [] by unfold bytesV; rfl, List.append_nil]; exact ho10
            case measure => simp [intOf]; omega
        · have h0b : (r1 != 0) = true := by simpa using h0
          have H0N := hid_ h0
          clear h0
          refine wp_region_oi (Ext wr.drew) (by kernel_rfl) ?_
          refine oi_fix (k := 0) (by kernel_rfl) rfl (by rfl) (.agg tt) (fun W hW => ex_loadB rfl rfl (HGX.out W hW) Tryd.underlying34 rfl sizeTbls hsz.out) hI ?_
          simp only [Act.put, List.setIfInBounds_toArray, List.set_cons_succ, List.set_cons_zero]
          refine oi_run (k := 1) (by kernel_rfl) rfl (by rfl) (.slice Ai left ci) (ex_move rfl rfl) hI ?_
          simp only [Act.put, List.setIfInBounds_toArray, List.set_cons_succ, List.set_cons_zero]
          refine oi_run (k := 2) (by kernel_rfl) rfl (by rfl) (.int .i64 (ln : Int)) (ex_move rfl rfl) hI ?_
          simp only [Act.put, List.setIfInBounds_toArray, List.set_cons_succ, List.set_cons_zero]
          refine oi_run (k := 3) (by kernel_rfl) rfl (by rfl) (.slice Ai ln ci) (ex_subT rfl rfl rfl hlnl hlc) hI ?_
          simp only [Act.put, List.setIfInBounds_toArray, List.set_cons_succ, List.set_cons_zero]
          refine oi_loud (k := 4) (by kernel_rfl) rfl ?_
          refine wl_enter (by rfl) (run_callv _ _ _ rfl rfl goesRSegEnc #[.agg tt, .slice Ai ln ci] (by simp [Act.eval])) ?_
          refine (HSR.out _ (HX4.out.trans hxd)).mono ?_
          intro e9 w9 h9
          obtain ⟨B9, k9, d9, rfl, hr9, hx9⟩ := HRA.out _ _ _ h9
          refine ⟨_, rfl, oi_end ⟨hx9, ?_⟩⟩
          simp only [Act.put, List.setIfInBounds_toArray, List.set_cons_succ, List.set_cons_zero]
          refine oi_run (k := 5) (by kernel_rfl) rfl (by rfl) (.tuple #[.slice B9 k9 d9, .int .i64 r1]) (ex_move rfl rfl) hx9 ?_
          simp only [Act.put, List.setIfInBounds_toArray, List.set_cons_succ, List.set_cons_zero]
          refine oi_run (k := 6) (by kernel_rfl) rfl (by rfl) (.slice B9 k9 d9) (ex_extract rfl rfl rfl) hx9 ?_
          simp only [Act.put, List.setIfInBounds_toArray, List.set_cons_succ, List.set_cons_zero]
          refine oi_run (k := 7) (by kernel_rfl) rfl (by rfl) (.int .i64 r1) (ex_extract rfl rfl rfl) hx9 ?_
          simp only [Act.put, List.setIfInBounds_toArray, List.set_cons_succ, List.set_cons_zero]
          refine oi_run (k := 8) (by kernel_rfl) rfl (by rfl) (.slice B9 k9 d9) (ex_assign rfl rfl) hx9 ?_
          simp only [Act.put, List.setIfInBounds_toArray, List.set_cons_succ, List.set_cons_zero]
          refine oi_run (k := 9) (by kernel_rfl) rfl (by rfl) (.int .i64 r1) (ex_assign rfl rfl) hx9 ?_
          simp only [Act.put, List.setIfInBounds_toArray, List.set_cons_succ, List.set_cons_zero]
          refine oi_done (by kernel_rfl) ?_
          go_wp2_with fail
          refine bodyPost_ret (results_tmp2 rfl _ _ _) rfl ?_
          rw [HFR.out, HER.out H0N.out]
          refine ⟨HX4.out.trans (hxd.trans hx9), ?_⟩
          rw [if_neg H0N.out]
          rfl
      · have hiK : K - i = 0 := by omega
        have HR2 : Hid (R = (0, acc)) := hid_ (by rw [← HR.out, hiK, scanGo])
        have hnn := own_noneB hown
        clear HR
        go_wp2_with fail
        refine bodyPost_ret (results_tmp2 rfl _ _ _) rfl ?_
        rw [HFR.out, HR2.out]
        refine ⟨HX4.out.trans hx, ?_⟩
        rw [if_pos rfl]
        exact ⟨OA, m, oc, rfl, HM.out, (own_out hown).1, hnn⟩
  · have hbb : (blocksE n Z != 0) = true := by simpa using hbe
    have HBE := hid_ hbe
    have HFR := hid_ (HFE.out hbe)
    clear hbe HFE HFO
    generalize blocksE n Z = be at *
    go_enter Tryd.func19, Tryd.ntmps19
    go_wp2_with (first
      | (show wpList _ _ _ (⟨some 3, _, _, _, _, _⟩ :: _) _ _; refine wpList_box_abs rfl 34 (.tmp 0) rfl tt rfl ?_; intro w1 g hb1 hx1 hg)
      | (go_at_call 41; (with_reducible refine (HIN.out _).mono ?_); rintro e w' ⟨rfl, rfl⟩)
      | (show wpList _ _ _ (⟨some 17, _, _, _, _, _⟩ :: _) _ _; refine wpList_load_blk rfl 34 (.tmp 3) rfl g rfl hb1 _ Tryd.underlying34 rfl 34 sizeTbls hsz.out ?_)
      | (go_at_call 29; (with_reducible refine (HCT.out _ hx1).mono ?_); rintro e w2 ⟨rfl, hx2⟩; have hx2' := hx1.trans hx2)
      | (go_at_call 30; (with_reducible refine (HBC.out _ hx2').mono ?_); rintro e w3 ⟨rfl, hx3⟩; have hx3' := hx2'.trans hx3))
    refine bodyPost_ret (results_tmp2 rfl _ _ _) rfl ?_
    rw [HFR.out]
    refine ⟨hx3', ?_⟩
    rw [if_neg HBE.out]
    rfl
end Go.Proofs.YtgmddhljgfbibaaDoor
/- The law ScanEncodes, walked. -/
namespace Go.Proofs.YtgmddhljgfbibaaDoor
set_option linter.unusedVariables false
set_option linter.unusedSimpArgs false
open Go.RowKit
/-- both encoders of a scan answer alike -/
theorem scanBoth (cs1 xs1 cs2 xs2 : List Int) (s1 s2 : Value) (l1 : cs1.length = 16) (l2 : cs2.length = 16) (A : Option Addr) (n c : Nat) (Z : List Int) (hZ : Z.length = n * 64) (nn : Int) (m0 : Int) (w : World) (hm : w.cell? ⟨0, 0, none⟩ = some (.int .i64 m0))
    (hs1 : SL w 1 s1 xs1.length (ints xs1)) (hs2 : SL w 1 s2 xs2.length (ints xs2)) (hs : SL w 64 (.slice A n c) n (ints Z)) :
    ∃ r : Int × List Nat, (∀ W, Ext w W → Calls Tryd.prog 18 #[.agg (tblL cs1 s1 ++ tblL cs2 s2).toArray, .slice A n c, .int .i64 nn] W (SegIs r W)) ∧ (∀ W, Ext w W → Calls Tryd.prog 19 #[.agg (tblL cs1 s1 ++ tblL cs2 s2).toArray, .slice A n c, .int .i64 nn] W (SegIs r W)) := by
  by_cases hr : nn < 0 ∨ 100 < nn
  · exact ⟨(1, []), fun W _ => scanEnc_range _ _ nn W hr, fun W _ => rscanEnc_range _ _ nn W hr⟩
  have h1 := tblL_len cs1 s1 l1
  have h2 := tblL_len cs2 s2 l2
  have C1 : ∀ W, Ext w W → Calls Tryd.prog 48 #[.agg (tblL cs1 s1).toArray] W fun e W' => e = .returned (.int .i64 (checkZ cs1 xs1)) ∧ Ext W W' := fun W h => check_any cs1 xs1 s1 W l1 (hs1.ext h)
  have C2 : ∀ W, Ext w W → Calls Tryd.prog 48 #[.agg (tblL cs2 s2).toArray] W fun e W' => e = .returned (.int .i64 (checkZ cs2 xs2)) ∧ Ext W W' := fun W h => check_any cs2 xs2 s2 W l2 (hs2.ext h)
  have D1 : ∀ W, Ext w W → Calls Tryd.prog 56 #[.agg (tblL cs1 s1).toArray] W fun e W' => e = .returned (.int .i64 (checkZ cs1 xs1)) ∧ Ext W W' := fun W h => rcheck_any cs1 xs1 s1 W l1 (hs1.ext h)
  have D2 : ∀ W, Ext w W → Calls Tryd.prog 56 #[.agg (tblL cs2 s2).toArray] W fun e W' => e = .returned (.int .i64 (checkZ cs2 xs2)) ∧ Ext W W' := fun W h => rcheck_any cs2 xs2 s2 W l2 (hs2.ext h)
  have CT : ∀ W, Ext w W → Calls Tryd.prog 29 #[.agg (tblL cs1 s1 ++ tblL cs2 s2).toArray] W fun e W' => e = .returned (.int .i64 (if checkZ cs1 xs1 = 0 then checkZ cs2 xs2 else checkZ cs1 xs1)) ∧ Ext W W' := fun W h => tablesCheck_any (tblL cs1 s1) (tblL cs2 s2) _ _ W h1 h2 (fun W' h' => D1 W' (h.trans h')) (fun W' h' => D2 W' (h.trans h'))
  have o1 := tblL_oneS cs1 s1 hs1
  have o2 := tblL_oneS cs2 s2 hs2
  have hsz := tblsWhole h1 h2
  by_cases hE : (if checkZ cs1 xs1 = 0 then checkZ cs2 xs2 else checkZ cs1 xs1) = 0
  · have z1 : checkZ cs1 xs1 = 0 := by
      by_cases h : checkZ cs1 xs1 = 0
      · exact h
      · rw [if_neg h] at hE; exact hE
    have z2 : checkZ cs2 xs2 = 0 := by rw [if_pos z1] at hE; exact hE
    rw [hE] at CT
    rw [z1] at C1
    rw [z2] at C2
    obtain ⟨e, rfl⟩ : ∃ e : Nat, nn = (e : Int) := ⟨nn.toNat, by omega⟩
    have he : e ≤ 100 := by omega
    have f1 := fitT_of cs1 xs1 l1 z1
    have f2 := fitT_of cs2 xs2 l2 z2
    refine ⟨scanR (zipC (codesW cs1 16) xs1) (zipC (codesW cs2 16) xs2) n e Z, fun W h => ?_, fun W h => ?_⟩
    · exact scanEnc_good _ _ f1 f2 _ _ A n c Z hZ e he W (hs.ext h) h1 h2 o1 o2 (fun W' h' => C1 W' (h.trans h')) (fun W' h' => C2 W' (h.trans h'))
        (fun W' A' m c' P h' hP hp => segEnc_good _ _ f1 f2 _ _ A' m c' P hP m0 W' hp (cell_keep hm (h.trans h')) h1 h2 o1 o2 (fun W2 h3 => C1 W2 ((h.trans h').trans h3)) (fun W2 h3 => C2 W2 ((h.trans h').trans h3))
          (fun W2 h3 => newCoder_any cs1 xs1 s1 W2 l1 (((hs1.ext h).ext h').ext h3) z1) (fun W2 h3 => newCoder_any cs2 xs2 s2 W2 l2 (((hs2.ext h).ext h').ext h3) z2))
    · exact rscanEnc_good _ _ f1 f2 _ hsz A n c Z hZ e he W (hs.ext h) (fun W' h' => CT W' (h.trans h'))
        (fun W' A' m c' P h' hP hp => rsegEnc_goodF cs1 xs1 cs2 xs2 s1 s2 A' m c' P hP W' hp l1 l2 ((hs1.ext h).ext h') ((hs2.ext h).ext h') z1 z2)
  · exact ⟨(_, []), fun W h => scanEnc_bad _ _ _ _ _ nn W (by omega) (by omega) h1 h2 o1 o2 (fun W' h' => C1 W' (h.trans h')) (fun W' h' => C2 W' (h.trans h')) hE, fun W h => rscanEnc_bad _ hsz _ hE _ nn W (by omega) (by omega) (fun W' h' => CT W' (h.trans h'))⟩
end Go.Proofs.YtgmddhljgfbibaaDoor
namespace Go.Proofs.YtgmddhljgfbibaaDoor.scanEncodes
open Go.RowKit
attribute [local irreducible] bytesV
set_option maxRecDepth 20000 in
set_option maxHeartbeats 2000000 in
theorem walk (cs1 xs1 : List Int) (s1 : Value) (cs2 xs2 : List Int) (s2 : Value) (l1 : cs1.length = 16) (l2 : cs2.length = 16) (v : Value) (Z : List Int) (hh : Z.length = Z.length / 64 * 64 ∧ ∀ z ∈ Z, inI64 z) (nn : Int) (_ : (Lit.int .i64 nn).wf = true) (m0 : Int) (w : World) (hm : w.cell? ⟨0, 0, none⟩ = some (.int .i64 m0))
    (hs1 : SL w 1 s1 xs1.length (ints xs1)) (hs2 : SL w 1 s2 xs2.length (ints xs2)) (hs : SL w 64 v (Z.length / 64) (ints Z)) :
    Calls Tryd.prog 6 #[.agg (tblL cs1 s1 ++ tblL cs2 s2).toArray, v, .int .i64 nn] w fun e w' => e = .returned (.bool true) ∧ Ext w w' := by
  obtain ⟨hZ, -⟩ := hh
  obtain ⟨n, hn⟩ : ∃ n, Z.length / 64 = n := ⟨_, rfl⟩
  rw [hn] at hs hZ
  have hs' := hs
  obtain ⟨A, c, rfl, -, -, -, -⟩ := hs'
  obtain ⟨r, K1, K2⟩ := scanBoth cs1 xs1 cs2 xs2 s1 s2 l1 l2 A n c Z hZ nn m0 w hm hs1 hs2 hs
  have H1 := hid_ K1
  have H2 := hid_ K2
  have hsz := hid_ (tblsWhole (tblL_len cs1 s1 l1) (tblL_len cs2 s2 l2))
  generalize (tblL cs1 s1 ++ tblL cs2 s2).toArray = tt at *
  have H3 := hid_ (fun W => scanEnc_range tt (.slice none 0 0) (-1) W (.inl (by omega)))
  obtain ⟨X, hX⟩ : ∃ X, X = if r.1 = 0 then r.2 else [] := ⟨_, rfl⟩
  have HA : Hid (∀ W e W', SegIs r W e W' → ∃ B k d, e = .returned (.tuple #[.slice B k d, .int .i64 r.1]) ∧ X.length = k ∧ SL W' 1 (.slice B k d) k (bytesV X) ∧ Ext W W') := hid_ (fun W e W' h => by rw [hX]; exact h.any)
  have HN : Hid (∀ W e W', SegIs (1, []) W e W' → e = .returned (.tuple #[.slice none 0 0, .int .i64 1]) ∧ Ext W W') := hid_ (fun W e W' h => by
    obtain ⟨hx, h⟩ := h
    rw [if_neg (by decide)] at h
    exact ⟨h, hx⟩)
  obtain ⟨x, q⟩ := r
  dsimp only at HA
  have e1 : (x == x) = true := by simp
  clear K1 K2 hs hs1 hs2 hm hn hZ hX l1 l2
  go_enter Tryd.func6, Tryd.ntmps6
  go_wp2_with (first
    | (show wpList _ _ _ (⟨some 3, _, _, _, _, _⟩ :: _) _ _; refine wpList_box_abs rfl 34 (.tmp 0) rfl tt rfl ?_; intro w1 g hb1 hx1 hg1)
    | (show wpList _ _ _ (⟨some 14, _, _, _, _, _⟩ :: _) _ _; refine wpList_load_blk rfl 34 (.tmp 3) rfl g rfl hb1 _ Tryd.underlying34 rfl 34 sizeTbls hsz.out ?_)
    | (go_at_call 18; (with_reducible refine (H1.out _ hx1).mono ?_); intro e w2 h2; obtain ⟨B2, k2, d2, rfl, hk2, hs2, hx2⟩ := HA.out _ _ _ h2; have hx2' := hx1.trans hx2)
    | (show wpList _ _ _ (⟨some 21, _, _, _, _, _⟩ :: _) _ _; refine wpList_load_blk rfl 34 (.tmp 3) rfl g rfl (hb1.ext hx2) _ Tryd.underlying34 rfl 34 sizeTbls hsz.out ?_)
    | (go_at_call 19; (with_reducible refine (H2.out _ hx2').mono ?_); intro e w3 h3; obtain ⟨B3, k3, d3, rfl, hk3, hs3, hx3⟩ := HA.out _ _ _ h3; have hx3' := hx2'.trans hx3; obtain rfl : k2 = k3 := by rw [← hk2, hk3])
    | (show wpList _ _ _ (⟨some 28, _, _, _, _, _⟩ :: _) _ _; refine wpList_load_blk rfl 34 (.tmp 3) rfl g rfl ((hb1.ext hx2).ext hx3) _ Tryd.underlying34 rfl 34 sizeTbls hsz.out ?_)
    | (go_at_call 18; (with_reducible refine (H3.out _).mono ?_); intro e w5 h5; obtain ⟨rfl, hx5⟩ := HN.out _ _ _ h5)
    | (go_at_call 9; (with_reducible refine (eqByte_k2 hk2 ((hs2.ext hx3).ext hx5) (hs3.ext hx5)).mono ?_); rintro e w7 ⟨rfl, rfl⟩))
  go_ret
  exact ⟨rfl, hx3'.trans hx5⟩
end Go.Proofs.YtgmddhljgfbibaaDoor.scanEncodes
namespace Go.Proofs.YtgmddhljgfbibaaDoor
set_option linter.unusedVariables false
set_option linter.unusedSimpArgs false
open Go.RowKit Go.ChangeShapes Go.WideShapes Go.ChangeAt
theorem own : ownKnob Tryd.prog.godebug = none := by kernel_rfl
theorem laidOut : laidOutB Tryd.prog = true := by kernel_rfl
section
variable {H : Type} {enc : TypeId × Value → H} {P : Program}
theorem below_trodAll (hl : laidOutB P = true) {W W' : World} (hb : Below W.heap.size W W') : ∀ {ts : List TypeId} {vs : List Value} {ds : List (DataW H)} {ps : List MemPlace},
    (∀ t ∈ ts, P.readableRec t = true ∧ t < P.types.size) → DataW.TrodAll enc P W 0 (fun _ => true) true ts vs ds ps → (∀ x ∈ ps, x.block < W.heap.size) →
    DataW.TrodAll enc P W' 0 (fun b => decide (b < W.heap.size)) true ts vs ds ps
  | [], _, _, _, _, h, _ => by
    obtain ⟨rfl, rfl, rfl⟩ := trodAll_nil h
    exact trodAll_mk0
  | t :: ts, vs, ds, ps, hr, h, hlt => by
    obtain ⟨v, vs1, d, ds1, a, b, rfl, rfl, rfl, h1, h2⟩ := trodAll_cons h
    exact ⟨a, b, Below.trod hl (hr t (by simp)).1 (hr t (by simp)).2 h1 hb (fun x hx => hlt x (by simp [hx])),
      below_trodAll hl hb (fun t ht => hr t (by simp [ht])) h2 (fun x hx => hlt x (by simp [hx])), rfl⟩

/-- a law's row is met: true, and new blocks alone -/
theorem law_post {f : Func} {s : ChangeSpec} {W W' : World} {args : Array Value} {ds gs : List (DataW H)} {before : List MemPlace}
    (hl : laidOutB P = true) (tb : TypeId) (htb : P.underlying tb = some .bool) (hft : f.resultTypes = #[tb]) (hvars : s.vars = [])
    (hr : ∀ t ∈ f.params.toList, P.readableRec t = true ∧ t < P.types.size)
    (hW : DataW.Whole enc P f.params.toList s.vars false W args.toList ds gs before)
    (hfn : s.fn H (ds ++ gs) = { results := [.lit (.bool true)], args := ds })
    (hb : Ext W W') : s.post enc P f false true false false W args (.bool true) W' := by
  have hlt : ∀ p ∈ before, p.block < W.heap.size := fun p hp => by simpa using hW.lt p hp
  have hW' := hW
  obtain ⟨p, q, hA, hV, rfl, hfz, hnd⟩ := hW
  rw [hvars] at hV
  obtain ⟨rfl, rfl⟩ := trodVars_none hV
  simp only [List.append_nil] at hlt hW'
  refine ⟨ds, [], p, [], p, [], hW', ?_, ?_, ?_, ?_, fun h => by cases h⟩
  · rw [hft, hfn]
    exact trodAll_cons_mk (shut_bool htb _) trodAll_mk0
  · rw [hfn]
    exact below_trodAll hl hb hr hA hlt
  · rw [hfn, hvars]
    rfl
  · exact World.keptBut_mono (fun p hp => ⟨hp, Or.inr (Or.inl hp)⟩) (hb.frame (· ∈ p))
end
end Go.Proofs.YtgmddhljgfbibaaDoor
