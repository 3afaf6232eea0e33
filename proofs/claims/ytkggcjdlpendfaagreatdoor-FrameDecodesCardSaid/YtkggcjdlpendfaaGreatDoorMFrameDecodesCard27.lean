/- Contracts for the law FrameDecodesCard, part 27: what the functions that it reaches answer, for all arguments that the theorems name. -/
import Derived.Test.YtkggcjdlpendfaaGreatDoorMFrameDecodesCard21
import Derived.Test.YtkggcjdlpendfaaGreatDoorMFrameDecodesCard19
import Derived.Test.YtkggcjdlpendfaaGreatDoorMFrameDecodesCard26
import Derived.Test.YtkggcjdlpendfaaGreatDoorMFrameDecodesCard24
import Derived.Test.YtkggcjdlpendfaaGreatDoorMFrameDecodesCard11
import Derived.Laws.CopyOwn
import Derived.Test.YtkggcjdlpendfaaGreatDoorMFrameDecodesCard10
import Derived.Test.YtkggcjdlpendfaaGreatDoorMFrameDecodesCard4
import Derived.Test.YtkggcjdlpendfaaGreatDoorMFrameDecodesCard3
import Derived.Test.YtkggcjdlpendfaaGreatDoorMFrameDecodesCard9
import Derived.Test.YtkggcjdlpendfaaGreatDoorMFrameDecodesCard22
import Derived.Test.YtkggcjdlpendfaaGreatDoorMFrameDecodesCard13
import Derived.Test.YtkggcjdlpendfaaGreatDoorMFrameDecodesCard12
import Derived.Test.YtkggcjdlpendfaaGreatDoorMFrameDecodesCard16
namespace Go.Proofs.YtkggcjdlpendfaaGreatDoor
set_option linter.unusedVariables false
set_option linter.unusedSimpArgs false
open Go.RowKit
section
attribute [local irreducible] bv partsL spanE cutK
set_option maxRecDepth 20000 in
set_option maxHeartbeats 2000000 in

theorem parts_anyF (n e : Nat) (hn : n ≤ 1000000) (he : e ≤ 1000000) (w : World) :
 Calls Tryz.prog 46 #[.int .i64 (n : Int), .int .i64 (e : Int)] w fun en w' => ∃ B d, en = .returned (.slice B (cutK n e) d) ∧ SL w' 1 (.slice B (cutK n e) d) (cutK n e) (ints (partsL n e (cutK n e))) ∧ Ext w w' ∧ ∀ ad, B = some ad → w.heap.size ≤ ad.block := by
 by_cases h : e = 0 ∨ n = 0
 ·obtain ⟨hE, hK⟩ := cut_whole h
  have hL : partsL n e 1 = [(n : Int)] := by
   simp only [partsL, List.nil_append, hE]
   simp
  rw [hK, hL]
  clear hE hK hL
  by_cases h0 : e = 0
  ·have H8 : Hid (decide ((e : Int) = 0) = true) := hid_ (by rw [decide_eq_true_eq]; omega)
   clear h h0
   go_enter Tryz.func46, Tryz.ntmps46
   go_wp2_with (first
    | ((with_reducible apply gS 7); refine wl_run rfl (.bool true) (ex_eql rfl rfl rfl H8.out) ?_)
    | ((with_reducible apply gS 13); refine wLit1 rfl 22 3 (.tmp 12) rfl (some 13) rfl Tryz.underlying22 1 sizeI zeroI _ rfl rfl (by omega) (by omega) ?_; intro w1 g hb1 hx1 hg1))
   go_ret
   exact ⟨_, _, rfl, blk_one hb1, hx1, fun ad e => by injection e with e; rw [← e]; exact hg1⟩
  ·have H8 : Hid (decide ((e : Int) = 0) = false) := hid_ (by rw [decide_eq_false_iff_not]; omega)
   have H11 : Hid (decide ((n : Int) = 0) = true) := hid_ (by rw [decide_eq_true_eq]; omega)
   clear h h0
   go_enter Tryz.func46, Tryz.ntmps46
   go_wp2_with (first
    | ((with_reducible apply gS 7); refine wl_run rfl (.bool false) (ex_eql rfl rfl rfl H8.out) ?_)
    | ((with_reducible apply gS 10); refine wl_run_g (by rfl) (.bool true) (ex_eql rfl rfl rfl H11.out) ?_)
    | ((with_reducible apply gS 13); refine wLit1 rfl 22 3 (.tmp 12) rfl (some 13) rfl Tryz.underlying22 1 sizeI zeroI _ rfl rfl (by omega) (by omega) ?_; intro w1 g hb1 hx1 hg1))
   go_ret
   exact ⟨_, _, rfl, blk_one hb1, hx1, fun ad e => by injection e with e; rw [← e]; exact hg1⟩
 ·have HE := hid_ (cut_part h).1
  have HLT := hid_ (fun i => cutK_lt (i := i) h)
  have HKL := hid_ (cutK_le (n := n) (e := e))
  have HE0 : Hid (0 < e) := hid_ (by omega)
  have H8 : Hid (decide ((e : Int) = 0) = false) := hid_ (by rw [decide_eq_false_iff_not]; omega)
  have H11 : Hid (decide ((n : Int) = 0) = false) := hid_ (by rw [decide_eq_false_iff_not]; omega)
  have how : OwnV w w.heap.size 3 1 (.slice none 0 0) 0 (ints (partsL n e 0)) := by
   have h0 : partsL n e 0 = [] := by unfold partsL; rfl
   rw [h0]
   exact OwnV.nil _ _ _ _
  clear h
  obtain ⟨K, hK⟩ : ∃ K, cutK n e = K := ⟨_, rfl⟩
  rw [hK] at HLT HKL ⊢
  clear hK
  go_enter Tryz.func46, Tryz.ntmps46
  go_wp2_with (first
   | ((with_reducible apply gS 7); refine wl_run rfl (.bool false) (ex_eql rfl rfl rfl H8.out) ?_)
   | ((with_reducible apply gS 10); refine wl_run_g (by rfl) (.bool false) (ex_eql rfl rfl rfl H11.out) ?_))
  go_loopw [0, 5] (fun iv x wr => ∃ (k p : Nat), Hid (p = n - k * e ∧ k ≤ K) ∧ p ≤ n ∧ iv = .int .i64 (p : Int) ∧ OwnV wr w.heap.size 3 1 x k (ints (partsL n e k)) ∧ Ext w wr) (fun i _ _ => (intOf i).toNat)
  case atStart => exact ⟨0, n, hid_ (by omega), by omega, rfl, how, Ext.refl _⟩
  case round =>
   clear how
   obtain ⟨k, p, HP, hpn, rfl, ⟨OA, oc, rfl, hown⟩, hx⟩ := hrel
   by_cases hlt : 0 < p
   ·obtain ⟨mn, hmn⟩ : ∃ q, min p e = q := ⟨_, rfl⟩
    have hk1 : k < K := by have h1 := HP.out; exact (HLT.out k).2 (by omega)
    have hk2 : k ≤ 1000001 := by have h1 := HKL.out; omega
    have HNX : Hid (partsL n e (k + 1) = partsL n e k ++ [(mn : Int)]) := hid_ (by
     have h1 := HP.out
     have h2 : n - k * spanE n e = p := by rw [HE.out, h1.1]
     rw [partsL, h2, HE.out, hmn])
    obtain ⟨p2, hp2⟩ : ∃ q, p - mn = q := ⟨_, rfl⟩
    have HP2 : Hid (p2 = n - (k + 1) * e ∧ k + 1 ≤ K) := hid_ (by have h1 := HP.out; rw [Nat.succ_mul]; omega)
    have HPP := hid_ hp2
    have hp3 : p2 < p := by have := HE0.out; omega
    have hml : mn ≤ p := by omega
    clear hp2
    go_wp2_with (first
     | ((with_reducible apply gS 19); refine wl_run rfl (.int .i64 (mn : Int)) (by rw [← hmn]; exact ex_minN (i := p) (d := e) rfl rfl rfl) ?_)
     | ((with_reducible apply gS 20); refine wLit1 rfl 22 3 (.tmp 19) rfl (some 20) rfl Tryz.underlying22 1 sizeI zeroI _ rfl rfl (by omega) (by omega) ?_; intro w1 g hb1 hx1 hg1; have ho1 := own_keep hown hx1)
     | ((with_reducible apply gS 21); at_builtin; refine wApf elt_intR rfl (.tmp 16) (.tmp 20) rfl w.heap.size (.slice OA k oc) k (ints (partsL n e k)) rfl ho1 _ 1 (ints [(mn : Int)]) rfl (blk_one hb1) (ints_one_mem _) (by omega) (by omega) (by have := hx.size; have := hx1.size; omega) ?_; intro A4 c4 w4 ho4 hgr4 hor4; have hx4 := (hx.trans hx1).grown' hgr4 (fun b hb => (ho1.lt b hb).1))
     | ((with_reducible apply gS 25); refine wl_run rfl (.int .i64 (mn : Int)) (by rw [← hmn]; exact ex_minN (i := p) (d := e) rfl rfl rfl) ?_)
     | ((with_reducible apply gS 26); refine wl_run rfl (.int .i64 (p2 : Int)) (by rw [← HPP.out]; exact ex_subN (i := p) (d := mn) rfl rfl rfl (by omega) (by omega)) ?_))
    go_roundw
    case rel => exact ⟨k + 1, p2, HP2, by omega, rfl, ⟨A4, c4, rfl, by rw [HNX.out, ints_app]; exact ho4⟩, hx4⟩
    case measure => simp [intOf]; omega
   ·have hk : k = K := by
     have h1 := HP.out
     have h2 : ¬ k < K := fun h => hlt (by have h3 := (HLT.out k).1 h; omega)
     omega
    subst hk
    go_wp2_with fail
    go_ret
    exact ⟨_, _, rfl, (own_out hown).1, hx, (own_out hown).2⟩
theorem parts_any (n e : Nat) (hn : n ≤ 1000000) (he : e ≤ 1000000) (w : World) :
 Calls Tryz.prog 46 #[.int .i64 (n : Int), .int .i64 (e : Int)] w fun en w' => ∃ B d, en = .returned (.slice B (cutK n e) d) ∧ SL w' 1 (.slice B (cutK n e) d) (cutK n e) (ints (partsL n e (cutK n e))) ∧ Ext w w' :=
 (parts_anyF n e hn he w).mono fun _ _ ⟨B, d, h1, h2, h3, _⟩ => ⟨B, d, h1, h2, h3⟩
end
section
theorem goesRSegDec : Goes Tryz.prog 117 := ⟨_, Tryz.func117, by kernel_rfl, by kernel_rfl⟩
set_option maxRecDepth 20000 in
set_option maxHeartbeats 1000000 in
theorem rscanDec_err (tt : Array Value) (hsz0 : tt.size = 34) (v : Value) (nn ev : Int) (z : Int) (hz : z ≠ 0) (w : World)
 (WC : ∀ W, Ext w W → Calls Tryz.prog 116 #[.agg tt, v, .int .i64 nn, .int .i64 ev] W (PcErr z W)) : Calls Tryz.prog 64 #[.agg tt, v, .int .i64 nn, .int .i64 ev] w (DecIs (z, []) w) := by
 have HWC := hid_ WC
 have hsz := hid_ hsz0
 have hzb : (z != 0) = true := by simpa using hz
 have HZ := hid_ hz
 clear WC hsz0 hz
 go_enter Tryz.func64, Tryz.ntmps64
 go_wp2_with (first
  | ((with_reducible apply gS 4); refine wBox rfl 44 (.tmp 0) rfl tt rfl ?_; intro w1 g hb1 hx1 hg)
  | ((with_reducible apply gS 22); refine wLdB rfl 44 (.tmp 4) rfl g rfl hb1 _ Tryz.underlying44 rfl 34 sizeTbls hsz.out ?_)
  | (go_at_call 116; (with_reducible refine (HWC.out _ hx1).mono ?_); rintro e w2 ⟨rfl, hx2⟩))
 refine bodyPost_ret (results_tmp2 rfl _ _ _) rfl ?_
 refine ⟨hx1.trans hx2, ?_⟩
 rw [if_neg HZ.out]
 rfl
attribute [local irreducible] bytesV bv sdGo partsL spanE cutK plZ decR marksOk
set_option maxRecDepth 20000 in
set_option maxHeartbeats 8000000 in
theorem rscanDec_good (T1 T2 : List Tok) (tt : Array Value) (hsz0 : tt.size = 34) (v : Value) (n e : Nat) (hn : n ≤ 400) (he : e ≤ 100) (P : List (List Nat)) (M : List Nat) (hMl : M.length ≤ 100000000) (hPM : ∀ p ∈ P, p.length ≤ 1048576 ∧ ∀ b ∈ p, b < 256) (w : World)
 (PC : ∀ W, Ext w W → Calls Tryz.prog 116 #[.agg tt, v, .int .i64 (n : Int), .int .i64 (e : Int)] W (SpIs (some (P, M)) W))
 (SD : ∀ W A' m c' bs' nn', Ext w W → SL W 1 (.slice A' m c') m (bytesV bs') → (∀ b ∈ bs', b < 256) → m ≤ 1048576 → Calls Tryz.prog 117 #[.agg tt, .slice A' m c', .int .i64 nn'] W (DecIs (decR true T1 T2 nn' (plZ bs')) W)) :
 Calls Tryz.prog 64 #[.agg tt, v, .int .i64 (n : Int), .int .i64 (e : Int)] w (DecIs (if wholeE n e P M ≠ 0 then (wholeE n e P M, []) else sdGo T1 T2 n e P (cutK n e) 0 []) w) := by
 have hsz := hid_ hsz0
 have HSP := hid_ (fun W => parts_any n e (by omega) (by omega) W)
 have hKl := cutK_le (n := n) (e := e)
 obtain ⟨FR, hFR⟩ : ∃ r, (if wholeE n e P M ≠ 0 then (wholeE n e P M, []) else sdGo T1 T2 n e P (cutK n e) 0 []) = r := ⟨_, rfl⟩
 obtain ⟨R, hRR⟩ : ∃ R, sdGo T1 T2 n e P (cutK n e) 0 [] = R := ⟨_, rfl⟩
 have HR0 : Hid (sdGo T1 T2 n e P (cutK n e - 0) 0 [] = R) := hid_ hRR
 rw [hFR]
 rw [hRR] at hFR
 have HX4 : Hid (P.length ≠ cutK n e → FR = (4, [])) := hid_ (fun h => by
  have h1 : wholeE n e P M = 4 := by unfold wholeE; rw [if_pos h]
  rw [← hFR, h1]; rfl)
 have HX6a : Hid (P.length = cutK n e → marksOk M 0 = false → FR = (6, [])) := hid_ (fun h h2 => by
  have h1 : wholeE n e P M = 6 := by unfold wholeE; rw [if_neg (by simp [h]), if_neg (by simp [h2])]
  rw [← hFR, h1]; rfl)
 have HX0a : Hid (P.length = cutK n e → marksOk M 0 = true → FR = R) := hid_ (fun h h2 => by
  have h1 : wholeE n e P M = 0 := by unfold wholeE; rw [if_neg (by simp [h]), if_pos h2]
  rw [← hFR, h1]; rfl)
 clear hFR
 obtain ⟨K, hKK⟩ : ∃ K, cutK n e = K := ⟨_, rfl⟩
 rw [hKK] at HSP HR0 hKl HX4 HX6a HX0a
 obtain ⟨pn, hpn⟩ : ∃ k, P.length = k := ⟨_, rfl⟩
 have HPN := hid_ hpn
 have HRS : Hid (∀ W e' W', SpIs (some (P, M)) W e' W' → ∃ A c B d VS, e' = .returned (.tuple #[.slice A pn c, .slice B M.length d, .int .i64 0]) ∧ SL W' 1 (.slice A pn c) pn VS ∧ Pieces W' VS P ∧ SL W' 1 (.slice B M.length d) M.length (ints (M.map Int.ofNat)) ∧ Ext W W') := hid_ (fun W e' W' h => by rw [← hpn]; exact h)
 rw [hpn] at HX4 HX6a HX0a
 obtain ⟨ml, hml⟩ : ∃ k, M.length = k := ⟨_, rfl⟩
 have HML := hid_ hml
 rw [hml] at HRS hMl
 have HPC := hid_ PC
 have HPM := hid_ hPM
 have HSD := hid_ SD
 clear hRR hKK PC hPM SD hsz0 hpn hml
 by_cases hpk : pn = K
 ·have H40 : Hid (decide ((K : Int) ≠ (pn : Int)) = false) := hid_ (by simp [hpk])
  have HX6 := hid_ (HX6a.out hpk)
  have HX0 := hid_ (HX0a.out hpk)
  clear HX4 HX6a HX0a
  subst hpk
  go_enter Tryz.func64, Tryz.ntmps64
  go_wp2_with (first
   | ((with_reducible apply gS 4); refine wBox rfl 44 (.tmp 0) rfl tt rfl ?_; intro w1 g hb1 hx1 hg)
   | ((with_reducible apply gS 22); refine wLdB rfl 44 (.tmp 4) rfl g rfl hb1 _ Tryz.underlying44 rfl 34 sizeTbls hsz.out ?_)
   | (go_at_call 116; (with_reducible refine (HPC.out _ hx1).mono ?_); intro e2 w2 h2; obtain ⟨PA, pc, B, d, VS, rfl, k1, k2, k3, hx2⟩ := HRS.out _ _ _ h2; have hx2' := hx1.trans hx2)
   | (go_at_call 46; (with_reducible refine (HSP.out _).mono ?_); rintro e3 w3 ⟨B3, d3, rfl, hsp, hx3⟩; have hx3' := hx2'.trans hx3)
   | ((with_reducible apply gS 40); refine wl_run rfl (.bool false) (ex_neq rfl rfl rfl H40.out) ?_))
  have HG3 := hid_ ((hb1.ext hx2).ext hx3)
  have HSP3 := hid_ hsp
  have HK1 := hid_ (k1.ext hx3)
  have HK2 := hid_ (k2.ext hx3)
  have HK3 := hid_ (k3.ext hx3)
  have HX3 := hid_ hx3'
  have HM0 : Hid (marksOk (M.drop 0) 0 = marksOk M 0) := hid_ (by rw [List.drop_zero])
  clear hb1 hx1 hg k1 k2 k3 hx2 hx2' hx3 hx3' h2 hsp
  go_loopw [43] (fun iv wr => ∃ i : Nat, i ≤ ml ∧ iv = .int .i64 (i : Int) ∧ Hid (marksOk (M.drop i) i = marksOk M 0) ∧ Ext w3 wr) (fun i _ => ml - (intOf i).toNat)
  case atStart => exact ⟨0, by omega, rfl, HM0, Ext.refl _⟩
  case round =>
   clear HM0
   obtain ⟨i, hi, rfl, HMI, hx⟩ := hrel
   by_cases hlt : i < ml
   ·obtain ⟨ad, u, hB, hab, hxk, hcell⟩ := HK3.out.at1 hlt
    subst hB
    have hiM : i < M.length := by rw [HML.out]; exact hlt
    have hu : u = .int .i64 ((M[i] : Nat) : Int) := by
     have h2 : (ints (M.map Int.ofNat))[i]? = some (.int .i64 ((M[i] : Nat) : Int)) := by
      rw [ints, List.getElem?_map, List.getElem?_map, List.getElem?_eq_getElem hiM]
      rfl
     rw [h2] at hxk
     exact (Option.some.inj hxk).symm
    subst hu
    have hcell0 : wr.cell? (ad.add i) = some (.int .i64 ((M[i] : Nat) : Int)) := (hx.cell (p := ad.add i) (by rw [block_of_add]; exact hab)).trans hcell
    have HST := hid_ (marksOk_at hiM)
    obtain ⟨m8, hm8⟩ : ∃ q, i % 8 = q := ⟨_, rfl⟩
    have HM8 := hid_ hm8
    rw [hm8] at HST
    have hm82 : m8 < 8 := by omega
    obtain ⟨q, hq⟩ : ∃ q, 208 + m8 = q := ⟨_, rfl⟩
    have HQ := hid_ hq
    rw [hq] at HST
    clear hxk hcell hq hm8
    generalize M[i] = y at *
    by_cases hy : y = q
    ·have H44 : Hid (decide ((y : Int) ≠ (q : Int)) = false) := hid_ (by simp [hy])
     have HM1 : Hid (marksOk (M.drop (i + 1)) (i + 1) = marksOk M 0) := hid_ (by rw [← HMI.out, HST.out]; simp [hy])
     clear hy
     go_wp2_with (first
      | ((with_reducible apply gS 50); refine wl_run rfl (.int .i64 (m8 : Int)) (by rw [← HM8.out]; exact ex_remN (i := i) (d := 8) rfl rfl rfl (by omega) (by omega)) ?_)
      | ((with_reducible apply gS 51); refine wl_run rfl (.int .i64 (q : Int)) (by rw [← HQ.out]; exact ex_addN (i := 208) (d := m8) rfl rfl rfl (by omega)) ?_)
      | ((with_reducible apply gS 52); refine wl_run rfl (.bool false) (ex_neq rfl rfl rfl H44.out) ?_))
     go_roundw
     case rel => exact ⟨i + 1, by omega, by go_num, HM1, hx⟩
     case measure => simp [intOf]; omega
    ·have H44 : Hid (decide ((y : Int) ≠ (q : Int)) = true) := hid_ (by rw [decide_eq_true_eq]; omega)
     have HXE : Hid (FR = (6, [])) := hid_ (HX6.out (by rw [← HMI.out, HST.out]; simp [hy]))
     clear hy
     go_wp2_with (first
      | ((with_reducible apply gS 50); refine wl_run rfl (.int .i64 (m8 : Int)) (by rw [← HM8.out]; exact ex_remN (i := i) (d := 8) rfl rfl rfl (by omega) (by omega)) ?_)
      | ((with_reducible apply gS 51); refine wl_run rfl (.int .i64 (q : Int)) (by rw [← HQ.out]; exact ex_addN (i := 208) (d := m8) rfl rfl rfl (by omega)) ?_)
      | ((with_reducible apply gS 52); refine wl_run rfl (.bool true) (ex_neq rfl rfl rfl H44.out) ?_))
     refine bodyPost_ret (results_tmp2 rfl _ _ _) rfl ?_
     rw [HXE.out]
     refine ⟨HX3.out.trans hx, ?_⟩
     rw [if_neg (show ¬ (6 : Int) = 0 by decide)]
     rfl
   ·have HXE : Hid (FR = R) := hid_ (HX0.out (by rw [← HMI.out]; exact marksOk_end (by rw [HML.out]; omega)))
    clear HMI HX6 HX0 HK3
    have HXr := hid_ hx
    go_wp2_with fail
    have how : OwnV wr wr.heap.size 33 64 (.slice none 0 0) 0 (ints []) := OwnV.nil _ _ _ _
    obtain ⟨wo, hwo⟩ : ∃ wo : World, wo = wr := ⟨_, rfl⟩
    have HWO := hid_ hwo
    have HY3 : Hid (Ext w3 wo) := hid_ (by rw [hwo]; exact hx)
    have how' : OwnV wr wo.heap.size 33 64 (.slice none 0 0) 0 (ints []) := by rw [hwo]; exact how
    have hxo : Ext wo wr := by rw [hwo]; exact Ext.refl _
    clear hwo how hx
    go_loopw [16, 56] (fun x iv wr => ∃ (i m : Nat) (acc : List Int), i ≤ pn ∧ iv = .int .i64 (i : Int) ∧ m ≤ i * 400 ∧ OwnV wr wo.heap.size 33 64 x m (ints acc) ∧ Hid (sdGo T1 T2 n e P (pn - i) i acc = R) ∧ Ext wo wr) (fun _ i _ => pn - (intOf i).toNat)
    case atStart => exact ⟨0, 0, [], by omega, rfl, by omega, how', HR0, hxo⟩
    case round =>
     clear how' HR0 hxo HWO HXr
     obtain ⟨i, m, acc, hi, rfl, hm, ⟨OA, oc, rfl, hown⟩, HR, hx⟩ := hrel
     by_cases hlt : i < pn
     ·obtain ⟨td, u, hB, htb, htk, htc⟩ := HSP3.out.at1 hlt
      subst hB
      obtain ⟨pd, u', hB, hpb, hpk, hpc⟩ := HK1.out.at1 hlt
      subst hB
      have hiP : i < P.length := by rw [HPN.out]; exact hlt
      obtain ⟨SA, sc, hv, hsl⟩ := HK2.out.2 i hiP
      rw [hv] at hpk
      obtain rfl := Option.some.inj hpk
      have hpm := HPM.out P[i] (List.getElem_mem hiP)
      have hgd : P.getD i [] = P[i] := by rw [List.getD_eq_getElem?_getD, List.getElem?_eq_getElem hiP]; rfl
      obtain ⟨ln, hln⟩ : ∃ q, lenAt n e i = q := ⟨_, rfl⟩
      have hu : u = .int .i64 (ln : Int) := by
       have h := partsL_at n e pn i hlt
       have h2 : (ints (partsL n e pn))[i]? = some (.int .i64 ((lenAt n e i : Nat) : Int)) := by
        rw [ints, List.getElem?_map, List.getElem?_eq_getElem (by rw [partsL_len]; exact hlt), h]
        rfl
       rw [h2, hln] at htk
       exact (Option.some.inj htk).symm
      subst hu
      have hx3r := HY3.out.trans hx
      have hcell0 : wr.cell? (td.add i) = some (.int .i64 (ln : Int)) := (hx3r.cell (p := td.add i) (by rw [block_of_add]; exact htb)).trans htc
      have HSR := hid_ (fun W (h : Ext w3 W) => HSD.out W SA P[i].length sc P[i] (ln : Int) (HX3.out.trans h) (hsl.ext h) hpm.2 hpm.1)
      have HPC := hid_ (fun W (h : Ext w3 W) => (h.cell (p := pd.add i) (by rw [block_of_add]; exact hpb)).trans hpc)
      have HERa : Hid (∀ r, decR true T1 T2 (ln : Int) (plZ P[i]) = r → r.1 ≠ 0 → R = (r.1, [])) := hid_ (fun r h h0 => by rw [← HR.out, show pn - i = (pn - (i + 1)) + 1 by omega]; exact sdGo_err (by rw [hln, hgd]; exact h) h0)
      have HOKa : Hid (∀ r, decR true T1 T2 (ln : Int) (plZ P[i]) = r → r.1 = 0 → sdGo T1 T2 n e P (pn - (i + 1)) (i + 1) (acc ++ r.2) = R) := hid_ (fun r h h0 => by rw [← HR.out, show pn - i = (pn - (i + 1)) + 1 by omega]; exact (sdGo_ok (by rw [hln, hgd]; exact h) h0).symm)
      have hrl : (decR true T1 T2 (ln : Int) (plZ P[i])).1 = 0 → (decR true T1 T2 (ln : Int) (plZ P[i])).2.length = ln * 64 := decR_len
      obtain ⟨r, hr⟩ : ∃ r, decR true T1 T2 (ln : Int) (plZ P[i]) = r := ⟨_, rfl⟩
      rw [hr] at HSR hrl
      have HER := hid_ (HERa.out r hr)
      have HOK := hid_ (HOKa.out r hr)
      obtain ⟨pl, hpl⟩ : ∃ q, P[i].length = q := ⟨_, rfl⟩
      rw [hpl] at HSR HPC
      obtain ⟨r1, r2⟩ := r
      dsimp only at hrl HER HOK
      have HRA : Hid (∀ W e W', DecIs (r1, r2) W e W' → ∃ B k d, e = .returned (.tuple #[.slice B k d, .int .i64 r1]) ∧ (r1 = 0 → k = ln ∧ SL W' 64 (.slice B k d) k (ints r2)) ∧ Ext W W') := hid_ (fun W e W' h => by
       obtain ⟨hx, h⟩ := h
       by_cases h0 : r1 = 0
       ·subst h0
        rw [if_pos rfl] at h
        obtain ⟨B, k, d, rfl, h1, h2, -⟩ := h
        have h3 := hrl rfl
        exact ⟨B, k, d, rfl, fun _ => ⟨by dsimp only at h1; omega, h2⟩, hx⟩
       ·rw [if_neg h0] at h
        exact ⟨none, 0, 0, h, fun h => absurd h h0, hx⟩)
      have hln4 : ln ≤ 400 := by rw [← hln]; unfold lenAt; omega
      clear htb htk htc hr hln HR hsl hv hpc hpb hpm hgd hrl hpl hx3r
      go_wp2_with fail
      have hx8d : Ext wo wr.drew := hx.drew
      have hx3d := HY3.out.trans hx8d
      have ho8d := own_keep hown (Ext.refl wr).drew
      have HGX := hid_ (fun W (h : Ext wr.drew W) => ((HG3.out.ext hx3d).ext h))
      have hI : Ext wr.drew wr.drew := Ext.refl _
      clear hcell0 hx
      by_cases h0 : r1 = 0
      ·subst h0
       refine wp_region_oi (Ext wr.drew) (by kernel_rfl) ?_
       refine oi_fix (k := 0) (by kernel_rfl) rfl (by rfl) (.agg tt) (fun W hW => ex_loadB rfl rfl (HGX.out W hW) Tryz.underlying44 rfl sizeTbls hsz.out) hI ?_
       simp only [Act.put, sA, sB, sC]
       refine oi_run (k := 1) (by kernel_rfl) rfl (by rfl) (.slice (some pd) pn pc) (ex_move rfl rfl) hI ?_
       simp only [Act.put, sA, sB, sC]
       refine oi_run (k := 2) (by kernel_rfl) rfl (by rfl) (.int .i64 (i : Int)) (ex_move rfl rfl) hI ?_
       simp only [Act.put, sA, sB, sC]
       refine oi_run (k := 3) (by kernel_rfl) rfl (by rfl) (.pointer (some (pd.add (i * 1)))) (ex_ixSl Tryz.underlying71 sizeBs rfl rfl rfl hlt) hI ?_
       simp only [Act.put, sA, sB, sC]
       refine oi_fix (k := 4) (by kernel_rfl) rfl (by rfl) (.slice SA pl sc) (fun W hW => ex_loadS rfl rfl (by rw [Nat.mul_one]; exact HPC.out W (hx3d.trans hW))) hI ?_
       simp only [Act.put, sA, sB, sC]
       refine oi_run (k := 5) (by kernel_rfl) rfl (by rfl) (.int .i64 (ln : Int)) (ex_move rfl rfl) hI ?_
       simp only [Act.put, sA, sB, sC]
       refine oi_loud (k := 6) (by kernel_rfl) rfl ?_
       refine wl_enter (by rfl) (run_callv _ _ _ rfl rfl goesRSegDec #[.agg tt, .slice SA pl sc, .int .i64 (ln : Int)] (by simp [Act.eval])) ?_
       refine (HSR.out _ hx3d).mono ?_
       intro e9 w9 h9
       obtain ⟨B9, k9, d9, rfl, hr9, hx9⟩ := HRA.out _ _ _ h9
       refine ⟨_, rfl, oi_end ⟨hx9, ?_⟩⟩
       simp only [Act.put, sA, sB, sC]
       refine oi_run (k := 7) (by kernel_rfl) rfl (by rfl) (.tuple #[.slice B9 k9 d9, .int .i64 0]) (ex_move rfl rfl) hx9 ?_
       simp only [Act.put, sA, sB, sC]
       refine oi_run (k := 8) (by kernel_rfl) rfl (by rfl) (.slice B9 k9 d9) (ex_extract rfl rfl rfl) hx9 ?_
       simp only [Act.put, sA, sB, sC]
       refine oi_run (k := 9) (by kernel_rfl) rfl (by rfl) (.int .i64 0) (ex_extract rfl rfl rfl) hx9 ?_
       simp only [Act.put, sA, sB, sC]
       refine oi_run (k := 10) (by kernel_rfl) rfl (by rfl) (.slice B9 k9 d9) (ex_assign rfl rfl) hx9 ?_
       simp only [Act.put, sA, sB, sC]
       refine oi_run (k := 11) (by kernel_rfl) rfl (by rfl) (.int .i64 0) (ex_assign rfl rfl) hx9 ?_
       simp only [Act.put, sA, sB, sC]
       refine oi_done (by kernel_rfl) ?_
       obtain ⟨hk9, hs9⟩ := hr9 (by first | rfl | trivial)
       subst hk9
       have ho9 := own_keep ho8d hx9
       have hx19 := hx8d.trans hx9
       go_wp2_with (first
        | ((with_reducible apply gS 76); at_builtin; refine wApf elt_blk rfl (.tmp 74) (.tmp 75) rfl wo.heap.size (.slice OA m oc) m (ints acc) rfl ho9 _ k9 (ints r2) rfl hs9 (ints_one_mem _) (by omega) (by omega) hx19.size ?_; intro A10 c10 w10 ho10 hgr10 hor10; have hx10 := ext_grow hx19 hgr10 (fun b hb => (ho9.lt b hb).1)))
       go_roundw
       case rel => exact ⟨i + 1, m + k9, acc ++ r2, by omega, by go_num, by omega, ⟨A10, c10, rfl, by rw [ints_app]; exact ho10⟩, HOK.out (by first | rfl | trivial), hx10⟩
       case measure => simp [intOf]; omega
      ·have h0b : (r1 != 0) = true := by simpa using h0
       have H0N := hid_ h0
       clear h0
       refine wp_region_oi (Ext wr.drew) (by kernel_rfl) ?_
       refine oi_fix (k := 0) (by kernel_rfl) rfl (by rfl) (.agg tt) (fun W hW => ex_loadB rfl rfl (HGX.out W hW) Tryz.underlying44 rfl sizeTbls hsz.out) hI ?_
       simp only [Act.put, sA, sB, sC]
       refine oi_run (k := 1) (by kernel_rfl) rfl (by rfl) (.slice (some pd) pn pc) (ex_move rfl rfl) hI ?_
       simp only [Act.put, sA, sB, sC]
       refine oi_run (k := 2) (by kernel_rfl) rfl (by rfl) (.int .i64 (i : Int)) (ex_move rfl rfl) hI ?_
       simp only [Act.put, sA, sB, sC]
       refine oi_run (k := 3) (by kernel_rfl) rfl (by rfl) (.pointer (some (pd.add (i * 1)))) (ex_ixSl Tryz.underlying71 sizeBs rfl rfl rfl hlt) hI ?_
       simp only [Act.put, sA, sB, sC]
       refine oi_fix (k := 4) (by kernel_rfl) rfl (by rfl) (.slice SA pl sc) (fun W hW => ex_loadS rfl rfl (by rw [Nat.mul_one]; exact HPC.out W (hx3d.trans hW))) hI ?_
       simp only [Act.put, sA, sB, sC]
       refine oi_run (k := 5) (by kernel_rfl) rfl (by rfl) (.int .i64 (ln : Int)) (ex_move rfl rfl) hI ?_
       simp only [Act.put, sA, sB, sC]
       refine oi_loud (k := 6) (by kernel_rfl) rfl ?_
       refine wl_enter (by rfl) (run_callv _ _ _ rfl rfl goesRSegDec #[.agg tt, .slice SA pl sc, .int .i64 (ln : Int)] (by simp [Act.eval])) ?_
       refine (HSR.out _ hx3d).mono ?_
       intro e9 w9 h9
       obtain ⟨B9, k9, d9, rfl, hr9, hx9⟩ := HRA.out _ _ _ h9
       refine ⟨_, rfl, oi_end ⟨hx9, ?_⟩⟩
       simp only [Act.put, sA, sB, sC]
       refine oi_run (k := 7) (by kernel_rfl) rfl (by rfl) (.tuple #[.slice B9 k9 d9, .int .i64 r1]) (ex_move rfl rfl) hx9 ?_
       simp only [Act.put, sA, sB, sC]
       refine oi_run (k := 8) (by kernel_rfl) rfl (by rfl) (.slice B9 k9 d9) (ex_extract rfl rfl rfl) hx9 ?_
       simp only [Act.put, sA, sB, sC]
       refine oi_run (k := 9) (by kernel_rfl) rfl (by rfl) (.int .i64 r1) (ex_extract rfl rfl rfl) hx9 ?_
       simp only [Act.put, sA, sB, sC]
       refine oi_run (k := 10) (by kernel_rfl) rfl (by rfl) (.slice B9 k9 d9) (ex_assign rfl rfl) hx9 ?_
       simp only [Act.put, sA, sB, sC]
       refine oi_run (k := 11) (by kernel_rfl) rfl (by rfl) (.int .i64 r1) (ex_assign rfl rfl) hx9 ?_
       simp only [Act.put, sA, sB, sC]
       refine oi_done (by kernel_rfl) ?_
       go_wp2_with fail
       refine bodyPost_ret (results_tmp2 rfl _ _ _) rfl ?_
       rw [HXE.out, HER.out H0N.out]
       refine ⟨HX3.out.trans (hx3d.trans hx9), ?_⟩
       rw [if_neg H0N.out]
       rfl
     ·have hiK : pn - i = 0 := by omega
      have HR2 : Hid (R = (0, acc)) := hid_ (by rw [← HR.out, hiK, sdGo])
      have hnn := own_noneB hown
      have hal : acc.length = m * 64 := by have := hown.1; simpa [ints] using this
      clear HR
      go_wp2_with fail
      refine bodyPost_ret (results_tmp2 rfl _ _ _) rfl ?_
      rw [HXE.out, HR2.out]
      refine ⟨HX3.out.trans (HY3.out.trans hx), ?_⟩
      rw [if_pos rfl]
      exact ⟨OA, m, oc, rfl, hal, (own_out hown).1, hnn⟩
 ·have H40 : Hid (decide ((K : Int) ≠ (pn : Int)) = true) := hid_ (by rw [decide_eq_true_eq]; omega)
  have HXE := hid_ (HX4.out hpk)
  clear hpk HX4 HX6a HX0a
  go_enter Tryz.func64, Tryz.ntmps64
  go_wp2_with (first
   | ((with_reducible apply gS 4); refine wBox rfl 44 (.tmp 0) rfl tt rfl ?_; intro w1 g hb1 hx1 hg)
   | ((with_reducible apply gS 22); refine wLdB rfl 44 (.tmp 4) rfl g rfl hb1 _ Tryz.underlying44 rfl 34 sizeTbls hsz.out ?_)
   | (go_at_call 116; (with_reducible refine (HPC.out _ hx1).mono ?_); intro e2 w2 h2; obtain ⟨PA, pc, B, d, VS, rfl, k1, k2, k3, hx2⟩ := HRS.out _ _ _ h2; have hx2' := hx1.trans hx2)
   | (go_at_call 46; (with_reducible refine (HSP.out _).mono ?_); rintro e3 w3 ⟨B3, d3, rfl, hsp, hx3⟩; have hx3' := hx2'.trans hx3)
   | ((with_reducible apply gS 40); refine wl_run rfl (.bool true) (ex_neq rfl rfl rfl H40.out) ?_))
  refine bodyPost_ret (results_tmp2 rfl _ _ _) rfl ?_
  rw [HXE.out]
  refine ⟨hx3', ?_⟩
  rw [if_neg (show ¬ (4 : Int) = 0 by decide)]
  rfl
end
def mendAt (T1 T2 : List Tok) (n e : Nat) (P : List (List Nat)) (i : Nat) : Int × List Int := if i < P.length then decR true T1 T2 ((lenAt n e i : Nat) : Int) (plZ (P.getD i [])) else (5, [])
def mendPart (T1 T2 : List Tok) (n e : Nat) (P : List (List Nat)) (i : Nat) : List Int := if (mendAt T1 T2 n e P i).1 = 0 then (mendAt T1 T2 n e P i).2 else List.replicate (lenAt n e i * 64) 0
def mendL (T1 T2 : List Tok) (n e : Nat) (P : List (List Nat)) : Nat → List Int × List Int
 | 0 => ([], [])
 | k + 1 => ((mendL T1 T2 n e P k).1 ++ mendPart T1 T2 n e P k, if (mendAt T1 T2 n e P k).1 = 0 then (mendL T1 T2 n e P k).2 else (mendL T1 T2 n e P k).2 ++ [(k : Int)])
def atK (n e i : Nat) : Nat := min (i * spanE n e) n
theorem atK_0 (n e : Nat) : atK n e 0 = 0 := by unfold atK; simp
theorem atK_succ {n e i : Nat} (h : i < cutK n e) : atK n e (i + 1) = atK n e i + lenAt n e i := by
 have h1 := cut_at h
 unfold atK lenAt
 rw [Nat.succ_mul]
 omega
theorem cutK_end (n e : Nat) : n ≤ cutK n e * spanE n e := by
 by_cases h : e = 0 ∨ n = 0
 ·rw [(cut_whole h).1, (cut_whole h).2]; omega
 ·have h1 := cutK_lt (i := cutK n e) h
  have h2 : ¬ cutK n e * e < n := fun h3 => by have := h1.2 h3; omega
  rw [(cut_part h).1]
  omega
theorem atK_end (n e : Nat) : atK n e (cutK n e) = n := by have := cutK_end n e; unfold atK; omega
theorem sdGo_len {T1 T2 : List Tok} {n e : Nat} {P : List (List Nat)} : ∀ (m i : Nat) (acc : List Int), i + m ≤ cutK n e → acc.length = atK n e i * 64 → (sdGo T1 T2 n e P m i acc).1 = 0 → (sdGo T1 T2 n e P m i acc).2.length = atK n e (i + m) * 64
 | 0, i, acc, _, ha, _ => by rw [sdGo]; exact ha
 | m + 1, i, acc, hi, ha, h => by
   rw [sdGo] at h ⊢
   by_cases h0 : (decR true T1 T2 ((lenAt n e i : Nat) : Int) (plZ (P.getD i []))).1 ≠ 0
   ·rw [if_pos h0] at h; exact absurd h h0
   ·rw [if_neg h0] at h ⊢
    have hl := decR_len (r := true) (T1 := T1) (T2 := T2) (N := lenAt n e i) (z := plZ (P.getD i [])) (by omega)
    have := sdGo_len m (i + 1) _ (by omega) (by rw [List.length_append, ha, hl, atK_succ (by omega), Nat.add_mul]) h
    rwa [show i + (m + 1) = i + 1 + m by omega]
theorem zipC_rng : ∀ (C : List (Nat × Nat)) (xs : List Int), (∀ x ∈ xs, 0 ≤ x ∧ x ≤ 255) → ∀ t ∈ zipC C xs, 0 ≤ t.1 ∧ t.1 ≤ 255
 | [], _, _, t, ht => by simp [zipC] at ht
 | _ :: _, [], _, t, ht => by simp [zipC] at ht
 | c :: C, x :: xs, h, t, ht => by
   simp only [zipC, List.zipWith_cons_cons, List.mem_cons] at ht
   rcases ht with rfl | ht
   ·exact h x (by simp)
   ·exact zipC_rng C xs (fun y hy => h y (by simp [hy])) t ht
theorem tbl_rng {cs xs : List Int} (h : checkZ cs xs = 0) : ∀ t ∈ zipC (codesW cs 16) xs, 0 ≤ t.1 ∧ t.1 ≤ 255 :=
 zipC_rng _ _ (fun x hx => by
  obtain ⟨-, -, -, -, h5, -⟩ := checkZ_zero h
  exact inB_iff.1 (List.all_eq_true.1 h5 x hx))
theorem seg_goodD (cs1 xs1 cs2 xs2 : List Int) (s1 s2 : Value) (l1 : cs1.length = 16) (l2 : cs2.length = 16) (z1 : checkZ cs1 xs1 = 0) (z2 : checkZ cs2 xs2 = 0) (m0 : Int) (w : World) (hm : w.cell? ⟨0, 0, none⟩ = some (.int .i64 m0))
 (hs1 : SL w 1 s1 xs1.length (ints xs1)) (hs2 : SL w 1 s2 xs2.length (ints xs2)) :
 (∀ W A n c bs nn, Ext w W → SL W 1 (.slice A n c) n (bytesV bs) → (A = none → c = 0) → (∀ b ∈ bs, b < 256) → n ≤ 1048576 → Calls Tryz.prog 110 #[.agg (tblL cs1 s1 ++ tblL cs2 s2).toArray, .slice A n c, .int .i64 nn] W (DecIs (decR true (zipC (codesW cs1 16) xs1) (zipC (codesW cs2 16) xs2) nn (plZ bs)) W)) ∧
 (∀ W A n c bs nn, Ext w W → SL W 1 (.slice A n c) n (bytesV bs) → (∀ b ∈ bs, b < 256) → n ≤ 1048576 → Calls Tryz.prog 117 #[.agg (tblL cs1 s1 ++ tblL cs2 s2).toArray, .slice A n c, .int .i64 nn] W (DecIs (decR true (zipC (codesW cs1 16) xs1) (zipC (codesW cs2 16) xs2) nn (plZ bs)) W)) := by
 have h1 := tblL_len cs1 s1 l1
 have h2 := tblL_len cs2 s2 l2
 have o1 := tblL_oneS cs1 s1 hs1
 have o2 := tblL_oneS cs2 s2 hs2
 have C1 : ∀ W, Ext w W → Calls Tryz.prog 102 #[.agg (tblL cs1 s1).toArray] W fun e W' => e = .returned (.int .i64 (checkZ cs1 xs1)) ∧ Ext W W' := fun W h => check_any cs1 xs1 s1 W l1 (hs1.ext h)
 have C2 : ∀ W, Ext w W → Calls Tryz.prog 102 #[.agg (tblL cs2 s2).toArray] W fun e W' => e = .returned (.int .i64 (checkZ cs2 xs2)) ∧ Ext W W' := fun W h => check_any cs2 xs2 s2 W l2 (hs2.ext h)
 rw [z1] at C1
 rw [z2] at C2
 refine ⟨fun W A n c bs nn h hs hA hlt hn => ?_, fun W A n c bs nn h hs hlt hn => ?_⟩
 ·exact segDec_good _ _ (tblL cs1 s1) (tblL cs2 s2) A n c bs nn m0 W hs hA hlt hn (cell_keep hm h) h1 h2
   (fun D b p hp => by cases b; exact getGo_symZ cs2 xs2 l2 z2 D p hp; exact getGo_symZ cs1 xs1 l1 z1 D p hp) (tbl_rng z1) (tbl_rng z2) o1 o2 (fun W' h' => C1 W' (h.trans h')) (fun W' h' => C2 W' (h.trans h'))
   (fun W' h' => newCoder_any cs1 xs1 s1 W' l1 ((hs1.ext h).ext h') z1) (fun W' h' => newCoder_any cs2 xs2 s2 W' l2 ((hs2.ext h).ext h') z2)
 ·rw [decR_same]
  exact rsegDec_good cs1 xs1 cs2 xs2 s1 s2 A n c bs nn W hs hlt hn l1 l2 (hs1.ext h) (hs2.ext h) z1 z2 (tbl_rng z1) (tbl_rng z2)
theorem pieces_both (cs1 xs1 cs2 xs2 : List Int) (s1 s2 : Value) (l1 : cs1.length = 16) (l2 : cs2.length = 16) (A : Option Addr) (n c : Nat) (bs : List Nat) (nn ev : Int) (hlt : ∀ b ∈ bs, b < 256) (hn : n ≤ 1048576) (w : World)
 (hs1 : SL w 1 s1 xs1.length (ints xs1)) (hs2 : SL w 1 s2 xs2.length (ints xs2)) (hs : SL w 1 (.slice A n c) n (bytesV bs)) :
 (∃ z : Int, z ≠ 0 ∧ (∀ W, Ext w W → Calls Tryz.prog 109 #[.agg (tblL cs1 s1 ++ tblL cs2 s2).toArray, .slice A n c, .int .i64 nn, .int .i64 ev] W (PcErr z W)) ∧ (∀ W, Ext w W → Calls Tryz.prog 116 #[.agg (tblL cs1 s1 ++ tblL cs2 s2).toArray, .slice A n c, .int .i64 nn, .int .i64 ev] W (PcErr z W))) ∨
 (∃ (N E : Nat) (P : List (List Nat)) (M : List Nat), nn = (N : Int) ∧ ev = (E : Int) ∧ N ≤ 400 ∧ E ≤ 100 ∧ checkZ cs1 xs1 = 0 ∧ checkZ cs2 xs2 = 0 ∧ P.length ≤ 100000000 ∧ M.length ≤ 100000000 ∧ (∀ p ∈ P, p.length ≤ 1048576 ∧ ∀ b ∈ p, b < 256) ∧ spGo bs [] [] [] = some (P, M) ∧
   (∀ W, Ext w W → Calls Tryz.prog 109 #[.agg (tblL cs1 s1 ++ tblL cs2 s2).toArray, .slice A n c, .int .i64 nn, .int .i64 ev] W (SpIsN (some (P, M)) W)) ∧ (∀ W, Ext w W → Calls Tryz.prog 116 #[.agg (tblL cs1 s1 ++ tblL cs2 s2).toArray, .slice A n c, .int .i64 nn, .int .i64 ev] W (SpIs (some (P, M)) W))) := by
 have hbl : bs.length = n := by
  obtain ⟨_, _, e, _, _, hl, _⟩ := hs
  simpa [bytesV] using hl
 have hs' : SL w 1 (.slice A n c) bs.length (bytesV bs) := by rw [hbl]; exact hs
 have hb : bs.length ≤ 1048576 := by omega
 by_cases hr : ev < 0 ∨ 100 < ev ∨ nn < 0 ∨ 400 < nn
 ·exact .inl ⟨1, by decide, fun W _ => pieces_range _ _ nn ev W hr, fun W _ => rpieces_range _ _ nn ev W hr⟩
 have he : 0 ≤ ev ∧ ev ≤ 100 := by omega
 have hnn : 0 ≤ nn ∧ nn ≤ 400 := by omega
 have h1 := tblL_len cs1 s1 l1
 have h2 := tblL_len cs2 s2 l2
 have hsz := tblsWhole h1 h2
 have o1 := tblL_oneS cs1 s1 hs1
 have o2 := tblL_oneS cs2 s2 hs2
 have C1 : ∀ W, Ext w W → Calls Tryz.prog 102 #[.agg (tblL cs1 s1).toArray] W fun e W' => e = .returned (.int .i64 (checkZ cs1 xs1)) ∧ Ext W W' := fun W h => check_any cs1 xs1 s1 W l1 (hs1.ext h)
 have C2 : ∀ W, Ext w W → Calls Tryz.prog 102 #[.agg (tblL cs2 s2).toArray] W fun e W' => e = .returned (.int .i64 (checkZ cs2 xs2)) ∧ Ext W W' := fun W h => check_any cs2 xs2 s2 W l2 (hs2.ext h)
 have D1 : ∀ W, Ext w W → Calls Tryz.prog 73 #[.agg (tblL cs1 s1).toArray] W fun e W' => e = .returned (.int .i64 (checkZ cs1 xs1)) ∧ Ext W W' := fun W h => rcheck_any cs1 xs1 s1 W l1 (hs1.ext h)
 have D2 : ∀ W, Ext w W → Calls Tryz.prog 73 #[.agg (tblL cs2 s2).toArray] W fun e W' => e = .returned (.int .i64 (checkZ cs2 xs2)) ∧ Ext W W' := fun W h => rcheck_any cs2 xs2 s2 W l2 (hs2.ext h)
 have CT : ∀ W, Ext w W → Calls Tryz.prog 76 #[.agg (tblL cs1 s1 ++ tblL cs2 s2).toArray] W fun e W' => e = .returned (.int .i64 (if checkZ cs1 xs1 = 0 then checkZ cs2 xs2 else checkZ cs1 xs1)) ∧ Ext W W' := fun W h => tablesCheck_any (tblL cs1 s1) (tblL cs2 s2) _ _ W h1 h2 (fun W' h' => D1 W' (h.trans h')) (fun W' h' => D2 W' (h.trans h'))
 by_cases hE : (if checkZ cs1 xs1 = 0 then checkZ cs2 xs2 else checkZ cs1 xs1) = 0
 ·have z1 : checkZ cs1 xs1 = 0 := by
   by_cases h : checkZ cs1 xs1 = 0
   ·exact h
   ·rw [if_neg h] at hE; exact hE
  have z2 : checkZ cs2 xs2 = 0 := by rw [if_pos z1] at hE; exact hE
  rw [hE] at CT
  rw [z1] at C1
  rw [z2] at C2
  have K1 : ∀ W, Ext w W → Calls Tryz.prog 109 #[.agg (tblL cs1 s1 ++ tblL cs2 s2).toArray, .slice A n c, .int .i64 nn, .int .i64 ev] W (SpIsN (spGo bs [] [] []) W) :=
   fun W h => pieces_good _ _ _ bs nn ev W he hnn (hs'.ext h) hlt hb h1 h2 o1 o2 (fun W' h' => C1 W' (h.trans h')) (fun W' h' => C2 W' (h.trans h'))
  have K2 : ∀ W, Ext w W → Calls Tryz.prog 116 #[.agg (tblL cs1 s1 ++ tblL cs2 s2).toArray, .slice A n c, .int .i64 nn, .int .i64 ev] W (SpIs (spGo bs [] [] []) W) :=
   fun W h => rpieces_good _ hsz _ bs nn ev W he hnn (hs'.ext h) hlt hb (fun W' h' => CT W' (h.trans h'))
  cases hsp : spGo bs [] [] [] with
  | none =>
    rw [hsp] at K1 K2
    exact .inl ⟨4, by decide, K1, K2⟩
  | some z =>
    obtain ⟨P, M⟩ := z
    rw [hsp] at K1 K2
    have hl := sp_len bs [] [] [] _ hsp
    simp only [List.length_nil] at hl
    obtain ⟨N, hN⟩ : ∃ N : Nat, nn = (N : Int) := ⟨nn.toNat, by omega⟩
    obtain ⟨E, hE2⟩ : ∃ E : Nat, ev = (E : Int) := ⟨ev.toNat, by omega⟩
    exact .inr ⟨N, E, P, M, hN, hE2, by omega, by omega, z1, z2, by omega, by omega, sp_mem bs [] [] [] _ hsp (fun _ h => by cases h) (by simpa using hb) (fun _ h => by cases h) hlt, rfl, K1, K2⟩
 ·exact .inl ⟨_, hE, fun W h => pieces_bad _ _ _ _ _ nn ev W he hnn h1 h2 o1 o2 (fun W' h' => C1 W' (h.trans h')) (fun W' h' => C2 W' (h.trans h')) hE, fun W h => rpieces_bad _ hsz _ hE _ nn ev W he hnn (fun W' h' => CT W' (h.trans h'))⟩
theorem scanBothD (cs1 xs1 cs2 xs2 : List Int) (s1 s2 : Value) (l1 : cs1.length = 16) (l2 : cs2.length = 16) (A : Option Addr) (n c : Nat) (bs : List Nat) (nn ev : Int) (hlt : ∀ b ∈ bs, b < 256) (hn : n ≤ 1048576) (m0 : Int) (w : World) (hm : w.cell? ⟨0, 0, none⟩ = some (.int .i64 m0))
 (hs1 : SL w 1 s1 xs1.length (ints xs1)) (hs2 : SL w 1 s2 xs2.length (ints xs2)) (hs : SL w 1 (.slice A n c) n (bytesV bs)) :
 ∃ r : Int × List Int, (r.1 = 0 → r.2.length = nn.toNat * 64 ∧ 0 ≤ nn) ∧ (∀ W, Ext w W → Calls Tryz.prog 63 #[.agg (tblL cs1 s1 ++ tblL cs2 s2).toArray, .slice A n c, .int .i64 nn, .int .i64 ev] W (DecIs r W)) ∧ (∀ W, Ext w W → Calls Tryz.prog 64 #[.agg (tblL cs1 s1 ++ tblL cs2 s2).toArray, .slice A n c, .int .i64 nn, .int .i64 ev] W (DecIs r W)) := by
 have hsz := tblsWhole (tblL_len cs1 s1 l1) (tblL_len cs2 s2 l2)
 rcases pieces_both cs1 xs1 cs2 xs2 s1 s2 l1 l2 A n c bs nn ev hlt hn w hs1 hs2 hs with ⟨z, hz, K1, K2⟩ | ⟨N, E, P, M, rfl, rfl, hN, hE, z1, z2, hP, hM, hPM, hsp, K1, K2⟩
 ·exact ⟨(z, []), fun h => absurd h hz, fun W h => scanDec_err _ hsz _ _ _ z [] hz W (fun W' h' => whole_err _ hsz _ _ _ z hz W' (fun W2 h2 => K1 W2 ((h.trans h').trans h2))), fun W h => rscanDec_err _ hsz _ _ _ z hz W (fun W' h' => K2 W' (h.trans h'))⟩
 ·obtain ⟨S1, S2⟩ := seg_goodD cs1 xs1 cs2 xs2 s1 s2 l1 l2 z1 z2 m0 w hm hs1 hs2
  refine ⟨if wholeE N E P M ≠ 0 then (wholeE N E P M, []) else sdGo (zipC (codesW cs1 16) xs1) (zipC (codesW cs2 16) xs2) N E P (cutK N E) 0 [], fun h0 => ?_, fun W h => ?_, fun W h => ?_⟩
  ·by_cases hw : wholeE N E P M = 0
   ·rw [if_neg (by simp [hw])] at h0 ⊢
    refine ⟨?_, by omega⟩
    rw [Int.toNat_natCast]
    have := sdGo_len (cutK N E) 0 [] (by simp) (by rw [atK_0]; rfl) h0
    rwa [Nat.zero_add, atK_end] at this
   ·rw [if_pos hw] at h0
    exact absurd h0 hw
  ·have WH : ∀ W', Ext W W' → Calls Tryz.prog 122 #[.agg (tblL cs1 s1 ++ tblL cs2 s2).toArray, .slice A n c, .int .i64 (N : Int), .int .i64 (E : Int)] W' (WhIs (wholeE N E P M) P W') := fun W' h' => whole_good _ hsz _ N E (by omega) (by omega) P M hM hP W' (fun W2 h2 => K1 W2 ((h.trans h').trans h2))
   by_cases hw : wholeE N E P M = 0
   ·rw [if_neg (by simp [hw])]
    rw [hw] at WH
    have hK : P.length = cutK N E := by
     unfold wholeE at hw
     by_cases h : P.length ≠ cutK N E
     ·rw [if_pos h] at hw; cases hw
     ·omega
    exact scanDec_good _ _ _ hsz _ N E hN hE P hK hPM W WH (fun W' A' m c' bs' nn' h' q1 q2 q3 q4 => S1 W' A' m c' bs' nn' (h.trans h') q1 q2 q3 q4)
   ·rw [if_pos hw]
    exact scanDec_err _ hsz _ _ _ _ P hw W WH
  ·exact rscanDec_good _ _ _ hsz _ N E hN hE P M hM hPM W (fun W' h' => K2 W' (h.trans h')) (fun W' A' m c' bs' nn' h' q1 q3 q4 => S2 W' A' m c' bs' nn' (h.trans h') q1 q3 q4)
def PdIs (E wd hi : Int) (L : List (List Int)) (w : World) (e : Ending) (w' : World) : Prop := ∃ B k d, e = .returned (.tuple #[.agg (picV wd hi (.slice B k d)), .int .i64 E]) ∧ RowsS w' B k d L ∧ Ext w w'
theorem rows_far {S : Nat → Prop} {w w' : World} {B n c : Nat} {A : Option Addr} {L : List (List Int)} (h : RowsF w B A n c L) (hu : Upd S w w') (hS : ∀ x, S x → x < B) : RowsS w' A n c L := (h.upd hu hS).rows
theorem goesMany : Goes Tryz.prog 60 := ⟨_, Tryz.func60, rfl, rfl⟩
theorem goesSizes : Goes Tryz.prog 56 := ⟨_, Tryz.func56, rfl, rfl⟩
theorem goesScanDec : Goes Tryz.prog 63 := ⟨_, Tryz.func63, rfl, rfl⟩
theorem goesRScanDec : Goes Tryz.prog 64 := ⟨_, Tryz.func64, rfl, rfl⟩
set_option maxHeartbeats 1000000 in
theorem sizes_any (F : FC) (hF : F.shaped) (s1 s2 sd : Value) (a b p nb m : Nat) (hw : F.wd = a) (hh : F.hi = b) (hp : F.pt = p) (a1 : 1 ≤ a) (a2 : a ≤ 64) (b1 : 1 ≤ b) (b2 : b ≤ 64) (hp13 : p = 1 ∨ p = 3) (hnb : cutN a b = nb) (hm : nb * p = m) (w : World) :
 Calls Tryz.prog 56 #[.agg (F.cells s1 s2 sd)] w fun e w' => e = .returned (.int .i64 (m : Int)) ∧ Ext w w' := by
 have HF := hid_ (fun W g (h : Blk W g 47 (F.cells s1 s2 sd)) => fileB h hF.1 (tblL_len _ _ hF.2.1) (tblL_len _ _ hF.2.2))
 rw [hw, hh, hp] at HF
 have hs0 := sides_in a1 a2 b1 b2
 have HM : Hid (∀ W, Calls Tryz.prog 65 #[.int .i64 (a : Int), .int .i64 (b : Int)] W fun e w' => e = .returned (.tuple #[.int .i64 (nb : Int), .int .i64 0]) ∧ Ext W w') := hid_ (fun W => by
  have := Many_any a b W
  have e : manyZ a b = (nb : Int) := by unfold manyZ; rw [if_pos hs0, ← hnb]; unfold cutN; simp
  rw [e, hs0] at this
  exact this)
 have hn64 := cutN_le a2 b2
 rw [hnb] at hn64
 have HMN := hid_ hm
 have hm192 : m ≤ 192 := by
  rw [← hm]
  exact Nat.le_trans (Nat.mul_le_mul hn64 (show p ≤ 3 by omega)) (by omega)
 generalize F.cells s1 s2 sd = fv at *
 clear hw hh hp hs0 hm hnb hF
 go_enter Tryz.func56, Tryz.ntmps56
 go_wp2_with (first
  | ((with_reducible apply gS 1); refine wBox rfl 47 (.tmp 0) rfl fv rfl ?_; intro w1 gf hb1 hx1 hgf; have hf1 := HF.out _ _ hb1)
  | ((with_reducible apply gS 7); refine wl_read rfl (.int .i64 (a : Int)) (ex_loadI rfl rfl hf1.c0) ?_)
  | ((with_reducible apply gS 9); refine wl_read rfl (.int .i64 (b : Int)) (ex_loadI rfl rfl hf1.c1) ?_)
  | (go_at_call 65; (with_reducible refine (HM.out _).mono ?_); rintro e w3 ⟨rfl, hx3⟩; have hf3 := HF.out _ _ (hb1.ext hx3))
  | ((with_reducible apply gS 15); refine wl_read rfl (.int .i64 (p : Int)) (ex_loadI rfl rfl hf3.c2) ?_)
  | ((with_reducible apply gS 16); refine wl_run rfl (.int .i64 (m : Int)) (by rw [← HMN.out]; exact ex_mulN (i := nb) (d := p) rfl rfl rfl (by rw [HMN.out]; omega)) ?_))
 go_ret
 exact ⟨rfl, hx1.trans hx3⟩
theorem fcheck_zero {wd hi pt : Int} {qs : List Int} {z1 z2 ev : Int} {n : Nat} (h : fcheckZ wd hi pt qs z1 z2 ev n = 0) :
 ∃ a b p : Nat, wd = a ∧ hi = b ∧ pt = p ∧ 1 ≤ a ∧ a ≤ 64 ∧ 1 ≤ b ∧ b ≤ 64 ∧ (p = 1 ∨ p = 3) ∧ 0 ≤ ev ∧ ev ≤ 100 ∧ allIn qs 1 255 = true ∧ z1 = 0 ∧ z2 = 0 ∧ n ≤ 90000 := by
 unfold fcheckZ at h
 split at h
 ·rename_i hc
  simp only [Bool.and_eq_true] at hc
  obtain ⟨k1, k2, k3, hp⟩ := argsOK_iff hc.1
  rw [inB_iff] at k1 k2 k3
  by_cases h1 : z1 = 0
  ·rw [if_pos h1] at h
   by_cases h2 : z2 = 0
   ·rw [if_pos h2] at h
    by_cases h3 : 90000 < n
    ·rw [if_pos h3] at h; cases h
    ·exact ⟨wd.toNat, hi.toNat, pt.toNat, by omega, by omega, by omega, by omega, by omega, by omega, by omega, by omega, k3.1, k3.2, hc.2, h1, h2, by omega⟩
   ·rw [if_neg h2] at h; exact absurd h h2
  ·rw [if_neg h1] at h; exact absurd h h1
 ·cases h
end Go.Proofs.YtkggcjdlpendfaaGreatDoor
