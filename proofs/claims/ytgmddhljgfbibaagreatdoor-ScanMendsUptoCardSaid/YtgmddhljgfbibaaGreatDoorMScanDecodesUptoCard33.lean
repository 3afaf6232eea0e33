/- Contracts for the law ScanDecodesUptoCard, part 33: what the functions that it reaches answer, for all arguments that the theorems name. -/
import Derived.Test.YtgmddhljgfbibaaGreatDoorMScanDecodesUptoCard32
import Derived.Test.YtgmddhljgfbibaaGreatDoorMScanDecodesUptoCard23
/- ScanDecode of the reference. Printed by wip/gen/mkrscandec.py. -/
namespace Go.Proofs.YtgmddhljgfbibaaGreatDoor
set_option linter.unusedVariables false
set_option linter.unusedSimpArgs false
open Go.RowKit
theorem goesRSegDec : Goes Tryz.prog 17 := ⟨_, Tryz.func17, by kernel_rfl, by kernel_rfl⟩
set_option maxRecDepth 20000 in
set_option maxHeartbeats 1000000 in
theorem rscanDec_err (tt : Array Value) (hsz0 : tt.size = 34) (v : Value) (nn ev : Int) (z : Int) (hz : z ≠ 0) (w : World)
    (WC : ∀ W, Ext w W → Calls Tryz.prog 15 #[.agg tt, v, .int .i64 nn, .int .i64 ev] W (PcErr z W)) : Calls Tryz.prog 6 #[.agg tt, v, .int .i64 nn, .int .i64 ev] w (DecIs (z, []) w) := by
  have HWC := hid_ WC
  have hsz := hid_ hsz0
  have hzb : (z != 0) = true := by simpa using hz
  have HZ := hid_ hz
  clear WC hsz0 hz
  go_enter Tryz.func6, Tryz.ntmps6
  go_wp2_with (first
    | (show wpList _ _ _ (⟨some 4, _, _, _, _, _⟩ :: _) _ _; refine wpList_box_abs rfl 27 (.tmp 0) rfl tt rfl ?_; intro w1 g hb1 hx1 hg)
    | (show wpList _ _ _ (⟨some 22, _, _, _, _, _⟩ :: _) _ _; refine wpList_load_blk rfl 27 (.tmp 4) rfl g rfl hb1 _ Tryz.underlying27 rfl 34 sizeTbls hsz.out ?_)
    | (go_at_call 15; (with_reducible refine (HWC.out _ hx1).mono ?_); rintro e w2 ⟨rfl, hx2⟩))
  refine bodyPost_ret (results_tmp2 rfl _ _ _) rfl ?_
  refine ⟨hx1.trans hx2, ?_⟩
  rw [if_neg HZ.out]
  rfl
attribute [local irreducible] bytesV bv sdGo partsL spanE cutK plZ decR marksOk
set_option maxRecDepth 20000 in
set_option maxHeartbeats 8000000 in
theorem rscanDec_good (T1 T2 : List Tok) (tt : Array Value) (hsz0 : tt.size = 34) (v : Value) (n e : Nat) (hn : n ≤ 400) (he : e ≤ 100) (P : List (List Nat)) (M : List Nat) (hMl : M.length ≤ 100000000) (hPM : ∀ p ∈ P, p.length ≤ 1048576 ∧ ∀ b ∈ p, b < 256) (w : World)
    (PC : ∀ W, Ext w W → Calls Tryz.prog 15 #[.agg tt, v, .int .i64 (n : Int), .int .i64 (e : Int)] W (SpIs (some (P, M)) W))
    (SD : ∀ W A' m c' bs' nn', Ext w W → SL W 1 (.slice A' m c') m (bytesV bs') → (∀ b ∈ bs', b < 256) → m ≤ 1048576 → Calls Tryz.prog 17 #[.agg tt, .slice A' m c', .int .i64 nn'] W (DecIs (decR true T1 T2 nn' (plZ bs')) W)) :
    Calls Tryz.prog 6 #[.agg tt, v, .int .i64 (n : Int), .int .i64 (e : Int)] w (DecIs (if wholeE n e P M ≠ 0 then (wholeE n e P M, []) else sdGo T1 T2 n e P (cutK n e) 0 []) w) := by
  have hsz := hid_ hsz0
  have HSP := hid_ (fun W => parts_any n e (by omega) (by omega) W)
  have hKl := cutK_le (n := n) (e := e)
  obtain ⟨FR, hFR⟩ : ∃ r, (if wholeE n e P M ≠ 0 then (wholeE n e P M, []) else sdGo T1 T2 n e P (cutK n e) 0 []) = r := ⟨_, rfl⟩
  obtain ⟨R, hRR⟩ : ∃ R, sdGo T1 T2 n e P (cutK n e) 0 [] = R := ⟨_, rfl⟩
  have HR0 : Hid (sdGo T1 T2 n e P (cutK n e - 0) 0 [] = R) := hid_ hRR
  rw [hFR]
  rw [hRR] at hFR
  have HX4 : Hid (P.length ≠ cutK n e → FR = (4, [])) := hid_ (fun h => by
    have h1 : wholeE n e P M = 4 := by unfold wholeE; rw [if_pos h]
    rw [← hFR, h1]; rfl)
  have HX6a : Hid (P.length = cutK n e → marksOk M 0 = false → FR = (6, [])) := hid_ (fun h h2 => by
    have h1 : wholeE n e P M = 6 := by unfold wholeE; rw [if_neg (by simp [h]), if_neg (by simp [h2])]
    rw [← hFR, h1]; rfl)
  have HX0a : Hid (P.length = cutK n e → marksOk M 0 = true → FR = R) := hid_ (fun h h2 => by
    have h1 : wholeE n e P M = 0 := by unfold wholeE; rw [if_neg (by simp [h]), if_pos h2]
    rw [← hFR, h1]; rfl)
  clear hFR
  obtain ⟨K, hKK⟩ : ∃ K, cutK n e = K := ⟨_, rfl⟩
  rw [hKK] at HSP HR0 hKl HX4 HX6a HX0a
  obtain ⟨pn, hpn⟩ : ∃ k, P.length = k := ⟨_, rfl⟩
  have HPN := hid_ hpn
  have HRS : Hid (∀ W e' W', SpIs (some (P, M)) W e' W' → ∃ A c B d VS, e' = .returned (.tuple #[.slice A pn c, .slice B M.length d, .int .i64 0]) ∧ SL W' 1 (.slice A pn c) pn VS ∧ Pieces W' VS P ∧ SL W' 1 (.slice B M.length d) M.length (ints (M.map Int.ofNat)) ∧ Ext W W') := hid_ (fun W e' W' h => by rw [← hpn]; exact h)
  rw [hpn] at HX4 HX6a HX0a
  obtain ⟨ml, hml⟩ : ∃ k, M.length = k := ⟨_, rfl⟩
  have HML := hid_ hml
  rw [hml] at HRS hMl
  have HPC := hid_ PC
  have HPM := hid_ hPM
  have HSD := hid_ SD
  clear hRR hKK PC hPM SD hsz0 hpn hml
  by_cases hpk : pn = K
  · have H40 : Hid (decide ((K : Int) ≠ (pn : Int)) = false) := hid_ (by simp [hpk])
    have HX6 := hid_ (HX6a.out hpk)
    have HX0 := hid_ (HX0a.out hpk)
    clear HX4 HX6a HX0a
    subst hpk
    go_enter Tryz.func6, Tryz.ntmps6
    go_wp2_with (first
      | (show wpList _ _ _ (⟨some 4, _, _, _, _, _⟩ :: _) _ _; refine wpList_box_abs rfl 27 (.tmp 0) rfl tt rfl ?_; intro w1 g hb1 hx1 hg)
      | (show wpList _ _ _ (⟨some 22, _, _, _, _, _⟩ :: _) _ _; refine wpList_load_blk rfl 27 (.tmp 4) rfl g rfl hb1 _ Tryz.underlying27 rfl 34 sizeTbls hsz.out ?_)
      | (go_at_call 15; (with_reducible refine (HPC.out _ hx1).mono ?_); intro e2 w2 h2; obtain ⟨PA, pc, B, d, VS, rfl, k1, k2, k3, hx2⟩ := HRS.out _ _ _ h2; have hx2' := hx1.trans hx2)
      | (go_at_call 16; (with_reducible refine (HSP.out _).mono ?_); rintro e3 w3 ⟨B3, d3, rfl, hsp, hx3⟩; have hx3' := hx2'.trans hx3)
      | (show wpList _ _ _ (⟨some 40, _, _, _, _, _⟩ :: _) _ _; refine wl_run rfl (.bool false) (ex_neq rfl rfl rfl H40.out) ?_))
    have HG3 := hid_ ((hb1.ext hx2).ext hx3)
    have HSP3 := hid_ hsp
    have HK1 := hid_ (k1.ext hx3)
    have HK2 := hid_ (k2.ext hx3)
    have HK3 := hid_ (k3.ext hx3)
    have HX3 := hid_ hx3'
    have HM0 : Hid (marksOk (M.drop 0) 0 = marksOk M 0) := hid_ (by rw [List.drop_zero])
    clear hb1 hx1 hg k1 k2 k3 hx2 hx2' hx3 hx3' h2 hsp
    go_loopw [43] (fun iv wr => ∃ i : Nat, i ≤ ml ∧ iv = .int .i64 (i : Int) ∧ Hid (marksOk (M.drop i) i = marksOk M 0) ∧ Ext w3 wr) (fun i _ => ml - (intOf i).toNat)
    case atStart => exact ⟨0, by omega, rfl, HM0, Ext.refl _⟩
    case round =>
      clear HM0
      obtain ⟨i, hi, rfl, HMI, hx⟩ := hrel
      by_cases hlt : i < ml
      · obtain ⟨ad, u, hB, hab, hxk, hcell⟩ := HK3.out.at1 hlt
        subst hB
        have hiM : i < M.length := by rw [HML.out]; exact hlt
        have hu : u = .int .i64 ((M[i] : Nat) : Int) := by
          have h2 : (ints (M.map Int.ofNat))[i]? = some (.int .i64 ((M[i] : Nat) : Int)) := by
            rw [ints, List.getElem?_map, List.getElem?_map, List.getElem?_eq_getElem hiM]
            rfl
          rw [h2] at hxk
          exact (Option.some.inj hxk).symm
        subst hu
        have hcell0 : wr.cell? (ad.add i) = some (.int .i64 ((M[i] : Nat) : Int)) := (hx.cell (p := ad.add i) (by rw [block_of_add]; exact hab)).trans hcell
        have HST := hid_ (marksOk_at hiM)
        obtain ⟨m8, hm8⟩ : ∃ q, i % 8 = q := ⟨_, rfl⟩
        have HM8 := hid_ hm8
        rw [hm8] at HST
        have hm82 : m8 < 8 := by omega
        obtain ⟨q, hq⟩ : ∃ q, 208 + m8 = q := ⟨_, rfl⟩
        have HQ := hid_ hq
        rw [hq] at HST
        clear hxk hcell hq hm8
        generalize M[i] = y at *
        by_cases hy : y = q
        · have H44 : Hid (decide ((y : Int) ≠ (q : Int)) = false) := hid_ (by simp [hy])
          have HM1 : Hid (marksOk (M.drop (i + 1)) (i + 1) = marksOk M 0) := hid_ (by rw [← HMI.out, HST.out]; simp [hy])
          clear hy
          go_wp2_with (first
            | (show wpList _ _ _ (⟨some 50, _, _, _, _, _⟩ :: _) _ _; refine wl_run rfl (.int .i64 (m8 : Int)) (by rw [← HM8.out]; exact ex_remN (i := i) (d := 8) rfl rfl rfl (by omega) (by omega)) ?_)
            | (show wpList _ _ _ (⟨some 51, _, _, _, _, _⟩ :: _) _ _; refine wl_run rfl (.int .i64 (q : Int)) (by rw [← HQ.out]; exact ex_addN (i := 208) (d := m8) rfl rfl rfl (by omega)) ?_)
            | (show wpList _ _ _ (⟨some 52, _, _, _, _, _⟩ :: _) _ _; refine wl_run rfl (.bool false) (ex_neq rfl rfl rfl H44.out) ?_))
          go_roundw
          case rel => exact ⟨i + 1, by omega, by go_num, HM1, hx⟩
          case measure => simp [intOf]; omega
        · have H44 : Hid (decide ((y : Int) ≠ (q : Int)) = true) := hid_ (by rw [decide_eq_true_eq]; omega)
          have HXE : Hid (FR = (6, [])) := hid_ (HX6.out (by rw [← HMI.out, HST.out]; simp [hy]))
          clear hy
          go_wp2_with (first
            | (show wpList _ _ _ (⟨some 50, _, _, _, _, _⟩ :: _) _ _; refine wl_run rfl (.int .i64 (m8 : Int)) (by rw [← HM8.out]; exact ex_remN (i := i) (d := 8) rfl rfl rfl (by omega) (by omega)) ?_)
            | (show wpList _ _ _ (⟨some 51, _, _, _, _, _⟩ :: _) _ _; refine wl_run rfl (.int .i64 (q : Int)) (by rw [← HQ.out]; exact ex_addN (i := 208) (d := m8) rfl rfl rfl (by omega)) ?_)
            | (show wpList _ _ _ (⟨some 52, _, _, _, _, _⟩ :: _) _ _; refine wl_run rfl (.bool true) (ex_neq rfl rfl rfl H44.out) ?_))
          refine bodyPost_ret (results_tmp2 rfl _ _ _) rfl ?_
          rw [HXE.out]
          refine ⟨HX3.out.trans hx, ?_⟩
          rw [if_neg (show ¬ (6 : Int) = 0 by decide)]
          rfl
      · have HXE : Hid (FR = R) := hid_ (HX0.out (by rw [← HMI.out]; exact marksOk_end (by rw [HML.out]; omega)))
        clear HMI HX6 HX0 HK3
        have HXr := hid_ hx
        go_wp2_with fail
        have how : OwnV wr wr.heap.size 37 64 (.slice none 0 0) 0 (ints []) := OwnV.nil _ _ _ _
        obtain ⟨wo, hwo⟩ : ∃ wo : World, wo = wr := ⟨_, rfl⟩
        have HWO := hid_ hwo
        have HY3 : Hid (Ext w3 wo) := hid_ (by rw [hwo]; exact hx)
        have how' : OwnV wr wo.heap.size 37 64 (.slice none 0 0) 0 (ints []) := by rw [hwo]; exact how
        have hxo : Ext wo wr := by rw [hwo]; exact Ext.refl _
        clear hwo how hx
        go_loopw [16, 56] (fun x iv wr => ∃ (i m : Nat) (acc : List Int), i ≤ pn ∧ iv = .int .i64 (i : Int) ∧ m ≤ i * 400 ∧ OwnV wr wo.heap.size 37 64 x m (ints acc) ∧ Hid (sdGo T1 T2 n e P (pn - i) i acc = R) ∧ Ext wo wr) (fun _ i _ => pn - (intOf i).toNat)
        case atStart => exact ⟨0, 0, [], by omega, rfl, by omega, how', HR0, hxo⟩
        case round =>
          clear how' HR0 hxo HWO HXr
          obtain ⟨i, m, acc, hi, rfl, hm, ⟨OA, oc, rfl, hown⟩, HR, hx⟩ := hrel
          by_cases hlt : i < pn
          · obtain ⟨td, u, hB, htb, htk, htc⟩ := HSP3.out.at1 hlt
            subst hB
            obtain ⟨pd, u', hB, hpb, hpk, hpc⟩ := HK1.out.at1 hlt
            subst hB
            have hiP : i < P.length := by rw [HPN.out]; exact hlt
            obtain ⟨SA, sc, hv, hsl⟩ := HK2.out.2 i hiP
            rw [hv] at hpk
            obtain rfl := Option.some.inj hpk
            have hpm := HPM.out P[i] (List.getElem_mem hiP)
            have hgd : P.getD i [] = P[i] := by rw [List.getD_eq_getElem?_getD, List.getElem?_eq_getElem hiP]; rfl
            obtain ⟨ln, hln⟩ : ∃ q, lenAt n e i = q := ⟨_, rfl⟩
            have hu : u = .int .i64 (ln : Int) := by
              have h := partsL_at n e pn i hlt
              have h2 : (ints (partsL n e pn))[i]? = some (.int .i64 ((lenAt n e i : Nat) : Int)) := by
                rw [ints, List.getElem?_map, List.getElem?_eq_getElem (by rw [partsL_len]; exact hlt), h]
                rfl
              rw [h2, hln] at htk
              exact (Option.some.inj htk).symm
            subst hu
            have hx3r := HY3.out.trans hx
            have hcell0 : wr.cell? (td.add i) = some (.int .i64 (ln : Int)) := (hx3r.cell (p := td.add i) (by rw [block_of_add]; exact htb)).trans htc
            have HSR := hid_ (fun W (h : Ext w3 W) => HSD.out W SA P[i].length sc P[i] (ln : Int) (HX3.out.trans h) (hsl.ext h) hpm.2 hpm.1)
            have HPC := hid_ (fun W (h : Ext w3 W) => (h.cell (p := pd.add i) (by rw [block_of_add]; exact hpb)).trans hpc)
            have HERa : Hid (∀ r, decR true T1 T2 (ln : Int) (plZ P[i]) = r → r.1 ≠ 0 → R = (r.1, [])) := hid_ (fun r h h0 => by rw [← HR.out, show pn - i = (pn - (i + 1)) + 1 by omega]; exact sdGo_err (by rw [hln, hgd]; exact h) h0)
            have HOKa : Hid (∀ r, decR true T1 T2 (ln : Int) (plZ P[i]) = r → r.1 = 0 → sdGo T1 T2 n e P (pn - (i + 1)) (i + 1) (acc ++ r.2) = R) := hid_ (fun r h h0 => by rw [← HR.out, show pn - i = (pn - (i + 1)) + 1 by omega]; exact (sdGo_ok (by rw [hln, hgd]; exact h) h0).symm)
            have hrl : (decR true T1 T2 (ln : Int) (plZ P[i])).1 = 0 → (decR true T1 T2 (ln : Int) (plZ P[i])).2.length = ln * 64 := decR_len
            obtain ⟨r, hr⟩ : ∃ r, decR true T1 T2 (ln : Int) (plZ P[i]) = r := ⟨_, rfl⟩
            rw [hr] at HSR hrl
            have HER := hid_ (HERa.out r hr)
            have HOK := hid_ (HOKa.out r hr)
            obtain ⟨pl, hpl⟩ : ∃ q, P[i].length = q := ⟨_, rfl⟩
            rw [hpl] at HSR HPC
            obtain ⟨r1, r2⟩ := r
            dsimp only at hrl HER HOK
            have HRA : Hid (∀ W e W', DecIs (r1, r2) W e W' → ∃ B k d, e = .returned (.tuple #[.slice B k d, .int .i64 r1]) ∧ (r1 = 0 → k = ln ∧ SL W' 64 (.slice B k d) k (ints r2)) ∧ Ext W W') := hid_ (fun W e W' h => by
              obtain ⟨hx, h⟩ := h
              by_cases h0 : r1 = 0
              · subst h0
                rw [if_pos rfl] at h
                obtain ⟨B, k, d, rfl, h1, h2, -⟩ := h
                have h3 := hrl rfl
                exact ⟨B, k, d, rfl, fun _ => ⟨by dsimp only at h1; omega, h2⟩, hx⟩
              · rw [if_neg h0] at h
                exact ⟨none, 0, 0, h, fun h => absurd h h0, hx⟩)
            have hln4 : ln ≤ 400 := by rw [← hln]; unfold lenAt; omega
            clear htb htk htc hr hln HR hsl hv hpc hpb hpm hgd hrl hpl hx3r
            go_wp2_with fail
            have hx8d : Ext wo wr.drew := hx.drew
            have hx3d := HY3.out.trans hx8d
            have ho8d := own_keep hown (Ext.refl wr).drew
            have HGX := hid_ (fun W (h : Ext wr.drew W) => ((HG3.out.ext hx3d).ext h))
            have hI : Ext wr.drew wr.drew := Ext.refl _
            clear hcell0 hx
            by_cases h0 : r1 = 0
            · subst h0
              refine wp_region_oi (Ext wr.drew) (by kernel_rfl) ?_
              refine oi_fix (k := 0) (by kernel_rfl) rfl (by rfl) (.agg tt) (fun W hW => ex_loadB rfl rfl (HGX.out W hW) Tryz.underlying27 rfl sizeTbls hsz.out) hI ?_
              simp only [Act.put, List.setIfInBounds_toArray, List.set_cons_succ, List.set_cons_zero]
              refine oi_run (k := 1) (by kernel_rfl) rfl (by rfl) (.slice (some pd) pn pc) (ex_move rfl rfl) hI ?_
              simp only [Act.put, List.setIfInBounds_toArray, List.set_cons_succ, List.set_cons_zero]
              refine oi_run (k := 2) (by kernel_rfl) rfl (by rfl) (.int .i64 (i : Int)) (ex_move rfl rfl) hI ?_
              simp only [Act.put, List.setIfInBounds_toArray, List.set_cons_succ, List.set_cons_zero]
              refine oi_run (k := 3) (by kernel_rfl) rfl (by rfl) (.pointer (some (pd.add (i * 1)))) (ex_ixSl Tryz.underlying42 sizeBs rfl rfl rfl hlt) hI ?_
              simp only [Act.put, List.setIfInBounds_toArray, List.set_cons_succ, List.set_cons_zero]
              refine oi_fix (k := 4) (by kernel_rfl) rfl (by rfl) (.slice SA pl sc) (fun W hW => ex_loadS rfl rfl (by rw [Nat.mul_one]; exact HPC.out W (hx3d.trans hW))) hI ?_
              simp only [Act.put, List.setIfInBounds_toArray, List.set_cons_succ, List.set_cons_zero]
              refine oi_run (k := 5) (by kernel_rfl) rfl (by rfl) (.int .i64 (ln : Int)) (ex_move rfl rfl) hI ?_
              simp only [Act.put, List.setIfInBounds_toArray, List.set_cons_succ, List.set_cons_zero]
              refine oi_loud (k := 6) (by kernel_rfl) rfl ?_
              refine wl_enter (by rfl) (run_callv _ _ _ rfl rfl goesRSegDec #[.agg tt, .slice SA pl sc, .int .i64 (ln : Int)] (by simp [Act.eval])) ?_
              refine (HSR.out _ hx3d).mono ?_
              intro e9 w9 h9
              obtain ⟨B9, k9, d9, rfl, hr9, hx9⟩ := HRA.out _ _ _ h9
              refine ⟨_, rfl, oi_end ⟨hx9, ?_⟩⟩
              simp only [Act.put, List.setIfInBounds_toArray, List.set_cons_succ, List.set_cons_zero]
              refine oi_run (k := 7) (by kernel_rfl) rfl (by rfl) (.tuple #[.slice B9 k9 d9, .int .i64 0]) (ex_move rfl rfl) hx9 ?_
              simp only [Act.put, List.setIfInBounds_toArray, List.set_cons_succ, List.set_cons_zero]
              refine oi_run (k := 8) (by kernel_rfl) rfl (by rfl) (.slice B9 k9 d9) (ex_extract rfl rfl rfl) hx9 ?_
              simp only [Act.put, List.setIfInBounds_toArray, List.set_cons_succ, List.set_cons_zero]
              refine oi_run (k := 9) (by kernel_rfl) rfl (by rfl) (.int .i64 0) (ex_extract rfl rfl rfl) hx9 ?_
              simp only [Act.put, List.setIfInBounds_toArray, List.set_cons_succ, List.set_cons_zero]
              refine oi_run (k := 10) (by kernel_rfl) rfl (by rfl) (.slice B9 k9 d9) (ex_assign rfl rfl) hx9 ?_
              simp only [Act.put, List.setIfInBounds_toArray, List.set_cons_succ, List.set_cons_zero]
              refine oi_run (k := 11) (by kernel_rfl) rfl (by rfl) (.int .i64 0) (ex_assign rfl rfl) hx9 ?_
              simp only [Act.put, List.setIfInBounds_toArray, List.set_cons_succ, List.set_cons_zero]
              refine oi_done (by kernel_rfl) ?_
              obtain ⟨hk9, hs9⟩ := hr9 (by first | rfl | trivial)
              subst hk9
              have ho9 := own_keep ho8d hx9
              have hx19 := hx8d.trans hx9
              go_wp2_with (first
                | (show wpList _ _ _ (⟨some 76, _, _, _, _, _⟩ :: _) _ _; at_builtin; refine wpList_append_slf elt_blk rfl (.tmp 74) (.tmp 75) rfl wo.heap.size (.slice OA m oc) m (ints acc) rfl ho9 _ k9 (ints r2) rfl hs9 (ints_one_mem _) (by omega) (by omega) hx19.size ?_; intro A10 c10 w10 ho10 hgr10 hor10; have hx10 := ext_grow hx19 hgr10 (fun b hb => (ho9.lt b hb).1)))
              go_roundw
              case rel => exact ⟨i + 1, m + k9, acc ++ r2, by omega, by go_num, by omega, ⟨A10, c10, rfl, by rw [ints_app]; exact ho10⟩, HOK.out (by first | rfl | trivial), hx10⟩
              case measure => simp [intOf]; omega
            · have h0b : (r1 != 0) = true := by simpa using h0
              have H0N := hid_ h0
              clear h0
              refine wp_region_oi (Ext wr.drew) (by kernel_rfl) ?_
              refine oi_fix (k := 0) (by kernel_rfl) rfl (by rfl) (.agg tt) (fun W hW => ex_loadB rfl rfl (HGX.out W hW) Tryz.underlying27 rfl sizeTbls hsz.out) hI ?_
              simp only [Act.put, List.setIfInBounds_toArray, List.set_cons_succ, List.set_cons_zero]
              refine oi_run (k := 1) (by kernel_rfl) rfl (by rfl) (.slice (some pd) pn pc) (ex_move rfl rfl) hI ?_
              simp only [Act.put, List.setIfInBounds_toArray, List.set_cons_succ, List.set_cons_zero]
              refine oi_run (k := 2) (by kernel_rfl) rfl (by rfl) (.int .i64 (i : Int)) (ex_move rfl rfl) hI ?_
              simp only [Act.put, List.setIfInBounds_toArray, List.set_cons_succ, List.set_cons_zero]
              refine oi_run (k := 3) (by kernel_rfl) rfl (by rfl) (.pointer (some (pd.add (i * 1)))) (ex_ixSl Tryz.underlying42 sizeBs rfl rfl rfl hlt) hI ?_
              simp only [Act.put, List.setIfInBounds_toArray, List.set_cons_succ, List.set_cons_zero]
              refine oi_fix (k := 4) (by kernel_rfl) rfl (by rfl) (.slice SA pl sc) (fun W hW => ex_loadS rfl rfl (by rw [Nat.mul_one]; exact HPC.out W (hx3d.trans hW))) hI ?_
              simp only [Act.put, List.setIfInBounds_toArray, List.set_cons_succ, List.set_cons_zero]
              refine oi_run (k := 5) (by kernel_rfl) rfl (by rfl) (.int .i64 (ln : Int)) (ex_move rfl rfl) hI ?_
              simp only [Act.put, List.setIfInBounds_toArray, List.set_cons_succ, List.set_cons_zero]
              refine oi_loud (k := 6) (by kernel_rfl) rfl ?_
              refine wl_enter (by rfl) (run_callv _ _ _ rfl rfl goesRSegDec #[.agg tt, .slice SA pl sc, .int .i64 (ln : Int)] (by simp [Act.eval])) ?_
              refine (HSR.out _ hx3d).mono ?_
              intro e9 w9 h9
              obtain ⟨B9, k9, d9, rfl, hr9, hx9⟩ := HRA.out _ _ _ h9
              refine ⟨_, rfl, oi_end ⟨hx9, ?_⟩⟩
              simp only [Act.put, List.setIfInBounds_toArray, List.set_cons_succ, List.set_cons_zero]
              refine oi_run (k := 7) (by kernel_rfl) rfl (by rfl) (.tuple #[.slice B9 k9 d9, .int .i64 r1]) (ex_move rfl rfl) hx9 ?_
              simp only [Act.put, List.setIfInBounds_toArray, List.set_cons_succ, List.set_cons_zero]
              refine oi_run (k := 8) (by kernel_rfl) rfl (by rfl) (.slice B9 k9 d9) (ex_extract rfl rfl rfl) hx9 ?_
              simp only [Act.put, List.setIfInBounds_toArray, List.set_cons_succ, List.set_cons_zero]
              refine oi_run (k := 9) (by kernel_rfl) rfl (by rfl) (.int .i64 r1) (ex_extract rfl rfl rfl) hx9 ?_
              simp only [Act.put, List.setIfInBounds_toArray, List.set_cons_succ, List.set_cons_zero]
              refine oi_run (k := 10) (by kernel_rfl) rfl (by rfl) (.slice B9 k9 d9) (ex_assign rfl rfl) hx9 ?_
              simp only [Act.put, List.setIfInBounds_toArray, List.set_cons_succ, List.set_cons_zero]
              refine oi_run (k := 11) (by kernel_rfl) rfl (by rfl) (.int .i64 r1) (ex_assign rfl rfl) hx9 ?_
              simp only [Act.put, List.setIfInBounds_toArray, List.set_cons_succ, List.set_cons_zero]
              refine oi_done (by kernel_rfl) ?_
              go_wp2_with fail
              refine bodyPost_ret (results_tmp2 rfl _ _ _) rfl ?_
              rw [HXE.out, HER.out H0N.out]
              refine ⟨HX3.out.trans (hx3d.trans hx9), ?_⟩
              rw [if_neg H0N.out]
              rfl
          · have hiK : pn - i = 0 := by omega
            have HR2 : Hid (R = (0, acc)) := hid_ (by rw [← HR.out, hiK, sdGo])
            have hnn := own_noneB hown
            have hal : acc.length = m * 64 := by have := hown.1; simpa [ints] using this
            clear HR
            go_wp2_with fail
            refine bodyPost_ret (results_tmp2 rfl _ _ _) rfl ?_
            rw [HXE.out, HR2.out]
            refine ⟨HX3.out.trans (HY3.out.trans hx), ?_⟩
            rw [if_pos rfl]
            exact ⟨OA, m, oc, rfl, hal, (own_out hown).1, hnn⟩
  · have H40 : Hid (decide ((K : Int) ≠ (pn : Int)) = true) := hid_ (by rw [decide_eq_true_eq]; omega)
    have HXE := hid_ (HX4.out hpk)
    clear hpk HX4 HX6a HX0a
    go_enter Tryz.func6, Tryz.ntmps6
    go_wp2_with (first
      | (show wpList _ _ _ (⟨some 4, _, _, _, _, _⟩ :: _) _ _; refine wpList_box_abs rfl 27 (.tmp 0) rfl tt rfl ?_; intro w1 g hb1 hx1 hg)
      | (show wpList _ _ _ (⟨some 22, _, _, _, _, _⟩ :: _) _ _; refine wpList_load_blk rfl 27 (.tmp 4) rfl g rfl hb1 _ Tryz.underlying27 rfl 34 sizeTbls hsz.out ?_)
      | (go_at_call 15; (with_reducible refine (HPC.out _ hx1).mono ?_); intro e2 w2 h2; obtain ⟨PA, pc, B, d, VS, rfl, k1, k2, k3, hx2⟩ := HRS.out _ _ _ h2; have hx2' := hx1.trans hx2)
      | (go_at_call 16; (with_reducible refine (HSP.out _).mono ?_); rintro e3 w3 ⟨B3, d3, rfl, hsp, hx3⟩; have hx3' := hx2'.trans hx3)
      | (show wpList _ _ _ (⟨some 40, _, _, _, _, _⟩ :: _) _ _; refine wl_run rfl (.bool true) (ex_neq rfl rfl rfl H40.out) ?_))
    refine bodyPost_ret (results_tmp2 rfl _ _ _) rfl ?_
    rw [HXE.out]
    refine ⟨hx3', ?_⟩
    rw [if_neg (show ¬ (4 : Int) = 0 by decide)]
    rfl
end Go.Proofs.YtgmddhljgfbibaaGreatDoor
/- Mending a scan, in plain words. -/
namespace Go.Proofs.YtgmddhljgfbibaaGreatDoor
set_option linter.unusedVariables false
set_option linter.unusedSimpArgs false
open Go.RowKit
/-- what decoding piece i gives -/
def mendAt (T1 T2 : List Tok) (n e : Nat) (P : List (List Nat)) (i : Nat) : Int × List Int := if i < P.length then decR true T1 T2 ((lenAt n e i : Nat) : Int) (plZ (P.getD i [])) else (5, [])
/-- the blocks that stand for piece i -/
def mendPart (T1 T2 : List Tok) (n e : Nat) (P : List (List Nat)) (i : Nat) : List Int := if (mendAt T1 T2 n e P i).1 = 0 then (mendAt T1 T2 n e P i).2 else List.replicate (lenAt n e i * 64) 0
/-- the blocks and the bad pieces after k pieces -/
def mendL (T1 T2 : List Tok) (n e : Nat) (P : List (List Nat)) : Nat → List Int × List Int
  | 0 => ([], [])
  | k + 1 => ((mendL T1 T2 n e P k).1 ++ mendPart T1 T2 n e P k, if (mendAt T1 T2 n e P k).1 = 0 then (mendL T1 T2 n e P k).2 else (mendL T1 T2 n e P k).2 ++ [(k : Int)])
theorem mendAt_len {T1 T2 : List Tok} {n e : Nat} {P : List (List Nat)} {i : Nat} (h : (mendAt T1 T2 n e P i).1 = 0) : (mendAt T1 T2 n e P i).2.length = lenAt n e i * 64 := by
  unfold mendAt at h ⊢
  by_cases hi : i < P.length
  · rw [if_pos hi] at h ⊢
    exact decR_len h
  · rw [if_neg hi] at h
    exact absurd h (by decide)
theorem mendPart_len {T1 T2 : List Tok} {n e : Nat} {P : List (List Nat)} {i : Nat} : (mendPart T1 T2 n e P i).length = lenAt n e i * 64 := by
  unfold mendPart
  by_cases h : (mendAt T1 T2 n e P i).1 = 0
  · rw [if_pos h]; exact mendAt_len h
  · rw [if_neg h]; simp
/-- blocks ahead of piece i -/
def atK (n e i : Nat) : Nat := min (i * spanE n e) n
theorem atK_0 (n e : Nat) : atK n e 0 = 0 := by unfold atK; simp
theorem atK_le (n e i : Nat) : atK n e i ≤ n := by unfold atK; omega
theorem atK_succ {n e i : Nat} (h : i < cutK n e) : atK n e (i + 1) = atK n e i + lenAt n e i := by
  have h1 := cut_at h
  unfold atK lenAt
  rw [Nat.succ_mul]
  omega
theorem cutK_end (n e : Nat) : n ≤ cutK n e * spanE n e := by
  by_cases h : e = 0 ∨ n = 0
  · rw [(cut_whole h).1, (cut_whole h).2]; omega
  · have h1 := cutK_lt (i := cutK n e) h
    have h2 : ¬ cutK n e * e < n := fun h3 => by have := h1.2 h3; omega
    rw [(cut_part h).1]
    omega
theorem atK_end (n e : Nat) : atK n e (cutK n e) = n := by have := cutK_end n e; unfold atK; omega
theorem mendL_len {T1 T2 : List Tok} {n e : Nat} {P : List (List Nat)} : ∀ k, k ≤ cutK n e → (mendL T1 T2 n e P k).1.length = atK n e k * 64
  | 0, _ => by rw [atK_0]; rfl
  | k + 1, h => by
    rw [atK_succ (by omega), Nat.add_mul, mendL]
    show ((mendL T1 T2 n e P k).1 ++ mendPart T1 T2 n e P k).length = _
    rw [List.length_append, mendL_len k (by omega), mendPart_len]
theorem mendL_bad {T1 T2 : List Tok} {n e : Nat} {P : List (List Nat)} : ∀ k, (mendL T1 T2 n e P k).2.length ≤ k
  | 0 => Nat.le_refl _
  | k + 1 => by
    rw [mendL]
    have := mendL_bad (T1 := T1) (T2 := T2) (n := n) (e := e) (P := P) k
    show (if _ then _ else _ : List Int).length ≤ _
    split
    · omega
    · simp; omega
theorem mendL_ok {T1 T2 : List Tok} {n e : Nat} {P : List (List Nat)} {k : Nat} {r : Int × List Int} (hr : mendAt T1 T2 n e P k = r) (h : r.1 = 0) : mendL T1 T2 n e P (k + 1) = ((mendL T1 T2 n e P k).1 ++ r.2, (mendL T1 T2 n e P k).2) := by
  rw [mendL, mendPart, hr, if_pos h, if_pos h]
theorem mendL_err {T1 T2 : List Tok} {n e : Nat} {P : List (List Nat)} {k : Nat} {r : Int × List Int} (hr : mendAt T1 T2 n e P k = r) (h : r.1 ≠ 0) : mendL T1 T2 n e P (k + 1) = ((mendL T1 T2 n e P k).1 ++ List.replicate (lenAt n e k * 64) 0, (mendL T1 T2 n e P k).2 ++ [(k : Int)]) := by
  rw [mendL, mendPart, hr, if_neg h, if_neg h]
theorem sdGo_len {T1 T2 : List Tok} {n e : Nat} {P : List (List Nat)} : ∀ (m i : Nat) (acc : List Int), i + m ≤ cutK n e → acc.length = atK n e i * 64 → (sdGo T1 T2 n e P m i acc).1 = 0 → (sdGo T1 T2 n e P m i acc).2.length = atK n e (i + m) * 64
  | 0, i, acc, _, ha, _ => by rw [sdGo]; exact ha
  | m + 1, i, acc, hi, ha, h => by
    rw [sdGo] at h ⊢
    by_cases h0 : (decR true T1 T2 ((lenAt n e i : Nat) : Int) (plZ (P.getD i []))).1 ≠ 0
    · rw [if_pos h0] at h; exact absurd h h0
    · rw [if_neg h0] at h ⊢
      have hl := decR_len (r := true) (T1 := T1) (T2 := T2) (N := lenAt n e i) (z := plZ (P.getD i [])) (by omega)
      have := sdGo_len m (i + 1) _ (by omega) (by rw [List.length_append, ha, hl, atK_succ (by omega), Nat.add_mul]) h
      rwa [show i + (m + 1) = i + 1 + m by omega]
/-- what Mend of a scan hands back -/
def MendIs (r : Int × List Int × List Int) (w : World) (e : Ending) (w' : World) : Prop :=
  Ext w w' ∧ if r.1 = 0 then ∃ B k d C j c, e = .returned (.tuple #[.slice B k d, .slice C j c, .int .i64 0]) ∧ r.2.1.length = k * 64 ∧ SL w' 64 (.slice B k d) k (ints r.2.1) ∧ r.2.2.length = j ∧ SL w' 1 (.slice C j c) j (ints r.2.2)
    else e = .returned (.tuple #[.slice none 0 0, .slice none 0 0, .int .i64 r.1])
/-- what Mend answers for good tables -/
def scanMendR (T1 T2 : List Tok) (n e : Nat) (bs : List Nat) : Int × List Int × List Int :=
  match spGo bs [] [] [] with
  | none => (4, [], [])
  | some (P, _) => (0, (mendL T1 T2 n e P (cutK n e)).1, (mendL T1 T2 n e P (cutK n e)).2)
end Go.Proofs.YtgmddhljgfbibaaGreatDoor
