/- Contracts for the law ScanDecodesUptoCard, part 35: what the functions that it reaches answer, for all arguments that the theorems name. -/
import Derived.Test.YtgmddhljgfbibaaGreatDoorMScanDecodesUptoCard33
import Derived.Test.YtgmddhljgfbibaaGreatDoorMScanDecodesUptoCard34
import Derived.Test.YtgmddhljgfbibaaGreatDoorMScanDecodesUptoCard31
import Derived.Test.YtgmddhljgfbibaaGreatDoorMScanDecodesUptoCard27
import Derived.Test.YtgmddhljgfbibaaGreatDoorMScanDecodesUptoCard24
import Derived.Test.YtgmddhljgfbibaaGreatDoorMScanDecodesUptoCard22
/- ScanMend of the reference. Printed by wip/gen/mkrscanmend.py. -/
namespace Go.Proofs.YtgmddhljgfbibaaGreatDoor
set_option linter.unusedVariables false
set_option linter.unusedSimpArgs false
open Go.RowKit
theorem bv_lst (zs : List Int) : (bv zs).toList = ints zs := rfl
set_option maxRecDepth 20000 in
set_option maxHeartbeats 1000000 in
theorem rscanMend_err (tt : Array Value) (hsz0 : tt.size = 34) (v : Value) (nn ev : Int) (z : Int) (hz : z ≠ 0) (w : World)
    (WC : ∀ W, Ext w W → Calls Tryz.prog 15 #[.agg tt, v, .int .i64 nn, .int .i64 ev] W (PcErr z W)) : Calls Tryz.prog 10 #[.agg tt, v, .int .i64 nn, .int .i64 ev] w (MendIs (z, [], []) w) := by
  have HWC := hid_ WC
  have hsz := hid_ hsz0
  have hzb : (z != 0) = true := by simpa using hz
  have HZ := hid_ hz
  clear WC hsz0 hz
  go_enter Tryz.func10, Tryz.ntmps10
  go_wp2_with (first
    | (show wpList _ _ _ (⟨some 4, _, _, _, _, _⟩ :: _) _ _; refine wpList_box_abs rfl 27 (.tmp 0) rfl tt rfl ?_; intro w1 g hb1 hx1 hg)
    | (show wpList _ _ _ (⟨some 23, _, _, _, _, _⟩ :: _) _ _; refine wpList_load_blk rfl 27 (.tmp 4) rfl g rfl hb1 _ Tryz.underlying27 rfl 34 sizeTbls hsz.out ?_)
    | (go_at_call 15; (with_reducible refine (HWC.out _ hx1).mono ?_); rintro e w2 ⟨rfl, hx2⟩))
  go_ret3
  refine ⟨hx1.trans hx2, ?_⟩
  rw [if_neg HZ.out]
  rfl
attribute [local irreducible] bytesV bv mendL mendAt mendPart partsL spanE cutK plZ decR atK
set_option maxRecDepth 20000 in
set_option maxHeartbeats 16000000 in
theorem rscanMend_good (T1 T2 : List Tok) (tt : Array Value) (hsz0 : tt.size = 34) (v : Value) (n e : Nat) (hn : n ≤ 400) (he : e ≤ 100) (P : List (List Nat)) (M : List Nat) (hPM : ∀ p ∈ P, p.length ≤ 1048576 ∧ ∀ b ∈ p, b < 256) (w : World)
    (PC : ∀ W, Ext w W → Calls Tryz.prog 15 #[.agg tt, v, .int .i64 (n : Int), .int .i64 (e : Int)] W (SpIs (some (P, M)) W))
    (SD : ∀ W A' m c' bs' nn', Ext w W → SL W 1 (.slice A' m c') m (bytesV bs') → (∀ b ∈ bs', b < 256) → m ≤ 1048576 → Calls Tryz.prog 17 #[.agg tt, .slice A' m c', .int .i64 nn'] W (DecIs (decR true T1 T2 nn' (plZ bs')) W)) :
    Calls Tryz.prog 10 #[.agg tt, v, .int .i64 (n : Int), .int .i64 (e : Int)] w (MendIs (0, (mendL T1 T2 n e P (cutK n e)).1, (mendL T1 T2 n e P (cutK n e)).2) w) := by
  have hsz := hid_ hsz0
  have HSP := hid_ (fun W => parts_anyF n e (by omega) (by omega) W)
  have hKl := cutK_le (n := n) (e := e)
  have HAS := hid_ (fun i (h : i < cutK n e) => atK_succ h)
  have HML := hid_ (fun i (h : i ≤ cutK n e) => mendL_len (T1 := T1) (T2 := T2) (P := P) i h)
  have HAE := hid_ (atK_end n e)
  obtain ⟨R, hRR⟩ : ∃ R, mendL T1 T2 n e P (cutK n e) = R := ⟨_, rfl⟩
  rw [hRR]
  obtain ⟨K, hKK⟩ : ∃ K, cutK n e = K := ⟨_, rfl⟩
  rw [hKK] at HSP hKl HAS HML HAE hRR
  have HR := hid_ hRR
  have HM0 : Hid (mendL T1 T2 n e P 0 = ([], [])) := hid_ (by rw [mendL])
  have HA0 : Hid (atK n e 0 = 0) := hid_ (atK_0 n e)
  have HAL := hid_ (fun i => atK_le n e i)
  obtain ⟨pn, hpn⟩ : ∃ k, P.length = k := ⟨_, rfl⟩
  have HPN := hid_ hpn
  have HRS : Hid (∀ W e' W', SpIs (some (P, M)) W e' W' → ∃ A c u VS, e' = .returned (.tuple #[.slice A pn c, u, .int .i64 0]) ∧ SL W' 1 (.slice A pn c) pn VS ∧ Pieces W' VS P ∧ Ext W W') := hid_ (fun W e' W' h => by
    rw [← hpn]
    obtain ⟨A, c, B, d, VS, h1, h2, h3, -, h5⟩ := h
    exact ⟨A, c, _, VS, h1, h2, h3, h5⟩)
  have HPC := hid_ PC
  have HPM := hid_ hPM
  have HSD := hid_ SD
  clear hRR hKK PC hPM SD hsz0 hpn
  go_enter Tryz.func10, Tryz.ntmps10
  go_wp2_with (first
    | (show wpList _ _ _ (⟨some 4, _, _, _, _, _⟩ :: _) _ _; refine wpList_box_abs rfl 27 (.tmp 0) rfl tt rfl ?_; intro w1 g hb1 hx1 hg)
    | (show wpList _ _ _ (⟨some 23, _, _, _, _, _⟩ :: _) _ _; refine wpList_load_blk rfl 27 (.tmp 4) rfl g rfl hb1 _ Tryz.underlying27 rfl 34 sizeTbls hsz.out ?_)
    | (go_at_call 15; (with_reducible refine (HPC.out _ hx1).mono ?_); intro e2 w2 h2; obtain ⟨PA, pc, pu, VS, rfl, k1, k2, hx2⟩ := HRS.out _ _ _ h2; have hx2' := hx1.trans hx2)
    | (show wpList _ _ _ (⟨some 35, _, _, _, _, _⟩ :: _) _ _; refine wpList_makeBlocks rfl (some 35) rfl (.tmp 34) (.tmp 34) rfl n (by omega) rfl rfl ?_; intro wm g0 hbm hxm hgm)
    | (go_at_call 16; (with_reducible refine (HSP.out _).mono ?_); rintro e3 w3 ⟨B3, d3, rfl, hsp, hx3, hfr⟩))
  have hob : OwnV w3 w3.heap.size 3 1 (.slice none 0 0) 0 (ints []) := OwnV.nil _ _ _ _
  have HG2 := hid_ (hb1.ext hx2)
  have HX2 := hid_ hx2'
  have HX23 := hid_ (hxm.trans hx3)
  have HSP3 := hid_ hsp
  have HFR : Hid (∀ ad, B3 = some ad → ad.block ≠ g0) := hid_ (fun ad e h => by have := hfr ad e; have := hbm.lt; omega)
  have HK1 := hid_ k1
  have HK2 := hid_ k2
  have hgm2 : w2.heap.size ≤ g0 := hgm
  have hgm3 : g0 < w3.heap.size := Nat.lt_of_lt_of_le hbm.lt hx3.size
  have HNN : Hid (n * 64 = (n - 0) * 64) := hid_ (by rw [Nat.sub_zero])
  have hb0 : Blk w3 g0 37 (bv ([] ++ List.replicate ((n - 0) * 64) 0)) := by rw [← HNN.out]; exact hbm.ext hx3
  clear hb1 hx1 hg hx2 hx2' hx3 hsp k1 k2 h2 hbm hxm hgm hfr HNN
  go_loopw [15, 16, 40] (fun y av iv wr => ∃ (i m j : Nat) (X Y : List Int), i ≤ K ∧ iv = .int .i64 (i : Int) ∧ av = .int .i64 (m : Int) ∧ m ≤ n ∧ Hid (m = atK n e i) ∧ j ≤ i ∧ Hid (mendL T1 T2 n e P i = (X, Y)) ∧ Hid (X.length = m * 64) ∧ Blk wr g0 37 (bv (X ++ List.replicate ((n - m) * 64) 0)) ∧ OwnV wr w3.heap.size 3 1 y j (ints Y) ∧ Upd (fun b => b = g0) w3 wr) (fun _ _ i _ => K - (intOf i).toNat)
  case atStart => exact ⟨0, 0, 0, [], [], by omega, rfl, rfl, by omega, hid_ HA0.out.symm, by omega, HM0, hid_ rfl, hb0, hob, Upd.refl _ _⟩
  case round =>
    clear hb0 hob HM0 HA0
    obtain ⟨i, m, j, X, Y, hi, rfl, rfl, hm, HMA, hj, HMX, HXL, hbg, ⟨YA, yc, rfl, hbad⟩, hu⟩ := hrel
    have hx2r : Ext w2 wr := hu.ext HX23.out (fun x hx => by rw [hx]; exact hgm2)
    by_cases hlt : i < K
    · have hspr := HSP3.out.upd hu (fun ad e h => HFR.out ad e h)
      obtain ⟨td, u, hB, htb, htk, htc⟩ := hspr.at1 hlt
      subst hB
      obtain ⟨ln, hln⟩ : ∃ q, lenAt n e i = q := ⟨_, rfl⟩
      have hu' : u = .int .i64 (ln : Int) := by
        have h := partsL_at n e K i hlt
        have h2 : (ints (partsL n e K))[i]? = some (.int .i64 ((lenAt n e i : Nat) : Int)) := by
          rw [ints, List.getElem?_map, List.getElem?_eq_getElem (by rw [partsL_len]; exact hlt), h]
          rfl
        rw [h2, hln] at htk
        exact (Option.some.inj htk).symm
      subst hu'
      have HLN := hid_ hln
      have HMS : Hid (m + ln = atK n e (i + 1)) := hid_ (by rw [HAS.out i hlt, hln, HMA.out])
      have hms : m + ln ≤ n := by rw [HMS.out]; exact HAL.out _
      have hln4 : ln ≤ 400 := by omega
      have HXEa := hid_ (fun r (h : mendAt T1 T2 n e P i = r) (h0 : r.1 ≠ 0) => show mendL T1 T2 n e P (i + 1) = (X ++ List.replicate (ln * 64) 0, Y ++ [(i : Int)]) by rw [mendL_err h h0, HMX.out, HLN.out])
      have HXOa := hid_ (fun r (h : mendAt T1 T2 n e P i = r) (h0 : r.1 = 0) => show mendL T1 T2 n e P (i + 1) = (X ++ r.2, Y) by rw [mendL_ok h h0, HMX.out])
      obtain ⟨q2, hq2⟩ : ∃ q, (n - (m + ln)) * 64 = q := ⟨_, rfl⟩
      have HQ2 := hid_ hq2
      have hqq : (n - m) * 64 = ln * 64 + q2 := by rw [← hq2, ← Nat.add_mul]; congr 1; omega
      have HAPP : Hid (X ++ List.replicate ((n - m) * 64) (0 : Int) = (X ++ List.replicate (ln * 64) 0) ++ List.replicate q2 0) := hid_ (by rw [hqq, List.append_assoc, List.replicate_append_replicate])
      have HXR : Hid ((X ++ List.replicate (ln * 64) (0 : Int)).length = (m + ln) * 64) := hid_ (by rw [List.length_append, HXL.out, List.length_replicate, Nat.add_mul])
      clear htk hln HMX HMA hspr hq2
      by_cases hp : i < pn
      · obtain ⟨pd, u, hB, hpb, hpk, hpc⟩ := HK1.out.at1 hp
        subst hB
        have hiP : i < P.length := by rw [HPN.out]; exact hp
        obtain ⟨SA, sc, hv, hsl⟩ := HK2.out.2 i hiP
        rw [hv] at hpk
        obtain rfl := Option.some.inj hpk
        have hpm := HPM.out P[i] (List.getElem_mem hiP)
        have hgd : P.getD i [] = P[i] := by rw [List.getD_eq_getElem?_getD, List.getElem?_eq_getElem hiP]; rfl
        have hma : mendAt T1 T2 n e P i = decR true T1 T2 (ln : Int) (plZ P[i]) := by unfold mendAt; rw [if_pos hiP, hgd, HLN.out]
        have HSR := hid_ (fun W (h : Ext w2 W) => HSD.out W SA P[i].length sc P[i] (ln : Int) (HX2.out.trans h) (hsl.ext h) hpm.2 hpm.1)
        have HPC := hid_ (fun W (h : Ext w2 W) => (h.cell (p := pd.add i) (by rw [block_of_add]; exact hpb)).trans hpc)
        have hrl : (decR true T1 T2 (ln : Int) (plZ P[i])).1 = 0 → (decR true T1 T2 (ln : Int) (plZ P[i])).2.length = ln * 64 := decR_len
        obtain ⟨r, hr⟩ : ∃ r, decR true T1 T2 (ln : Int) (plZ P[i]) = r := ⟨_, rfl⟩
        rw [hr] at HSR hrl hma
        have HXE := hid_ (HXEa.out r hma)
        have HXO := hid_ (HXOa.out r hma)
        obtain ⟨pl, hpl⟩ : ∃ q, P[i].length = q := ⟨_, rfl⟩
        rw [hpl] at HSR HPC
        obtain ⟨r1, r2⟩ := r
        dsimp only at hrl HXE HXO
        have HRL := hid_ hrl
        have HRA : Hid (∀ W e W', DecIs (r1, r2) W e W' → (r1 = 0 ∧ ∃ B d, e = .returned (.tuple #[.slice B ln d, .int .i64 r1]) ∧ SL W' 64 (.slice B ln d) ln (ints r2) ∧ Ext W W') ∨ (r1 ≠ 0 ∧ e = .returned (.tuple #[.slice none 0 0, .int .i64 r1]) ∧ Ext W W')) := hid_ (fun W e W' h => by
          obtain ⟨hx, h⟩ := h
          by_cases h0 : r1 = 0
          · subst h0
            rw [if_pos rfl] at h
            obtain ⟨B, k, d, rfl, h1, h2, -⟩ := h
            have h3 := hrl rfl
            obtain rfl : k = ln := by dsimp only at h1; omega
            exact .inl ⟨rfl, B, d, rfl, h2, hx⟩
          · rw [if_neg h0] at h
            exact .inr ⟨h0, h, hx⟩)
        have H51 : Hid (decide ((i : Int) < (pn : Int)) = true) := hid_ (by rw [decide_eq_true_eq]; omega)
        have hcell0 : wr.cell? (td.add i) = some (.int .i64 (ln : Int)) := htc
        clear hr hsl hv hpc hpb hpm hgd hrl hpl hma htc
        go_wp2_with (first
          | (show wpList _ _ _ (⟨some 48, _, _, _, _, _⟩ :: _) _ _; refine wl_run rfl (.bool true) (ex_lss rfl rfl rfl H51.out) ?_))
        have hx8d : Ext w2 wr.drew := hx2r.drew
        have hud : Upd (fun b => b = g0) w3 wr.drew := hu.drew
        have hbad8 := own_keep hbad (Ext.refl wr).drew
        have hz8 := hbg.drew
        have HGX := hid_ (fun W (h : Ext wr.drew W) => ((HG2.out.ext hx8d).ext h))
        have hI : Ext wr.drew wr.drew := Ext.refl _
        clear hcell0
        by_cases h0 : r1 = 0
        · have HRB : Hid (∀ W e W', DecIs (r1, r2) W e W' → ∃ B d, e = .returned (.tuple #[.slice B ln d, .int .i64 r1]) ∧ SL W' 64 (.slice B ln d) ln (ints r2) ∧ Ext W W') := hid_ (fun W e W' h => by
            rcases HRA.out W e W' h with ⟨-, h⟩ | ⟨h1, -⟩
            · exact h
            · exact absurd h0 h1)
          subst h0
          refine wp_region_oi (Ext wr.drew) (by kernel_rfl) ?_
          refine oi_fix (k := 0) (by kernel_rfl) rfl (by rfl) (.agg tt) (fun W hW => ex_loadB rfl rfl (HGX.out W hW) Tryz.underlying27 rfl sizeTbls hsz.out) hI ?_
          simp only [Act.put, List.setIfInBounds_toArray, List.set_cons_succ, List.set_cons_zero]
          refine oi_run (k := 1) (by kernel_rfl) rfl (by rfl) (.slice (some pd) pn pc) (ex_move rfl rfl) hI ?_
          simp only [Act.put, List.setIfInBounds_toArray, List.set_cons_succ, List.set_cons_zero]
          refine oi_run (k := 2) (by kernel_rfl) rfl (by rfl) (.int .i64 (i : Int)) (ex_move rfl rfl) hI ?_
          simp only [Act.put, List.setIfInBounds_toArray, List.set_cons_succ, List.set_cons_zero]
          refine oi_run (k := 3) (by kernel_rfl) rfl (by rfl) (.pointer (some (pd.add (i * 1)))) (ex_ixSl Tryz.underlying42 sizeBs rfl rfl rfl hp) hI ?_
          simp only [Act.put, List.setIfInBounds_toArray, List.set_cons_succ, List.set_cons_zero]
          refine oi_fix (k := 4) (by kernel_rfl) rfl (by rfl) (.slice SA pl sc) (fun W hW => ex_loadS rfl rfl (by rw [Nat.mul_one]; exact HPC.out W (hx8d.trans hW))) hI ?_
          simp only [Act.put, List.setIfInBounds_toArray, List.set_cons_succ, List.set_cons_zero]
          refine oi_run (k := 5) (by kernel_rfl) rfl (by rfl) (.int .i64 (ln : Int)) (ex_move rfl rfl) hI ?_
          simp only [Act.put, List.setIfInBounds_toArray, List.set_cons_succ, List.set_cons_zero]
          refine oi_loud (k := 6) (by kernel_rfl) rfl ?_
          refine wl_enter (by rfl) (run_callv _ _ _ rfl rfl goesRSegDec #[.agg tt, .slice SA pl sc, .int .i64 (ln : Int)] (by simp [Act.eval])) ?_
          refine (HSR.out _ hx8d).mono ?_
          intro e9 w9 h9
          obtain ⟨B9, d9, rfl, hs9, hx9⟩ := HRB.out _ _ _ h9
          refine ⟨_, rfl, oi_end ⟨hx9, ?_⟩⟩
          simp only [Act.put, List.setIfInBounds_toArray, List.set_cons_succ, List.set_cons_zero]
          refine oi_run (k := 7) (by kernel_rfl) rfl (by rfl) (.tuple #[.slice B9 ln d9, .int .i64 0]) (ex_move rfl rfl) hx9 ?_
          simp only [Act.put, List.setIfInBounds_toArray, List.set_cons_succ, List.set_cons_zero]
          refine oi_run (k := 8) (by kernel_rfl) rfl (by rfl) (.slice B9 ln d9) (ex_extract rfl rfl rfl) hx9 ?_
          simp only [Act.put, List.setIfInBounds_toArray, List.set_cons_succ, List.set_cons_zero]
          refine oi_run (k := 9) (by kernel_rfl) rfl (by rfl) (.int .i64 0) (ex_extract rfl rfl rfl) hx9 ?_
          simp only [Act.put, List.setIfInBounds_toArray, List.set_cons_succ, List.set_cons_zero]
          refine oi_run (k := 10) (by kernel_rfl) rfl (by rfl) (.slice B9 ln d9) (ex_assign rfl rfl) hx9 ?_
          simp only [Act.put, List.setIfInBounds_toArray, List.set_cons_succ, List.set_cons_zero]
          refine oi_run (k := 11) (by kernel_rfl) rfl (by rfl) (.int .i64 0) (ex_assign rfl rfl) hx9 ?_
          simp only [Act.put, List.setIfInBounds_toArray, List.set_cons_succ, List.set_cons_zero]
          refine oi_done (by kernel_rfl) ?_
          have hbad9 := own_keep hbad8 hx9
          have hz9 := hz8.ext hx9
          have hu9 := hud.trans (Upd.of_ext (S := fun _ => False) hx9) (fun x h => h.elim)
          have HFT : Hid (m * 64 + (ints r2).length ≤ (bv (X ++ List.replicate ((n - m) * 64) 0)).size) := hid_ (by rw [bv_size, List.length_append, List.length_replicate, HXL.out, ints_len, HRL.out (by first | rfl | trivial)]; omega)
          have HDD : Hid (0 < ln → subA (some ⟨g0, 0, none⟩) n m = some ⟨g0, m * 64, none⟩) := hid_ (fun h => by unfold subA; rw [if_neg (by omega), Option.map_some, addr_add, Nat.zero_add])
          have HSPL : Hid ((splice (bv (X ++ List.replicate ((n - m) * 64) 0)).toList (m * 64) (ints r2)).toArray = bv ((X ++ r2) ++ List.replicate ((n - (m + ln)) * 64) 0)) := hid_ (by rw [hqq, splice_rep HXL.out (HRL.out (by first | rfl | trivial)), HQ2.out])
          go_wp2_with (first
            | (show wpList _ _ _ (⟨some 63, _, _, _, _, _⟩ :: _) _ _; refine wl_run rfl (.slice (subA (some ⟨g0, 0, none⟩) n m) (n - m) (n - m)) (ex_subF rfl rfl rfl hm (Nat.le_refl n)) ?_)
            | (show wpList _ _ _ (⟨some 65, _, _, _, _, _⟩ :: _) _ _; refine wpList_copy_blk rfl (.tmp 63) (.tmp 64) rfl g0 (m * 64) _ _ (n - m) (n - m) ln d9 rfl rfl hz9 (by omega) (ints r2) hs9 HDD.out HFT.out (ints_one_mem _) ?_; intro w10 hb10 hg10; rw [HSPL.out] at hb10; have hu10 := hu9.grown hg10 (fun b hb => .inl (by injection hb with hb; exact hb.symm)); have hbad10 := own_upd2 hbad9 (upd_grown hg10) (fun x hx e => own_blk_ne hbad9 hz9 (Ne.symm blkNeI) (by rw [hx]; exact e))))
          go_roundw
          case rel => exact ⟨i + 1, m + ln, j, X ++ r2, Y, by omega, by go_num, by go_num, hms, HMS, by omega, hid_ (HXO.out (by first | rfl | trivial)), hid_ (by rw [List.length_append, HXL.out, HRL.out (by first | rfl | trivial), Nat.add_mul]), hb10, ⟨YA, yc, rfl, hbad10⟩, hu10⟩
          case measure => simp [intOf]; omega
        · have HRB : Hid (∀ W e W', DecIs (r1, r2) W e W' → e = .returned (.tuple #[.slice none 0 0, .int .i64 r1]) ∧ Ext W W') := hid_ (fun W e W' h => by
            rcases HRA.out W e W' h with ⟨h1, -⟩ | ⟨-, h⟩
            · exact absurd h1 h0
            · exact h)
          have h0b : (r1 == 0) = false := by simpa using h0
          have H0N := hid_ h0
          clear h0
          refine wp_region_oi (Ext wr.drew) (by kernel_rfl) ?_
          refine oi_fix (k := 0) (by kernel_rfl) rfl (by rfl) (.agg tt) (fun W hW => ex_loadB rfl rfl (HGX.out W hW) Tryz.underlying27 rfl sizeTbls hsz.out) hI ?_
          simp only [Act.put, List.setIfInBounds_toArray, List.set_cons_succ, List.set_cons_zero]
          refine oi_run (k := 1) (by kernel_rfl) rfl (by rfl) (.slice (some pd) pn pc) (ex_move rfl rfl) hI ?_
          simp only [Act.put, List.setIfInBounds_toArray, List.set_cons_succ, List.set_cons_zero]
          refine oi_run (k := 2) (by kernel_rfl) rfl (by rfl) (.int .i64 (i : Int)) (ex_move rfl rfl) hI ?_
          simp only [Act.put, List.setIfInBounds_toArray, List.set_cons_succ, List.set_cons_zero]
          refine oi_run (k := 3) (by kernel_rfl) rfl (by rfl) (.pointer (some (pd.add (i * 1)))) (ex_ixSl Tryz.underlying42 sizeBs rfl rfl rfl hp) hI ?_
          simp only [Act.put, List.setIfInBounds_toArray, List.set_cons_succ, List.set_cons_zero]
          refine oi_fix (k := 4) (by kernel_rfl) rfl (by rfl) (.slice SA pl sc) (fun W hW => ex_loadS rfl rfl (by rw [Nat.mul_one]; exact HPC.out W (hx8d.trans hW))) hI ?_
          simp only [Act.put, List.setIfInBounds_toArray, List.set_cons_succ, List.set_cons_zero]
          refine oi_run (k := 5) (by kernel_rfl) rfl (by rfl) (.int .i64 (ln : Int)) (ex_move rfl rfl) hI ?_
          simp only [Act.put, List.setIfInBounds_toArray, List.set_cons_succ, List.set_cons_zero]
          refine oi_loud (k := 6) (by kernel_rfl) rfl ?_
          refine wl_enter (by rfl) (run_callv _ _ _ rfl rfl goesRSegDec #[.agg tt, .slice SA pl sc, .int .i64 (ln : Int)] (by simp [Act.eval])) ?_
          refine (HSR.out _ hx8d).mono ?_
          intro e9 w9 h9
          obtain ⟨rfl, hx9⟩ := HRB.out _ _ _ h9
          refine ⟨_, rfl, oi_end ⟨hx9, ?_⟩⟩
          simp only [Act.put, List.setIfInBounds_toArray, List.set_cons_succ, List.set_cons_zero]
          refine oi_run (k := 7) (by kernel_rfl) rfl (by rfl) (.tuple #[.slice none 0 0, .int .i64 r1]) (ex_move rfl rfl) hx9 ?_
          simp only [Act.put, List.setIfInBounds_toArray, List.set_cons_succ, List.set_cons_zero]
          refine oi_run (k := 8) (by kernel_rfl) rfl (by rfl) (.slice none 0 0) (ex_extract rfl rfl rfl) hx9 ?_
          simp only [Act.put, List.setIfInBounds_toArray, List.set_cons_succ, List.set_cons_zero]
          refine oi_run (k := 9) (by kernel_rfl) rfl (by rfl) (.int .i64 r1) (ex_extract rfl rfl rfl) hx9 ?_
          simp only [Act.put, List.setIfInBounds_toArray, List.set_cons_succ, List.set_cons_zero]
          refine oi_run (k := 10) (by kernel_rfl) rfl (by rfl) (.slice none 0 0) (ex_assign rfl rfl) hx9 ?_
          simp only [Act.put, List.setIfInBounds_toArray, List.set_cons_succ, List.set_cons_zero]
          refine oi_run (k := 11) (by kernel_rfl) rfl (by rfl) (.int .i64 r1) (ex_assign rfl rfl) hx9 ?_
          simp only [Act.put, List.setIfInBounds_toArray, List.set_cons_succ, List.set_cons_zero]
          refine oi_done (by kernel_rfl) ?_
          have hbad9 := own_keep hbad8 hx9
          have hz9 := hz8.ext hx9
          have hu9 := hud.trans (Upd.of_ext (S := fun _ => False) hx9) (fun x h => h.elim)
          have HCUR : Hid ((splice (bv (X ++ List.replicate ((n - m) * 64) 0)).toList (m * 64) []).toArray = bv (X ++ List.replicate ((n - m) * 64) 0)) := hid_ (by simp [splice])
          have HFT : Hid (m * 64 + ([] : List Value).length ≤ (bv (X ++ List.replicate ((n - m) * 64) 0)).size) := hid_ (by rw [bv_size, List.length_append, List.length_replicate, HXL.out]; simp)
          go_wp2_with (first
            | (show wpList _ _ _ (⟨some 63, _, _, _, _, _⟩ :: _) _ _; refine wl_run rfl (.slice (subA (some ⟨g0, 0, none⟩) n m) (n - m) (n - m)) (ex_subF rfl rfl rfl hm (Nat.le_refl n)) ?_)
            | (show wpList _ _ _ (⟨some 65, _, _, _, _, _⟩ :: _) _ _; refine wpList_copy_blk rfl (.tmp 63) (.tmp 64) rfl g0 (m * 64) _ _ (n - m) (n - m) 0 0 rfl rfl hz9 (by omega) [] (SL.nil _ 64) (fun h => absurd h (by omega)) HFT.out (fun _ h => by cases h) ?_; intro w10 hb10 hg10; rw [HCUR.out] at hb10; have hu10 := hu9.grown hg10 (fun b hb => .inl (by injection hb with hb; exact hb.symm)); have hbad10 := own_upd2 hbad9 (upd_grown hg10) (fun x hx e => own_blk_ne hbad9 hz9 (Ne.symm blkNeI) (by rw [hx]; exact e)))
            | (show wpList _ _ _ (⟨some 70, _, _, _, _, _⟩ :: _) _ _; refine wpList_lit1 rfl 23 3 (.tmp 69) rfl (some 70) rfl Tryz.underlying23 1 sizeI zeroI _ rfl rfl (by omega) (by omega) ?_; intro w11 g11 hb11 hx11 hg11; have hbad11 := own_keep hbad10 hx11; have hz11 := Blk.ext hb10 hx11; have hu11 := Upd.trans hu10 (Upd.of_ext (S := fun _ => False) hx11) (fun x h => h.elim))
            | (show wpList _ _ _ (⟨some 71, _, _, _, _, _⟩ :: _) _ _; at_builtin; refine wpList_append_slf elt_intR rfl (.tmp 68) (.tmp 70) rfl w3.heap.size (.slice YA j yc) j (ints Y) rfl hbad11 _ 1 (ints [(i : Int)]) rfl (blk_one hb11) (ints_one_mem _) (by omega) (by omega) hu11.size ?_; intro A12 c12 w12 ho12 hgr12 hor12; have hu12 := hu11.grown hgr12 (fun b hb => .inr (hbad11.lt b hb).1); have hz12 := hz11.grown hgr12 (own_blk_ne hbad11 hz11 (Ne.symm blkNeI))))
          rw [HAPP.out, ← HQ2.out] at hz12
          go_roundw
          case rel => exact ⟨i + 1, m + ln, j + 1, X ++ List.replicate (ln * 64) 0, Y ++ [(i : Int)], by omega, by go_num, by go_num, hms, HMS, by omega, hid_ (HXE.out H0N.out), HXR, hz12, ⟨A12, c12, rfl, by rw [ints_app]; exact ho12⟩, hu12⟩
          case measure => simp [intOf]; omega
      · have hiP : ¬ i < P.length := by rw [HPN.out]; exact hp
        have hma : mendAt T1 T2 n e P i = (5, []) := by unfold mendAt; rw [if_neg hiP]
        have HXE := hid_ (HXEa.out _ hma)
        have H51 : Hid (decide ((i : Int) < (pn : Int)) = false) := hid_ (by rw [decide_eq_false_iff_not]; omega)
        have hcell0 : wr.cell? (td.add i) = some (.int .i64 (ln : Int)) := htc
        clear hma hiP HXOa htc
        go_wp2_with (first
          | (show wpList _ _ _ (⟨some 48, _, _, _, _, _⟩ :: _) _ _; refine wl_run rfl (.bool false) (ex_lss rfl rfl rfl H51.out) ?_)
          | (show wpList _ _ _ (⟨some 70, _, _, _, _, _⟩ :: _) _ _; refine wpList_lit1 rfl 23 3 (.tmp 69) rfl (some 70) rfl Tryz.underlying23 1 sizeI zeroI _ rfl rfl (by omega) (by omega) ?_; intro w11 g11 hb11 hx11 hg11; have hbad11 := own_keep hbad hx11; have hz11 := Blk.ext hbg hx11; have hu11 := Upd.trans hu (Upd.of_ext (S := fun _ => False) hx11) (fun x h => h.elim))
          | (show wpList _ _ _ (⟨some 71, _, _, _, _, _⟩ :: _) _ _; at_builtin; refine wpList_append_slf elt_intR rfl (.tmp 68) (.tmp 70) rfl w3.heap.size (.slice YA j yc) j (ints Y) rfl hbad11 _ 1 (ints [(i : Int)]) rfl (blk_one hb11) (ints_one_mem _) (by omega) (by omega) hu11.size ?_; intro A12 c12 w12 ho12 hgr12 hor12; have hu12 := hu11.grown hgr12 (fun b hb => .inr (hbad11.lt b hb).1); have hz12 := hz11.grown hgr12 (own_blk_ne hbad11 hz11 (Ne.symm blkNeI))))
        rw [HAPP.out, ← HQ2.out] at hz12
        go_roundw
        case rel => exact ⟨i + 1, m + ln, j + 1, X ++ List.replicate (ln * 64) 0, Y ++ [(i : Int)], by omega, by go_num, by go_num, hms, HMS, by omega, hid_ (HXE.out (by decide)), HXR, hz12, ⟨A12, c12, rfl, by rw [ints_app]; exact ho12⟩, hu12⟩
        case measure => simp [intOf]; omega
    · have hiK : i = K := by omega
      subst hiK
      have HRR : Hid (R = (X, Y)) := hid_ (by rw [← HR.out, HMX.out])
      have hmn : m = n := by rw [HMA.out, HAE.out]
      have hyl : Y.length = j := by have := hbad.1; simpa [ints] using this
      have HXX : Hid (X ++ List.replicate ((n - m) * 64) (0 : Int) = X) := hid_ (by rw [hmn, Nat.sub_self, Nat.zero_mul]; simp)
      rw [HXX.out] at hbg
      have HXM := hid_ hmn
      clear hmn HMA HMX
      go_wp2_with fail
      go_ret3
      refine ⟨HX2.out.trans hx2r, ?_⟩
      rw [if_pos rfl, HRR.out]
      have hl : X.length = n * 64 := by rw [HXL.out, HXM.out]
      refine ⟨_, n, _, YA, j, yc, rfl, hl, ?_, hyl, (own_out hbad).1⟩
      have := hbg.sl (size := 64) (n := n) (c := n) (by rw [bv_size, hl]) (by omega) (by omega)
      simpa [bv_lst] using this
end Go.Proofs.YtgmddhljgfbibaaGreatDoor
/- Both decoders of a segment answer alike. -/
namespace Go.Proofs.YtgmddhljgfbibaaGreatDoor
set_option linter.unusedVariables false
set_option linter.unusedSimpArgs false
open Go.RowKit
theorem zipC_rng : ∀ (C : List (Nat × Nat)) (xs : List Int), (∀ x ∈ xs, 0 ≤ x ∧ x ≤ 255) → ∀ t ∈ zipC C xs, 0 ≤ t.1 ∧ t.1 ≤ 255
  | [], _, _, t, ht => by simp [zipC] at ht
  | _ :: _, [], _, t, ht => by simp [zipC] at ht
  | c :: C, x :: xs, h, t, ht => by
    simp only [zipC, List.zipWith_cons_cons, List.mem_cons] at ht
    rcases ht with rfl | ht
    · exact h x (by simp)
    · exact zipC_rng C xs (fun y hy => h y (by simp [hy])) t ht
theorem tbl_rng {cs xs : List Int} (h : checkZ cs xs = 0) : ∀ t ∈ zipC (codesW cs 16) xs, 0 ≤ t.1 ∧ t.1 ≤ 255 :=
  zipC_rng _ _ (fun x hx => by
    obtain ⟨-, -, -, -, h5, -⟩ := checkZ_zero h
    exact inB_iff.1 (List.all_eq_true.1 h5 x hx))
/-- what Decode hands back, in one form -/
theorem DecIs.any {r : Int × List Int} {w w' : World} {e : Ending} (h : DecIs r w e w') : ∃ B k d, e = .returned (.tuple #[.slice B k d, .int .i64 r.1]) ∧ (if r.1 = 0 then r.2 else []).length = k * 64 ∧ SL w' 64 (.slice B k d) k (ints (if r.1 = 0 then r.2 else [])) ∧ Ext w w' := by
  obtain ⟨hx, h⟩ := h
  by_cases h0 : r.1 = 0
  · rw [if_pos h0] at h ⊢
    obtain ⟨B, k, d, rfl, h1, h2, -⟩ := h
    exact ⟨B, k, d, by rw [h0], h1, h2, hx⟩
  · rw [if_neg h0] at h ⊢
    exact ⟨none, 0, 0, h, rfl, SL.nil _ 64, hx⟩
/-- both decoders answer alike -/
theorem segBothD (cs1 xs1 cs2 xs2 : List Int) (s1 s2 : Value) (l1 : cs1.length = 16) (l2 : cs2.length = 16) (A : Option Addr) (n c : Nat) (bs : List Nat) (nn : Int) (hlt : ∀ b ∈ bs, b < 256) (hn : n ≤ 1048576) (hA : A = none → c = 0) (m0 : Int) (w : World) (hm : w.cell? ⟨0, 0, none⟩ = some (.int .i64 m0))
    (hs1 : SL w 1 s1 xs1.length (ints xs1)) (hs2 : SL w 1 s2 xs2.length (ints xs2)) (hs : SL w 1 (.slice A n c) n (bytesV bs)) :
    ∃ r : Int × List Int, (∀ W, Ext w W → Calls Tryz.prog 14 #[.agg (tblL cs1 s1 ++ tblL cs2 s2).toArray, .slice A n c, .int .i64 nn] W (DecIs r W)) ∧ (∀ W, Ext w W → Calls Tryz.prog 17 #[.agg (tblL cs1 s1 ++ tblL cs2 s2).toArray, .slice A n c, .int .i64 nn] W (DecIs r W)) := by
  have h1 := tblL_len cs1 s1 l1
  have h2 := tblL_len cs2 s2 l2
  have C1 : ∀ W, Ext w W → Calls Tryz.prog 18 #[.agg (tblL cs1 s1).toArray] W fun e W' => e = .returned (.int .i64 (checkZ cs1 xs1)) ∧ Ext W W' := fun W h => check_any cs1 xs1 s1 W l1 (hs1.ext h)
  have C2 : ∀ W, Ext w W → Calls Tryz.prog 18 #[.agg (tblL cs2 s2).toArray] W fun e W' => e = .returned (.int .i64 (checkZ cs2 xs2)) ∧ Ext W W' := fun W h => check_any cs2 xs2 s2 W l2 (hs2.ext h)
  have D1 : ∀ W, Ext w W → Calls Tryz.prog 57 #[.agg (tblL cs1 s1).toArray] W fun e W' => e = .returned (.int .i64 (checkZ cs1 xs1)) ∧ Ext W W' := fun W h => rcheck_any cs1 xs1 s1 W l1 (hs1.ext h)
  have D2 : ∀ W, Ext w W → Calls Tryz.prog 57 #[.agg (tblL cs2 s2).toArray] W fun e W' => e = .returned (.int .i64 (checkZ cs2 xs2)) ∧ Ext W W' := fun W h => rcheck_any cs2 xs2 s2 W l2 (hs2.ext h)
  have o1 := tblL_oneS cs1 s1 hs1
  have o2 := tblL_oneS cs2 s2 hs2
  by_cases hE : (if checkZ cs1 xs1 = 0 then checkZ cs2 xs2 else checkZ cs1 xs1) = 0
  · have z1 : checkZ cs1 xs1 = 0 := by
      by_cases h : checkZ cs1 xs1 = 0
      · exact h
      · rw [if_neg h] at hE; exact hE
    have z2 : checkZ cs2 xs2 = 0 := by rw [if_pos z1] at hE; exact hE
    refine ⟨decR true (zipC (codesW cs1 16) xs1) (zipC (codesW cs2 16) xs2) nn (plZ bs), fun W h => ?_, fun W h => ?_⟩
    · rw [z1] at C1
      rw [z2] at C2
      exact segDec_good _ _ (tblL cs1 s1) (tblL cs2 s2) A n c bs nn m0 W (hs.ext h) hA hlt hn (cell_keep hm h) h1 h2
        (fun D b p hp => by cases b; exact getGo_symZ cs2 xs2 l2 z2 D p hp; exact getGo_symZ cs1 xs1 l1 z1 D p hp) (tbl_rng z1) (tbl_rng z2) o1 o2 (fun W' h' => C1 W' (h.trans h')) (fun W' h' => C2 W' (h.trans h'))
        (fun W' h' => newCoder_any cs1 xs1 s1 W' l1 ((hs1.ext h).ext h') z1) (fun W' h' => newCoder_any cs2 xs2 s2 W' l2 ((hs2.ext h).ext h') z2)
    · rw [decR_same]
      exact rsegDec_good cs1 xs1 cs2 xs2 s1 s2 A n c bs nn W (hs.ext h) hlt hn l1 l2 (hs1.ext h) (hs2.ext h) z1 z2 (tbl_rng z1) (tbl_rng z2)
  · exact ⟨(_, []), fun W h => segDec_bad _ _ _ _ _ nn W h1 h2 o1 o2 (fun W' h' => C1 W' (h.trans h')) (fun W' h' => C2 W' (h.trans h')) hE, fun W h => rsegDec_bad _ _ _ _ _ nn W h1 h2 (fun W' h' => D1 W' (h.trans h')) (fun W' h' => D2 W' (h.trans h')) hE⟩
end Go.Proofs.YtgmddhljgfbibaaGreatDoor
/- Both decoders, and both menders, of a scan answer alike. -/
namespace Go.Proofs.YtgmddhljgfbibaaGreatDoor
set_option linter.unusedVariables false
set_option linter.unusedSimpArgs false
open Go.RowKit
theorem seg_goodD (cs1 xs1 cs2 xs2 : List Int) (s1 s2 : Value) (l1 : cs1.length = 16) (l2 : cs2.length = 16) (z1 : checkZ cs1 xs1 = 0) (z2 : checkZ cs2 xs2 = 0) (m0 : Int) (w : World) (hm : w.cell? ⟨0, 0, none⟩ = some (.int .i64 m0))
    (hs1 : SL w 1 s1 xs1.length (ints xs1)) (hs2 : SL w 1 s2 xs2.length (ints xs2)) :
    (∀ W A n c bs nn, Ext w W → SL W 1 (.slice A n c) n (bytesV bs) → (A = none → c = 0) → (∀ b ∈ bs, b < 256) → n ≤ 1048576 → Calls Tryz.prog 14 #[.agg (tblL cs1 s1 ++ tblL cs2 s2).toArray, .slice A n c, .int .i64 nn] W (DecIs (decR true (zipC (codesW cs1 16) xs1) (zipC (codesW cs2 16) xs2) nn (plZ bs)) W)) ∧
    (∀ W A n c bs nn, Ext w W → SL W 1 (.slice A n c) n (bytesV bs) → (∀ b ∈ bs, b < 256) → n ≤ 1048576 → Calls Tryz.prog 17 #[.agg (tblL cs1 s1 ++ tblL cs2 s2).toArray, .slice A n c, .int .i64 nn] W (DecIs (decR true (zipC (codesW cs1 16) xs1) (zipC (codesW cs2 16) xs2) nn (plZ bs)) W)) := by
  have h1 := tblL_len cs1 s1 l1
  have h2 := tblL_len cs2 s2 l2
  have o1 := tblL_oneS cs1 s1 hs1
  have o2 := tblL_oneS cs2 s2 hs2
  have C1 : ∀ W, Ext w W → Calls Tryz.prog 18 #[.agg (tblL cs1 s1).toArray] W fun e W' => e = .returned (.int .i64 (checkZ cs1 xs1)) ∧ Ext W W' := fun W h => check_any cs1 xs1 s1 W l1 (hs1.ext h)
  have C2 : ∀ W, Ext w W → Calls Tryz.prog 18 #[.agg (tblL cs2 s2).toArray] W fun e W' => e = .returned (.int .i64 (checkZ cs2 xs2)) ∧ Ext W W' := fun W h => check_any cs2 xs2 s2 W l2 (hs2.ext h)
  rw [z1] at C1
  rw [z2] at C2
  refine ⟨fun W A n c bs nn h hs hA hlt hn => ?_, fun W A n c bs nn h hs hlt hn => ?_⟩
  · exact segDec_good _ _ (tblL cs1 s1) (tblL cs2 s2) A n c bs nn m0 W hs hA hlt hn (cell_keep hm h) h1 h2
      (fun D b p hp => by cases b; exact getGo_symZ cs2 xs2 l2 z2 D p hp; exact getGo_symZ cs1 xs1 l1 z1 D p hp) (tbl_rng z1) (tbl_rng z2) o1 o2 (fun W' h' => C1 W' (h.trans h')) (fun W' h' => C2 W' (h.trans h'))
      (fun W' h' => newCoder_any cs1 xs1 s1 W' l1 ((hs1.ext h).ext h') z1) (fun W' h' => newCoder_any cs2 xs2 s2 W' l2 ((hs2.ext h).ext h') z2)
  · rw [decR_same]
    exact rsegDec_good cs1 xs1 cs2 xs2 s1 s2 A n c bs nn W hs hlt hn l1 l2 (hs1.ext h) (hs2.ext h) z1 z2 (tbl_rng z1) (tbl_rng z2)
/-- the errors that both tell ahead of the pieces, and the pieces -/
theorem pieces_both (cs1 xs1 cs2 xs2 : List Int) (s1 s2 : Value) (l1 : cs1.length = 16) (l2 : cs2.length = 16) (A : Option Addr) (n c : Nat) (bs : List Nat) (nn ev : Int) (hlt : ∀ b ∈ bs, b < 256) (hn : n ≤ 1048576) (w : World)
    (hs1 : SL w 1 s1 xs1.length (ints xs1)) (hs2 : SL w 1 s2 xs2.length (ints xs2)) (hs : SL w 1 (.slice A n c) n (bytesV bs)) :
    (∃ z : Int, z ≠ 0 ∧ (∀ W, Ext w W → Calls Tryz.prog 22 #[.agg (tblL cs1 s1 ++ tblL cs2 s2).toArray, .slice A n c, .int .i64 nn, .int .i64 ev] W (PcErr z W)) ∧ (∀ W, Ext w W → Calls Tryz.prog 15 #[.agg (tblL cs1 s1 ++ tblL cs2 s2).toArray, .slice A n c, .int .i64 nn, .int .i64 ev] W (PcErr z W))) ∨
    (∃ (N E : Nat) (P : List (List Nat)) (M : List Nat), nn = (N : Int) ∧ ev = (E : Int) ∧ N ≤ 400 ∧ E ≤ 100 ∧ checkZ cs1 xs1 = 0 ∧ checkZ cs2 xs2 = 0 ∧ P.length ≤ 100000000 ∧ M.length ≤ 100000000 ∧ (∀ p ∈ P, p.length ≤ 1048576 ∧ ∀ b ∈ p, b < 256) ∧ spGo bs [] [] [] = some (P, M) ∧
      (∀ W, Ext w W → Calls Tryz.prog 22 #[.agg (tblL cs1 s1 ++ tblL cs2 s2).toArray, .slice A n c, .int .i64 nn, .int .i64 ev] W (SpIsN (some (P, M)) W)) ∧ (∀ W, Ext w W → Calls Tryz.prog 15 #[.agg (tblL cs1 s1 ++ tblL cs2 s2).toArray, .slice A n c, .int .i64 nn, .int .i64 ev] W (SpIs (some (P, M)) W))) := by
  have hbl : bs.length = n := by
    obtain ⟨_, _, e, _, _, hl, _⟩ := hs
    simpa [bytesV] using hl
  have hs' : SL w 1 (.slice A n c) bs.length (bytesV bs) := by rw [hbl]; exact hs
  have hb : bs.length ≤ 1048576 := by omega
  by_cases hr : ev < 0 ∨ 100 < ev ∨ nn < 0 ∨ 400 < nn
  · exact .inl ⟨1, by decide, fun W _ => pieces_range _ _ nn ev W hr, fun W _ => rpieces_range _ _ nn ev W hr⟩
  have he : 0 ≤ ev ∧ ev ≤ 100 := by omega
  have hnn : 0 ≤ nn ∧ nn ≤ 400 := by omega
  have h1 := tblL_len cs1 s1 l1
  have h2 := tblL_len cs2 s2 l2
  have hsz := tblsWhole h1 h2
  have o1 := tblL_oneS cs1 s1 hs1
  have o2 := tblL_oneS cs2 s2 hs2
  have C1 : ∀ W, Ext w W → Calls Tryz.prog 18 #[.agg (tblL cs1 s1).toArray] W fun e W' => e = .returned (.int .i64 (checkZ cs1 xs1)) ∧ Ext W W' := fun W h => check_any cs1 xs1 s1 W l1 (hs1.ext h)
  have C2 : ∀ W, Ext w W → Calls Tryz.prog 18 #[.agg (tblL cs2 s2).toArray] W fun e W' => e = .returned (.int .i64 (checkZ cs2 xs2)) ∧ Ext W W' := fun W h => check_any cs2 xs2 s2 W l2 (hs2.ext h)
  have D1 : ∀ W, Ext w W → Calls Tryz.prog 57 #[.agg (tblL cs1 s1).toArray] W fun e W' => e = .returned (.int .i64 (checkZ cs1 xs1)) ∧ Ext W W' := fun W h => rcheck_any cs1 xs1 s1 W l1 (hs1.ext h)
  have D2 : ∀ W, Ext w W → Calls Tryz.prog 57 #[.agg (tblL cs2 s2).toArray] W fun e W' => e = .returned (.int .i64 (checkZ cs2 xs2)) ∧ Ext W W' := fun W h => rcheck_any cs2 xs2 s2 W l2 (hs2.ext h)
  have CT : ∀ W, Ext w W → Calls Tryz.prog 30 #[.agg (tblL cs1 s1 ++ tblL cs2 s2).toArray] W fun e W' => e = .returned (.int .i64 (if checkZ cs1 xs1 = 0 then checkZ cs2 xs2 else checkZ cs1 xs1)) ∧ Ext W W' := fun W h => tablesCheck_any (tblL cs1 s1) (tblL cs2 s2) _ _ W h1 h2 (fun W' h' => D1 W' (h.trans h')) (fun W' h' => D2 W' (h.trans h'))
  by_cases hE : (if checkZ cs1 xs1 = 0 then checkZ cs2 xs2 else checkZ cs1 xs1) = 0
  · have z1 : checkZ cs1 xs1 = 0 := by
      by_cases h : checkZ cs1 xs1 = 0
      · exact h
      · rw [if_neg h] at hE; exact hE
    have z2 : checkZ cs2 xs2 = 0 := by rw [if_pos z1] at hE; exact hE
    rw [hE] at CT
    rw [z1] at C1
    rw [z2] at C2
    have K1 : ∀ W, Ext w W → Calls Tryz.prog 22 #[.agg (tblL cs1 s1 ++ tblL cs2 s2).toArray, .slice A n c, .int .i64 nn, .int .i64 ev] W (SpIsN (spGo bs [] [] []) W) :=
      fun W h => pieces_good _ _ _ bs nn ev W he hnn (hs'.ext h) hlt hb h1 h2 o1 o2 (fun W' h' => C1 W' (h.trans h')) (fun W' h' => C2 W' (h.trans h'))
    have K2 : ∀ W, Ext w W → Calls Tryz.prog 15 #[.agg (tblL cs1 s1 ++ tblL cs2 s2).toArray, .slice A n c, .int .i64 nn, .int .i64 ev] W (SpIs (spGo bs [] [] []) W) :=
      fun W h => rpieces_good _ hsz _ bs nn ev W he hnn (hs'.ext h) hlt hb (fun W' h' => CT W' (h.trans h'))
    cases hsp : spGo bs [] [] [] with
    | none =>
      rw [hsp] at K1 K2
      exact .inl ⟨4, by decide, K1, K2⟩
    | some z =>
      obtain ⟨P, M⟩ := z
      rw [hsp] at K1 K2
      have hl := sp_len bs [] [] [] _ hsp
      simp only [List.length_nil] at hl
      obtain ⟨N, hN⟩ : ∃ N : Nat, nn = (N : Int) := ⟨nn.toNat, by omega⟩
      obtain ⟨E, hE2⟩ : ∃ E : Nat, ev = (E : Int) := ⟨ev.toNat, by omega⟩
      exact .inr ⟨N, E, P, M, hN, hE2, by omega, by omega, z1, z2, by omega, by omega, sp_mem bs [] [] [] _ hsp (fun _ h => by cases h) (by simpa using hb) (fun _ h => by cases h) hlt, rfl, K1, K2⟩
  · exact .inl ⟨_, hE, fun W h => pieces_bad _ _ _ _ _ nn ev W he hnn h1 h2 o1 o2 (fun W' h' => C1 W' (h.trans h')) (fun W' h' => C2 W' (h.trans h')) hE, fun W h => rpieces_bad _ hsz _ hE _ nn ev W he hnn (fun W' h' => CT W' (h.trans h'))⟩
/-- both decoders of a scan answer alike -/
theorem scanBothD (cs1 xs1 cs2 xs2 : List Int) (s1 s2 : Value) (l1 : cs1.length = 16) (l2 : cs2.length = 16) (A : Option Addr) (n c : Nat) (bs : List Nat) (nn ev : Int) (hlt : ∀ b ∈ bs, b < 256) (hn : n ≤ 1048576) (m0 : Int) (w : World) (hm : w.cell? ⟨0, 0, none⟩ = some (.int .i64 m0))
    (hs1 : SL w 1 s1 xs1.length (ints xs1)) (hs2 : SL w 1 s2 xs2.length (ints xs2)) (hs : SL w 1 (.slice A n c) n (bytesV bs)) :
    ∃ r : Int × List Int, (r.1 = 0 → r.2.length = nn.toNat * 64 ∧ 0 ≤ nn) ∧ (∀ W, Ext w W → Calls Tryz.prog 5 #[.agg (tblL cs1 s1 ++ tblL cs2 s2).toArray, .slice A n c, .int .i64 nn, .int .i64 ev] W (DecIs r W)) ∧ (∀ W, Ext w W → Calls Tryz.prog 6 #[.agg (tblL cs1 s1 ++ tblL cs2 s2).toArray, .slice A n c, .int .i64 nn, .int .i64 ev] W (DecIs r W)) := by
  have hsz := tblsWhole (tblL_len cs1 s1 l1) (tblL_len cs2 s2 l2)
  rcases pieces_both cs1 xs1 cs2 xs2 s1 s2 l1 l2 A n c bs nn ev hlt hn w hs1 hs2 hs with ⟨z, hz, K1, K2⟩ | ⟨N, E, P, M, rfl, rfl, hN, hE, z1, z2, hP, hM, hPM, hsp, K1, K2⟩
  · exact ⟨(z, []), fun h => absurd h hz, fun W h => scanDec_err _ hsz _ _ _ z [] hz W (fun W' h' => whole_err _ hsz _ _ _ z hz W' (fun W2 h2 => K1 W2 ((h.trans h').trans h2))), fun W h => rscanDec_err _ hsz _ _ _ z hz W (fun W' h' => K2 W' (h.trans h'))⟩
  · obtain ⟨S1, S2⟩ := seg_goodD cs1 xs1 cs2 xs2 s1 s2 l1 l2 z1 z2 m0 w hm hs1 hs2
    refine ⟨if wholeE N E P M ≠ 0 then (wholeE N E P M, []) else sdGo (zipC (codesW cs1 16) xs1) (zipC (codesW cs2 16) xs2) N E P (cutK N E) 0 [], fun h0 => ?_, fun W h => ?_, fun W h => ?_⟩
    · by_cases hw : wholeE N E P M = 0
      · rw [if_neg (by simp [hw])] at h0 ⊢
        refine ⟨?_, by omega⟩
        rw [Int.toNat_natCast]
        have := sdGo_len (cutK N E) 0 [] (by simp) (by rw [atK_0]; rfl) h0
        rwa [Nat.zero_add, atK_end] at this
      · rw [if_pos hw] at h0
        exact absurd h0 hw
    · have WH : ∀ W', Ext W W' → Calls Tryz.prog 12 #[.agg (tblL cs1 s1 ++ tblL cs2 s2).toArray, .slice A n c, .int .i64 (N : Int), .int .i64 (E : Int)] W' (WhIs (wholeE N E P M) P W') := fun W' h' => whole_good _ hsz _ N E (by omega) (by omega) P M hM hP W' (fun W2 h2 => K1 W2 ((h.trans h').trans h2))
      by_cases hw : wholeE N E P M = 0
      · rw [if_neg (by simp [hw])]
        rw [hw] at WH
        have hK : P.length = cutK N E := by
          unfold wholeE at hw
          by_cases h : P.length ≠ cutK N E
          · rw [if_pos h] at hw; cases hw
          · omega
        exact scanDec_good _ _ _ hsz _ N E hN hE P hK hPM W WH (fun W' A' m c' bs' nn' h' q1 q2 q3 q4 => S1 W' A' m c' bs' nn' (h.trans h') q1 q2 q3 q4)
      · rw [if_pos hw]
        exact scanDec_err _ hsz _ _ _ _ P hw W WH
    · exact rscanDec_good _ _ _ hsz _ N E hN hE P M hM hPM W (fun W' h' => K2 W' (h.trans h')) (fun W' A' m c' bs' nn' h' q1 q3 q4 => S2 W' A' m c' bs' nn' (h.trans h') q1 q3 q4)
/-- both menders of a scan answer alike -/
theorem mendBothD (cs1 xs1 cs2 xs2 : List Int) (s1 s2 : Value) (l1 : cs1.length = 16) (l2 : cs2.length = 16) (A : Option Addr) (n c : Nat) (bs : List Nat) (nn ev : Int) (hlt : ∀ b ∈ bs, b < 256) (hn : n ≤ 1048576) (m0 : Int) (w : World) (hm : w.cell? ⟨0, 0, none⟩ = some (.int .i64 m0))
    (hs1 : SL w 1 s1 xs1.length (ints xs1)) (hs2 : SL w 1 s2 xs2.length (ints xs2)) (hs : SL w 1 (.slice A n c) n (bytesV bs)) :
    ∃ r : Int × List Int × List Int, (r.1 = 0 → r.2.1.length = nn.toNat * 64 ∧ 0 ≤ nn) ∧ (∀ W, Ext w W → Calls Tryz.prog 9 #[.agg (tblL cs1 s1 ++ tblL cs2 s2).toArray, .slice A n c, .int .i64 nn, .int .i64 ev] W (MendIs r W)) ∧ (∀ W, Ext w W → Calls Tryz.prog 10 #[.agg (tblL cs1 s1 ++ tblL cs2 s2).toArray, .slice A n c, .int .i64 nn, .int .i64 ev] W (MendIs r W)) := by
  have hsz := tblsWhole (tblL_len cs1 s1 l1) (tblL_len cs2 s2 l2)
  rcases pieces_both cs1 xs1 cs2 xs2 s1 s2 l1 l2 A n c bs nn ev hlt hn w hs1 hs2 hs with ⟨z, hz, K1, K2⟩ | ⟨N, E, P, M, rfl, rfl, hN, hE, z1, z2, hP, hM, hPM, hsp, K1, K2⟩
  · exact ⟨(z, [], []), fun h => absurd h hz, fun W h => scanMend_err _ hsz _ _ _ z hz W (fun W' h' => K1 W' (h.trans h')), fun W h => rscanMend_err _ hsz _ _ _ z hz W (fun W' h' => K2 W' (h.trans h'))⟩
  · obtain ⟨S1, S2⟩ := seg_goodD cs1 xs1 cs2 xs2 s1 s2 l1 l2 z1 z2 m0 w hm hs1 hs2
    refine ⟨_, fun _ => ?_, fun W h => scanMend_good _ _ _ hsz _ N E hN hE P M hPM W (fun W' h' => K1 W' (h.trans h')) (fun W' A' m c' bs' nn' h' q1 q2 q3 q4 => S1 W' A' m c' bs' nn' (h.trans h') q1 q2 q3 q4), fun W h => rscanMend_good _ _ _ hsz _ N E hN hE P M hPM W (fun W' h' => K2 W' (h.trans h')) (fun W' A' m c' bs' nn' h' q1 q3 q4 => S2 W' A' m c' bs' nn' (h.trans h') q1 q3 q4)⟩
    refine ⟨?_, by omega⟩
    rw [Int.toNat_natCast]
    show (mendL _ _ N E P (cutK N E)).1.length = _
    rw [mendL_len _ (Nat.le_refl _), atK_end]
end Go.Proofs.YtgmddhljgfbibaaGreatDoor
