/- Contracts for the law RescueDecodesCard, part 27: what the functions that it reaches answer, for all arguments that the theorems name. -/
import Derived.Test.YtkggcjdlpendfaaGreatDoorMRescueDecodesCard26
import Derived.Test.YtkggcjdlpendfaaGreatDoorMRescueDecodesCard10
import Derived.Test.YtkggcjdlpendfaaGreatDoorMRescueDecodesCard4
import Derived.Test.YtkggcjdlpendfaaGreatDoorMRescueDecodesCard3
import Derived.Laws.CopyOwn
import Derived.Test.YtkggcjdlpendfaaGreatDoorMRescueDecodesCard24
import Derived.Test.YtkggcjdlpendfaaGreatDoorMRescueDecodesCard21
import Derived.Test.YtkggcjdlpendfaaGreatDoorMRescueDecodesCard12
namespace Go.Proofs.YtkggcjdlpendfaaGreatDoor
set_option linter.unusedVariables false
set_option linter.unusedSimpArgs false
open Go.RowKit
section
theorem blkNeI : 33 ≠ 3 := by decide
theorem rep_sl {w : World} {g n : Nat} {t : TypeId} (h : Blk w g t (bv (List.replicate (n * 64) 0))) (hn : n ≤ 100000) : SL w 64 (.slice (some ⟨g, 0, none⟩) n n) n (ints (List.replicate (n * 64) 0)) := by
 have := h.sl (size := 64) (n := n) (c := n) (by rw [bv_size]; simp) (by omega) (by omega)
 simpa [bv] using this
set_option maxRecDepth 20000 in
set_option maxHeartbeats 1000000 in
theorem scanMend_err (tt : Array Value) (hsz0 : tt.size = 34) (v : Value) (nn ev : Int) (z : Int) (hz : z ≠ 0) (w : World)
 (WC : ∀ W, Ext w W → Calls Tryz.prog 109 #[.agg tt, v, .int .i64 nn, .int .i64 ev] W (PcErr z W)) : Calls Tryz.prog 55 #[.agg tt, v, .int .i64 nn, .int .i64 ev] w (MendIs (z, [], []) w) := by
 have HWC := hid_ WC
 have hsz := hid_ hsz0
 have hzb : (z != 0) = true := by simpa using hz
 have HZ := hid_ hz
 clear WC hsz0 hz
 go_enter Tryz.func55, Tryz.ntmps55
 go_wp2_with (first
  | ((with_reducible apply gS 4); refine wBox rfl 44 (.tmp 0) rfl tt rfl ?_; intro w1 g hb1 hx1 hg)
  | ((with_reducible apply gS 22); refine wLdB rfl 44 (.tmp 4) rfl g rfl hb1 _ Tryz.underlying44 rfl 34 sizeTbls hsz.out ?_)
  | (go_at_call 109; (with_reducible refine (HWC.out _ hx1).mono ?_); rintro e w2 ⟨rfl, hx2⟩))
 go_ret3
 refine ⟨hx1.trans hx2, ?_⟩
 rw [if_neg HZ.out]
 rfl
attribute [local irreducible] bytesV bv mendL mendAt mendPart spansL spanE cutK plZ decR atK
set_option maxRecDepth 20000 in
set_option maxHeartbeats 16000000 in
theorem scanMend_good (T1 T2 : List Tok) (tt : Array Value) (hsz0 : tt.size = 34) (v : Value) (n e : Nat) (hn : n ≤ 400) (he : e ≤ 100) (P : List (List Nat)) (M : List Nat) (hPM : ∀ p ∈ P, p.length ≤ 1048576 ∧ ∀ b ∈ p, b < 256) (w : World)
 (PC : ∀ W, Ext w W → Calls Tryz.prog 109 #[.agg tt, v, .int .i64 (n : Int), .int .i64 (e : Int)] W (SpIsN (some (P, M)) W))
 (SD : ∀ W A' m c' bs' nn', Ext w W → SL W 1 (.slice A' m c') m (bytesV bs') → (A' = none → c' = 0) → (∀ b ∈ bs', b < 256) → m ≤ 1048576 → Calls Tryz.prog 110 #[.agg tt, .slice A' m c', .int .i64 nn'] W (DecIs (decR true T1 T2 nn' (plZ bs')) W)) :
 Calls Tryz.prog 55 #[.agg tt, v, .int .i64 (n : Int), .int .i64 (e : Int)] w (MendIs (0, (mendL T1 T2 n e P (cutK n e)).1, (mendL T1 T2 n e P (cutK n e)).2) w) := by
 have hsz := hid_ hsz0
 have HSP := hid_ (fun W => spans_any n e (by omega) (by omega) W)
 have hKl := cutK_le (n := n) (e := e)
 have HAT := hid_ (fun i (h : i < cutK n e) => cut_at h)
 have HAS := hid_ (fun i (h : i < cutK n e) => atK_succ h)
 have HML := hid_ (fun i (h : i ≤ cutK n e) => mendL_len (T1 := T1) (T2 := T2) (P := P) i h)
 obtain ⟨R, hRR⟩ : ∃ R, mendL T1 T2 n e P (cutK n e) = R := ⟨_, rfl⟩
 rw [hRR]
 obtain ⟨K, hKK⟩ : ∃ K, cutK n e = K := ⟨_, rfl⟩
 rw [hKK] at HSP HAT hKl HAS HML hRR
 have HR := hid_ hRR
 have HM0 : Hid (mendL T1 T2 n e P 0 = ([], [])) := hid_ (by rw [mendL])
 have HA0 : Hid (atK n e 0 = 0) := hid_ (atK_0 n e)
 have HAL := hid_ (fun i => atK_le n e i)
 obtain ⟨pn, hpn⟩ : ∃ k, P.length = k := ⟨_, rfl⟩
 have HPN := hid_ hpn
 have HRS : Hid (∀ W e' W', SpIsN (some (P, M)) W e' W' → ∃ A c u VS, e' = .returned (.tuple #[.slice A pn c, u, .int .i64 0]) ∧ SL W' 1 (.slice A pn c) pn VS ∧ Pieces W' VS P ∧ NZ VS ∧ Ext W W') := hid_ (fun W e' W' h => by
  rw [← hpn]
  obtain ⟨A, c, B, d, VS, h1, h2, h3, -, h5, h6⟩ := h
  exact ⟨A, c, _, VS, h1, h2, h3, h6, h5⟩)
 have HPC := hid_ PC
 have HPM := hid_ hPM
 have HSD := hid_ SD
 clear hRR hKK PC hPM SD hsz0 hpn
 go_enter Tryz.func55, Tryz.ntmps55
 go_wp2_with (first
  | ((with_reducible apply gS 4); refine wBox rfl 44 (.tmp 0) rfl tt rfl ?_; intro w1 g hb1 hx1 hg)
  | ((with_reducible apply gS 22); refine wLdB rfl 44 (.tmp 4) rfl g rfl hb1 _ Tryz.underlying44 rfl 34 sizeTbls hsz.out ?_)
  | (go_at_call 109; (with_reducible refine (HPC.out _ hx1).mono ?_); intro e2 w2 h2; obtain ⟨PA, pc, pu, VS, rfl, k1, k2, k4, hx2⟩ := HRS.out _ _ _ h2; have hx2' := hx1.trans hx2)
  | (go_at_call 99; (with_reducible refine (HSP.out _).mono ?_); rintro e3 w3 ⟨B3, d3, rfl, hsp, hx3⟩; have hx3' := hx2'.trans hx3))
 have how : OwnV w3 w3.heap.size 33 64 (.slice none 0 0) 0 (ints []) := OwnV.nil _ _ _ _
 have hob : OwnV w3 w3.heap.size 3 1 (.slice none 0 0) 0 (ints []) := OwnV.nil _ _ _ _
 have HG3 := hid_ ((hb1.ext hx2).ext hx3)
 have HSP3 := hid_ hsp
 have HX3 := hid_ hx3'
 have HK1 := hid_ (k1.ext hx3)
 have HK2 := hid_ (k2.ext hx3)
 have HK4 := hid_ k4
 clear hb1 hx1 hg hx2 hx2' hx3 hx3' hsp k1 k2 k4 h2
 go_loopw [14, 15, 37] (fun x y iv wr => ∃ (i m j : Nat) (X Y : List Int), i ≤ K ∧ iv = .int .i64 (i : Int) ∧ m ≤ n ∧ Hid (m = atK n e i) ∧ j ≤ i ∧ Hid (mendL T1 T2 n e P i = (X, Y)) ∧ OwnV wr w3.heap.size 33 64 x m (ints X) ∧ OwnV wr w3.heap.size 3 1 y j (ints Y) ∧ Ext w3 wr) (fun _ _ i _ => K - (intOf i).toNat)
 case atStart => exact ⟨0, 0, 0, [], [], by omega, rfl, by omega, hid_ HA0.out.symm, by omega, HM0, how, hob, Ext.refl _⟩
 case round =>
  clear how hob HM0 HA0
  obtain ⟨i, m, j, X, Y, hi, rfl, hm, HMA, hj, HMX, ⟨OA, oc, rfl, hown⟩, ⟨YA, yc, rfl, hbad⟩, hx⟩ := hrel
  by_cases hlt : i < K
  ·obtain ⟨td, hB, htb, htc⟩ := (HSP3.out.ext hx).part hlt
   subst hB
   obtain ⟨lo, hlo⟩ : ∃ q, i * spanE n e = q := ⟨_, rfl⟩
   obtain ⟨hh, hhh⟩ : ∃ q, min (lo + spanE n e) n = q := ⟨_, rfl⟩
   obtain ⟨ln, hln⟩ : ∃ q, lenAt n e i = q := ⟨_, rfl⟩
   have hln2 : min (n - lo) (spanE n e) = ln := by rw [← hln, ← hlo]; rfl
   have e2 : ((ints (spansL n e K)).drop (i * 2)).take 2 = ints [(lo : Int), (hh : Int)] := by
    have h := spansL_at n e K i hlt
    rw [hlo, hhh] at h
    rw [← h]
    simp [ints, List.map_drop, List.map_take]
   rw [e2] at htc
   have hlon : lo ≤ n := by rw [← hlo]; exact HAT.out i hlt
   have hlh : lo ≤ hh := by omega
   have hhn : hh ≤ n := by omega
   have hd : hh - lo = ln := by omega
   have HLN := hid_ hln
   have HMS : Hid (m + ln = atK n e (i + 1)) := hid_ (by rw [HAS.out i hlt, hln, HMA.out])
   have hms : m + ln ≤ n := by rw [HMS.out]; exact HAL.out _
   have HD := hid_ hd
   have HTC := hid_ htc
   have HBV := hid_ (bv_out [(lo : Int), (hh : Int)])
   have HS2 := hid_ (show (bv [(lo : Int), (hh : Int)]).size = 2 by rw [bv_size]; rfl)
   have HS20 := hid_ (show (Value.agg (bv [0, 0])).cells.size = 2 by rw [show (Value.agg (bv [0, 0])).cells = bv [0, 0] from rfl, bv_size]; rfl)
   have HO2 := hid_ (bv_one [(lo : Int), (hh : Int)])
   generalize bv [(lo : Int), (hh : Int)] = sp at *
   have HC0 : Hid (sp[0]? = some (.int .i64 (lo : Int)) ∧ sp[1]? = some (.int .i64 (hh : Int))) := hid_ (by rw [← HBV.out]; exact ⟨rfl, rfl⟩)
   have htd : td.block < wr.heap.size := htb
   have hln4 : ln ≤ 400 := by omega
   have HXEa := hid_ (fun r (h : mendAt T1 T2 n e P i = r) (h0 : r.1 ≠ 0) => show mendL T1 T2 n e P (i + 1) = (X ++ List.replicate (ln * 64) 0, Y ++ [(i : Int)]) by rw [mendL_err h h0, HMX.out, HLN.out])
   have HXOa := hid_ (fun r (h : mendAt T1 T2 n e P i = r) (h0 : r.1 = 0) => show mendL T1 T2 n e P (i + 1) = (X ++ r.2, Y) by rw [mendL_ok h h0, HMX.out])
   clear htb htc e2 hd hln2 hhh hlo hlon hln HMX HMA
   by_cases hp : i < pn
   ·obtain ⟨pd, u, hB, hpb, hpk, hpc⟩ := HK1.out.at1 hp
    subst hB
    have hiP : i < P.length := by rw [HPN.out]; exact hp
    obtain ⟨SA, sc, hv, hsl⟩ := HK2.out.2 i hiP
    rw [hv] at hpk
    obtain rfl := Option.some.inj hpk
    have hnz := HK4.out _ (List.mem_of_getElem? hv) _ _ _ rfl
    have hpm := HPM.out P[i] (List.getElem_mem hiP)
    have hgd : P.getD i [] = P[i] := by rw [List.getD_eq_getElem?_getD, List.getElem?_eq_getElem hiP]; rfl
    have hma : mendAt T1 T2 n e P i = decR true T1 T2 (ln : Int) (plZ P[i]) := by unfold mendAt; rw [if_pos hiP, hgd, HLN.out]
    have HSR := hid_ (fun W (h : Ext w3 W) => HSD.out W SA P[i].length sc P[i] (ln : Int) (HX3.out.trans h) (hsl.ext h) hnz hpm.2 hpm.1)
    have HPC := hid_ (fun W (h : Ext w3 W) => (h.cell (p := pd.add i) (by rw [block_of_add]; exact hpb)).trans hpc)
    have hrl : (decR true T1 T2 (ln : Int) (plZ P[i])).1 = 0 → (decR true T1 T2 (ln : Int) (plZ P[i])).2.length = ln * 64 := decR_len
    obtain ⟨r, hr⟩ : ∃ r, decR true T1 T2 (ln : Int) (plZ P[i]) = r := ⟨_, rfl⟩
    rw [hr] at HSR hrl hma
    have HXE := hid_ (HXEa.out r hma)
    have HXO := hid_ (HXOa.out r hma)
    obtain ⟨pl, hpl⟩ : ∃ q, P[i].length = q := ⟨_, rfl⟩
    rw [hpl] at HSR HPC
    obtain ⟨r1, r2⟩ := r
    dsimp only at hrl HXE HXO
    have HRA : Hid (∀ W e W', DecIs (r1, r2) W e W' → ∃ B k d, e = .returned (.tuple #[.slice B k d, .int .i64 r1]) ∧ (r1 = 0 → k = ln ∧ SL W' 64 (.slice B k d) k (ints r2)) ∧ Ext W W') := hid_ (fun W e W' h => by
     obtain ⟨hx, h⟩ := h
     by_cases h0 : r1 = 0
     ·subst h0
      rw [if_pos rfl] at h
      obtain ⟨B, k, d, rfl, h1, h2, -⟩ := h
      have h3 := hrl rfl
      exact ⟨B, k, d, rfl, fun _ => ⟨by dsimp only at h1; omega, h2⟩, hx⟩
     ·rw [if_neg h0] at h
      exact ⟨none, 0, 0, h, fun h => absurd h h0, hx⟩)
    have H51 : Hid (decide ((i : Int) < (pn : Int)) = true) := hid_ (by rw [decide_eq_true_eq]; omega)
    clear hr hsl hv hpc hpb hpm hgd hrl hpl hnz hma
    go_wp2_with (first
     | ((with_reducible apply gS 41); refine wpList_load_any (by rfl) 139 (.tmp 40) rfl (td.add (i * 2)) rfl (ints [(lo : Int), (hh : Int)]) _ HTC.out Tryz.underlying139 rfl sizeSpan ?_; rw [HBV.out])
     | ((with_reducible apply gS 17); refine wAlo' rfl (some 17) rfl 139 rfl _ zeroSpan ?_; intro w4 g16 hb4 hx4 hg4)
     | ((with_reducible apply gT 17 41); refine wStB rfl 139 (.tmp 17) (.tmp 41) rfl _ _ rfl rfl hb4 2 sizeSpan HS2.out HS20.out HO2.out ?_; intro w5 hb5 hg5; have hx5 : Ext wr w5 := hx4.grown hg5 hg4)
     | ((with_reducible apply gS 43); refine wl_read rfl (.int .i64 (hh : Int)) (ex_loadI rfl rfl ((hb5.cell 1).trans HC0.out.2)) ?_)
     | ((with_reducible apply gS 45); refine wl_read rfl (.int .i64 (lo : Int)) (ex_loadI rfl rfl ((hb5.cell 0).trans HC0.out.1)) ?_)
     | ((with_reducible apply gS 46); refine wl_run rfl (.int .i64 (ln : Int)) (by rw [← HD.out]; exact ex_subN (i := hh) (d := lo) rfl rfl rfl (by omega) hlh) ?_)
     | ((with_reducible apply gS 47); refine wpList_makeBlocks rfl (some 47) rfl (.tmp 46) (.tmp 46) rfl ln (by omega) rfl rfl ?_; intro w6 g6 hb6 hx6 hg6; have hx6' := hx5.trans hx6)
     | ((with_reducible apply gS 51); refine wl_run rfl (.bool true) (ex_lss rfl rfl rfl H51.out) ?_))
    have hx8d : Ext w3 w6.drew := (hx.trans hx6').drew
    have ho8d := own_keep hown (hx6'.drew)
    have hbad8 := own_keep hbad (hx6'.drew)
    have hz8 := hb6.drew
    clear hb4 hx4 hg4 hb5 hg5 hx5 hb6 hx6 hx6' hg6
    have HGX := hid_ (fun W (h : Ext w6.drew W) => ((HG3.out.ext hx8d).ext h))
    have hI : Ext w6.drew w6.drew := Ext.refl _
    by_cases h0 : r1 = 0
    ·subst h0
     refine wp_region_oi (Ext w6.drew) (by kernel_rfl) ?_
     refine oi_fix (k := 0) (by kernel_rfl) rfl (by rfl) (.agg tt) (fun W hW => ex_loadB rfl rfl (HGX.out W hW) Tryz.underlying44 rfl sizeTbls hsz.out) hI ?_
     simp only [Act.put, sA, sB, sC]
     refine oi_run (k := 1) (by kernel_rfl) rfl (by rfl) (.slice (some pd) pn pc) (ex_move rfl rfl) hI ?_
     simp only [Act.put, sA, sB, sC]
     refine oi_run (k := 2) (by kernel_rfl) rfl (by rfl) (.int .i64 (i : Int)) (ex_move rfl rfl) hI ?_
     simp only [Act.put, sA, sB, sC]
     refine oi_run (k := 3) (by kernel_rfl) rfl (by rfl) (.pointer (some (pd.add (i * 1)))) (ex_ixSl Tryz.underlying71 sizeBs rfl rfl rfl hp) hI ?_
     simp only [Act.put, sA, sB, sC]
     refine oi_fix (k := 4) (by kernel_rfl) rfl (by rfl) (.slice SA pl sc) (fun W hW => ex_loadS rfl rfl (by rw [Nat.mul_one]; exact HPC.out W (hx8d.trans hW))) hI ?_
     simp only [Act.put, sA, sB, sC]
     refine oi_run (k := 5) (by kernel_rfl) rfl (by rfl) (.slice (some ⟨g6, 0, none⟩) ln ln) (ex_move rfl rfl) hI ?_
     simp only [Act.put, sA, sB, sC]
     refine oi_run (k := 6) (by kernel_rfl) rfl (by rfl) (.int .i64 (ln : Int)) (ex_lenB rfl rfl) hI ?_
     simp only [Act.put, sA, sB, sC]
     refine oi_loud (k := 7) (by kernel_rfl) rfl ?_
     refine wl_enter (by rfl) (run_callv _ _ _ rfl rfl goesSegDec #[.agg tt, .slice SA pl sc, .int .i64 (ln : Int)] (by simp [Act.eval])) ?_
     refine (HSR.out _ hx8d).mono ?_
     intro e9 w9 h9
     obtain ⟨B9, k9, d9, rfl, hr9, hx9⟩ := HRA.out _ _ _ h9
     refine ⟨_, rfl, oi_end ⟨hx9, ?_⟩⟩
     simp only [Act.put, sA, sB, sC]
     refine oi_run (k := 8) (by kernel_rfl) rfl (by rfl) (.tuple #[.slice B9 k9 d9, .int .i64 0]) (ex_move rfl rfl) hx9 ?_
     simp only [Act.put, sA, sB, sC]
     refine oi_run (k := 9) (by kernel_rfl) rfl (by rfl) (.slice B9 k9 d9) (ex_extract rfl rfl rfl) hx9 ?_
     simp only [Act.put, sA, sB, sC]
     refine oi_run (k := 10) (by kernel_rfl) rfl (by rfl) (.int .i64 0) (ex_extract rfl rfl rfl) hx9 ?_
     simp only [Act.put, sA, sB, sC]
     refine oi_run (k := 11) (by kernel_rfl) rfl (by rfl) (.slice B9 k9 d9) (ex_assign rfl rfl) hx9 ?_
     simp only [Act.put, sA, sB, sC]
     refine oi_run (k := 12) (by kernel_rfl) rfl (by rfl) (.int .i64 0) (ex_assign rfl rfl) hx9 ?_
     simp only [Act.put, sA, sB, sC]
     refine oi_done (by kernel_rfl) ?_
     have ho9 := own_keep ho8d hx9
     have hbad9 := own_keep hbad8 hx9
     have hz9 := hz8.ext hx9
     have hy9 := hx8d.trans hx9
     obtain ⟨hk9, hs9⟩ := hr9 (by first | rfl | trivial)
     subst hk9
     go_wp2_with (first
      | ((with_reducible apply gS 72); at_builtin; refine wApf elt_blk rfl (.tmp 70) (.tmp 71) rfl w3.heap.size (.slice OA m oc) m (ints X) rfl ho9 _ k9 (ints r2) rfl hs9 (ints_one_mem _) (by omega) (by omega) hy9.size ?_; intro A13 c13 w13 ho13 hgr13 hor13; have hy13 := ext_grow hy9 hgr13 (fun b hb => (ho9.lt b hb).1); have hbad13 := own_upd2 hbad9 (upd_grown hgr13) (fun x hx e => own_apart hbad9 ho9 (Ne.symm blkNeI) x hx e)))
     go_roundw
     case rel => exact ⟨i + 1, m + k9, j, X ++ r2, Y, by omega, by go_num, hms, HMS, by omega, hid_ (HXO.out (by first | rfl | trivial)), ⟨A13, c13, rfl, by rw [ints_app]; exact ho13⟩, ⟨YA, yc, rfl, hbad13⟩, hy13⟩
     case measure => simp [intOf]; omega
    ·have h0b : (r1 == 0) = false := by simpa using h0
     have H0N := hid_ h0
     clear h0
     refine wp_region_oi (Ext w6.drew) (by kernel_rfl) ?_
     refine oi_fix (k := 0) (by kernel_rfl) rfl (by rfl) (.agg tt) (fun W hW => ex_loadB rfl rfl (HGX.out W hW) Tryz.underlying44 rfl sizeTbls hsz.out) hI ?_
     simp only [Act.put, sA, sB, sC]
     refine oi_run (k := 1) (by kernel_rfl) rfl (by rfl) (.slice (some pd) pn pc) (ex_move rfl rfl) hI ?_
     simp only [Act.put, sA, sB, sC]
     refine oi_run (k := 2) (by kernel_rfl) rfl (by rfl) (.int .i64 (i : Int)) (ex_move rfl rfl) hI ?_
     simp only [Act.put, sA, sB, sC]
     refine oi_run (k := 3) (by kernel_rfl) rfl (by rfl) (.pointer (some (pd.add (i * 1)))) (ex_ixSl Tryz.underlying71 sizeBs rfl rfl rfl hp) hI ?_
     simp only [Act.put, sA, sB, sC]
     refine oi_fix (k := 4) (by kernel_rfl) rfl (by rfl) (.slice SA pl sc) (fun W hW => ex_loadS rfl rfl (by rw [Nat.mul_one]; exact HPC.out W (hx8d.trans hW))) hI ?_
     simp only [Act.put, sA, sB, sC]
     refine oi_run (k := 5) (by kernel_rfl) rfl (by rfl) (.slice (some ⟨g6, 0, none⟩) ln ln) (ex_move rfl rfl) hI ?_
     simp only [Act.put, sA, sB, sC]
     refine oi_run (k := 6) (by kernel_rfl) rfl (by rfl) (.int .i64 (ln : Int)) (ex_lenB rfl rfl) hI ?_
     simp only [Act.put, sA, sB, sC]
     refine oi_loud (k := 7) (by kernel_rfl) rfl ?_
     refine wl_enter (by rfl) (run_callv _ _ _ rfl rfl goesSegDec #[.agg tt, .slice SA pl sc, .int .i64 (ln : Int)] (by simp [Act.eval])) ?_
     refine (HSR.out _ hx8d).mono ?_
     intro e9 w9 h9
     obtain ⟨B9, k9, d9, rfl, hr9, hx9⟩ := HRA.out _ _ _ h9
     refine ⟨_, rfl, oi_end ⟨hx9, ?_⟩⟩
     simp only [Act.put, sA, sB, sC]
     refine oi_run (k := 8) (by kernel_rfl) rfl (by rfl) (.tuple #[.slice B9 k9 d9, .int .i64 r1]) (ex_move rfl rfl) hx9 ?_
     simp only [Act.put, sA, sB, sC]
     refine oi_run (k := 9) (by kernel_rfl) rfl (by rfl) (.slice B9 k9 d9) (ex_extract rfl rfl rfl) hx9 ?_
     simp only [Act.put, sA, sB, sC]
     refine oi_run (k := 10) (by kernel_rfl) rfl (by rfl) (.int .i64 r1) (ex_extract rfl rfl rfl) hx9 ?_
     simp only [Act.put, sA, sB, sC]
     refine oi_run (k := 11) (by kernel_rfl) rfl (by rfl) (.slice B9 k9 d9) (ex_assign rfl rfl) hx9 ?_
     simp only [Act.put, sA, sB, sC]
     refine oi_run (k := 12) (by kernel_rfl) rfl (by rfl) (.int .i64 r1) (ex_assign rfl rfl) hx9 ?_
     simp only [Act.put, sA, sB, sC]
     refine oi_done (by kernel_rfl) ?_
     have ho9 := own_keep ho8d hx9
     have hbad9 := own_keep hbad8 hx9
     have hz9 := hz8.ext hx9
     have hy9 := hx8d.trans hx9
     go_wp2_with (first
      | ((with_reducible apply gS 68); refine wLit1 rfl 22 3 (.tmp 67) rfl (some 68) rfl Tryz.underlying22 1 sizeI zeroI _ rfl rfl (by omega) (by omega) ?_; intro w11 g11 hb11 hx11 hg11; have hbad11 := own_keep hbad9 hx11; have hown11 := own_keep ho9 hx11; have hz11 := hz9.ext hx11; have hy11 := hy9.trans hx11)
      | ((with_reducible apply gS 69); at_builtin; refine wApf elt_intR rfl (.tmp 66) (.tmp 68) rfl w3.heap.size (.slice YA j yc) j (ints Y) rfl hbad11 _ 1 (ints [(i : Int)]) rfl (blk_one hb11) (ints_one_mem _) (by omega) (by omega) hy11.size ?_; intro A12 c12 w12 ho12 hgr12 hor12; have hy12 := ext_grow hy11 hgr12 (fun b hb => (hbad11.lt b hb).1); have hown12 := own_upd2 hown11 (upd_grown hgr12) (fun x hx e => own_apart hown11 hbad11 blkNeI x hx e); have hz12 := hz11.grown hgr12 (own_blk_ne hbad11 hz11 (Ne.symm blkNeI)))
      | ((with_reducible apply gS 72); at_builtin; refine wApf elt_blk rfl (.tmp 70) (.tmp 71) rfl w3.heap.size (.slice OA m oc) m (ints X) rfl hown12 _ ln (ints (List.replicate (ln * 64) 0)) rfl (rep_sl hz12 (by omega)) (ints_one_mem _) (by omega) (by omega) hy12.size ?_; intro A13 c13 w13 ho13 hgr13 hor13; have hy13 := ext_grow hy12 hgr13 (fun b hb => (hown12.lt b hb).1); have hbad13 := own_upd2 ho12 (upd_grown hgr13) (fun x hx e => own_apart ho12 hown12 (Ne.symm blkNeI) x hx e)))
     go_roundw
     case rel => exact ⟨i + 1, m + ln, j + 1, X ++ List.replicate (ln * 64) 0, Y ++ [(i : Int)], by omega, by go_num, hms, HMS, by omega, hid_ (HXE.out H0N.out), ⟨A13, c13, rfl, by rw [ints_app]; exact ho13⟩, ⟨A12, c12, rfl, by rw [ints_app]; exact hbad13⟩, hy13⟩
     case measure => simp [intOf]; omega
   ·have hiP : ¬ i < P.length := by rw [HPN.out]; exact hp
    have hma : mendAt T1 T2 n e P i = (5, []) := by unfold mendAt; rw [if_neg hiP]
    have HXE := hid_ (HXEa.out _ hma)
    have H51 : Hid (decide ((i : Int) < (pn : Int)) = false) := hid_ (by rw [decide_eq_false_iff_not]; omega)
    clear hma hiP HXOa
    have hy6 : ∀ w6, Ext wr w6 → Ext w3 w6 := fun w6 h => hx.trans h
    go_wp2_with (first
     | ((with_reducible apply gS 41); refine wpList_load_any (by rfl) 139 (.tmp 40) rfl (td.add (i * 2)) rfl (ints [(lo : Int), (hh : Int)]) _ HTC.out Tryz.underlying139 rfl sizeSpan ?_; rw [HBV.out])
     | ((with_reducible apply gS 17); refine wAlo' rfl (some 17) rfl 139 rfl _ zeroSpan ?_; intro w4 g16 hb4 hx4 hg4)
     | ((with_reducible apply gT 17 41); refine wStB rfl 139 (.tmp 17) (.tmp 41) rfl _ _ rfl rfl hb4 2 sizeSpan HS2.out HS20.out HO2.out ?_; intro w5 hb5 hg5; have hx5 : Ext wr w5 := hx4.grown hg5 hg4)
     | ((with_reducible apply gS 43); refine wl_read rfl (.int .i64 (hh : Int)) (ex_loadI rfl rfl ((hb5.cell 1).trans HC0.out.2)) ?_)
     | ((with_reducible apply gS 45); refine wl_read rfl (.int .i64 (lo : Int)) (ex_loadI rfl rfl ((hb5.cell 0).trans HC0.out.1)) ?_)
     | ((with_reducible apply gS 46); refine wl_run rfl (.int .i64 (ln : Int)) (by rw [← HD.out]; exact ex_subN (i := hh) (d := lo) rfl rfl rfl (by omega) hlh) ?_)
     | ((with_reducible apply gS 47); refine wpList_makeBlocks rfl (some 47) rfl (.tmp 46) (.tmp 46) rfl ln (by omega) rfl rfl ?_; intro w6 g6 hb6 hx6 hg6; have hx6' := hx5.trans hx6)
     | ((with_reducible apply gS 51); refine wl_run rfl (.bool false) (ex_lss rfl rfl rfl H51.out) ?_)
     | ((with_reducible apply gS 68); refine wLit1 rfl 22 3 (.tmp 67) rfl (some 68) rfl Tryz.underlying22 1 sizeI zeroI _ rfl rfl (by omega) (by omega) ?_; intro w11 g11 hb11 hx11 hg11; have hbad11 := own_keep hbad (hx6'.trans hx11); have hown11 := own_keep hown (hx6'.trans hx11); have hz11 := hb6.ext hx11; have hy11 := (hx.trans hx6').trans hx11)
     | ((with_reducible apply gS 69); at_builtin; refine wApf elt_intR rfl (.tmp 66) (.tmp 68) rfl w3.heap.size (.slice YA j yc) j (ints Y) rfl hbad11 _ 1 (ints [(i : Int)]) rfl (blk_one hb11) (ints_one_mem _) (by omega) (by omega) hy11.size ?_; intro A12 c12 w12 ho12 hgr12 hor12; have hy12 := ext_grow hy11 hgr12 (fun b hb => (hbad11.lt b hb).1); have hown12 := own_upd2 hown11 (upd_grown hgr12) (fun x hx e => own_apart hown11 hbad11 blkNeI x hx e); have hz12 := hz11.grown hgr12 (own_blk_ne hbad11 hz11 (Ne.symm blkNeI)))
     | ((with_reducible apply gS 72); at_builtin; refine wApf elt_blk rfl (.tmp 70) (.tmp 71) rfl w3.heap.size (.slice OA m oc) m (ints X) rfl hown12 _ ln (ints (List.replicate (ln * 64) 0)) rfl (rep_sl hz12 (by omega)) (ints_one_mem _) (by omega) (by omega) hy12.size ?_; intro A13 c13 w13 ho13 hgr13 hor13; have hy13 := ext_grow hy12 hgr13 (fun b hb => (hown12.lt b hb).1); have hbad13 := own_upd2 ho12 (upd_grown hgr13) (fun x hx e => own_apart ho12 hown12 (Ne.symm blkNeI) x hx e)))
    go_roundw
    case rel => exact ⟨i + 1, m + ln, j + 1, X ++ List.replicate (ln * 64) 0, Y ++ [(i : Int)], by omega, by go_num, hms, HMS, by omega, hid_ (HXE.out (by decide)), ⟨A13, c13, rfl, by rw [ints_app]; exact ho13⟩, ⟨A12, c12, rfl, by rw [ints_app]; exact hbad13⟩, hy13⟩
    case measure => simp [intOf]; omega
  ·have hiK : i = K := by omega
   subst hiK
   have HRR : Hid (R = (X, Y)) := hid_ (by rw [← HR.out, HMX.out])
   have HXL : Hid (X.length = m * 64) := hid_ (by have h := HML.out i (by omega); rw [HMX.out] at h; rw [HMA.out]; exact h)
   have hyl : Y.length = j := by have := hbad.1; simpa [ints] using this
   go_wp2_with fail
   go_ret3
   refine ⟨HX3.out.trans hx, ?_⟩
   rw [if_pos rfl, HRR.out]
   exact ⟨OA, m, oc, YA, j, yc, rfl, HXL.out, (own_out hown).1, hyl, (own_out hbad).1, fun ad e => Nat.le_trans HX3.out.size ((own_out hbad).2 ad e)⟩
end
set_option maxRecDepth 20000 in
theorem run_copy_blk (w : World) (ty : TypeId) (g off : Nat) (D S : Option Addr) (dLen dCap sLen sCap : Nat) (cur : Array Value) (t : TypeId) (cs : List Value) (hg : Blk w g t cur) (hle : sLen ≤ dLen)
 (hsl : SL w 64 (.slice S sLen sCap) sLen cs) (hD : 0 < sLen → D = some ⟨g, off, none⟩) (hfit : off + cs.length ≤ cur.size) (h1 : ∀ v ∈ cs, v.oneCell' = true) :
 (Builtin.copy_ #[25, 25] ty #[.slice D dLen dCap, .slice S sLen sCap]).run Tryz.prog w = .ok (goInt sLen) (w.setRow g (splice cur.toList off cs).toArray) := by
 have hu := Tryz.underlying25
 have hs := size48
 obtain ⟨A', c', e, -, -, hn, hS⟩ := hsl
 injection e with e1 e2 e3
 subst e1 e3
 have hmin : Nat.min sLen dLen = sLen := Nat.min_eq_left hle
 cases hq : Tryz.prog.info? 33 with
 | none => simp [hq] at hs
 | some i =>
   have hi : i.size = 64 := by simpa [hq] using hs
   by_cases h0 : sLen = 0
   ·subst h0
    have hcs : cs = [] := List.eq_nil_of_length_eq_zero (by simpa using hn)
    subst hcs
    have e2 : (splice cur.toList off []).toArray = cur := by simp [splice]
    rw [e2, setRow_self w g cur t (0, 0) hg]
    cases S <;> cases D <;> simp [Builtin.copy_, run_underlying hu, Builtin.lenOf, Builtin.firstCells, sizeOf, typeInfo, hq, hi, loadCells, loadCellsFrom, storeCells]
   ·obtain ⟨ad, rfl, -, hc⟩ := hS (by omega)
    obtain rfl := hD (by omega)
    have hl := run_loadCells_list (P := Tryz.prog) w ad cs hc
    have hst := run_storeCells_at Tryz.prog g off t cs 0 cur w hg (by simpa using hfit) h1
    rw [hn] at hl
    simp [Builtin.copy_, run_underlying hu, Builtin.lenOf, Builtin.firstCells, sizeOf, typeInfo, hq, hi, hmin, hl, hst, splice]
theorem wpList_copy_blk {ops : Array Oper} {rest : List Oper} {o : Oper} {a : Act} {w : World} {Q : Exit → Act → World → Prop} (hgd : o.guard = none) (d s : Operand)
 (ho : o.op = .call { callee := .builtin .copy, args := #[d, s], argTypes := #[25, 25] }) (g off : Nat) (D S : Option Addr) (dLen dCap sLen sCap : Nat) (hd : a.eval d = .slice D dLen dCap) (hs : a.eval s = .slice S sLen sCap)
 {t : TypeId} {cur : Array Value} (hB : Blk w g t cur) (hle : sLen ≤ dLen) (cs : List Value) (hsl : SL w 64 (.slice S sLen sCap) sLen cs) (hD : 0 < sLen → D = some ⟨g, off, none⟩) (hfit : off + cs.length ≤ cur.size) (h1 : ∀ v ∈ cs, v.oneCell' = true)
 (h : ∀ w1, Blk w1 g t (splice cur.toList off cs).toArray → w.grownBy w1 (some g) → wpList Tryz.prog ops Q rest (a.put o.dst (goInt sLen)) w1) : wpList Tryz.prog ops Q (o :: rest) a w := by
 refine wpList_plain hgd fun K hK => ?_
 have hrun := run_copy_blk w o.type g off D S dLen dCap sLen sCap cur t cs hB hle hsl hD hfit h1
 unfold Oper.wp
 simp [execOp, ho, resolve, invoke, builtin, hd, hs, hrun, Result.andThen]
 exact hK _ _ (h _ (setRow_heap w g cur _ t (0, 0) hB) ⟨rfl, rfl, rfl, by simp [World.setRow], fun k hk hne => setRow_other w g k _ (fun e => hne (by rw [e]))⟩)
theorem splice_rep {acc r : List Int} {m l q : Nat} (ha : acc.length = m) (hr : r.length = l) : (splice (bv (acc ++ List.replicate (l + q) 0)).toList m (ints r)).toArray = bv ((acc ++ r) ++ List.replicate q 0) := by
 subst ha hr
 have hL : (bv (acc ++ List.replicate (r.length + q) 0)).toList = ints acc ++ (ints (List.replicate r.length 0) ++ ints (List.replicate q 0)) := by
  rw [← List.replicate_append_replicate, ← ints_app, ← ints_app]; rfl
 unfold splice
 have hD : (ints acc ++ (ints (List.replicate r.length 0) ++ ints (List.replicate q 0))).drop (acc.length + (ints r).length) = ints (List.replicate q 0) := by
  rw [← List.append_assoc, List.drop_left' (by simp [ints_len])]
 rw [hL, List.take_left' (ints_len acc), hD]
 show (ints acc ++ (ints r ++ ints (List.replicate q 0))).toArray = (ints (acc ++ r ++ List.replicate q 0)).toArray
 rw [ints_app, ints_app, List.append_assoc]
section
theorem bv_lst (zs : List Int) : (bv zs).toList = ints zs := rfl
set_option maxRecDepth 20000 in
set_option maxHeartbeats 1000000 in
theorem rscanMend_err (tt : Array Value) (hsz0 : tt.size = 34) (v : Value) (nn ev : Int) (z : Int) (hz : z ≠ 0) (w : World)
 (WC : ∀ W, Ext w W → Calls Tryz.prog 116 #[.agg tt, v, .int .i64 nn, .int .i64 ev] W (PcErr z W)) : Calls Tryz.prog 59 #[.agg tt, v, .int .i64 nn, .int .i64 ev] w (MendIs (z, [], []) w) := by
 have HWC := hid_ WC
 have hsz := hid_ hsz0
 have hzb : (z != 0) = true := by simpa using hz
 have HZ := hid_ hz
 clear WC hsz0 hz
 go_enter Tryz.func59, Tryz.ntmps59
 go_wp2_with (first
  | ((with_reducible apply gS 4); refine wBox rfl 44 (.tmp 0) rfl tt rfl ?_; intro w1 g hb1 hx1 hg)
  | ((with_reducible apply gS 23); refine wLdB rfl 44 (.tmp 4) rfl g rfl hb1 _ Tryz.underlying44 rfl 34 sizeTbls hsz.out ?_)
  | (go_at_call 116; (with_reducible refine (HWC.out _ hx1).mono ?_); rintro e w2 ⟨rfl, hx2⟩))
 go_ret3
 refine ⟨hx1.trans hx2, ?_⟩
 rw [if_neg HZ.out]
 rfl
attribute [local irreducible] bytesV bv mendL mendAt mendPart partsL spanE cutK plZ decR atK
set_option maxRecDepth 20000 in
set_option maxHeartbeats 16000000 in
theorem rscanMend_good (T1 T2 : List Tok) (tt : Array Value) (hsz0 : tt.size = 34) (v : Value) (n e : Nat) (hn : n ≤ 400) (he : e ≤ 100) (P : List (List Nat)) (M : List Nat) (hPM : ∀ p ∈ P, p.length ≤ 1048576 ∧ ∀ b ∈ p, b < 256) (w : World)
 (PC : ∀ W, Ext w W → Calls Tryz.prog 116 #[.agg tt, v, .int .i64 (n : Int), .int .i64 (e : Int)] W (SpIs (some (P, M)) W))
 (SD : ∀ W A' m c' bs' nn', Ext w W → SL W 1 (.slice A' m c') m (bytesV bs') → (∀ b ∈ bs', b < 256) → m ≤ 1048576 → Calls Tryz.prog 117 #[.agg tt, .slice A' m c', .int .i64 nn'] W (DecIs (decR true T1 T2 nn' (plZ bs')) W)) :
 Calls Tryz.prog 59 #[.agg tt, v, .int .i64 (n : Int), .int .i64 (e : Int)] w (MendIs (0, (mendL T1 T2 n e P (cutK n e)).1, (mendL T1 T2 n e P (cutK n e)).2) w) := by
 have hsz := hid_ hsz0
 have HSP := hid_ (fun W => parts_anyF n e (by omega) (by omega) W)
 have hKl := cutK_le (n := n) (e := e)
 have HAS := hid_ (fun i (h : i < cutK n e) => atK_succ h)
 have HML := hid_ (fun i (h : i ≤ cutK n e) => mendL_len (T1 := T1) (T2 := T2) (P := P) i h)
 have HAE := hid_ (atK_end n e)
 obtain ⟨R, hRR⟩ : ∃ R, mendL T1 T2 n e P (cutK n e) = R := ⟨_, rfl⟩
 rw [hRR]
 obtain ⟨K, hKK⟩ : ∃ K, cutK n e = K := ⟨_, rfl⟩
 rw [hKK] at HSP hKl HAS HML HAE hRR
 have HR := hid_ hRR
 have HM0 : Hid (mendL T1 T2 n e P 0 = ([], [])) := hid_ (by rw [mendL])
 have HA0 : Hid (atK n e 0 = 0) := hid_ (atK_0 n e)
 have HAL := hid_ (fun i => atK_le n e i)
 obtain ⟨pn, hpn⟩ : ∃ k, P.length = k := ⟨_, rfl⟩
 have HPN := hid_ hpn
 have HRS : Hid (∀ W e' W', SpIs (some (P, M)) W e' W' → ∃ A c u VS, e' = .returned (.tuple #[.slice A pn c, u, .int .i64 0]) ∧ SL W' 1 (.slice A pn c) pn VS ∧ Pieces W' VS P ∧ Ext W W') := hid_ (fun W e' W' h => by
  rw [← hpn]
  obtain ⟨A, c, B, d, VS, h1, h2, h3, -, h5⟩ := h
  exact ⟨A, c, _, VS, h1, h2, h3, h5⟩)
 have HPC := hid_ PC
 have HPM := hid_ hPM
 have HSD := hid_ SD
 clear hRR hKK PC hPM SD hsz0 hpn
 go_enter Tryz.func59, Tryz.ntmps59
 go_wp2_with (first
  | ((with_reducible apply gS 4); refine wBox rfl 44 (.tmp 0) rfl tt rfl ?_; intro w1 g hb1 hx1 hg)
  | ((with_reducible apply gS 23); refine wLdB rfl 44 (.tmp 4) rfl g rfl hb1 _ Tryz.underlying44 rfl 34 sizeTbls hsz.out ?_)
  | (go_at_call 116; (with_reducible refine (HPC.out _ hx1).mono ?_); intro e2 w2 h2; obtain ⟨PA, pc, pu, VS, rfl, k1, k2, hx2⟩ := HRS.out _ _ _ h2; have hx2' := hx1.trans hx2)
  | ((with_reducible apply gS 35); refine wpList_makeBlocks rfl (some 35) rfl (.tmp 34) (.tmp 34) rfl n (by omega) rfl rfl ?_; intro wm g0 hbm hxm hgm)
  | (go_at_call 46; (with_reducible refine (HSP.out _).mono ?_); rintro e3 w3 ⟨B3, d3, rfl, hsp, hx3, hfr⟩))
 have hob : OwnV w3 w3.heap.size 3 1 (.slice none 0 0) 0 (ints []) := OwnV.nil _ _ _ _
 have HG2 := hid_ (hb1.ext hx2)
 have HX2 := hid_ hx2'
 have HX23 := hid_ (hxm.trans hx3)
 have HSP3 := hid_ hsp
 have HFR : Hid (∀ ad, B3 = some ad → ad.block ≠ g0) := hid_ (fun ad e h => by have := hfr ad e; have := hbm.lt; omega)
 have HK1 := hid_ k1
 have HK2 := hid_ k2
 have hgm2 : w2.heap.size ≤ g0 := hgm
 have hgm3 : g0 < w3.heap.size := Nat.lt_of_lt_of_le hbm.lt hx3.size
 have HNN : Hid (n * 64 = (n - 0) * 64) := hid_ (by rw [Nat.sub_zero])
 have hb0 : Blk w3 g0 33 (bv ([] ++ List.replicate ((n - 0) * 64) 0)) := by rw [← HNN.out]; exact hbm.ext hx3
 clear hb1 hx1 hg hx2 hx2' hx3 hsp k1 k2 h2 hbm hxm hgm hfr HNN
 go_loopw [15, 16, 40] (fun y av iv wr => ∃ (i m j : Nat) (X Y : List Int), i ≤ K ∧ iv = .int .i64 (i : Int) ∧ av = .int .i64 (m : Int) ∧ m ≤ n ∧ Hid (m = atK n e i) ∧ j ≤ i ∧ Hid (mendL T1 T2 n e P i = (X, Y)) ∧ Hid (X.length = m * 64) ∧ Blk wr g0 33 (bv (X ++ List.replicate ((n - m) * 64) 0)) ∧ OwnV wr w3.heap.size 3 1 y j (ints Y) ∧ Upd (fun b => b = g0) w3 wr) (fun _ _ i _ => K - (intOf i).toNat)
 case atStart => exact ⟨0, 0, 0, [], [], by omega, rfl, rfl, by omega, hid_ HA0.out.symm, by omega, HM0, hid_ rfl, hb0, hob, Upd.refl _ _⟩
 case round =>
  clear hb0 hob HM0 HA0
  obtain ⟨i, m, j, X, Y, hi, rfl, rfl, hm, HMA, hj, HMX, HXL, hbg, ⟨YA, yc, rfl, hbad⟩, hu⟩ := hrel
  have hx2r : Ext w2 wr := hu.ext HX23.out (fun x hx => by rw [hx]; exact hgm2)
  by_cases hlt : i < K
  ·have hspr := HSP3.out.upd hu (fun ad e h => HFR.out ad e h)
   obtain ⟨td, u, hB, htb, htk, htc⟩ := hspr.at1 hlt
   subst hB
   obtain ⟨ln, hln⟩ : ∃ q, lenAt n e i = q := ⟨_, rfl⟩
   have hu' : u = .int .i64 (ln : Int) := by
    have h := partsL_at n e K i hlt
    have h2 : (ints (partsL n e K))[i]? = some (.int .i64 ((lenAt n e i : Nat) : Int)) := by
     rw [ints, List.getElem?_map, List.getElem?_eq_getElem (by rw [partsL_len]; exact hlt), h]
     rfl
    rw [h2, hln] at htk
    exact (Option.some.inj htk).symm
   subst hu'
   have HLN := hid_ hln
   have HMS : Hid (m + ln = atK n e (i + 1)) := hid_ (by rw [HAS.out i hlt, hln, HMA.out])
   have hms : m + ln ≤ n := by rw [HMS.out]; exact HAL.out _
   have hln4 : ln ≤ 400 := by omega
   have HXEa := hid_ (fun r (h : mendAt T1 T2 n e P i = r) (h0 : r.1 ≠ 0) => show mendL T1 T2 n e P (i + 1) = (X ++ List.replicate (ln * 64) 0, Y ++ [(i : Int)]) by rw [mendL_err h h0, HMX.out, HLN.out])
   have HXOa := hid_ (fun r (h : mendAt T1 T2 n e P i = r) (h0 : r.1 = 0) => show mendL T1 T2 n e P (i + 1) = (X ++ r.2, Y) by rw [mendL_ok h h0, HMX.out])
   obtain ⟨q2, hq2⟩ : ∃ q, (n - (m + ln)) * 64 = q := ⟨_, rfl⟩
   have HQ2 := hid_ hq2
   have hqq : (n - m) * 64 = ln * 64 + q2 := by rw [← hq2, ← Nat.add_mul]; congr 1; omega
   have HAPP : Hid (X ++ List.replicate ((n - m) * 64) (0 : Int) = (X ++ List.replicate (ln * 64) 0) ++ List.replicate q2 0) := hid_ (by rw [hqq, List.append_assoc, List.replicate_append_replicate])
   have HXR : Hid ((X ++ List.replicate (ln * 64) (0 : Int)).length = (m + ln) * 64) := hid_ (by rw [List.length_append, HXL.out, List.length_replicate, Nat.add_mul])
   clear htk hln HMX HMA hspr hq2
   by_cases hp : i < pn
   ·obtain ⟨pd, u, hB, hpb, hpk, hpc⟩ := HK1.out.at1 hp
    subst hB
    have hiP : i < P.length := by rw [HPN.out]; exact hp
    obtain ⟨SA, sc, hv, hsl⟩ := HK2.out.2 i hiP
    rw [hv] at hpk
    obtain rfl := Option.some.inj hpk
    have hpm := HPM.out P[i] (List.getElem_mem hiP)
    have hgd : P.getD i [] = P[i] := by rw [List.getD_eq_getElem?_getD, List.getElem?_eq_getElem hiP]; rfl
    have hma : mendAt T1 T2 n e P i = decR true T1 T2 (ln : Int) (plZ P[i]) := by unfold mendAt; rw [if_pos hiP, hgd, HLN.out]
    have HSR := hid_ (fun W (h : Ext w2 W) => HSD.out W SA P[i].length sc P[i] (ln : Int) (HX2.out.trans h) (hsl.ext h) hpm.2 hpm.1)
    have HPC := hid_ (fun W (h : Ext w2 W) => (h.cell (p := pd.add i) (by rw [block_of_add]; exact hpb)).trans hpc)
    have hrl : (decR true T1 T2 (ln : Int) (plZ P[i])).1 = 0 → (decR true T1 T2 (ln : Int) (plZ P[i])).2.length = ln * 64 := decR_len
    obtain ⟨r, hr⟩ : ∃ r, decR true T1 T2 (ln : Int) (plZ P[i]) = r := ⟨_, rfl⟩
    rw [hr] at HSR hrl hma
    have HXE := hid_ (HXEa.out r hma)
    have HXO := hid_ (HXOa.out r hma)
    obtain ⟨pl, hpl⟩ : ∃ q, P[i].length = q := ⟨_, rfl⟩
    rw [hpl] at HSR HPC
    obtain ⟨r1, r2⟩ := r
    dsimp only at hrl HXE HXO
    have HRL := hid_ hrl
    have HRA : Hid (∀ W e W', DecIs (r1, r2) W e W' → (r1 = 0 ∧ ∃ B d, e = .returned (.tuple #[.slice B ln d, .int .i64 r1]) ∧ SL W' 64 (.slice B ln d) ln (ints r2) ∧ Ext W W') ∨ (r1 ≠ 0 ∧ e = .returned (.tuple #[.slice none 0 0, .int .i64 r1]) ∧ Ext W W')) := hid_ (fun W e W' h => by
     obtain ⟨hx, h⟩ := h
     by_cases h0 : r1 = 0
     ·subst h0
      rw [if_pos rfl] at h
      obtain ⟨B, k, d, rfl, h1, h2, -⟩ := h
      have h3 := hrl rfl
      obtain rfl : k = ln := by dsimp only at h1; omega
      exact .inl ⟨rfl, B, d, rfl, h2, hx⟩
     ·rw [if_neg h0] at h
      exact .inr ⟨h0, h, hx⟩)
    have H51 : Hid (decide ((i : Int) < (pn : Int)) = true) := hid_ (by rw [decide_eq_true_eq]; omega)
    have hcell0 : wr.cell? (td.add i) = some (.int .i64 (ln : Int)) := htc
    clear hr hsl hv hpc hpb hpm hgd hrl hpl hma htc
    go_wp2_with (first
     | ((with_reducible apply gS 48); refine wl_run rfl (.bool true) (ex_lss rfl rfl rfl H51.out) ?_))
    have hx8d : Ext w2 wr.drew := hx2r.drew
    have hud : Upd (fun b => b = g0) w3 wr.drew := hu.drew
    have hbad8 := own_keep hbad (Ext.refl wr).drew
    have hz8 := hbg.drew
    have HGX := hid_ (fun W (h : Ext wr.drew W) => ((HG2.out.ext hx8d).ext h))
    have hI : Ext wr.drew wr.drew := Ext.refl _
    clear hcell0
    by_cases h0 : r1 = 0
    ·have HRB : Hid (∀ W e W', DecIs (r1, r2) W e W' → ∃ B d, e = .returned (.tuple #[.slice B ln d, .int .i64 r1]) ∧ SL W' 64 (.slice B ln d) ln (ints r2) ∧ Ext W W') := hid_ (fun W e W' h => by
      rcases HRA.out W e W' h with ⟨-, h⟩ | ⟨h1, -⟩
      ·exact h
      ·exact absurd h0 h1)
     subst h0
     refine wp_region_oi (Ext wr.drew) (by kernel_rfl) ?_
     refine oi_fix (k := 0) (by kernel_rfl) rfl (by rfl) (.agg tt) (fun W hW => ex_loadB rfl rfl (HGX.out W hW) Tryz.underlying44 rfl sizeTbls hsz.out) hI ?_
     simp only [Act.put, sA, sB, sC]
     refine oi_run (k := 1) (by kernel_rfl) rfl (by rfl) (.slice (some pd) pn pc) (ex_move rfl rfl) hI ?_
     simp only [Act.put, sA, sB, sC]
     refine oi_run (k := 2) (by kernel_rfl) rfl (by rfl) (.int .i64 (i : Int)) (ex_move rfl rfl) hI ?_
     simp only [Act.put, sA, sB, sC]
     refine oi_run (k := 3) (by kernel_rfl) rfl (by rfl) (.pointer (some (pd.add (i * 1)))) (ex_ixSl Tryz.underlying71 sizeBs rfl rfl rfl hp) hI ?_
     simp only [Act.put, sA, sB, sC]
     refine oi_fix (k := 4) (by kernel_rfl) rfl (by rfl) (.slice SA pl sc) (fun W hW => ex_loadS rfl rfl (by rw [Nat.mul_one]; exact HPC.out W (hx8d.trans hW))) hI ?_
     simp only [Act.put, sA, sB, sC]
     refine oi_run (k := 5) (by kernel_rfl) rfl (by rfl) (.int .i64 (ln : Int)) (ex_move rfl rfl) hI ?_
     simp only [Act.put, sA, sB, sC]
     refine oi_loud (k := 6) (by kernel_rfl) rfl ?_
     refine wl_enter (by rfl) (run_callv _ _ _ rfl rfl goesRSegDec #[.agg tt, .slice SA pl sc, .int .i64 (ln : Int)] (by simp [Act.eval])) ?_
     refine (HSR.out _ hx8d).mono ?_
     intro e9 w9 h9
     obtain ⟨B9, d9, rfl, hs9, hx9⟩ := HRB.out _ _ _ h9
     refine ⟨_, rfl, oi_end ⟨hx9, ?_⟩⟩
     simp only [Act.put, sA, sB, sC]
     refine oi_run (k := 7) (by kernel_rfl) rfl (by rfl) (.tuple #[.slice B9 ln d9, .int .i64 0]) (ex_move rfl rfl) hx9 ?_
     simp only [Act.put, sA, sB, sC]
     refine oi_run (k := 8) (by kernel_rfl) rfl (by rfl) (.slice B9 ln d9) (ex_extract rfl rfl rfl) hx9 ?_
     simp only [Act.put, sA, sB, sC]
     refine oi_run (k := 9) (by kernel_rfl) rfl (by rfl) (.int .i64 0) (ex_extract rfl rfl rfl) hx9 ?_
     simp only [Act.put, sA, sB, sC]
     refine oi_run (k := 10) (by kernel_rfl) rfl (by rfl) (.slice B9 ln d9) (ex_assign rfl rfl) hx9 ?_
     simp only [Act.put, sA, sB, sC]
     refine oi_run (k := 11) (by kernel_rfl) rfl (by rfl) (.int .i64 0) (ex_assign rfl rfl) hx9 ?_
     simp only [Act.put, sA, sB, sC]
     refine oi_done (by kernel_rfl) ?_
     have hbad9 := own_keep hbad8 hx9
     have hz9 := hz8.ext hx9
     have hu9 := hud.trans (Upd.of_ext (S := fun _ => False) hx9) (fun x h => h.elim)
     have HFT : Hid (m * 64 + (ints r2).length ≤ (bv (X ++ List.replicate ((n - m) * 64) 0)).size) := hid_ (by rw [bv_size, List.length_append, List.length_replicate, HXL.out, ints_len, HRL.out (by first | rfl | trivial)]; omega)
     have HDD : Hid (0 < ln → subA (some ⟨g0, 0, none⟩) n m = some ⟨g0, m * 64, none⟩) := hid_ (fun h => by unfold subA; rw [if_neg (by omega), Option.map_some, addr_add, Nat.zero_add])
     have HSPL : Hid ((splice (bv (X ++ List.replicate ((n - m) * 64) 0)).toList (m * 64) (ints r2)).toArray = bv ((X ++ r2) ++ List.replicate ((n - (m + ln)) * 64) 0)) := hid_ (by rw [hqq, splice_rep HXL.out (HRL.out (by first | rfl | trivial)), HQ2.out])
     go_wp2_with (first
      | ((with_reducible apply gS 63); refine wl_run rfl (.slice (subA (some ⟨g0, 0, none⟩) n m) (n - m) (n - m)) (ex_subF rfl rfl rfl hm (Nat.le_refl n)) ?_)
      | ((with_reducible apply gS 65); refine wpList_copy_blk rfl (.tmp 63) (.tmp 64) rfl g0 (m * 64) _ _ (n - m) (n - m) ln d9 rfl rfl hz9 (by omega) (ints r2) hs9 HDD.out HFT.out (ints_one_mem _) ?_; intro w10 hb10 hg10; rw [HSPL.out] at hb10; have hu10 := hu9.grown hg10 (fun b hb => .inl (by injection hb with hb; exact hb.symm)); have hbad10 := own_upd2 hbad9 (upd_grown hg10) (fun x hx e => own_blk_ne hbad9 hz9 (Ne.symm blkNeI) (by rw [hx]; exact e))))
     go_roundw
     case rel => exact ⟨i + 1, m + ln, j, X ++ r2, Y, by omega, by go_num, by go_num, hms, HMS, by omega, hid_ (HXO.out (by first | rfl | trivial)), hid_ (by rw [List.length_append, HXL.out, HRL.out (by first | rfl | trivial), Nat.add_mul]), hb10, ⟨YA, yc, rfl, hbad10⟩, hu10⟩
     case measure => simp [intOf]; omega
    ·have HRB : Hid (∀ W e W', DecIs (r1, r2) W e W' → e = .returned (.tuple #[.slice none 0 0, .int .i64 r1]) ∧ Ext W W') := hid_ (fun W e W' h => by
      rcases HRA.out W e W' h with ⟨h1, -⟩ | ⟨-, h⟩
      ·exact absurd h1 h0
      ·exact h)
     have h0b : (r1 == 0) = false := by simpa using h0
     have H0N := hid_ h0
     clear h0
     refine wp_region_oi (Ext wr.drew) (by kernel_rfl) ?_
     refine oi_fix (k := 0) (by kernel_rfl) rfl (by rfl) (.agg tt) (fun W hW => ex_loadB rfl rfl (HGX.out W hW) Tryz.underlying44 rfl sizeTbls hsz.out) hI ?_
     simp only [Act.put, sA, sB, sC]
     refine oi_run (k := 1) (by kernel_rfl) rfl (by rfl) (.slice (some pd) pn pc) (ex_move rfl rfl) hI ?_
     simp only [Act.put, sA, sB, sC]
     refine oi_run (k := 2) (by kernel_rfl) rfl (by rfl) (.int .i64 (i : Int)) (ex_move rfl rfl) hI ?_
     simp only [Act.put, sA, sB, sC]
     refine oi_run (k := 3) (by kernel_rfl) rfl (by rfl) (.pointer (some (pd.add (i * 1)))) (ex_ixSl Tryz.underlying71 sizeBs rfl rfl rfl hp) hI ?_
     simp only [Act.put, sA, sB, sC]
     refine oi_fix (k := 4) (by kernel_rfl) rfl (by rfl) (.slice SA pl sc) (fun W hW => ex_loadS rfl rfl (by rw [Nat.mul_one]; exact HPC.out W (hx8d.trans hW))) hI ?_
     simp only [Act.put, sA, sB, sC]
     refine oi_run (k := 5) (by kernel_rfl) rfl (by rfl) (.int .i64 (ln : Int)) (ex_move rfl rfl) hI ?_
     simp only [Act.put, sA, sB, sC]
     refine oi_loud (k := 6) (by kernel_rfl) rfl ?_
     refine wl_enter (by rfl) (run_callv _ _ _ rfl rfl goesRSegDec #[.agg tt, .slice SA pl sc, .int .i64 (ln : Int)] (by simp [Act.eval])) ?_
     refine (HSR.out _ hx8d).mono ?_
     intro e9 w9 h9
     obtain ⟨rfl, hx9⟩ := HRB.out _ _ _ h9
     refine ⟨_, rfl, oi_end ⟨hx9, ?_⟩⟩
     simp only [Act.put, sA, sB, sC]
     refine oi_run (k := 7) (by kernel_rfl) rfl (by rfl) (.tuple #[.slice none 0 0, .int .i64 r1]) (ex_move rfl rfl) hx9 ?_
     simp only [Act.put, sA, sB, sC]
     refine oi_run (k := 8) (by kernel_rfl) rfl (by rfl) (.slice none 0 0) (ex_extract rfl rfl rfl) hx9 ?_
     simp only [Act.put, sA, sB, sC]
     refine oi_run (k := 9) (by kernel_rfl) rfl (by rfl) (.int .i64 r1) (ex_extract rfl rfl rfl) hx9 ?_
     simp only [Act.put, sA, sB, sC]
     refine oi_run (k := 10) (by kernel_rfl) rfl (by rfl) (.slice none 0 0) (ex_assign rfl rfl) hx9 ?_
     simp only [Act.put, sA, sB, sC]
     refine oi_run (k := 11) (by kernel_rfl) rfl (by rfl) (.int .i64 r1) (ex_assign rfl rfl) hx9 ?_
     simp only [Act.put, sA, sB, sC]
     refine oi_done (by kernel_rfl) ?_
     have hbad9 := own_keep hbad8 hx9
     have hz9 := hz8.ext hx9
     have hu9 := hud.trans (Upd.of_ext (S := fun _ => False) hx9) (fun x h => h.elim)
     have HCUR : Hid ((splice (bv (X ++ List.replicate ((n - m) * 64) 0)).toList (m * 64) []).toArray = bv (X ++ List.replicate ((n - m) * 64) 0)) := hid_ (by simp [splice])
     have HFT : Hid (m * 64 + ([] : List Value).length ≤ (bv (X ++ List.replicate ((n - m) * 64) 0)).size) := hid_ (by rw [bv_size, List.length_append, List.length_replicate, HXL.out]; simp)
     go_wp2_with (first
      | ((with_reducible apply gS 63); refine wl_run rfl (.slice (subA (some ⟨g0, 0, none⟩) n m) (n - m) (n - m)) (ex_subF rfl rfl rfl hm (Nat.le_refl n)) ?_)
      | ((with_reducible apply gS 65); refine wpList_copy_blk rfl (.tmp 63) (.tmp 64) rfl g0 (m * 64) _ _ (n - m) (n - m) 0 0 rfl rfl hz9 (by omega) [] (SL.nil _ 64) (fun h => absurd h (by omega)) HFT.out (fun _ h => by cases h) ?_; intro w10 hb10 hg10; rw [HCUR.out] at hb10; have hu10 := hu9.grown hg10 (fun b hb => .inl (by injection hb with hb; exact hb.symm)); have hbad10 := own_upd2 hbad9 (upd_grown hg10) (fun x hx e => own_blk_ne hbad9 hz9 (Ne.symm blkNeI) (by rw [hx]; exact e)))
      | ((with_reducible apply gS 70); refine wLit1 rfl 22 3 (.tmp 69) rfl (some 70) rfl Tryz.underlying22 1 sizeI zeroI _ rfl rfl (by omega) (by omega) ?_; intro w11 g11 hb11 hx11 hg11; have hbad11 := own_keep hbad10 hx11; have hz11 := Blk.ext hb10 hx11; have hu11 := Upd.trans hu10 (Upd.of_ext (S := fun _ => False) hx11) (fun x h => h.elim))
      | ((with_reducible apply gS 71); at_builtin; refine wApf elt_intR rfl (.tmp 68) (.tmp 70) rfl w3.heap.size (.slice YA j yc) j (ints Y) rfl hbad11 _ 1 (ints [(i : Int)]) rfl (blk_one hb11) (ints_one_mem _) (by omega) (by omega) hu11.size ?_; intro A12 c12 w12 ho12 hgr12 hor12; have hu12 := hu11.grown hgr12 (fun b hb => .inr (hbad11.lt b hb).1); have hz12 := hz11.grown hgr12 (own_blk_ne hbad11 hz11 (Ne.symm blkNeI))))
     rw [HAPP.out, ← HQ2.out] at hz12
     go_roundw
     case rel => exact ⟨i + 1, m + ln, j + 1, X ++ List.replicate (ln * 64) 0, Y ++ [(i : Int)], by omega, by go_num, by go_num, hms, HMS, by omega, hid_ (HXE.out H0N.out), HXR, hz12, ⟨A12, c12, rfl, by rw [ints_app]; exact ho12⟩, hu12⟩
     case measure => simp [intOf]; omega
   ·have hiP : ¬ i < P.length := by rw [HPN.out]; exact hp
    have hma : mendAt T1 T2 n e P i = (5, []) := by unfold mendAt; rw [if_neg hiP]
    have HXE := hid_ (HXEa.out _ hma)
    have H51 : Hid (decide ((i : Int) < (pn : Int)) = false) := hid_ (by rw [decide_eq_false_iff_not]; omega)
    have hcell0 : wr.cell? (td.add i) = some (.int .i64 (ln : Int)) := htc
    clear hma hiP HXOa htc
    go_wp2_with (first
     | ((with_reducible apply gS 48); refine wl_run rfl (.bool false) (ex_lss rfl rfl rfl H51.out) ?_)
     | ((with_reducible apply gS 70); refine wLit1 rfl 22 3 (.tmp 69) rfl (some 70) rfl Tryz.underlying22 1 sizeI zeroI _ rfl rfl (by omega) (by omega) ?_; intro w11 g11 hb11 hx11 hg11; have hbad11 := own_keep hbad hx11; have hz11 := Blk.ext hbg hx11; have hu11 := Upd.trans hu (Upd.of_ext (S := fun _ => False) hx11) (fun x h => h.elim))
     | ((with_reducible apply gS 71); at_builtin; refine wApf elt_intR rfl (.tmp 68) (.tmp 70) rfl w3.heap.size (.slice YA j yc) j (ints Y) rfl hbad11 _ 1 (ints [(i : Int)]) rfl (blk_one hb11) (ints_one_mem _) (by omega) (by omega) hu11.size ?_; intro A12 c12 w12 ho12 hgr12 hor12; have hu12 := hu11.grown hgr12 (fun b hb => .inr (hbad11.lt b hb).1); have hz12 := hz11.grown hgr12 (own_blk_ne hbad11 hz11 (Ne.symm blkNeI))))
    rw [HAPP.out, ← HQ2.out] at hz12
    go_roundw
    case rel => exact ⟨i + 1, m + ln, j + 1, X ++ List.replicate (ln * 64) 0, Y ++ [(i : Int)], by omega, by go_num, by go_num, hms, HMS, by omega, hid_ (HXE.out (by decide)), HXR, hz12, ⟨A12, c12, rfl, by rw [ints_app]; exact ho12⟩, hu12⟩
    case measure => simp [intOf]; omega
  ·have hiK : i = K := by omega
   subst hiK
   have HRR : Hid (R = (X, Y)) := hid_ (by rw [← HR.out, HMX.out])
   have hmn : m = n := by rw [HMA.out, HAE.out]
   have hyl : Y.length = j := by have := hbad.1; simpa [ints] using this
   have HXX : Hid (X ++ List.replicate ((n - m) * 64) (0 : Int) = X) := hid_ (by rw [hmn, Nat.sub_self, Nat.zero_mul]; simp)
   rw [HXX.out] at hbg
   have HXM := hid_ hmn
   clear hmn HMA HMX
   go_wp2_with fail
   go_ret3
   refine ⟨HX2.out.trans hx2r, ?_⟩
   rw [if_pos rfl, HRR.out]
   have hl : X.length = n * 64 := by rw [HXL.out, HXM.out]
   refine ⟨_, n, _, YA, j, yc, rfl, hl, ?_, hyl, (own_out hbad).1, fun ad e => Nat.le_trans (HX2.out.trans HX23.out).size ((own_out hbad).2 ad e)⟩
   have := hbg.sl (size := 64) (n := n) (c := n) (by rw [bv_size, hl]) (by omega) (by omega)
   simpa [bv_lst] using this
end
theorem zipC_rng : ∀ (C : List (Nat × Nat)) (xs : List Int), (∀ x ∈ xs, 0 ≤ x ∧ x ≤ 255) → ∀ t ∈ zipC C xs, 0 ≤ t.1 ∧ t.1 ≤ 255
 | [], _, _, t, ht => by simp [zipC] at ht
 | _ :: _, [], _, t, ht => by simp [zipC] at ht
 | c :: C, x :: xs, h, t, ht => by
   simp only [zipC, List.zipWith_cons_cons, List.mem_cons] at ht
   rcases ht with rfl | ht
   ·exact h x (by simp)
   ·exact zipC_rng C xs (fun y hy => h y (by simp [hy])) t ht
theorem tbl_rng {cs xs : List Int} (h : checkZ cs xs = 0) : ∀ t ∈ zipC (codesW cs 16) xs, 0 ≤ t.1 ∧ t.1 ≤ 255 :=
 zipC_rng _ _ (fun x hx => by
  obtain ⟨-, -, -, -, h5, -⟩ := checkZ_zero h
  exact inB_iff.1 (List.all_eq_true.1 h5 x hx))
end Go.Proofs.YtkggcjdlpendfaaGreatDoor
