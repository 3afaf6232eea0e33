/- Contracts for the law ScanDecodesUptoCard, part 32: what the functions that it reaches answer, for all arguments that the theorems name. -/
import Derived.Test.YtgmddhljgfbibaaGreatDoorMScanDecodesUptoCard25
import Derived.Test.YtgmddhljgfbibaaGreatDoorMScanDecodesUptoCard31
import Derived.Test.YtgmddhljgfbibaaGreatDoorMScanDecodesUptoCard23
import Derived.Test.YtgmddhljgfbibaaGreatDoorMScanDecodesUptoCard20
/- scan.Decode. Printed by wip/gen/mkscandec.py. -/
namespace Go.Proofs.YtgmddhljgfbibaaGreatDoor
set_option linter.unusedVariables false
set_option linter.unusedSimpArgs false
open Go.RowKit
theorem goesSegDec : Goes Tryz.prog 14 := ⟨_, Tryz.func14, by kernel_rfl, by kernel_rfl⟩
theorem ext_grow {a w w' : World} (h : Ext a w) {row : Option Nat} (hg : w.grownBy w' row) (hB : ∀ b, row = some b → a.heap.size ≤ b) : Ext a w' := Below.grown h hg h.size (fun k hk => hB k hk)
theorem spanNeB : 48 ≠ 37 := by decide
set_option maxRecDepth 20000 in
set_option maxHeartbeats 1000000 in
theorem scanDec_err (tt : Array Value) (hsz0 : tt.size = 34) (v : Value) (nn ev : Int) (z : Int) (P : List (List Nat)) (hz : z ≠ 0) (w : World)
    (WC : ∀ W, Ext w W → Calls Tryz.prog 12 #[.agg tt, v, .int .i64 nn, .int .i64 ev] W (WhIs z P W)) : Calls Tryz.prog 5 #[.agg tt, v, .int .i64 nn, .int .i64 ev] w (DecIs (z, []) w) := by
  have HWC := hid_ (fun W h => (WC W h).mono (fun e W' (h : WhIs z P W e W') => show e = .returned (.tuple #[.slice none 0 0, .int .i64 z]) ∧ Ext W W' by obtain ⟨hx, h⟩ := h; rw [if_neg hz] at h; exact ⟨h, hx⟩))
  have hsz := hid_ hsz0
  have hzb : (z != 0) = true := by simpa using hz
  have HZ := hid_ hz
  clear WC hsz0 hz
  go_enter Tryz.func5, Tryz.ntmps5
  go_wp2_with (first
    | (show wpList _ _ _ (⟨some 4, _, _, _, _, _⟩ :: _) _ _; refine wpList_box_abs rfl 27 (.tmp 0) rfl tt rfl ?_; intro w1 g hb1 hx1 hg)
    | (show wpList _ _ _ (⟨some 18, _, _, _, _, _⟩ :: _) _ _; refine wpList_load_blk rfl 27 (.tmp 4) rfl g rfl hb1 _ Tryz.underlying27 rfl 34 sizeTbls hsz.out ?_)
    | (go_at_call 12; (with_reducible refine (HWC.out _ hx1).mono ?_); rintro e w2 ⟨rfl, hx2⟩))
  refine bodyPost_ret (results_tmp2 rfl _ _ _) rfl ?_
  refine ⟨hx1.trans hx2, ?_⟩
  rw [if_neg HZ.out]
  rfl
attribute [local irreducible] bytesV bv sdGo spansL spanE cutK plZ decR
set_option maxRecDepth 20000 in
set_option maxHeartbeats 8000000 in
theorem scanDec_good (T1 T2 : List Tok) (tt : Array Value) (hsz0 : tt.size = 34) (v : Value) (n e : Nat) (hn : n ≤ 400) (he : e ≤ 100) (P : List (List Nat)) (hK : P.length = cutK n e) (hPM : ∀ p ∈ P, p.length ≤ 1048576 ∧ ∀ b ∈ p, b < 256) (w : World)
    (WC : ∀ W, Ext w W → Calls Tryz.prog 12 #[.agg tt, v, .int .i64 (n : Int), .int .i64 (e : Int)] W (WhIs 0 P W))
    (SD : ∀ W A' m c' bs' nn', Ext w W → SL W 1 (.slice A' m c') m (bytesV bs') → (A' = none → c' = 0) → (∀ b ∈ bs', b < 256) → m ≤ 1048576 → Calls Tryz.prog 14 #[.agg tt, .slice A' m c', .int .i64 nn'] W (DecIs (decR true T1 T2 nn' (plZ bs')) W)) :
    Calls Tryz.prog 5 #[.agg tt, v, .int .i64 (n : Int), .int .i64 (e : Int)] w (DecIs (sdGo T1 T2 n e P (cutK n e) 0 []) w) := by
  have hsz := hid_ hsz0
  have HSP := hid_ (fun W => spans_any n e (by omega) (by omega) W)
  have hKl := cutK_le (n := n) (e := e)
  have HAT := hid_ (fun i (h : i < cutK n e) => cut_at h)
  obtain ⟨R, hRR⟩ : ∃ R, sdGo T1 T2 n e P (cutK n e) 0 [] = R := ⟨_, rfl⟩
  have HR0 : Hid (sdGo T1 T2 n e P (cutK n e - 0) 0 [] = R) := hid_ hRR
  rw [hRR]
  obtain ⟨K, hKK⟩ : ∃ K, cutK n e = K := ⟨_, rfl⟩
  rw [hKK] at HSP HR0 HAT hKl hK
  have HPK := hid_ hK
  have HWC := hid_ (fun W h => (WC W h).mono (fun e W' (h : WhIs 0 P W e W') => show ∃ A c VS, e = .returned (.tuple #[.slice A K c, .int .i64 0]) ∧ SL W' 1 (.slice A K c) K VS ∧ Pieces W' VS P ∧ NZ VS ∧ Ext W W' by
    obtain ⟨hx, h⟩ := h
    rw [if_pos rfl, hK] at h
    obtain ⟨A, c, VS, h1, h2, h3, h4⟩ := h
    exact ⟨A, c, VS, h1, h2, h3, h4, hx⟩))
  have HPM := hid_ hPM
  have HSD := hid_ SD
  clear hRR hKK hK WC hPM SD hsz0
  go_enter Tryz.func5, Tryz.ntmps5
  go_wp2_with (first
    | (show wpList _ _ _ (⟨some 4, _, _, _, _, _⟩ :: _) _ _; refine wpList_box_abs rfl 27 (.tmp 0) rfl tt rfl ?_; intro w1 g hb1 hx1 hg)
    | (show wpList _ _ _ (⟨some 18, _, _, _, _, _⟩ :: _) _ _; refine wpList_load_blk rfl 27 (.tmp 4) rfl g rfl hb1 _ Tryz.underlying27 rfl 34 sizeTbls hsz.out ?_)
    | (go_at_call 12; (with_reducible refine (HWC.out _ hx1).mono ?_); rintro e2 w2 ⟨PA, pc, VS, rfl, k1, k2, k4, hx2⟩; have hx2' := hx1.trans hx2)
    | (go_at_call 13; (with_reducible refine (HSP.out _).mono ?_); rintro e3 w3 ⟨B3, d3, rfl, hsp, hx3⟩; have hx3' := hx2'.trans hx3))
  have hg3 := (hb1.ext hx2).ext hx3
  have how : OwnV w3 w3.heap.size 37 64 (.slice none 0 0) 0 (ints []) := OwnV.nil _ _ _ _
  have HSP3 := hid_ hsp
  have HG3 := hid_ hg3
  have HX3 := hid_ hx3'
  have HK1 := hid_ (k1.ext hx3)
  have HK2 := hid_ (k2.ext hx3)
  have HK4 := hid_ k4
  clear hb1 hx1 hg hx2 hx2' hx3 hx3' hsp hg3 k1 k2 k4
  go_loopw [12, 32] (fun x iv wr => ∃ (i m : Nat) (acc : List Int), i ≤ K ∧ iv = .int .i64 (i : Int) ∧ m ≤ i * 400 ∧ OwnV wr w3.heap.size 37 64 x m (ints acc) ∧ Hid (sdGo T1 T2 n e P (K - i) i acc = R) ∧ Ext w3 wr) (fun _ i _ => K - (intOf i).toNat)
  case atStart => exact ⟨0, 0, [], by omega, rfl, by omega, how, HR0, Ext.refl _⟩
  case round =>
    clear how HR0
    obtain ⟨i, m, acc, hi, rfl, hm, ⟨OA, oc, rfl, hown⟩, HR, hx⟩ := hrel
    by_cases hlt : i < K
    · obtain ⟨td, hB, htb, htc⟩ := (HSP3.out.ext hx).part hlt
      subst hB
      obtain ⟨pd, u, hB, hpb, hpk, hpc⟩ := HK1.out.at1 hlt
      subst hB
      have hiP : i < P.length := by rw [HPK.out]; exact hlt
      obtain ⟨SA, sc, hv, hsl⟩ := HK2.out.2 i hiP
      rw [hv] at hpk
      obtain rfl := Option.some.inj hpk
      have hnz := HK4.out _ (List.mem_of_getElem? hv) _ _ _ rfl
      have hpm := HPM.out P[i] (List.getElem_mem hiP)
      have hgd : P.getD i [] = P[i] := by rw [List.getD_eq_getElem?_getD, List.getElem?_eq_getElem hiP]; rfl
      obtain ⟨lo, hlo⟩ : ∃ q, i * spanE n e = q := ⟨_, rfl⟩
      obtain ⟨hh, hhh⟩ : ∃ q, min (lo + spanE n e) n = q := ⟨_, rfl⟩
      obtain ⟨ln, hln⟩ : ∃ q, lenAt n e i = q := ⟨_, rfl⟩
      have hln2 : min (n - lo) (spanE n e) = ln := by rw [← hln, ← hlo]; rfl
      have e2 : ((ints (spansL n e K)).drop (i * 2)).take 2 = ints [(lo : Int), (hh : Int)] := by
        have h := spansL_at n e K i hlt
        rw [hlo, hhh] at h
        rw [← h]
        simp [ints, List.map_drop, List.map_take]
      rw [e2] at htc
      have hlon : lo ≤ n := by rw [← hlo]; exact HAT.out i hlt
      have hlh : lo ≤ hh := by omega
      have hhn : hh ≤ n := by omega
      have hd : hh - lo = ln := by omega
      have HD := hid_ hd
      have HTC := hid_ htc
      have HBV := hid_ (bv_out [(lo : Int), (hh : Int)])
      have HS2 := hid_ (show (bv [(lo : Int), (hh : Int)]).size = 2 by rw [bv_size]; rfl)
      have HS20 := hid_ (show (Value.agg (bv [0, 0])).cells.size = 2 by rw [show (Value.agg (bv [0, 0])).cells = bv [0, 0] from rfl, bv_size]; rfl)
      have HO2 := hid_ (bv_one [(lo : Int), (hh : Int)])
      have HSR := hid_ (fun W (h : Ext w3 W) => HSD.out W SA P[i].length sc P[i] (ln : Int) (HX3.out.trans h) (hsl.ext h) hnz hpm.2 hpm.1)
      have HPC := hid_ (fun W (h : Ext w3 W) => (h.cell (p := pd.add i) (by rw [block_of_add]; exact hpb)).trans hpc)
      have HERa : Hid (∀ r, decR true T1 T2 (ln : Int) (plZ P[i]) = r → r.1 ≠ 0 → R = (r.1, [])) := hid_ (fun r h h0 => by rw [← HR.out, show K - i = (K - (i + 1)) + 1 by omega]; exact sdGo_err (by rw [hln, hgd]; exact h) h0)
      have HOKa : Hid (∀ r, decR true T1 T2 (ln : Int) (plZ P[i]) = r → r.1 = 0 → sdGo T1 T2 n e P (K - (i + 1)) (i + 1) (acc ++ r.2) = R) := hid_ (fun r h h0 => by rw [← HR.out, show K - i = (K - (i + 1)) + 1 by omega]; exact (sdGo_ok (by rw [hln, hgd]; exact h) h0).symm)
      have hrl : (decR true T1 T2 (ln : Int) (plZ P[i])).1 = 0 → (decR true T1 T2 (ln : Int) (plZ P[i])).2.length = ln * 64 := decR_len
      obtain ⟨r, hr⟩ : ∃ r, decR true T1 T2 (ln : Int) (plZ P[i]) = r := ⟨_, rfl⟩
      rw [hr] at HSR hrl
      have HER := hid_ (HERa.out r hr)
      have HOK := hid_ (HOKa.out r hr)
      generalize bv [(lo : Int), (hh : Int)] = sp at *
      have HC0 : Hid (sp[0]? = some (.int .i64 (lo : Int)) ∧ sp[1]? = some (.int .i64 (hh : Int))) := hid_ (by rw [← HBV.out]; exact ⟨rfl, rfl⟩)
      obtain ⟨pl, hpl⟩ : ∃ q, P[i].length = q := ⟨_, rfl⟩
      rw [hpl] at HSR HPC
      obtain ⟨r1, r2⟩ := r
      dsimp only at hrl HER HOK
      have HRA : Hid (∀ W e W', DecIs (r1, r2) W e W' → ∃ B k d, e = .returned (.tuple #[.slice B k d, .int .i64 r1]) ∧ (r1 = 0 → k = ln ∧ SL W' 64 (.slice B k d) k (ints r2)) ∧ Ext W W') := hid_ (fun W e W' h => by
        obtain ⟨hx, h⟩ := h
        by_cases h0 : r1 = 0
        · subst h0
          rw [if_pos rfl] at h
          obtain ⟨B, k, d, rfl, h1, h2, -⟩ := h
          have h3 := hrl rfl
          exact ⟨B, k, d, rfl, fun _ => ⟨by dsimp only at h1; omega, h2⟩, hx⟩
        · rw [if_neg h0] at h
          exact ⟨none, 0, 0, h, fun h => absurd h h0, hx⟩)
      have htd : td.block < wr.heap.size := htb
      have hln4 : ln ≤ 400 := by omega
      clear htb htc e2 hr hd hln hln2 hhh hlo hlon HR hsl hv hpc hpb hpm hgd hrl hpl hnz
      go_wp2_with (first
        | (show wpList _ _ _ (⟨some 36, _, _, _, _, _⟩ :: _) _ _; refine wpList_load_any (by rfl) 48 (.tmp 35) rfl (td.add (i * 2)) rfl (ints [(lo : Int), (hh : Int)]) _ HTC.out Tryz.underlying48 rfl sizeSpan ?_; rw [HBV.out])
        | (show wpList _ _ _ (⟨some 14, _, _, _, _, _⟩ :: _) _ _; refine wpList_alloc_abs' rfl (some 14) rfl 48 rfl _ zeroSpan ?_; intro w4 g16 hb4 hx4 hg4)
        | (show wpList _ _ _ (⟨none, .store _ (.tmp 14) (.tmp 36), _, _, _, _⟩ :: _) _ _; refine wpList_store_blk rfl 48 (.tmp 14) (.tmp 36) rfl _ _ rfl rfl hb4 2 sizeSpan HS2.out HS20.out HO2.out ?_; intro w5 hb5 hg5; have hx5 : Ext wr w5 := hx4.grown hg5 hg4))
      have hx8d : Ext w3 w5.drew := (hx.trans hx5).drew
      have hb8d := hb5.drew
      have ho8d := own_keep hown (hx5.drew)
      clear hb4 hx4 hg4 hb5 hg5 hx5
      have HGX := hid_ (fun W (h : Ext w5.drew W) => ((HG3.out.ext hx8d).ext h))
      have hI : Ext w5.drew w5.drew := Ext.refl _
      by_cases h0 : r1 = 0
      · subst h0
        refine wp_region_oi (Ext w5.drew) (by kernel_rfl) ?_
        refine oi_fix (k := 0) (by kernel_rfl) rfl (by rfl) (.agg tt) (fun W hW => ex_loadB rfl rfl (HGX.out W hW) Tryz.underlying27 rfl sizeTbls hsz.out) hI ?_
        simp only [Act.put, List.setIfInBounds_toArray, List.set_cons_succ, List.set_cons_zero]
        refine oi_run (k := 1) (by kernel_rfl) rfl (by rfl) (.slice (some pd) K pc) (ex_move rfl rfl) hI ?_
        simp only [Act.put, List.setIfInBounds_toArray, List.set_cons_succ, List.set_cons_zero]
        refine oi_run (k := 2) (by kernel_rfl) rfl (by rfl) (.int .i64 (i : Int)) (ex_move rfl rfl) hI ?_
        simp only [Act.put, List.setIfInBounds_toArray, List.set_cons_succ, List.set_cons_zero]
        refine oi_run (k := 3) (by kernel_rfl) rfl (by rfl) (.pointer (some (pd.add (i * 1)))) (ex_ixSl Tryz.underlying42 sizeBs rfl rfl rfl hlt) hI ?_
        simp only [Act.put, List.setIfInBounds_toArray, List.set_cons_succ, List.set_cons_zero]
        refine oi_fix (k := 4) (by kernel_rfl) rfl (by rfl) (.slice SA pl sc) (fun W hW => ex_loadS rfl rfl (by rw [Nat.mul_one]; exact HPC.out W (hx8d.trans hW))) hI ?_
        simp only [Act.put, List.setIfInBounds_toArray, List.set_cons_succ, List.set_cons_zero]
        refine oi_run (k := 5) (by kernel_rfl) rfl (by rfl) (.pointer (some ⟨g16, 1, none⟩)) (fun w => by go_simp) hI ?_
        simp only [Act.put, List.setIfInBounds_toArray, List.set_cons_succ, List.set_cons_zero]
        refine oi_fix (k := 6) (by kernel_rfl) rfl (by rfl) (.int .i64 (hh : Int)) (fun W hW => ex_loadI rfl rfl (((hb8d.ext hW).cell 1).trans HC0.out.2)) hI ?_
        simp only [Act.put, List.setIfInBounds_toArray, List.set_cons_succ, List.set_cons_zero]
        refine oi_run (k := 7) (by kernel_rfl) rfl (by rfl) (.pointer (some ⟨g16, 0, none⟩)) (fun w => by go_simp) hI ?_
        simp only [Act.put, List.setIfInBounds_toArray, List.set_cons_succ, List.set_cons_zero]
        refine oi_fix (k := 8) (by kernel_rfl) rfl (by rfl) (.int .i64 (lo : Int)) (fun W hW => ex_loadI rfl rfl (((hb8d.ext hW).cell 0).trans HC0.out.1)) hI ?_
        simp only [Act.put, List.setIfInBounds_toArray, List.set_cons_succ, List.set_cons_zero]
        refine oi_run (k := 9) (by kernel_rfl) rfl (by rfl) (.int .i64 (ln : Int)) (by rw [← HD.out]; exact ex_subN (i := hh) (d := lo) rfl rfl rfl (by omega) hlh) hI ?_
        simp only [Act.put, List.setIfInBounds_toArray, List.set_cons_succ, List.set_cons_zero]
        refine oi_loud (k := 10) (by kernel_rfl) rfl ?_
        refine wl_enter (by rfl) (run_callv _ _ _ rfl rfl goesSegDec #[.agg tt, .slice SA pl sc, .int .i64 (ln : Int)] (by simp [Act.eval])) ?_
        refine (HSR.out _ hx8d).mono ?_
        intro e9 w9 h9
        obtain ⟨B9, k9, d9, rfl, hr9, hx9⟩ := HRA.out _ _ _ h9
        refine ⟨_, rfl, oi_end ⟨hx9, ?_⟩⟩
        simp only [Act.put, List.setIfInBounds_toArray, List.set_cons_succ, List.set_cons_zero]
        refine oi_run (k := 11) (by kernel_rfl) rfl (by rfl) (.tuple #[.slice B9 k9 d9, .int .i64 0]) (ex_move rfl rfl) hx9 ?_
        simp only [Act.put, List.setIfInBounds_toArray, List.set_cons_succ, List.set_cons_zero]
        refine oi_run (k := 12) (by kernel_rfl) rfl (by rfl) (.slice B9 k9 d9) (ex_extract rfl rfl rfl) hx9 ?_
        simp only [Act.put, List.setIfInBounds_toArray, List.set_cons_succ, List.set_cons_zero]
        refine oi_run (k := 13) (by kernel_rfl) rfl (by rfl) (.int .i64 0) (ex_extract rfl rfl rfl) hx9 ?_
        simp only [Act.put, List.setIfInBounds_toArray, List.set_cons_succ, List.set_cons_zero]
        refine oi_run (k := 14) (by kernel_rfl) rfl (by rfl) (.slice B9 k9 d9) (ex_assign rfl rfl) hx9 ?_
        simp only [Act.put, List.setIfInBounds_toArray, List.set_cons_succ, List.set_cons_zero]
        refine oi_run (k := 15) (by kernel_rfl) rfl (by rfl) (.int .i64 0) (ex_assign rfl rfl) hx9 ?_
        simp only [Act.put, List.setIfInBounds_toArray, List.set_cons_succ, List.set_cons_zero]
        refine oi_done (by kernel_rfl) ?_
        obtain ⟨hk9, hs9⟩ := hr9 (by first | rfl | trivial)
        subst hk9
        have ho9 := own_keep ho8d hx9
        have hx19 := hx8d.trans hx9
        go_wp2_with (first
          | (show wpList _ _ _ (⟨some 56, _, _, _, _, _⟩ :: _) _ _; at_builtin; refine wpList_append_slf elt_blk rfl (.tmp 54) (.tmp 55) rfl w3.heap.size (.slice OA m oc) m (ints acc) rfl ho9 _ k9 (ints r2) rfl hs9 (ints_one_mem _) (by omega) (by omega) hx19.size ?_; intro A10 c10 w10 ho10 hgr10 hor10; have hx10 := ext_grow hx19 hgr10 (fun b hb => (ho9.lt b hb).1)))
        go_roundw
        case rel => exact ⟨i + 1, m + k9, acc ++ r2, by omega, by go_num, by omega, ⟨A10, c10, rfl, by rw [ints_app]; exact ho10⟩, HOK.out (by first | rfl | trivial), hx10⟩
        case measure => simp [intOf]; omega
      · have h0b : (r1 != 0) = true := by simpa using h0
        have H0N := hid_ h0
        clear h0
        refine wp_region_oi (Ext w5.drew) (by kernel_rfl) ?_
        refine oi_fix (k := 0) (by kernel_rfl) rfl (by rfl) (.agg tt) (fun W hW => ex_loadB rfl rfl (HGX.out W hW) Tryz.underlying27 rfl sizeTbls hsz.out) hI ?_
        simp only [Act.put, List.setIfInBounds_toArray, List.set_cons_succ, List.set_cons_zero]
        refine oi_run (k := 1) (by kernel_rfl) rfl (by rfl) (.slice (some pd) K pc) (ex_move rfl rfl) hI ?_
        simp only [Act.put, List.setIfInBounds_toArray, List.set_cons_succ, List.set_cons_zero]
        refine oi_run (k := 2) (by kernel_rfl) rfl (by rfl) (.int .i64 (i : Int)) (ex_move rfl rfl) hI ?_
        simp only [Act.put, List.setIfInBounds_toArray, List.set_cons_succ, List.set_cons_zero]
        refine oi_run (k := 3) (by kernel_rfl) rfl (by rfl) (.pointer (some (pd.add (i * 1)))) (ex_ixSl Tryz.underlying42 sizeBs rfl rfl rfl hlt) hI ?_
        simp only [Act.put, List.setIfInBounds_toArray, List.set_cons_succ, List.set_cons_zero]
        refine oi_fix (k := 4) (by kernel_rfl) rfl (by rfl) (.slice SA pl sc) (fun W hW => ex_loadS rfl rfl (by rw [Nat.mul_one]; exact HPC.out W (hx8d.trans hW))) hI ?_
        simp only [Act.put, List.setIfInBounds_toArray, List.set_cons_succ, List.set_cons_zero]
        refine oi_run (k := 5) (by kernel_rfl) rfl (by rfl) (.pointer (some ⟨g16, 1, none⟩)) (fun w => by go_simp) hI ?_
        simp only [Act.put, List.setIfInBounds_toArray, List.set_cons_succ, List.set_cons_zero]
        refine oi_fix (k := 6) (by kernel_rfl) rfl (by rfl) (.int .i64 (hh : Int)) (fun W hW => ex_loadI rfl rfl (((hb8d.ext hW).cell 1).trans HC0.out.2)) hI ?_
        simp only [Act.put, List.setIfInBounds_toArray, List.set_cons_succ, List.set_cons_zero]
        refine oi_run (k := 7) (by kernel_rfl) rfl (by rfl) (.pointer (some ⟨g16, 0, none⟩)) (fun w => by go_simp) hI ?_
        simp only [Act.put, List.setIfInBounds_toArray, List.set_cons_succ, List.set_cons_zero]
        refine oi_fix (k := 8) (by kernel_rfl) rfl (by rfl) (.int .i64 (lo : Int)) (fun W hW => ex_loadI rfl rfl (((hb8d.ext hW).cell 0).trans HC0.out.1)) hI ?_
        simp only [Act.put, List.setIfInBounds_toArray, List.set_cons_succ, List.set_cons_zero]
        refine oi_run (k := 9) (by kernel_rfl) rfl (by rfl) (.int .i64 (ln : Int)) (by rw [← HD.out]; exact ex_subN (i := hh) (d := lo) rfl rfl rfl (by omega) hlh) hI ?_
        simp only [Act.put, List.setIfInBounds_toArray, List.set_cons_succ, List.set_cons_zero]
        refine oi_loud (k := 10) (by kernel_rfl) rfl ?_
        refine wl_enter (by rfl) (run_callv _ _ _ rfl rfl goesSegDec #[.agg tt, .slice SA pl sc, .int .i64 (ln : Int)] (by simp [Act.eval])) ?_
        refine (HSR.out _ hx8d).mono ?_
        intro e9 w9 h9
        obtain ⟨B9, k9, d9, rfl, hr9, hx9⟩ := HRA.out _ _ _ h9
        refine ⟨_, rfl, oi_end ⟨hx9, ?_⟩⟩
        simp only [Act.put, List.setIfInBounds_toArray, List.set_cons_succ, List.set_cons_zero]
        refine oi_run (k := 11) (by kernel_rfl) rfl (by rfl) (.tuple #[.slice B9 k9 d9, .int .i64 r1]) (ex_move rfl rfl) hx9 ?_
        simp only [Act.put, List.setIfInBounds_toArray, List.set_cons_succ, List.set_cons_zero]
        refine oi_run (k := 12) (by kernel_rfl) rfl (by rfl) (.slice B9 k9 d9) (ex_extract rfl rfl rfl) hx9 ?_
        simp only [Act.put, List.setIfInBounds_toArray, List.set_cons_succ, List.set_cons_zero]
        refine oi_run (k := 13) (by kernel_rfl) rfl (by rfl) (.int .i64 r1) (ex_extract rfl rfl rfl) hx9 ?_
        simp only [Act.put, List.setIfInBounds_toArray, List.set_cons_succ, List.set_cons_zero]
        refine oi_run (k := 14) (by kernel_rfl) rfl (by rfl) (.slice B9 k9 d9) (ex_assign rfl rfl) hx9 ?_
        simp only [Act.put, List.setIfInBounds_toArray, List.set_cons_succ, List.set_cons_zero]
        refine oi_run (k := 15) (by kernel_rfl) rfl (by rfl) (.int .i64 r1) (ex_assign rfl rfl) hx9 ?_
        simp only [Act.put, List.setIfInBounds_toArray, List.set_cons_succ, List.set_cons_zero]
        refine oi_done (by kernel_rfl) ?_
        go_wp2_with fail
        refine bodyPost_ret (results_tmp2 rfl _ _ _) rfl ?_
        rw [HER.out H0N.out]
        refine ⟨HX3.out.trans (hx8d.trans hx9), ?_⟩
        rw [if_neg H0N.out]
        rfl
    · have hiK : K - i = 0 := by omega
      have HR2 : Hid (R = (0, acc)) := hid_ (by rw [← HR.out, hiK, sdGo])
      have hnn := own_noneB hown
      have hal : acc.length = m * 64 := by have := hown.1; simpa [ints] using this
      clear HR
      go_wp2_with fail
      refine bodyPost_ret (results_tmp2 rfl _ _ _) rfl ?_
      rw [HR2.out]
      refine ⟨HX3.out.trans hx, ?_⟩
      rw [if_pos rfl]
      exact ⟨OA, m, oc, rfl, hal, (own_out hown).1, hnn⟩
end Go.Proofs.YtgmddhljgfbibaaGreatDoor
/- parts of the reference. -/
namespace Go.Proofs.YtgmddhljgfbibaaGreatDoor
set_option linter.unusedVariables false
set_option linter.unusedSimpArgs false
open Go.RowKit
attribute [local irreducible] bv partsL spanE cutK
set_option maxRecDepth 20000 in
set_option maxHeartbeats 2000000 in
/-- the slice lies in new memory -/
theorem parts_anyF (n e : Nat) (hn : n ≤ 1000000) (he : e ≤ 1000000) (w : World) :
    Calls Tryz.prog 16 #[.int .i64 (n : Int), .int .i64 (e : Int)] w fun en w' => ∃ B d, en = .returned (.slice B (cutK n e) d) ∧ SL w' 1 (.slice B (cutK n e) d) (cutK n e) (ints (partsL n e (cutK n e))) ∧ Ext w w' ∧ ∀ ad, B = some ad → w.heap.size ≤ ad.block := by
  by_cases h : e = 0 ∨ n = 0
  · obtain ⟨hE, hK⟩ := cut_whole h
    have hL : partsL n e 1 = [(n : Int)] := by
      simp only [partsL, List.nil_append, hE]
      simp
    rw [hK, hL]
    clear hE hK hL
    by_cases h0 : e = 0
    · have H8 : Hid (decide ((e : Int) = 0) = true) := hid_ (by rw [decide_eq_true_eq]; omega)
      clear h h0
      go_enter Tryz.func16, Tryz.ntmps16
      go_wp2_with (first
        | (show wpList _ _ _ (⟨some 7, _, _, _, _, _⟩ :: _) _ _; refine wl_run rfl (.bool true) (ex_eql rfl rfl rfl H8.out) ?_)
        | (show wpList _ _ _ (⟨some 13, _, _, _, _, _⟩ :: _) _ _; refine wpList_lit1 rfl 23 3 (.tmp 12) rfl (some 13) rfl Tryz.underlying23 1 sizeI zeroI _ rfl rfl (by omega) (by omega) ?_; intro w1 g hb1 hx1 hg1))
      go_ret
      exact ⟨_, _, rfl, blk_one hb1, hx1, fun ad e => by injection e with e; rw [← e]; exact hg1⟩
    · have H8 : Hid (decide ((e : Int) = 0) = false) := hid_ (by rw [decide_eq_false_iff_not]; omega)
      have H11 : Hid (decide ((n : Int) = 0) = true) := hid_ (by rw [decide_eq_true_eq]; omega)
      clear h h0
      go_enter Tryz.func16, Tryz.ntmps16
      go_wp2_with (first
        | (show wpList _ _ _ (⟨some 7, _, _, _, _, _⟩ :: _) _ _; refine wl_run rfl (.bool false) (ex_eql rfl rfl rfl H8.out) ?_)
        | (show wpList _ _ _ (⟨some 10, _, _, _, _, _⟩ :: _) _ _; refine wl_run_g (by rfl) (.bool true) (ex_eql rfl rfl rfl H11.out) ?_)
        | (show wpList _ _ _ (⟨some 13, _, _, _, _, _⟩ :: _) _ _; refine wpList_lit1 rfl 23 3 (.tmp 12) rfl (some 13) rfl Tryz.underlying23 1 sizeI zeroI _ rfl rfl (by omega) (by omega) ?_; intro w1 g hb1 hx1 hg1))
      go_ret
      exact ⟨_, _, rfl, blk_one hb1, hx1, fun ad e => by injection e with e; rw [← e]; exact hg1⟩
  · have HE := hid_ (cut_part h).1
    have HLT := hid_ (fun i => cutK_lt (i := i) h)
    have HKL := hid_ (cutK_le (n := n) (e := e))
    have HE0 : Hid (0 < e) := hid_ (by omega)
    have H8 : Hid (decide ((e : Int) = 0) = false) := hid_ (by rw [decide_eq_false_iff_not]; omega)
    have H11 : Hid (decide ((n : Int) = 0) = false) := hid_ (by rw [decide_eq_false_iff_not]; omega)
    have how : OwnV w w.heap.size 3 1 (.slice none 0 0) 0 (ints (partsL n e 0)) := by
      have h0 : partsL n e 0 = [] := by unfold partsL; rfl
      rw [h0]
      exact OwnV.nil _ _ _ _
    clear h
    obtain ⟨K, hK⟩ : ∃ K, cutK n e = K := ⟨_, rfl⟩
    rw [hK] at HLT HKL ⊢
    clear hK
    go_enter Tryz.func16, Tryz.ntmps16
    go_wp2_with (first
      | (show wpList _ _ _ (⟨some 7, _, _, _, _, _⟩ :: _) _ _; refine wl_run rfl (.bool false) (ex_eql rfl rfl rfl H8.out) ?_)
      | (show wpList _ _ _ (⟨some 10, _, _, _, _, _⟩ :: _) _ _; refine wl_run_g (by rfl) (.bool false) (ex_eql rfl rfl rfl H11.out) ?_))
    go_loopw [0, 5] (fun iv x wr => ∃ (k p : Nat), Hid (p = n - k * e ∧ k ≤ K) ∧ p ≤ n ∧ iv = .int .i64 (p : Int) ∧ OwnV wr w.heap.size 3 1 x k (ints (partsL n e k)) ∧ Ext w wr) (fun i _ _ => (intOf i).toNat)
    case atStart => exact ⟨0, n, hid_ (by omega), by omega, rfl, how, Ext.refl _⟩
    case round =>
      clear how
      obtain ⟨k, p, HP, hpn, rfl, ⟨OA, oc, rfl, hown⟩, hx⟩ := hrel
      by_cases hlt : 0 < p
      · obtain ⟨mn, hmn⟩ : ∃ q, min p e = q := ⟨_, rfl⟩
        have hk1 : k < K := by have h1 := HP.out; exact (HLT.out k).2 (by omega)
        have hk2 : k ≤ 1000001 := by have h1 := HKL.out; omega
        have HNX : Hid (partsL n e (k + 1) = partsL n e k ++ [(mn : Int)]) := hid_ (by
          have h1 := HP.out
          have h2 : n - k * spanE n e = p := by rw [HE.out, h1.1]
          rw [partsL, h2, HE.out, hmn])
        obtain ⟨p2, hp2⟩ : ∃ q, p - mn = q := ⟨_, rfl⟩
        have HP2 : Hid (p2 = n - (k + 1) * e ∧ k + 1 ≤ K) := hid_ (by have h1 := HP.out; rw [Nat.succ_mul]; omega)
        have HPP := hid_ hp2
        have hp3 : p2 < p := by have := HE0.out; omega
        have hml : mn ≤ p := by omega
        clear hp2
        go_wp2_with (first
          | (show wpList _ _ _ (⟨some 19, _, _, _, _, _⟩ :: _) _ _; refine wl_run rfl (.int .i64 (mn : Int)) (by rw [← hmn]; exact ex_minN (i := p) (d := e) rfl rfl rfl) ?_)
          | (show wpList _ _ _ (⟨some 20, _, _, _, _, _⟩ :: _) _ _; refine wpList_lit1 rfl 23 3 (.tmp 19) rfl (some 20) rfl Tryz.underlying23 1 sizeI zeroI _ rfl rfl (by omega) (by omega) ?_; intro w1 g hb1 hx1 hg1; have ho1 := own_keep hown hx1)
          | (show wpList _ _ _ (⟨some 21, _, _, _, _, _⟩ :: _) _ _; at_builtin; refine wpList_append_slf elt_intR rfl (.tmp 16) (.tmp 20) rfl w.heap.size (.slice OA k oc) k (ints (partsL n e k)) rfl ho1 _ 1 (ints [(mn : Int)]) rfl (blk_one hb1) (ints_one_mem _) (by omega) (by omega) (by have := hx.size; have := hx1.size; omega) ?_; intro A4 c4 w4 ho4 hgr4 hor4; have hx4 := (hx.trans hx1).grown' hgr4 (fun b hb => (ho1.lt b hb).1))
          | (show wpList _ _ _ (⟨some 25, _, _, _, _, _⟩ :: _) _ _; refine wl_run rfl (.int .i64 (mn : Int)) (by rw [← hmn]; exact ex_minN (i := p) (d := e) rfl rfl rfl) ?_)
          | (show wpList _ _ _ (⟨some 26, _, _, _, _, _⟩ :: _) _ _; refine wl_run rfl (.int .i64 (p2 : Int)) (by rw [← HPP.out]; exact ex_subN (i := p) (d := mn) rfl rfl rfl (by omega) (by omega)) ?_))
        go_roundw
        case rel => exact ⟨k + 1, p2, HP2, by omega, rfl, ⟨A4, c4, rfl, by rw [HNX.out, ints_app]; exact ho4⟩, hx4⟩
        case measure => simp [intOf]; omega
      · have hk : k = K := by
          have h1 := HP.out
          have h2 : ¬ k < K := fun h => hlt (by have h3 := (HLT.out k).1 h; omega)
          omega
        subst hk
        go_wp2_with fail
        go_ret
        exact ⟨_, _, rfl, (own_out hown).1, hx, (own_out hown).2⟩
theorem parts_any (n e : Nat) (hn : n ≤ 1000000) (he : e ≤ 1000000) (w : World) :
    Calls Tryz.prog 16 #[.int .i64 (n : Int), .int .i64 (e : Int)] w fun en w' => ∃ B d, en = .returned (.slice B (cutK n e) d) ∧ SL w' 1 (.slice B (cutK n e) d) (cutK n e) (ints (partsL n e (cutK n e))) ∧ Ext w w' :=
  (parts_anyF n e hn he w).mono fun _ _ ⟨B, d, h1, h2, h3, _⟩ => ⟨B, d, h1, h2, h3⟩
end Go.Proofs.YtgmddhljgfbibaaGreatDoor
