/- Contracts for the law FrameDecodesCard, part 28: what the functions that it reaches answer, for all arguments that the theorems name. -/
import Derived.Deep.Cut
import Derived.Test.YtkggcjdlpendfaaGreatDoorMFrameDecodesCard27
import Derived.Test.YtkggcjdlpendfaaGreatDoorMFrameDecodesCard9
import Derived.Test.YtkggcjdlpendfaaGreatDoorMFrameDecodesCard1
import Derived.Test.YtkggcjdlpendfaaGreatDoorMFrameDecodesCard3
import Derived.Test.YtkggcjdlpendfaaGreatDoorMFrameDecodesCard2
import Derived.Test.YtkggcjdlpendfaaGreatDoorMFrameDecodesCard6
import Derived.Test.YtkggcjdlpendfaaGreatDoorMFrameDecodesCard14
namespace Go.Proofs.YtkggcjdlpendfaaGreatDoor
set_option linter.unusedVariables false
set_option linter.unusedSimpArgs false
open Go.RowKit
section
attribute [local irreducible] showZ
set_option maxRecDepth 20000 in
set_option maxHeartbeats 4000000 in
theorem frameDec_bad (fv : Array Value) (hfs : fv.size = 103) (E : Int) (hE : E ≠ 0) (w : World) (HC : ∀ W, Ext w W → Calls Tryz.prog 50 #[.agg fv] W fun e W' => e = .returned (.int .i64 E) ∧ Ext W W') :
 Calls Tryz.prog 27 #[.agg fv] w (PdIs E 0 0 [] w) := by
 have HC := hid_ HC
 have hts := hid_ hfs
 have hne : (E != 0) = true := by simpa using hE
 have HPSZ := hid_ (fun a b v => picV_size a b v)
 have HP1 := hid_ (fun a b A n c => pic_one a b A n c)
 have HZP := zeroPicS
 have hz0s : Hid ((Value.agg (picV 0 0 (.slice none 0 0))).cells.size = 3) := hid_ rfl
 have HPB := hid_ built0PicS
 have hpo := hid_ (pic_one 0 0 none 0 0)
 have hps := hid_ (picV_size 0 0 (.slice none 0 0))
 have HR : Hid (∀ W, Ext w W → PdIs E 0 0 [] w (.returned (.tuple #[.agg (picV 0 0 (.slice none 0 0)), .int .i64 E])) W) := hid_ (fun W h => ⟨none, 0, 0, rfl, RowsS.nil W, h⟩)
 generalize picV 0 0 (.slice none 0 0) = pz at *
 clear hE
 go_enter Tryz.func27, Tryz.ntmps27
 go_wp2_with (first
  | ((with_reducible apply gS 1); refine wBox rfl 47 (.tmp 0) rfl fv rfl ?_; intro w1 gf hb1 hx1 hgf)
  | ((with_reducible apply gS 2); refine wAlo' rfl (some 2) rfl 31 rfl _ HZP ?_; intro w2 gp hp2 hx2 hgp; have hb2 := hb1.ext hx2; have hx12 := hx1.trans hx2)
  | ((with_reducible apply gS 7); refine wLdB rfl 47 (.tmp 1) rfl gf rfl hb2 _ Tryz.underlying47 rfl 103 sizeFile hts.out ?_)
  | (go_at_call 50; (with_reducible refine (HC.out _ hx12).mono ?_); rintro e w3 ⟨rfl, hx3⟩; have hp3 := hp2.ext hx3; have hx13 := hx12.trans hx3)
  | ((with_reducible apply gS 10); refine wl_run rfl (.bool true) (ex_neq rfl rfl rfl hne) ?_)
  | ((with_reducible apply gS 11); refine wpList_build0_g (by rfl) 31 rfl _ HPB.out ?_)
  | ((with_reducible apply gT 2 11); refine wStB rfl 31 (.tmp 2) (.tmp 11) rfl gp pz rfl rfl hp3 3 sizePic hps.out hz0s.out hpo.out ?_; intro w4 hb4 hg4; have hx4 := hx13.grown hg4 (by have := hx1.size; omega)))
 exact ret_cell_tmp rfl rfl gp rfl hb4 _ Tryz.underlying31 rfl 3 sizePic hps.out (HR.out _ hx4)
set_option maxRecDepth 20000 in
set_option maxHeartbeats 8000000 in
theorem frameDec_err (F : FC) (hF : F.shaped) (s1 s2 : Value) (A : Option Addr) (n c : Nat) (ev : Int) (a b p nb m : Nat) (hw : F.wd = a) (hh : F.hi = b) (hp : F.pt = p) (he : F.ev = ev) (a1 : 1 ≤ a) (a2 : a ≤ 64) (b1 : 1 ≤ b) (b2 : b ≤ 64) (hp13 : p = 1 ∨ p = 3) (hnb : cutN a b = nb) (hm : nb * p = m) (w : World)
 (HC : ∀ W, Ext w W → Calls Tryz.prog 50 #[.agg (F.cells s1 s2 (.slice A n c))] W fun e W' => e = .returned (.int .i64 0) ∧ Ext W W')
 (r1 : Int) (X : List Int) (h1 : r1 ≠ 0) (HK : ∀ W, Ext w W → Calls Tryz.prog 63 #[.agg (tblL F.cs1 s1 ++ tblL F.cs2 s2).toArray, .slice A n c, .int .i64 (m : Int), .int .i64 ev] W (DecIs (r1, X) W)) :
 Calls Tryz.prog 27 #[.agg (F.cells s1 s2 (.slice A n c))] w (PdIs r1 0 0 [] w) := by
 have HF := hid_ (fun W g (h : Blk W g 47 (F.cells s1 s2 (.slice A n c))) => fileB h hF.1 (tblL_len _ _ hF.2.1) (tblL_len _ _ hF.2.2))
 have hts := hid_ (FC.size hF s1 s2 (.slice A n c))
 have HC := hid_ HC
 have HK := hid_ HK
 have hT : (tblL F.cs1 s1 ++ tblL F.cs2 s2).length = 34 := by rw [List.length_append, tblL_len _ _ hF.2.1, tblL_len _ _ hF.2.2]
 have HT34 : Hid ((Tryz.prog.info? 44).map (·.size) = some (tblL F.cs1 s1 ++ tblL F.cs2 s2).length) := hid_ (by rw [hT]; exact sizeTbls)
 have HS := hid_ (fun W => sizes_any F hF s1 s2 (.slice A n c) a b p nb m hw hh hp a1 a2 b1 b2 hp13 hnb hm W)
 rw [hw, hh, hp, he] at HF
 have hm192 : m ≤ 192 := by
  have h1 := cutN_le a2 b2
  rw [hnb] at h1
  rw [← hm]
  exact Nat.le_trans (Nat.mul_le_mul h1 (show p ≤ 3 by omega)) (by omega)
 have HMN := hid_ hm
 have HPSZ := hid_ (fun a b v => picV_size a b v)
 have HP1 := hid_ (fun a b A n c => pic_one a b A n c)
 have HZP := zeroPicS
 have hz0s : Hid ((Value.agg (picV 0 0 (.slice none 0 0))).cells.size = 3) := hid_ rfl
 have HPB := hid_ built0PicS
 have hpo := hid_ (pic_one 0 0 none 0 0)
 have hps := hid_ (picV_size 0 0 (.slice none 0 0))
 have HRA : Hid (∀ W e W', DecIs (r1, X) W e W' → e = .returned (.tuple #[.slice none 0 0, .int .i64 r1]) ∧ Ext W W') := hid_ (fun W e W' h => by
  obtain ⟨hx, h⟩ := h
  rw [if_neg h1] at h
  exact ⟨h, hx⟩)
 have HR : Hid (∀ W, Ext w W → PdIs r1 0 0 [] w (.returned (.tuple #[.agg (picV 0 0 (.slice none 0 0)), .int .i64 r1])) W) := hid_ (fun W h => ⟨none, 0, 0, rfl, RowsS.nil W, h⟩)
 have hne : (r1 != 0) = true := by simpa using h1
 generalize F.cells s1 s2 (.slice A n c) = fv at *
 obtain ⟨tt, htt⟩ : ∃ tt, (tblL F.cs1 s1 ++ tblL F.cs2 s2).toArray = tt := ⟨_, rfl⟩
 have HTT := hid_ htt
 rw [htt] at HK
 clear htt hT hm hw hh hp he hnb hF h1
 generalize picV 0 0 (.slice none 0 0) = pz at *
 go_enter Tryz.func27, Tryz.ntmps27
 go_upto_region 4 with (first
  | ((with_reducible apply gS 1); refine wBox rfl 47 (.tmp 0) rfl fv rfl ?_; intro w1 gf hb1 hx1 hgf)
  | ((with_reducible apply gS 2); refine wAlo' rfl (some 2) rfl 31 rfl _ HZP ?_; intro w2 gp hp2 hx2 hgp; have hb2 := hb1.ext hx2; have hx12 := hx1.trans hx2)
  | ((with_reducible apply gS 7); refine wLdB rfl 47 (.tmp 1) rfl gf rfl hb2 _ Tryz.underlying47 rfl 103 sizeFile hts.out ?_)
  | (go_at_call 50; (with_reducible refine (HC.out _ hx12).mono ?_); rintro e w3 ⟨rfl, hx3'⟩; have hp3 := hp2.ext hx3'; have hb3 := hb2.ext hx3'; have hx3 := hx12.trans hx3'))
 have hx8d : Ext w w3.drew := hx3.drew
 have hbd : Blk w3.drew gf 47 fv := hb3.drew
 have HGX := hid_ (fun W (h : Ext w3.drew W) => HF.out _ _ (hbd.ext h))
 have HGB := hid_ (fun W (h : Ext w3.drew W) => hbd.ext h)
 have hI : Ext w3.drew w3.drew := Ext.refl _
 refine wp_region_oi (Ext w3.drew) (by kernel_rfl) ?_
 refine oi_run (k := 0) (by kernel_rfl) rfl (by rfl) (.pointer (some ⟨gf, 67, none⟩)) (fun w => by go_simp) hI ?_
 simp only [Act.put, sA, sB, sC]
 refine oi_fix (k := 1) (by kernel_rfl) rfl (by rfl) (.agg tt) (fun W hW => HTT.out ▸ ex_loadMid rfl rfl (HGX.out W hW).tt Tryz.underlying44 rfl HT34.out) hI ?_
 simp only [Act.put, sA, sB, sC]
 refine oi_run (k := 2) (by kernel_rfl) rfl (by rfl) (.pointer (some ⟨gf, 102, none⟩)) (fun w => by go_simp) hI ?_
 simp only [Act.put, sA, sB, sC]
 refine oi_fix (k := 3) (by kernel_rfl) rfl (by rfl) (.slice A n c) (fun W hW => ex_loadS rfl rfl (HGX.out W hW).c102) hI ?_
 simp only [Act.put, sA, sB, sC]
 refine oi_fix (k := 4) (by kernel_rfl) rfl (by rfl) (.agg fv) (fun W hW => ex_loadB rfl rfl (HGB.out W hW) Tryz.underlying47 rfl sizeFile hts.out) hI ?_
 simp only [Act.put, sA, sB, sC]
 refine oi_run (k := 6) (by kernel_rfl) rfl (by rfl) (.pointer (some ⟨gf, 101, none⟩)) (fun w => by go_simp) hI ?_
 simp only [Act.put, sA, sB, sC]
 refine oi_fix (k := 7) (by kernel_rfl) rfl (by rfl) (.int .i64 ev) (fun W hW => ex_loadI rfl rfl (HGX.out W hW).c101) hI ?_
 simp only [Act.put, sA, sB, sC]
 refine oi_loud (k := 5) (by kernel_rfl) rfl ?_
 refine wl_enter (by rfl) (run_callv _ _ _ rfl rfl goesSizes #[.agg fv] (by simp [Act.eval])) ?_
 refine (HS.out _).mono ?_
 rintro e4 w4 ⟨rfl, hx4⟩
 refine ⟨_, rfl, oi_end ⟨hx4, ?_⟩⟩
 simp only [Act.put, sA, sB, sC]
 refine oi_loud (k := 8) (by kernel_rfl) rfl ?_
 refine wl_enter (by rfl) (run_callv _ _ _ rfl rfl goesScanDec #[.agg tt, .slice A n c, .int .i64 (m : Int), .int .i64 ev] (by simp [Act.eval])) ?_
 refine (HK.out _ (hx8d.trans hx4)).mono ?_
 intro e5 w5 h5
 obtain ⟨rfl, hx5⟩ := HRA.out _ _ _ h5
 have hx45 := hx4.trans hx5
 refine ⟨_, rfl, oi_end ⟨hx45, ?_⟩⟩
 simp only [Act.put, sA, sB, sC]
 refine oi_run (k := 9) (by kernel_rfl) rfl (by rfl) (.tuple #[.slice none 0 0, .int .i64 r1]) (ex_move rfl rfl) hx45 ?_
 simp only [Act.put, sA, sB, sC]
 refine oi_run (k := 10) (by kernel_rfl) rfl (by rfl) (.slice none 0 0) (ex_extract rfl rfl rfl) hx45 ?_
 simp only [Act.put, sA, sB, sC]
 refine oi_run (k := 11) (by kernel_rfl) rfl (by rfl) (.int .i64 r1) (ex_extract rfl rfl rfl) hx45 ?_
 simp only [Act.put, sA, sB, sC]
 refine oi_run (k := 12) (by kernel_rfl) rfl (by rfl) (.slice none 0 0) (ex_assign rfl rfl) hx45 ?_
 simp only [Act.put, sA, sB, sC]
 refine oi_run (k := 13) (by kernel_rfl) rfl (by rfl) (.int .i64 r1) (ex_assign rfl rfl) hx45 ?_
 simp only [Act.put, sA, sB, sC]
 refine oi_done (by kernel_rfl) ?_
 have hx05 := hx8d.trans hx45
 have hb5 := hbd.ext hx45
 have hp5 := hp3.drew.ext hx45
 go_wp2_with (first
  | ((with_reducible apply gS 26); refine wl_run rfl (.bool true) (ex_neq rfl rfl rfl hne) ?_)
  | ((with_reducible apply gS 27); refine wpList_build0_g (by rfl) 31 rfl _ HPB.out ?_)
  | ((with_reducible apply gT 2 27); refine wStB rfl 31 (.tmp 2) (.tmp 27) rfl gp pz rfl rfl hp5 3 sizePic hps.out hz0s.out hpo.out ?_; intro w7 hb7 hg7; have hx7 := hx05.grown hg7 (by have := hx1.size; omega)))
 exact ret_cell_tmp rfl rfl gp rfl hb7 _ Tryz.underlying31 rfl 3 sizePic hps.out (HR.out _ hx7)
set_option maxRecDepth 20000 in
set_option maxHeartbeats 8000000 in
theorem frameDec_good (F : FC) (hF : F.shaped) (s1 s2 : Value) (A : Option Addr) (n c : Nat) (ev : Int) (a b p nb m : Nat) (hw : F.wd = a) (hh : F.hi = b) (hp : F.pt = p) (he : F.ev = ev) (a1 : 1 ≤ a) (a2 : a ≤ 64) (b1 : 1 ≤ b) (b2 : b ≤ 64) (hp13 : p = 1 ∨ p = 3) (hnb : cutN a b = nb) (hm : nb * p = m) (w : World)
 (HC : ∀ W, Ext w W → Calls Tryz.prog 50 #[.agg (F.cells s1 s2 (.slice A n c))] W fun e W' => e = .returned (.int .i64 0) ∧ Ext W W')
 (X : List Int) (hX : X.length = m * 64) (HK : ∀ W, Ext w W → Calls Tryz.prog 63 #[.agg (tblL F.cs1 s1 ++ tblL F.cs2 s2).toArray, .slice A n c, .int .i64 (m : Int), .int .i64 ev] W (DecIs (0, X) W)) :
 Calls Tryz.prog 27 #[.agg (F.cells s1 s2 (.slice A n c))] w (PdIs 0 a b (showZ F.qs X a b p) w) := by
 have HF := hid_ (fun W g (h : Blk W g 47 (F.cells s1 s2 (.slice A n c))) => fileB h hF.1 (tblL_len _ _ hF.2.1) (tblL_len _ _ hF.2.2))
 have hts := hid_ (FC.size hF s1 s2 (.slice A n c))
 have HC := hid_ HC
 have HK := hid_ HK
 have hT : (tblL F.cs1 s1 ++ tblL F.cs2 s2).length = 34 := by rw [List.length_append, tblL_len _ _ hF.2.1, tblL_len _ _ hF.2.2]
 have HT34 : Hid ((Tryz.prog.info? 44).map (·.size) = some (tblL F.cs1 s1 ++ tblL F.cs2 s2).length) := hid_ (by rw [hT]; exact sizeTbls)
 have HS := hid_ (fun W => sizes_any F hF s1 s2 (.slice A n c) a b p nb m hw hh hp a1 a2 b1 b2 hp13 hnb hm W)
 have HSH := hid_ (fun LA lc W (h : SL W 64 (.slice LA m lc) m (ints X)) => shown_any F hF s1 s2 (.slice A n c) a b p hw hh hp a1 a2 b1 b2 hp13 LA m lc X (by rw [← hm, hnb, Nat.mul_comm]) W h)
 unfold PicIs at HSH
 rw [hw, hh, hp, he] at HF
 have hm192 : m ≤ 192 := by
  have h1 := cutN_le a2 b2
  rw [hnb] at h1
  rw [← hm]
  exact Nat.le_trans (Nat.mul_le_mul h1 (show p ≤ 3 by omega)) (by omega)
 have HMN := hid_ hm
 have HPSZ := hid_ (fun a b v => picV_size a b v)
 have HP1 := hid_ (fun a b A n c => pic_one a b A n c)
 have HZP := zeroPicS
 have hz0s : Hid ((Value.agg (picV 0 0 (.slice none 0 0))).cells.size = 3) := hid_ rfl
 have HPB := hid_ built0PicS
 have hpo := hid_ (pic_one 0 0 none 0 0)
 have hps := hid_ (picV_size 0 0 (.slice none 0 0))
 have HRA : Hid (∀ W e W', DecIs (0, X) W e W' → ∃ B k, e = .returned (.tuple #[.slice B m k, .int .i64 0]) ∧ SL W' 64 (.slice B m k) m (ints X) ∧ Ext W W') := hid_ (fun W e W' h => by
  obtain ⟨hx, h⟩ := h
  rw [if_pos rfl] at h
  obtain ⟨B, k, d, rfl, h1, h2, -⟩ := h
  dsimp only at h1
  obtain rfl : k = m := by omega
  exact ⟨B, d, rfl, h2, hx⟩)
 have HR : Hid (∀ W B k d, RowsS W B k d (showZ F.qs X a b p) → Ext w W → PdIs 0 a b (showZ F.qs X a b p) w (.returned (.tuple #[.agg (picV a b (.slice B k d)), .int .i64 0])) W) := hid_ (fun W B k d h1 h => ⟨B, k, d, rfl, h1, h⟩)
 generalize showZ F.qs X a b p = SZ at *
 generalize F.cells s1 s2 (.slice A n c) = fv at *
 obtain ⟨tt, htt⟩ : ∃ tt, (tblL F.cs1 s1 ++ tblL F.cs2 s2).toArray = tt := ⟨_, rfl⟩
 have HTT := hid_ htt
 rw [htt] at HK
 clear htt hT hm hw hh hp he hnb hF hX
 generalize picV 0 0 (.slice none 0 0) = pz at *
 go_enter Tryz.func27, Tryz.ntmps27
 go_upto_region 4 with (first
  | ((with_reducible apply gS 1); refine wBox rfl 47 (.tmp 0) rfl fv rfl ?_; intro w1 gf hb1 hx1 hgf)
  | ((with_reducible apply gS 2); refine wAlo' rfl (some 2) rfl 31 rfl _ HZP ?_; intro w2 gp hp2 hx2 hgp; have hb2 := hb1.ext hx2; have hx12 := hx1.trans hx2)
  | ((with_reducible apply gS 7); refine wLdB rfl 47 (.tmp 1) rfl gf rfl hb2 _ Tryz.underlying47 rfl 103 sizeFile hts.out ?_)
  | (go_at_call 50; (with_reducible refine (HC.out _ hx12).mono ?_); rintro e w3 ⟨rfl, hx3'⟩; have hp3 := hp2.ext hx3'; have hb3 := hb2.ext hx3'; have hx3 := hx12.trans hx3'))
 have hx8d : Ext w w3.drew := hx3.drew
 have hbd : Blk w3.drew gf 47 fv := hb3.drew
 have HGX := hid_ (fun W (h : Ext w3.drew W) => HF.out _ _ (hbd.ext h))
 have HGB := hid_ (fun W (h : Ext w3.drew W) => hbd.ext h)
 have hI : Ext w3.drew w3.drew := Ext.refl _
 refine wp_region_oi (Ext w3.drew) (by kernel_rfl) ?_
 refine oi_run (k := 0) (by kernel_rfl) rfl (by rfl) (.pointer (some ⟨gf, 67, none⟩)) (fun w => by go_simp) hI ?_
 simp only [Act.put, sA, sB, sC]
 refine oi_fix (k := 1) (by kernel_rfl) rfl (by rfl) (.agg tt) (fun W hW => HTT.out ▸ ex_loadMid rfl rfl (HGX.out W hW).tt Tryz.underlying44 rfl HT34.out) hI ?_
 simp only [Act.put, sA, sB, sC]
 refine oi_run (k := 2) (by kernel_rfl) rfl (by rfl) (.pointer (some ⟨gf, 102, none⟩)) (fun w => by go_simp) hI ?_
 simp only [Act.put, sA, sB, sC]
 refine oi_fix (k := 3) (by kernel_rfl) rfl (by rfl) (.slice A n c) (fun W hW => ex_loadS rfl rfl (HGX.out W hW).c102) hI ?_
 simp only [Act.put, sA, sB, sC]
 refine oi_fix (k := 4) (by kernel_rfl) rfl (by rfl) (.agg fv) (fun W hW => ex_loadB rfl rfl (HGB.out W hW) Tryz.underlying47 rfl sizeFile hts.out) hI ?_
 simp only [Act.put, sA, sB, sC]
 refine oi_run (k := 6) (by kernel_rfl) rfl (by rfl) (.pointer (some ⟨gf, 101, none⟩)) (fun w => by go_simp) hI ?_
 simp only [Act.put, sA, sB, sC]
 refine oi_fix (k := 7) (by kernel_rfl) rfl (by rfl) (.int .i64 ev) (fun W hW => ex_loadI rfl rfl (HGX.out W hW).c101) hI ?_
 simp only [Act.put, sA, sB, sC]
 refine oi_loud (k := 5) (by kernel_rfl) rfl ?_
 refine wl_enter (by rfl) (run_callv _ _ _ rfl rfl goesSizes #[.agg fv] (by simp [Act.eval])) ?_
 refine (HS.out _).mono ?_
 rintro e4 w4 ⟨rfl, hx4⟩
 refine ⟨_, rfl, oi_end ⟨hx4, ?_⟩⟩
 simp only [Act.put, sA, sB, sC]
 refine oi_loud (k := 8) (by kernel_rfl) rfl ?_
 refine wl_enter (by rfl) (run_callv _ _ _ rfl rfl goesScanDec #[.agg tt, .slice A n c, .int .i64 (m : Int), .int .i64 ev] (by simp [Act.eval])) ?_
 refine (HK.out _ (hx8d.trans hx4)).mono ?_
 intro e5 w5 h5
 obtain ⟨B5, d5, rfl, hs5, hx5⟩ := HRA.out _ _ _ h5
 have hx45 := hx4.trans hx5
 refine ⟨_, rfl, oi_end ⟨hx45, ?_⟩⟩
 simp only [Act.put, sA, sB, sC]
 refine oi_run (k := 9) (by kernel_rfl) rfl (by rfl) (.tuple #[.slice B5 m d5, .int .i64 0]) (ex_move rfl rfl) hx45 ?_
 simp only [Act.put, sA, sB, sC]
 refine oi_run (k := 10) (by kernel_rfl) rfl (by rfl) (.slice B5 m d5) (ex_extract rfl rfl rfl) hx45 ?_
 simp only [Act.put, sA, sB, sC]
 refine oi_run (k := 11) (by kernel_rfl) rfl (by rfl) (.int .i64 0) (ex_extract rfl rfl rfl) hx45 ?_
 simp only [Act.put, sA, sB, sC]
 refine oi_run (k := 12) (by kernel_rfl) rfl (by rfl) (.slice B5 m d5) (ex_assign rfl rfl) hx45 ?_
 simp only [Act.put, sA, sB, sC]
 refine oi_run (k := 13) (by kernel_rfl) rfl (by rfl) (.int .i64 0) (ex_assign rfl rfl) hx45 ?_
 simp only [Act.put, sA, sB, sC]
 refine oi_done (by kernel_rfl) ?_
 have hx05 := hx8d.trans hx45
 have hb5 := hbd.ext hx45
 have hp5 := hp3.drew.ext hx45
 go_wp2_with (first
  | ((with_reducible apply gS 29); refine wLdB rfl 47 (.tmp 1) rfl gf rfl hb5 _ Tryz.underlying47 rfl 103 sizeFile hts.out ?_)
  | (go_at_call 57; (with_reducible refine (HSH.out _ _ _ hs5).mono ?_); rintro e w6 ⟨B6, k6, d6, rfl, hr6, hx6⟩; have hp6 := hp5.ext hx6; have hx06 := hx05.trans hx6)
  | ((with_reducible apply gT 2 31); refine wStB rfl 31 (.tmp 2) (.tmp 31) rfl gp (picV a b (.slice B6 k6 d6)) rfl rfl hp6 3 sizePic (HPSZ.out _ _ _) hz0s.out (HP1.out _ _ _ _ _) ?_; intro w7 hb7 hg7; have hx7 := hx06.grown hg7 (by have := hx1.size; omega); have hu7 := upd_grown hg7))
 have hgpw : gp < w3.heap.size := hp3.lt
 have hr7 := rows_far hr6 (upd_grown hg7) (fun x e => by injection e with e; rw [← e]; exact Nat.lt_of_lt_of_le hgpw (by have h1 := hx45.size; have h2 := hx8d.size; exact h1))
 exact ret_cell_tmp rfl rfl gp rfl hb7 _ Tryz.underlying31 rfl 3 sizePic (HPSZ.out _ _ _) (HR.out _ _ _ _ hr7 hx7)
set_option maxRecDepth 20000 in
set_option maxHeartbeats 4000000 in
theorem rframeDec_bad (fv : Array Value) (hfs : fv.size = 103) (E : Int) (hE : E ≠ 0) (w : World) (HC : ∀ W, Ext w W → Calls Tryz.prog 52 #[.agg fv] W fun e W' => e = .returned (.int .i64 E) ∧ Ext W W') :
 Calls Tryz.prog 28 #[.agg fv] w (PdIs E 0 0 [] w) := by
 have HC := hid_ HC
 have hts := hid_ hfs
 have hne : (E != 0) = true := by simpa using hE
 have HPSZ := hid_ (fun a b v => picV_size a b v)
 have HP1 := hid_ (fun a b A n c => pic_one a b A n c)
 have HZP := zeroPicS
 have hz0s : Hid ((Value.agg (picV 0 0 (.slice none 0 0))).cells.size = 3) := hid_ rfl
 have HPB := hid_ built0PicS
 have hpo := hid_ (pic_one 0 0 none 0 0)
 have hps := hid_ (picV_size 0 0 (.slice none 0 0))
 have HR : Hid (∀ W, Ext w W → PdIs E 0 0 [] w (.returned (.tuple #[.agg (picV 0 0 (.slice none 0 0)), .int .i64 E])) W) := hid_ (fun W h => ⟨none, 0, 0, rfl, RowsS.nil W, h⟩)
 generalize picV 0 0 (.slice none 0 0) = pz at *
 clear hE
 go_enter Tryz.func28, Tryz.ntmps28
 go_wp2_with (first
  | ((with_reducible apply gS 1); refine wBox rfl 47 (.tmp 0) rfl fv rfl ?_; intro w1 gf hb1 hx1 hgf)
  | ((with_reducible apply gS 2); refine wAlo' rfl (some 2) rfl 31 rfl _ HZP ?_; intro w2 gp hp2 hx2 hgp; have hb2 := hb1.ext hx2; have hx12 := hx1.trans hx2)
  | ((with_reducible apply gS 7); refine wLdB rfl 47 (.tmp 1) rfl gf rfl hb2 _ Tryz.underlying47 rfl 103 sizeFile hts.out ?_)
  | (go_at_call 52; (with_reducible refine (HC.out _ hx12).mono ?_); rintro e w3 ⟨rfl, hx3⟩; have hp3 := hp2.ext hx3; have hx13 := hx12.trans hx3)
  | ((with_reducible apply gS 10); refine wl_run rfl (.bool true) (ex_neq rfl rfl rfl hne) ?_)
  | ((with_reducible apply gS 11); refine wpList_build0_g (by rfl) 31 rfl _ HPB.out ?_)
  | ((with_reducible apply gT 2 11); refine wStB rfl 31 (.tmp 2) (.tmp 11) rfl gp pz rfl rfl hp3 3 sizePic hps.out hz0s.out hpo.out ?_; intro w4 hb4 hg4; have hx4 := hx13.grown hg4 (by have := hx1.size; omega)))
 exact ret_cell_tmp rfl rfl gp rfl hb4 _ Tryz.underlying31 rfl 3 sizePic hps.out (HR.out _ hx4)
set_option maxRecDepth 20000 in
set_option maxHeartbeats 8000000 in
theorem rframeDec_err (F : FC) (hF : F.shaped) (s1 s2 : Value) (A : Option Addr) (n c : Nat) (ev : Int) (a b p nb m : Nat) (hw : F.wd = a) (hh : F.hi = b) (hp : F.pt = p) (he : F.ev = ev) (a1 : 1 ≤ a) (a2 : a ≤ 64) (b1 : 1 ≤ b) (b2 : b ≤ 64) (hp13 : p = 1 ∨ p = 3) (hnb : cutN a b = nb) (hm : nb * p = m) (w : World)
 (HC : ∀ W, Ext w W → Calls Tryz.prog 52 #[.agg (F.cells s1 s2 (.slice A n c))] W fun e W' => e = .returned (.int .i64 0) ∧ Ext W W')
 (r1 : Int) (X : List Int) (h1 : r1 ≠ 0) (HK : ∀ W, Ext w W → Calls Tryz.prog 64 #[.agg (tblL F.cs1 s1 ++ tblL F.cs2 s2).toArray, .slice A n c, .int .i64 (m : Int), .int .i64 ev] W (DecIs (r1, X) W)) :
 Calls Tryz.prog 28 #[.agg (F.cells s1 s2 (.slice A n c))] w (PdIs r1 0 0 [] w) := by
 have HF := hid_ (fun W g (h : Blk W g 47 (F.cells s1 s2 (.slice A n c))) => fileB h hF.1 (tblL_len _ _ hF.2.1) (tblL_len _ _ hF.2.2))
 have hts := hid_ (FC.size hF s1 s2 (.slice A n c))
 have HC := hid_ HC
 have HK := hid_ HK
 have hT : (tblL F.cs1 s1 ++ tblL F.cs2 s2).length = 34 := by rw [List.length_append, tblL_len _ _ hF.2.1, tblL_len _ _ hF.2.2]
 have HT34 : Hid ((Tryz.prog.info? 44).map (·.size) = some (tblL F.cs1 s1 ++ tblL F.cs2 s2).length) := hid_ (by rw [hT]; exact sizeTbls)
 have HS : Hid (∀ W, Calls Tryz.prog 60 #[.int .i64 (a : Int), .int .i64 (b : Int)] W fun e w' => e = .returned (.int .i64 (nb : Int)) ∧ Ext W w') := hid_ (fun W => by rw [← hnb]; exact (rmany_any a b W a2 b2).mono fun e w' h => ⟨h.1, by rw [← h.2]; exact Ext.refl _⟩)
 rw [hw, hh, hp, he] at HF
 have hm192 : m ≤ 192 := by
  have h1 := cutN_le a2 b2
  rw [hnb] at h1
  rw [← hm]
  exact Nat.le_trans (Nat.mul_le_mul h1 (show p ≤ 3 by omega)) (by omega)
 have HMN := hid_ hm
 have HPSZ := hid_ (fun a b v => picV_size a b v)
 have HP1 := hid_ (fun a b A n c => pic_one a b A n c)
 have HZP := zeroPicS
 have hz0s : Hid ((Value.agg (picV 0 0 (.slice none 0 0))).cells.size = 3) := hid_ rfl
 have HPB := hid_ built0PicS
 have hpo := hid_ (pic_one 0 0 none 0 0)
 have hps := hid_ (picV_size 0 0 (.slice none 0 0))
 have HRA : Hid (∀ W e W', DecIs (r1, X) W e W' → e = .returned (.tuple #[.slice none 0 0, .int .i64 r1]) ∧ Ext W W') := hid_ (fun W e W' h => by
  obtain ⟨hx, h⟩ := h
  rw [if_neg h1] at h
  exact ⟨h, hx⟩)
 have HR : Hid (∀ W, Ext w W → PdIs r1 0 0 [] w (.returned (.tuple #[.agg (picV 0 0 (.slice none 0 0)), .int .i64 r1])) W) := hid_ (fun W h => ⟨none, 0, 0, rfl, RowsS.nil W, h⟩)
 have hne : (r1 != 0) = true := by simpa using h1
 generalize F.cells s1 s2 (.slice A n c) = fv at *
 obtain ⟨tt, htt⟩ : ∃ tt, (tblL F.cs1 s1 ++ tblL F.cs2 s2).toArray = tt := ⟨_, rfl⟩
 have HTT := hid_ htt
 rw [htt] at HK
 clear htt hT hm hw hh hp he hnb hF h1
 generalize picV 0 0 (.slice none 0 0) = pz at *
 go_enter Tryz.func28, Tryz.ntmps28
 go_upto_region 4 with (first
  | ((with_reducible apply gS 1); refine wBox rfl 47 (.tmp 0) rfl fv rfl ?_; intro w1 gf hb1 hx1 hgf)
  | ((with_reducible apply gS 2); refine wAlo' rfl (some 2) rfl 31 rfl _ HZP ?_; intro w2 gp hp2 hx2 hgp; have hb2 := hb1.ext hx2; have hx12 := hx1.trans hx2)
  | ((with_reducible apply gS 7); refine wLdB rfl 47 (.tmp 1) rfl gf rfl hb2 _ Tryz.underlying47 rfl 103 sizeFile hts.out ?_)
  | (go_at_call 52; (with_reducible refine (HC.out _ hx12).mono ?_); rintro e w3 ⟨rfl, hx3'⟩; have hp3 := hp2.ext hx3'; have hb3 := hb2.ext hx3'; have hx3 := hx12.trans hx3'))
 have hx8d : Ext w w3.drew := hx3.drew
 have hbd : Blk w3.drew gf 47 fv := hb3.drew
 have HGX := hid_ (fun W (h : Ext w3.drew W) => HF.out _ _ (hbd.ext h))
 have HGB := hid_ (fun W (h : Ext w3.drew W) => hbd.ext h)
 have hI : Ext w3.drew w3.drew := Ext.refl _
 refine wp_region_oi (Ext w3.drew) (by kernel_rfl) ?_
 refine oi_run (k := 0) (by kernel_rfl) rfl (by rfl) (.pointer (some ⟨gf, 67, none⟩)) (fun w => by go_simp) hI ?_
 simp only [Act.put, sA, sB, sC]
 refine oi_fix (k := 1) (by kernel_rfl) rfl (by rfl) (.agg tt) (fun W hW => HTT.out ▸ ex_loadMid rfl rfl (HGX.out W hW).tt Tryz.underlying44 rfl HT34.out) hI ?_
 simp only [Act.put, sA, sB, sC]
 refine oi_run (k := 2) (by kernel_rfl) rfl (by rfl) (.pointer (some ⟨gf, 102, none⟩)) (fun w => by go_simp) hI ?_
 simp only [Act.put, sA, sB, sC]
 refine oi_fix (k := 3) (by kernel_rfl) rfl (by rfl) (.slice A n c) (fun W hW => ex_loadS rfl rfl (HGX.out W hW).c102) hI ?_
 simp only [Act.put, sA, sB, sC]
 refine oi_run (k := 4) (by kernel_rfl) rfl (by rfl) (.pointer (some ⟨gf, 0, none⟩)) (fun w => by go_simp) hI ?_
 simp only [Act.put, sA, sB, sC]
 refine oi_fix (k := 5) (by kernel_rfl) rfl (by rfl) (.int .i64 (a : Int)) (fun W hW => ex_loadI rfl rfl (HGX.out W hW).c0) hI ?_
 simp only [Act.put, sA, sB, sC]
 refine oi_run (k := 6) (by kernel_rfl) rfl (by rfl) (.pointer (some ⟨gf, 1, none⟩)) (fun w => by go_simp) hI ?_
 simp only [Act.put, sA, sB, sC]
 refine oi_fix (k := 7) (by kernel_rfl) rfl (by rfl) (.int .i64 (b : Int)) (fun W hW => ex_loadI rfl rfl (HGX.out W hW).c1) hI ?_
 simp only [Act.put, sA, sB, sC]
 refine oi_run (k := 9) (by kernel_rfl) rfl (by rfl) (.pointer (some ⟨gf, 2, none⟩)) (fun w => by go_simp) hI ?_
 simp only [Act.put, sA, sB, sC]
 refine oi_fix (k := 10) (by kernel_rfl) rfl (by rfl) (.int .i64 (p : Int)) (fun W hW => ex_loadI rfl rfl (HGX.out W hW).c2) hI ?_
 simp only [Act.put, sA, sB, sC]
 refine oi_run (k := 12) (by kernel_rfl) rfl (by rfl) (.pointer (some ⟨gf, 101, none⟩)) (fun w => by go_simp) hI ?_
 simp only [Act.put, sA, sB, sC]
 refine oi_fix (k := 13) (by kernel_rfl) rfl (by rfl) (.int .i64 ev) (fun W hW => ex_loadI rfl rfl (HGX.out W hW).c101) hI ?_
 simp only [Act.put, sA, sB, sC]
 refine oi_loud (k := 8) (by kernel_rfl) rfl ?_
 refine wl_enter (by rfl) (run_callv _ _ _ rfl rfl goesMany #[.int .i64 (a : Int), .int .i64 (b : Int)] (by simp [Act.eval])) ?_
 refine (HS.out _).mono ?_
 rintro e4 w4 ⟨rfl, hx4⟩
 refine ⟨_, rfl, oi_end ⟨hx4, ?_⟩⟩
 simp only [Act.put, sA, sB, sC]
 refine oi_run (k := 11) (by kernel_rfl) rfl (by rfl) (.int .i64 (m : Int)) (by rw [← HMN.out]; exact ex_mulN (i := nb) (d := p) rfl rfl rfl (by rw [HMN.out]; omega)) hx4 ?_
 simp only [Act.put, sA, sB, sC]
 refine oi_loud (k := 14) (by kernel_rfl) rfl ?_
 refine wl_enter (by rfl) (run_callv _ _ _ rfl rfl goesRScanDec #[.agg tt, .slice A n c, .int .i64 (m : Int), .int .i64 ev] (by simp [Act.eval])) ?_
 refine (HK.out _ (hx8d.trans hx4)).mono ?_
 intro e5 w5 h5
 obtain ⟨rfl, hx5⟩ := HRA.out _ _ _ h5
 have hx45 := hx4.trans hx5
 refine ⟨_, rfl, oi_end ⟨hx45, ?_⟩⟩
 simp only [Act.put, sA, sB, sC]
 refine oi_run (k := 15) (by kernel_rfl) rfl (by rfl) (.tuple #[.slice none 0 0, .int .i64 r1]) (ex_move rfl rfl) hx45 ?_
 simp only [Act.put, sA, sB, sC]
 refine oi_run (k := 16) (by kernel_rfl) rfl (by rfl) (.slice none 0 0) (ex_extract rfl rfl rfl) hx45 ?_
 simp only [Act.put, sA, sB, sC]
 refine oi_run (k := 17) (by kernel_rfl) rfl (by rfl) (.int .i64 r1) (ex_extract rfl rfl rfl) hx45 ?_
 simp only [Act.put, sA, sB, sC]
 refine oi_run (k := 18) (by kernel_rfl) rfl (by rfl) (.slice none 0 0) (ex_assign rfl rfl) hx45 ?_
 simp only [Act.put, sA, sB, sC]
 refine oi_run (k := 19) (by kernel_rfl) rfl (by rfl) (.int .i64 r1) (ex_assign rfl rfl) hx45 ?_
 simp only [Act.put, sA, sB, sC]
 refine oi_done (by kernel_rfl) ?_
 have hx05 := hx8d.trans hx45
 have hb5 := hbd.ext hx45
 have hp5 := hp3.drew.ext hx45
 go_wp2_with (first
  | ((with_reducible apply gS 32); refine wl_run rfl (.bool true) (ex_neq rfl rfl rfl hne) ?_)
  | ((with_reducible apply gS 33); refine wpList_build0_g (by rfl) 31 rfl _ HPB.out ?_)
  | ((with_reducible apply gT 2 33); refine wStB rfl 31 (.tmp 2) (.tmp 33) rfl gp pz rfl rfl hp5 3 sizePic hps.out hz0s.out hpo.out ?_; intro w7 hb7 hg7; have hx7 := hx05.grown hg7 (by have := hx1.size; omega)))
 exact ret_cell_tmp rfl rfl gp rfl hb7 _ Tryz.underlying31 rfl 3 sizePic hps.out (HR.out _ hx7)
set_option maxRecDepth 20000 in
set_option maxHeartbeats 8000000 in
theorem rframeDec_good (F : FC) (hF : F.shaped) (s1 s2 : Value) (A : Option Addr) (n c : Nat) (ev : Int) (a b p nb m : Nat) (hw : F.wd = a) (hh : F.hi = b) (hp : F.pt = p) (he : F.ev = ev) (a1 : 1 ≤ a) (a2 : a ≤ 64) (b1 : 1 ≤ b) (b2 : b ≤ 64) (hp13 : p = 1 ∨ p = 3) (hnb : cutN a b = nb) (hm : nb * p = m) (w : World)
 (HC : ∀ W, Ext w W → Calls Tryz.prog 52 #[.agg (F.cells s1 s2 (.slice A n c))] W fun e W' => e = .returned (.int .i64 0) ∧ Ext W W')
 (X : List Int) (hX : X.length = m * 64) (HK : ∀ W, Ext w W → Calls Tryz.prog 64 #[.agg (tblL F.cs1 s1 ++ tblL F.cs2 s2).toArray, .slice A n c, .int .i64 (m : Int), .int .i64 ev] W (DecIs (0, X) W)) :
 Calls Tryz.prog 28 #[.agg (F.cells s1 s2 (.slice A n c))] w (PdIs 0 a b (showZ F.qs X a b p) w) := by
 have HF := hid_ (fun W g (h : Blk W g 47 (F.cells s1 s2 (.slice A n c))) => fileB h hF.1 (tblL_len _ _ hF.2.1) (tblL_len _ _ hF.2.2))
 have hts := hid_ (FC.size hF s1 s2 (.slice A n c))
 have HC := hid_ HC
 have HK := hid_ HK
 have hT : (tblL F.cs1 s1 ++ tblL F.cs2 s2).length = 34 := by rw [List.length_append, tblL_len _ _ hF.2.1, tblL_len _ _ hF.2.2]
 have HT34 : Hid ((Tryz.prog.info? 44).map (·.size) = some (tblL F.cs1 s1 ++ tblL F.cs2 s2).length) := hid_ (by rw [hT]; exact sizeTbls)
 have HS : Hid (∀ W, Calls Tryz.prog 60 #[.int .i64 (a : Int), .int .i64 (b : Int)] W fun e w' => e = .returned (.int .i64 (nb : Int)) ∧ Ext W w') := hid_ (fun W => by rw [← hnb]; exact (rmany_any a b W a2 b2).mono fun e w' h => ⟨h.1, by rw [← h.2]; exact Ext.refl _⟩)
 have HSH := hid_ (fun LA lc W (h : SL W 64 (.slice LA m lc) m (ints X)) => rshown_any F hF s1 s2 (.slice A n c) a b p hw hh hp a1 a2 b1 b2 hp13 LA m lc X (by rw [← hm, hnb, Nat.mul_comm]) W h)
 unfold PicIs at HSH
 rw [hw, hh, hp, he] at HF
 have hm192 : m ≤ 192 := by
  have h1 := cutN_le a2 b2
  rw [hnb] at h1
  rw [← hm]
  exact Nat.le_trans (Nat.mul_le_mul h1 (show p ≤ 3 by omega)) (by omega)
 have HMN := hid_ hm
 have HPSZ := hid_ (fun a b v => picV_size a b v)
 have HP1 := hid_ (fun a b A n c => pic_one a b A n c)
 have HZP := zeroPicS
 have hz0s : Hid ((Value.agg (picV 0 0 (.slice none 0 0))).cells.size = 3) := hid_ rfl
 have HPB := hid_ built0PicS
 have hpo := hid_ (pic_one 0 0 none 0 0)
 have hps := hid_ (picV_size 0 0 (.slice none 0 0))
 have HRA : Hid (∀ W e W', DecIs (0, X) W e W' → ∃ B k, e = .returned (.tuple #[.slice B m k, .int .i64 0]) ∧ SL W' 64 (.slice B m k) m (ints X) ∧ Ext W W') := hid_ (fun W e W' h => by
  obtain ⟨hx, h⟩ := h
  rw [if_pos rfl] at h
  obtain ⟨B, k, d, rfl, h1, h2, -⟩ := h
  dsimp only at h1
  obtain rfl : k = m := by omega
  exact ⟨B, d, rfl, h2, hx⟩)
 have HR : Hid (∀ W B k d, RowsS W B k d (showZ F.qs X a b p) → Ext w W → PdIs 0 a b (showZ F.qs X a b p) w (.returned (.tuple #[.agg (picV a b (.slice B k d)), .int .i64 0])) W) := hid_ (fun W B k d h1 h => ⟨B, k, d, rfl, h1, h⟩)
 generalize showZ F.qs X a b p = SZ at *
 generalize F.cells s1 s2 (.slice A n c) = fv at *
 obtain ⟨tt, htt⟩ : ∃ tt, (tblL F.cs1 s1 ++ tblL F.cs2 s2).toArray = tt := ⟨_, rfl⟩
 have HTT := hid_ htt
 rw [htt] at HK
 clear htt hT hm hw hh hp he hnb hF hX
 generalize picV 0 0 (.slice none 0 0) = pz at *
 go_enter Tryz.func28, Tryz.ntmps28
 go_upto_region 4 with (first
  | ((with_reducible apply gS 1); refine wBox rfl 47 (.tmp 0) rfl fv rfl ?_; intro w1 gf hb1 hx1 hgf)
  | ((with_reducible apply gS 2); refine wAlo' rfl (some 2) rfl 31 rfl _ HZP ?_; intro w2 gp hp2 hx2 hgp; have hb2 := hb1.ext hx2; have hx12 := hx1.trans hx2)
  | ((with_reducible apply gS 7); refine wLdB rfl 47 (.tmp 1) rfl gf rfl hb2 _ Tryz.underlying47 rfl 103 sizeFile hts.out ?_)
  | (go_at_call 52; (with_reducible refine (HC.out _ hx12).mono ?_); rintro e w3 ⟨rfl, hx3'⟩; have hp3 := hp2.ext hx3'; have hb3 := hb2.ext hx3'; have hx3 := hx12.trans hx3'))
 have hx8d : Ext w w3.drew := hx3.drew
 have hbd : Blk w3.drew gf 47 fv := hb3.drew
 have HGX := hid_ (fun W (h : Ext w3.drew W) => HF.out _ _ (hbd.ext h))
 have HGB := hid_ (fun W (h : Ext w3.drew W) => hbd.ext h)
 have hI : Ext w3.drew w3.drew := Ext.refl _
 refine wp_region_oi (Ext w3.drew) (by kernel_rfl) ?_
 refine oi_run (k := 0) (by kernel_rfl) rfl (by rfl) (.pointer (some ⟨gf, 67, none⟩)) (fun w => by go_simp) hI ?_
 simp only [Act.put, sA, sB, sC]
 refine oi_fix (k := 1) (by kernel_rfl) rfl (by rfl) (.agg tt) (fun W hW => HTT.out ▸ ex_loadMid rfl rfl (HGX.out W hW).tt Tryz.underlying44 rfl HT34.out) hI ?_
 simp only [Act.put, sA, sB, sC]
 refine oi_run (k := 2) (by kernel_rfl) rfl (by rfl) (.pointer (some ⟨gf, 102, none⟩)) (fun w => by go_simp) hI ?_
 simp only [Act.put, sA, sB, sC]
 refine oi_fix (k := 3) (by kernel_rfl) rfl (by rfl) (.slice A n c) (fun W hW => ex_loadS rfl rfl (HGX.out W hW).c102) hI ?_
 simp only [Act.put, sA, sB, sC]
 refine oi_run (k := 4) (by kernel_rfl) rfl (by rfl) (.pointer (some ⟨gf, 0, none⟩)) (fun w => by go_simp) hI ?_
 simp only [Act.put, sA, sB, sC]
 refine oi_fix (k := 5) (by kernel_rfl) rfl (by rfl) (.int .i64 (a : Int)) (fun W hW => ex_loadI rfl rfl (HGX.out W hW).c0) hI ?_
 simp only [Act.put, sA, sB, sC]
 refine oi_run (k := 6) (by kernel_rfl) rfl (by rfl) (.pointer (some ⟨gf, 1, none⟩)) (fun w => by go_simp) hI ?_
 simp only [Act.put, sA, sB, sC]
 refine oi_fix (k := 7) (by kernel_rfl) rfl (by rfl) (.int .i64 (b : Int)) (fun W hW => ex_loadI rfl rfl (HGX.out W hW).c1) hI ?_
 simp only [Act.put, sA, sB, sC]
 refine oi_run (k := 9) (by kernel_rfl) rfl (by rfl) (.pointer (some ⟨gf, 2, none⟩)) (fun w => by go_simp) hI ?_
 simp only [Act.put, sA, sB, sC]
 refine oi_fix (k := 10) (by kernel_rfl) rfl (by rfl) (.int .i64 (p : Int)) (fun W hW => ex_loadI rfl rfl (HGX.out W hW).c2) hI ?_
 simp only [Act.put, sA, sB, sC]
 refine oi_run (k := 12) (by kernel_rfl) rfl (by rfl) (.pointer (some ⟨gf, 101, none⟩)) (fun w => by go_simp) hI ?_
 simp only [Act.put, sA, sB, sC]
 refine oi_fix (k := 13) (by kernel_rfl) rfl (by rfl) (.int .i64 ev) (fun W hW => ex_loadI rfl rfl (HGX.out W hW).c101) hI ?_
 simp only [Act.put, sA, sB, sC]
 refine oi_loud (k := 8) (by kernel_rfl) rfl ?_
 refine wl_enter (by rfl) (run_callv _ _ _ rfl rfl goesMany #[.int .i64 (a : Int), .int .i64 (b : Int)] (by simp [Act.eval])) ?_
 refine (HS.out _).mono ?_
 rintro e4 w4 ⟨rfl, hx4⟩
 refine ⟨_, rfl, oi_end ⟨hx4, ?_⟩⟩
 simp only [Act.put, sA, sB, sC]
 refine oi_run (k := 11) (by kernel_rfl) rfl (by rfl) (.int .i64 (m : Int)) (by rw [← HMN.out]; exact ex_mulN (i := nb) (d := p) rfl rfl rfl (by rw [HMN.out]; omega)) hx4 ?_
 simp only [Act.put, sA, sB, sC]
 refine oi_loud (k := 14) (by kernel_rfl) rfl ?_
 refine wl_enter (by rfl) (run_callv _ _ _ rfl rfl goesRScanDec #[.agg tt, .slice A n c, .int .i64 (m : Int), .int .i64 ev] (by simp [Act.eval])) ?_
 refine (HK.out _ (hx8d.trans hx4)).mono ?_
 intro e5 w5 h5
 obtain ⟨B5, d5, rfl, hs5, hx5⟩ := HRA.out _ _ _ h5
 have hx45 := hx4.trans hx5
 refine ⟨_, rfl, oi_end ⟨hx45, ?_⟩⟩
 simp only [Act.put, sA, sB, sC]
 refine oi_run (k := 15) (by kernel_rfl) rfl (by rfl) (.tuple #[.slice B5 m d5, .int .i64 0]) (ex_move rfl rfl) hx45 ?_
 simp only [Act.put, sA, sB, sC]
 refine oi_run (k := 16) (by kernel_rfl) rfl (by rfl) (.slice B5 m d5) (ex_extract rfl rfl rfl) hx45 ?_
 simp only [Act.put, sA, sB, sC]
 refine oi_run (k := 17) (by kernel_rfl) rfl (by rfl) (.int .i64 0) (ex_extract rfl rfl rfl) hx45 ?_
 simp only [Act.put, sA, sB, sC]
 refine oi_run (k := 18) (by kernel_rfl) rfl (by rfl) (.slice B5 m d5) (ex_assign rfl rfl) hx45 ?_
 simp only [Act.put, sA, sB, sC]
 refine oi_run (k := 19) (by kernel_rfl) rfl (by rfl) (.int .i64 0) (ex_assign rfl rfl) hx45 ?_
 simp only [Act.put, sA, sB, sC]
 refine oi_done (by kernel_rfl) ?_
 have hx05 := hx8d.trans hx45
 have hb5 := hbd.ext hx45
 have hp5 := hp3.drew.ext hx45
 go_wp2_with (first
  | ((with_reducible apply gS 35); refine wLdB rfl 47 (.tmp 1) rfl gf rfl hb5 _ Tryz.underlying47 rfl 103 sizeFile hts.out ?_)
  | (go_at_call 61; (with_reducible refine (HSH.out _ _ _ hs5).mono ?_); rintro e w6 ⟨B6, k6, d6, rfl, hr6, hx6⟩; have hp6 := hp5.ext hx6; have hx06 := hx05.trans hx6)
  | ((with_reducible apply gT 2 37); refine wStB rfl 31 (.tmp 2) (.tmp 37) rfl gp (picV a b (.slice B6 k6 d6)) rfl rfl hp6 3 sizePic (HPSZ.out _ _ _) hz0s.out (HP1.out _ _ _ _ _) ?_; intro w7 hb7 hg7; have hx7 := hx06.grown hg7 (by have := hx1.size; omega); have hu7 := upd_grown hg7))
 have hgpw : gp < w3.heap.size := hp3.lt
 have hr7 := rows_far hr6 (upd_grown hg7) (fun x e => by injection e with e; rw [← e]; exact Nat.lt_of_lt_of_le hgpw (by have h1 := hx45.size; have h2 := hx8d.size; exact h1))
 exact ret_cell_tmp rfl rfl gp rfl hb7 _ Tryz.underlying31 rfl 3 sizePic (HPSZ.out _ _ _) (HR.out _ _ _ _ hr7 hx7)
end
set_option maxRecDepth 20000 in
set_option maxHeartbeats 1000000 in
theorem eqListsI_same (A B : Option Addr) (n c d : Nat) (L : List (List Int)) (w : World) (hu : RowsS w A n c L) (hv : RowsS w B n d L) :
 Calls Tryz.prog 62 #[.slice A n c, .slice B n d] w fun e w' => e = .returned (.bool true) ∧ Ext w w' := by
 have hc1 := hu.cap
 have hd1 := hv.cap
 have e1 : ((n : Int) != (n : Int)) = false := by simp
 go_enter Tryz.func62, Tryz.ntmps62
 go_wp2_with fail
 go_loopw [13] (fun i wr => ∃ k : Nat, k ≤ n ∧ i = .int .i64 (k : Int) ∧ Ext w wr) (fun i _ => n - (intOf i).toNat)
 case atStart => exact ⟨0, by omega, rfl, Ext.refl _⟩
 case round =>
  obtain ⟨k, hk, rfl, hx⟩ := hrel
  by_cases hlt : k < n
  ·have hxd : Ext w wr.drew := hx.drew
   obtain ⟨ad, l, A1, c1, rfl, hLk, hab, hca, hsA⟩ := (hu.ext hxd).get hlt
   obtain ⟨bd, l', A2, c2, rfl, hLk', hbb, hcb, hsB⟩ := (hv.ext hxd).get hlt
   obtain rfl : l = l' := Option.some.inj (hLk.symm.trans hLk')
   have HEQ := hid_ (fun W (x : SL W 1 (.slice A1 l.length c1) l.length (ints l)) (y : SL W 1 (.slice A2 l.length c2) l.length (ints l)) => eqInt_any _ _ l l W x y)
   rw [decide_eq_true (rfl : l = l)] at HEQ
   generalize ints l = il at *
   generalize l.length = m at *
   have HCA : ∀ W, Ext wr.drew W → W.cell? (ad.add (k * 1)) = some (.slice A1 m c1) := fun W h => by
    rw [Nat.mul_one]; exact (h.cell (by rw [block_of_add]; exact hab)).trans hca
   have HCB : ∀ W, Ext wr.drew W → W.cell? (bd.add (k * 1)) = some (.slice A2 m c2) := fun W h => by
    rw [Nat.mul_one]; exact (h.cell (by rw [block_of_add]; exact hbb)).trans hcb
   go_wp2_with fail
   refine wp_region_lx later_ext (by kernel_rfl) (by kernel_rfl) ?_
   refine lx_run (by rfl) (.slice (some ad) n c) (ex_move rfl rfl) ?_
   simp only [Act.put, sA, sB, sC]
   refine lx_run (by rfl) (.int .i64 ((k : Nat) : Int)) (ex_move rfl rfl) ?_
   simp only [Act.put, sA, sB, sC]
   refine lx_run (by rfl) (.pointer (some (ad.add (k * 1)))) (ex_ixSl Tryz.underlying29 sizeRow rfl rfl rfl hlt) ?_
   simp only [Act.put, sA, sB, sC]
   refine lx_read (by rfl) (.slice A1 m c1) (fun W hW => ex_loadL rfl rfl (HCA W hW)) ?_
   simp only [Act.put, sA, sB, sC]
   refine lx_run (by rfl) (.slice (some bd) n d) (ex_move rfl rfl) ?_
   simp only [Act.put, sA, sB, sC]
   refine lx_run (by rfl) (.int .i64 ((k : Nat) : Int)) (ex_move rfl rfl) ?_
   simp only [Act.put, sA, sB, sC]
   refine lx_run (by rfl) (.pointer (some (bd.add (k * 1)))) (ex_ixSl Tryz.underlying29 sizeRow rfl rfl rfl hlt) ?_
   simp only [Act.put, sA, sB, sC]
   refine lx_read (by rfl) (.slice A2 m c2) (fun W hW => ex_loadL rfl rfl (HCB W hW)) ?_
   simp only [Act.put, sA, sB, sC]
   refine lx_callF (by rfl) 26 Tryz.func26 rfl rfl _ _ rfl #[.slice A1 m c1, .slice A2 m c2] (by simp [Act.eval]) (.bool true) (fun W h => (HEQ.out W (hsA.ext h) (hsB.ext h)).mono (fun e w' h => by rw [← h.2]; exact ⟨h.1, Ext.refl _⟩)) ?_
   simp only [Act.put, sA, sB, sC]
   refine lx_run (by rfl) (.bool false) (ex_not (b := true) rfl rfl) ?_
   simp only [Act.put, sA, sB, sC]
   refine lx_nil ?_
   intro w9 hx9
   go_wp2_with fail
   go_roundw
   case rel => exact ⟨k + 1, by omega, by go_num, hxd.trans hx9⟩
   case measure => simp [intOf]; omega
  ·go_wp2_with fail
   go_ret
   exact ⟨rfl, hx⟩
set_option maxRecDepth 20000 in
set_option maxHeartbeats 1000000 in
theorem pictureEq_same (wd hi : Int) (A B : Option Addr) (n c d : Nat) (L : List (List Int)) (w : World) (hu : RowsS w A n c L) (hv : RowsS w B n d L) :
 Calls Tryz.prog 25 #[.agg (picV wd hi (.slice A n c)), .agg (picV wd hi (.slice B n d))] w fun e w' => e = .returned (.bool true) ∧ Ext w w' := by
 have HE := hid_ (fun W (h : Ext w W) => eqListsI_same A B n c d L W (hu.ext h) (hv.ext h))
 have HPC1 := hid_ (fun (W : World) g (h : Blk W g 31 (picV wd hi (.slice A n c))) => pic_cells h)
 have HPC2 := hid_ (fun (W : World) g (h : Blk W g 31 (picV wd hi (.slice B n d))) => pic_cells h)
 generalize picV wd hi (.slice A n c) = P1 at *
 generalize picV wd hi (.slice B n d) = P2 at *
 clear hu hv
 go_enter Tryz.func25, Tryz.ntmps25
 go_wp2_with (first
  | ((with_reducible apply gS 2); refine wBox rfl 31 (.tmp 0) rfl P1 rfl ?_; intro w1 g1 hb1 hx1 hg1)
  | ((with_reducible apply gS 3); refine wBox rfl 31 (.tmp 1) rfl P2 rfl ?_; intro w2 g2 hb2 hx2 hg2; have hb12 := hb1.ext hx2; have r1 := HPC1.out _ _ hb12; have r2 := HPC2.out _ _ hb2; have hx12 := hx1.trans hx2)
  | ((with_reducible apply gS 6); refine wl_read rfl (.int .i64 wd) (ex_loadI rfl rfl r1.1) ?_)
  | ((with_reducible apply gS 8); refine wl_read rfl (.int .i64 wd) (ex_loadI rfl rfl r2.1) ?_)
  | ((with_reducible apply gS 9); refine wl_run rfl (.bool true) (ex_eql rfl rfl rfl (by simp)) ?_)
  | ((with_reducible apply gS 12); refine wl_read_g (by rfl) (.int .i64 hi) (ex_loadI rfl rfl r1.2.1) ?_)
  | ((with_reducible apply gS 14); refine wl_read_g (by rfl) (.int .i64 hi) (ex_loadI rfl rfl r2.2.1) ?_)
  | ((with_reducible apply gS 15); refine wl_run_g (by rfl) (.bool true) (ex_eql rfl rfl rfl (by simp)) ?_)
  | ((with_reducible apply gS 19); refine wl_read_g (by rfl) (.slice A n c) (ex_loadLL rfl rfl r1.2.2) ?_)
  | ((with_reducible apply gS 21); refine wl_read_g (by rfl) (.slice B n d) (ex_loadLL rfl rfl r2.2.2) ?_)
  | (go_at_call 62; (with_reducible refine (HE.out _ hx12).mono ?_); rintro e w5 ⟨rfl, hx5⟩))
 go_ret
 exact ⟨rfl, hx12.trans hx5⟩
def FC.chk (F : FC) : Int := fcheckZ F.wd F.hi F.pt F.qs (checkZ F.cs1 F.xs1) (checkZ F.cs2 F.xs2) F.ev F.data.length
theorem FC.check (F : FC) (hF : F.shaped) (s1 s2 sd : Value) (w : World) (ha : F.at_ w s1 s2 sd) : Calls Tryz.prog 50 #[.agg (F.cells s1 s2 sd)] w fun e w' => e = .returned (.int .i64 F.chk) ∧ Ext w w' :=
 fcheck_any F.wd F.hi F.pt F.ev F.qs F.cs1 F.xs1 s1 F.cs2 F.xs2 s2 F.data sd w hF.1 hF.2.1 hF.2.2 ha.1 ha.2.1 ha.2.2
theorem FC.rcheck (F : FC) (hF : F.shaped) (s1 s2 sd : Value) (w : World) (ha : F.at_ w s1 s2 sd) : Calls Tryz.prog 52 #[.agg (F.cells s1 s2 sd)] w fun e w' => e = .returned (.int .i64 F.chk) ∧ Ext w w' :=
 rfcheck_any F.wd F.hi F.pt F.ev F.qs F.cs1 F.xs1 s1 F.cs2 F.xs2 s2 F.data sd w hF.1 hF.2.1 hF.2.2 ha.1 ha.2.1 ha.2.2
theorem frameBoth (F : FC) (hF : F.shaped) (s1 s2 : Value) (A : Option Addr) (n c : Nat) (hn : F.data.length = n) (hlt : ∀ b ∈ F.data, b < 256) (m0 : Int) (w : World) (hm : w.cell? ⟨0, 0, none⟩ = some (.int .i64 m0)) (ha : F.at_ w s1 s2 (.slice A n c)) :
 ∃ (E wd hi : Int) (L : List (List Int)), (∀ W, Ext w W → Calls Tryz.prog 27 #[.agg (F.cells s1 s2 (.slice A n c))] W (PdIs E wd hi L W)) ∧ (∀ W, Ext w W → Calls Tryz.prog 28 #[.agg (F.cells s1 s2 (.slice A n c))] W (PdIs E wd hi L W)) := by
 have C1 := fun W (h : Ext w W) => F.check hF s1 s2 (.slice A n c) W (ha.ext h)
 have C2 := fun W (h : Ext w W) => F.rcheck hF s1 s2 (.slice A n c) W (ha.ext h)
 by_cases hz : F.chk = 0
 ·rw [hz] at C1 C2
  obtain ⟨a, b, p, ea, eb, ep, a1, a2, b1, b2, hp13, hev0, hev1, hq, z1, z2, hd⟩ := fcheck_zero hz
  obtain ⟨nb, hnb⟩ : ∃ nb, cutN a b = nb := ⟨_, rfl⟩
  obtain ⟨m, hmn⟩ : ∃ m, nb * p = m := ⟨_, rfl⟩
  have h3 := ha.2.2
  rw [hn] at h3
  obtain ⟨r, hr, K1, K2⟩ := scanBothD F.cs1 F.xs1 F.cs2 F.xs2 s1 s2 hF.2.1 hF.2.2 A n c F.data (m : Int) F.ev hlt (by omega) m0 w hm ha.1 ha.2.1 h3
  obtain ⟨r1, X⟩ := r
  by_cases h0 : r1 = 0
  ·subst h0
   have hX : X.length = m * 64 := by have := (hr rfl).1; simpa using this
   exact ⟨0, a, b, showZ F.qs X a b p, fun W h => frameDec_good F hF s1 s2 A n c F.ev a b p nb m ea eb ep rfl a1 a2 b1 b2 hp13 hnb hmn W (fun W' h' => C1 W' (h.trans h')) X hX (fun W' h' => K1 W' (h.trans h')),
    fun W h => rframeDec_good F hF s1 s2 A n c F.ev a b p nb m ea eb ep rfl a1 a2 b1 b2 hp13 hnb hmn W (fun W' h' => C2 W' (h.trans h')) X hX (fun W' h' => K2 W' (h.trans h'))⟩
  ·exact ⟨r1, 0, 0, [], fun W h => frameDec_err F hF s1 s2 A n c F.ev a b p nb m ea eb ep rfl a1 a2 b1 b2 hp13 hnb hmn W (fun W' h' => C1 W' (h.trans h')) r1 X h0 (fun W' h' => K1 W' (h.trans h')),
    fun W h => rframeDec_err F hF s1 s2 A n c F.ev a b p nb m ea eb ep rfl a1 a2 b1 b2 hp13 hnb hmn W (fun W' h' => C2 W' (h.trans h')) r1 X h0 (fun W' h' => K2 W' (h.trans h'))⟩
 ·exact ⟨F.chk, 0, 0, [], fun W h => frameDec_bad _ (FC.size hF _ _ _) _ hz W (fun W' h' => C1 W' (h.trans h')), fun W h => rframeDec_bad _ (FC.size hF _ _ _) _ hz W (fun W' h' => C2 W' (h.trans h'))⟩
set_option maxHeartbeats 1000000 in

theorem fcheck_zeroP (w : World) : Calls Tryz.prog 29 #[.agg (picV 0 0 (.slice none 0 0))] w fun e w' => e = .returned (.int .i64 1) ∧ Ext w w' := by
 have HM := hid_ (fun W => Many_any 0 0 W)
 rw [show manyZ 0 0 = 0 by decide, show sidesZ 0 0 = 1 by decide] at HM
 have HC := hid_ (fun W g (h : Blk W g 31 (picV 0 0 (.slice none 0 0))) => pic_cells h)
 generalize picV 0 0 (.slice none 0 0) = pv at *
 go_enter Tryz.func29, Tryz.ntmps29
 go_wp2_with (first
  | ((with_reducible apply gS 1); refine wBox rfl 31 (.tmp 0) rfl pv rfl ?_; intro w1 g hb1 hx1 hg; have r1 := HC.out _ _ hb1)
  | ((with_reducible apply gS 11); refine wl_read rfl (.int .i64 0) (ex_loadI rfl rfl r1.1) ?_)
  | ((with_reducible apply gS 13); refine wl_read rfl (.int .i64 0) (ex_loadI rfl rfl r1.2.1) ?_)
  | (go_at_call 65; (with_reducible refine (HM.out _).mono ?_); rintro e w2 ⟨rfl, hx2⟩))
 go_ret
 exact ⟨rfl, hx1.trans hx2⟩
section
open Go.RowKit Go.ChangeShapes Go.WideShapes Go.ChangeAt
section
variable {H : Type} {enc : TypeId × Value → H} {w : World} {base : Nat} {spare : Nat → Bool} {held : Bool}
theorem trod_struct7 {P : Program} {t : TypeId} {f0 f1 f2 f3 f4 f5 f6 : Field} {fuel : Nat} {cs : List Value} {x : DataW H × List MemPlace} (ht : P.underlying t = some (.struct #[f0, f1, f2, f3, f4, f5, f6])) (h : DataW.trod enc P w base spare held fuel t cs = some x) :
 ∃ y0 y1 y2 y3 y4 y5 y6 n, cs.length = P.cellsOf t ∧ DataW.trod enc P w base spare held n f0.type ((cs.drop f0.offset).take (P.cellsOf f0.type)) = some y0 ∧
  DataW.trod enc P w base spare held n f1.type ((cs.drop f1.offset).take (P.cellsOf f1.type)) = some y1 ∧ DataW.trod enc P w base spare held n f2.type ((cs.drop f2.offset).take (P.cellsOf f2.type)) = some y2 ∧
  DataW.trod enc P w base spare held n f3.type ((cs.drop f3.offset).take (P.cellsOf f3.type)) = some y3 ∧ DataW.trod enc P w base spare held n f4.type ((cs.drop f4.offset).take (P.cellsOf f4.type)) = some y4 ∧
  DataW.trod enc P w base spare held n f5.type ((cs.drop f5.offset).take (P.cellsOf f5.type)) = some y5 ∧ DataW.trod enc P w base spare held n f6.type ((cs.drop f6.offset).take (P.cellsOf f6.type)) = some y6 := by
 obtain ⟨xs, n, _, rfl, hl, hlen, hf⟩ := DataW.trod_struct ht h
 match xs, hlen with
 | [y0, y1, y2, y3, y4, y5, y6], _ => exact ⟨y0, y1, y2, y3, y4, y5, y6, n, hl, by simpa using hf 0 f0 rfl, by simpa using hf 1 f1 rfl, by simpa using hf 2 f2 rfl, by simpa using hf 3 f3 rfl, by simpa using hf 4 f4 rfl, by simpa using hf 5 f5 rfl, by simpa using hf 6 f6 rfl⟩
theorem cellsTbls : Tryz.prog.cellsOf 44 = 34 := by kernel_rfl
theorem cellsFile : Tryz.prog.cellsOf 47 = 103 := by kernel_rfl
theorem cellsBy : Tryz.prog.cellsOf 45 = 1 := by kernel_rfl
theorem open_tableX {fuel : Nat} {cs : List Value} {x : DataW H × List MemPlace} (hL : cs.length = 17) (hf : DataW.trod enc Tryz.prog w base spare held fuel 42 cs = some x) :
 ∃ (zs xs : List Int) (sl : Value), cs = tblL zs sl ∧ zs.length = 16 ∧ SL w 1 sl xs.length (ints xs) := by
 obtain ⟨y0, y1, n, -, hlen, h0, h1⟩ := trod_struct2 Tryz.underlying42 hf
 dsimp only at h0 h1
 obtain ⟨zs, hz, hc, hq⟩ := trod_ints_arr Tryz.underlying40 Tryz.underlying3 cellsInt cells16 h0
 obtain ⟨xs, sl, hs, hsl, hxq⟩ := open_intsX h1
 rw [cells16, List.drop_zero] at hc
 rw [cellsSl] at hs
 refine ⟨zs, xs, sl, ?_, hz, hsl⟩
 have e2 : cs.drop 16 = [sl] := by
  rw [← hs]
  rw [List.take_of_length_le (by rw [List.length_drop, hL]; omega)]
 unfold tblL
 rw [← hc, ← e2, List.take_append_drop]
theorem parts_of (cs : List Value) (hL : cs.length = 103) {a b c e f : Value} {q t1 t2 : List Value} (h0 : (cs.drop 0).take 1 = [a]) (h1 : (cs.drop 1).take 1 = [b]) (h2 : (cs.drop 2).take 1 = [c]) (h3 : (cs.drop 3).take 64 = q)
 (h4 : (cs.drop 67).take 17 = t1) (h5 : (cs.drop 84).take 17 = t2) (h6 : (cs.drop 101).take 1 = [e]) (h7 : (cs.drop 102).take 1 = [f]) : cs = [a, b, c] ++ q ++ t1 ++ t2 ++ [e, f] := by
 have k7 : cs.drop 102 = [f] := by rw [← h7, List.take_of_length_le (by rw [List.length_drop, hL]; omega)]
 have k6 : cs.drop 101 = [e, f] := by rw [← List.take_append_drop 1 (cs.drop 101), h6, List.drop_drop]; rw [k7]; rfl
 have k5 : cs.drop 84 = t2 ++ [e, f] := by rw [← List.take_append_drop 17 (cs.drop 84), h5, List.drop_drop]; rw [k6]
 have k4 : cs.drop 67 = t1 ++ (t2 ++ [e, f]) := by rw [← List.take_append_drop 17 (cs.drop 67), h4, List.drop_drop]; rw [k5]
 have k3 : cs.drop 3 = q ++ (t1 ++ (t2 ++ [e, f])) := by rw [← List.take_append_drop 64 (cs.drop 3), h3, List.drop_drop]; rw [k4]
 have k2 : cs.drop 2 = c :: (q ++ (t1 ++ (t2 ++ [e, f]))) := by rw [← List.take_append_drop 1 (cs.drop 2), h2, List.drop_drop]; rw [k3]; rfl
 have k1 : cs.drop 1 = b :: c :: (q ++ (t1 ++ (t2 ++ [e, f]))) := by rw [← List.take_append_drop 1 (cs.drop 1), h1, List.drop_drop]; rw [k2]; rfl
 rw [← List.take_append_drop 1 cs, k1, show cs.take 1 = [a] from h0]
 simp
end
end
section
open Go.RowKit Go.ChangeShapes Go.WideShapes Go.ChangeAt
section
variable {H : Type} {enc : TypeId × Value → H} {w : World} {base : Nat} {spare : Nat → Bool} {held : Bool}
theorem open_bytesB {fuel : Nat} {cs : List Value} {x : DataW H × List MemPlace} (hf : DataW.trod enc Tryz.prog w base spare held fuel 45 cs = some x) :
 ∃ (v : Value) (bs : List Nat), cs = [v] ∧ SL w 1 v bs.length (bytesV bs) ∧ (∀ b ∈ bs, b < 256) ∧ ∀ n c, v = .slice none n c → c = 0 := by
 rcases open_ints Tryz.underlying45 Tryz.underlying5 (by kernel_rfl) hf with ⟨rfl, -⟩ | ⟨a, len, cap, zs, rfl, -, hlc, hcm, hzl, -, hcell, hwf⟩
 ·refine ⟨_, [], rfl, SL.nil w 1, by simp, ?_⟩
  intro n c e
  injection e with _ _ e
  exact e.symm
 ·have hlen : len ≤ zs.length := by rw [hzl]; split <;> omega
  obtain ⟨bs, hbs, hlt⟩ := bytes_of (zs.take len) (fun n hn => hwf n (List.mem_of_mem_take hn))
  have hl : bs.length = len := by
   have := congrArg List.length hbs
   simp [bytesV] at this
   omega
  refine ⟨_, bs, rfl, ?_, hlt, by intro n c e; injection e with e; cases e⟩
  rw [hl]
  refine ⟨some a, cap, rfl, hlc, by unfold maxLen at hcm; omega, by rw [bytesV_len, hl]; omega, fun h0 => ⟨a, rfl, ?_, fun j u hu => ?_⟩⟩
  ·have := hcell 0 (by omega)
   have h2 := World.block_lt_of_cell? w _ this
   rwa [block_of_add] at h2
  ·rw [← hbs, List.getElem?_map] at hu
   obtain ⟨z, hz, rfl⟩ := Option.map_eq_some_iff.1 hu
   have hj : j < len := by have := (List.getElem?_eq_some_iff.1 hz).1; simp at this; omega
   rw [List.getElem?_take_of_lt hj] at hz
   rw [hcell j (by omega)]
   simp [List.getD_eq_getElem?_getD, hz]
set_option maxRecDepth 20000 in
theorem open_fileB {b0 : Nat} {r : Reach} {v : Value} {d : DataW H} {p : List MemPlace} (hv : Value.okWide Tryz.prog w r b0 47 v) (h : DataW.Trod enc Tryz.prog w base spare held 47 v d p) :
 ∃ (wd hi pt ev : Int) (qs cs1 xs1 : List Int) (s1 : Value) (cs2 xs2 : List Int) (s2 : Value) (bs : List Nat) (sd : Value), v = .agg (fileL wd hi pt qs (tblL cs1 s1) (tblL cs2 s2) ev sd).toArray ∧ qs.length = 64 ∧ cs1.length = 16 ∧ cs2.length = 16 ∧
  SL w 1 s1 xs1.length (ints xs1) ∧ SL w 1 s2 xs2.length (ints xs2) ∧ SL w 1 sd bs.length (bytesV bs) ∧ (∀ b ∈ bs, b < 256) ∧ ∀ n c, sd = .slice none n c → c = 0 := by
 obtain ⟨cs, rfl, hsz⟩ := okWide_struct Tryz.underlying47 hv
 obtain ⟨fuel, hf⟩ := h
 obtain ⟨y0, y1, y2, y3, y4, y5, y6, n, hlen, h0, h1, h2, h3, h4, h5, h6⟩ := trod_struct7 Tryz.underlying47 hf
 have hL : cs.toList.length = 103 := by rw [show cs.toList.length = cs.size by simp, hsz, cellsFile]
 have hcs : (Value.agg cs).cells.toList = cs.toList := rfl
 rw [hcs] at h0 h1 h2 h3 h4 h5 h6
 dsimp only at h0 h1 h2 h3 h4 h5 h6
 rw [cellsInt] at h0 h1 h2 h5
 rw [cells64] at h3
 rw [cellsTbls] at h4
 rw [cellsBy] at h6
 obtain ⟨wd, e0, -⟩ := trod_int_cell Tryz.underlying3 h0
 obtain ⟨hi, e1, -⟩ := trod_int_cell Tryz.underlying3 h1
 obtain ⟨pt, e2, -⟩ := trod_int_cell Tryz.underlying3 h2
 obtain ⟨ev, e5, -⟩ := trod_int_cell Tryz.underlying3 h5
 obtain ⟨qs, hq, e3, -⟩ := trod_ints_arr Tryz.underlying33 Tryz.underlying3 cellsInt cells64 h3
 obtain ⟨z0, z1, m, -, hlen4, g0, g1⟩ := trod_struct2 Tryz.underlying44 h4
 dsimp only at g0 g1
 rw [cellsTbl, List.drop_zero, List.take_take] at g0
 rw [cellsTbl, List.drop_take, List.take_take, List.drop_drop] at g1
 obtain ⟨cs1, xs1, s1, e4, hc1, hs1⟩ := open_tableX (by rw [List.length_take, List.length_drop, hL]; rfl) g0
 obtain ⟨cs2, xs2, s2, e6, hc2, hs2⟩ := open_tableX (by rw [List.length_take, List.length_drop, hL]; rfl) g1
 obtain ⟨sd, bs, e7, hsd, hlt, hnil⟩ := open_bytesB h6
 refine ⟨wd, hi, pt, ev, qs, cs1, xs1, s1, cs2, xs2, s2, bs, sd, ?_, hq, hc1, hc2, hs1, hs2, hsd, hlt, hnil⟩
 congr 1
 apply Array.ext'
 rw [parts_of cs.toList hL e0 e1 e2 e3 e4 e6 e5 e7]
 simp [fileL, ints]
end
end
end Go.Proofs.YtkggcjdlpendfaaGreatDoor
