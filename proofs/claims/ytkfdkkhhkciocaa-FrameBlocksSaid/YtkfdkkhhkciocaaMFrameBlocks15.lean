/- Contracts for the law FrameBlocks, part 15: what the functions that it reaches answer, for all arguments that the theorems name. -/
import Derived.Test.YtkfdkkhhkciocaaMFrameBlocks14
import Derived.Test.YtkfdkkhhkciocaaMFrameBlocks3
import Derived.Test.YtkfdkkhhkciocaaMFrameBlocks1
import Derived.Test.YtkfdkkhhkciocaaMFrameBlocks2
import Derived.ProofKit
import Derived.OpenShut
import Derived.Deep.MidRow
import Derived.ChangeSlices
/- R.FrameBlocks. Printed by wip/gen/mkfrm.py. -/
namespace Go.Proofs.Ytkfdkkhhkciocaa
set_option linter.unusedVariables false
set_option linter.unusedSimpArgs false
open Go.RowKit
set_option maxRecDepth 20000 in
set_option maxHeartbeats 4000000 in
theorem rfblocks_bad (wd hi : Int) (L : List (List Int)) (A : Option Addr) (n c : Nat) (q : List Int) (hq : q.length = 64) (w : World) (hr : RowsS w A n c L) (hE : picE wd hi L ≠ 0) :
    Calls Try.prog 19 #[.agg (picV wd hi (.slice A n c)), .agg (bv q)] w (FrmIs (framesZ wd hi L q) w) := by
  have HC := hid_ (fun W (hx : Ext w W) => pchk_any wd hi L A n c W (hr.ext hx))
  have HE : Hid (∀ W, Ext w W → FrmIs (framesZ wd hi L q) w (.returned (.tuple #[.slice none 0 0, .int .i64 (picE wd hi L)])) W) := hid_ (fun W hx => FrmIs.err (by unfold framesZ; rw [if_neg hE]) hx)
  generalize framesZ wd hi L q = fz at *
  generalize picE wd hi L = E at *
  have hps := hid_ (picV_size wd hi (.slice A n c))
  generalize picV wd hi (.slice A n c) = pv at *
  generalize bv q = qv at *
  clear hr
  go_enter Try.func19, Try.ntmps19
  go_wp2_with (first
    | (show wpList _ _ _ (⟨some 2, _, _, _, _, _⟩ :: _) _ _; refine wpList_box_abs rfl 53 (.tmp 0) rfl pv rfl ?_; intro w1 g1 hb1 hx1 hg1)
    | (show wpList _ _ _ (⟨some 3, _, _, _, _, _⟩ :: _) _ _; refine wpList_box_abs rfl 24 (.tmp 1) rfl qv rfl ?_; intro w2 g2 hb2 hx2 hg2; have hb12 := hb1.ext hx2; have hx12 := hx1.trans hx2)
    | (show wpList _ _ _ (⟨some 18, _, _, _, _, _⟩ :: _) _ _; refine wpList_load_blk rfl 53 (.tmp 2) rfl g1 rfl hb12 _ Try.underlying53 rfl 3 sizePic hps.out ?_)
    | (go_at_call 53; (with_reducible refine (HC.out _ hx12).mono ?_); rintro e w3 ⟨rfl, hx3⟩)
    | (show wpList _ _ _ (⟨some 21, _, _, _, _, _⟩ :: _) _ _; refine wl_run rfl (.bool true) (ex_neq rfl rfl rfl (by simpa using hE)) ?_))
  go_ret2
  exact HE.out _ (hx12.trans hx3)
set_option maxRecDepth 20000 in
set_option maxHeartbeats 4000000 in
theorem rfblocks_quant (wd hi : Int) (L : List (List Int)) (A : Option Addr) (n c : Nat) (q : List Int) (hq : q.length = 64) (w : World) (hr : RowsS w A n c L) (hE : picE wd hi L = 0) (hqq : allIn q 1 255 = false) :
    Calls Try.prog 19 #[.agg (picV wd hi (.slice A n c)), .agg (bv q)] w (FrmIs (framesZ wd hi L q) w) := by
  have HC := hid_ (fun W (hx : Ext w W) => pchk_any wd hi L A n c W (hr.ext hx))
  rw [hE] at HC
  have HE : Hid (∀ W, Ext w W → FrmIs (framesZ wd hi L q) w (.returned (.tuple #[.slice none 0 0, .int .i64 1])) W) := hid_ (fun W hx => FrmIs.err (by unfold framesZ; rw [if_pos hE, hqq]; rfl) hx)
  have HQ := hid_ (fun W => blockWithin_any q 1 255 W hq)
  rw [hqq] at HQ
  generalize framesZ wd hi L q = fz at *
  have hps := hid_ (picV_size wd hi (.slice A n c))
  have hqs := hid_ ((bv_size q).trans hq)
  generalize picV wd hi (.slice A n c) = pv at *
  generalize bv q = qv at *
  clear hr hE
  go_enter Try.func19, Try.ntmps19
  go_wp2_with (first
    | (show wpList _ _ _ (⟨some 2, _, _, _, _, _⟩ :: _) _ _; refine wpList_box_abs rfl 53 (.tmp 0) rfl pv rfl ?_; intro w1 g1 hb1 hx1 hg1)
    | (show wpList _ _ _ (⟨some 3, _, _, _, _, _⟩ :: _) _ _; refine wpList_box_abs rfl 24 (.tmp 1) rfl qv rfl ?_; intro w2 g2 hb2 hx2 hg2; have hb12 := hb1.ext hx2; have hx12 := hx1.trans hx2)
    | (show wpList _ _ _ (⟨some 18, _, _, _, _, _⟩ :: _) _ _; refine wpList_load_blk rfl 53 (.tmp 2) rfl g1 rfl hb12 _ Try.underlying53 rfl 3 sizePic hps.out ?_)
    | (go_at_call 53; (with_reducible refine (HC.out _ hx12).mono ?_); rintro e w3 ⟨rfl, hx3⟩; have hb23 := hb2.ext hx3; have hx13 := hx12.trans hx3)
    | (show wpList _ _ _ (⟨some 23, _, _, _, _, _⟩ :: _) _ _; refine wpList_load_blk rfl 24 (.tmp 3) rfl g2 rfl hb23 _ Try.underlying24 rfl 64 size48 hqs.out ?_)
    | (go_at_call 33; (with_reducible refine (HQ.out _).mono ?_); rintro e w4 ⟨rfl, hx4⟩))
  go_ret2
  exact HE.out _ (hx13.trans hx4)
set_option maxRecDepth 20000 in
set_option maxHeartbeats 16000000 in
theorem rfblocks_good (wd hi : Int) (L : List (List Int)) (A : Option Addr) (n c : Nat) (q : List Int) (hq : q.length = 64) (w : World) (hr : RowsS w A n c L) (hE : picE wd hi L = 0) (hqq : allIn q 1 255 = true) :
    Calls Try.prog 19 #[.agg (picV wd hi (.slice A n c)), .agg (bv q)] w (FrmIs (framesZ wd hi L q) w) := by
  have HC := hid_ (fun W (hx : Ext w W) => pchk_any wd hi L A n c W (hr.ext hx))
  rw [hE] at HC
  obtain ⟨hL, N, hN, hNl⟩ := picE_ok hE
  have HT := hid_ (fun W (hx : Ext w W) => rturned_any 55 tto rtto_by rgoesTo A n c L N W hL hNl hN (hr.ext hx))
  have hR3 := turnZ_len tto L hL
  have HZ : Hid (framesZ wd hi L q = (0, frameN wd hi (turnZ tto L), frameZ q wd hi (turnZ tto L))) := hid_ (by unfold framesZ; rw [if_pos hE, hqq]; rfl)
  have HQ := hid_ (fun W => blockWithin_any q 1 255 W hq)
  rw [hqq] at HQ
  unfold TurnIs at HT
  have HCU := hid_ (fun (l : List Int) v W (h : SL W 1 v l.length (ints l)) => rcut_anyF l v wd hi W h)
  unfold CutFr at HCU
  have HWA := hid_ (fun (b : List Int) W (h : b.length = 64) => rwaveTo_any b W h)
  have HDW := hid_ (fun (b : List Int) W (h : b.length = 64) => rdown_any b q W h hq)
  have HQL := hid_ hq
  generalize turnZ tto L = R at *
  generalize framesZ wd hi L q = fz at *
  have hps := hid_ (picV_size wd hi (.slice A n c))
  have hqs := hid_ ((bv_size q).trans hq)
  have HPC := hid_ (fun (W : World) g (h : Blk W g 53 (picV wd hi (.slice A n c))) => pic_cells h)
  generalize picV wd hi (.slice A n c) = pv at *
  have HQV : Hid (bv q = bv q) := hid_ rfl
  generalize hqv : bv q = qv at *
  clear hr hE hL hNl hN HQV
  go_enter Try.func19, Try.ntmps19
  go_upto_region 8 with (first
    | (show wpList _ _ _ (⟨some 2, _, _, _, _, _⟩ :: _) _ _; refine wpList_box_abs rfl 53 (.tmp 0) rfl pv rfl ?_; intro w1 g1 hb1 hx1 hg1)
    | (show wpList _ _ _ (⟨some 3, _, _, _, _, _⟩ :: _) _ _; refine wpList_box_abs rfl 24 (.tmp 1) rfl qv rfl ?_; intro w2 g2 hb2 hx2 hg2; have hb12 := hb1.ext hx2; have hx12 := hx1.trans hx2)
    | (show wpList _ _ _ (⟨some 18, _, _, _, _, _⟩ :: _) _ _; refine wpList_load_blk rfl 53 (.tmp 2) rfl g1 rfl hb12 _ Try.underlying53 rfl 3 sizePic hps.out ?_)
    | (go_at_call 53; (with_reducible refine (HC.out _ hx12).mono ?_); rintro e w3 ⟨rfl, hx3⟩; have hb13 := hb12.ext hx3; have hb23 := hb2.ext hx3; have hx13 := hx12.trans hx3)
    | (show wpList _ _ _ (⟨some 23, _, _, _, _, _⟩ :: _) _ _; refine wpList_load_blk rfl 24 (.tmp 3) rfl g2 rfl hb23 _ Try.underlying24 rfl 64 size48 hqs.out ?_)
    | (go_at_call 33; (with_reducible refine (HQ.out _).mono ?_); rintro e w4 ⟨rfl, hx4⟩; have hb14 := hb13.ext hx4; have hb24 := hb23.ext hx4; have hx14 := hx13.trans hx4; have hpc := HPC.out _ _ hb14)
    | (show wpList _ _ _ (⟨some 27, _, _, _, _, _⟩ :: _) _ _; refine wl_read rfl (.slice A n c) (ex_loadLL rfl rfl hpc.2.2) ?_)
    | (go_at_call 54; (with_reducible refine (HT.out _ hx14).mono ?_); rintro e w5 ⟨TA, m, tc, rfl, hrows, hx5⟩; have hb15 := hb14.ext hx5; have hb25 := hb24.ext hx5; have hx15 := hx14.trans hx5))
  have hRm := hrows.len
  have HRW := hid_ hrows
  have hm3 : m ≤ 3 := by omega
  have own0 : w5.ownsRow w5.heap.size 24 64 (.slice none 0 0) 0 (ints (frameZ q wd hi (R.take 0))) := own_nil _ _ _ _
  have hg1' : g1 < w5.heap.size := hb15.lt
  have hg2' : g2 < w5.heap.size := hb25.lt
  clear hrows hpc
  go_loopw [7, 30] (fun ov iv wr => ∃ (k : Nat) (OA : Option Addr) (on oc : Nat), k ≤ m ∧ iv = .int .i64 (k : Int) ∧ ov = .slice OA on oc ∧ Hid (on = frameN wd hi (R.take k)) ∧ wr.ownsRow w5.heap.size 24 64 (.slice OA on oc) on (ints (frameZ q wd hi (R.take k))) ∧ Blk wr g1 53 pv ∧ Blk wr g2 24 qv ∧ Ext w5 wr ∧ Ext w wr) (fun _ i _ => m - (intOf i).toNat)
  case atStart => exact ⟨0, none, 0, 0, by omega, rfl, rfl, hid_ rfl, own0, hb15, hb25, Ext.refl _, hx15⟩
  case round =>
    clear own0 hb15 hb25 hx15
    obtain ⟨k, OA, on, oc, hk, rfl, rfl, hon, ho, hb1, hb2, hx5r, hx⟩ := hrel
    by_cases hkm : k < m
    · obtain ⟨ad, l, LA, ld, rfl, hRk, hab, hcell, hsl⟩ := HRW.out.get hkm
      have hcl : wr.cell? (ad.add (k * 1)) = some (.slice LA l.length ld) := by rw [Nat.mul_one, (hx5r.cell (by rw [block_of_add]; exact hab)).trans hcell]
      have hsl' := hsl.ext hx5r
      have hfn := hid_ (frameN_snoc wd hi R k l hRk)
      have hfz := hid_ (frameZ_snoc q wd hi R k l hRk)
      have hon64 : on ≤ 192 := by have := frameN_le wd hi R k; rw [← hon.out] at this; omega
      have hcle := cutRN_le l wd hi
      have HCl := hid_ (HCU.out l (.slice LA l.length ld) wr hsl')
      have hcz := cutRZ_len l wd hi
      have hpc := HPC.out _ _ hb1
      generalize cutRN l wd hi = cn at *
      generalize cutRZ l wd hi = CZ at *
      generalize l.length = ll at *
      generalize cutE l wd hi = ce at *
      clear hcell hsl hsl' hRk
      go_upto_region 12 with (first
        | (show wpList _ _ _ (⟨some 32, _, _, _, _, _⟩ :: _) _ _; refine wl_run rfl (.pointer (some (ad.add (k * 1)))) (ex_ixSl (i := k) Try.underlying51 sizeRow rfl rfl rfl hkm) ?_)
        | (show wpList _ _ _ (⟨some 33, _, _, _, _, _⟩ :: _) _ _; refine wl_read rfl (.slice LA ll ld) (ex_loadL rfl rfl hcl) ?_)
        | (show wpList _ _ _ (⟨some 37, _, _, _, _, _⟩ :: _) _ _; refine wl_read rfl (.int .i64 wd) (ex_loadI rfl rfl hpc.1) ?_)
        | (show wpList _ _ _ (⟨some 39, _, _, _, _, _⟩ :: _) _ _; refine wl_read rfl (.int .i64 hi) (ex_loadI rfl rfl hpc.2.1) ?_)
        | (go_at_call 56; (with_reducible refine HCl.out.mono ?_); rintro e w6 ⟨CA, cc, rfl, hcs, hx6, hfr⟩; have ho6 := own_keep ho hx6; have hb16 := hb1.ext hx6; have hb26 := hb2.ext hx6; have hx56 := hx5r.trans hx6; have hx06 := hx.trans hx6))
      have hne0 : ∀ ad, CA = some ad → (Value.slice OA (on + 0) oc).ownBlock ≠ some ad.block := fun ad e q => by have := hfr ad e; have := (ho.lt ad.block (by simpa using q)).2; omega
      have own1 : w6.ownsRow w5.heap.size 24 64 (.slice OA on oc) (on + 0) (ints (frameZ q wd hi (R.take k) ++ mapB q CZ 0)) := by simpa [mapB] using ho6
      clear ho hb1 hb2 hx hcl hpc
      go_loopw [7, 45] (fun ov iv wr => ∃ (j : Nat) (OA : Option Addr) (oc : Nat), j ≤ cn ∧ iv = .int .i64 (j : Int) ∧ ov = .slice OA (on + j) oc ∧ wr.ownsRow w5.heap.size 24 64 (.slice OA (on + j) oc) (on + j) (ints (frameZ q wd hi (R.take k) ++ mapB q CZ j)) ∧ SL wr 64 (.slice CA cn cc) cn (ints CZ) ∧ (∀ ad, CA = some ad → (Value.slice OA (on + j) oc).ownBlock ≠ some ad.block) ∧ Blk wr g1 53 pv ∧ Blk wr g2 24 qv ∧ Ext w5 wr ∧ Ext w wr) (fun _ i _ => cn - (intOf i).toNat)
      case atStart => exact ⟨0, OA, oc, by omega, rfl, rfl, own1, hcs, hne0, hb16, hb26, hx56, hx06⟩
      case round =>
        clear own1 ho6 hb16 hb26 hx06 hx56 hx5r hcs hne0
        obtain ⟨j, OA, oc, hj, rfl, rfl, ho, hcs, hne, hb1, hb2, hx5r, hx⟩ := hrel
        by_cases hjc : j < cn
        · obtain ⟨bd, hbd, hbb, hca⟩ := hcs.part hjc
          have hca' : CellsAt wr (bd.add (j * 64)) (ints (part64 CZ j)) := by
            have e : ((ints CZ).drop (j * 64)).take 64 = ints (part64 CZ j) := by unfold ints part64; rw [List.map_drop.symm, List.map_take.symm]
            rw [← e]
            exact hca
          obtain rfl := hbd
          have hpl : (part64 CZ j).length = 64 := by unfold part64; rw [List.length_take, List.length_drop, hcz]; omega
          have HMB : Hid (mapB q CZ (j + 1) = mapB q CZ j ++ blkF (part64 CZ j) q) := hid_ (by rw [mapB])
          have HBF : Hid (blkF (part64 CZ j) q = (bothZ downF (waveR toC (part64 CZ j)).1 q 40000).1) := hid_ rfl
          have hBL := blkF_len (part64 CZ j) q HQL.out
          generalize part64 CZ j = P at *
          have HW := hid_ (fun W => HWA.out P W hpl)
          have hwl := waveR_len toC P
          have HD := hid_ (fun W => HDW.out (waveR toC P).1 W hwl)
          rw [← HBF.out] at HD
          generalize (waveR toC P).1 = P2 at *
          generalize (waveR toC P).2 = ew at *
          generalize (bothZ downF P2 q 40000).2 = ed at *
          generalize hP3 : blkF P q = P3 at *
          clear hca hP3 HBF
          have s1 := hid_ ((bv_size P).trans hpl)
          have s2 := hid_ ((bv_size P2).trans hwl)
          have s3 := hid_ ((bv_size P3).trans hBL)
          have o1 := hid_ (bv_one P)
          have o2 := hid_ (bv_one P2)
          have o3 := hid_ (bv_one P3)
          have hipl : (ints P).length = 64 := by rw [ints_len, hpl]
          have hzs : Hid ((Value.agg (bv zeros64)).cells.size = 64) := hid_ zero48c
          go_wp2_with (first
            | (show wpList _ _ _ (⟨some 47, _, _, _, _, _⟩ :: _) _ _; refine wl_run rfl (.pointer (some (bd.add (j * 64)))) (ex_ixSl (i := j) Try.underlying29 size48 rfl rfl rfl hjc) ?_)
            | (show wpList _ _ _ (⟨some 48, _, _, _, _, _⟩ :: _) _ _; refine wpList_load_any (by rfl) 24 (.tmp 47) rfl (bd.add (j * 64)) rfl (ints P) _ hca' Try.underlying24 rfl (by rw [hipl]; exact size48) ?_)
            | (show wpList _ _ _ (⟨some 13, _, _, _, _, _⟩ :: _) _ _; refine wpList_alloc_abs' rfl (some 13) rfl 24 rfl _ zero48 ?_; intro w8 g8 hb8 hx8 hg8)
            | (show wpList _ _ _ (⟨none, .store _ (.tmp 13) (.tmp 48), _, _, _, _⟩ :: _) _ _; refine wpList_store_blk rfl 24 (.tmp 13) (.tmp 48) rfl g8 (bv P) rfl rfl hb8 64 size48 s1.out hzs.out o1.out ?_; intro w9 hb9 hg9; have hx9 := hx8.grown hg9 hg8)
            | (show wpList _ _ _ (⟨some 50, _, _, _, _, _⟩ :: _) _ _; refine wpList_load_blk rfl 24 (.tmp 13) rfl g8 rfl hb9 _ Try.underlying24 rfl 64 size48 s1.out ?_)
            | (go_at_call 57; (with_reducible refine (HW.out _).mono ?_); rintro e w10 ⟨rfl, hx10⟩; have hxa := hx9.trans hx10)
            | (show wpList _ _ _ (⟨some 14, _, _, _, _, _⟩ :: _) _ _; refine wpList_alloc_abs' rfl (some 14) rfl 24 rfl _ zero48 ?_; intro w16 g16 hb16' hx16 hg16; have hxa2 := hxa.trans hx16; have hg16' := Nat.le_trans hxa.size hg16)
            | (show wpList _ _ _ (⟨none, .store _ (.tmp 14) (.tmp 52), _, _, _, _⟩ :: _) _ _; refine wpList_store_blk rfl 24 (.tmp 14) (.tmp 52) rfl g16 (bv P2) rfl rfl hb16' 64 size48 s2.out hzs.out o2.out ?_; intro w11 hb11 hg11; have hxb := hxa2.grown hg11 hg16'; have hq11 := hb2.ext hxb)
            | (show wpList _ _ _ (⟨some 55, _, _, _, _, _⟩ :: _) _ _; refine wpList_load_blk rfl 24 (.tmp 14) rfl g16 rfl hb11 _ Try.underlying24 rfl 64 size48 s2.out ?_)
            | (show wpList _ _ _ (⟨some 56, _, _, _, _, _⟩ :: _) _ _; refine wpList_load_blk rfl 24 (.tmp 3) rfl g2 rfl hq11 _ Try.underlying24 rfl 64 size48 hqs.out ?_)
            | (go_at_call 58; (with_reducible refine (HD.out _).mono ?_); rintro e w12 ⟨rfl, hx12'⟩; have hxc := hxb.trans hx12')
            | (show wpList _ _ _ (⟨some 16, _, _, _, _, _⟩ :: _) _ _; refine wpList_alloc_abs' rfl (some 16) rfl 24 rfl _ zero48 ?_; intro w17 g17 hb17 hx17 hg17; have hxc2 := hxc.trans hx17; have hg17' := Nat.le_trans hxc.size hg17)
            | (show wpList _ _ _ (⟨none, .store _ (.tmp 16) (.tmp 58), _, _, _, _⟩ :: _) _ _; refine wpList_store_blk rfl 24 (.tmp 16) (.tmp 58) rfl g17 (bv P3) rfl rfl hb17 64 size48 s3.out hzs.out o3.out ?_; intro w13 hb13' hg13; have hxd := hxc2.grown hg13 hg17')
            | (show wpList _ _ _ (⟨some 61, _, _, _, _, _⟩ :: _) _ _; refine wpList_load_blk rfl 24 (.tmp 16) rfl g17 rfl hb13' _ Try.underlying24 rfl 64 size48 s3.out ?_)
            | (show wpList _ _ _ (⟨some 62, _, _, _, _, _⟩ :: _) _ _; refine wpList_lit1 rfl 29 24 (.tmp 61) rfl (some 62) rfl Try.underlying29 64 size48 zero48' (.agg (bv P3)) rfl s3.out (by omega) (by omega) ?_; intro w14 g14 hb14' hx14' hg14; have hxe := hxd.trans hx14'; have ho14 := own_keep ho hxe)
            | (show wpList _ _ _ (⟨some 63, _, _, _, _, _⟩ :: _) _ _; refine wpList_append_slf elt_blk rfl (.tmp 60) (.tmp 62) rfl w5.heap.size (.slice OA (on + j) oc) (on + j) (ints (frameZ q wd hi (R.take k) ++ mapB q CZ j)) rfl ho14 _ 1 (ints P3) rfl (blk_sl1 hb14' hBL) (ints_one_mem P3) (by omega) (by omega) (hx5r.trans hxe).size ?_; intro A15 c15 w15 ho15 hg15 hr15; have hug := upd_grown hg15))
          have hlo := ho14.lt
          have hBx : ∀ y, (Value.slice OA (on + j) oc).ownBlock = some y → w5.heap.size ≤ y := fun y hy => (hlo y hy).1
          have hb1z := hb1.ext hxe
          have hb2z := hb2.ext hxe
          go_roundw
          case rel =>
            refine ⟨j + 1, A15, c15, by omega, by go_num, by rw [Nat.add_assoc], ?_, ?_⟩
            · rw [HMB.out, ← List.append_assoc, ints_app]
              exact ho15
            · have hx5z := Below.grown (hx5r.trans hxe) hg15 (hx5r.trans hxe).size (fun y hy => hBx y hy)
              have hxz := Below.grown (hx.trans hxe) hg15 (hx.trans hxe).size (fun y hy => by have := hBx y hy; have := hx5r.size; have := hg1'; omega)
              refine ⟨(hcs.ext hxe).upd0 hug (fun _ ad' e q => hne ad' e q), fun ad' e q => ?_, hug.blk hb1z (fun q => by have := hBx _ q; have := hg1'; omega), hug.blk hb2z (fun q => by have := hBx _ q; have := hg2'; omega), hx5z, hxz⟩
              rw [own_map2] at q
              rcases hr15 with h | h
              · rw [h] at q
                exact hne ad' e q
              · rw [h] at q
                injection q with q
                injection e with e
                subst e
                have := hxe.size
                omega
          case measure => simp [intOf]; omega
        · obtain rfl : j = cn := by omega
          go_wp2_with fail
          go_roundw
          case rel => exact ⟨k + 1, OA, on + j, oc, by omega, by go_num, rfl, hid_ (by rw [hfn.out, hon.out]), by rw [hfz.out]; exact ho, hb1, hb2, hx5r, hx⟩
          case measure => simp [intOf]; omega
    · obtain rfl : k = m := by omega
      rw [← hRm, List.take_length] at hon ho
      go_wp2_with fail
      go_ret2
      rw [HZ.out]
      refine ⟨OA, oc, ?_, ?_, hx⟩
      · rw [← hon.out]; rfl
      · show SL wr 64 (.slice OA (frameN wd hi R) oc) (frameN wd hi R) _
        rw [← hon.out]
        exact (own_out ho).1
end Go.Proofs.Ytkfdkkhhkciocaa
/- frame.Blocks and FrameBlocks of the reference: one contract each, for all pictures and blocks. -/
namespace Go.Proofs.Ytkfdkkhhkciocaa
set_option linter.unusedVariables false
set_option linter.unusedSimpArgs false
open Go.RowKit
theorem fblocks_any (wd hi : Int) (L : List (List Int)) (A : Option Addr) (n c : Nat) (q : List Int) (hq : q.length = 64) (w : World) (hr : RowsS w A n c L) :
    Calls Try.prog 18 #[.agg (picV wd hi (.slice A n c)), .agg (bv q)] w (FrmIs (framesZ wd hi L q) w) := by
  by_cases hE : picE wd hi L = 0
  · cases hqq : allIn q 1 255 with
    | false => exact fblocks_quant wd hi L A n c q hq w hr hE hqq
    | true => exact fblocks_good wd hi L A n c q hq w hr hE hqq
  · exact fblocks_bad wd hi L A n c q hq w hr hE
theorem rfblocks_any (wd hi : Int) (L : List (List Int)) (A : Option Addr) (n c : Nat) (q : List Int) (hq : q.length = 64) (w : World) (hr : RowsS w A n c L) :
    Calls Try.prog 19 #[.agg (picV wd hi (.slice A n c)), .agg (bv q)] w (FrmIs (framesZ wd hi L q) w) := by
  by_cases hE : picE wd hi L = 0
  · cases hqq : allIn q 1 255 with
    | false => exact rfblocks_quant wd hi L A n c q hq w hr hE hqq
    | true => exact rfblocks_good wd hi L A n c q hq w hr hE hqq
  · exact rfblocks_bad wd hi L A n c q hq w hr hE
theorem framesZ_len (wd hi : Int) (L : List (List Int)) (q : List Int) (hq : q.length = 64) : (framesZ wd hi L q).2.2.length = (framesZ wd hi L q).2.1 * 64 := by
  unfold framesZ
  split
  · split
    · exact frameZ_len q hq wd hi _
    · rfl
  · rfl
theorem builtPicB : Try.prog.built 53 [] = some (picV 0 0 (.slice none 0 0)) := by kernel_rfl
theorem fchk_zeroB (w : World) : Calls Try.prog 21 #[.agg (picV 0 0 (.slice none 0 0))] w fun e w' => e = .returned (.int .i64 1) ∧ Ext w w' := by
  have := fchk_any 0 0 [] none 0 0 w (RowsS.nil w)
  have e : picE 0 0 [] = 1 := by decide
  rwa [e] at this
end Go.Proofs.Ytkfdkkhhkciocaa
/- '==' on arrays of integers. -/
namespace Go.Proofs.Ytkfdkkhhkciocaa
set_option linter.unusedVariables false
set_option linter.unusedSimpArgs false
open Go.RowKit
section
variable {P : Program} (w : World)
theorem run_part_int (e : TypeId) (he : P.underlying e = some (.int .i64)) (zs : List Int) (i : Nat) (hi : i < zs.length) : (part e (bv zs) i).run P w = .ok (.int .i64 zs[i]) w := by
  have hagg : (isAgg e).run P w = .ok false w := by
    unfold isAgg
    rw [Sem.run_bind, run_underlying he w]
    rfl
  simp [part, hagg, bv_at zs i hi]
theorem run_equalIn_ints (d : Nat) (t e : TypeId) (n : Nat) (ht : P.underlying t = some (.array n e)) (he : P.underlying e = some (.int .i64)) (hs : (P.info? e).map (·.size) = some 1) (xs ys : List Int) (hx : xs.length = n) (hy : ys.length = n) :
    (Op.equalIn (d + 2) t (.agg (bv xs)) (.agg (bv ys))).run P w = .ok (decide (xs = ys)) w := by
  cases hq : P.info? e with
  | none => simp [hq] at hs
  | some inf =>
    have hz : inf.size = 1 := by simpa [hq] using hs
    have hso : (sizeOf e).run P w = .ok 1 w := by simp [sizeOf, typeInfo, hq, hz]
    unfold Op.equalIn
    simp only [Sem.run_bind, run_underlying ht, Result.andThen_ok, hso, Nat.mul_one]
    rw [Std.Legacy.Range.forIn_eq_forIn_range']
    simp only [Std.Legacy.Range.size, Nat.sub_zero, Nat.add_sub_cancel, Nat.div_one]
    have key : ∀ (m s : Nat), s + m = n →
        (forIn (m := Sem) (List.range' s m) ((none, ()) : Option Bool × Unit) fun i __s => do
            let __do_lift ← part e (bv xs) i
            let __do_lift_1 ← part e (bv ys) i
            let __do_lift ← Op.equalIn (d + 1) e __do_lift __do_lift_1
            if (!__do_lift) = true then pure (ForInStep.done (some false, ())) else pure (ForInStep.yield (none, ()))).run P w
          = .ok (if xs.drop s = ys.drop s then (none, ()) else (some false, ())) w := by
      intro m
      induction m with
      | zero =>
        intro s hsn
        rw [List.drop_eq_nil_of_le (by omega), List.drop_eq_nil_of_le (by omega)]
        simp
      | succ m ih =>
        intro s hsn
        have h1 : s < xs.length := by omega
        have h2 : s < ys.length := by omega
        rw [List.range'_succ, List.forIn_cons]
        simp only [Sem.run_bind, run_part_int w e he xs s h1, run_part_int w e he ys s h2, Result.andThen_ok, run_equalIn_int w d e .i64 .i64 _ _ he]
        have hd : (xs.drop s = ys.drop s) = (xs[s] = ys[s] ∧ xs.drop (s + 1) = ys.drop (s + 1)) := by
          have e1 := List.drop_eq_getElem_cons h1
          have e2 := List.drop_eq_getElem_cons h2
          rw [e1, e2, List.cons.injEq]
        simp only [hd]
        by_cases hq2 : xs[s] = ys[s]
        · have hb : (xs[s] == ys[s]) = true := by simpa using hq2
          simp only [hb, Bool.not_true, Bool.false_eq_true, if_false, Sem.run_pure, Result.andThen_ok, ih (s + 1) (by omega)]
          simp [hq2]
        · have hb : (xs[s] == ys[s]) = false := by simpa using hq2
          simp only [hb, Bool.not_false, if_true, Sem.run_pure, Result.andThen_ok]
          simp [hq2]
    rw [key n 0 (by omega)]
    by_cases h : xs = ys
    · simp [h]
    · simp [h]
theorem guard48 : Try.prog.eqGuardType Try.prog.depth 24 = false := by kernel_rfl
theorem run_eql48 (w : World) (xs ys : List Int) (hx : xs.length = 64) (hy : ys.length = 64) : (binOp .eql 24 (.agg (bv xs)) (.agg (bv ys))).run Try.prog w = .ok (.bool (decide (xs = ys))) w := by
  rw [run_eql_struct, run_equalIn_ints w 9998 24 3 64 Try.underlying24 Try.underlying3 sizeInt xs ys hx hy]
  rfl
theorem run_neq48 (w : World) (xs ys : List Int) (hx : xs.length = 64) (hy : ys.length = 64) : (binOp .neq 24 (.agg (bv xs)) (.agg (bv ys))).run Try.prog w = .ok (.bool (!decide (xs = ys))) w := by
  rw [run_neq_struct, run_equalIn_ints w 9998 24 3 64 Try.underlying24 Try.underlying3 sizeInt xs ys hx hy]
  rfl
theorem run_eql48_same (w : World) (xs : List Int) (hx : xs.length = 64) : (binOp .eql 24 (.agg (bv xs)) (.agg (bv xs))).run Try.prog w = .ok (.bool true) w := by
  rw [run_eql48 w xs xs hx hx]; simp
theorem eqIn48 (w : World) (xs ys : List Int) (hx : xs.length = 64) (hy : ys.length = 64) : (Op.equalIn 10000 24 (.agg (bv xs)) (.agg (bv ys))).run Try.prog w = .ok (decide (xs = ys)) w :=
  run_equalIn_ints w 9998 24 3 64 Try.underlying24 Try.underlying3 sizeInt xs ys hx hy
theorem eqIn48_same (w : World) (xs : List Int) (hx : xs.length = 64) : (Op.equalIn 10000 24 (.agg (bv xs)) (.agg (bv xs))).run Try.prog w = .ok true w := by
  rw [eqIn48 w xs xs hx hx]; simp
theorem run_guard48 (w : World) (op : BinOp) (x y : Operand) (xs ys : Array Value) : (eqGuard op 24 x y (.agg xs) (.agg ys)).run Try.prog w = .ok () w := run_eqGuard_agg w op _ x y xs ys guard48
end
end Go.Proofs.Ytkfdkkhhkciocaa
/- Eq[api.Block] of the reference: two lists of the same blocks. -/
namespace Go.Proofs.Ytkfdkkhhkciocaa
set_option linter.unusedVariables false
set_option linter.unusedSimpArgs false
open Go.RowKit
theorem bv_all_one (zs : List Int) : (ints zs).toArray.all (·.oneCell') = true := bv_one zs
theorem zeroBlk : ∃ z : Array Value, (Try.prog.info? 24).bind (·.zero) = some (.agg z) ∧ z.size = 64 := ⟨bv (List.replicate 64 0), by kernel_rfl, by simp [bv_size]⟩
set_option maxRecDepth 20000 in
set_option maxHeartbeats 1000000 in
theorem eqBlocks_same (u v : Value) (n : Nat) (Z : List Int) (w : World) (hz : Z.length = n * 64) (hu : SL w 64 u n (ints Z)) (hv : SL w 64 v n (ints Z)) :
    Calls Try.prog 20 #[u, v] w fun e w' => e = .returned (.bool true) ∧ Ext w w' := by
  have HZ := hid_ hz
  clear hz
  obtain ⟨zc, hzc, hz64⟩ := zeroBlk
  have HZC := hid_ hzc
  have HZ64 := hid_ hz64
  clear hzc hz64
  have hu' := hu
  have hv' := hv
  obtain ⟨A, c, rfl, hc1, hc2, -, -⟩ := hu'
  obtain ⟨B, d, rfl, hd1, hd2, -, -⟩ := hv'
  go_enter Try.func20, Try.ntmps20
  go_wp2_with fail
  go_loopw [14] (fun i wr => ∃ k : Nat, k ≤ n ∧ i = .int .i64 k ∧ Ext w wr) (fun i _ => n - (intOf i).toNat)
  case atStart => exact ⟨0, by omega, rfl, Ext.refl w⟩
  case round =>
    obtain ⟨k, hk, rfl, hx⟩ := hrel
    by_cases hlt : k < n
    · obtain ⟨ad, rfl, hab, hca⟩ := (hu.ext hx).part hlt
      obtain ⟨bd, rfl, hbb, hcb⟩ := (hv.ext hx).part hlt
      have e : ((ints Z).drop (k * 64)).take 64 = ints ((Z.drop (k * 64)).take 64) := by simp [ints, List.map_drop, List.map_take]
      have hl : ((Z.drop (k * 64)).take 64).length = 64 := by rw [List.length_take, List.length_drop, HZ.out]; omega
      rw [e] at hca hcb
      clear e
      generalize (Z.drop (k * 64)).take 64 = zs at *
      have HL := hid_ hl
      clear hl
      have HCA := hid_ hca
      have HS64 : Hid ((ints zs).toArray.size = 64) := hid_ (by simp [ints_len, HL.out])
      have HO := hid_ (bv_all_one zs)
      clear hca
      go_wp2_with (first
        | (refine wpList_load_any (by rfl) 24 (.tmp 17) rfl (ad.add (k * 64)) rfl (ints zs) _ HCA.out Try.underlying24 rfl (by rw [ints_len, HL.out]; exact size48) ?_)
        | (refine wpList_alloc_abs' rfl (some 6) rfl 24 rfl _ HZC.out ?_; intro w2 g2 hb2 hx2 hg2)
        | (refine wpList_store_blk rfl 24 (.tmp 6) (.tmp 18) rfl _ _ rfl rfl hb2 64 size48 HS64.out HZ64.out HO.out ?_; intro w3 hb3 hg3; have hx3 := hx2.grown hg3 (by omega)))
      have hx3' := hx3.drew
      have hb3' := hb3.drew
      have HCB : Hid (∀ W, Ext w3.drew W → CellsAt W (bd.add (k * 64)) (ints zs)) := hid_ (fun W hW j q hq => by
        rw [((hx3'.trans hW).cell (p := (bd.add (k * 64)).add j) (by rw [block_of_add, block_of_add]; exact hbb))]
        exact hcb j q hq)
      refine wp_region_lx later_ext (by kernel_rfl) (by kernel_rfl) ?_
      refine lx_load_blk (by rfl) 24 (.tmp 6) rfl g2 rfl (fun w h => hb3'.ext h) _ Try.underlying24 rfl 64 size48 HS64.out ?_
      simp only [Act.put, List.setIfInBounds_toArray, List.set_cons_succ, List.set_cons_zero]
      iterate 3 (refine lx_ex (by rfl) ?_; apply Exists.intro; refine ⟨fun w hw => ?_, ?_⟩; · (go_simp; with_reducible rfl)
                 simp only [Act.put, List.setIfInBounds_toArray, List.set_cons_succ, List.set_cons_zero])
      refine lx_load_any (by rfl) 24 (.tmp 22) rfl (bd.add (k * 64)) rfl (ints zs) _ HCB.out Try.underlying24 rfl (by rw [ints_len, HL.out]; exact size48) ?_
      simp only [Act.put, List.setIfInBounds_toArray, List.set_cons_succ, List.set_cons_zero]
      refine lx_binOp (by rfl) .neq 24 _ _ _ rfl (.agg (bv zs)) (.agg (bv zs)) rfl rfl (.bool false) (fun W => run_guard48 W _ _ _ _ _) (fun W => by rw [run_neq48 W zs zs HL.out HL.out]; simp) ?_
      simp only [Act.put, List.setIfInBounds_toArray, List.set_cons_succ, List.set_cons_zero]
      refine lx_nil ?_
      intro w4 hx4
      go_wp2_with fail
      go_roundw
      case rel => exact ⟨k + 1, by omega, by go_num, (hx.trans hx3').trans hx4⟩
      case measure => simp [intOf]; omega
    · go_wp2_with fail
      go_ret
      exact ⟨rfl, hx⟩
end Go.Proofs.Ytkfdkkhhkciocaa
/- Arguments opened: what their reading says of their cells. -/
namespace Go.Proofs.Ytkfdkkhhkciocaa
set_option linter.unusedVariables false
set_option linter.unusedSimpArgs false
open Go.RowKit Go.ChangeShapes Go.WideShapes Go.ChangeAt
def inI64 (z : Int) : Prop := -9223372036854775808 ≤ z ∧ z ≤ 9223372036854775807
theorem inI64_of_wf {z : Int} (h : (Lit.int .i64 z).wf = true) : inI64 z := by
  simp [Lit.wf, IntKind.min, IntKind.max, IntKind.signed, IntKind.bits] at h
  exact ⟨by omega, by omega⟩
theorem ints_of_cells {Q : Int → Prop} : ∀ (cs : List Value), (∀ i, i < cs.length → ∃ z, cs[i]? = some (.int .i64 z) ∧ Q z) → ∃ zs : List Int, cs = ints zs ∧ ∀ z ∈ zs, Q z
  | [], _ => ⟨[], rfl, by simp⟩
  | c :: cs, h => by
    obtain ⟨z, hz, hq⟩ := h 0 (by simp)
    obtain ⟨zs, rfl, hqs⟩ := ints_of_cells cs (fun i hi => by have := h (i + 1) (by simpa using hi); simpa using this)
    refine ⟨z :: zs, ?_, ?_⟩
    · simp at hz; subst hz; rfl
    · intro y hy
      cases hy with
      | head => exact hq
      | tail _ hy => exact hqs y hy
section
variable {H : Type} {enc : TypeId × Value → H} {P : Program} {w : World} {base : Nat} {spare : Nat → Bool} {held : Bool}
theorem trod_int_cell {t : TypeId} {fuel : Nat} {cs : List Value} {x : DataW H × List MemPlace} (ht : P.underlying t = some (.int .i64)) (h : DataW.trod enc P w base spare held fuel t cs = some x) :
    ∃ z, cs = [.int .i64 z] ∧ inI64 z := by
  obtain ⟨z, e, -, hw⟩ := DataW.trod_int ht h
  exact ⟨z, e, inI64_of_wf hw⟩
theorem trod_ints_arr {n : Nat} {t e : TypeId} {fuel : Nat} {cs : List Value} {x : DataW H × List MemPlace} (ht : P.underlying t = some (.array n e)) (he : P.underlying e = some (.int .i64)) (hce : P.cellsOf e = 1) (hct : P.cellsOf t = n)
    (h : DataW.trod enc P w base spare held fuel t cs = some x) : ∃ zs : List Int, zs.length = n ∧ cs = ints zs ∧ ∀ z ∈ zs, inI64 z := by
  obtain ⟨xs, m, -, -, hlen, hxl, hi⟩ := DataW.trod_array ht h
  rw [hct] at hlen
  have hcells : ∀ i, i < cs.length → ∃ z, cs[i]? = some (.int .i64 z) ∧ inI64 z := by
    intro i hlt
    have h1 := hi i (by omega)
    rw [hce, Nat.mul_one] at h1
    have hx : xs[i]? = some (xs[i]'(by omega)) := List.getElem?_eq_getElem (by omega)
    rw [hx] at h1
    obtain ⟨z, hz, hq⟩ := trod_int_cell he h1
    refine ⟨z, ?_, hq⟩
    rw [List.drop_eq_getElem_cons hlt] at hz
    simp only [List.take_succ_cons, List.take_zero, List.cons.injEq, and_true] at hz
    rw [List.getElem?_eq_getElem hlt, hz]
  obtain ⟨zs, rfl, hq⟩ := ints_of_cells cs hcells
  exact ⟨zs, by simpa [ints_len] using hlen, rfl, hq⟩
theorem okWide_array {P : Program} {w : World} {r : Reach} {base : Nat} {t e : TypeId} {n : Nat} {v : Value} (ht : P.underlying t = some (.array n e)) (h : Value.okWide P w r base t v) : ∃ cs, v = .agg cs ∧ cs.size = P.cellsOf t := by
  simp only [Value.okWide, ht] at h
  obtain ⟨cs, h1, h2, _⟩ := h
  exact ⟨cs, h1, h2⟩
theorem cells64 : Try.prog.cellsOf 24 = 64 := by kernel_rfl
theorem cellsInt : Try.prog.cellsOf 3 = 1 := by kernel_rfl
set_option maxRecDepth 8000 in
theorem open_block {w : World} {base b0 : Nat} {r : Reach} {v : Value} {d : DataW H} {p : List MemPlace} (hv : Value.okWide Try.prog w r b0 24 v) (h : DataW.Trod enc Try.prog w base spare held 24 v d p) :
    ∃ zs : List Int, v = .agg (ints zs).toArray ∧ zs.length = 64 ∧ ∀ z ∈ zs, inI64 z := by
  obtain ⟨cs, rfl, hsz⟩ := okWide_array Try.underlying24 hv
  obtain ⟨fuel, hf⟩ := h
  obtain ⟨zs, hl, hc, hq⟩ := trod_ints_arr Try.underlying24 Try.underlying3 cellsInt cells64 hf
  refine ⟨zs, ?_, hl, hq⟩
  have : cs.toList = ints zs := hc
  rw [← this]
end
end Go.Proofs.Ytkfdkkhhkciocaa
/- Tables: table.total, Has of the reference. -/
namespace Go.Proofs.Ytkfdkkhhkciocaa
set_option linter.unusedVariables false
set_option linter.unusedSimpArgs false
open Go.RowKit
def tblv (cs : List Int) (sl : Value) : Array Value := (ints cs ++ [sl]).toArray
theorem sizeTbl : (Try.prog.info? 41).map (·.size) = some 17 := by kernel_rfl
theorem size16 : (Try.prog.info? 39).map (·.size) = some 16 := by kernel_rfl
theorem tblv_size (cs : List Int) (sl : Value) (h : cs.length = 16) : (tblv cs sl).size = 17 := by simp [tblv, ints_len, h]
theorem tblv_range {w : World} {g : Nat} {T : TypeId} {cs : List Int} {sl : Value} (h : Blk w g T (tblv cs sl)) : w.rangeAt g 0 (ints cs) := by
  intro j v hv
  rw [Nat.zero_add, h.cell]
  unfold tblv
  rw [List.getElem?_toArray, List.getElem?_append_left (List.getElem?_eq_some_iff.1 hv).1]
  exact hv
theorem tblv_last {w : World} {g : Nat} {T : TypeId} {cs : List Int} {sl : Value} (h : Blk w g T (tblv cs sl)) (hl : cs.length = 16) : w.cell? ⟨g, 16, none⟩ = some sl := by
  rw [h.cell]
  simp [tblv, ints_len, hl]
theorem run_index16 (cs : Array Value) (i : Nat) (u : Value) (hi : i < 16) (hu : cs[i]? = some u) (w : World) : (Instr.index 39 (.agg cs) (.int .i64 (i : Int))).run Try.prog w = .ok u w :=
  run_index_agg _ _ 16 cs i u Try.underlying39 _ Try.underlying3 sizeInt hi hu w
def sumL (cs : List Int) (k : Nat) : Int := (cs.take k).sum
theorem sumL_succ (cs : List Int) (k : Nat) (h : k < cs.length) : sumL cs (k + 1) = sumL cs k + cs[k] := by
  unfold sumL
  rw [List.take_succ_eq_append_getElem h, List.sum_append]
  simp
def totalZ (cs : List Int) : Int × Bool := if allIn cs 0 256 then (sumL cs 16, decide (sumL cs 16 ≤ 256)) else (0, false)
set_option maxHeartbeats 400000 in
theorem total_any (cs : List Int) (sl : Value) (w : World) (hl : cs.length = 16) :
    Calls Try.prog 82 #[.agg (tblv cs sl)] w fun e w' => e = .returned (.tuple #[.int .i64 (totalZ cs).1, .bool (totalZ cs).2]) ∧ Ext w w' := by
  have HL := hid_ hl
  have HRG := hid_ (fun W g (h : Blk W g 41 (tblv cs sl)) => tblv_range h)
  have hcl := hid_ ((ints_len cs).trans hl)
  have HIX := hid_ (fun k (hk : k < cs.length) (h16 : k < 16) => fun W => run_index16 (bv cs) k (.int .i64 cs[k]) h16 (bv_at cs k hk) W)
  generalize tblv cs sl = tv at *
  have hbv : (ints cs).toArray = bv cs := rfl
  go_enter Try.func82, Try.ntmps82
  go_wp2_with (first
    | (refine wpList_box_abs rfl 41 (.tmp 0) rfl tv rfl ?_; intro w1 g hb1 hx1 hg)
    | (refine wpList_load_mid rfl 39 (.tmp 7) rfl g 0 rfl (ints cs) _ (HRG.out _ _ hb1) Try.underlying39 rfl (by rw [hcl.out]; exact size16) ?_))
  go_loop [4, 9] (fun v i => ∃ k : Nat, k ≤ 16 ∧ i = .int .i64 (k : Int) ∧ v = .int .i64 (sumL cs k) ∧ (∀ z ∈ cs.take k, 0 ≤ z ∧ z ≤ 256) ∧ 0 ≤ sumL cs k ∧ sumL cs k ≤ 256 * k) (fun _ i => 16 - (intOf i).toNat)
  case atStart => exact ⟨0, by omega, rfl, rfl, by simp, by simp [sumL], by simp [sumL]⟩
  case round =>
    obtain ⟨k, hk, rfl, rfl, hin, s1, s2⟩ := hrel
    by_cases hlt : k < 16
    · have hkl : k < cs.length := by have := HL.out; omega
      have hix := HIX.out k hkl hlt
      have HS := hid_ (sumL_succ cs k hkl)
      have HIN := hid_ hin
      clear hin
      cases hq : inB cs[k] 0 256 with
      | true =>
        obtain ⟨q1, q2⟩ := inB_iff.1 hq
        have HN := hid_ (allIn_take HIN.out hkl ⟨q1, q2⟩)
        generalize sumL cs k = s at *
        go_wp2_with fail
        go_round
        case rel => exact ⟨k + 1, by omega, by go_num, by rw [HS.out], HN.out, by rw [HS.out]; omega, by rw [HS.out]; omega⟩
        case measure => simp [intOf]; omega
      | false =>
        have HF := hid_ (show totalZ cs = (0, false) by unfold totalZ; rw [allIn_no hkl hq]; rfl)
        rcases Int.lt_or_le cs[k] 0 with h0 | h0
        · have h0' : decide (cs[k] < 0) = true := by simpa using h0
          clear hq
          go_wp2_with fail
          go_ret2
          exact ⟨by rw [HF.out]; rfl, hx1⟩
        · have h0' : decide (cs[k] < 0) = false := by simpa using h0
          have h1' : decide (256 < cs[k]) = true := by have := inB_not.1 hq; simp; omega
          clear hq
          go_wp2_with fail
          go_ret2
          exact ⟨by rw [HF.out]; rfl, hx1⟩
    · have ek : k = 16 := by omega
      have HF := hid_ (show totalZ cs = (sumL cs 16, decide (sumL cs 16 ≤ 256)) by
        unfold totalZ
        rw [allIn_iff.2 (fun z hz => hin z (by rwa [List.take_of_length_le (by have := HL.out; omega)]))]
        rfl)
      rw [ek]
      rw [ek] at s1 s2
      clear hin ek hk hlt
      go_wp2_with fail
      go_ret2
      exact ⟨by rw [HF.out]; rfl, hx1⟩
theorem has_any (xs : List Int) (A : Option Addr) (c n : Nat) (x : Int) (w : World) (hn : xs.length = n) (hs : SL w 1 (.slice A n c) n (ints xs)) :
    Calls Try.prog 106 #[.slice A n c, .int .i64 x] w fun e w' => e = .returned (.bool (decide (x ∈ xs))) ∧ w = w' := by
  subst hn
  have hc1 : xs.length ≤ c ∧ c ≤ 9223372036854775807 := by obtain ⟨A', c', e, h1, h2, -⟩ := hs; injection e with e1 e2 e3; subst e3; exact ⟨h1, h2⟩
  obtain ⟨hc1, hc2⟩ := hc1
  go_enter Try.func106, Try.ntmps106
  go_wp2_with fail
  go_loop [9] (fun i => ∃ k : Nat, k ≤ xs.length ∧ i = .int .i64 k ∧ x ∉ xs.take k) (fun i => xs.length - (intOf i).toNat)
  case atStart => exact ⟨0, by omega, rfl, by simp⟩
  case round =>
    obtain ⟨k, hk, rfl, ht⟩ := hrel
    have HT := hid_ ht
    clear ht
    by_cases hlt : k < xs.length
    · obtain ⟨ad, u, rfl, -, hx, hcell⟩ := hs.at1 hlt
      obtain ⟨_, rfl⟩ := ints_at _ _ _ hx
      clear hx
      by_cases hq : x = xs[k]
      · have hq' : (x == xs[k]) = true := by simpa using hq
        have HC := hid_ (show decide (x ∈ xs) = true by rw [decide_eq_true_eq, hq]; exact List.getElem_mem hlt)
        clear hq
        go_wp2_with fail
        go_ret
        exact ⟨by rw [HC.out]; rfl, rfl⟩
      · have hq' : (x == xs[k]) = false := by simpa using hq
        have HN := hid_ (show x ∉ xs.take (k + 1) by rw [List.take_succ_eq_append_getElem hlt, List.mem_append]; exact fun h => h.elim HT.out (fun h => hq (by simpa using h)))
        clear hq
        go_wp2_with fail
        go_round
        case rel => exact ⟨k + 1, by omega, by go_num, HN.out⟩
        case measure => simp [intOf]; omega
    · have HC := hid_ (show decide (x ∈ xs) = false by
        have := HT.out
        rw [List.take_of_length_le (by omega)] at this
        simpa using this)
      go_wp2_with fail
      go_ret
      exact ⟨by rw [HC.out]; rfl, rfl⟩
end Go.Proofs.Ytkfdkkhhkciocaa
/- Opening a parameter: a list of integers, a table. -/
namespace Go.Proofs.Ytkfdkkhhkciocaa
set_option linter.unusedVariables false
set_option linter.unusedSimpArgs false
open Go.RowKit Go.ChangeShapes Go.WideShapes Go.ChangeAt
section
variable {H : Type} {enc : TypeId × Value → H} {w : World} {base : Nat} {spare : Nat → Bool} {held : Bool}
theorem open_intsX {fuel : Nat} {cs : List Value} {x : DataW H × List MemPlace} (h : DataW.trod enc Try.prog w base spare held fuel 30 cs = some x) :
    ∃ (zs : List Int) (v : Value), cs = [v] ∧ SL w 1 v zs.length (ints zs) ∧ ∀ z ∈ zs, inI64 z := by
  rcases open_ints Try.underlying30 Try.underlying3 cellsInt h with ⟨rfl, -⟩ | ⟨a, len, cap, zs, rfl, -, hlc, hcm, hzl, -, hcell, hwf⟩
  · exact ⟨[], _, rfl, SL.nil w 1, by simp⟩
  · have hlen : len ≤ zs.length := by rw [hzl]; split <;> omega
    refine ⟨zs.take len, _, rfl, ?_, fun z hz => inI64_of_wf (hwf z (List.mem_of_mem_take hz))⟩
    have hl : (zs.take len).length = len := by rw [List.length_take]; omega
    rw [hl]
    refine ⟨some a, cap, rfl, hlc, by unfold maxLen at hcm; omega, by rw [ints_len, hl]; omega, fun h0 => ⟨a, rfl, ?_, fun j u hu => ?_⟩⟩
    · have := hcell 0 (by omega)
      have h2 := World.block_lt_of_cell? w _ this
      rwa [block_of_add] at h2
    · obtain ⟨hj, rfl⟩ := ints_at _ _ _ hu
      have hj2 : j < len := by omega
      rw [hcell j (by omega)]
      simp [List.getD_eq_getElem?_getD, show j < zs.length by omega]
theorem cells16 : Try.prog.cellsOf 39 = 16 := by kernel_rfl
theorem cellsSl : Try.prog.cellsOf 30 = 1 := by kernel_rfl
theorem cellsTbl : Try.prog.cellsOf 41 = 17 := by kernel_rfl
set_option maxRecDepth 20000 in
theorem open_table {b0 : Nat} {r : Reach} {v : Value} {d : DataW H} {p : List MemPlace} (hv : Value.okWide Try.prog w r b0 41 v) (h : DataW.Trod enc Try.prog w base spare held 41 v d p) :
    ∃ (zs xs : List Int) (sl : Value), v = .agg (tblv zs sl) ∧ zs.length = 16 ∧ (∀ z ∈ zs, inI64 z) ∧ SL w 1 sl xs.length (ints xs) ∧ ∀ z ∈ xs, inI64 z := by
  obtain ⟨cs, rfl, hsz⟩ := okWide_struct Try.underlying41 hv
  obtain ⟨fuel, hf⟩ := h
  obtain ⟨y0, y1, n, -, hlen, h0, h1⟩ := trod_struct2 Try.underlying41 hf
  have hL : cs.toList.length = 17 := by rw [show cs.toList.length = cs.size by simp, hsz, cellsTbl]
  have hcs : (Value.agg cs).cells.toList = cs.toList := rfl
  rw [hcs] at h0 h1
  dsimp only at h0 h1
  obtain ⟨zs, hz, hc, hq⟩ := trod_ints_arr Try.underlying39 Try.underlying3 cellsInt cells16 h0
  obtain ⟨xs, sl, hs, hsl, hxq⟩ := open_intsX h1
  rw [cells16, List.drop_zero] at hc
  rw [cellsSl] at hs
  refine ⟨zs, xs, sl, ?_, hz, hq, hsl, hxq⟩
  have e2 : cs.toList.drop 16 = [sl] := by
    rw [← hs]
    rw [List.take_of_length_le (by rw [List.length_drop, hL]; omega)]
  have e : cs.toList = ints zs ++ [sl] := by
    rw [← hc, ← e2, List.take_append_drop]
  congr 1
  apply Array.ext'
  rw [e]
  simp [tblv]
end
end Go.Proofs.Ytkfdkkhhkciocaa
/- A row of bytes, as values. -/
namespace Go.Proofs.Ytkfdkkhhkciocaa
set_option linter.unusedVariables false
set_option linter.unusedSimpArgs false
open Go.RowKit
def bytesV (l : List Nat) : List Value := l.map fun x : Nat => Value.int .u8 (x : Int)
theorem bytesV_len (l : List Nat) : (bytesV l).length = l.length := by simp [bytesV]
theorem bytesV_snoc (l : List Nat) (x : Nat) : bytesV (l ++ [x]) = bytesV l ++ [.int .u8 (x : Int)] := by simp [bytesV]
end Go.Proofs.Ytkfdkkhhkciocaa
