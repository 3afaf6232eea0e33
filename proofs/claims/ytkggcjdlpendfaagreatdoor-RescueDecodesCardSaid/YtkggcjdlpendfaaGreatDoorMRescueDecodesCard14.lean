/- Contracts for the law RescueDecodesCard, part 14: what the functions that it reaches answer, for all arguments that the theorems name. -/
import Derived.Deep.Cut
import Derived.Test.YtkggcjdlpendfaaGreatDoorMRescueDecodesCard10
import Derived.Test.YtkggcjdlpendfaaGreatDoorMRescueDecodesCard6
import Derived.WalkKit
import Derived.ProofKit
import Derived.OpenShut
import Derived.Test.YtkggcjdlpendfaaGreatDoorMRescueDecodesCard1
import Derived.ChangeSlices
import Derived.Test.YtkggcjdlpendfaaGreatDoorMRescueDecodesCard9
import Derived.Deep.SlicePairs
import Derived.Laws.BitsAllLaws
import Derived.Test.YtkggcjdlpendfaaGreatDoorMRescueDecodesCard3
import Derived.Deep.QuietTactic
import Derived.BigQuiet
import Derived.Test.YtkggcjdlpendfaaGreatDoorMRescueDecodesCard2
import Derived.Test.YtkggcjdlpendfaaGreatDoorMRescueDecodesCard11
import Derived.Test.YtkggcjdlpendfaaGreatDoorMRescueDecodesCard4
import Derived.Outline
import Derived.IntWalk
namespace Go.Proofs.YtkggcjdlpendfaaGreatDoor
set_option linter.unusedVariables false
set_option linter.unusedSimpArgs false
open Go.RowKit
section
attribute [local irreducible] mapS sect shB planeS planesZ showZ
set_option maxRecDepth 20000 in
set_option maxHeartbeats 16000000 in
theorem rshown_any (F : FC) (hF : F.shaped) (s1 s2 sd : Value) (a b p : Nat) (hw : F.wd = a) (hh : F.hi = b) (hp : F.pt = p) (a1 : 1 ≤ a) (a2 : a ≤ 64) (b1 : 1 ≤ b) (b2 : b ≤ 64) (hp13 : p = 1 ∨ p = 3) (A : Option Addr) (m c : Nat) (X : List Int) (hm : m = p * cutN a b) (w : World) (hs : SL w 64 (.slice A m c) m (ints X)) :
 Calls Tryz.prog 61 #[.agg (F.cells s1 s2 sd), .slice A m c] w (PicIs a b (showZ F.qs X a b p) w) := by
 have HF := hid_ (fun W g (h : Blk W g 47 (F.cells s1 s2 sd)) => fileB h hF.1 (tblL_len _ _ hF.2.1) (tblL_len _ _ hF.2.2))
 have hts := hid_ (FC.size hF s1 s2 sd)
 have hq := hF.1
 rw [hw, hh, hp] at HF
 generalize F.qs = q at *
 generalize F.cells s1 s2 sd = fv at *
 have hcm : m ≤ c := by obtain ⟨_, _, e, h1, _⟩ := hs; injection e with _ e2 e3; omega
 have hXl : X.length = m * 64 := by obtain ⟨_, _, _, _, _, h1, _⟩ := hs; simpa [ints] using h1
 have HM : Hid (∀ W, Calls Tryz.prog 60 #[.int .i64 (a : Int), .int .i64 (b : Int)] W fun e w' => e = .returned (.int .i64 ((cutN a b : Nat) : Int)) ∧ W = w') := hid_ (fun W => rmany_any a b W a2 b2)
 have HJ := hid_ (fun k v W h => rjoin_show q X a b a1 a2 b1 b2 k v W h)
 have HT := hid_ (fun W B hB A n c h => rturn_show q X a b p a2 b2 hp13 W B hB A n c h)
 unfold TurnF at HT
 have HU : Hid (∀ (P : List Int) W, P.length = 64 → Calls Tryz.prog 118 #[.agg (bv P), .agg (ints q).toArray] W fun e w' => e = .returned (.tuple #[.agg (bv (bothZ upF P q 2047).1), .int .i64 (bothZ upF P q 2047).2]) ∧ Ext W w') := hid_ (fun P W h => rup_any P q W h hq)
 have HWV := hid_ (fun (P : List Int) W (h : P.length = 64) => rwaveFrom_any P W h)
 have HP0 : Hid (planesZ q X a b 0 = []) := hid_ (by unfold planesZ; rfl)
 have HPS := hid_ (fun k => planesZ_snoc q X a b k)
 have HPL := hid_ (fun k => planesZ_len q X a b k)
 have HL := hid_ (fun k => planeS_len q X a b k)
 have hab : a * b ≤ 4096 := Nat.mul_le_mul a2 b2
 have hn1 : 1 ≤ cutN a b := cutN_pos a1 b1
 have hn64 := cutN_le a2 b2
 have hp3 : p ≤ 3 := by omega
 have HQ64 := hid_ hq
 have hqs : (ints q).length = 64 := by rw [ints_len, hq]
 generalize showZ q X a b p = SZ at *
 generalize hPZ : planesZ q X a b = PZ at *
 generalize hPl : planeS q X a b = PL at *
 generalize cutN a b = n at *
 have hpn : p * n ≤ 192 := Nat.le_trans (Nat.mul_le_mul hp3 hn64) (by omega)
 have HMN := hid_ hm
 have hm192 : m ≤ 192 := by omega
 clear hm
 have hpn0 : (picV a b (.slice none 0 0)).size = 3 := rfl
 have HPB := hid_ (builtPicS a b)
 have HP1 := hid_ (fun A n c => pic_one a b A n c)
 have HPC := hid_ (fun (W : World) g v (h : Blk W g 31 (picV a b v)) => pic_cells h)
 have HPSZ := hid_ (fun v => picV_size a b v)
 have HPSET := hid_ (fun u v => picV_set a b u v)
 have HZP := zeroPicS
 have hz0s : Hid ((Value.agg (picV 0 0 (.slice none 0 0))).cells.size = 3) := hid_ rfl
 obtain ⟨pz, hpz⟩ : ∃ pz, picV 0 0 (.slice none 0 0) = pz := ⟨_, rfl⟩
 rw [hpz] at HZP hz0s
 obtain ⟨pic, hpic⟩ : ∃ pic : Value → Array Value, pic = picV a b := ⟨_, rfl⟩
 have HRET : Hid (∀ W B k d, RowsF W w.heap.size B k d SZ → Ext w W → PicIs a b SZ w (.returned (.agg (pic (.slice B k d)))) W) := hid_ (fun W B k d h hx => ⟨B, k, d, by rw [hpic], h, hx⟩)
 rw [← hpic] at hpn0 HPB HP1 HPC HPSZ HPSET
 clear hw hh hp hF hpz hpic hPZ hPl
 go_enter Tryz.func61, Tryz.ntmps61
 go_upto_region 4 with (first
  | ((with_reducible apply gS 2); refine wBox rfl 47 (.tmp 0) rfl fv rfl ?_; intro w1 gf hb1 hx1 hgf; have hf1 := HF.out _ _ hb1)
  | ((with_reducible apply gS 4); refine wAlo' rfl (some 4) rfl 31 rfl _ HZP ?_; intro w2 gr hr2 hx2 hgr; have hb2 := hb1.ext hx2; have hf2 := HF.out _ _ hb2; have hx12 := hx1.trans hx2)
  | ((with_reducible apply gS 19); refine wl_read rfl (.int .i64 (a : Int)) (ex_loadI rfl rfl hf2.c0) ?_)
  | ((with_reducible apply gS 21); refine wl_read rfl (.int .i64 (b : Int)) (ex_loadI rfl rfl hf2.c1) ?_)
  | ((with_reducible apply gS 22); refine wpList_buildTo rfl 31 _ rfl (some 22) rfl (pic (.slice none 0 0)) (by simp only [List.map_toArray, List.map_cons, List.map_nil]; exact HPB.out) ?_)
  | ((with_reducible apply gS 5); refine wAlo' rfl (some 5) rfl 31 rfl _ HZP ?_; intro w3 gp hp3' hx3 hgp)
  | ((with_reducible apply gT 5 22); refine wStB rfl 31 (.tmp 5) (.tmp 22) rfl gp (pic (.slice none 0 0)) rfl rfl hp3' 3 sizePic hpn0 hz0s.out (HP1.out _ _ _) ?_; intro w4 hp4 hg4; have hx24 := hx3.grown hg4 hgp; have hb4 := hb2.ext hx24; have hr4 := hr2.ext hx24; have hf4 := HF.out _ _ hb4; have hx14 := hx12.trans hx24)
  | ((with_reducible apply gS 24); refine wl_read rfl (.int .i64 (a : Int)) (ex_loadI rfl rfl hf4.c0) ?_)
  | ((with_reducible apply gS 26); refine wl_read rfl (.int .i64 (b : Int)) (ex_loadI rfl rfl hf4.c1) ?_)
  | (go_at_call 60; (with_reducible refine (HM.out _).mono ?_); rintro e w5 ⟨rfl, rfl⟩)
  | ((with_reducible apply gS 29); refine wl_read rfl (.int .i64 (p : Int)) (ex_loadI rfl rfl hf4.c2) ?_))
 have hgp0 : w.heap.size ≤ gp := by have := hx12.size; omega
 have hgpB : gp < w4.heap.size := hp4.lt
 have hgfB : gf < w4.heap.size := hb4.lt
 have hgrB : gr < w4.heap.size := hr4.lt
 have hgfp : gf ≠ gp := by have := hb2.lt; omega
 have hgrp : gr ≠ gp := by have := hr2.lt; omega
 have hgr0 : w.heap.size ≤ gr := by have := hx1.size; omega
 have hp0 : PartsAt w4 w4.heap.size (.slice none 0 0) (PZ 0) := by rw [HP0.out]; exact PartsAt.nil _ _
 clear hb1 hx1 hf1 hr2 hx2 hb2 hf2 hx12 hp3' hx3 hg4 hx24 hf4
 go_loopw [30] (fun iv wr => ∃ (k : Nat) (v : Value), k ≤ p ∧ iv = .int .i64 (k : Int) ∧ PartsAt wr w4.heap.size v (PZ k) ∧ Blk wr gp 31 (pic v) ∧ Blk wr gf 47 fv ∧ Blk wr gr 31 pz ∧ Ext w wr ∧ w4.heap.size ≤ wr.heap.size) (fun i _ => p - (intOf i).toNat)
 case atStart => exact ⟨0, _, by omega, rfl, hp0, hp4, hb4, hr4, hx14, Nat.le_refl _⟩
 case round =>
  clear hp0 hp4 hb4 hr4 hx14
  obtain ⟨k, v, hk, rfl, hpa, hpb, hb, hr, hx, hsz4⟩ := hrel
  by_cases hkp : k < p
  ·obtain ⟨lo, hlo⟩ : ∃ lo, k * n = lo := ⟨_, rfl⟩
   have HLO := hid_ hlo
   have hlom : lo + n ≤ m := by
    rw [HMN.out]
    have := Nat.mul_le_mul_right n (show k + 1 ≤ p by omega)
    rw [Nat.add_mul] at this
    omega
   have hsub := (hs.ext hx).sect hlo hlom
   have hYl := sect_len hXl hlo hlom
   have HJk := hid_ (HJ.out k)
   generalize sect X n k = Y at *
   clear hlo
   go_upto_region 8 with (first
    | ((with_reducible apply gS 36); refine wl_run rfl (.int .i64 ((lo : Nat) : Int)) (by rw [← HLO.out]; exact ex_mulN (i := k) (d := n) rfl rfl rfl (by rw [HLO.out]; omega)) ?_)
    | ((with_reducible apply gS 39); refine wl_run rfl (.int .i64 ((lo : Nat) : Int)) (by rw [← HLO.out]; exact ex_mulN (i := k) (d := n) rfl rfl rfl (by rw [HLO.out]; omega)) ?_)
    | ((with_reducible apply gS 41); refine wl_run rfl (.int .i64 ((lo + n : Nat) : Int)) (ex_addN (i := lo) (d := n) rfl rfl rfl (by omega)) ?_)
    | ((with_reducible apply gS 42); refine wl_run rfl (.slice (subA A c lo) n (c - lo)) (ex_subKn rfl rfl rfl rfl hlom hcm) ?_))
   obtain ⟨wa, rfl⟩ : ∃ wa, wa = wr := ⟨_, rfl⟩
   have own0 : OwnV wa wa.heap.size 33 64 (.slice none 0 0) 0 (ints (mapS q Y 0)) := by unfold mapS; exact OwnV.nil _ _ _ _
   have hsubH := hid_ hsub
   generalize subA A c lo = SA at *
   generalize c - lo = sc at *
   go_loopw [8, 44] (fun ov iv w0 => ∃ j : Nat, j ≤ n ∧ iv = .int .i64 (j : Int) ∧ OwnV w0 wa.heap.size 33 64 ov j (ints (mapS q Y j)) ∧ Ext wa w0) (fun _ i _ => n - (intOf i).toNat)
   case atStart => exact ⟨0, by omega, rfl, own0, Ext.refl _⟩
   case round =>
    clear own0
    obtain ⟨j, hj, rfl, ⟨OA, oc, rfl, ho⟩, hx0⟩ := hrel
    obtain ⟨w0, rfl⟩ : ∃ w0, w0 = wr := ⟨_, rfl⟩
    by_cases hjn : j < n
    ·obtain ⟨bd, hbd, hbb, hca⟩ := (hsubH.out.ext hx0).part hjn
     have hca' := part64_cells hca
     subst hbd
     have hpl : (part64 Y j).length = 64 := by unfold part64; rw [List.length_take, List.length_drop, hYl]; omega
     have HMS : Hid (mapS q Y (j + 1) = mapS q Y j ++ shB (part64 Y j) q) := hid_ (by rw [mapS])
     have HSB : Hid (shB (part64 Y j) q = clampL (waveR frC (bothZ upF (part64 Y j) q 2047).1).1) := hid_ (by unfold shB; rfl)
     generalize part64 Y j = P at *
     have HUP := hid_ (fun W => HU.out P W hpl)
     have hul := bothZ_len upF P q 2047 hpl HQ64.out
     have HWP := hid_ (fun W => HWV.out (bothZ upF P q 2047).1 W hul)
     have hwl := waveR_len frC (bothZ upF P q 2047).1
     generalize (waveR frC (bothZ upF P q 2047).1).2 = ew at *
     generalize (waveR frC (bothZ upF P q 2047).1).1 = P3 at *
     generalize (bothZ upF P q 2047).2 = eu at *
     generalize (bothZ upF P q 2047).1 = P2 at *
     rw [HSB.out] at HMS
     clear hca HSB
     have s1 := hid_ ((bv_size P).trans hpl)
     have s2 := hid_ ((bv_size P2).trans hul)
     have s3 := hid_ ((bv_size P3).trans hwl)
     have o1 := hid_ (bv_one P)
     have o2 := hid_ (bv_one P2)
     have o3 := hid_ (bv_one P3)
     have hipl : (ints P).length = 64 := by rw [ints_len, hpl]
     have hzs : Hid ((Value.agg (bv zeros64)).cells.size = 64) := hid_ zero48c
     have hbz := hb.ext hx0
     go_upto_region 13 with (first
      | ((with_reducible apply gS 46); refine wl_run rfl (.pointer (some (bd.add (j * 64)))) (ex_ixSl (i := j) Tryz.underlying25 size48 rfl rfl rfl hjn) ?_)
      | ((with_reducible apply gS 47); refine wpList_load_any (by rfl) 33 (.tmp 46) rfl (bd.add (j * 64)) rfl (ints P) _ hca' Tryz.underlying33 rfl (by rw [hipl]; exact size48) ?_)
      | ((with_reducible apply gS 10); refine wAlo' rfl (some 10) rfl 33 rfl _ zero48 ?_; intro w8 g8 hb8 hx8 hg8)
      | ((with_reducible apply gT 10 47); refine wStB rfl 33 (.tmp 10) (.tmp 47) rfl g8 (bv P) rfl rfl hb8 64 size48 s1.out hzs.out o1.out ?_; intro w9 hb9 hg9; have hx9 := hx8.grown hg9 hg8; have hbz9 := hbz.ext hx9; have hf9 := HF.out _ _ hbz9)
      | ((with_reducible apply gS 49); refine wLdB rfl 33 (.tmp 10) rfl g8 rfl hb9 _ Tryz.underlying33 rfl 64 size48 s1.out ?_)
      | ((with_reducible apply gS 51); refine wpList_load_mid rfl 33 (.tmp 50) rfl gf 3 rfl (ints q) _ hf9.q Tryz.underlying33 rfl (by rw [hqs]; exact size48) ?_)
      | (go_at_call 118; (with_reducible refine (HUP.out _).mono ?_); rintro e w10 ⟨rfl, hx10⟩; have hxa := hx9.trans hx10)
      | ((with_reducible apply gS 11); refine wAlo' rfl (some 11) rfl 33 rfl _ zero48 ?_; intro w16 g16 hb16 hx16 hg16; have hxa2 := hxa.trans hx16; have hg16' := Nat.le_trans hxa.size hg16)
      | ((with_reducible apply gT 11 53); refine wStB rfl 33 (.tmp 11) (.tmp 53) rfl g16 (bv P2) rfl rfl hb16 64 size48 s2.out hzs.out o2.out ?_; intro w11 hb11 hg11; have hxb := hxa2.grown hg11 hg16')
      | ((with_reducible apply gS 56); refine wLdB rfl 33 (.tmp 11) rfl g16 rfl hb11 _ Tryz.underlying33 rfl 64 size48 s2.out ?_)
      | (go_at_call 71; (with_reducible refine (HWP.out _).mono ?_); rintro e w12 ⟨rfl, hx12⟩; have hxc := hxb.trans hx12)
      | ((with_reducible apply gS 13); refine wAlo' rfl (some 13) rfl 33 rfl _ zero48 ?_; intro w17 g17 hb17 hx17 hg17; have hxc2 := hxc.trans hx17; have hg17' := Nat.le_trans hxc.size hg17)
      | ((with_reducible apply gT 13 58); refine wStB rfl 33 (.tmp 13) (.tmp 58) rfl g17 (bv P3) rfl rfl hb17 64 size48 s3.out hzs.out o3.out ?_; intro w13 hb13 hg13; have hxd := hxc2.grown hg13 hg17'))
     have hc0 : Blk w13 g17 33 (bv (clampM P3 0)) := by rw [clampM_0]; exact hb13
     clear hb8 hx8 hb9 hx9 hg9 hbz9 hf9 hx10 hxa hb16 hx16 hxa2 hb11 hg11 hxb hx12 hxc hb17 hx17 hxc2 hb13 hg13 hca'
     go_loopw [60] (fun iv wi => ∃ i : Nat, i ≤ 64 ∧ iv = .int .i64 (i : Int) ∧ Blk wi g17 33 (bv (clampM P3 i)) ∧ Ext w0 wi) (fun i _ => 64 - (intOf i).toNat)
     case atStart => exact ⟨0, by omega, rfl, hc0, hxd⟩
     case round =>
      clear hc0 hxd
      obtain ⟨i, hi, rfl, hbi, hxi⟩ := hrel
      obtain ⟨wi, rfl⟩ : ∃ wi, wi = wr := ⟨_, rfl⟩
      by_cases hi64 : i < 64
      ·obtain ⟨z, hz⟩ : ∃ z, P3[i]? = some z := ⟨P3[i]'(by omega), List.getElem?_eq_getElem (by omega)⟩
       have hcell : wi.cell? ⟨g17, i, none⟩ = some (.int .i64 z) := (hbi.cell i).trans (bv_get (clampM_get P3 i z hwl hz))
       have hsz : i < (bv (clampM P3 i)).size := by rw [bv_size, clampM_len P3 i hwl hi]; exact hi64
       have hset := hid_ (by rw [bv_set, clampM_set P3 i z hz] : (bv (clampM P3 i)).setIfInBounds i (.int .i64 (clampZ z (-40000) 40000)) = bv (clampM P3 (i + 1)))
       have HCL := hid_ (fun W => clamp_any z (-40000) 40000 W)
       generalize clampZ z (-40000) 40000 = cz at *
       generalize bv (clampM P3 i) = c0 at *
       obtain ⟨c1, hc1⟩ : ∃ c1, bv (clampM P3 (i + 1)) = c1 := ⟨_, rfl⟩
       rw [hc1] at hset
       have HC1 := hid_ hc1
       clear hc1
       go_wp2_with (first
        | ((with_reducible apply gS 65); refine wl_run rfl (.pointer (some ⟨g17, i, none⟩)) (ex_ixArr0 Tryz.underlying33 sizeI rfl rfl rfl hi64) ?_)
        | ((with_reducible apply gS 66); refine wl_read rfl (.int .i64 z) (ex_loadI rfl rfl hcell) ?_)
        | (go_at_call 119; (with_reducible refine (HCL.out _).mono ?_); rintro e w9 ⟨rfl, rfl⟩)
        | ((with_reducible apply gS 68); refine wl_run rfl (.pointer (some ⟨g17, i, none⟩)) (ex_ixArr0 Tryz.underlying33 sizeI rfl rfl rfl hi64) ?_)
        | ((with_reducible apply gT 68 67); refine wl_storeI rfl (.tmp 68) (.tmp 67) rfl g17 i cz rfl rfl hbi hsz ?_))
       have hbn := hbi.set_ i (.int .i64 cz)
       rw [hset.out] at hbn
       have hxn := hxi.setCell (p := ⟨g17, i, none⟩) (by have := hg17'; omega) (.int .i64 cz)
       try simp only [Act.put]
       go_roundw
       case rel => exact ⟨i + 1, by omega, by go_num, by rw [HC1.out]; exact hbn, hxn⟩
       case measure => simp [intOf]; omega
      ·obtain rfl : i = 64 := by omega
       rw [clampM_all P3 hwl] at hbi
       have hcl : (clampL P3).length = 64 := by rw [clampL_len, hwl]
       generalize clampL P3 = P4 at *
       have s4 := hid_ ((bv_size P4).trans hcl)
       go_wp2_with (first
        | ((with_reducible apply gS 71); refine wLdB rfl 33 (.tmp 13) rfl g17 rfl hbi _ Tryz.underlying33 rfl 64 size48 s4.out ?_)
        | ((with_reducible apply gS 72); refine wLit1 rfl 25 33 (.tmp 71) rfl (some 72) rfl Tryz.underlying25 64 size48 zero48' (.agg (bv P4)) rfl s4.out (by omega) (by omega) ?_; intro w14 g14 hb14' hx14' hg14; have hxe := hxi.trans hx14'; have ho14 := own_keep ho hxe)
        | ((with_reducible apply gS 73); refine wApf elt_blk rfl (.tmp 70) (.tmp 72) rfl wa.heap.size (.slice OA j oc) j (ints (mapS q Y j)) rfl ho14 _ 1 (ints P4) rfl (blk_sl1 hb14' hcl) (ints_one_mem P4) (by omega) (by omega) (hx0.trans hxe).size ?_; intro A15 c15 w15 ho15 hg15 hr15))
       go_roundw
       case rel => exact ⟨j + 1, by omega, by go_num, ⟨A15, c15, rfl, by rw [HMS.out, ints_app]; exact ho15⟩, Below.grown (hx0.trans hxe) hg15 (hx0.trans hxe).size (fun y hy => (ho14.lt y hy).1)⟩
       case measure => simp [intOf]; omega
    ·obtain rfl : j = n := by omega
     have hob := (own_out ho).1
     have hbz := hb.ext hx0
     have hfz := HF.out _ _ hbz
     have hpbz := hpb.ext hx0
     have hpaz := hpa.ext hx0
     have hxz := hx.trans hx0
     have HJZ := hid_ (HJk.out (.slice OA j oc) w0 hob)
     obtain ⟨PA, pc, rfl⟩ := hpaz.form
     have hkl := HPL.out k
     rw [hkl] at hpbz hpaz
     have hLk := HL.out k
     have hcz := (HPC.out _ _ _ hpbz).2.2
     have hPS := HPS.out k
     generalize PL k = pl at *
     go_wp2_with (first
      | ((with_reducible apply gS 78); refine wl_read rfl (.int .i64 (a : Int)) (ex_loadI rfl rfl hfz.c0) ?_)
      | ((with_reducible apply gS 80); refine wl_read rfl (.int .i64 (b : Int)) (ex_loadI rfl rfl hfz.c1) ?_)
      | (go_at_call 120; (with_reducible refine HJZ.out.mono ?_); rintro e w6 ⟨D, d, rfl, hD, hx6, hDf⟩; have hpb6 := hpbz.ext hx6; have hpa6 := hpaz.ext hx6; have hx06 := hxz.trans hx6; have hc6 := (HPC.out _ _ _ hpb6).2.2)
      | ((with_reducible apply gS 85); refine wl_read rfl (.slice PA k pc) (ex_loadLL rfl rfl hc6) ?_)
      | ((with_reducible apply gS 87); refine wLit1 rfl 29 22 (.tmp 86) rfl (some 87) rfl Tryz.underlying29 1 sizeRow (by kernel_rfl) (.slice D (a * b) d) rfl rfl (by omega) (by omega) ?_; intro w7 g7 hb7 hx7 hg7; have hpa7 := hpa6.ext hx7; have hpb7 := hpb6.ext hx7; obtain ⟨vs, hov, -, hnext⟩ := hpa7.own; obtain ⟨vs0, hov0, -, -⟩ := hpaz.own)
      | ((with_reducible apply gS 88); refine wApf elt_rowS rfl (.tmp 85) (.tmp 87) rfl w4.heap.size (.slice PA k pc) k vs rfl hov _ 1 [.slice D (a * b) d] rfl (hb7.sl (size := 1) (n := 1) (c := 1) rfl (by omega) (by omega)) (by simp [Value.oneCell']) (by omega) (by omega) (by have := hx0.size; have := hx6.size; have := hx7.size; omega) ?_; intro A9 c9 w9 ho9 hg9 hr9; have hu9 := upd_grown hg9; have hpb9 := hu9.blk hpb7 (fun q => by have := (hov.lt _ q).1; omega))
      | ((with_reducible apply gT 89 88); refine wl_storeLL rfl (.tmp 89) (.tmp 88) rfl gp 2 A9 (k + 1) c9 rfl rfl hpb9 (by rw [HPSZ.out]; omega) ?_))
     have hD7 := hD.ext hx7
     have hw4s : w4.heap.size ≤ w0.heap.size := by have := hx0.size; omega
     have hpn9 := hnext A9 c9 w9 pl D d (by rw [hLk]; exact ho9) hg9 hr9 (by rw [hLk]; exact hD7) (fun ad e => by
      have h1 := hDf ad e
      subst e
      obtain ⟨_, _, e2, -, -, h5, h6⟩ := hD7
      obtain ⟨ad', e3, h7, -⟩ := h6 (Nat.mul_pos a1 b1)
      injection e2 with e2
      rw [← e2] at e3
      injection e3 with e3
      rw [← e3] at h7
      exact ⟨by omega, h7, fun q => by have := (hov0.lt _ q).2; omega⟩)
     have hU := (Upd.refl (fun x => x = gp) w9).setCell (p := ⟨gp, 2, none⟩) rfl (.slice A9 (k + 1) c9)
     have hpz := hpn9.upd hU (fun x e => by omega)
     have hpbz' := hpb9.set_ 2 (.slice A9 (k + 1) c9)
     rw [HPSET.out] at hpbz'
     have hbz' := hU.blk (hu9.blk ((hbz.ext hx6).ext hx7) (fun q => by have := (hov.lt _ q).1; omega)) (fun e => hgfp e)
     have hrz' := hU.blk (hu9.blk (((hr.ext hx0).ext hx6).ext hx7) (fun q => by have := (hov.lt _ q).1; omega)) (fun e => hgrp e)
     have hxz' := (Below.grown (hx06.trans hx7) hg9 (hx06.trans hx7).size (fun y hy => by have := (hov.lt y hy).1; omega)).setCell (p := ⟨gp, 2, none⟩) hgp0 (.slice A9 (k + 1) c9)
     have hsz' : w4.heap.size ≤ (w9.setCell ⟨gp, 2, none⟩ (.slice A9 (k + 1) c9)).heap.size := by
      have h1 := hu9.size; have h2 := hx6.size; have h3 := hx7.size; have h4 := hU.size; omega
     try simp only [Act.put]
     go_roundw
     case rel => exact ⟨k + 1, _, by omega, by go_num, by rw [hPS]; exact hpz, hpbz', hbz', hrz', hxz', hsz'⟩
     case measure => simp [intOf]; omega
  ·obtain rfl : k = p := by omega
   obtain ⟨PA, pc, rfl⟩ := hpa.form
   have hkl := HPL.out k
   rw [hkl] at hpb hpa
   have hcz := (HPC.out _ _ _ hpb).2.2
   have HTZ := hid_ (HT.out wr w4.heap.size hsz4 PA k pc hpa)
   go_wp2_with (first
    | ((with_reducible apply gS 92); refine wl_read rfl (.slice PA k pc) (ex_loadLL rfl rfl hcz) ?_)
    | (go_at_call 68; (with_reducible refine HTZ.out.mono ?_); rintro e w6 ⟨TB, tk, td, rfl, hrows, hx6⟩; have hpb6 := hpb.ext hx6; have hr6 := hr.ext hx6)
    | ((with_reducible apply gT 94 93); refine wl_storeLL rfl (.tmp 94) (.tmp 93) rfl gp 2 TB tk td rfl rfl hpb6 (by rw [HPSZ.out]; omega) ?_; have hU := (Upd.refl (fun x => x = gp) w6).setCell (p := ⟨gp, 2, none⟩) rfl (.slice TB tk td); have hpbz := hpb6.set_ 2 (.slice TB tk td); rw [HPSET.out] at hpbz; have hrz := hU.blk hr6 (fun e => hgrp e); have hrows7 := hrows.upd hU (fun x e => by omega); have hx7 := (hx.trans hx6).setCell (p := ⟨gp, 2, none⟩) hgp0 (.slice TB tk td); generalize w6.setCell ⟨gp, 2, none⟩ (.slice TB tk td) = w7 at *)
    | ((with_reducible apply gS 95); refine wLdB rfl 31 (.tmp 5) rfl gp rfl hpbz _ Tryz.underlying31 rfl 3 sizePic (HPSZ.out _) ?_)
    | ((with_reducible apply gT 4 95); refine wStB rfl 31 (.tmp 4) (.tmp 95) rfl gr (pic (.slice TB tk td)) rfl rfl hrz 3 sizePic (HPSZ.out _) hz0s.out (HP1.out _ _ _) ?_; intro w8 hb8 hg8; have hrows8 := hrows7.upd (upd_grown hg8) (fun x e => by injection e with e; omega); have hx8 := hx7.grown hg8 hgr0))
   exact ret_cell rfl rfl gr rfl hb8 _ Tryz.underlying31 rfl 3 sizePic (HPSZ.out _) (HRET.out _ _ _ _ (hrows8.mono (by omega)) hx8)
end
def digs (n : Nat) : Nat → List Bool
 | 0 => []
 | k + 1 => (n / 2 ^ k % 2 == 1) :: digs n k
def numB : List Bool → Nat
 | [] => 0
 | b :: l => b.toNat * 2 ^ l.length + numB l
theorem digs_len (n k : Nat) : (digs n k).length = k := by
 induction k with
 | zero => rfl
 | succ k ih => simp [digs, ih]
theorem numB_lt (l : List Bool) : numB l < 2 ^ l.length := by
 induction l with
 | nil => simp [numB]
 | cons b l ih =>
   simp only [numB, List.length_cons, Nat.pow_succ]
   cases b <;> simp <;> omega
theorem numB_append (a b : List Bool) : numB (a ++ b) = numB a * 2 ^ b.length + numB b := by
 induction a with
 | nil => simp [numB]
 | cons x a ih =>
   simp only [List.cons_append, numB, List.length_append, ih, Nat.pow_add, Nat.add_mul, Nat.mul_assoc]
   omega
theorem numB_digs (n k : Nat) : numB (digs n k) = n % 2 ^ k := by
 induction k with
 | zero => simp [digs, numB, Nat.mod_one]
 | succ k ih =>
   simp only [digs, numB, digs_len, ih]
   have e : (n / 2 ^ k % 2 == 1).toNat = n / 2 ^ k % 2 := by
    rcases (show n / 2 ^ k % 2 = 0 ∨ n / 2 ^ k % 2 = 1 by omega) with h | h <;> simp [h]
   rw [e, Nat.pow_succ, Nat.mod_mul, Nat.mul_comm]
   omega
theorem numB_digs_lt {n k : Nat} (h : n < 2 ^ k) : numB (digs n k) = n := by rw [numB_digs, Nat.mod_eq_of_lt h]
theorem numB_inj {a b : List Bool} (hl : a.length = b.length) (h : numB a = numB b) : a = b := by
 induction a generalizing b with
 | nil => cases b with | nil => rfl | cons _ _ => simp at hl
 | cons x a ih =>
   cases b with
   | nil => simp at hl
   | cons y b =>
     have hl' : a.length = b.length := by simpa using hl
     simp only [numB, hl'] at h
     have h1 := numB_lt a
     have h2 := numB_lt b
     rw [hl'] at h1
     have hxy : x = y := by
      cases x <;> cases y <;> simp at h ⊢ <;> omega
     subst hxy
     rw [ih hl' (by omega)]
theorem numB_snoc (l : List Bool) (b : Bool) : numB (l ++ [b]) = 2 * numB l + b.toNat := by
 rw [numB_append]; simp [numB]; omega
def packB (l : List Bool) : List Nat := (List.range (l.length / 8)).map fun i => numB ((l.drop (8 * i)).take 8)
def padB (l : List Bool) : List Bool := l ++ List.replicate ((8 - l.length % 8) % 8) true
theorem numB_ones (k : Nat) : numB (List.replicate k true) = 2 ^ k - 1 := by
 induction k with
 | zero => rfl
 | succ k ih =>
   rw [List.replicate_succ, numB, ih, Nat.pow_succ]
   have := Nat.two_pow_pos k
   simp
   omega
def digsOf (b : List Nat) : List Bool := b.flatMap fun x => digs x 8
theorem digsOf_len (b : List Nat) : (digsOf b).length = 8 * b.length := by
 induction b with
 | nil => rfl
 | cons x b ih => simp only [digsOf, List.flatMap_cons, List.length_append, digs_len, List.length_cons] at ih ⊢; omega
theorem digsOf_at (b : List Nat) (i : Nat) (h2 : i < b.length) : ((digsOf b).drop (8 * i)).take 8 = digs b[i] 8 := by
 induction b generalizing i with
 | nil => simp at h2
 | cons x b ih =>
   have e : digsOf (x :: b) = digs x 8 ++ digsOf b := rfl
   rw [e]
   cases i with
   | zero => simp [digs_len]
   | succ i =>
     rw [List.drop_append, List.drop_of_length_le (by rw [digs_len]; omega), digs_len, List.nil_append, show 8 * (i + 1) - 8 = 8 * i by omega]
     have h3 : i < b.length := by simpa using h2
     rw [ih i h3]
     simp
theorem digsOf_append (a b : List Nat) : digsOf (a ++ b) = digsOf a ++ digsOf b := by simp [digsOf]
def chB (b : Bool) : UInt8 := if b then 49 else 48
def strB (l : List Bool) : ByteArray := ⟨(l.map chB).toArray⟩
theorem strB_data (l : List Bool) : (strB l).data.toList = l.map chB := by simp [strB]
theorem strB_size (l : List Bool) : (strB l).size = l.length := by simp [strB, ByteArray.size]
theorem strB_append (a b : List Bool) : strB (a ++ b) = strB a ++ strB b := by
 apply ByteArray.ext
 simp [strB, ByteArray.data_append]
theorem chB_nat (b : Bool) : (chB b).toNat = 48 + b.toNat := by cases b <;> rfl
theorem strB_get (l : List Bool) (k : Nat) (h : k < (strB l).size) (h2 : k < l.length) : ((strB l)[k]'h).toNat = 48 + l[k].toNat := by
 rw [← chB_nat]
 simp [strB, ByteArray.getElem_eq_getElem_data]
theorem chB_inj {a b : Bool} (h : chB a = chB b) : a = b := by cases a <;> cases b <;> first | rfl | (exfalso; revert h; decide)
theorem strB_inj {a b : List Bool} (h : strB a = strB b) : a = b := by
 have := congrArg (fun x => x.data.toList) h
 simp only [strB_data] at this
 exact List.map_inj_right (fun _ _ => chB_inj) |>.1 this
theorem encode_digit (d : Nat) (h : d % 2 = d) : Utf8.encode (48 + (d : Int)) = strB [d == 1] := by
 rcases (show d = 0 ∨ d = 1 by omega) with rfl | rfl <;> rfl
theorem binS_strB (n k : Nat) : binS n k = strB (digs n k) := by
 induction k with
 | zero => rfl
 | succ k ih =>
   show Utf8.encode (48 + (((n / 2 ^ k) % 2 : Nat) : Int)) ++ binS n k = _
   rw [encode_digit _ (by omega), ih, ← strB_append]
   rfl
theorem strB_extract (l : List Bool) (i j : Nat) (hi : i ≤ j) : (strB l).extract i j = strB ((l.drop i).take (j - i)) := by
 apply ByteArray.ext
 apply Array.ext'
 simp [strB, ByteArray.data_extract, List.map_take, List.map_drop]
theorem numB_take_succ (l : List Bool) (k : Nat) (h : k < l.length) : numB (l.take (k + 1)) = 2 * numB (l.take k) + l[k].toNat := by
 rw [List.take_succ_eq_append_getElem h, numB_snoc]
theorem numB_le (l : List Bool) (n : Nat) (h : l.length ≤ n) : numB l < 2 ^ n := by
 have h1 := numB_lt l
 have := Nat.pow_le_pow_right (n := 2) (by omega) h
 omega
set_option maxHeartbeats 400000 in
theorem fromBin_any (l : List Bool) (w : World) (hl : l.length ≤ 60) :
 Calls Tryz.prog 174 #[.string (strB l)] w fun e w' => e = .returned (.int .i64 (numB l : Nat)) ∧ Ext w w' := by
 have hsz := strB_size l
 have HG := hid_ (strB_get l)
 have HT := hid_ (numB_take_succ l)
 have HB : Hid (∀ k, numB (l.take k) < 2 ^ 60) := hid_ (fun k => numB_le _ 60 (Nat.le_trans (List.length_take_le' _ _) hl))
 generalize strB l = s at *
 have hszs := hid_ hsz
 go_enter Tryz.func174, Tryz.ntmps174
 go_wp2_with fail
 clear hsz
 go_loopw [3] (fun n w' => ∃ pos : Nat, pos ≤ l.length ∧ w' = w.iter s pos ∧ n = .int .i64 (numB (l.take pos) : Nat)) (fun _ w' => s.size - w'.iterPos w.heap.size)
 case atStart => exact ⟨0, by omega, rfl, by simp [numB]⟩
 case round =>
  obtain ⟨pos, hpos, rfl, rfl⟩ := hrel
  by_cases hp : pos < l.length
  ·have hp2 : pos < s.size := by have := hszs.out; omega
   have hd := HG.out pos hp2 hp
   have hb1 : l[pos].toNat ≤ 1 := by cases l[pos] <;> simp
   have ha : (s[pos]'hp2).toNat < 128 := by omega
   have hnx : ∀ ty, (Instr.next (.pointer (some ⟨w.heap.size, 0, none⟩)) true ty).run Tryz.prog (w.iter s pos) = _ := fun ty => run_next_ascii w s pos ty hp2 ha
   have HTP := hid_ (HT.out pos hp)
   have hlt := HB.out pos
   generalize l[pos].toNat = d at *
   rw [hd] at hnx
   clear hd ha
   generalize hN : numB (l.take pos) = N at *
   have hN2 : N < 1152921504606846976 := by simpa using hlt
   clear hlt hN
   go_wp2_with fail
   go_roundw
   case rel => exact ⟨pos + 1, by omega, rfl, by rw [HTP.out]; congr 1; omega⟩
   case measure =>
    have := hszs.out
    simp
    omega
  ·have hp2 : ¬ pos < s.size := by have := hszs.out; omega
   have hnx : ∀ ty, (Instr.next (.pointer (some ⟨w.heap.size, 0, none⟩)) true ty).run Tryz.prog (w.iter s pos) = _ := fun ty => run_next_end w s pos ty hp2
   have HF : Hid (l.take pos = l) := hid_ (List.take_of_length_le (by omega))
   go_wp2_with fail
   go_ret
   exact ⟨by rw [HF.out]; rfl, (Ext.refl w).alloc _⟩
section
open Go.RowKit Go.ChangeShapes Go.WideShapes Go.ChangeAt
def inI64 (z : Int) : Prop := -9223372036854775808 ≤ z ∧ z ≤ 9223372036854775807
theorem inI64_of_wf {z : Int} (h : (Lit.int .i64 z).wf = true) : inI64 z := by
 simp [Lit.wf, IntKind.min, IntKind.max, IntKind.signed, IntKind.bits] at h
 exact ⟨by omega, by omega⟩
theorem ints_of_cells {Q : Int → Prop} : ∀ (cs : List Value), (∀ i, i < cs.length → ∃ z, cs[i]? = some (.int .i64 z) ∧ Q z) → ∃ zs : List Int, cs = ints zs ∧ ∀ z ∈ zs, Q z
 | [], _ => ⟨[], rfl, by simp⟩
 | c :: cs, h => by
   obtain ⟨z, hz, hq⟩ := h 0 (by simp)
   obtain ⟨zs, rfl, hqs⟩ := ints_of_cells cs (fun i hi => by have := h (i + 1) (by simpa using hi); simpa using this)
   refine ⟨z :: zs, ?_, ?_⟩
   ·simp at hz; subst hz; rfl
   ·intro y hy
    cases hy with
    | head => exact hq
    | tail _ hy => exact hqs y hy
section
variable {H : Type} {enc : TypeId × Value → H} {P : Program} {w : World} {base : Nat} {spare : Nat → Bool} {held : Bool}
theorem trod_int_cell {t : TypeId} {fuel : Nat} {cs : List Value} {x : DataW H × List MemPlace} (ht : P.underlying t = some (.int .i64)) (h : DataW.trod enc P w base spare held fuel t cs = some x) :
 ∃ z, cs = [.int .i64 z] ∧ inI64 z := by
 obtain ⟨z, e, -, hw⟩ := DataW.trod_int ht h
 exact ⟨z, e, inI64_of_wf hw⟩
theorem trod_ints_arr {n : Nat} {t e : TypeId} {fuel : Nat} {cs : List Value} {x : DataW H × List MemPlace} (ht : P.underlying t = some (.array n e)) (he : P.underlying e = some (.int .i64)) (hce : P.cellsOf e = 1) (hct : P.cellsOf t = n)
 (h : DataW.trod enc P w base spare held fuel t cs = some x) : ∃ zs : List Int, zs.length = n ∧ cs = ints zs ∧ ∀ z ∈ zs, inI64 z := by
 obtain ⟨xs, m, -, -, hlen, hxl, hi⟩ := DataW.trod_array ht h
 rw [hct] at hlen
 have hcells : ∀ i, i < cs.length → ∃ z, cs[i]? = some (.int .i64 z) ∧ inI64 z := by
  intro i hlt
  have h1 := hi i (by omega)
  rw [hce, Nat.mul_one] at h1
  have hx : xs[i]? = some (xs[i]'(by omega)) := List.getElem?_eq_getElem (by omega)
  rw [hx] at h1
  obtain ⟨z, hz, hq⟩ := trod_int_cell he h1
  refine ⟨z, ?_, hq⟩
  rw [List.drop_eq_getElem_cons hlt] at hz
  simp only [List.take_succ_cons, List.take_zero, List.cons.injEq, and_true] at hz
  rw [List.getElem?_eq_getElem hlt, hz]
 obtain ⟨zs, rfl, hq⟩ := ints_of_cells cs hcells
 exact ⟨zs, by simpa [ints_len] using hlen, rfl, hq⟩
theorem cells64 : Tryz.prog.cellsOf 33 = 64 := by kernel_rfl
theorem cellsInt : Tryz.prog.cellsOf 3 = 1 := by kernel_rfl
end
end
section
open Go.RowKit Go.ChangeShapes Go.WideShapes Go.ChangeAt
section
variable {H : Type} {enc : TypeId × Value → H} {w : World} {base : Nat} {spare : Nat → Bool} {held : Bool}
theorem open_intsX {fuel : Nat} {cs : List Value} {x : DataW H × List MemPlace} (h : DataW.trod enc Tryz.prog w base spare held fuel 22 cs = some x) :
 ∃ (zs : List Int) (v : Value), cs = [v] ∧ SL w 1 v zs.length (ints zs) ∧ ∀ z ∈ zs, inI64 z := by
 rcases open_ints Tryz.underlying22 Tryz.underlying3 cellsInt h with ⟨rfl, -⟩ | ⟨a, len, cap, zs, rfl, -, hlc, hcm, hzl, -, hcell, hwf⟩
 ·exact ⟨[], _, rfl, SL.nil w 1, by simp⟩
 ·have hlen : len ≤ zs.length := by rw [hzl]; split <;> omega
  refine ⟨zs.take len, _, rfl, ?_, fun z hz => inI64_of_wf (hwf z (List.mem_of_mem_take hz))⟩
  have hl : (zs.take len).length = len := by rw [List.length_take]; omega
  rw [hl]
  refine ⟨some a, cap, rfl, hlc, by unfold maxLen at hcm; omega, by rw [ints_len, hl]; omega, fun h0 => ⟨a, rfl, ?_, fun j u hu => ?_⟩⟩
  ·have := hcell 0 (by omega)
   have h2 := World.block_lt_of_cell? w _ this
   rwa [block_of_add] at h2
  ·obtain ⟨hj, rfl⟩ := ints_at _ _ _ hu
   have hj2 : j < len := by omega
   rw [hcell j (by omega)]
   simp [List.getD_eq_getElem?_getD, show j < zs.length by omega]
theorem cells16 : Tryz.prog.cellsOf 40 = 16 := by kernel_rfl
theorem cellsSl : Tryz.prog.cellsOf 22 = 1 := by kernel_rfl
theorem cellsTbl : Tryz.prog.cellsOf 42 = 17 := by kernel_rfl
end
end
section
open Go.RowKit Go.ChangeShapes Go.WideShapes Go.ChangeAt
section
variable {H : Type} {enc : TypeId × Value → H} {w : World} {base : Nat} {spare : Nat → Bool} {held : Bool}
theorem bytes_of (zs : List Int) (h : ∀ n ∈ zs, (Lit.int .u8 n).wf = true) : ∃ bs : List Nat, zs.map (Value.int .u8) = bytesV bs ∧ ∀ b ∈ bs, b < 256 := by
 refine ⟨zs.map Int.toNat, ?_, ?_⟩
 ·unfold bytesV
  rw [List.map_map]
  apply List.map_congr_left
  intro z hz
  have := h z hz
  simp [Lit.wf, IntKind.min, IntKind.max, IntKind.signed, IntKind.bits] at this
  simp; omega
 ·intro b hb
  obtain ⟨z, hz, rfl⟩ := List.mem_map.1 hb
  have := h z hz
  simp [Lit.wf, IntKind.min, IntKind.max, IntKind.signed, IntKind.bits] at this
  omega
end
end
theorem digs_get (n : Nat) : ∀ (k j : Nat) (h : j < (digs n k).length), ((digs n k)[j]).toNat = n / 2 ^ (k - 1 - j) % 2
 | 0, j, h => by simp [digs] at h
 | k + 1, 0, _ => by
   simp only [digs, List.getElem_cons_zero, Nat.add_sub_cancel, Nat.sub_zero]
   rcases (show n / 2 ^ k % 2 = 0 ∨ n / 2 ^ k % 2 = 1 by omega) with h | h <;> simp [h]
 | k + 1, j + 1, h => by
   have := digs_get n k j (by simpa [digs] using h)
   simp only [digs, List.getElem_cons_succ]
   rw [this]
   congr 3
   omega
theorem digsOf_get (b : List Nat) (p : Nat) (h : p < (digsOf b).length) (h2 : p / 8 < b.length) : ((digsOf b)[p]).toNat = b[p / 8] / 2 ^ (7 - p % 8) % 2 := by
 have e := digsOf_at b (p / 8) h2
 have hl : p % 8 < (digs b[p / 8] 8).length := by rw [digs_len]; omega
 have e2 : (digsOf b)[p] = (digs b[p / 8] 8)[p % 8] := by
  have h3 : (((digsOf b).drop (8 * (p / 8))).take 8)[p % 8]? = (digsOf b)[p]? := by
   rw [List.getElem?_take_of_lt (by omega), List.getElem?_drop]
   congr 1
   omega
  rw [e, List.getElem?_eq_getElem hl, List.getElem?_eq_getElem h] at h3
  exact (Option.some.inj h3).symm
 rw [e2, digs_get]
theorem numB_next (b : List Nat) (at' i : Nat) (h : at' + i < (digsOf b).length) (h2 : (at' + i) / 8 < b.length) :
 numB (((digsOf b).drop at').take (i + 1)) = 2 * numB (((digsOf b).drop at').take i) + b[(at' + i) / 8] / 2 ^ (7 - (at' + i) % 8) % 2 := by
 rw [numB_take_succ _ _ (by simp; omega)]
 congr 1
 rw [← digsOf_get b (at' + i) h h2]
 congr 1
 simp
theorem numB_take_lt (l : List Bool) (i k : Nat) (h : i ≤ k) : numB (l.take i) < 2 ^ k := numB_le _ _ (by rw [List.length_take]; omega)
section
variable {o : Oper} {a : Act} {P : Program}
theorem ex_nil {x : Operand} (ho : o.op = .nilCheck x) {p : Addr} (hx : a.eval x = .pointer (some p)) (w : World) : (execOp a.eval o).run P w = .ok (.value (.pointer (some p))) w := by
 simp [execOp, ho, hx]
theorem ex_binK {op : BinOp} {t : TypeId} {x y : Operand} {t2 : TypeId} (ho : o.op = .binOp op t x y t2) {k k' : IntKind} {m n : Int} (hx : a.eval x = .int k m) (hy : a.eval y = .int k' n) {v : Value}
 (hr : ∀ w, (binOp op t (.int k m) (.int k' n)).run P w = .ok v w) (w : World) : (execOp a.eval o).run P w = .ok (.value v) w := by
 simp [execOp, ho, hx, hy, guardG, hr]
end
theorem run_shl_one (m : Nat) (h : m < 1099511627776) (W : World) : (binOp .shl 3 (.int .i64 (m : Int)) (.int .u64 1)).run Tryz.prog W = .ok (.int .i64 ((2 * m : Nat) : Int)) W := by
 have e : IntKind.i64.wrap ((m : Int) * 2 ^ (min 1 IntKind.i64.bits)) = ((2 * m : Nat) : Int) := by
  rw [show min 1 IntKind.i64.bits = 1 by decide, IntWalk.i64_in _ (by omega)]; omega
 have e3 : (2 * (m : Int)) = ((2 * m : Nat) : Int) := by omega
 simp [binOp, Op.shift, e]
theorem run_shr8 (x s : Nat) (hx : x < 256) (hs : s < 8) (W : World) : (binOp .shr 5 (.int .u8 (x : Int)) (.int .i64 (s : Int))).run Tryz.prog W = .ok (.int .u8 ((x / 2 ^ s : Nat) : Int)) W := by
 have e2 : ¬ ((s : Int) < 0) := by omega
 have hs' : s = 0 ∨ s = 1 ∨ s = 2 ∨ s = 3 ∨ s = 4 ∨ s = 5 ∨ s = 6 ∨ s = 7 := by omega
 rcases hs' with rfl | rfl | rfl | rfl | rfl | rfl | rfl | rfl <;> simp [binOp, Op.shift]
theorem run_and8 (y : Nat) (h : y < 256) (W : World) : (binOp .and 5 (.int .u8 (y : Int)) (.int .u8 1)).run Tryz.prog W = .ok (.int .u8 ((y % 2 : Nat) : Int)) W := by
 have e : bits .and .u8 (y : Int) 1 = ((y % 2 : Nat) : Int) := by
  have : ∀ y : Fin 256, bits .and .u8 ((y.val : Nat) : Int) 1 = ((y.val % 2 : Nat) : Int) := by decide +kernel
  exact this ⟨y, h⟩
 simp [binOp, intBits_and, e]
theorem run_or2 (m b : Nat) (h : m < 1099511627776) (hb : b < 2) (W : World) : (binOp .or 3 (.int .i64 ((2 * m : Nat) : Int)) (.int .i64 (b : Int))).run Tryz.prog W = .ok (.int .i64 ((2 * m + b : Nat) : Int)) W := by
 have e : bits .or .i64 ((2 * m : Nat) : Int) (b : Int) = ((2 * m + b : Nat) : Int) := by
  have hx : 2 * m ||| b = 2 * m + b := nat_join1 _ _ (by omega) hb
  show IntKind.i64.wrap ((BitVec.ofInt 64 ((2 * m : Nat) : Int) ||| BitVec.ofInt 64 (b : Int)).toNat : Int) = _
  rw [BitVec.toNat_or, BitVec.ofInt_natCast, BitVec.ofInt_natCast, BitVec.toNat_ofNat, BitVec.toNat_ofNat, Nat.mod_eq_of_lt (by omega), Nat.mod_eq_of_lt (by omega), hx]
  exact IntWalk.i64_in _ (by omega)
 have e2 : binOp .or 3 (.int .i64 ((2 * m : Nat) : Int)) (.int .i64 (b : Int)) = pure (.int .i64 (bits .or .i64 ((2 * m : Nat) : Int) (b : Int))) := by rw [binOp_or, intBits_or]
 rw [e2, e]
 rfl
theorem sizeU8' : (Tryz.prog.info? 5).map (·.size) = some 1 := by kernel_rfl
abbrev Tok := Int × Int × Int
def tokv (t : Tok) : List Value := [.int .i64 t.1, .int .i64 t.2.1, .int .i64 t.2.2]
def toks (T : List Tok) : List Value := T.flatMap tokv
theorem toks_at (T : List Tok) (k : Nat) (h : k < T.length) :
 (toks T)[k * 3]? = some (.int .i64 T[k].1) ∧ (toks T)[k * 3 + 1]? = some (.int .i64 T[k].2.1) ∧ (toks T)[k * 3 + 2]? = some (.int .i64 T[k].2.2) := by
 induction T generalizing k with
 | nil => simp at h
 | cons t T ih =>
   have e : toks (t :: T) = tokv t ++ toks T := by simp [toks]
   rw [e]
   cases k with
   | zero => simp [tokv]
   | succ k =>
     have h2 : k < T.length := by simpa using h
     obtain ⟨a, b, c⟩ := ih k h2
     refine ⟨?_, ?_, ?_⟩
     ·rw [List.getElem?_append_right (by simp [tokv]; omega), show (k + 1) * 3 - (tokv t).length = k * 3 by simp [tokv]; omega, a]; simp
     ·rw [List.getElem?_append_right (by simp [tokv]; omega), show (k + 1) * 3 + 1 - (tokv t).length = k * 3 + 1 by simp [tokv]; omega, b]; simp
     ·rw [List.getElem?_append_right (by simp [tokv]; omega), show (k + 1) * 3 + 2 - (tokv t).length = k * 3 + 2 by simp [tokv]; omega, c]; simp
theorem addr_next (ad : Addr) (i j : Nat) (hj : 0 < j) : (⟨(ad.add i).block, (ad.add i).off + j, none⟩ : Addr) = ad.add (i + j) := by
 unfold Addr.add
 rw [if_neg (show ¬ i + j = 0 by omega)]
 split
 ·next h => subst h; simp
 ·simp; omega
theorem SL.tok {w : World} {A : Option Addr} {n c : Nat} {T : List Tok} {k : Nat} (h : SL w 3 (.slice A n c) n (toks T)) (hk : k < n) (hn : T.length = n) (hkl : k < T.length) :
 ∃ ad, A = some ad ∧ ad.block < w.heap.size ∧ w.cell? (ad.add (k * 3)) = some (.int .i64 T[k].1) ∧ w.cell? ⟨(ad.add (k * 3)).block, (ad.add (k * 3)).off + 1, none⟩ = some (.int .i64 T[k].2.1) ∧ w.cell? ⟨(ad.add (k * 3)).block, (ad.add (k * 3)).off + 2, none⟩ = some (.int .i64 T[k].2.2) := by
 obtain ⟨A', c', e, _, _, h2, h3⟩ := h
 injection e with e1 e2 e3
 subst e1
 obtain ⟨ad, ea, hb, hc⟩ := h3 (by omega)
 obtain ⟨a, b, d⟩ := toks_at T k hkl
 exact ⟨ad, ea, hb, hc _ _ a, by rw [addr_next _ _ 1 (by omega)]; exact hc _ _ b, by rw [addr_next _ _ 2 (by omega)]; exact hc _ _ d⟩
theorem elt_word : Elt Tryz.prog 88 94 3 24 := ⟨Tryz.underlying88, by kernel_rfl, by omega⟩
theorem one_sl3' (w : World) (T : TypeId) (a b c : Value) : SL (w.alloc (.cells #[a, b, c] T)) 3 (.slice (some ⟨w.heap.size, 0, none⟩) 1 1) 1 [a, b, c] := by
 have := (Blk.new w T #[a, b, c]).sl (size := 3) (n := 1) (c := 1) rfl (by omega) (by omega)
 simpa using this
theorem int3_one (a b c : Int) : ∀ u ∈ [Value.int .i64 a, .int .i64 b, .int .i64 c], u.oneCell' = true := by
 intro u hu
 simp at hu
 rcases hu with rfl | rfl | rfl <;> rfl
theorem own_tok3 {w : World} {base : Nat} {e : TypeId} {v : Value} {T : List Tok} {a b c : Int} (h : w.ownsRow base e 3 v (T.length + 1) (toks T ++ [.int .i64 a, .int .i64 b, .int .i64 c])) : w.ownsRow base e 3 v (T ++ [(a, b, c)]).length (toks (T ++ [(a, b, c)])) := by
 simpa [toks, tokv] using h
def rowC (cs : List Int) (k j : Nat) : List (Nat × Nat) := (List.range j).map fun i => (k + 1, 2 * nextW cs k + i)
def codesW (cs : List Int) : Nat → List (Nat × Nat)
 | 0 => []
 | k + 1 => codesW cs k ++ rowC cs k (cs.getD k 0).toNat
theorem rowC_succ (cs : List Int) (k j : Nat) : rowC cs k (j + 1) = rowC cs k j ++ [(k + 1, 2 * nextW cs k + j)] := by
 unfold rowC
 rw [List.range_succ, List.map_append]
 rfl
theorem rowC_len (cs : List Int) (k j : Nat) : (rowC cs k j).length = j := by simp [rowC]
theorem codesW_step (cs : List Int) (k n : Nat) (hk : k < cs.length) (h : cs[k] = (n : Int)) : codesW cs (k + 1) = codesW cs k ++ rowC cs k n := by
 show codesW cs k ++ rowC cs k (cs.getD k 0).toNat = _
 simp [hk, h]
theorem codesW_len (cs : List Int) (h : ∀ z ∈ cs, 0 ≤ z) : ∀ k, k ≤ cs.length → ((codesW cs k).length : Int) = sumL cs k := by
 intro k
 induction k with
 | zero => intro _; simp [codesW, sumL]
 | succ k ih =>
   intro hk
   have h0 := h _ (List.getElem_mem (show k < cs.length by omega))
   rw [codesW_step cs k cs[k].toNat (by omega) (by omega), List.length_append, rowC_len, sumL_succ cs k (by omega), ← ih (by omega)]
   omega
theorem codesW_mono (cs : List Int) (j k : Nat) (h : j ≤ k) : (codesW cs j).length ≤ (codesW cs k).length := by
 induction k with
 | zero => obtain rfl : j = 0 := by omega
           exact Nat.le_refl _
 | succ k ih =>
   rcases Nat.lt_or_ge k j with h2 | h2
   ·obtain rfl : j = k + 1 := by omega
    exact Nat.le_refl _
   ·have := ih h2
    show _ ≤ (codesW cs k ++ _).length
    rw [List.length_append]
    omega
theorem outW_codes (cs : List Int) (k : Nat) : outW cs k = (codesW cs k).map fun p => binS p.2 p.1 := by
 induction k with
 | zero => rfl
 | succ k ih =>
   show outW cs k ++ rowW cs k _ = _
   rw [ih]
   simp [codesW, rowC, rowW, Function.comp_def]
def zipC (l : List (Nat × Nat)) (xs : List Int) : List Tok := List.zipWith (fun p x => ((x, (p.1 : Int), (p.2 : Int)) : Tok)) l xs
theorem zipC_len (l : List (Nat × Nat)) (xs : List Int) (h : l.length ≤ xs.length) : (zipC l xs).length = l.length := by simp [zipC]; omega
theorem zipC_snoc (l : List (Nat × Nat)) (p : Nat × Nat) (xs : List Int) (h : l.length < xs.length) : zipC (l ++ [p]) xs = zipC l xs ++ [(xs[l.length], (p.1 : Int), (p.2 : Int))] := by
 induction l generalizing xs with
 | nil =>
   cases xs with
   | nil => simp at h
   | cons x xs => simp [zipC]
 | cons q l ih =>
   cases xs with
   | nil => simp at h
   | cons x xs =>
     have h' : l.length < xs.length := by simpa using h
     have := ih xs h'
     simp only [zipC, List.cons_append, List.zipWith_cons_cons] at this ⊢
     rw [this]
     simp
theorem codesW_fit (cs : List Int) (hok : okW cs = true) (hl : cs.length = 16) : ∀ k, k ≤ 16 → ∀ p ∈ codesW cs k, 1 ≤ p.1 ∧ p.1 ≤ k ∧ p.2 + 1 < 2 ^ p.1 + 1 := by
 intro k
 induction k with
 | zero => intro _ p hp; simp [codesW] at hp
 | succ k ih =>
   intro hk p hp
   rcases List.mem_append.1 (show p ∈ codesW cs k ++ rowC cs k (cs.getD k 0).toNat from hp) with h | h
   ·have := ih (by omega) p h
    omega
   ·simp only [rowC, List.mem_map, List.mem_range] at h
    obtain ⟨i, hi, rfl⟩ := h
    have h1 := List.all_eq_true.1 hok k (List.mem_range.2 (by omega))
    simp only [decide_eq_true_eq] at h1
    have h2 : nextW cs (k + 1) = 2 * nextW cs k + (cs.getD k 0).toNat := rfl
    refine ⟨by simp, by simp, ?_⟩
    simp only
    omega
theorem codesW_zero (cs : List Int) : codesW cs 0 = [] := rfl
theorem codesW_succ (cs : List Int) (k : Nat) : codesW cs (k + 1) = codesW cs k ++ rowC cs k (cs.getD k 0).toNat := rfl
attribute [irreducible] codesW
set_option maxRecDepth 20000 in
set_option maxHeartbeats 1000000 in
theorem words_any (cs xs : List Int) (sl : Value) (w : World) (hl : cs.length = 16) (hs : SL w 1 sl xs.length (ints xs)) (hal : allIn cs 0 256 = true) (hok : okW cs = true) (hsum : sumL cs 16 = xs.length) (hx256 : xs.length ≤ 256) :
 Calls Tryz.prog 106 #[.agg (tblv cs sl)] w fun e w' => ∃ A c, e = .returned (.slice A xs.length c) ∧ SL w' 3 (.slice A xs.length c) xs.length (toks (zipC (codesW cs 16) xs)) ∧ (∀ ad, A = some ad → w.heap.size ≤ ad.block) ∧ Ext w w' := by
 have hlast := hid_ (fun W g (h : Blk W g 42 (tblv cs sl)) => tblv_last h hl)
 have HRG := hid_ (fun W g (h : Blk W g 42 (tblv cs sl)) => tblv_range h)
 have hcl := hid_ ((ints_len cs).trans hl)
 have HIX := hid_ (fun k (hk : k < cs.length) (h16 : k < 16) => fun W => run_index16 (ints cs).toArray k (.int .i64 cs[k]) h16 (bv_at cs k hk) W)
 have HAL := hid_ (allIn_iff.1 hal)
 have HL := hid_ hl
 have HLEN : Hid ((codesW cs 16).length = xs.length) := hid_ (by have := codesW_len cs (fun z hz => (HAL.out z hz).1) 16 (by omega); omega)
 have HOKS := hid_ (fun k (hk : k < 16) => by simpa using List.all_eq_true.1 hok k (List.mem_range.2 hk))
 have hs' := hs
 obtain ⟨A, c, rfl, hc1, hc2, -, -⟩ := hs'
 generalize tblv cs (.slice A xs.length c) = tv at *
 clear hal hok hsum
 go_enter Tryz.func106, Tryz.ntmps106
 go_wp2_with (first
  | (refine wBox rfl 42 (.tmp 0) rfl tv rfl ?_; intro w1 g hb1 hx1 hg)
  | (refine wpList_load_mid rfl 40 (.tmp 7) rfl g 0 rfl (ints cs) _ (HRG.out _ _ hb1) Tryz.underlying40 rfl (by rw [hcl.out]; exact size16) ?_))
 have hs1 := hs.ext hx1
 have hgw := hb1.lt
 have hsz1 := hx1.size
 go_loopw [3, 4, 9] (fun v nx i wr => ∃ k : Nat, k ≤ 16 ∧ i = .int .i64 (k : Int) ∧ nx = .int .i64 (nextW cs k : Nat) ∧ nextW cs k + 1 ≤ 2 ^ k ∧ OwnV wr w1.heap.size 94 3 v (codesW cs k).length (toks (zipC (codesW cs k) xs)) ∧ Ext w1 wr) (fun _ _ i _ => 16 - (intOf i).toNat)
 case atStart => exact ⟨0, by omega, rfl, rfl, by simp [nextW], by rw [codesW_zero]; exact OwnV.nil _ _ _ _, Ext.refl _⟩
 case round =>
  obtain ⟨k, hk, rfl, rfl, hnx, ⟨B0, d0, rfl, hown⟩, hx⟩ := hrel
  by_cases hlt : k < 16
  ·have hsd : decide ((k : Int) < 16) = true := by simp; omega
   have hkl : k < cs.length := by have := HL.out; omega
   have hix := HIX.out k hkl hlt
   obtain ⟨q1, q2⟩ := HAL.out _ (List.getElem_mem hkl)
   obtain ⟨n, hn⟩ : ∃ n : Nat, cs[k] = (n : Int) := ⟨cs[k].toNat, by omega⟩
   have HNW := hid_ (nextW_succ cs k n hkl hn)
   have HCW := hid_ (codesW_step cs k n hkl hn)
   have HOK := hid_ (HOKS.out k hlt)
   have HMO := hid_ (codesW_mono cs (k + 1) 16 (by omega))
   rw [hn] at hix q1 q2
   have hp : (2 : Nat) ^ k ≤ 65536 := by have := Nat.pow_le_pow_right (n := 2) (by omega) hk; simpa using this
   have HP : Hid (2 ^ (k + 1) = 2 * 2 ^ k) := hid_ (by rw [Nat.pow_succ]; omega)
   have HRS := hid_ (rowC_succ cs k)
   have HR0 : Hid (rowC cs k 0 = []) := hid_ rfl
   have HRL := hid_ (rowC_len cs k)
   have hbound : (codesW cs k).length + n ≤ xs.length := by have h1 := HMO.out; have h2 := HLEN.out; rw [HCW.out, List.length_append, HRL.out] at h1; omega
   generalize nextW cs k = N at *
   generalize (2 : Nat) ^ k = Pw at *
   clear hn hkl
   generalize codesW cs k = C at *
   have HC0 : Hid (zipC (C ++ rowC cs k 0) xs = zipC C xs) := hid_ (by rw [HR0.out, List.append_nil])
   go_wp2_with fail
   go_loopw [3, 4, 16] (fun v nx i wr => ∃ j : Nat, j ≤ n ∧ i = .int .i64 (j : Int) ∧ nx = .int .i64 ((2 * N + j : Nat) : Int) ∧ OwnV wr w1.heap.size 94 3 v (C.length + j) (toks (zipC (C ++ rowC cs k j) xs)) ∧ Ext w1 wr) (fun _ _ i _ => n - (intOf i).toNat)
   case atStart => exact ⟨0, by omega, rfl, vint (by omega), by rw [HC0.out]; exact OwnV.mk hown, hx⟩
   case round =>
    clear hown hx
    obtain ⟨j, hj, rfl, rfl, ⟨B, d, rfl, hown⟩, hx⟩ := hrel
    have hclen : (C ++ rowC cs k j).length = C.length + j := by rw [List.length_append, HRL.out]
    have hzl : (zipC (C ++ rowC cs k j) xs).length = C.length + j := by rw [zipC_len _ _ (by omega), hclen]
    have hcz := hid_ hclen
    have HZL := hid_ hzl
    clear hclen
    by_cases hlj : j < n
    ·have hix2 : C.length + j < xs.length := by omega
     have HZS : Hid (zipC (C ++ rowC cs k (j + 1)) xs = zipC (C ++ rowC cs k j) xs ++ [(xs[C.length + j], ((k + 1 : Nat) : Int), ((2 * N + j : Nat) : Int))]) := hid_ (by
      rw [HRS.out j, ← List.append_assoc, zipC_snoc _ _ _ (by rw [hcz.out]; exact hix2)]
      simp only [hcz.out])
     obtain ⟨ad, u, hA, -, hxk, hcell⟩ := (hs1.ext hx).at1 hix2
     obtain ⟨hkl2, rfl⟩ := ints_at _ _ _ hxk
     subst hA
     have hc16 := hlast.out _ _ (hb1.ext hx)
     generalize xs[C.length + j] = x at *
     generalize zipC (C ++ rowC cs k j) xs = T at *
     generalize hM : C.length + j = M at *
     have hM256 : M < 256 := by omega
     have HM := hid_ hM
     clear hxk hM hzl
     go_wp2_with (at_builtin; go_must (refine wpList_append_sl elt_word rfl _ _ rfl w1.heap.size _ _ _ rfl (hown.alloc _) _ 1 [.int .i64 _, .int .i64 _, .int .i64 _] rfl (one_sl3' _ _ _ _ _) (int3_one _ _ _) (by omega) (by omega) (by have := hx.size; simp; omega) ?_); intro v' w7 hown7 hb7)
     go_roundw
     case rel =>
      refine ⟨j + 1, by omega, by go_num, vint (by omega), ?_, (hx.alloc _).trans' hb7⟩
      rw [HZS.out]
      have := own_tok3 (T := T) (by rw [HZL.out]; exact hown7)
      rw [List.length_append, HZL.out, ← HM.out] at this
      simpa [Nat.add_assoc] using OwnV.mk this
     case measure => simp [intOf]; omega
    ·obtain rfl : j = n := by omega
     clear hzl
     go_wp2_with fail
     go_roundw
     case rel => exact ⟨k + 1, by omega, by go_num, by rw [HNW.out], by rw [HNW.out, HP.out]; have := HOK.out; rw [HNW.out, HP.out] at this; omega, by rw [HCW.out, hcz.out]; exact OwnV.mk hown, hx⟩
     case measure => simp [intOf]; omega
  ·have ek : k = 16 := by omega
   rw [ek] at hown ⊢
   rw [HLEN.out] at hown ⊢
   go_wp2_with fail
   go_ret
   obtain ⟨hsl, hfs⟩ := own_out hown
   exact ⟨B0, d0, rfl, hsl, fun ad h => by have := hfs ad h; omega, hx1.trans hx⟩
theorem checkZ_zero {cs xs : List Int} (h : checkZ cs xs = 0) : allIn cs 0 256 = true ∧ sumL cs 16 = xs.length ∧ xs.length ≤ 256 ∧ okW cs = true ∧ allIn xs 0 255 = true ∧ xs.Nodup := by
 unfold checkZ at h
 split at h
 ·next h1 =>
  obtain ⟨q1, q2, q3⟩ := totOK_iff.1 h1
  split at h
  ·next h2 =>
   split at h
   ·next h3 =>
    simp only [Bool.and_eq_true, decide_eq_true_eq] at h3
    exact ⟨q1, q3, by omega, h3.2, h2, h3.1⟩
   ·cases h
  ·cases h
 ·cases h
theorem later_eq : Later (fun a b : World => a = b) := ⟨fun _ => rfl, fun h k => h.trans k⟩
theorem own_ext0' {w w' : World} {base : Nat} {e : TypeId} {size n : Nat} {v : Value} {xs : List Value} (h : w.ownsRow base e size v n xs) (hb : Ext w w') : w'.ownsRow base e size v n xs := by
 obtain ⟨hl, hh⟩ := h
 refine ⟨hl, ?_⟩
 rcases hh with ⟨rfl, rfl⟩ | ⟨g, cap, cur, rfl, h1, hg, h2⟩
 ·exact .inl ⟨rfl, rfl⟩
 ·exact .inr ⟨g, cap, cur, rfl, h1, (hb.block g (Blk.lt (w := w) (t := e) (cs := cur) hg)).trans hg, h2⟩
theorem own_out' {w : World} {base : Nat} {e : TypeId} {size n c : Nat} {A : Option Addr} {xs : List Value} (h : w.ownsRow base e size (.slice A n c) n xs) : SL w size (.slice A n c) n xs ∧ ∀ ad, A = some ad → base ≤ ad.block := by
 obtain ⟨B, d, e1, h1, h2⟩ := own_form h
 injection e1 with e1 e2 e3
 subst e1 e3
 exact ⟨h1, h2⟩
theorem outW_at (cs : List Int) (k : Nat) (h : k < (codesW cs 16).length) : (strs (outW cs 16))[k]? = some (.string (strB (digs (codesW cs 16)[k].2 (codesW cs 16)[k].1))) := by
 unfold strs
 rw [outW_codes]
 simp [h, binS_strB]
theorem outW_len (cs : List Int) : (outW cs 16).length = (codesW cs 16).length := by rw [outW_codes]; simp
theorem zipC_at (C : List (Nat × Nat)) (xs : List Int) (k : Nat) (h1 : k < C.length) (h2 : k < xs.length) (h : k < (zipC C xs).length) : (zipC C xs)[k] = (xs[k], ((C[k]).1 : Int), ((C[k]).2 : Int)) := by
 simp [zipC]
def findT (T : List Tok) (s : Int) : Option Tok := T.find? (fun t => t.1 == s)
def bitsT (T : List Tok) (s : Int) : List Bool := match findT T s with | some t => digs t.2.2.toNat t.2.1.toNat | none => []
end Go.Proofs.YtkggcjdlpendfaaGreatDoor
