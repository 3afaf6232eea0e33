/- Contracts of the functions that the law reaches, part 8. -/
import Derived.Shelf.Small.Bits
import Derived.Shelf.Strconv.Itoa0
import Derived.Shelf.Strings.Search1
import Derived.Shelf.Strings.Search2
import Derived.Shelf.Strings.Search3
import Derived.Shelf.LaysM
import Derived.Shelf.Strings.Shaped
import Derived.Shelf.Strings.Prefix
import Derived.Shelf.Bytes.SlIndexSmall
import Derived.Ground.SlbNamesProg
import Derived.Shelf.Bytes.SlCountOne
import Derived.Shelf.Bytes.SlIndexAt
import Derived.Shelf.Bytes.SlSearch0
import Derived.Shelf.Bytes.SlSearch1
import Derived.Shelf.Bytes.SlSearch2
import Derived.Shelf.Bytes.SlIndexWhole
import Derived.Shelf.Bytes.SlCountWhole
import Derived.Shelf.Bytes.Small
import Derived.Shelf.Bytes.IndexByte
import Derived.Lib.BitFns
import Derived.Lib.ItoaNum
import Derived.Test.YtkggcjdlpendfaaGreatDoorMTopCoarseCard7
namespace Go.Proofs.YtkggcjdlpendfaaGreatDoor
set_option linter.unusedVariables false
set_option linter.unusedSimpArgs false
set_option maxRecDepth 20000
set_option maxHeartbeats 8000000
open Go.RowKit
theorem zOx (wd hi:Int) (L:List (List Int)) (A:Option Addr) (n c:Nat) (q:List Int) (hq:q.length=64) (w:World) (hr:RowsS w A n c L) (hE:zCt wd hi L≠0) :
 Calls Tryz.prog 13 #[.agg (yX wd hi (.slice A n c)),.agg (bv q)] w (FrmIs (zX wd hi L q) w):=by
 have HC:=zA (fun W (hx:Ext w W)=>zJC wd hi L A n c W (hr.ext hx))
 have HE:Hid (∀ W,Ext w W→FrmIs (zX wd hi L q) w (.returned (.tuple #[.slice none 0 0,.int .i64 (zCt wd hi L)])) W):=zA (fun W hx=>FrmIs.err (by unfold zX;rw[if_neg hE]) hx)
 generalize zX wd hi L q=fz at *
 generalize zCt wd hi L=E at *
 have hps:=zA (vC wd hi (.slice A n c))
 generalize yX wd hi (.slice A n c)=pv at *
 generalize bv q=qv at *
 clear hr
 go_enter Tryz.func13,Tryz.ntmps13
 go_wp2_with (first
  | ((with_reducible apply gS 2);refine wBox rfl 31 (.tmp 0) rfl pv rfl ?_;intro w1 g1 hb1 hx1 hg1)
  | ((with_reducible apply gS 3);refine wBox rfl 33 (.tmp 1) rfl qv rfl ?_;intro w2 g2 hb2 hx2 hg2;have hb12:=hb1.ext hx2;have hx12:=hx1.trans hx2)
  | ((with_reducible apply gS 14);refine wLdB rfl 31 (.tmp 2) rfl g1 rfl hb12 _ Tryz.underlying31 rfl 3 jL hps.out ?_)
  | (go_at_call 29;(with_reducible refine (HC.out _ hx12).mono ?_);rintro e w3 ⟨rfl,hx3⟩)
  | ((with_reducible apply gS 17);refine zB rfl (.bool false) (zAB rfl rfl rfl (by simpa using hE)) ?_)
  | ((with_reducible apply gS 21);refine zB rfl (.bool true) (zAK rfl rfl rfl (by simpa using hE)) ?_))
 go_ret2
 exact HE.out _ (hx12.trans hx3)
theorem zMw (wd hi:Int) (L:List (List Int)) (A:Option Addr) (n c:Nat) (q:List Int) (hq:q.length=64) (w:World) (hr:RowsS w A n c L) (hE:zCt wd hi L=0) (hqq:zN q 1 255=false) :
 Calls Tryz.prog 13 #[.agg (yX wd hi (.slice A n c)),.agg (bv q)] w (FrmIs (zX wd hi L q) w):=by
 have HC:=zA (fun W (hx:Ext w W)=>zJC wd hi L A n c W (hr.ext hx))
 rw[hE] at HC
 have HE:Hid (∀ W,Ext w W→FrmIs (zX wd hi L q) w (.returned (.tuple #[.slice none 0 0,.int .i64 1])) W):=zA (fun W hx=>FrmIs.err (by unfold zX;rw[if_pos hE,hqq];rfl) hx)
 have HQ:=zA (fun W=>zBv q W hq)
 rw[hqq,if_neg (by decide)] at HQ
 generalize zX wd hi L q=fz at *
 have hps:=zA (vC wd hi (.slice A n c))
 have hqs:=zA ((zJ q).trans hq)
 generalize yX wd hi (.slice A n c)=pv at *
 generalize bv q=qv at *
 clear hr hE
 go_enter Tryz.func13,Tryz.ntmps13
 go_wp2_with (first
  | ((with_reducible apply gS 2);refine wBox rfl 31 (.tmp 0) rfl pv rfl ?_;intro w1 g1 hb1 hx1 hg1)
  | ((with_reducible apply gS 3);refine wBox rfl 33 (.tmp 1) rfl qv rfl ?_;intro w2 g2 hb2 hx2 hg2;have hb12:=hb1.ext hx2;have hx12:=hx1.trans hx2)
  | ((with_reducible apply gS 14);refine wLdB rfl 31 (.tmp 2) rfl g1 rfl hb12 _ Tryz.underlying31 rfl 3 jL hps.out ?_)
  | (go_at_call 29;(with_reducible refine (HC.out _ hx12).mono ?_);rintro e w3 ⟨rfl,hx3⟩;have hb23:=hb2.ext hx3;have hx13:=hx12.trans hx3)
  | ((with_reducible apply gS 18);refine wLdB rfl 33 (.tmp 3) rfl g2 rfl hb23 _ Tryz.underlying33 rfl 64 zF hqs.out ?_)
  | (go_at_call 15;(with_reducible refine (HQ.out _).mono ?_);rintro e w4 ⟨rfl,hx4⟩))
 go_ret2
 exact HE.out _ (hx13.trans hx4)
theorem zOd (wd hi:Int) (L:List (List Int)) (A:Option Addr) (n c:Nat) (q:List Int) (hq:q.length=64) (w:World) (hr:RowsS w A n c L) (hE:zCt wd hi L=0) (hqq:zN q 1 255=true) :
 Calls Tryz.prog 13 #[.agg (yX wd hi (.slice A n c)),.agg (bv q)] w (FrmIs (zX wd hi L q) w):=by
 have HC:=zA (fun W (hx:Ext w W)=>zJC wd hi L A n c W (hr.ext hx))
 rw[hE] at HC
 obtain⟨hL,N,hN,hNl⟩:=picE_ok hE
 have HT:=zA (fun W (hx:Ext w W)=>zPy 39 tto tto_by goesTo A n c L N W hL hNl hN (hr.ext hx))
 have hR3:=zMP tto L hL
 have HZ:Hid (zX wd hi L q=(0,zAL wd hi (zBM tto L),zAj q wd hi (zBM tto L))):=zA (by unfold zX;rw[if_pos hE,hqq];rfl)
 have HQ:=zA (fun W=>zBv q W hq)
 rw[hqq,if_pos rfl] at HQ
 unfold TurnIs at HT
 have HCU:=zA (fun (l:List Int) v W (h:SL W 1 v l.length (ints l))=>cut_anyF l v wd hi W h)
 unfold CutFr at HCU
 have HWA:=zA (fun (b:List Int) W (h:b.length=64)=>zQT b W h)
 have HDW:=zA (fun (b:List Int) W (h:b.length=64)=>down_any b q W h hq)
 have HQL:=zA hq
 generalize zBM tto L=R at *
 generalize zX wd hi L q=fz at *
 have hps:=zA (vC wd hi (.slice A n c))
 have hqs:=zA ((zJ q).trans hq)
 have HPC:=zA (fun (W:World) g (h:Blk W g 31 (yX wd hi (.slice A n c)))=>zAl h)
 generalize yX wd hi (.slice A n c)=pv at *
 have HQV:Hid (bv q=bv q):=zA rfl
 generalize hqv:bv q=qv at *
 clear hr hE hL hNl hN HQV
 go_enter Tryz.func13,Tryz.ntmps13
 go_upto_region 8 with (first
  | ((with_reducible apply gS 2);refine wBox rfl 31 (.tmp 0) rfl pv rfl ?_;intro w1 g1 hb1 hx1 hg1)
  | ((with_reducible apply gS 3);refine wBox rfl 33 (.tmp 1) rfl qv rfl ?_;intro w2 g2 hb2 hx2 hg2;have hb12:=hb1.ext hx2;have hx12:=hx1.trans hx2)
  | ((with_reducible apply gS 14);refine wLdB rfl 31 (.tmp 2) rfl g1 rfl hb12 _ Tryz.underlying31 rfl 3 jL hps.out ?_)
  | (go_at_call 29;(with_reducible refine (HC.out _ hx12).mono ?_);rintro e w3 ⟨rfl,hx3⟩;have hb13:=hb12.ext hx3;have hb23:=hb2.ext hx3;have hx13:=hx12.trans hx3)
  | ((with_reducible apply gS 18);refine wLdB rfl 33 (.tmp 3) rfl g2 rfl hb23 _ Tryz.underlying33 rfl 64 zF hqs.out ?_)
  | (go_at_call 15;(with_reducible refine (HQ.out _).mono ?_);rintro e w4 ⟨rfl,hx4⟩;have hb14:=hb13.ext hx4;have hb24:=hb23.ext hx4;have hx14:=hx13.trans hx4;have hpc:=HPC.out _ _ hb14)
  | ((with_reducible apply gS 24);refine yW rfl (.slice A n c) (zDb rfl rfl hpc.2.2) ?_)
  | (go_at_call 38;(with_reducible refine (HT.out _ hx14).mono ?_);rintro e w5 ⟨TA,m,tc,rfl,hrows,hx5⟩;have hb15:=hb14.ext hx5;have hb25:=hb24.ext hx5;have hx15:=hx14.trans hx5))
 have hRm:=hrows.len
 have HRW:=zA hrows
 have hm3:m≤3:=by omega
 have own0:w5.ownsRow w5.heap.size 33 64 (.slice none 0 0) 0 (ints (zAj q wd hi (R.take 0))):=zAT _ _ _ _
 have hg1':g1<w5.heap.size:=hb15.lt
 have hg2':g2<w5.heap.size:=hb25.lt
 clear hrows hpc
 go_loopw [7,27] (fun ov iv wr=> ∃ (k:Nat) (OA:Option Addr) (on oc:Nat),k≤m∧iv=.int .i64 (k:Int)∧ov=.slice OA on oc∧Hid (on=zAL wd hi (R.take k))∧wr.ownsRow w5.heap.size 33 64 (.slice OA on oc) on (ints (zAj q wd hi (R.take k)))∧Blk wr g1 31 pv∧Blk wr g2 33 qv∧Ext w5 wr∧Ext w wr) (fun _ i _=>m-(intOf i).toNat)
 case atStart=>exact⟨0,none,0,0,by omega,rfl,rfl,zA rfl,own0,hb15,hb25,Ext.refl _,hx15⟩
 case round =>
  clear own0 hb15 hb25 hx15
  obtain⟨k,OA,on,oc,hk,rfl,rfl,hon,ho,hb1,hb2,hx5r,hx⟩:=hrel
  by_cases hkm:k<m
  ·obtain⟨ad,l,LA,ld,rfl,hRk,hab,hcell,hsl⟩:=HRW.out.get hkm
   have hcl:wr.cell? (ad.add (k*1))=some (.slice LA l.length ld):=by rw[wE9,(hx5r.cell (by rw[yH];exact hab)).trans hcell]
   have hsl':=hsl.ext hx5r
   have hfn:=zA (zPj wd hi R k l hRk)
   have hfz:=zA (zPG q wd hi R k l hRk)
   have hon64:on≤192:=by have:=zHF wd hi R k;rw[←hon.out] at this;omega
   have hcle:=zNI l wd hi
   have HCl:=zA (HCU.out l (.slice LA l.length ld) wr hsl')
   have hcz:=cutRZ_len l wd hi
   have hpc:=HPC.out _ _ hb1
   generalize jI l wd hi=cn at *
   generalize zAi l wd hi=CZ at *
   generalize l.length=ll at *
   generalize vZ l wd hi=ce at *
   clear hcell hsl hsl' hRk
   go_upto_region 12 with (first
    | ((with_reducible apply gS 29);refine zB rfl (.pointer (some (ad.add (k*1)))) (jG (i:=k) Tryz.underlying29 uT rfl rfl rfl hkm) ?_)
    | ((with_reducible apply gS 30);refine yW rfl (.slice LA ll ld) (jZ rfl rfl hcl) ?_)
    | ((with_reducible apply gS 34);refine yW rfl (.int .i64 wd) (zQ rfl rfl hpc.1) ?_)
    | ((with_reducible apply gS 36);refine yW rfl (.int .i64 hi) (zQ rfl rfl hpc.2.1) ?_)
    | (go_at_call 40;(with_reducible refine HCl.out.mono ?_);rintro e w6 ⟨CA,cc,rfl,hcs,hx6,hfr⟩;have ho6:=yJ ho hx6;have hb16:=hb1.ext hx6;have hb26:=hb2.ext hx6;have hx56:=hx5r.trans hx6;have hx06:=hx.trans hx6))
   have hne0: ∀ ad,CA=some ad→(Value.slice OA (on+0) oc).ownBlock≠some ad.block:=fun ad e q=>by have:=hfr ad e;have:=(ho.lt ad.block (by simpa using q)).2;omega
   have own1:w6.ownsRow w5.heap.size 33 64 (.slice OA on oc) (on+0) (ints (zAj q wd hi (R.take k)++zBk q CZ 0)):=by simpa [zBk] using ho6
   clear ho hb1 hb2 hx hcl hpc
   go_loopw [7,42] (fun ov iv wr=> ∃ (j:Nat) (OA:Option Addr) (oc:Nat),j≤cn∧iv=.int .i64 (j:Int)∧ov=.slice OA (on+j) oc∧wr.ownsRow w5.heap.size 33 64 (.slice OA (on+j) oc) (on+j) (ints (zAj q wd hi (R.take k)++zBk q CZ j))∧SL wr 64 (.slice CA cn cc) cn (ints CZ)∧(∀ ad,CA=some ad→(Value.slice OA (on+j) oc).ownBlock≠some ad.block)∧Blk wr g1 31 pv∧Blk wr g2 33 qv∧Ext w5 wr∧Ext w wr) (fun _ i _=>cn-(intOf i).toNat)
   case atStart=>exact⟨0,OA,oc,by omega,rfl,rfl,own1,hcs,hne0,hb16,hb26,hx56,hx06⟩
   case round =>
    clear own1 ho6 hb16 hb26 hx06 hx56 hx5r hcs hne0
    obtain⟨j,OA,oc,hj,rfl,rfl,ho,hcs,hne,hb1,hb2,hx5r,hx⟩:=hrel
    by_cases hjc:j<cn
    ·obtain⟨bd,hbd,hbb,hca⟩:=hcs.part hjc
     have hca':zAD wr (bd.add (j*64)) (ints (jV CZ j)):=by
      have e:((ints CZ).drop (j*64)).take 64=ints (jV CZ j):=by unfold ints jV;rw[List.map_drop.symm,List.map_take.symm]
      rw[←e]
      exact hca
     obtain rfl:=hbd
     have hpl:(jV CZ j).length=64:=by unfold jV;rw[wI4,wJ4,hcz];omega
     have HMB:Hid (zBk q CZ (j+1)=zBk q CZ j++blkF (jV CZ j) q):=zA (by rw[zBk])
     have HBF:Hid (blkF (jV CZ j) q=(jF zAs (vD toC (jV CZ j)).1 q 40000).1):=zA rfl
     have hBL:=zOi (jV CZ j) q HQL.out
     generalize jV CZ j=P at *
     have HW:=zA (fun W=>HWA.out P W hpl)
     have hwl:=zCU toC P
     have HD:=zA (fun W=>HDW.out (vD toC P).1 W hwl)
     rw[←HBF.out] at HD
     generalize (vD toC P).1=P2 at *
     generalize (vD toC P).2=ew at *
     generalize (jF zAs P2 q 40000).2=ed at *
     generalize hP3:blkF P q=P3 at *
     clear hca hP3 HBF
     have s1:=zA ((zJ P).trans hpl)
     have s2:=zA ((zJ P2).trans hwl)
     have s3:=zA ((zJ P3).trans hBL)
     have o1:=zA (xB P)
     have o2:=zA (xB P2)
     have o3:=zA (xB P3)
     have hipl:(ints P).length=64:=by rw[zY,hpl]
     have hzs:Hid ((Value.agg (bv zeros64)).cells.size=64):=zA zero48c
     go_wp2_with (first
      | ((with_reducible apply gS 44);refine zB rfl (.pointer (some (bd.add (j*64)))) (jG (i:=j) Tryz.underlying25 zF rfl rfl rfl hjc) ?_)
      | ((with_reducible apply gS 45);refine yL (by rfl) 33 (.tmp 44) rfl (bd.add (j*64)) rfl (ints P) _ hca' Tryz.underlying33 rfl (by rw[hipl];exact zF) ?_)
      | ((with_reducible apply gS 13);refine wAlo' rfl (some 13) rfl 33 rfl _ qN ?_;intro w8 g8 hb8 hx8 hg8;have h18:=hb1.ext hx8;have h28:=hb2.ext hx8;have ho8:=yJ ho hx8)
      | ((with_reducible apply gT 13 45);refine wStB rfl 33 (.tmp 13) (.tmp 45) rfl g8 (bv P) rfl rfl hb8 64 zF s1.out hzs.out o1.out ?_;intro w9 hb9 hg9;have hx9:=hx8.grown hg9 hg8)
      | ((with_reducible apply gS 47);refine wLdB rfl 33 (.tmp 13) rfl g8 rfl hb9 _ Tryz.underlying33 rfl 64 zF s1.out ?_)
      | (go_at_call 41;(with_reducible refine (HW.out _).mono ?_);rintro e w10 ⟨rfl,hx10⟩;have hb10:=hb9.ext hx10;have hxa:=hx9.trans hx10)
      | ((with_reducible apply gT 13 49);refine wStB rfl 33 (.tmp 13) (.tmp 49) rfl g8 (bv P2) rfl rfl hb10 64 zF s2.out s1.out o2.out ?_;intro w11 hb11 hg11;have hxb:=hxa.grown hg11 hg8;have hq11:=hb2.ext hxb)
      | ((with_reducible apply gS 52);refine wLdB rfl 33 (.tmp 13) rfl g8 rfl hb11 _ Tryz.underlying33 rfl 64 zF s2.out ?_)
      | ((with_reducible apply gS 53);refine wLdB rfl 33 (.tmp 3) rfl g2 rfl hq11 _ Tryz.underlying33 rfl 64 zF hqs.out ?_)
      | (go_at_call 42;(with_reducible refine (HD.out _).mono ?_);rintro e w12 ⟨rfl,hx12'⟩;have hb12':=hb11.ext hx12';have hxc:=hxb.trans hx12')
      | ((with_reducible apply gT 13 55);refine wStB rfl 33 (.tmp 13) (.tmp 55) rfl g8 (bv P3) rfl rfl hb12' 64 zF s3.out s2.out o3.out ?_;intro w13 hb13' hg13;have hxd:=hxc.grown hg13 hg8)
      | ((with_reducible apply gS 58);refine wLdB rfl 33 (.tmp 13) rfl g8 rfl hb13' _ Tryz.underlying33 rfl 64 zF s3.out ?_)
      | ((with_reducible apply gS 59);refine wLit1 rfl 25 33 (.tmp 58) rfl (some 59) rfl Tryz.underlying25 64 zF zero48' (.agg (bv P3)) rfl s3.out (by omega) (by omega) ?_;intro w14 g14 hb14' hx14' hg14;have hxe:=hxd.trans hx14';have ho14:=yJ ho hxe)
      | ((with_reducible apply gS 60);refine wApf zKk rfl (.tmp 57) (.tmp 59) rfl w5.heap.size (.slice OA (on+j) oc) (on+j) (ints (zAj q wd hi (R.take k)++zBk q CZ j)) rfl ho14 _ 1 (ints P3) rfl (blk_sl1 hb14' hBL) (qR P3) (by omega) (by omega) (hx5r.trans hxe).size ?_;intro A15 c15 w15 ho15 hg15 hr15;have hug:=zL hg15))
     have hlo:=ho14.lt
     have hBx: ∀ y,(Value.slice OA (on+j) oc).ownBlock=some y→w5.heap.size≤y:=fun y hy=>(hlo y hy).1
     have hb1z:=hb1.ext hxe
     have hb2z:=hb2.ext hxe
     go_roundw
     case rel =>
      refine⟨j+1,A15,c15,by omega,by go_num,by rw[wA0], ?_, ?_⟩
      ·rw[HMB.out, ←wG0,uQ]
       exact ho15
      ·have hx5z:=Below.grown (hx5r.trans hxe) hg15 (hx5r.trans hxe).size (fun y hy=>hBx y hy)
       have hxz:=Below.grown (hx.trans hxe) hg15 (hx.trans hxe).size (fun y hy=>by have:=hBx y hy;have:=hx5r.size;have:=hg1';omega)
       refine⟨(hcs.ext hxe).upd0 hug (fun _ ad' e q=>hne ad' e q),fun ad' e q=> ?_,hug.blk hb1z (fun q=>by have:=hBx _ q;have:=hg1';omega),hug.blk hb2z (fun q=>by have:=hBx _ q;have:=hg2';omega),hx5z,hxz⟩
       rw[zBO] at q
       rcases hr15 with h | h
       ·rw[h] at q
        exact hne ad' e q
       ·rw[h] at q
        injection q with q
        injection e with e
        subst e
        have:=hxe.size
        omega
     case measure=>simp[intOf];omega
    ·obtain rfl:j=cn:=by omega
     go_wp2_with fail
     go_roundw
     case rel=>exact⟨k+1,OA,on+j,oc,by omega,by go_num,rfl,zA (by rw[hfn.out,hon.out]),by rw[hfz.out];exact ho,hb1,hb2,hx5r,hx⟩
     case measure=>simp[intOf];omega
  ·obtain rfl:k=m:=by omega
   rw[←hRm,wI8] at hon ho
   go_wp2_with fail
   go_ret2
   rw[HZ.out]
   refine⟨OA,oc, ?_, ?_,hx⟩
   ·rw[←hon.out];rfl
   ·show SL wr 64 (.slice OA (zAL wd hi R) oc) (zAL wd hi R) _
    rw[←hon.out]
    exact (qU ho).1
theorem zBz (wd hi:Int) (L:List (List Int)) (A:Option Addr) (n c:Nat) (q:List Int) (hq:q.length=64) (w:World) (hr:RowsS w A n c L) :
 Calls Tryz.prog 13 #[.agg (yX wd hi (.slice A n c)),.agg (bv q)] w (FrmIs (zX wd hi L q) w):=by
 by_cases hE:zCt wd hi L=0
 ·cases hqq:zN q 1 255 with
  | false=>exact zMw wd hi L A n c q hq w hr hE hqq
  | true=>exact zOd wd hi L A n c q hq w hr hE hqq
 ·exact zOx wd hi L A n c q hq w hr hE
theorem zOy (wd hi:Int) (L:List (List Int)) (q:List Int) (hq:q.length=64):(zX wd hi L q).2.2.length=(zX wd hi L q).2.1*64:=by
 unfold zX
 split
 ·split
  ·exact zJW q hq wd hi _
  ·rfl
 ·rfl
abbrev Tok:=Int×Int×Int
def xV (t:Tok):List Value:=[.int .i64 t.1,.int .i64 t.2.1,.int .i64 t.2.2]
def qC (T:List Tok):List Value:=T.flatMap xV
theorem toks_at (T:List Tok) (k:Nat) (h:k<T.length) :
 (qC T)[k*3]? =some (.int .i64 T[k].1)∧(qC T)[k*3+1]? =some (.int .i64 T[k].2.1)∧(qC T)[k*3+2]? =some (.int .i64 T[k].2.2):=by
 induction T generalizing k with
 | nil=>simp at h
 | cons t T ih =>
   have e:qC (t::T)=xV t++qC T:=by simp[qC]
   rw[e]
   cases k with
   | zero=>simp[xV]
   | succ k =>
     have h2:k<T.length:=by simpa using h
     obtain⟨a,b,c⟩:=ih k h2
     refine⟨?_, ?_, ?_⟩
     ·rw[wG5 (by simp[xV];omega),show (k+1)*3-(xV t).length=k*3 by simp[xV];omega,a];simp
     ·rw[wG5 (by simp[xV];omega),show (k+1)*3+1-(xV t).length=k*3+1 by simp[xV];omega,b];simp
     ·rw[wG5 (by simp[xV];omega),show (k+1)*3+2-(xV t).length=k*3+2 by simp[xV];omega,c];simp
theorem zLg (ad:Addr) (i j:Nat) (hj:0<j):(⟨(ad.add i).block,(ad.add i).off+j,none⟩:Addr)=ad.add (i+j):=by
 unfold Addr.add
 rw[if_neg (show ¬i+j=0 by omega)]
 split
 ·next h=>subst h;simp
 ·simp;omega
theorem SL.tok {w:World} {A:Option Addr} {n c:Nat} {T:List Tok} {k:Nat} (h:SL w 3 (.slice A n c) n (qC T)) (hk:k<n) (hn:T.length=n) (hkl:k<T.length) :
 ∃ ad,A=some ad∧ad.block<w.heap.size∧w.cell? (ad.add (k*3))=some (.int .i64 T[k].1)∧w.cell? ⟨(ad.add (k*3)).block,(ad.add (k*3)).off+1,none⟩=some (.int .i64 T[k].2.1)∧w.cell? ⟨(ad.add (k*3)).block,(ad.add (k*3)).off+2,none⟩=some (.int .i64 T[k].2.2):=by
 obtain⟨A',c',e,_,_,h2,h3⟩:=h
 injection e with e1 e2 e3
 subst e1
 obtain⟨ad,ea,hb,hc⟩:=h3 (by omega)
 obtain⟨a,b,d⟩:=toks_at T k hkl
 exact⟨ad,ea,hb,hc _ _ a,by rw[zLg _ _ 1 (by omega)];exact hc _ _ b,by rw[zLg _ _ 2 (by omega)];exact hc _ _ d⟩
end Go.Proofs.YtkggcjdlpendfaaGreatDoor
namespace Go.Proofs
set_option linter.unusedVariables false
set_option linter.unusedSimpArgs false
set_option maxRecDepth 20000
set_option maxHeartbeats 8000000
open Go.Shelf
def Tryz.lays125_ren:Go.Shelf.Ren:=⟨fun | 125=>221 | 128=>224 | 129=>225 | n=>n,fun | 46=>116 | 3=>3 | 51=>261 | 53=>201 | 4=>4 | 5=>5 | 9=>9 | n=>n,fun | n=>n⟩
theorem Tryz.lays125:Go.Proofs.Lays.n125 Tryz.prog Tryz.lays125_ren:={
 mixed:=by kernel_rfl
 f125:=Tryz.func221.trans (congrArg some (by kernel_rfl))
 f128:=Tryz.func224.trans (congrArg some (by kernel_rfl))
 f129:=Tryz.func225.trans (congrArg some (by kernel_rfl))
 t3:=Tryz.underlying3
 a3:=Tryz.isAgg3
 z3:=Tryz.sizeOf3
 v3:=Tryz.zeroValue3
 t4:=Tryz.underlying4
 a4:=Tryz.isAgg4
 z4:=Tryz.sizeOf4
 v4:=Tryz.zeroValue4
 t5:=Tryz.underlying5
 a5:=Tryz.isAgg5
 z5:=Tryz.sizeOf5
 v5:=Tryz.zeroValue5
 t9:=Tryz.underlying9
 a9:=Tryz.isAgg9
 z9:=Tryz.sizeOf9
 v9:=Tryz.zeroValue9
 t46:=Tryz.underlying116
 a46:=Tryz.isAgg116
 z46:=Tryz.sizeOf116
 v46:=Tryz.zeroValue116
 t51:=Tryz.underlying261
 a51:=Tryz.isAgg261
 z51:=Tryz.sizeOf261
 v51:=Tryz.zeroValue261
 t53:=Tryz.underlying201
 a53:=Tryz.isAgg201
 z53:=Tryz.sizeOf201
 v53:=Tryz.zeroValue201 }
theorem Tryz.bits_Len (x:Int) (w:World) (h0:0≤x) (h1:x≤18446744073709551615) :
 Calls Tryz.prog 221 #[.int .u64 x] w fun e w'=>e=.returned (.int .i64 (Lib.bitLen x.toNat))∧w'=w:=Any.bits_Len Tryz.lays125 x w h0 h1
open Go.RowKit Go.Lib in

open Go.RowKit Go.Lib in

open Go.RowKit Go.Lib in

open Go.RowKit Go.Lib in

open Go.RowKit Go.Lib in

open Go.RowKit Go.Lib in

open Go.RowKit Go.Lib in

open Go.RowKit Go.Lib in

open Go.RowKit Go.Lib in

open Go.RowKit Go.Lib in

open Go.RowKit Go.Lib in

def Tryz.lays185_ren:Go.Shelf.Ren:=⟨fun | 185=>178 | 187=>200 | 115=>85 | 253=>201 | 224=>202 | 254=>203 | 255=>213 | 291=>214 | n=>n,fun | 37=>45 | 3=>3 | 4=>4 | 0=>0 | 5=>5 | 46=>116 | 9=>9 | 146=>262 | 51=>261 | n=>n,fun | 1=>0 | n=>n⟩
theorem Tryz.lays185:Go.Proofs.Lays.n185 Tryz.prog Tryz.lays185_ren:={
 mixed:=by kernel_rfl
 f115:=Tryz.func85.trans (congrArg some (by kernel_rfl))
 f185:=Tryz.func178.trans (congrArg some (by kernel_rfl))
 f187:=Tryz.func200.trans (congrArg some (by kernel_rfl))
 f224:=Tryz.func202.trans (congrArg some (by kernel_rfl))
 f253:=Tryz.func201.trans (congrArg some (by kernel_rfl))
 f254:=Tryz.func203.trans (congrArg some (by kernel_rfl))
 f255:=Tryz.func213.trans (congrArg some (by kernel_rfl))
 f291:=Tryz.func214.trans (congrArg some (by kernel_rfl))
 t0:=Tryz.underlying0
 a0:=Tryz.isAgg0
 z0:=Tryz.sizeOf0
 v0:=Tryz.zeroValue0
 t3:=Tryz.underlying3
 a3:=Tryz.isAgg3
 z3:=Tryz.sizeOf3
 v3:=Tryz.zeroValue3
 t4:=Tryz.underlying4
 a4:=Tryz.isAgg4
 z4:=Tryz.sizeOf4
 v4:=Tryz.zeroValue4
 t5:=Tryz.underlying5
 a5:=Tryz.isAgg5
 z5:=Tryz.sizeOf5
 v5:=Tryz.zeroValue5
 t9:=Tryz.underlying9
 a9:=Tryz.isAgg9
 z9:=Tryz.sizeOf9
 v9:=Tryz.zeroValue9
 t37:=Tryz.underlying45
 a37:=Tryz.isAgg45
 z37:=Tryz.sizeOf45
 v37:=Tryz.zeroValue45
 t46:=Tryz.underlying116
 a46:=Tryz.isAgg116
 z46:=Tryz.sizeOf116
 v46:=Tryz.zeroValue116
 t51:=Tryz.underlying261
 a51:=Tryz.isAgg261
 z51:=Tryz.sizeOf261
 v51:=Tryz.zeroValue261
 t146:=Tryz.underlying262
 a146:=Tryz.isAgg262
 z146:=Tryz.sizeOf262
 v146:=Tryz.zeroValue262
 g1:=by kernel_rfl }
open Go.RowKit Go.Lib in

open Go.RowKit Go.Lib in

open Go.RowKit Go.Lib in

open Go.RowKit Go.Lib in

open Go.RowKit Go.Lib in

def Tryz.laysSlB13_ren:Go.Shelf.Ren:=⟨fun | 13=>177 | 24=>198 | 25=>199 | 12=>178 | 31=>212 | 19=>200 | 20=>85 | 21=>201 | 22=>202 | 23=>203 | 29=>213 | 30=>214 | n=>n,fun | 22=>45 | 3=>3 | 4=>4 | 0=>0 | 5=>5 | 9=>9 | 33=>116 | 40=>262 | 39=>261 | n=>n,fun | 0=>0 | n=>n⟩
theorem Tryz.laysSlB13:Go.Proofs.SlLaysB.n13 Tryz.prog Tryz.laysSlB13_ren:={
 mixed:=by kernel_rfl
 f13:=Tryz.func177.trans (congrArg some (by kernel_rfl))
 f25:=Tryz.func199.trans (congrArg some (by kernel_rfl))
 t0:=Tryz.underlying0
 a0:=Tryz.isAgg0
 z0:=Tryz.sizeOf0
 v0:=Tryz.zeroValue0
 t3:=Tryz.underlying3
 a3:=Tryz.isAgg3
 z3:=Tryz.sizeOf3
 v3:=Tryz.zeroValue3
 t4:=Tryz.underlying4
 a4:=Tryz.isAgg4
 z4:=Tryz.sizeOf4
 v4:=Tryz.zeroValue4
 t5:=Tryz.underlying5
 a5:=Tryz.isAgg5
 z5:=Tryz.sizeOf5
 v5:=Tryz.zeroValue5
 t22:=Tryz.underlying45
 a22:=Tryz.isAgg45
 z22:=Tryz.sizeOf45
 v22:=Tryz.zeroValue45 }
open Go.RowKit Go.Lib in

open Go.RowKit Go.Lib in

theorem Tryz.bytes_Count_one_at (a:Addr) (n c b2 o2 d:Nat) (xs:List Int) (cv:Int) (w:World) (hx:xs.length=n) (hc: ∀ i,i<n→w.cell? (a.add i)=some (.int .u8 (xs.getD i 0))) (hc2:w.cell? ⟨b2,o2,none⟩=some (.int .u8 cv)) :
 Calls Tryz.prog 177 #[.slice (some a) n c,.slice (some ⟨b2,o2,none⟩) 1 d] w fun e w'=>e=.returned (.int .i64 (Lib.countByte (Lib.bytesOf xs) cv.toNat.toUInt8))∧w'=w:=Any.bytes_Count_one_at Tryz.laysSlB13 a n c b2 o2 d xs cv w hx hc hc2
open Go.RowKit Go.Lib in

theorem Tryz.bytes_Count_one_nil (b2 o2 d:Nat) (cv:Int) (w:World) (hc2:w.cell? ⟨b2,o2,none⟩=some (.int .u8 cv)) :
 Calls Tryz.prog 177 #[.slice none 0 0,.slice (some ⟨b2,o2,none⟩) 1 d] w fun e w'=>e=.returned (.int .i64 0)∧w'=w:=Any.bytes_Count_one_nil Tryz.laysSlB13 b2 o2 d cv w hc2
open Go.RowKit Go.Lib in

open Go.RowKit Go.Lib in

open Go.Proofs Go.RowKit Go.Lib in

open Go.Proofs Go.RowKit Go.Lib in

open Go.RowKit Go.Lib in

open Go.RowKit Go.Lib in

open Go.RowKit Go.Lib in

open Go.Proofs Go.RowKit Go.Lib in

theorem Tryz.bytes_Index_at (a1 a2:Addr) (n c1 k c2:Nat) (xs ys:List Int) (m:Int) (w:World) (hx:xs.length=n) (hy:ys.length=k) (hr1: ∀ x∈xs,0≤x∧x<256) (hr2: ∀ y∈ys,0≤y∧y<256) (hc1: ∀ i,i<n→w.cell? (a1.add i)=some (.int .u8 (xs.getD i 0))) (hc2: ∀ i,i<k→w.cell? (a2.add i)=some (.int .u8 (ys.getD i 0))) (hcap:n≤c1) (hs:n<4294967281) (hk:k≤9223372036854775807) (hm:w.cell? ⟨0,0,none⟩=some (.int .i64 m)) :
 Calls Tryz.prog 178 #[.slice (some a1) n c1,.slice (some a2) k c2] w fun e w'=>e=.returned (.int .i64 (Lib.index (Lib.bytesOf xs) (Lib.bytesOf ys)))∧ ∃ q,w'=w.drewN q:=Any.bytes_Index_at Tryz.lays185 a1 a2 n c1 k c2 xs ys m w hx hy hr1 hr2 hc1 hc2 hcap hs hk hm
open Go.Proofs Go.RowKit Go.Lib in

open Go.Proofs Go.RowKit Go.Lib in

def Tryz.laysSlC13_ren:Go.Shelf.Ren:=⟨fun | 13=>177 | 24=>198 | 25=>199 | 12=>178 | 31=>212 | 19=>200 | 20=>85 | 21=>201 | 22=>202 | 23=>203 | 29=>213 | 30=>214 | n=>n,fun | 22=>45 | 3=>3 | 4=>4 | 0=>0 | 5=>5 | 9=>9 | 33=>116 | 40=>262 | 39=>261 | n=>n,fun | 0=>0 | n=>n⟩
theorem Tryz.laysSlC13:Go.Proofs.SlLaysC.n13 Tryz.prog Tryz.laysSlC13_ren:={
 mixed:=by kernel_rfl
 f12:=Tryz.func178.trans (congrArg some (by kernel_rfl))
 f13:=Tryz.func177.trans (congrArg some (by kernel_rfl))
 f19:=Tryz.func200.trans (congrArg some (by kernel_rfl))
 f20:=Tryz.func85.trans (congrArg some (by kernel_rfl))
 f21:=Tryz.func201.trans (congrArg some (by kernel_rfl))
 f22:=Tryz.func202.trans (congrArg some (by kernel_rfl))
 f23:=Tryz.func203.trans (congrArg some (by kernel_rfl))
 f25:=Tryz.func199.trans (congrArg some (by kernel_rfl))
 f29:=Tryz.func213.trans (congrArg some (by kernel_rfl))
 f30:=Tryz.func214.trans (congrArg some (by kernel_rfl))
 t0:=Tryz.underlying0
 a0:=Tryz.isAgg0
 z0:=Tryz.sizeOf0
 v0:=Tryz.zeroValue0
 t3:=Tryz.underlying3
 a3:=Tryz.isAgg3
 z3:=Tryz.sizeOf3
 v3:=Tryz.zeroValue3
 t4:=Tryz.underlying4
 a4:=Tryz.isAgg4
 z4:=Tryz.sizeOf4
 v4:=Tryz.zeroValue4
 t5:=Tryz.underlying5
 a5:=Tryz.isAgg5
 z5:=Tryz.sizeOf5
 v5:=Tryz.zeroValue5
 t9:=Tryz.underlying9
 a9:=Tryz.isAgg9
 z9:=Tryz.sizeOf9
 v9:=Tryz.zeroValue9
 t22:=Tryz.underlying45
 a22:=Tryz.isAgg45
 z22:=Tryz.sizeOf45
 v22:=Tryz.zeroValue45
 t33:=Tryz.underlying116
 a33:=Tryz.isAgg116
 z33:=Tryz.sizeOf116
 v33:=Tryz.zeroValue116
 t39:=Tryz.underlying261
 a39:=Tryz.isAgg261
 z39:=Tryz.sizeOf261
 v39:=Tryz.zeroValue261
 t40:=Tryz.underlying262
 a40:=Tryz.isAgg262
 z40:=Tryz.sizeOf262
 v40:=Tryz.zeroValue262
 g0:=by kernel_rfl }
open Go.RowKit Go.Lib in

theorem Tryz.bytes_Count_at (a1 a2:Addr) (n c1 k c2:Nat) (xs ys:List Int) (m:Int) (w:World) (hx:xs.length=n) (hy:ys.length=k) (hr1: ∀ x∈xs,0≤x∧x<256) (hr2: ∀ y∈ys,0≤y∧y<256) (hc1: ∀ i,i<n→w.cell? (a1.add i)=some (.int .u8 (xs.getD i 0))) (hc2: ∀ i,i<k→w.cell? (a2.add i)=some (.int .u8 (ys.getD i 0))) (hcap:n≤c1) (hs:n<4294967281) (hk:k≤9223372036854775807) (h2:2≤k) (hm:w.cell? ⟨0,0,none⟩=some (.int .i64 m)) :
 Calls Tryz.prog 177 #[.slice (some a1) n c1,.slice (some a2) k c2] w fun e w'=>e=.returned (.int .i64 (Lib.count (Lib.bytesOf xs) (Lib.bytesOf ys)))∧ ∃ q,w'=w.drewN q:=Any.bytes_Count_at Tryz.laysSlC13 a1 a2 n c1 k c2 xs ys m w hx hy hr1 hr2 hc1 hc2 hcap hs hk h2 hm
open Go.RowKit Go.Lib in

theorem Tryz.bytes_Count_nil (p2:Option Addr) (k c2:Nat) (w:World) (h2:2≤k) (hk:k≤9223372036854775807) :
 Calls Tryz.prog 177 #[.slice none 0 0,.slice p2 k c2] w fun e w'=>e=.returned (.int .i64 0)∧w'=w:=Any.bytes_Count_nil Tryz.laysSlC13 p2 k c2 w h2 hk
end Go.Proofs
namespace Go.Proofs.YtkggcjdlpendfaaGreatDoor
set_option linter.unusedVariables false
set_option linter.unusedSimpArgs false
set_option maxRecDepth 20000
set_option maxHeartbeats 8000000
open Go.RowKit
theorem zQs {P:Program} {f:FuncId} {args:Array Value} {w:World} {v:Value} (h:Calls P f args w fun e w'=>e=.returned v∧w'=w):Calls P f args w fun e w'=>e=.returned v∧w=w' :=
 h.mono fun _ _ ⟨a,b⟩=>⟨a,b.symm⟩
def szN (n:Int):Nat:=Lib.bitLen n.natAbs
theorem zEK (n:Int) (h1: -4095≤n) (h2:n≤4095):szN n≤12∧n.natAbs<2 ^ szN n∧(n≠0→1≤szN n∧2 ^ (szN n-1)≤n.natAbs):=by
 have hb:n.natAbs<2 ^ 12:=by omega
 refine⟨Lib.bitLen_le _ 12 (by omega) hb, ?_,fun h0=> ?_⟩
 ·by_cases h0:n=0
  ·subst h0;decide
  ·exact (Lib.bitLenAux_bounds 64 n.natAbs (by omega) (by omega)).2.2
 ·have:=Lib.bitLenAux_bounds 64 n.natAbs (by omega) (by omega)
  exact⟨this.1,this.2.1⟩
def jN (n:Int):Int×Int×Int:=if -4095≤n∧n≤4095 then (szN n,if n<0 then n+2 ^ szN n-1 else n,0) else (0,0,1)
theorem zOQ (n:Int) (w:World):Calls Tryz.prog 216 #[.int .i64 n] w fun e w'=>e=.returned (.tuple #[.int .i64 (jN n).1,.int .i64 (jN n).2.1,.int .i64 (jN n).2.2])∧w=w':=by
 by_cases hin: -4095≤n∧n≤4095
 ·obtain⟨h1,h2⟩:=hin
  obtain⟨g1, -, -⟩:=zEK n h1 h2
  have hl:=zA (fun W=>zQs (Tryz.bits_Len n.natAbs W (by omega) (by omega)))
  have hf:jN n=((szN n:Int),(if n<0 then n+2 ^ szN n-1 else n),(0:Int)):=by unfold jN;rw[if_pos ⟨h1,h2⟩]
  rw[hf]
  have hsz:Lib.bitLen ((n.natAbs:Int)).toNat=szN n:=by simp[szN]
  have hmx:(n.natAbs:Int)=max n (-n):=by omega
  rw[hsz,hmx] at hl
  clear hf hsz hmx
  have p1:=zFN (szN n) 12 g1
  have p2:=zBQ (szN n)
  have p3:(2:Int) ^ 12=4096:=by decide
  rw[p3] at p1
  clear p3
  generalize szN n=s at *
  by_cases hn:n<0
  ·rw[if_pos hn]
   go_enter Tryz.func216,Tryz.ntmps216
   go_wp2_with (go_at_call 221;refine (hl.out _).mono ?_;rintro e w' ⟨rfl,rfl⟩)
   refine bodyPost_ret (results_tmp3 rfl _ _ _) rfl ?_
   refine⟨?_,rfl⟩
   have e:n+((2:Int) ^ s-1)=n+2 ^ s-1:=by omega
   show Ending.returned (Value.tuple #[Value.int .i64 s,Value.int .i64 (n+((2:Int) ^ s-1)),Value.int .i64 0])=_
   rw[e]
  ·rw[if_neg hn]
   go_enter Tryz.func216,Tryz.ntmps216
   go_wp2_with (go_at_call 221;refine (hl.out _).mono ?_;rintro e w' ⟨rfl,rfl⟩)
   refine bodyPost_ret (results_tmp3 rfl _ _ _) rfl ?_
   exact⟨rfl,rfl⟩
 ·have hf:jN n=(0,0,1):=by unfold jN;rw[if_neg hin]
  rw[hf]
  clear hf
  by_cases hn:n≤ -4096
  ·have hd:decide (n≤ -4096)=true:=by simpa using hn
   clear hin
   go_enter Tryz.func216,Tryz.ntmps216
   go_wp2_with fail
   refine bodyPost_ret (results_tmp3 rfl _ _ _) rfl ?_
   exact⟨rfl,rfl⟩
  ·have hd:decide (n≤ -4096)=false:=by simpa using hn
   have h4:4096≤n:=by omega
   clear hin
   go_enter Tryz.func216,Tryz.ntmps216
   go_wp2_with fail
   refine bodyPost_ret (results_tmp3 rfl _ _ _) rfl ?_
   exact⟨rfl,rfl⟩
def zDm (s:Int×Int×Bool):Int×Int×Bool :=
 if s.2.2 then (if s.2.1=7 then (s.1+1,s.2.1,false) else if s.1=0 then (s.1,s.2.1+1,false) else (s.1-1,s.2.1+1,true))
 else (if s.1=7 then (s.1,s.2.1+1,true) else if s.2.1=0 then (s.1+1,s.2.1,true) else (s.1+1,s.2.1-1,false))
def zst:Nat→Int×Int×Bool
 | 0=>(0,0,true)
 | k+1=>zDm (zst k)
def jM (k:Nat):Int:=8*(zst k).1+(zst k).2.1
def zigL:List Int:=(List.range 64).map jM
theorem zst_bd (k:Nat) (h:k<64):0≤(zst k).1∧(zst k).1≤7∧0≤(zst k).2.1∧(zst k).2.1≤7 :=
 (by decide+kernel: ∀ j:Fin 64,0≤(zst j.val).1∧(zst j.val).1≤7∧0≤(zst j.val).2.1∧(zst j.val).2.1≤7) ⟨k,h⟩
theorem zCP:zigL.length=64:=by simp[zigL]
theorem zKz (k:Nat) (h:k<64):zigL.take (k+1)=zigL.take k++[jM k]:=by
 rw[wC3 (by rw[zCP];exact h)]
 simp[zigL]
theorem zOC (k:Nat) (h:k<zigL.length):zigL[k]=jM k:=by simp[zigL]
theorem zFi (k:Nat) (h:k<64):0≤jM k∧jM k<64:=by
 have:=zst_bd k h
 unfold jM
 omega
def xZ (zs:List Int) (k:Nat):List Int:=(List.range k).foldl (fun l i=>l.set (jM i).toNat (zs.getD i 0)) (List.replicate 64 0)
theorem zFj (zs:List Int) (k:Nat):xZ zs (k+1)=(xZ zs k).set (jM k).toNat (zs.getD k 0):=by
 unfold xZ
 rw[wH0,List.foldl_append]
 rfl
theorem vR (zs:List Int) (k:Nat):(xZ zs k).length=64:=by
 induction k with
 | zero=>simp[xZ]
 | succ k ih=>rw[zFj];simpa using ih
def zto (zs:List Int):List Int:=(List.range 64).map fun i=>zs.getD (jM i).toNat 0
theorem uD (zs:List Int):(zto zs).length=64:=by simp[zto]
theorem zto_set (zs:List Int) (k:Nat) (h:k<64):((zto zs).take k++List.replicate (64-k) 0).set k (zs.getD (jM k).toNat 0)=(zto zs).take (k+1)++List.replicate (64-(k+1)) 0:=by
 have hl:((zto zs).take k).length=k:=by rw[wI4,uD];omega
 rw[wF6 _ _ (by omega),hl,wF7,wC3 (by rw[uD];exact h)]
 obtain⟨m,hm⟩: ∃ m,64-k=m+1:=⟨64-k-1,by omega⟩
 have hm2:64-(k+1)=m:=by omega
 rw[hm,hm2,wF8,wF9]
 simp[zto]
def jY (r n:Int):Tok:=(16*r+(jN n).1,(jN n).1,(jN n).2.1)
def long:Tok:=(240,0,0)
def zDP (s:List Tok×Nat) (n:Int):List Tok×Nat:=if n=0 then (s.1,s.2+1) else (s.1++List.replicate (s.2/16) long++[jY ((s.2%16:Nat):Int) n],0)
def zAV (t0:Tok) (l:List Int) (k:Nat):List Tok×Nat:=(l.take k).foldl zDP ([t0],0)
theorem zMc (t0:Tok) (l:List Int):zAV t0 l 0=([t0],0):=rfl
theorem zHP (t0:Tok) (l:List Int) (k:Nat) (h:k<l.length):zAV t0 l (k+1)=zDP (zAV t0 l k) l[k]:=by
 unfold zAV
 rw[wC3 h,List.foldl_append]
 rfl
theorem accT_bd (t0:Tok) (l:List Int): ∀ k,k≤l.length→k≤64→(zAV t0 l k).2≤k∧(zAV t0 l k).1.length≤1+64*k:=by
 intro k
 induction k with
 | zero=>intro _ _;simp[zMc]
 | succ k ih =>
   intro h1 h2
   obtain⟨a,b⟩:=ih (by omega) (by omega)
   rw[zHP t0 l k (by omega)]
   unfold zDP
   split
   ·simp;omega
   ·simp;omega
theorem zFR {s:List Tok×Nat} {n:Int} (h:n=0):zDP s n=(s.1,s.2+1):=by unfold zDP;rw[if_pos h]
theorem zHC {s:List Tok×Nat} {n:Int} (h:n≠0):zDP s n=(s.1++List.replicate (s.2/16) long++[jY ((s.2%16:Nat):Int) n],0):=by unfold zDP;rw[if_neg h]
def yE (before:Int) (z:List Int):List Tok :=
 let s:=zAV (jY 0 (z.getD 0 0-before)) (z.drop 1) 63
 if 0<s.2 then s.1++[(0,0,0)] else s.1
def zBP (t:Tok):Prop:=0≤t.1∧t.1≤255∧0≤t.2.1∧t.2.1≤12∧0≤t.2.2∧t.2.2<2 ^ t.2.1.toNat
theorem bitsZ_wf (n:Int):0≤(jN n).1∧(jN n).1≤12∧0≤(jN n).2.1∧(jN n).2.1<2 ^ (jN n).1.toNat:=by
 unfold jN
 split
 ·next h =>
  obtain⟨s1,s2,s3⟩:=zEK n h.1 h.2
  have p:=zBQ (szN n)
  have s2':(n.natAbs:Int)<2 ^ szN n:=by exact_mod_cast s2
  refine⟨by simp,by simp;omega, ?_, ?_⟩
  ·show 0≤(if n<0 then n+2 ^ szN n-1 else n)
   split<;>omega
  ·show (if n<0 then n+2 ^ szN n-1 else n)<2 ^ ((szN n:Nat):Int).toNat
   rw[wE8]
   split<;>omega
 ·simp
theorem tokZ_wf (r:Nat) (n:Int) (h:r≤15):zBP (jY (r:Int) n):=by
 obtain⟨a,b,c,d⟩:=bitsZ_wf n
 unfold zBP jY
 dsimp only
 exact⟨by omega,by omega,a,b,c,d⟩
theorem accT_wf (t0:Tok) (l:List Int) (h0:zBP t0): ∀ k,k≤l.length→ ∀ t∈(zAV t0 l k).1,zBP t:=by
 intro k
 induction k with
 | zero=>intro _ t ht;rw[zMc] at ht;simp at ht;subst ht;exact h0
 | succ k ih =>
   intro hk t ht
   have ih:=ih (by omega)
   rw[zHP t0 l k (by omega)] at ht
   generalize zAV t0 l k=s at *
   by_cases hz:l[k]=0
   ·rw[zFR hz] at ht;exact ih t ht
   ·rw[zHC hz] at ht
    simp only[wE5,wJ5,wJ6] at ht
    rcases ht with (ht | ⟨-,rfl⟩) | rfl
    ·exact ih t ht
    ·unfold zBP long;decide
    ·exact tokZ_wf _ _ (by omega)
theorem zFY (before:Int) (z:List Int) (hz:z.length=64): ∀ t∈yE before z,zBP t:=by
 intro t ht
 have h:=accT_wf (jY 0 (z.getD 0 0-before)) (z.drop 1) (tokZ_wf 0 _ (by omega)) 63 (by simp;omega)
 unfold yE at ht
 simp only at ht
 split at ht
 ·rcases wE5.1 ht with h1 | h1
  ·exact h t h1
  ·simp at h1;subst h1;unfold zBP;decide
 ·exact h t ht
def yT (Z:List Int) (k:Nat):List Int:=(Z.drop (k*64)).take 64
def uA (Z:List Int) (k:Nat):Int:=if k=0 then 0 else (yT Z (k-1)).getD 0 0
def zBD (Z:List Int) (k:Nat):List Tok:=yE (uA Z k) (zto (yT Z k))
def zAq (T:List Tok):List (Tok×Bool):=T.zipIdx.map fun p=>(p.1,p.2 ==0)
theorem zHQ (T:List Tok):(zAq T).length=T.length:=by simp[zAq]
theorem zQx (T:List Tok) (j:Nat) (h:j<T.length):(zAq T).drop j=(T[j],j ==0)::(zAq T).drop (j+1):=by
 rw[wG1 (by rw[zHQ];exact h)]
 simp[zAq]
def qL (Z:List Int) (n k:Nat):List (Tok×Bool):=(List.range' k (n-k)).flatMap fun i=>zAq (zBD Z i)
theorem zHE (Z:List Int) (n k:Nat) (h:k<n):qL Z n k=zAq (zBD Z k)++qL Z n (k+1):=by
 unfold qL
 rw[show n-k=(n-(k+1))+1 by omega,wJ7,wJ0]
theorem zId (Z:List Int) (n:Nat):qL Z n n=[]:=by unfold qL;simp
section
variable {σ:Type}
def jT (step:σ→Tok→Bool→Int×σ):List (Tok×Bool)→σ→Int×σ
 | [],s=>(0,s)
 | (t,b)::r,s=>if (step s t b).1≠0 then step s t b else jT step r (step s t b).2
def qD (step:σ→Tok→Bool→Int×σ) (n:Nat) (Z:List Int) (s:σ):Int×σ :=
 if 400<n then (2,s) else if zN Z (-2047) 2047=false then (1,s) else jT step (qL Z n 0) s
theorem zDU {step:σ→Tok→Bool→Int×σ} {t:Tok} {b:Bool} {r:List (Tok×Bool)} {s:σ} (h:(step s t b).1≠0):jT step ((t,b)::r) s=step s t b:=by unfold jT;rw[if_pos h]
theorem zCL {step:σ→Tok→Bool→Int×σ} {t:Tok} {b:Bool} {r:List (Tok×Bool)} {s:σ} (h:(step s t b).1=0):jT step ((t,b)::r) s=jT step r (step s t b).2:=by rw[jT,if_neg (by simp[h])]
end
theorem zHA (Z:List Int) (n k:Nat) (hz:Z.length=n*64) (h:k<n):(yT Z k).length=64:=by
 unfold yT
 rw[wI4,wJ4]
 omega
theorem zHK {Z:List Int} {k:Nat} {x:Int} (h:x∈yT Z k):x∈Z:=wG6 (wG7 h)
theorem zNZ (Z:List Int) (n:Nat) (hz:Z.length=n*64):zN Z (-2047) 2047=true↔ ∀ k,k<n→zN (yT Z k) (-2047) 2047=true:=by
 constructor
 ·intro h k _
  rw[yD] at h ⊢
  exact fun x hx=>h x (zHK hx)
 ·intro h
  rw[yD]
  intro x hx
  obtain⟨i,hi,rfl⟩:=List.getElem_of_mem hx
  have h1:=yD.1 (h (i/64) (by omega))
  have h2:(yT Z (i/64))[i%64]? =some Z[i]:=by
   unfold yT
   rw[wD0 (by omega),wB4,show i/64*64+i%64=i by omega,wA2 hi]
  exact h1 _ (wJ8 h2)
def zAr (k:Nat) (v:Int):Int:=if 0<k∧v<2 ^ (k-1) then v-(2 ^ k-1) else v
theorem back_in (k:Nat) (v:Nat) (w:World) (hk:k≤12) (h1:(v:Int)<2 ^ k):Calls Tryz.prog 188 #[.int .i64 k,.int .i64 v] w fun e w'=>e=.returned (.tuple #[.int .i64 (zAr k v),.int .i64 0])∧w=w':=by
 have p1:=zFN k 12 hk
 rw[show (2:Int) ^ 12=4096 from by decide] at p1
 have p2:=zBQ k
 by_cases h0:k=0
 ·subst h0
  have:v=0:=by simp at h1;omega
  subst this
  go_enter Tryz.func188,Tryz.ntmps188
  go_wp2_with fail
  go_ret2
  exact⟨rfl,rfl⟩
 ·obtain⟨j,rfl⟩: ∃ j,k=j+1:=⟨k-1,by omega⟩
  by_cases hv:(v:Int)<2 ^ j
  ·have hq:((v:Int)/2 ^ j ==0)=true:=by rw[Int.ediv_eq_zero_of_lt (by omega) hv];rfl
   have HF:=zA (show zAr (j+1) v=v-(2 ^ (j+1)-1) by unfold zAr;rw[if_pos ⟨by omega,hv⟩])
   clear hv
   go_enter Tryz.func188,Tryz.ntmps188
   go_wp2_with fail
   go_ret2
   exact⟨by rw[HF.out];rfl,rfl⟩
  ·have hq:((v:Int)/2 ^ j ==0)=false:=by
    have p3:=zBQ j
    have:(1:Int)≤v/2 ^ j:=(Int.le_ediv_iff_mul_le (by omega)).2 (by omega)
    simp;omega
   have HF:=zA (show zAr (j+1) v=v by unfold zAr;rw[if_neg (by simp;omega)])
   clear hv
   go_enter Tryz.func188,Tryz.ntmps188
   go_wp2_with fail
   go_ret2
   exact⟨by rw[HF.out];rfl,rfl⟩
theorem back_out (n v:Int) (w:World) (h:n<0∨(¬n<0∧12<n)∨(0≤n∧n≤12∧v<0)∨(0≤n∧n≤12∧0≤v∧2 ^ n.toNat≤v)):Calls Tryz.prog 188 #[.int .i64 n,.int .i64 v] w fun e w'=>e=.returned (.tuple #[.int .i64 0,.int .i64 1])∧w=w':=by
 rcases h with h | ⟨h1,h⟩ | ⟨h1,h2,h⟩ | ⟨h1,h2,h3,h⟩
 ·go_enter Tryz.func188,Tryz.ntmps188
  go_wp2_with fail
  go_ret2
  exact⟨rfl,rfl⟩
 ·go_enter Tryz.func188,Tryz.ntmps188
  go_wp2_with fail
  go_ret2
  exact⟨rfl,rfl⟩
 ·go_enter Tryz.func188,Tryz.ntmps188
  go_wp2_with fail
  go_ret2
  exact⟨rfl,rfl⟩
 ·obtain⟨k,rfl⟩: ∃ k:Nat,n=k:=⟨n.toNat,by omega⟩
  have hk:k≤12:=by omega
  rw[wE8] at h
  have p1:=zFN k 12 hk
  rw[show (2:Int) ^ 12=4096 from by decide] at p1
  have p2:=zBQ k
  go_enter Tryz.func188,Tryz.ntmps188
  go_wp2_with fail
  go_ret2
  exact⟨rfl,rfl⟩
def yO (n v:Int):Int×Int:=if 0≤n∧n≤12∧0≤v∧v<2 ^ n.toNat then (zAr n.toNat v,0) else (0,1)
theorem zOg (n v:Int) (w:World):Calls Tryz.prog 188 #[.int .i64 n,.int .i64 v] w fun e w'=>e=.returned (.tuple #[.int .i64 (yO n v).1,.int .i64 (yO n v).2])∧w=w':=by
 unfold yO
 by_cases h:0≤n∧n≤12∧0≤v∧v<2 ^ n.toNat
 ·rw[if_pos h]
  obtain⟨h1,h2,h3,h4⟩:=h
  obtain⟨k,rfl⟩: ∃ k:Nat,n=k:=⟨n.toNat,by omega⟩
  obtain⟨v,rfl⟩: ∃ k:Nat,v=k:=⟨v.toNat,by omega⟩
  rw[wE8] at h4 ⊢
  exact back_in k v w (by omega) h4
 ·rw[if_neg h]
  exact back_out n v w (by omega)
end Go.Proofs.YtkggcjdlpendfaaGreatDoor
