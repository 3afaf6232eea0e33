import Derived.Test.YtkggcjdlpendfaaGreatDoorRows
import Derived.JoinedCond
import Derived.Test.YtkggcjdlpendfaaGreatDoorCards
import Derived.Test.YtkggcjdlpendfaaGreatDoorTie
import Derived.Deep.DeepHandedRow
import Derived.Lib.LaidTab
import Derived.Shelf.Vars
import Derived.Test.YtkggcjdlpendfaaGreatDoorMTopFewestCard24
set_option linter.all false
set_option maxRecDepth 20000
set_option maxHeartbeats 8000000
namespace Go.Proofs.YtkggcjdlpendfaaGreatDoor
open Go.RowKit
section
attribute [local irreducible] bv z256 qC yW xV yC zto yM jW uU
def ints_head (l:List Int) (h:0<l.length):(ints l)[0]? =some (.int .i64 (l.getD 0 0)):=by
 cases l with
 | nil=>simp at h
 | cons=>rfl
def zSE {w w':World} {p:Addr} {k:Nat} {v:Value} (h:Ext w w') (hb:p.block<w.heap.size) (hc:w.cell? (p.add k)=some v):w'.cell? (p.add k)=some v:=by
 rw[←hc];unfold World.cell?;rw[yN,h.block p.block hb]
def zMe (v0 u4 u5 u13 u14:Value):Act:=⟨#[v0,undef,.slice none 0 0,.slice none 0 0,u4,u5,undef,undef,undef,undef,undef,undef,undef,u13,u14,undef,undef,undef,undef,undef,undef,undef,undef,undef,undef,undef,undef,undef,undef,undef,undef,undef,undef,undef,undef,undef,undef,undef,undef,undef,undef,undef,undef,undef,undef,undef,undef,undef,undef,undef,undef,undef,undef,undef,undef,undef,undef,undef,undef,undef,undef,undef,undef],[]⟩
def RcJ (w0:World) (v0:Value) (l:Array Bool) (a:Act) (w:World):Prop :=
 ∃ b0 b1 b2 b3 u4 u5 u13 u14,l= #[b0,b1,b2,b3]∧a=zMe v0 u4 u5 u13 u14∧Ext w0 w∧MadeAt w0 w b0 u13∧MadeAt w0 w b1 u14∧(b0=true→b1=true→u13≠u14)∧(b2=true→b0=true∧u4=u13)∧(b3=true→b1=true∧u5=u14)
def zRI (A:Option Addr) (n c:Nat) (Z:List Int) (hZ:Z.length=n*64) (hn4:n≤400) (hal:zR Z (-2047) 2047=true) (w:World) (hs:SL w 64 (.slice A n c) n (ints Z)) :
 Calls Tryz.prog 47 #[.slice A n c] w fun e w'=>Ext w w'∧ ∃ gA gB,e=.returned (.tuple #[.slice (some ⟨gA,0,none⟩) 256 256,.slice (some ⟨gB,0,none⟩) 256 256])∧Blk w' gA 3 (bv (xV yT (yW Z n 0) (z256,z256)).2.1)∧Blk w' gB 3 (bv (xV yT (yW Z n 0) (z256,z256)).2.2)∧(xV yT (yW Z n 0) (z256,z256)).2.1.length=256∧(xV yT (yW Z n 0) (z256,z256)).2.2.length=256∧w.heap.size≤gA∧w.heap.size≤gB:=by
 obtain⟨R,hR⟩: ∃ R,xV yT (yW Z n 0) (z256,z256)=R:=⟨_,rfl⟩
 have HR0:=zA hR;rw[hR];have hs':=hs;obtain⟨A',c',he,hnc,hc2, -, -⟩:=hs';injection he with he1 he2 he3
 subst he1 he3;have HP:Hid (∀ j,j<n→zR (yM Z j) (-2047) 2047=true):=zA ((zKY Z n hZ).1 hal);have HZ:=zA hZ;clear hR hal hZ;go_enter Tryz.func47,Tryz.ntmps47;go_upto_region 1 with fail
 refine zHr (RcJ w (.slice A n c)) (by kernel_rfl) ?_ ?_ ?_
 ·exact⟨false,false,false,false,undef,undef,undef,undef,rfl,rfl,(Ext.refl w).drew,(fun h=>by cases h),(fun h=>by cases h),(fun h=>by cases h),(fun h=>by cases h),(fun h=>by cases h)⟩
 ·rintro l a w1 ⟨b0,b1,b2,b3,u4,u5,u13,u14,rfl,rfl,hx,h13,h14,d,k2,k3⟩ i hi
  have hi4:i=0∨i=1∨i=2∨i=3:=by
   obtain⟨h1,o,ho, -⟩:=mem_ready.1 hi
   have:i<4:=by
    rcases wA3 i 4 with h | h
    ·exact h
    ·rw[wA4 (by simpa using h)] at ho;cases ho
   omega
  unfold zMe;rcases hi4 with rfl | rfl | rfl | rfl
  ·have r0:b0=false:=(zAf hi rfl).1;subst r0;have r2:b2=false:=by cases b2 with | false=>rfl | true=>exact absurd (k2 rfl).1 (by simp)
   subst r2;refine qN rfl ?_;refine qE rfl (some 13) rfl _ _ rfl 256 (by omega) rfl rfl ?_;intro w2 g hb hx2 hg;rw[zAk] at hb;exact⟨true,b1,false,b3,u4,u5,_,u14,rfl,rfl,hx.trans hx2,fun _=>⟨g,rfl,hb,by have:=hx.size;omega⟩,h14.ext hx2,fun _ e=>(h14.ne hg e).symm,(fun e=>by cases e),k3⟩
  ·have r1:b1=false:=(zAf hi rfl).1;subst r1;have r3:b3=false:=by cases b3 with | false=>rfl | true=>exact absurd (k3 rfl).1 (by simp)
   subst r3;refine qN rfl ?_;refine qE rfl (some 14) rfl _ _ rfl 256 (by omega) rfl rfl ?_;intro w2 g hb hx2 hg;rw[zAk] at hb;exact⟨b0,true,b2,false,u4,u5,u13,_,rfl,rfl,hx.trans hx2,h13.ext hx2,fun _=>⟨g,rfl,hb,by have:=hx.size;omega⟩,fun e _=>h13.ne hg e,k2,(fun e=>by cases e)⟩
  ·have e:=(zAf hi rfl).2;simp[Region.binds] at e;have e0:b0=true:=by simp_all
   refine qN rfl ?_;refine zB rfl u13 (zW rfl rfl) ?_;exact⟨b0,b1,true,b3,_,u5,u13,u14,rfl,rfl,hx,h13,h14,d,fun _=>⟨e0,rfl⟩,k3⟩
  ·have e:=(zAf hi rfl).2;simp[Region.binds] at e;have e0:b1=true:=by simp_all
   refine qN rfl ?_;refine zB rfl u14 (zW rfl rfl) ?_;exact⟨b0,b1,b2,true,u4,_,u13,u14,rfl,rfl,hx,h13,h14,d,k2,fun _=>⟨e0,rfl⟩⟩
 ·rintro l a w1 ⟨b0,b1,b2,b3,u4,u5,u13,u14,rfl,rfl,hx,h13,h14,d,k2,k3⟩ hr;have no: ∀ i, ¬i∈Region.ready .any _ #[b0,b1,b2,b3]:=fun i hi=>by rw[hr] at hi;cases hi
  have r0:b0=true:=by
   cases b0 with
   | true=>rfl
   | false=>exact absurd (mem_ready.2 ⟨rfl,_,rfl,by simp⟩) (no 0)
  have r1:b1=true:=by
   cases b1 with
   | true=>rfl
   | false=>exact absurd (mem_ready.2 ⟨rfl,_,rfl,by simp⟩) (no 1)
  subst r0 r1
  have r2:b2=true:=by
   cases b2 with
   | true=>rfl
   | false=>exact absurd (mem_ready.2 ⟨rfl,_,rfl,by simp[Region.binds]⟩) (no 2)
  subst r2
  have r3:b3=true:=by
   cases b3 with
   | true=>rfl
   | false=>exact absurd (mem_ready.2 ⟨rfl,_,rfl,by simp[Region.binds]⟩) (no 3)
  subst r3;obtain⟨-,rfl⟩:=k2 rfl;obtain⟨-,rfl⟩:=k3 rfl;obtain⟨gA,rfl,hbA,hlA⟩:=h13 rfl;obtain⟨gB,rfl,hbB,hlB⟩:=h14 rfl;have hne:gA≠gB:=fun e=>d rfl rfl (by rw[e])
  unfold zMe;clear h13 h14 d k2 k3 hr no;have HAL:=zA (show (Tryz.prog.info? 33).bind (·.zero)=some (.agg (bv (List.replicate 64 0))) from qU);have hz0:=zA (show (Value.agg (bv (List.replicate 64 0))).cells.size=64 by rw[show (Value.agg (bv (List.replicate 64 0))).cells=bv (List.replicate 64 0) from rfl,zK];rfl);generalize bv (List.replicate 64 0)=cz at *;go_wp2_with fail;obtain⟨wo,rfl⟩: ∃ wo:World,wo=w1:=⟨_,rfl⟩
  go_loopw [17] (fun i wr=> ∃ (k:Nat) (s:List Int×List Int),k≤n∧i=.int .i64 (k:Int)∧Blk wr gA 3 (bv s.1)∧Blk wr gB 3 (bv s.2)∧Hid (s.1.length=256)∧Hid (s.2.length=256)∧Ext w wr∧Hid (xV yT (yW Z n k) s=R)) (fun i _=>n-(intOf i).toNat)
  case atStart=>exact⟨0,(z256,z256),by omega,rfl,hbA,hbB,zA zCV,zA zCV,hx,HR0⟩
  case round =>
   clear hbA hbB hx HR0;obtain⟨k,s,hk,rfl,hbA,hbB,HLA,HLB,hx,HR⟩:=hrel
   by_cases hlt:k<n
   ·obtain⟨ad,rfl,hab,hca⟩:=(hs.ext hx).part hlt;have hbl:=zEH Z n k HZ.out hlt;have e:((ints Z).drop (k*64)).take 64=ints (yM Z k):=by unfold yM;simp[ints,wH2,wH1]
    rw[e] at hca;clear e;have HCA:=zA hca;have HB:=zA hbl;have HSZ:=zA (show (bv (yM Z k)).size=64 by rw[zK];exact hbl);have HO1:=zA (xE (yM Z k));have HBV:=zA (zGN (yM Z k));have hal:=HP.out k hlt;have hzh:=zHV hal 0 (by omega) (by omega);rw[←zKu] at hzh;have hbf:=zQX (Z:=Z) (k:=k) (fun j hj=>HP.out j (by omega));have HT:=zA (fun W=>zOe (jW Z k) (yM Z k) W HB.out hbf.1 hbf.2 hal hzh.1 hzh.2);rw[←zEb] at HT;have HWF:Hid (∀ t∈uU Z k,zBW t):=zA (by rw[zEb];exact zEg _ _ (jK _));have HR1:Hid (xV yT ((vV (uU Z k)).drop 0++yW Z n (k+1)) s=R):=zA (by rw[wL3, ←zDL Z n k hlt];exact HR.out);obtain⟨T,hT⟩: ∃ T,T=uU Z k:=⟨_,rfl⟩
    rw[←hT] at HT HWF HR1;obtain⟨m,hm⟩: ∃ m,T.length=m:=⟨_,rfl⟩
    have HM:=zA hm;rw[hm] at HT;clear hT hm hca hbl hal hzh hbf HR
    by_cases hk0:k=0
    ·have HB0:Hid (jW Z k=0):=zA (by rw[hk0,befAt_0]);rw[HB0.out] at HT;have HKB:Hid (decide ((0:Int)<(k:Int))=false):=zA (by rw[wL1];omega);clear hk0
     go_wp2_with (first
      | ((with_reducible apply gS 23);refine zB rfl _ (xU rfl rfl rfl HKB.out) ?_)
      | ((with_reducible apply gS 21);refine yI (by rfl) 33 (.tmp 20) rfl (ad.add (k*64)) rfl (ints (yM Z k)) _ HCA.out Tryz.underlying33 rfl (by rw[yA,HB.out];exact zH) ?_;rw[HBV.out])
      | ((with_reducible apply gS 7);refine wAlo' rfl (some 7) rfl 33 rfl _ HAL.out ?_;intro w1 g1 hb1 hx1 hg1)
      | ((with_reducible apply gT 7 21);refine wStB rfl 33 (.tmp 7) (.tmp 21) rfl _ _ rfl rfl hb1 64 zH HSZ.out hz0.out HO1.out ?_;intro w2 hb2 hg2;have hx2:=hx1.grown hg2 hg1)
      | ((with_reducible apply gS 32);refine wLdB rfl 33 (.tmp 7) rfl g1 rfl hb2 _ Tryz.underlying33 rfl 64 zH HSZ.out ?_)
      | (go_at_call 105;(with_reducible refine (HT.out _).mono ?_);rintro e w3 ⟨D,d,rfl,hs3,hf3,hx3⟩))
     have hx3':Ext wr w3:=hx2.trans hx3;have hA3:=hbA.ext hx3';have hB3:=hbB.ext hx3';have hxw:=hx.trans hx3';have HDA:Hid (∀ ad,D=some ad→ad.block≠gA∧ad.block≠gB):=zA (fun ad e=>by have:=hf3 ad e;have:=hbA.lt;have:=hbB.lt;have:=hx2.size;omega);have hs3c:=hs3;obtain⟨D',d'',he3,hmd,hd2, -, -⟩:=hs3c;injection he3 with q1 q2 q3
     subst q1 q3;have hm1:m≤9223372036854775807:=by omega
     clear hx hbA hbB hb1 hx1 hg1 hb2 hg2 hx2 hx3 hf3 hx3' q2 HT HCA HB HSZ HO1 HBV
     go_loopw [38] (fun i wi=> ∃ (j:Nat) (p:List Int×List Int),j≤m∧i=.int .i64 (j:Int)∧Blk wi gA 3 (bv p.1)∧Blk wi gB 3 (bv p.2)∧Hid (p.1.length=256)∧Hid (p.2.length=256)∧Ext w wi∧SL wi 3 (.slice D m d) m (qC T)∧Hid (xV yT ((vV T).drop j++yW Z n (k+1)) p=R)) (fun i _=>m-(intOf i).toNat)
     case atStart=>exact⟨0,s,by omega,rfl,hA3,hB3,HLA,HLB,hxw,hs3,HR1⟩
     case round =>
      clear hA3 hB3 HLA HLB hxw hs3 HR1;obtain⟨wo2,rfl⟩: ∃ wo2:World,wo2=w3:=⟨_,rfl⟩
      obtain⟨j,p,hj,rfl,hbA,hbB,HLA,HLB,hx,hst,HR⟩:=hrel
      by_cases hlj:j<m
      ·obtain⟨td,rfl,htb,htc⟩:=hst.part hlj;have hjT:j<T.length:=by rw[HM.out];exact hlj
       rw[zEO T j hjT] at htc;have HTC:=zA htc;have HRj:Hid (xV yT ((T[j],j ==0)::((vV T).drop (j+1)++yW Z n (k+1))) p=R):=zA (by have:=HR.out;rw[zHS T j hjT,wL4] at this;exact this);have hwf:=HWF.out T[j] (wE2 hjT);generalize T[j]=t at *;obtain⟨t1,t2,t3⟩:=t;obtain⟨hw1,hw2, -⟩:=hwf;dsimp only at hw1 hw2;obtain⟨y,hy⟩: ∃ y:Nat,t1=(y:Int):=⟨t1.toNat,by omega⟩
       subst hy;have hy2:y<256:=by omega
       have hy3:(y:Int)<256:=by omega
       have hyA:y<p.1.length:=by rw[HLA.out];exact hy2
       have hyB:y<p.2.length:=by rw[HLB.out];exact hy2
       have HFA:=zA (show p.1.getD y 0=p.1[y] by simp[wF4,hyA]);have HFB:=zA (show p.2.getD y 0=p.2[y] by simp[wF4,hyB]);have HDD:=zA (HDA.out td rfl);clear htc HR
       by_cases hj0:j=0
       ·have HJB:Hid (decide ((j:Int)=0)=true):=zA (by rw[wL0];omega)
        have HRn:Hid (xV yT ((vV T).drop (j+1)++yW Z n (k+1)) (vW p.1 y,p.2)=R):=zA (by
         have h:=HRj.out;rw[show (j ==0)=true by simp[hj0],zAv rfl] at h
         simpa [yT] using h)
        clear hj0
        go_wp2_with (first
         | ((with_reducible apply gS 44);refine zB rfl _ (jQ rfl rfl rfl HJB.out) ?_)
         | ((with_reducible apply gS 42);refine yI (by rfl) 149 (.tmp 41) rfl (td.add (j*3)) rfl (xN ((y:Int),t2,t3)) _ HTC.out Tryz.underlying149 rfl zEL ?_)
         | ((with_reducible apply gS 12);refine wAlo' rfl (some 12) rfl 149 rfl (.agg (xN (0,0,0)).toArray) (by kernel_rfl) ?_;intro w4 g12 hb4 hx4 hg4)
         | ((with_reducible apply gT 12 42);refine wStB rfl 149 (.tmp 12) (.tmp 42) rfl _ _ rfl rfl hb4 3 yP rfl rfl (jD _) ?_;intro w5 hb5 hg5;have hx5:Ext wr w5:=hx4.grown hg5 hg4;have hbA5:=hbA.ext hx5;have q0:w5.cell? ⟨g12,0,none⟩=some (.int .i64 (y:Int)):=hb5.cell 0;have hc1:w5.cell? ⟨gA,y,none⟩=some (.int .i64 p.1[y]):=(hbA5.cell y).trans (qK p.1 y hyA);have hz1:=hbA5.frozen y)
         | ((with_reducible apply gS 50);refine zB rfl (.int .i64 (wrap64 (p.1[y]+1))) (qT rfl rfl rfl (zFB _)) ?_))
        go_roundw
        case rel =>
         have hbA7:=hbA5.set_ y (.int .i64 (wrap64 (p.1[y]+1)));rw[jO] at hbA7;refine⟨j+1,(vW p.1 y,p.2),by omega,by go_num, ?_,(hbB.ext hx5).far (p:=⟨gA,y,none⟩) hne.symm _,zA (by rw[zFu];exact HLA.out),HLB,(hx.trans hx5).setCell hlA _, ?_,HRn⟩
         ·have e:vW p.1 y=p.1.set y (wrap64 (p.1[y]+1)):=by unfold vW;rw[HFA.out]
          rw[e];exact hbA7
         ·exact (hst.ext hx5).updq (Upd.setCell (S:=fun x=>x=gA) (Upd.refl _ _) (p:=⟨gA,y,none⟩) rfl _) (fun ad' e' _=>by injection e' with e';rw[←e'];exact HDD.out.1)
        case measure=>simp[intOf];omega
       ·have HJB:Hid (decide ((j:Int)=0)=false):=zA (by rw[wL1];omega)
        have HRn:Hid (xV yT ((vV T).drop (j+1)++yW Z n (k+1)) (p.1,vW p.2 y)=R):=zA (by
         have h:=HRj.out;rw[show (j ==0)=false by simp[hj0],zAv rfl] at h
         simpa [yT] using h)
        clear hj0
        go_wp2_with (first
         | ((with_reducible apply gS 44);refine zB rfl _ (jQ rfl rfl rfl HJB.out) ?_)
         | ((with_reducible apply gS 42);refine yI (by rfl) 149 (.tmp 41) rfl (td.add (j*3)) rfl (xN ((y:Int),t2,t3)) _ HTC.out Tryz.underlying149 rfl zEL ?_)
         | ((with_reducible apply gS 12);refine wAlo' rfl (some 12) rfl 149 rfl (.agg (xN (0,0,0)).toArray) (by kernel_rfl) ?_;intro w4 g12 hb4 hx4 hg4)
         | ((with_reducible apply gT 12 42);refine wStB rfl 149 (.tmp 12) (.tmp 42) rfl _ _ rfl rfl hb4 3 yP rfl rfl (jD _) ?_;intro w5 hb5 hg5;have hx5:Ext wr w5:=hx4.grown hg5 hg4;have hbA5:=hbB.ext hx5;have q0:w5.cell? ⟨g12,0,none⟩=some (.int .i64 (y:Int)):=hb5.cell 0;have hc1:w5.cell? ⟨gB,y,none⟩=some (.int .i64 p.2[y]):=(hbA5.cell y).trans (qK p.2 y hyB);have hz1:=hbA5.frozen y)
         | ((with_reducible apply gS 57);refine zB rfl (.int .i64 (wrap64 (p.2[y]+1))) (qT rfl rfl rfl (zFB _)) ?_))
        go_roundw
        case rel =>
         have hbA7:=hbA5.set_ y (.int .i64 (wrap64 (p.2[y]+1)));rw[jO] at hbA7;refine⟨j+1,(p.1,vW p.2 y),by omega,by go_num,(hbA.ext hx5).far (p:=⟨gB,y,none⟩) hne _, ?_,HLA,zA (by rw[zFu];exact HLB.out),(hx.trans hx5).setCell hlB _, ?_,HRn⟩
         ·have e:vW p.2 y=p.2.set y (wrap64 (p.2[y]+1)):=by unfold vW;rw[HFB.out]
          rw[e];exact hbA7
         ·exact (hst.ext hx5).updq (Upd.setCell (S:=fun x=>x=gB) (Upd.refl _ _) (p:=⟨gB,y,none⟩) rfl _) (fun ad' e' _=>by injection e' with e';rw[←e'];exact HDD.out.2)
        case measure=>simp[intOf];omega
      ·have hjm:j=m:=by omega
       have HRn:Hid (xV yT (yW Z n (k+1)) p=R):=zA (by have h:=HR.out;rw[wG5 (by rw[zEI,HM.out];omega),wL5] at h;exact h);go_wp2_with fail;go_roundw
       case rel=>exact⟨k+1,p,by omega,by go_num,hbA,hbB,HLA,HLB,hx,HRn⟩
       case measure=>simp[intOf];omega
    ·have HKB:Hid (decide ((0:Int)<(k:Int))=true):=zA (by rw[wL0];omega);have hk1:1≤k:=by omega
     have HBS:Hid (jW Z k=(yM Z (k-1)).getD 0 0):=zA (by rw[←zMN,show k-1+1=k by omega])
     have HPR:Hid (∃ ad',some ad=some ad'∧zAJ wr (ad'.add ((k-1)*64)) (ints (yM Z (k-1)))):=zA (by
      obtain⟨ad',e1, -,h2⟩:=(hs.ext hx).part (k:=k-1) (by omega);have e:((ints Z).drop ((k-1)*64)).take 64=ints (yM Z (k-1)):=by unfold yM;simp[ints,wH2,wH1]
      rw[e] at h2
      exact⟨ad',e1,h2⟩)
     have hcp:wr.cell? (ad.add ((k-1)*64))=some (.int .i64 (jW Z k)):=by
      obtain⟨ad',e1,h2⟩:=HPR.out;injection e1 with e1
      subst e1;have hl1:=zEH Z n (k-1) HZ.out (by omega);have h3:=h2 0 (.int .i64 (jW Z k)) (by rw[HBS.out];exact ints_head _ (by omega));exact h3
     have HCP:=zA hcp;clear hcp HPR HBS;generalize jW Z k=bf at *;clear hk0
     go_wp2_with (first
      | ((with_reducible apply gS 23);refine zB rfl _ (xU rfl rfl rfl HKB.out) ?_)
      | ((with_reducible apply gS 21);refine yI (by rfl) 33 (.tmp 20) rfl (ad.add (k*64)) rfl (ints (yM Z k)) _ HCA.out Tryz.underlying33 rfl (by rw[yA,HB.out];exact zH) ?_;rw[HBV.out])
      | ((with_reducible apply gS 7);refine wAlo' rfl (some 7) rfl 33 rfl _ HAL.out ?_;intro w1 g1 hb1 hx1 hg1)
      | ((with_reducible apply gT 7 21);refine wStB rfl 33 (.tmp 7) (.tmp 21) rfl _ _ rfl rfl hb1 64 zH HSZ.out hz0.out HO1.out ?_;intro w2 hb2 hg2;have hx2:=hx1.grown hg2 hg1;have hcp2:w2.cell? (ad.add ((k-1)*64))=some (.int .i64 bf):=zSE hx2 hab HCP.out)
      | ((with_reducible apply gS 26);refine zB rfl (.int .i64 ((k-1:Nat):Int)) (qT rfl rfl rfl (zHN k 1 (by omega) (by omega))) ?_)
      | ((with_reducible apply gS 29);refine xC rfl (.int .i64 bf) (zV rfl rfl hcp2) ?_)
      | ((with_reducible apply gS 32);refine wLdB rfl 33 (.tmp 7) rfl g1 rfl hb2 _ Tryz.underlying33 rfl 64 zH HSZ.out ?_)
      | (go_at_call 105;(with_reducible refine (HT.out _).mono ?_);rintro e w3 ⟨D,d,rfl,hs3,hf3,hx3⟩))
     have hx3':Ext wr w3:=hx2.trans hx3;have hA3:=hbA.ext hx3';have hB3:=hbB.ext hx3';have hxw:=hx.trans hx3';have HDA:Hid (∀ ad,D=some ad→ad.block≠gA∧ad.block≠gB):=zA (fun ad e=>by have:=hf3 ad e;have:=hbA.lt;have:=hbB.lt;have:=hx2.size;omega);have hs3c:=hs3;obtain⟨D',d'',he3,hmd,hd2, -, -⟩:=hs3c;injection he3 with q1 q2 q3
     subst q1 q3;have hm1:m≤9223372036854775807:=by omega
     clear hx hbA hbB hb1 hx1 hg1 hb2 hg2 hx2 hx3 hf3 hx3' q2 HT HCA HB HSZ HO1 HBV
     go_loopw [38] (fun i wi=> ∃ (j:Nat) (p:List Int×List Int),j≤m∧i=.int .i64 (j:Int)∧Blk wi gA 3 (bv p.1)∧Blk wi gB 3 (bv p.2)∧Hid (p.1.length=256)∧Hid (p.2.length=256)∧Ext w wi∧SL wi 3 (.slice D m d) m (qC T)∧Hid (xV yT ((vV T).drop j++yW Z n (k+1)) p=R)) (fun i _=>m-(intOf i).toNat)
     case atStart=>exact⟨0,s,by omega,rfl,hA3,hB3,HLA,HLB,hxw,hs3,HR1⟩
     case round =>
      clear hA3 hB3 HLA HLB hxw hs3 HR1;obtain⟨wo2,rfl⟩: ∃ wo2:World,wo2=w3:=⟨_,rfl⟩
      obtain⟨j,p,hj,rfl,hbA,hbB,HLA,HLB,hx,hst,HR⟩:=hrel
      by_cases hlj:j<m
      ·obtain⟨td,rfl,htb,htc⟩:=hst.part hlj;have hjT:j<T.length:=by rw[HM.out];exact hlj
       rw[zEO T j hjT] at htc;have HTC:=zA htc;have HRj:Hid (xV yT ((T[j],j ==0)::((vV T).drop (j+1)++yW Z n (k+1))) p=R):=zA (by have:=HR.out;rw[zHS T j hjT,wL4] at this;exact this);have hwf:=HWF.out T[j] (wE2 hjT);generalize T[j]=t at *;obtain⟨t1,t2,t3⟩:=t;obtain⟨hw1,hw2, -⟩:=hwf;dsimp only at hw1 hw2;obtain⟨y,hy⟩: ∃ y:Nat,t1=(y:Int):=⟨t1.toNat,by omega⟩
       subst hy;have hy2:y<256:=by omega
       have hy3:(y:Int)<256:=by omega
       have hyA:y<p.1.length:=by rw[HLA.out];exact hy2
       have hyB:y<p.2.length:=by rw[HLB.out];exact hy2
       have HFA:=zA (show p.1.getD y 0=p.1[y] by simp[wF4,hyA]);have HFB:=zA (show p.2.getD y 0=p.2[y] by simp[wF4,hyB]);have HDD:=zA (HDA.out td rfl);clear htc HR
       by_cases hj0:j=0
       ·have HJB:Hid (decide ((j:Int)=0)=true):=zA (by rw[wL0];omega)
        have HRn:Hid (xV yT ((vV T).drop (j+1)++yW Z n (k+1)) (vW p.1 y,p.2)=R):=zA (by
         have h:=HRj.out;rw[show (j ==0)=true by simp[hj0],zAv rfl] at h
         simpa [yT] using h)
        clear hj0
        go_wp2_with (first
         | ((with_reducible apply gS 44);refine zB rfl _ (jQ rfl rfl rfl HJB.out) ?_)
         | ((with_reducible apply gS 42);refine yI (by rfl) 149 (.tmp 41) rfl (td.add (j*3)) rfl (xN ((y:Int),t2,t3)) _ HTC.out Tryz.underlying149 rfl zEL ?_)
         | ((with_reducible apply gS 12);refine wAlo' rfl (some 12) rfl 149 rfl (.agg (xN (0,0,0)).toArray) (by kernel_rfl) ?_;intro w4 g12 hb4 hx4 hg4)
         | ((with_reducible apply gT 12 42);refine wStB rfl 149 (.tmp 12) (.tmp 42) rfl _ _ rfl rfl hb4 3 yP rfl rfl (jD _) ?_;intro w5 hb5 hg5;have hx5:Ext wr w5:=hx4.grown hg5 hg4;have hbA5:=hbA.ext hx5;have q0:w5.cell? ⟨g12,0,none⟩=some (.int .i64 (y:Int)):=hb5.cell 0;have hc1:w5.cell? ⟨gA,y,none⟩=some (.int .i64 p.1[y]):=(hbA5.cell y).trans (qK p.1 y hyA);have hz1:=hbA5.frozen y)
         | ((with_reducible apply gS 50);refine zB rfl (.int .i64 (wrap64 (p.1[y]+1))) (qT rfl rfl rfl (zFB _)) ?_))
        go_roundw
        case rel =>
         have hbA7:=hbA5.set_ y (.int .i64 (wrap64 (p.1[y]+1)));rw[jO] at hbA7;refine⟨j+1,(vW p.1 y,p.2),by omega,by go_num, ?_,(hbB.ext hx5).far (p:=⟨gA,y,none⟩) hne.symm _,zA (by rw[zFu];exact HLA.out),HLB,(hx.trans hx5).setCell hlA _, ?_,HRn⟩
         ·have e:vW p.1 y=p.1.set y (wrap64 (p.1[y]+1)):=by unfold vW;rw[HFA.out]
          rw[e];exact hbA7
         ·exact (hst.ext hx5).updq (Upd.setCell (S:=fun x=>x=gA) (Upd.refl _ _) (p:=⟨gA,y,none⟩) rfl _) (fun ad' e' _=>by injection e' with e';rw[←e'];exact HDD.out.1)
        case measure=>simp[intOf];omega
       ·have HJB:Hid (decide ((j:Int)=0)=false):=zA (by rw[wL1];omega)
        have HRn:Hid (xV yT ((vV T).drop (j+1)++yW Z n (k+1)) (p.1,vW p.2 y)=R):=zA (by
         have h:=HRj.out;rw[show (j ==0)=false by simp[hj0],zAv rfl] at h
         simpa [yT] using h)
        clear hj0
        go_wp2_with (first
         | ((with_reducible apply gS 44);refine zB rfl _ (jQ rfl rfl rfl HJB.out) ?_)
         | ((with_reducible apply gS 42);refine yI (by rfl) 149 (.tmp 41) rfl (td.add (j*3)) rfl (xN ((y:Int),t2,t3)) _ HTC.out Tryz.underlying149 rfl zEL ?_)
         | ((with_reducible apply gS 12);refine wAlo' rfl (some 12) rfl 149 rfl (.agg (xN (0,0,0)).toArray) (by kernel_rfl) ?_;intro w4 g12 hb4 hx4 hg4)
         | ((with_reducible apply gT 12 42);refine wStB rfl 149 (.tmp 12) (.tmp 42) rfl _ _ rfl rfl hb4 3 yP rfl rfl (jD _) ?_;intro w5 hb5 hg5;have hx5:Ext wr w5:=hx4.grown hg5 hg4;have hbA5:=hbB.ext hx5;have q0:w5.cell? ⟨g12,0,none⟩=some (.int .i64 (y:Int)):=hb5.cell 0;have hc1:w5.cell? ⟨gB,y,none⟩=some (.int .i64 p.2[y]):=(hbA5.cell y).trans (qK p.2 y hyB);have hz1:=hbA5.frozen y)
         | ((with_reducible apply gS 57);refine zB rfl (.int .i64 (wrap64 (p.2[y]+1))) (qT rfl rfl rfl (zFB _)) ?_))
        go_roundw
        case rel =>
         have hbA7:=hbA5.set_ y (.int .i64 (wrap64 (p.2[y]+1)));rw[jO] at hbA7;refine⟨j+1,(p.1,vW p.2 y),by omega,by go_num,(hbA.ext hx5).far (p:=⟨gB,y,none⟩) hne _, ?_,HLA,zA (by rw[zFu];exact HLB.out),(hx.trans hx5).setCell hlB _, ?_,HRn⟩
         ·have e:vW p.2 y=p.2.set y (wrap64 (p.2[y]+1)):=by unfold vW;rw[HFB.out]
          rw[e];exact hbA7
         ·exact (hst.ext hx5).updq (Upd.setCell (S:=fun x=>x=gB) (Upd.refl _ _) (p:=⟨gB,y,none⟩) rfl _) (fun ad' e' _=>by injection e' with e';rw[←e'];exact HDD.out.2)
        case measure=>simp[intOf];omega
      ·have hjm:j=m:=by omega
       have HRn:Hid (xV yT (yW Z n (k+1)) p=R):=zA (by have h:=HR.out;rw[wG5 (by rw[zEI,HM.out];omega),wL5] at h;exact h);go_wp2_with fail;go_roundw
       case rel=>exact⟨k+1,p,by omega,by go_num,hbA,hbB,HLA,HLB,hx,HRn⟩
       case measure=>simp[intOf];omega
   ·have hkn:k=n:=by omega
    have HRE:Hid (R=(0,s)):=zA (by rw[←HR.out,hkn,zGF];unfold xV;rfl);go_wp2_with fail;refine bodyPost_ret (results_tmp2 rfl _ _ _) rfl ?_;rw[HRE.out];exact⟨hx,gA,gB,rfl,hbA,hbB,HLA.out,HLB.out,hlA,hlB⟩
end
def zSi {n E i:Nat} {Z:List Int} (hZ:Z.length=n*64) (cnt:Nat) (hc:min (n-i*E) E=cnt):((ints (Z.drop (i*E*64))).drop (cnt*64)).take ((n-i*E-cnt)*64)=ints (Z.drop ((i+1)*E*64)):=by
 have h1:((ints (Z.drop (i*E*64))).drop (cnt*64))=ints (Z.drop ((i+1)*E*64)):=by
  have e:(ints (Z.drop (i*E*64))).drop (cnt*64)=ints (Z.drop (i*E*64+cnt*64)):=by
   simp only[ints,wH2,wM4]
  rw[e];congr 1
  by_cases h:E≤n-i*E
  ·have:cnt=E:=by omega
   subst this;rw[wO9,wJ8]
  ·have h2:cnt=n-i*E:=by omega
   rw[wM5 (by rw[hZ];omega),wM5 (by rw[hZ,wO9];exact wJ0 _ (by omega))]
 rw[h1,wC4];rw[yA,wK1,hZ, ←Nat.sub_mul,wO9];exact wJ0 _ (by omega)
def SL.topC {w:World} {A:Option Addr} {n c h:Nat} {xs:List Value} (hs:SL w 64 (.slice A n c) n xs) (hh:h≤n):SL w 64 (.slice A h c) h (xs.take (h*64)):=by
 have:=hs.subK (l:=0) (h:=h) (by omega) hh;simpa [subA_0] using this
def each_0c (n:Nat) (Z:List Int) (s:List Int×List Int) (h:qL n Z=0):n≤400∧zR Z (-2047) 2047=true∧xZ yT n Z s=xV yT (yW Z n 0) s:=by
 unfold qL at h;unfold xZ
 by_cases h1:400<n
 ·rw[if_pos h1] at h;cases h
 ·rw[if_neg h1] at h ⊢
  cases h2:zR Z (-2047) 2047 with
  | false=>rw[h2] at h;cases h
  | true=>exact⟨by omega,rfl,by simp⟩
section
attribute [local irreducible] bv z256 xZ yX yE xI ints zDM zAg vZ
def zRV (e n:Nat) (he:e≤1000000) (A:Option Addr) (c:Nat) (Z:List Int) (hZ:Z.length=n*64) (hE:qL n Z=0) (w:World) (hs:SL w 64 (.slice A n c) n (ints Z)) :
 Calls Tryz.prog 18 #[.slice A n c,.int .i64 (e:Int)] w fun en w'=> ∃ gF gSq,en=.returned (.tuple #[.slice (some ⟨gF,0,none⟩) 256 256,.slice (some ⟨gSq,0,none⟩) 256 256])∧Blk w' gF 3 (bv (xI n e Z (yG n e)).1)∧Blk w' gSq 3 (bv (xI n e Z (yG n e)).2)∧(xI n e Z (yG n e)).1.length=256∧(xI n e Z (yG n e)).2.length=256∧Ext w w':=by
 have hn4:=(zCh.1 hE).1;have HSP:=zA (fun W=>zSx n e (by omega) he W);have HZ:=zA hZ;have HE:=zA hE;have HS:=zA hs;have hK:yG n e≤n+1:=zDj;have hnc:n≤c:=by obtain⟨A',c',q,q1,q2, -, -⟩:=hs;injection q with q3 q4 q5;omega
 have hrest:Hid (SL w 64 (.slice A n c) n (ints (Z.drop (0*yE n e*64)))):=zA (by rw[wQ0,wQ0,wL3];exact hs);obtain⟨K,hKK⟩: ∃ K,yG n e=K:=⟨_,rfl⟩
 rw[hKK] at HSP hK ⊢;clear hKK hZ hE hs;have h0:Hid (xI n e Z 0=(z256,z256)):=zA (by unfold xI;rfl);have HNX:=zA (fun k=>(show xI n e Z (k+1)=(zDM (xI n e Z k).1 (xZ yT (min (n-k*yE n e) (yE n e)) (yX n e k Z) (z256,z256)).2.1,zDM (xI n e Z k).2 (xZ yT (min (n-k*yE n e) (yE n e)) (yX n e k Z) (z256,z256)).2.2) by rw[xI]));go_enter Tryz.func18,Tryz.ntmps18;go_upto_region 1 with fail
 try simp only[Act.put,sA,sB,sC]
 go_cut [6,7] from 13 to 14 (fun fv sv wx=> ∃ gF gSq,fv=.slice (some ⟨gF,0,none⟩) 256 256∧sv=.slice (some ⟨gSq,0,none⟩) 256 256∧Blk wx gF 3 (bv z256)∧Blk wx gSq 3 (bv z256)∧gF≠gSq∧w.heap.size≤gF∧w.heap.size≤gSq∧Ext w wx)
 case first =>
  clear HSP HZ HE HS HNX h0;refine jB (fun _=>false) (fun _=>True) (by kernel_rfl) ?_;refine zJM (k:=0) (l:=1) (by kernel_rfl) rfl rfl ?_ ?_
  · --
    refine qE rfl (some 13) rfl _ _ rfl 256 (by omega) rfl rfl ?_;intro w2 gF hF hy2 hgF;rw[zAk] at hF;refine zX ⟨fun h=>(by cases h), ?_⟩;simp only[Act.put,sA,sB,sC];refine zG (k:=2) (by kernel_rfl) rfl (by rfl) (.slice (some ⟨gF,0,none⟩) 256 256) (zW rfl rfl) ?_;simp only[sP,sB,sC];refine xR (k:=1) (by kernel_rfl) rfl ?_;refine qE rfl (some 14) rfl _ _ rfl 256 (by omega) rfl rfl ?_;intro w3 gSq hS hy3 hgS;rw[zAk] at hS;refine zX ⟨fun h=>(by cases h), ?_⟩;simp only[Act.put,sA,sB,sC];refine zG (k:=3) (by kernel_rfl) rfl (by rfl) (.slice (some ⟨gSq,0,none⟩) 256 256) (zW rfl rfl) ?_;simp only[sP,sB,sC];refine vP (by kernel_rfl) ?_;go_wp2_with fail;go_meet;have hs0:w.heap.size≤w.drew.heap.size:=wA5 _;have hl:=hF.lt;have hsz:=hy2.size;refine⟨gF,gSq,rfl,rfl,hF.ext hy3,hS,by omega,by omega,by omega,(Ext.refl w).drew.trans (hy2.trans hy3)⟩
  · --
    refine qE rfl (some 14) rfl _ _ rfl 256 (by omega) rfl rfl ?_;intro w2 gSq hS hy2 hgS;rw[zAk] at hS;refine zX ⟨fun h=>(by cases h), ?_⟩;simp only[Act.put,sA,sB,sC];refine xR (k:=0) (by kernel_rfl) rfl ?_;refine qE rfl (some 13) rfl _ _ rfl 256 (by omega) rfl rfl ?_;intro w3 gF hF hy3 hgF;rw[zAk] at hF;refine zX ⟨fun h=>(by cases h), ?_⟩;simp only[Act.put,sA,sB,sC];refine zG (k:=2) (by kernel_rfl) rfl (by rfl) (.slice (some ⟨gF,0,none⟩) 256 256) (zW rfl rfl) ?_;simp only[sP,sB,sC];refine zG (k:=3) (by kernel_rfl) rfl (by rfl) (.slice (some ⟨gSq,0,none⟩) 256 256) (zW rfl rfl) ?_;simp only[sP,sB,sC];refine vP (by kernel_rfl) ?_;go_wp2_with fail;go_meet;have hs0:w.heap.size≤w.drew.heap.size:=wA5 _;have hl:=hS.lt;have hsz:=hy2.size;refine⟨gF,gSq,rfl,rfl,hF,hS.ext hy3,by omega,by omega,by omega,(Ext.refl w).drew.trans (hy2.trans hy3)⟩
 case rest =>
 obtain⟨gF,gSq,e1,e2,hF,hS,hne,hgF0,hgS0,hx2⟩:=hcut;subst e1 e2
 go_wp2_with (first
  | (go_at_call 46;(with_reducible refine (HSP.out _).mono ?_);rintro e3 w3 ⟨B3,d3,rfl,hsp,hx3,hB3⟩))
 have hF3:Blk w3 gF 3 (bv (xI n e Z 0).1):=by rw[h0.out];exact hF.ext hx3
 have hS3:Blk w3 gSq 3 (bv (xI n e Z 0).2):=by rw[h0.out];exact hS.ext hx3
 have hx03:=hx2.trans hx3;have hl0:(xI n e Z 0).1.length=256∧(xI n e Z 0).2.length=256:=by rw[h0.out];exact⟨zCV,zCV⟩
 have hB4: ∀ ad,B3=some ad→ad.block≠gF∧ad.block≠gSq:=fun ad h=>by have h1:=hB3 ad h;have h2:=hF.lt;have h3:=hS.lt;omega
 have HB4:=zA hB4;clear hF hS hx2 hx3 h0 hB3 hB4
 go_loopw [0,20] (fun lv iv wr=> ∃ (k left ci:Nat) (Ai:Option Addr),k≤K∧iv=.int .i64 (k:Int)∧lv=.slice Ai left ci∧Hid (left=n-k*yE n e)∧left≤n∧Hid (SL w 64 (.slice Ai left ci) left (ints (Z.drop (k*yE n e*64))))∧((xI n e Z k).1.length=256∧(xI n e Z k).2.length=256)∧Blk wr gF 3 (bv (xI n e Z k).1)∧Blk wr gSq 3 (bv (xI n e Z k).2)∧SL wr 1 (.slice B3 K d3) K (ints (vZ n e K))∧Ext w wr) (fun _ i _=>K-(intOf i).toNat)
 case atStart=>exact⟨0,n,c,A,by omega,rfl,rfl,zA (by omega),by omega,hrest,hl0,hF3,hS3,hsp,hx03⟩
 case round =>
  clear hF3 hS3 hsp hx03 hl0 hrest;obtain⟨k,left,ci,Ai,hk,rfl,rfl,HLF,hll,HSR0,⟨la,lb⟩,hFr,hSr,hspr,hx⟩:=hrel
  by_cases hlt:k<K
  ·obtain⟨td,u,hB,htb,hxk,hcell0⟩:=hspr.at1 hlt;subst hB;have hB5:=HB4.out td rfl;obtain⟨ln,hln⟩: ∃ q,min left (yE n e)=q:=⟨_,rfl⟩
   have hu:u=.int .i64 (ln:Int):=by
    have h:=zOS n e K k hlt
    have h2:(ints (vZ n e K))[k]? =some (.int .i64 ((min (n-k*yE n e) (yE n e):Nat):Int)):=by
     unfold ints;rw[wC0,wA2 (by rw[zCa];exact hlt),h];rfl
    rw[h2, ←HLF.out,hln] at hxk;exact (Option.some.inj hxk).symm
   subst hu;have hlnl:ln≤left:=by omega
   have hlc:left≤ci:=by obtain⟨A',c',q,q1,q2, -, -⟩:=HSR0.out;injection q with q3 q4 q5;omega
   have HP:Hid ((yX n e k Z).length=ln*64):=zA (by rw[zEp HZ.out, ←HLF.out,hln])
   have e3:(ints (Z.drop (k*yE n e*64))).take (ln*64)=ints (yX n e k Z):=by
    unfold yX;rw[←HLF.out,hln];simp[ints,wH1]
   have HPS:=zA (fun W (h:Ext w W)=>(HSR0.out.ext h).topC hlnl);rw[e3] at HPS;have hbe:=piece_e (e:=e) (i:=k) HE.out;rw[←HLF.out,hln] at hbe;obtain⟨hl4,hal,hee⟩:=each_0c ln (yX n e k Z) (z256,z256) hbe;have HCO:=zA (fun W (h:Ext w W)=>zRI Ai ln ci (yX n e k Z) HP.out hl4 hal W (HPS.out W h));rw[←hee] at HCO;have hnx:=HNX.out k;rw[←HLF.out,hln] at hnx;obtain⟨lf2,hlf2⟩: ∃ q,left-ln=q:=⟨_,rfl⟩
   have HLF2:Hid (lf2=n-(k+1)*yE n e):=zA (by have:=HLF.out;rw[wO9];omega);obtain⟨cl,hcl⟩: ∃ q,ci-ln=q:=⟨_,rfl⟩
   have HRS:Hid (SL w 64 (.slice (zCL Ai ci ln) lf2 cl) lf2 (ints (Z.drop ((k+1)*yE n e*64)))):=zA (by
    have h:=HSR0.out.subK hlnl (wA5 left);rw[←zSi HZ.out ln (by rw[←HLF.out];exact hln), ←HLF.out];rw[hlf2,hcl] at h;rw[hlf2]
    exact h)
   have HSUB:=zA (fun (o:Oper) (a:Act) (x lo':Operand) (ho:o.op=.slice 25 x (some lo') none none) (hx:a.eval x=.slice Ai left ci) (h1:a.eval lo'=.int .i64 (ln:Int)) (W:World)=>ex_subF ho hx h1 hlnl hlc W);have HTOP:=zA (fun (o:Oper) (a:Act) (x hi':Operand) (ho:o.op=.slice 25 x none (some hi') none) (hx:a.eval x=.slice Ai left ci) (h1:a.eval hi'=.int .i64 (ln:Int)) (W:World)=>ex_subT ho hx h1 hlnl hlc W);rw[hlf2,hcl] at HSUB;have hl2:lf2≤n:=by omega
   generalize zCL Ai ci ln=SA at *;generalize xZ yT ln (yX n e k Z) (z256,z256)=R at *;obtain⟨r0,b1,b2⟩:=R;dsimp only at hnx HCO;generalize xI n e Z k=F at *;obtain⟨a1,a2⟩:=F;dsimp only at la lb hFr hSr hnx;have HNX1:=zA hnx;have hltF:=hFr.lt;have hltS:=hSr.lt;clear e3 hcl hlf2 hln HPS HP hxk hnx htb hee hbe hal hl4 HSR0
   go_wp2_with (first
    | ((with_reducible apply gS 27);refine zB rfl (.slice Ai ln ci) (HTOP.out _ _ _ _ rfl rfl rfl) ?_)
    | ((with_reducible apply gS 33);refine zB rfl (.slice SA lf2 cl) (HSUB.out _ _ _ _ rfl rfl rfl) ?_)
    | (go_at_call 47;(with_reducible refine (HCO.out _ hx).mono ?_);rintro e6 w6 ⟨hx6,gA,gB,rfl,hA6,hB6,lA,lB,gA1,gB1⟩))
   have hF6:Blk w6 gF 3 (bv (zAg a1 b1 0)):=by rw[zFq];exact hFr.ext hx6
   have hS6:Blk w6 gSq 3 (bv (zAg a2 b2 0)):=by rw[zFq];exact hSr.ext hx6
   have hsp6:=hspr.ext hx6;have hx06:=hx.trans hx6;have hAF:gA≠gF:=by omega
   have hAS:gA≠gSq:=by omega
   have hBF:gB≠gF:=by omega
   have hBS:gB≠gSq:=by omega
   clear hFr hSr hspr hx hx6 gA1 gB1 hltF hltS hcell0
   go_loopw [36] (fun iv wr=> ∃ i:Nat,i≤256∧iv=.int .i64 (i:Int)∧Blk wr gF 3 (bv (zAg a1 b1 i))∧Blk wr gSq 3 (bv (zAg a2 b2 i))∧Blk wr gA 3 (bv b1)∧Blk wr gB 3 (bv b2)∧SL wr 1 (.slice (some td) K d3) K (ints (vZ n e K))∧Ext w wr) (fun i _=>256-(intOf i).toNat)
   case atStart=>exact⟨0,by omega,rfl,hF6,hS6,hA6,hB6,hsp6,hx06⟩
   case round =>
    clear hF6 hS6 hA6 hB6 hsp6 hx06;obtain⟨i,hi,rfl,hFq,hSq,hAq,hBq,hspq,hxq⟩:=hrel
    by_cases hil:i<256
    ·obtain⟨xF,hxF⟩: ∃ q,a1[i]'(by omega)=q:=⟨_,rfl⟩
     obtain⟨yF,hyF⟩: ∃ q,b1[i]'(by omega)=q:=⟨_,rfl⟩
     obtain⟨xS,hxS⟩: ∃ q,a2[i]'(by omega)=q:=⟨_,rfl⟩
     obtain⟨yS,hyS⟩: ∃ q,b2[i]'(by omega)=q:=⟨_,rfl⟩
     have hsF:=zHP (a:=a1) (b:=b1) (by omega) (i:=i) (by omega);have hsS:=zHP (a:=a2) (b:=b2) (by omega) (i:=i) (by omega);have haF:=zJR (a:=a1) (b:=b1) (by omega) (i:=i) (by omega);have haS:=zJR (a:=a2) (b:=b2) (by omega) (i:=i) (by omega);rw[hxF,hyF] at hsF;rw[hxS,hyS] at hsS;rw[hxF] at haF;rw[hxS] at haS;have hbF:b1[i]? =some yF:=by rw[←hyF];exact wA2 _
     have hbS:b2[i]? =some yS:=by rw[←hyS];exact wA2 _
     have hIF:wr.drew.cell? ⟨gF,i,none⟩=some (.int .i64 xF)∧wr.drew.cell? ⟨gA,i,none⟩=some (.int .i64 yF):=⟨(hFq.drew.cell i).trans (zDD haF),(hAq.drew.cell i).trans (zDD hbF)⟩
     have hmF:i<(bv (zAg a1 b1 i)).size:=by rw[zK,zHX (by omega)];omega
     have hmS:i<(bv (zAg a2 b2 i)).size:=by rw[zK,zHX (by omega)];omega
     clear hxF hyF hxS hyS;go_wp2_with fail;refine jB (fun k=>k ==3 ||k ==7) (fun W=>W.cell? ⟨gF,i,none⟩=some (.int .i64 xF)∧W.cell? ⟨gA,i,none⟩=some (.int .i64 yF)) (by kernel_rfl) ?_;refine zG (k:=0) (by kernel_rfl) rfl (by rfl) (.slice (some ⟨gF,0,none⟩) 256 256) (zC rfl rfl) ?_;simp only[sP,sB,sC];refine zG (k:=1) (by kernel_rfl) rfl (by rfl) (.int .i64 (i:Int)) (zC rfl rfl) ?_;simp only[sP,sB,sC];refine zG (k:=2) (by kernel_rfl) rfl (by rfl) (.pointer (some ⟨gF,i,none⟩)) (jL Tryz.underlying22 qW rfl rfl rfl (by omega)) ?_;simp only[sP,sB,sC];refine zG (k:=4) (by kernel_rfl) rfl (by rfl) (.slice (some ⟨gA,0,none⟩) 256 256) (zC rfl rfl) ?_;simp only[sP,sB,sC];refine zG (k:=5) (by kernel_rfl) rfl (by rfl) (.int .i64 (i:Int)) (zC rfl rfl) ?_;simp only[sP,sB,sC];refine zG (k:=6) (by kernel_rfl) rfl (by rfl) (.pointer (some ⟨gA,i,none⟩)) (jL Tryz.underlying22 qW rfl rfl rfl (by omega)) ?_;simp only[sP,sB,sC];refine jR (k:=3) (by kernel_rfl) rfl (by rfl) (.int .i64 xF) (fun W hW=>zV rfl rfl hW.1) hIF ?_;simp only[Act.put,sA,sB,sC];refine jR (k:=7) (by kernel_rfl) rfl (by rfl) (.int .i64 yF) (fun W hW=>zV rfl rfl hW.2) hIF ?_;simp only[Act.put,sA,sB,sC];refine zG (k:=8) (by kernel_rfl) rfl (by rfl) (.int .i64 (wrap64 (xF+yF))) (zJT rfl rfl rfl) ?_;simp only[sP,sB,sC];refine zG (k:=9) (by kernel_rfl) rfl (by rfl) (.pointer (some ⟨gF,i,none⟩)) (jL Tryz.underlying22 qW rfl rfl rfl (by omega)) ?_;simp only[sP,sB,sC];refine xR (k:=10) (by kernel_rfl) rfl ?_;refine uK rfl _ _ rfl gF i _ rfl rfl hFq.drew hmF ?_;refine zX ⟨fun h=>(by cases h), ?_⟩;simp only[Act.put,sA,sB,sC];refine vP (by kernel_rfl) ?_;have hu1:=(Upd.refl (fun b=>b=gF) wr.drew).setCell (p:=⟨gF,i,none⟩) rfl (.int .i64 (wrap64 (xF+yF)));have hF9:=hFq.drew.set_ i (.int .i64 (wrap64 (xF+yF)));rw[jO,hsF] at hF9;have hS9:=hu1.blk hSq.drew (Ne.symm hne);have hA9:=hu1.blk hAq.drew hAF;have hB9:=hu1.blk hBq.drew hBF;have hsp9:=SL.upd hspq.drew hu1 (fun ad h=>by injection h with h;rw[←h];exact hB5.1);have hx9:=hu1.ext hxq.drew (fun x h=>by omega);generalize wr.drew.setCell ⟨gF,i,none⟩ (.int .i64 (wrap64 (xF+yF)))=w9 at *;have hIS:w9.drew.cell? ⟨gSq,i,none⟩=some (.int .i64 xS)∧w9.drew.cell? ⟨gB,i,none⟩=some (.int .i64 yS):=⟨(hS9.drew.cell i).trans (zDD haS),(hB9.drew.cell i).trans (zDD hbS)⟩
     clear hu1 hFq hSq hAq hBq hspq hxq hIF;go_wp2_with fail;refine jB (fun k=>k ==3 ||k ==7) (fun W=>W.cell? ⟨gSq,i,none⟩=some (.int .i64 xS)∧W.cell? ⟨gB,i,none⟩=some (.int .i64 yS)) (by kernel_rfl) ?_;refine zG (k:=0) (by kernel_rfl) rfl (by rfl) (.slice (some ⟨gSq,0,none⟩) 256 256) (zC rfl rfl) ?_;simp only[sP,sB,sC];refine zG (k:=1) (by kernel_rfl) rfl (by rfl) (.int .i64 (i:Int)) (zC rfl rfl) ?_;simp only[sP,sB,sC];refine zG (k:=2) (by kernel_rfl) rfl (by rfl) (.pointer (some ⟨gSq,i,none⟩)) (jL Tryz.underlying22 qW rfl rfl rfl (by omega)) ?_;simp only[sP,sB,sC];refine zG (k:=4) (by kernel_rfl) rfl (by rfl) (.slice (some ⟨gB,0,none⟩) 256 256) (zC rfl rfl) ?_;simp only[sP,sB,sC];refine zG (k:=5) (by kernel_rfl) rfl (by rfl) (.int .i64 (i:Int)) (zC rfl rfl) ?_;simp only[sP,sB,sC];refine zG (k:=6) (by kernel_rfl) rfl (by rfl) (.pointer (some ⟨gB,i,none⟩)) (jL Tryz.underlying22 qW rfl rfl rfl (by omega)) ?_;simp only[sP,sB,sC];refine jR (k:=3) (by kernel_rfl) rfl (by rfl) (.int .i64 xS) (fun W hW=>zV rfl rfl hW.1) hIS ?_;simp only[Act.put,sA,sB,sC];refine jR (k:=7) (by kernel_rfl) rfl (by rfl) (.int .i64 yS) (fun W hW=>zV rfl rfl hW.2) hIS ?_;simp only[Act.put,sA,sB,sC];refine zG (k:=8) (by kernel_rfl) rfl (by rfl) (.int .i64 (wrap64 (xS+yS))) (zJT rfl rfl rfl) ?_;simp only[sP,sB,sC];refine zG (k:=9) (by kernel_rfl) rfl (by rfl) (.pointer (some ⟨gSq,i,none⟩)) (jL Tryz.underlying22 qW rfl rfl rfl (by omega)) ?_;simp only[sP,sB,sC];refine xR (k:=10) (by kernel_rfl) rfl ?_;refine uK rfl _ _ rfl gSq i _ rfl rfl hS9.drew hmS ?_;refine zX ⟨fun h=>(by cases h), ?_⟩;simp only[Act.put,sA,sB,sC];refine vP (by kernel_rfl) ?_;have hu2:=(Upd.refl (fun b=>b=gSq) w9.drew).setCell (p:=⟨gSq,i,none⟩) rfl (.int .i64 (wrap64 (xS+yS)));have hS5:=hS9.drew.set_ i (.int .i64 (wrap64 (xS+yS)));rw[jO,hsS] at hS5;have hF5:=hu2.blk hF9.drew hne;have hA5:=hu2.blk hA9.drew hAS;have hB6:=hu2.blk hB9.drew hBS;have hsp5:=SL.upd hsp9.drew hu2 (fun ad h=>by injection h with h;rw[←h];exact hB5.2);have hx5:=hu2.ext hx9.drew (fun x h=>by omega);generalize w9.drew.setCell ⟨gSq,i,none⟩ (.int .i64 (wrap64 (xS+yS)))=w5 at *;clear hu2 hF9 hS9 hA9 hB9 hsp9 hx9 hIS;go_wp2_with ((with_reducible apply gS 59);refine zB rfl (.int .i64 ((i+1:Nat):Int)) (yH (i:=i) (d:=1) rfl rfl rfl (by omega)) ?_)
     go_roundw
     case rel=>exact⟨i+1,by omega,by go_num,hF5,hS5,hA5,hB6,hsp5,hx5⟩
     case measure=>simp[intOf];omega
    ·obtain rfl:i=256:=by omega
     rw[zHf (by omega) la] at hFq;rw[zHf (by omega) lb] at hSq;have l1:=zBz (a:=a1) (b:=b1) (by omega);have l2:=zBz (a:=a2) (b:=b2) (by omega);go_wp2_with ((with_reducible apply gS 60);refine zB rfl (.int .i64 ((k+1:Nat):Int)) (yH (i:=k) (d:=1) rfl rfl rfl (by omega)) ?_)
     go_roundw
     case rel=>exact⟨k+1,lf2,cl,SA,by omega,by go_num,rfl,HLF2,hl2,HRS,by rw[HNX1.out];exact⟨l1.trans la,l2.trans lb⟩,by rw[HNX1.out];exact hFq,by rw[HNX1.out];exact hSq,hspq,hxq⟩
     case measure=>simp[intOf];omega
  ·obtain rfl:k=K:=by omega
   go_wp2_with fail;go_ret2;exact⟨gF,gSq,rfl,hFr,hSr,la,lb,hx⟩
end
end Go.Proofs.YtkggcjdlpendfaaGreatDoor
namespace Go.Proofs.YtkggcjdlpendfaaGreatDoor.topFewest
open Go.RowKit
def zMI {cs xs counts:List Int} (h:(jI cs xs counts).2=0):jI cs xs counts=((jI cs xs counts).1,0):=Prod.ext rfl h
def law {wd hi:Int} {L:List (List Int)} {q:List Int} (hq:q.length=64) {e:Nat} {F:FC} (h:zDb wd hi L q (e:Int) 0 F) :
 (zN wd hi L q).1=0∧F.cs1.length=16∧F.cs2.length=16∧(∀ c1 c2,c1=(xI (zN wd hi L q).2.1 e (zN wd hi L q).2.2 (yG (zN wd hi L q).2.1 e)).1→c2=(xI (zN wd hi L q).2.1 e (zN wd hi L q).2.2 (yG (zN wd hi L q).2.1 e)).2 →
   ∃ m1 m2:Int,jI F.cs1 F.xs1 c1=(m1,0)∧jI F.cs2 F.xs2 c2=(m2,0)∧ ∀ cs' xs':List Int,cs'.length=16→((jI cs' xs' c1).2=0→m1≤(jI cs' xs' c1).1)∧((jI cs' xs' c2).2=0→m2≤(jI cs' xs' c2).1)):=by
 obtain⟨h1, -,cs1,xs1,cs2,xs2,l1,l2, -, -,⟨b1,M1⟩,⟨b2,M2⟩, -,rfl⟩:=enc_good hq h;refine⟨h1,l1,l2, ?_⟩;rintro c1 c2 rfl rfl;obtain⟨m1,e1, -⟩:=BM.fewest (cs':=cs1) (xs':=xs1) M1 b1 l1;obtain⟨m2,e2, -⟩:=BM.fewest (cs':=cs2) (xs':=xs2) M2 b2 l2;refine⟨m1,m2,e1,e2,fun cs' xs' hl=>⟨fun h=> ?_,fun h=> ?_⟩⟩
 ·obtain⟨m,e,hm⟩:=BM.fewest (cs':=cs') (xs':=xs') M1 b1 hl;rw[e1] at e;injection e with e _
  rw[e];exact hm _ (zMI h)
 ·obtain⟨m,e,hm⟩:=BM.fewest (cs':=cs') (xs':=xs') M2 b2 hl;rw[e2] at e;injection e with e _
  rw[e];exact hm _ (zMI h)
def enc_shape {wd hi:Int} {L:List (List Int)} {q:List Int} {nn:Int} {W W':World} {e:Ending} (h:EncIs wd hi L q nn W e W'): ∃ E F A1 d1 A2 d2 A3 d3,e=.returned (.tuple #[.agg (F.cells (.slice A1 F.xs1.length d1) (.slice A2 F.xs2.length d2) (.slice A3 F.data.length d3)),.int .i64 E])∧F.shaped ∧
 F.at_ W' (.slice A1 F.xs1.length d1) (.slice A2 F.xs2.length d2) (.slice A3 F.data.length d3)∧zDb wd hi L q nn E F∧Ext W W':=by
 obtain⟨E,F,s1,s2,sd,rfl,hs,hat,hE,hx, -, -⟩:=h;have hat':=hat;obtain⟨⟨A1,d1,rfl, -⟩,⟨A2,d2,rfl, -⟩,⟨A3,d3,rfl, -⟩⟩:=hat';exact⟨E,F,A1,d1,A2,d2,A3,d3,rfl,hs,hat,hE,hx⟩
def zFe {w w':World} {g k:Nat} {T:TypeId} {cs:Array Value} {l:List Value} (h:w.rangeAt g k l) (hb:Blk w g T cs) (hx:Ext w w'):w'.rangeAt g k l:=fun j v hj=>(hx.cell (p:=⟨g,k+j,none⟩) hb.lt).trans (h j v hj)
def rest_101 (z:Int): ∃ e:Nat,z%101=(e:Int)∧e≤100:=by
 have h1:=Int.emod_nonneg z (show (101:Int)≠0 by omega);have h2:=Int.emod_lt_of_pos z (show (0:Int)<101 by omega);exact⟨(z%101).toNat,by omega,by omega⟩
def row256 {w:World} {g:Nat} {l:List Int} (hl:l.length=256) (h:Blk w g 3 (bv l)):SL w 1 (.slice (some ⟨g,0,none⟩) 256 256) l.length (ints l):=by
 rw[hl];exact rowI hl h
def walk (wd hi:Int) (A:Option Addr) (n c:Nat) (L:List (List Int)) (q:List Int) (hq:q.length=64) (every:Int) (ts1 ys1:List Int) (u1:Value) (ts2 ys2:List Int) (u2:Value) (t1:ts1.length=16) (t2:ts2.length=16) (m0:Int) (w:World) (hm:w.cell? ⟨0,0,none⟩=some (.int .i64 m0))
 (hr:RowsS w A n c L) (hu1:SL w 1 u1 ys1.length (ints ys1)) (hu2:SL w 1 u2 ys2.length (ints ys2)) :
 Calls Tryz.prog 5 #[.agg (xG wd hi (.slice A n c)),.agg (bv q),.int .i64 every,.agg (zQ ts1 u1++zQ ts2 u2).toArray] w fun e w'=>e=.returned (.bool true)∧Ext w w':=by
 obtain⟨e,he,he100⟩:=rest_101 every;have HWK:=zA (fun W (h:Ext w W)=>works_any m0 W (zAX hm h));have HR1:=zA (fun W=>rest_any every 101 (by omega) (by omega) W);rw[he] at HR1;have HEN:=zA (fun W (hx:Ext w W)=>zQB wd hi L A n c q hq (e:Int) m0 W (zAX hm hx) (hr.ext hx));have HBL:=zA (fun W (hx:Ext w W)=>zCj wd hi L A n c q hq W (hr.ext hx));have HLAW:=zA (fun (F:FC) (h:zDb wd hi L q (e:Int) 0 F)=>law hq h);have hbe:=zPU wd hi L q;have hlen:=zGC wd hi L q hq;have hps:=zA (vX wd hi (.slice A n c));have hqs:=zA (show (bv q).size=64 by rw[zK,hq]);have hzs:=zA zBM;have hz0:=zBr;have hU1:=zU ts1 u1 t1;have hU2:=zU ts2 u2 t2;have HTS:=zA (show (zQ ts1 u1++zQ ts2 u2).toArray.size=34 by simp[hU1,hU2]);have HTA:=zA (show (zQ ts1 u1).length=17 from hU1);have HTB:=zA (show (zQ ts2 u2).length=17 from hU2);have HENS:=zA (fun W (hx:Ext w W)=>(HEN.out W hx).mono fun e' w' h=>enc_shape h);have HFC:=zA (fun B d W m Z (h1:Z.length=m*64) (h2:qL m Z=0) h=>zRV e m (by omega) B d Z h1 h2 W h);clear HEN;unfold FrmIs at HBL;generalize zN wd hi L q=z at *;obtain⟨zE,m,Z⟩:=z;dsimp only at HBL HLAW hbe hlen;have HFC2:=zA (fun W B d h=>HFC.out B d W m Z hlen hbe h);clear HFC hlen hbe;generalize xI m e Z (yG m e)=K at *;obtain⟨k1,k2⟩:=K;dsimp only at HLAW HFC2;generalize xG wd hi (.slice A n c)=pv at *;generalize bv q=qv at *;have HX0:=zA (fun W (hx:Ext w W)=>hu1.ext hx);have HY0:=zA (fun W (hx:Ext w W)=>hu2.ext hx);have HTR:=zA (fun W g (h:Blk W g 44 (zQ ts1 u1++zQ ts2 u2).toArray)=>And.intro (uW (a:=[]) (m:=zQ ts1 u1) (b:=zQ ts2 u2) (T:=44) (w:=W) (g:=g) (by simpa using h)) (uW (a:=zQ ts1 u1) (m:=zQ ts2 u2) (b:=[]) (T:=44) (w:=W) (g:=g) (by simpa using h)));obtain⟨tv,htv⟩: ∃ tv,(zQ ts1 u1++zQ ts2 u2).toArray=tv:=⟨_,rfl⟩
 rw[htv] at HTS HTR ⊢;rw[HTA.out] at HTR;clear htv hm hr;go_enter Tryz.func5,Tryz.ntmps5
 go_upto_region 5 with (first
  | ((with_reducible apply gS 4);refine wBox rfl 31 (.tmp 0) rfl pv rfl ?_;intro w1 g1 hb1 hx1 hg1)
  | ((with_reducible apply gS 5);refine wBox rfl 33 (.tmp 1) rfl qv rfl ?_;intro w2 g2 hb2 hx2 hg2;have hb12:=hb1.ext hx2;have hx12:=hx1.trans hx2)
  | ((with_reducible apply gS 7);refine wBox rfl 44 (.tmp 3) rfl tv rfl ?_;intro w3 g3 hb3 hx3 hg3;have hb13:=hb12.ext hx3;have hb23:=hb2.ext hx3;have hx13:=hx12.trans hx3)
  | (go_at_call 11;(with_reducible refine (HWK.out _ hx13).mono ?_);rintro e' w4 ⟨rfl,hx4⟩;have hb14:=hb13.ext hx4;have hb24:=hb23.ext hx4;have hb34:=hb3.ext hx4;have hx14:=hx13.trans hx4)
  | (go_at_call 12;(with_reducible refine (HR1.out _).mono ?_);rintro e' w5 ⟨rfl,rfl⟩)
  | ((with_reducible apply gS 28);refine wLdB rfl 31 (.tmp 4) rfl g1 rfl hb14 _ Tryz.underlying31 rfl 3 jT hps.out ?_)
  | ((with_reducible apply gS 29);refine wLdB rfl 33 (.tmp 5) rfl g2 rfl hb24 _ Tryz.underlying33 rfl 64 zH hqs.out ?_)
  | (go_at_call 17;(with_reducible refine (HENS.out _ hx14).mono ?_);rintro e' w6 ⟨E,F,A1,d1,A2,d2,A3,d3,rfl,hsh,hat,hEF,hx6⟩;have HSH:=zA hsh;have hb16:=hb14.ext hx6;have hb26:=hb24.ext hx6;have hb36:=hb34.ext hx6;have hx16:=hx14.trans hx6)
  | ((with_reducible apply gS 9);refine wAlo' rfl (some 9) rfl 47 rfl _ hz0 ?_;intro w7 gf hb7 hx7 hg7)
  | ((with_reducible apply gT 9 32);refine wStB rfl 47 (.tmp 9) (.tmp 32) rfl gf (F.cells (.slice A1 F.xs1.length d1) (.slice A2 F.xs2.length d2) (.slice A3 F.data.length d3)) rfl rfl hb7 103 yQ (FC.size HSH.out _ _ _) hzs.out (zDp _ _ _ _ _ _ _ _ _ _) ?_;intro w8 hb8 hg8;have hx68:=hx7.grown hg8 hg7;have hb18:=hb16.ext hx68;have hb28:=hb26.ext hx68;have hb38:=hb36.ext hx68;have hx18:=hx16.trans hx68;have hat8:=hat.ext hx68))
 clear hb1 hx1 hg1 hb2 hx2 hg2 hb12 hx12 hb3 hx3 hg3 hb13 hb23 hx13 hx4 hb14 hb24 hb34 hx14 hx6 hb16 hb26 hb36 hx16 hat hx7 hg7 hb7 hx68 hg8 hsh
 by_cases h0:E=0
 ·subst h0;obtain⟨hz,l1,l2,hlw⟩:=HLAW.out F hEF;subst hz;obtain⟨c1,c2,hc1,hc2,hlt⟩:=hlw _ _ rfl rfl;have HFB:=zA (zBu hb8 HSH.out.1 (zU _ _ l1) (zU _ _ l2));have HL1:=zA (zU F.cs1 (.slice A1 F.xs1.length d1) l1);have HL2:=zA (zU F.cs2 (.slice A2 F.xs2.length d2) l2);obtain⟨hq1,hq2⟩:=hlt ts1 ys1 t1;have hq2':=(hlt ts2 ys2 t2).2
  have HC1:Hid (∀ W v,Ext w8 W→SL W 1 v k1.length (ints k1)→Calls Tryz.prog 19 #[.agg (zQ F.cs1 (.slice A1 F.xs1.length d1)).toArray,v] W fun e W'=>e=.returned (.tuple #[.int .i64 c1,.int .i64 0])∧Ext W W'):=zA (fun W v hx hv=>by
   have:=zHn F.cs1 F.xs1 k1 (.slice A1 F.xs1.length d1) v W l1 (hat8.1.ext hx) hv;rw[hc1] at this
   exact this)
  have HC2:Hid (∀ W v,Ext w8 W→SL W 1 v k2.length (ints k2)→Calls Tryz.prog 19 #[.agg (zQ F.cs2 (.slice A2 F.xs2.length d2)).toArray,v] W fun e W'=>e=.returned (.tuple #[.int .i64 c2,.int .i64 0])∧Ext W W'):=zA (fun W v hx hv=>by
   have:=zHn F.cs2 F.xs2 k2 (.slice A2 F.xs2.length d2) v W l2 (hat8.2.1.ext hx) hv;rw[hc2] at this
   exact this)
  have HC3:Hid (∀ W v,Ext w W→SL W 1 v k1.length (ints k1)→Calls Tryz.prog 19 #[.agg (zQ ts1 u1).toArray,v] W fun e W'=>e=.returned (.tuple #[.int .i64 (jI ts1 ys1 k1).1,.int .i64 (jI ts1 ys1 k1).2])∧Ext W W'):=zA (fun W v hx hv=>zHn ts1 ys1 k1 u1 v W t1 (HX0.out W hx) hv);have HC4:Hid (∀ W v,Ext w W→SL W 1 v k2.length (ints k2)→Calls Tryz.prog 19 #[.agg (zQ ts2 u2).toArray,v] W fun e W'=>e=.returned (.tuple #[.int .i64 (jI ts2 ys2 k2).1,.int .i64 (jI ts2 ys2 k2).2])∧Ext W W'):=zA (fun W v hx hv=>zHn ts2 ys2 k2 u2 v W t2 (HY0.out W hx) hv);generalize jI ts1 ys1 k1=r1 at *;generalize jI ts2 ys2 k2=r2 at *;obtain⟨x1,y1⟩:=r1;obtain⟨x2,y2⟩:=r2;dsimp only at HC3 HC4 hq1 hq2';clear HLAW hlt hq2 hc1 hc2 hEF hat8 HX0 HY0;have HFB1:=HFB.out.ta;have HFB2:=HFB.out.tb;have HT1:=zA (HTR.out _ _ hb38).1;have HT2:=zA (HTR.out _ _ hb38).2;generalize zQ F.cs1 (.slice A1 F.xs1.length d1)=ta at *;generalize zQ F.cs2 (.slice A2 F.xs2.length d2)=tb at *;generalize zQ ts1 u1=tc at *;generalize zQ ts2 u2=td at *;clear HFB HTR
  go_upto_region 17 with (first
   | ((with_reducible apply gS 37);refine wLdB rfl 31 (.tmp 4) rfl g1 rfl hb18 _ Tryz.underlying31 rfl 3 jT hps.out ?_)
   | ((with_reducible apply gS 38);refine wLdB rfl 33 (.tmp 5) rfl g2 rfl hb28 _ Tryz.underlying33 rfl 64 zH hqs.out ?_)
   | (go_at_call 13;(with_reducible refine (HBL.out _ hx18).mono ?_);rintro e' w9 ⟨B,d,rfl,hs9,hx9⟩)
   | (go_at_call 18;(with_reducible refine (HFC2.out _ _ _ hs9).mono ?_);rintro e' w10 ⟨gF,gSq,rfl,hF10,hS10,lF,lS,hx10⟩;have hx810:=hx9.trans hx10;have hF:=row256 lF hF10;have hS:=row256 lS hS10)
   | ((with_reducible apply gS 53);refine wpList_load_mid rfl 42 (.tmp 52) rfl gf 67 rfl ta _ (zFe HFB1 hb8 hx810) Tryz.underlying42 rfl (by rw[HL1.out];exact zAl) ?_)
   | (go_at_call 19;(with_reducible refine (HC1.out _ _ hx810 hF).mono ?_);rintro e' w11 ⟨rfl,hx11⟩;have hx811:=hx810.trans hx11;have hF11:=hF.ext hx11;have hS11:=hS.ext hx11)
   | ((with_reducible apply gS 61);refine wpList_load_mid rfl 42 (.tmp 60) rfl gf 84 rfl tb _ (zFe HFB2 hb8 hx811) Tryz.underlying42 rfl (by rw[HL2.out];exact zAl) ?_)
   | (go_at_call 19;(with_reducible refine (HC2.out _ _ hx811 hS11).mono ?_);rintro e' w12 ⟨rfl,hx12⟩;have hx812:=hx811.trans hx12;have hF12:=hF11.ext hx12;have hS12:=hS11.ext hx12;have hx012:=hx18.trans hx812)
   | ((with_reducible apply gS 74);refine wpList_load_mid rfl 42 (.tmp 73) rfl g3 0 rfl tc _ (zFe HT1.out hb38 hx812) Tryz.underlying42 rfl (by rw[HTA.out];exact zAl) ?_)
   | (go_at_call 19;(with_reducible refine (HC3.out _ _ hx012 hF12).mono ?_);rintro e' w13 ⟨rfl,hx13⟩;have hx813:=hx812.trans hx13;have hS13:=hS12.ext hx13;have hx013:=hx18.trans hx813)
   | ((with_reducible apply gS 81);refine wpList_load_mid rfl 42 (.tmp 80) rfl g3 17 rfl td _ (zFe HT2.out hb38 hx813) Tryz.underlying42 rfl (by rw[HTB.out];exact zAl) ?_)
   | (go_at_call 19;(with_reducible refine (HC4.out _ _ hx013 hS13).mono ?_);rintro e' w14 ⟨rfl,hx14⟩;have hx014:=hx013.trans hx14))
  by_cases h1:y1=0
  ·by_cases h2:y2=0
   · --
     have G1:Hid (decide (y1≠0)=false):=zA (by simpa using h1);have G2:Hid (decide (y2≠0)=false):=zA (by simpa using h2);have G3:Hid (decide (c1≤x1)=true):=zA (decide_eq_true (hq1 h1));have G4:Hid (decide (c2≤x2)=true):=zA (decide_eq_true (hq2' h2));clear h1 h2 hq1 hq2'
     go_wp2_with (first
      | ((with_reducible apply gS 87);refine zB rfl (.bool false) (jZ rfl rfl rfl G1.out) ?_)
      | ((with_reducible apply gS 95);refine xA (by rfl) (.bool false) (jZ rfl rfl rfl G2.out) ?_)
      | ((with_reducible apply gS 91);refine xA (by rfl) (.bool true) (zDQ rfl rfl rfl G3.out) ?_)
      | ((with_reducible apply gS 99);refine xA (by rfl) (.bool true) (zDQ rfl rfl rfl G4.out) ?_))
     go_ret;exact⟨rfl,hx014⟩
   · --
     have G1:Hid (decide (y1≠0)=false):=zA (by simpa using h1);have G2:Hid (decide (y2≠0)=true):=zA (by simpa using h2);have G3:Hid (decide (c1≤x1)=true):=zA (decide_eq_true (hq1 h1));clear h1 h2 hq1 hq2'
     go_wp2_with (first
      | ((with_reducible apply gS 87);refine zB rfl (.bool false) (jZ rfl rfl rfl G1.out) ?_)
      | ((with_reducible apply gS 95);refine xA (by rfl) (.bool true) (jZ rfl rfl rfl G2.out) ?_)
      | ((with_reducible apply gS 91);refine xA (by rfl) (.bool true) (zDQ rfl rfl rfl G3.out) ?_))
     go_ret;exact⟨rfl,hx014⟩
  ·by_cases h2:y2=0
   · --
     have G1:Hid (decide (y1≠0)=true):=zA (by simpa using h1);have G2:Hid (decide (y2≠0)=false):=zA (by simpa using h2);have G4:Hid (decide (c2≤x2)=true):=zA (decide_eq_true (hq2' h2));clear h1 h2 hq1 hq2'
     go_wp2_with (first
      | ((with_reducible apply gS 87);refine zB rfl (.bool true) (jZ rfl rfl rfl G1.out) ?_)
      | ((with_reducible apply gS 95);refine xA (by rfl) (.bool false) (jZ rfl rfl rfl G2.out) ?_)
      | ((with_reducible apply gS 99);refine xA (by rfl) (.bool true) (zDQ rfl rfl rfl G4.out) ?_))
     go_ret;exact⟨rfl,hx014⟩
   · --
     have G1:Hid (decide (y1≠0)=true):=zA (by simpa using h1);have G2:Hid (decide (y2≠0)=true):=zA (by simpa using h2);clear h1 h2 hq1 hq2'
     go_wp2_with (first
      | ((with_reducible apply gS 87);refine zB rfl (.bool true) (jZ rfl rfl rfl G1.out) ?_)
      | ((with_reducible apply gS 95);refine xA (by rfl) (.bool true) (jZ rfl rfl rfl G2.out) ?_))
     go_ret;exact⟨rfl,hx014⟩
 ·have HNE:=zA h0;go_wp2_with ((with_reducible apply gS 35);refine zB rfl (.bool true) (jZ rfl rfl rfl (by simpa using HNE.out)) ?_)
  go_ret;exact⟨rfl,hx18⟩
end Go.Proofs.YtkggcjdlpendfaaGreatDoor.topFewest
namespace Go.Proofs.YtkggcjdlpendfaaGreatDoor
open Go.RowKit
section
open Go.RowKit Go.ChangeShapes Go.WideShapes Go.ChangeAt
section
variable {H:Type} {enc:TypeId×Value→H} {w:World} {base:Nat} {spare:Nat→Bool} {held:Bool}
def zQq {P:Program} {t:TypeId} {f0 f1 f2:Field} {fuel:Nat} {cs:List Value} {x:DataW H×List MemPlace} (ht:P.underlying t=some (.struct #[f0,f1,f2])) (h:DataW.trod enc P w base spare held fuel t cs=some x) :
 ∃ y0 y1 y2 n,cs.length=P.cellsOf t∧DataW.trod enc P w base spare held n f0.type ((cs.drop f0.offset).take (P.cellsOf f0.type))=some y0 ∧
  DataW.trod enc P w base spare held n f1.type ((cs.drop f1.offset).take (P.cellsOf f1.type))=some y1∧DataW.trod enc P w base spare held n f2.type ((cs.drop f2.offset).take (P.cellsOf f2.type))=some y2:=by
 obtain⟨xs,n,_,rfl,hl,hlen,hf⟩:=DataW.trod_struct ht h
 match xs,hlen with
 | [y0,y1,y2],_=>exact⟨y0,y1,y2,n,hl,by simpa using hf 0 f0 rfl,by simpa using hf 1 f1 rfl,by simpa using hf 2 f2 rfl⟩
def cellsRows:Tryz.prog.cellsOf 29=1:=by kernel_rfl
def cellsPic:Tryz.prog.cellsOf 31=3:=by kernel_rfl
def zSZ {fuel:Nat} {cs:List Value} {x:DataW H×List MemPlace} (h:DataW.trod enc Tryz.prog w base spare held fuel 29 cs=some x) :
 ∃ (A:Option Addr) (n c:Nat) (L:List (List Int)),cs=[.slice A n c]∧RowsS w A n c L∧ ∀ l∈L, ∀ z∈l,zEA z:=by
 rcases Go.Deep.open_slice1 Tryz.underlying29 cellsSl h with ⟨rfl, -⟩ | ⟨a,len,cap,m,n,V,D,Pl,rfl, -,hl,hm,hmm, -,hx⟩
 ·exact⟨none,0,0,[],rfl,RowsS.nil w,by simp⟩
 ·have hle:len≤m:=by rw[hmm];split<;>omega
  obtain⟨Z,hZ⟩:=Go.Deep.choose_lt (α:=List Int) (n:=len) (p:=fun i zs=>w.cell? (a.add i)=some (V i)∧SL w 1 (V i) zs.length (ints zs)∧ ∀ z∈zs,zEA z) (fun i hi=>by
   obtain⟨h1,h2⟩:=hx i (by omega);obtain⟨zs,v,hv,hs,hz⟩:=zLy h2;injection hv with hv
   rw[←hv] at hs
   exact⟨zs,h1,hs,hz⟩)
  refine⟨some a,len,cap,(List.range len).map Z,rfl,⟨(List.range len).map V,⟨some a,cap,rfl,hl,by unfold maxLen at hm;omega,by simp,fun h0=>⟨a,rfl, ?_,fun j u hu=> ?_⟩⟩,by simp,fun k l hl=> ?_⟩,fun l hl=> ?_⟩
  ·have h2:=World.block_lt_of_cell? w _ (hZ 0 h0).1
   rwa [yN] at h2
  ·have hj:j<len:=by have:=(wC2.1 hu).1;simpa using this
   rw[wC0,wI7 hj] at hu;rw[(hZ j hj).1];exact hu
  ·have hk:k<len:=by have:=(wC2.1 hl).1;simpa using this
   rw[wC0,wI7 hk] at hl ⊢;have e:Z k=l:=by simpa using hl
   obtain⟨-,hs, -⟩:=hZ k hk;rw[e] at hs;have hs':=hs;obtain⟨B,d,e2, -⟩:=hs;rw[e2] at hs';refine⟨B,d, ?_,hs'⟩;show some (V k)=_
   rw[e2]
  ·obtain⟨i,hi,rfl⟩:=wD6.1 hl;exact (hZ i (wB7.1 hi)).2.2
def zQk {b0:Nat} {r:Reach} {v:Value} {d:DataW H} {p:List MemPlace} (hv:Value.okWide Tryz.prog w r b0 31 v) (h:DataW.Trod enc Tryz.prog w base spare held 31 v d p) :
 ∃ (wd hi:Int) (A:Option Addr) (n c:Nat) (L:List (List Int)),v=.agg (xG wd hi (.slice A n c))∧RowsS w A n c L∧zEA wd∧zEA hi:=by
 obtain⟨cs,rfl,hsz⟩:=okWide_struct Tryz.underlying31 hv;obtain⟨fuel,hf⟩:=h;obtain⟨y0,y1,y2,n,hlen,h0,h1,h2⟩:=zQq Tryz.underlying31 hf;have hL:cs.toList.length=3:=by rw[show cs.toList.length=cs.size by simp,hsz,cellsPic]
 have hcs:(Value.agg cs).cells.toList=cs.toList:=rfl;rw[hcs] at h0 h1 h2;dsimp only at h0 h1 h2;rw[zHm] at h0 h1;rw[cellsRows] at h2;obtain⟨wd,e0,w0⟩:=zEZ Tryz.underlying3 h0;obtain⟨hi,e1,w1⟩:=zEZ Tryz.underlying3 h1;obtain⟨A,m,c,L,e2,hr, -⟩:=zSZ h2;refine⟨wd,hi,A,m,c,L, ?_,hr,w0,w1⟩;congr 1
 apply Array.ext'
 match hq:cs.toList,hL with
 | [a,b,d],_ =>
   rw[hq] at e0 e1 e2;simp at e0 e1 e2;subst e0 e1 e2;rfl
end
end
section
open Go.RowKit Go.ChangeShapes Go.WideShapes Go.ChangeAt
section
variable {H:Type} {enc:TypeId×Value→H} {w:World} {base:Nat} {spare:Nat→Bool} {held:Bool}
def cellsTbls:Tryz.prog.cellsOf 44=34:=by kernel_rfl
def zKN {fuel:Nat} {cs:List Value} {x:DataW H×List MemPlace} (hL:cs.length=17) (hf:DataW.trod enc Tryz.prog w base spare held fuel 42 cs=some x) :
 ∃ (zs xs:List Int) (sl:Value),cs=zQ zs sl∧zs.length=16∧SL w 1 sl xs.length (ints xs):=by
 obtain⟨y0,y1,n, -,hlen,h0,h1⟩:=trod_struct2 Tryz.underlying42 hf;dsimp only at h0 h1;obtain⟨zs,hz,hc,hq⟩:=zIB Tryz.underlying40 Tryz.underlying3 zHm cells16 h0;obtain⟨xs,sl,hs,hsl,hxq⟩:=zLy h1;rw[cells16,wL3] at hc;rw[cellsSl] at hs;refine⟨zs,xs,sl, ?_,hz,hsl⟩
 have e2:cs.drop 16=[sl]:=by
  rw[←hs];rw[wC4 (by rw[wK1,hL];omega)]
 unfold zQ;rw[←hc, ←e2,wL9]
def zRP {b0:Nat} {r:Reach} {v:Value} {d:DataW H} {p:List MemPlace} (hv:Value.okWide Tryz.prog w r b0 44 v) (h:DataW.Trod enc Tryz.prog w base spare held 44 v d p) :
 ∃ (cs1 xs1:List Int) (s1:Value) (cs2 xs2:List Int) (s2:Value),v=.agg (zQ cs1 s1++zQ cs2 s2).toArray∧cs1.length=16∧cs2.length=16∧SL w 1 s1 xs1.length (ints xs1)∧SL w 1 s2 xs2.length (ints xs2):=by
 obtain⟨cs,rfl,hsz⟩:=okWide_struct Tryz.underlying44 hv;obtain⟨fuel,hf⟩:=h;obtain⟨z0,z1,m, -,hlen4,g0,g1⟩:=trod_struct2 Tryz.underlying44 hf;have hL:cs.toList.length=34:=by rw[show cs.toList.length=cs.size by simp,hsz,cellsTbls]
 have hcs:(Value.agg cs).cells.toList=cs.toList:=rfl;rw[hcs] at g0 g1;dsimp only at g0 g1;rw[zQm,wL3] at g0;rw[zQm] at g1;obtain⟨cs1,xs1,s1,e4,hc1,hs1⟩:=zKN (by rw[wI8,hL];rfl) g0;obtain⟨cs2,xs2,s2,e6,hc2,hs2⟩:=zKN (by rw[wI8,wK1,hL];rfl) g1;refine⟨cs1,xs1,s1,cs2,xs2,s2, ?_,hc1,hc2,hs1,hs2⟩;congr 1
 apply Array.ext';show cs.toList=_
 rw[wC4 (by rw[wK1,hL];omega)] at e6;rw[←wL9 17 cs.toList,e4,e6]
end
end
section
open Go.RowKit Go.ChangeShapes Go.WideShapes Go.ChangeAt
def own:ownKnob Tryz.prog.godebug=none:=by kernel_rfl
def laidOut:laidOutB Tryz.prog=true:=by kernel_rfl
section
variable {H:Type} {enc:TypeId×Value→H} {P:Program}
def zHu (hl:laidOutB P=true) {W W':World} (hb:Below W.heap.size W W'): ∀ {ts:List TypeId} {vs:List Value} {ds:List (DataW H)} {ps:List MemPlace},
 (∀ t∈ts,P.readableRec t=true∧t<P.types.size)→DataW.TrodAll enc P W 0 (fun _=>true) true ts vs ds ps→(∀ x∈ps,x.block<W.heap.size) →
 DataW.TrodAll enc P W' 0 (fun b=>decide (b<W.heap.size)) true ts vs ds ps
 | [],_,_,_,_,h,_=>by
   obtain⟨rfl,rfl,rfl⟩:=trodAll_nil h;exact trodAll_mk0
 | t::ts,vs,ds,ps,hr,h,hlt=>by
   obtain⟨v,vs1,d,ds1,a,b,rfl,rfl,rfl,h1,h2⟩:=trodAll_cons h
   exact⟨a,b,Below.trod hl (hr t (by simp)).1 (hr t (by simp)).2 h1 hb (fun x hx=>hlt x (by simp[hx])),
    zHu hl hb (fun t ht=>hr t (by simp[ht])) h2 (fun x hx=>hlt x (by simp[hx])),rfl⟩
def law_post {f:Func} {s:ChangeSpec} {W W':World} {args:Array Value} {ds gs:List (DataW H)} {before:List MemPlace}
 (hl:laidOutB P=true) (tb:TypeId) (htb:P.underlying tb=some .bool) (hft:f.resultTypes= #[tb]) (hvars:s.vars=[])
 (hr: ∀ t∈f.params.toList,P.readableRec t=true∧t<P.types.size)
 (hW:DataW.Whole enc P f.params.toList s.vars false W args.toList ds gs before)
 (hfn:s.fn H (ds++gs)={ results:=[.lit (.bool true)],args:=ds })
 (hb:Ext W W'):s.post enc P f false true false false W args (.bool true) W':=by
 have hlt: ∀ p∈before,p.block<W.heap.size:=fun p hp=>by simpa using hW.lt p hp
 have hW':=hW;obtain⟨p,q,hA,hV,rfl,hfz,hnd⟩:=hW;rw[hvars] at hV;obtain⟨rfl,rfl⟩:=trodVars_none hV;simp only[wG6] at hlt hW';refine⟨ds,[],p,[],p,[],hW', ?_, ?_, ?_, ?_,fun h=>by cases h⟩
 ·rw[hft,hfn];exact trodAll_cons_mk (shut_bool htb _) trodAll_mk0
 ·rw[hfn];exact zHu hl hb hr hA hlt
 ·rw[hfn,hvars];rfl
 ·exact World.keptBut_mono (fun p hp=>⟨hp,Or.inr (Or.inl hp)⟩) (hb.frame (· ∈p))
end
end
section
open Go.ChangeShapes Go.WideShapes Go.ChangeAt Go.RowKit
def zQs {W:World} (h:W.ShapedOpen Tryz.prog): ∃ m,W.cell? ⟨0,0,none⟩=some (.int .i64 m) :=
 Go.Proofs.cell_of_shapedOpen_int (zero:= #[.int .i64 0]) (t:=3) h (of_decide_eq_true (by kernel_rfl)) (by kernel_rfl) rfl (by kernel_rfl) (by kernel_rfl) Tryz.underlying3
def zQP (cs:Array Value):Obj→Obj
 | .cells _ t frozen=>.cells cs t frozen
 | o=>o
noncomputable def zIu (os:Os):World :=
 { World.holding Tryz.prog os ⟨#[], #[],[]⟩ with
  heap:=((World.holding Tryz.prog os ⟨#[], #[],[]⟩).heap.modify 1 (zQP (Go.Pinned.utf8FirstZ.map fun n:Nat=>Value.int .u8 n).toArray)).modify 2
   (zQP (([128,191,160,191,128,159,144,191,128,143,0,0,0,0,0,0,0,0,0,0,0,0,0,0,0,0,0,0,0,0,0,0]:List Nat).map fun n:Nat=>Value.int .u8 n).toArray) }
end
end Go.Proofs.YtkggcjdlpendfaaGreatDoor
