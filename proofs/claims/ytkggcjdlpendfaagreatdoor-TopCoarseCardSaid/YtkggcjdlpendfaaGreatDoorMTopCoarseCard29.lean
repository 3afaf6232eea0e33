/- Contracts of the functions that the law reaches, part 29. -/
import Derived.Laws.BytesArg
import Derived.Lib.LazyBuf
import Derived.Test.YtkggcjdlpendfaaGreatDoorMTopCoarseCard28
namespace Go.Proofs.YtkggcjdlpendfaaGreatDoor
set_option linter.unusedVariables false
set_option linter.unusedSimpArgs false
set_option maxRecDepth 20000
set_option maxHeartbeats 8000000
open Go.RowKit
theorem pack_good (wd hi pt ev:Nat) (qs:List Int) (qn cn1 xn1 cn2 xn2:List Nat) (s1 s2:Value) (bs:List Nat) (A0:Option Addr) (c0:Nat) (w:World) (hq:qs.length=64) (hqn:zto qs=qK qn) (hq8: ∀ n∈qn,n<256)
 (k1:wd<256) (k2:hi<256) (k3:pt<256) (k4:ev<256) (hl1:cn1.length=16) (hl2:cn2.length=16) (hc1: ∀ n∈cn1,n≤256) (hc2: ∀ n∈cn2,n≤256) (hx1: ∀ n∈xn1,n<256) (hx2: ∀ n∈xn2,n<256) (hy1:xn1.length≤256) (hy2:xn2.length≤256)
 (hs1:SL w 1 s1 xn1.length (ints (qK xn1))) (hs2:SL w 1 s2 xn2.length (ints (qK xn2))) (hsd:SL w 1 (.slice A0 bs.length c0) bs.length (zD bs)) (hbl:bs.length≤90000)
 (o1:(zT (qK cn1) s1).toArray.all (·.oneCell')=true) (o2:(zT (qK cn2) s2).toArray.all (·.oneCell')=true)
 (HCHK: ∀ W,Ext w W→Calls Tryz.prog 50 #[.agg (yN wd hi pt qs (zT (qK cn1) s1) (zT (qK cn2) s2) ev (.slice A0 bs.length c0)).toArray] W fun e W'=>e=.returned (.int .i64 0)∧Ext W W') :
 Calls Tryz.prog 36 #[.agg (yN wd hi pt qs (zT (qK cn1) s1) (zT (qK cn2) s2) ev (.slice A0 bs.length c0)).toArray] w fun e w'=> ∃ A n c,e=.returned (.tuple #[.slice A n c,.int .i64 0])∧n=(zEX wd hi pt ev qn cn1 xn1 cn2 xn2 bs).length∧SL w' 1 (.slice A n c) n (zD (zEX wd hi pt ev qn cn1 xn1 cn2 xn2 bs))∧Ext w w':=by
 have t1l:=zS (qK cn1) s1 ((zCK _).trans hl1)
 have t2l:=zS (qK cn2) s2 ((zCK _).trans hl2)
 have HF:=zA (fun W g (hb:Blk W g 47 (yN wd hi pt qs (zT (qK cn1) s1) (zT (qK cn2) s2) ev (.slice A0 bs.length c0)).toArray)=>zBg hb hq t1l t2l)
 have hfs:=zA (zDa wd hi pt qs (zT (qK cn1) s1) (zT (qK cn2) s2) ev (.slice A0 bs.length c0) hq t1l t2l)
 have HCK:=zA HCHK
 clear HCHK
 have HZT:Hid (∀ W,Calls Tryz.prog 80 #[.agg (ints qs).toArray] W fun e w'=>e=.returned (.agg (bv (qK qn)))∧Ext W w'):=zA (fun W=>by have h:=zto_any qs W hq;rw[hqn] at h;exact h)
 have hqn64:qn.length=64:=by have:=uD qs;rw[hqn,zCK] at this;exact this
 have HQA:Hid (∀ k (h:k<qn.length),(bv (qK qn))[k]? =some (.int .i64 ((qn[k]:Nat):Int))):=zA (fun k h=>by rw[show bv (qK qn)=(ints (qK qn)).toArray from rfl,wH2];exact zKp h)
 have HQ8:=zA hq8
 have hbq:=zA (zJ (qK qn))
 clear hqn hq8
 have hql:=zA ((zY qs).trans hq)
 have HB2:=zA (zFP _ _ t1l t2l)
 have HRT:=zA (fun W g (hb:Blk W g 42 (zT (qK cn1) s1++zT (qK cn2) s2).toArray)=>uF t1l hb)
 have hz17:Hid ((ints (List.replicate 16 0)++[Value.slice none 0 0]).toArray.size=17):=zA (by simp[ints])
 have HTB:Hid (∀ k,k<2→ ∃ (cn xn:List Nat) (sl:Value),Hid (∀ W g,Blk W g 42 (zT (qK cn1) s1++zT (qK cn2) s2).toArray→W.rangeAt g (0+k*17) (zT (qK cn) sl))∧Hid (cn.length=16)∧Hid (∀ n∈cn,n≤256)∧Hid (∀ n∈xn,n<256)∧xn.length≤256∧SL w 1 sl xn.length (ints (qK xn))∧Hid ((zT (qK cn) sl).toArray.all (·.oneCell')=true) ∧
  Hid (([zBG cn1 xn1,zBG cn2 xn2].take (k+1)).flatten=([zBG cn1 xn1,zBG cn2 xn2].take k).flatten++zBG cn xn)∧([zBG cn1 xn1,zBG cn2 xn2].take k).flatten.length≤1000):=zA (fun k hk=>by
  rcases (by omega:k=0∨k=1) with rfl | rfl
  ·exact⟨cn1,xn1,s1,zA (fun W g hb=>(uF t1l hb).1),zA hl1,zA hc1,zA hx1,hy1,hs1,zA o1,zA (by simp),by simp⟩
  ·exact⟨cn2,xn2,s2,zA (fun W g hb=>(uF t1l hb).2),zA hl2,zA hc2,zA hx2,hy2,hs2,zA o2,zA (by simp),by simp[zIw];omega⟩)
 have HLEN:Hid (∀ k,k≤2→([zBG cn1 xn1,zBG cn2 xn2].take k).flatten.length≤1000):=zA (fun k hk=>by
  rcases (by omega:k=0∨k=1∨k=2) with rfl | rfl | rfl<;>simp[zIw]<;>omega)
 have HPK:Hid (zEX wd hi pt ev qn cn1 xn1 cn2 xn2 bs=[77,90,wd,hi,pt,ev]++qn++([zBG cn1 xn1,zBG cn2 xn2].take 2).flatten++bs):=zA (by simp[zEX])
 have HBS:=zA hbl
 generalize zEX wd hi pt ev qn cn1 xn1 cn2 xn2 bs=PN at *
 generalize [zBG cn1 xn1,zBG cn2 xn2]=TT at *
 have hl17a:Hid ((zT (qK cn1) s1).length=17):=zA t1l
 have hl17b:Hid ((zT (qK cn2) s2).length=17):=zA t2l
 generalize zT (qK cn1) s1=t1 at *
 generalize zT (qK cn2) s2=t2 at *
 clear t1l t2l hc1 hc2 hx1 hx2 hl1 hl2 o1 o2
 generalize (yN wd hi pt qs t1 t2 ev (.slice A0 bs.length c0)).toArray=fv at *
 have kc:=fun (w:World) (C:Array Value) (n c:Nat)=>Lib.run_convert_bytes_const (P:=Tryz.prog) w 45 5 C n c Tryz.underlying45 Tryz.underlying5
 go_enter Tryz.func36,Tryz.ntmps36
 go_wp2_with (first
  | (refine wBox rfl 47 (.tmp 0) rfl fv rfl ?_;intro w1 g hb1 hx1 hg)
  | (refine wLdB rfl 47 (.tmp 1) rfl _ rfl hb1 _ Tryz.underlying47 rfl 103 yI hfs.out ?_)
  | (go_at_call 50;(with_reducible refine (HCK.out _ hx1).mono ?_);rintro e w2 ⟨rfl,hx2⟩;have hb2:=hb1.ext hx2;have hgl:=hb2.lt;have hf2:=HF.out _ _ hb2;have d0:=hf2.c0;have d1:=hf2.c1;have d2:=hf2.c2;have d101:=hf2.c101;have hx12:=hx1.trans hx2)
  | (refine zB rfl (.int .u8 ((wd:Nat):Int)) (zCT (n:=wd) rfl rfl k1) ?_)
  | (refine zB rfl (.int .u8 ((hi:Nat):Int)) (zCT (n:=hi) rfl rfl k2) ?_)
  | (refine zB rfl (.int .u8 ((pt:Nat):Int)) (zCT (n:=pt) rfl rfl k3) ?_)
  | (refine zB rfl (.int .u8 ((ev:Nat):Int)) (zCT (n:=ev) rfl rfl k4) ?_)
  | (at_builtin;go_must (refine zIK zBW rfl _ _ rfl 2 _ (zD [77,90]) rfl rfl (zQq _ _ _) _ 4 (zD [wd,hi,pt,ev]) rfl (cells_sl' _ _ [.int .u8 (wd:Int),.int .u8 (hi:Int),.int .u8 (pt:Int),.int .u8 (ev:Int)] 4 _ (World.size_alloc _ _) rfl (by omega)) (zEM _) (by omega) (by omega) (by omega) ?_);intro v3 w3 hown3' hx3';have hx23:=(((Ext.refl w2).alloc _).alloc _).trans hx3';have hb3:=hb2.ext hx23;have hf3:=HF.out _ _ hb3;have hx13:=hx12.trans hx23;have hown3:=own_base (B':=w.heap.size) hown3' (by have:=hx12.size;simp;omega))
  | (go_at_call 80;(with_reducible refine (HZT.out _).mono ?_);rintro e w4 ⟨rfl,hx4⟩;have hb4:=hb3.ext hx4;have hown4:=yJ hown3 hx4;have hx14:=hx13.trans hx4)
  | (refine wpList_load_mid rfl 33 (.tmp 35) rfl g 3 rfl (ints qs) _ hf3.q Tryz.underlying33 rfl (by rw[hql.out];exact zF) ?_))
 have hgb:w.heap.size≤w.heap.size:=wA5 _
 have hB0:=hx14.size
 have HHEAD:Hid (([77,90,wd,hi,pt,ev]:List Nat).length=6):=zA rfl
 generalize hHD:([77,90,wd,hi,pt,ev]:List Nat)=HD at *
 have hown4a:w4.ownsRow w.heap.size 5 1 v3 (6+0) (zD (HD++qn.take 0)):=by
  have h:=hown4
  rw[wM5,wG3, ←hHD]
  first
   | exact h
   | simpa [zD] using h
 clear hHD
 clear hown4 hf3 hb3 hf2 hb2 hb1 d0 d1 d2 d101 HCK HZT
 go_loopw [5,38] (fun v i wr=> ∃ k:Nat,k≤64∧i=.int .i64 (k:Int)∧wr.ownsRow w.heap.size 5 1 v (6+k) (zD (HD++qn.take k))∧Blk wr g 47 fv∧Ext w wr) (fun _ i _=>64-(intOf i).toNat)
 case atStart=>exact⟨0,by omega,rfl,hown4a,hb4,hx14⟩
 case round =>
  clear hown4a hb4 hx14 hB0
  obtain⟨k,hk,rfl,hown,hb,hx⟩:=hrel
  by_cases hlt:k<64
  ·have hkq:k<qn.length:=by omega
   have hqk:=HQ8.out qn[k] (wE1 hkq)
   have hqa:=HQA.out k hkq
   have HN:Hid (qn.take (k+1)=qn.take k++[qn[k]]):=zA (wC3 hkq)
   have HQA1:=zA hqa
   clear hqa
   generalize qn[k]=q at *
   go_wp2_with (first
    | (refine zB rfl (.int .i64 ((q:Nat):Int)) (ex_idx Tryz.underlying33 Tryz.underlying3 qV rfl rfl rfl hlt HQA1.out) ?_)
    | (refine zB rfl (.int .u8 ((q:Nat):Int)) (zCT (n:=q) rfl rfl hqk) ?_)
    | (at_builtin;go_must (refine zAO zBW rfl _ _ rfl w.heap.size _ _ _ rfl (hown.alloc _) _ 1 (zD [q]) rfl (zGP _ _ [.int .u8 ((q:Nat):Int)] 1 rfl (by omega)) (zEM _) (by omega) (by omega) (by have:=hx.size;simp;omega) ?_);intro v' w9 hown9 hg9 ho9))
   go_roundw
   case rel =>
    refine⟨k+1,by omega,by go_num, ?_,(hb.alloc _).grown hg9 (zDz hb hown (by decide)),zJL hx hown hg9⟩
    rw[HN.out, ←wG0,zDt, ←wA0]
    exact hown9
   case measure=>simp[intOf];omega
  ·have ek:k=64:=by omega
   have hown0:wr.ownsRow w.heap.size 5 1 u5 (70+0) (zD (HD++qn++(TT.take 0).flatten)):=by
    have h:=hown
    rw[ek,wC4 (by omega)] at h
    simpa using h
   have HQL:Hid ((HD++qn).length=70):=zA (by rw[wF1,HHEAD.out,hqn64])
   generalize HD++qn=HQ at *
   clear hown ek HQA HQ8
   have hf:=HF.out _ _ hb
   go_wp2_with (first
    | (refine wpList_load_mid rfl 42 (.tmp 48) rfl g 67 rfl t1 _ hf.ta Tryz.underlying42 rfl (by rw[hl17a.out];exact zO) ?_)
    | (refine wpList_load_mid rfl 42 (.tmp 51) rfl g 84 rfl t2 _ hf.tb Tryz.underlying42 rfl (by rw[hl17b.out];exact zO) ?_)
    | (refine Go.Great.wpList_buildSliceTo rfl 115 42 2 _ rfl _ rfl (some 53) rfl Tryz.underlying115 _ (by simp[Act.eval];exact HB2.out) ?_))
   have hbn:=Blk.new wr 42 (t1++t2).toArray
   have hb1:=hb.alloc (.cells (t1++t2).toArray 42)
   have hx1:=hx.alloc (.cells (t1++t2).toArray 42)
   have hown1:=hown0.alloc (.cells (t1++t2).toArray 42)
   clear hf hb hx hown0
   generalize wr.alloc (.cells (t1++t2).toArray 42)=wq at *
   generalize wr.heap.size=gt at *
   go_loopw [5,55] (fun v i w5=> ∃ k m:Nat,k≤2∧Hid (m=70+(TT.take k).flatten.length)∧m≤2000∧i=.int .i64 (k:Int)∧w5.ownsRow w.heap.size 5 1 v m (zD (HQ++(TT.take k).flatten))∧Blk w5 g 47 fv∧Blk w5 gt 42 (t1++t2).toArray∧Ext w w5) (fun _ i _=>2-(intOf i).toNat)
   case atStart=>exact⟨0,70,by omega,zA (by simp),by omega,rfl,hown1,hb1,hbn,hx1⟩
   case round =>
    clear hb1 hx1 hown1 hbn
    obtain⟨k,m,hk,HM,hm2,rfl,hown,hb,hbn,hx⟩:=hrel
    by_cases hlt:k<2
    ·obtain⟨cn,xn,sl,HTV,HCL,HC6,HX6,hxl,hsl,HTVE,HNX,hfl⟩:=HTB.out k hlt
     have HFL:Hid (m≤1070):=zA (by rw[HM.out];omega)
     have hm1:=HFL.out
     have hsx:=hsl.ext hx
     have hsl':=hsl
     obtain⟨B,d,rfl,hd1,hd2, -, -⟩:=hsl'
     have hr:=HTV.out _ _ hbn
     go_wp2_with (first
      | (refine zB rfl (.pointer (some ⟨gt,0+k*17,none⟩)) (zEH Tryz.underlying115 zO rfl rfl rfl hlt) ?_)
      | (refine wpList_load_mid rfl 42 (.tmp 57) rfl gt (0+k*17) rfl (zT (qK cn) (.slice B xn.length d)) _ hr Tryz.underlying42 rfl (by rw[zS _ _ ((zCK _).trans HCL.out)];exact zO) ?_)
      | (refine wAlo' rfl (some 9) rfl 42 rfl _ uO ?_;intro w4 ga hba4 hx4 hga)
      | (refine wStB rfl 42 (.tmp 9) (.tmp 58) rfl _ _ rfl rfl hba4 17 zO (by simpa using zS (qK cn) (.slice B xn.length d) ((zCK _).trans HCL.out)) hz17.out HTVE.out ?_;intro w5 hba5 hg5;have hx45:=hx4.grown hg5 hga;have hx5:=hx.trans hx45;have hb5:=hb.ext hx45;have hown5:=yJ hown hx45;have hbn5:=hbn.ext hx45)
      | (refine wpList_load_mid rfl 40 (.tmp 59) rfl ga 0 rfl (ints (qK cn)) _ (zDl hba5) Tryz.underlying40 rfl (by rw[zY,zCK,HCL.out];exact zJY) ?_))
     have hgl5:=hba5.lt
     have hown50:w5.ownsRow w.heap.size 5 1 u5 (m+2*0) (zD (HQ++(TT.take k).flatten++(cn.take 0).flatMap (fun n=>[n/256,n%256]))):=by simpa using hown5
     have hclen:=HCL.out
     clear hown hb hx hx4 hba4 hg5 hown5 hbn hr
     have hbt5:Blk w5 ga 42 (yG (qK cn) (.slice B xn.length d)):=hba5
     clear hba5
     go_loopw [5,61] (fun v i wr=> ∃ j:Nat,j≤16∧i=.int .i64 (j:Int)∧wr.ownsRow w.heap.size 5 1 v (m+2*j) (zD (HQ++(TT.take k).flatten++(cn.take j).flatMap (fun n=>[n/256,n%256])))∧Blk wr g 47 fv∧Blk wr gt 42 (t1++t2).toArray∧Blk wr ga 42 (yG (qK cn) (.slice B xn.length d))∧Ext w wr) (fun _ i _=>16-(intOf i).toNat)
     case atStart=>exact⟨0,by omega,rfl,hown50,hb5,hbn5,hbt5,hx5⟩
     case round =>
      clear hown50 hb5 hbt5 hx5 hx45 hbn5
      obtain⟨j,hj,rfl,hown,hb,hbn,hbt,hx⟩:=hrel
      by_cases hltj:j<16
      ·have hjc:j<cn.length:=by omega
       have hc6:=HC6.out cn[j] (wE1 hjc)
       have HCA:Hid ((ints (qK cn)).toArray[j]? =some (.int .i64 ((cn[j]:Nat):Int))):=zA (by rw[wH2];exact zKp hjc)
       have HN:=zA (zRD cn j hjc)
       generalize cn[j]=c at *
       have hc1:c/256<256:=by omega
       have hc2:c%256<256:=by omega
       go_wp2_with (first
        | (refine zB rfl (.int .i64 ((c:Nat):Int)) (ex_idx Tryz.underlying40 Tryz.underlying3 qV rfl rfl rfl hltj HCA.out) ?_)
        | (refine zB rfl (.int .i64 ((c/256:Nat):Int)) (ex_shr8 (n:=c) rfl rfl rfl) ?_)
        | (refine zB rfl (.int .u8 ((c/256:Nat):Int)) (zCT (n:=c/256) rfl rfl hc1) ?_)
        | (refine zB rfl (.int .u8 ((c%256:Nat):Int)) (ex_conv8m (n:=c) rfl rfl) ?_)
        | (at_builtin;go_must (refine zAO zBW rfl _ _ rfl w.heap.size _ _ _ rfl (hown.alloc _) _ 2 (zD [c/256,c%256]) rfl (zGP _ _ [.int .u8 ((c/256:Nat):Int),.int .u8 ((c%256:Nat):Int)] 2 rfl (by omega)) (zEM _) (by omega) (by omega) (by have:=hx.size;simp;omega) ?_);intro v' w9 hown9 hg9 ho9))
       go_roundw
       case rel =>
        refine⟨j+1,by omega,by go_num, ?_,(hb.alloc _).grown hg9 (zDz hb hown (by decide)),(hbn.alloc _).grown hg9 (zDz hbn hown (by decide)),(hbt.alloc _).grown hg9 (zDz hbt hown (by decide)),zJL hx hown hg9⟩
        rw[HN.out, ←wG0,zDt,show m+2*(j+1)=m+2*j+2 by omega]
        exact hown9
       case measure=>simp[intOf];omega
      ·have ej:j=16:=by omega
       rw[ej,show cn.take 16=cn from wC4 (by omega)] at hown
       have hcl:=zDV hbt ((zCK _).trans HCL.out)
       have hown00:wr.ownsRow w.heap.size 5 1 u5 (m+32+0) (zD (HQ++(TT.take k).flatten++cn.flatMap (fun n=>[n/256,n%256])++xn.take 0)):=by simpa using hown
       clear hown ej
       go_wp2_with fail
       go_loopw [5,76] (fun v i wr=> ∃ j:Nat,j≤xn.length∧i=.int .i64 (j:Int)∧wr.ownsRow w.heap.size 5 1 v (m+32+j) (zD (HQ++(TT.take k).flatten++cn.flatMap (fun n=>[n/256,n%256])++xn.take j))∧Blk wr g 47 fv∧Blk wr gt 42 (t1++t2).toArray∧Ext w wr) (fun _ i _=>xn.length-(intOf i).toNat)
       case atStart=>exact⟨0,by omega,rfl,hown00,hb,hbn,hx⟩
       case round =>
        clear hown00 hb hbt hx hcl hbn
        obtain⟨j,hj,rfl,hown,hb,hbn,hx⟩:=hrel
        by_cases hltx:j<xn.length
        ·have hsn:SL wr 1 (.slice B xn.length d) xn.length (ints (qK xn)):=by have:=hsl.ext hx;exact this
         obtain⟨ad,u,had,hab,hux,hcell⟩:=hsn.at1 hltx
         rw[zKp hltx] at hux
         injection hux with hux
         subst hux
         subst had
         have hx6:=HX6.out xn[j] (wE1 hltx)
         have HN:Hid (xn.take (j+1)=xn.take j++[xn[j]]):=zA (wC3 hltx)
         generalize xn[j]=x at *
         go_wp2_with (first
          | (refine zB rfl (.int .u8 ((x:Nat):Int)) (zCT (n:=x) rfl rfl hx6) ?_)
          | (at_builtin;go_must (refine zAO zBW rfl _ _ rfl w.heap.size _ _ _ rfl (hown.alloc _) _ 1 (zD [x]) rfl (zGP _ _ [.int .u8 ((x:Nat):Int)] 1 rfl (by omega)) (zEM _) (by omega) (by omega) (by have:=hx.size;simp;omega) ?_);intro v' w9 hown9 hg9 ho9))
         go_roundw
         case rel =>
          refine⟨j+1,by omega,by go_num, ?_,(hb.alloc _).grown hg9 (zDz hb hown (by decide)),(hbn.alloc _).grown hg9 (zDz hbn hown (by decide)),zJL hx hown hg9⟩
          rw[HN.out, ←wG0,zDt, ←wA0]
          exact hown9
         case measure=>simp[intOf];omega
        ·have ej:j=xn.length:=by omega
         rw[ej,wI8] at hown
         clear ej
         go_wp2_with fail
         go_roundw
         case rel =>
          refine⟨k+1,m+32+xn.length,by omega,zA ?_,by omega,by go_num, ?_,hb,hbn,hx⟩
          ·rw[HNX.out,wF1,zIw,HM.out,HCL.out];omega
          ·rw[HNX.out];unfold zBG;rw[←wG0, ←wG0];exact hown
         case measure=>simp[intOf];omega
    ·have ek:k=2:=by omega
     have hf:=HF.out _ _ hb
     have c102:=hf.c102
     have hsn:=hsd.ext hx
     go_wp2_with (at_builtin;go_must (refine zAO zBW rfl _ _ rfl w.heap.size _ _ _ rfl hown _ bs.length (zD bs) rfl hsn (zEM bs) (by omega) (by omega) (by have:=hx.size;omega) ?_);intro v' w9 hown9 hg9 ho9)
     go_ret2
     obtain⟨A',c',rfl,hsl,hfs⟩:=zBN hown9
     refine⟨A',m+bs.length,c',rfl, ?_, ?_,ext_own hx hown hg9⟩
     ·rw[HPK.out,HM.out,ek];simp only[wF1,HQL.out]
     ·rw[HPK.out,zDt, ←ek];exact hsl
def jX (zs:List Int):List Nat:=zs.map Int.toNat
theorem zBw: ∀ (zs:List Int),(∀ z∈zs,0≤z)→qK (jX zs)=zs
 | [],_=>rfl
 | z::zs,h=>by
   have ih:=zBw zs (fun y hy=>h y (by simp[hy]))
   have hz:=h z (by simp)
   simp only[qK,jX,wC8,wL2] at ih ⊢
   rw[ih]
   congr 1
   omega
theorem zBJ {zs:List Int} {lo hi:Int} {N:Nat} (h:zN zs lo hi=true) (h0:0≤lo) (hN:hi<N): ∀ n∈jX zs,n<N:=by
 intro n hn
 obtain⟨z,hz,rfl⟩:=wD6.1 hn
 have:=yD.1 h z hz
 omega
theorem zBu (zs:List Int):(jX zs).length=zs.length:=by simp[jX]
def packE (wd hi pt ev:Int) (qs cs1 xs1 cs2 xs2:List Int) (n:Nat):Int:=zDI wd hi pt qs (yC cs1 xs1) (yC cs2 xs2) ev n
def packL (wd hi pt ev:Int) (qs cs1 xs1 cs2 xs2:List Int) (bs:List Nat):List Nat :=
 if packE wd hi pt ev qs cs1 xs1 cs2 xs2 bs.length=0 then zEX wd.toNat hi.toNat pt.toNat ev.toNat (jX (zto qs)) (jX cs1) (jX xs1) (jX cs2) (jX xs2) bs else []
def PackIs (E:Int) (L:List Nat) (w:World) (e:Ending) (w':World):Prop:= ∃ A c,e=.returned (.tuple #[.slice A L.length c,.int .i64 E])∧SL w' 1 (.slice A L.length c) L.length (zD L)∧Ext w w'
theorem zKG {wd hi pt ev:Int} {qs cs1 xs1 cs2 xs2:List Int} {n:Nat} (h:packE wd hi pt ev qs cs1 xs1 cs2 xs2 n=0):zCs wd hi pt ev=true∧zN qs 1 255=true∧yC cs1 xs1=0∧yC cs2 xs2=0∧n≤90000:=by
 unfold packE zDI at h
 by_cases h1:(zCs wd hi pt ev&&zN qs 1 255)=true
 ·rw[if_pos h1] at h
  rw[wA9] at h1
  by_cases h2:yC cs1 xs1=0
  ·rw[if_pos h2] at h
   by_cases h3:yC cs2 xs2=0
   ·rw[if_pos h3] at h
    by_cases h4:90000<n
    ·rw[if_pos h4] at h;cases h
    ·exact⟨h1.1,h1.2,h2,h3,by omega⟩
   ·rw[if_neg h3] at h;exact absurd h h3
  ·rw[if_neg h2] at h;exact absurd h h2
 ·rw[if_neg h1] at h;cases h
theorem zGA {cs xs:List Int} (h:yC cs xs=0):zN cs 0 256=true∧zN xs 0 255=true∧xs.length≤256:=by
 cases ht:zCG cs xs with
 | false=>rw[zKT ht] at h;cases h
 | true =>
   obtain⟨a,b,c⟩:=zHj.1 ht
   cases hx:zN xs 0 255 with
   | false=>rw[zKF ht hx] at h;cases h
   | true=>exact⟨a,rfl,by omega⟩
theorem zto_in {qs:List Int} (hq:qs.length=64) (h:zN qs 1 255=true):zN (zto qs) 1 255=true:=by
 refine yD.2 fun z hz=> ?_
 unfold zto at hz
 obtain⟨k,hk,rfl⟩:=wD6.1 hz
 have hk':=wB7.1 hk
 have hb:=zFi k hk'
 have hlt:(jM k).toNat<qs.length:=by omega
 rw[wF2,wA2 hlt]
 exact yD.1 h _ (wE1 hlt)
theorem pack_bad (fv:Array Value) (E:Int) (h0:E≠0) (hfs:fv.size=103) (w:World) (HC: ∀ W,Ext w W→Calls Tryz.prog 50 #[.agg fv] W fun e W'=>e=.returned (.int .i64 E)∧Ext W W') :
 Calls Tryz.prog 36 #[.agg fv] w (PackIs E [] w):=by
 have HFS:=zA hfs
 have HCK:=zA HC
 have hE:(E !=0)=true:=by simpa using h0
 clear hfs HC h0
 go_enter Tryz.func36,Tryz.ntmps36
 go_wp2_with (first
  | (refine wBox rfl 47 (.tmp 0) rfl fv rfl ?_;intro w1 g hb1 hx1 hg)
  | (refine wLdB rfl 47 (.tmp 1) rfl _ rfl hb1 _ Tryz.underlying47 rfl 103 yI HFS.out ?_)
  | (go_at_call 50;(with_reducible refine (HCK.out _ hx1).mono ?_);rintro e w2 ⟨rfl,hx2⟩))
 go_ret2
 exact⟨none,0,rfl,SL.nil _ _,hx1.trans hx2⟩
theorem pack_any (wd hi pt ev:Int) (qs cs1 xs1:List Int) (s1:Value) (cs2 xs2:List Int) (s2:Value) (bs:List Nat) (sd:Value) (w:World) (hq:qs.length=64) (h1:cs1.length=16) (h2:cs2.length=16)
 (hs1:SL w 1 s1 xs1.length (ints xs1)) (hs2:SL w 1 s2 xs2.length (ints xs2)) (hsd:SL w 1 sd bs.length (zD bs)) :
 Calls Tryz.prog 36 #[.agg (yN wd hi pt qs (zT cs1 s1) (zT cs2 s2) ev sd).toArray] w (PackIs (packE wd hi pt ev qs cs1 xs1 cs2 xs2 bs.length) (packL wd hi pt ev qs cs1 xs1 cs2 xs2 bs) w):=by
 have HC: ∀ W,Ext w W→Calls Tryz.prog 50 #[.agg (yN wd hi pt qs (zT cs1 s1) (zT cs2 s2) ev sd).toArray] W fun e W'=>e=.returned (.int .i64 (packE wd hi pt ev qs cs1 xs1 cs2 xs2 bs.length))∧Ext W W' :=
  fun W hW=>zKH wd hi pt ev qs cs1 xs1 s1 cs2 xs2 s2 bs sd W hq h1 h2 (hs1.ext hW) (hs2.ext hW) (hsd.ext hW)
 have l1:=zS cs1 s1 h1
 have l2:=zS cs2 s2 h2
 by_cases hE:packE wd hi pt ev qs cs1 xs1 cs2 xs2 bs.length=0
 ·obtain⟨ha,kq,z1,z2,hb⟩:=zKG hE
  obtain⟨k1,k2,k3,hp⟩:=zFf ha
  have k1:=vF.1 k1
  have k2:=vF.1 k2
  have k3:=vF.1 k3
  obtain⟨a1,b1,c1⟩:=zGA z1
  obtain⟨a2,b2,c2⟩:=zGA z2
  have o1:=zFn cs1 s1 (let ⟨A,c,h,_⟩:=hs1;⟨A,_,c,h⟩)
  have o2:=zFn cs2 s2 (let ⟨A,c,h,_⟩:=hs2;⟨A,_,c,h⟩)
  obtain⟨A0,c0,rfl, -⟩:=id hsd
  obtain⟨wd,rfl⟩:=wP6 (show 0≤wd by omega)
  obtain⟨hi,rfl⟩:=wP6 (show 0≤hi by omega)
  obtain⟨pt,rfl⟩:=wP6 (show 0≤pt by omega)
  obtain⟨ev,rfl⟩:=wP6 (show 0≤ev by omega)
  have e1:=zBw cs1 (fun z hz=>(yD.1 a1 z hz).1)
  have e2:=zBw cs2 (fun z hz=>(yD.1 a2 z hz).1)
  have e3:=zBw xs1 (fun z hz=>(yD.1 b1 z hz).1)
  have e4:=zBw xs2 (fun z hz=>(yD.1 b2 z hz).1)
  have hzi:=zto_in hq kq
  have e5:=zBw (zto qs) (fun z hz=>by have:=(yD.1 hzi z hz).1;omega)
  have hL:packL (wd:Int) hi pt ev qs cs1 xs1 cs2 xs2 bs=zEX wd hi pt ev (jX (zto qs)) (jX cs1) (jX xs1) (jX cs2) (jX xs2) bs:=by unfold packL;rw[if_pos hE];rfl
  rw[hE] at HC ⊢
  rw[hL]
  have key:=pack_good wd hi pt ev qs (jX (zto qs)) (jX cs1) (jX xs1) (jX cs2) (jX xs2) s1 s2 bs A0 c0 w hq e5.symm (zBJ hzi (by decide) (by decide)) (by omega) (by omega) (by omega) (by omega)
   (by rw[zBu];exact h1) (by rw[zBu];exact h2) (fun n hn=>by have:=zBJ (N:=257) a1 (by decide) (by decide) n hn;omega) (fun n hn=>by have:=zBJ (N:=257) a2 (by decide) (by decide) n hn;omega)
   (zBJ b1 (by decide) (by decide)) (zBJ b2 (by decide) (by decide)) (by rw[zBu];exact c1) (by rw[zBu];exact c2)
   (by rw[zBu,e3];exact hs1) (by rw[zBu,e4];exact hs2) hsd hb (by rw[e1];exact o1) (by rw[e2];exact o2)
  rw[e1,e2] at key
  refine (key HC).mono ?_
  rintro e w' ⟨A,n,c,rfl,rfl,hs,hx⟩
  exact⟨A,c,rfl,hs,hx⟩
 ·have hL:packL wd hi pt ev qs cs1 xs1 cs2 xs2 bs=[]:=by unfold packL;rw[if_neg hE]
  rw[hL]
  exact pack_bad _ _ hE (zDa wd hi pt qs (zT cs1 s1) (zT cs2 s2) ev sd hq l1 l2) w HC
def FC.packE (F:FC):Int:=Go.Proofs.YtkggcjdlpendfaaGreatDoor.packE F.wd F.hi F.pt F.ev F.qs F.cs1 F.xs1 F.cs2 F.xs2 F.data.length
def FC.packL (F:FC):List Nat:=Go.Proofs.YtkggcjdlpendfaaGreatDoor.packL F.wd F.hi F.pt F.ev F.qs F.cs1 F.xs1 F.cs2 F.xs2 F.data
theorem FC.pack (F:FC) (h:F.shaped) (s1 s2 sd:Value) (w:World) (ha:F.at_ w s1 s2 sd):Calls Tryz.prog 36 #[.agg (F.cells s1 s2 sd)] w (PackIs F.packE F.packL w) :=
 pack_any F.wd F.hi F.pt F.ev F.qs F.cs1 F.xs1 s1 F.cs2 F.xs2 s2 F.data sd w h.1 h.2.1 h.2.2 ha.1 ha.2.1 ha.2.2
theorem FC.packL_lt (F:FC) (hq:F.qs.length=64) (hd: ∀ b∈F.data,b<256): ∀ b∈F.packL,b<256:=by
 intro b hb
 unfold FC.packL Go.Proofs.YtkggcjdlpendfaaGreatDoor.packL at hb
 split at hb
 ·rename_i h0
  obtain⟨ha,hqs,h1,h2, -⟩:=zKG h0
  obtain⟨c1,x1, -⟩:=zGA h1
  obtain⟨c2,x2, -⟩:=zGA h2
  have ha':(1≤F.wd∧F.wd≤64)∧(1≤F.hi∧F.hi≤64)∧(F.pt=1∨F.pt=3)∧(0≤F.ev∧F.ev≤100):=by
   unfold zCs at ha
   simp only[wA9,wB9,beq_iff_eq,vF] at ha
   exact⟨ha.1.1.1,ha.1.1.2,ha.1.2,ha.2⟩
  have ht: ∀ (cs xs:List Int),zN cs 0 256=true→zN xs 0 255=true→ ∀ n∈zBG (jX cs) (jX xs),n<256:=by
   intro cs xs hc hx n hn
   unfold zBG at hn
   rcases wE5.1 hn with hn | hn
   ·obtain⟨m,hm,hn⟩:=wN5.1 hn
    have:=zBJ (N:=257) hc (by omega) (by omega) m hm
    simp at hn
    omega
   ·exact zBJ (N:=256) hx (by omega) (by omega) n hn
  unfold zEX at hb
  simp only[wE5] at hb
  rcases hb with ((hb | hb) | (hb | hb)) | hb
  ·simp at hb
   omega
  ·exact zBJ (N:=256) (zto_in hq hqs) (by omega) (by omega) b hb
  ·exact ht _ _ c1 x1 b hb
  ·exact ht _ _ c2 x2 b hb
  ·exact hd b hb
 ·cases hb
def p2 (bs:List Nat):Nat:=70+32+xT bs 70 16
def p3 (bs:List Nat):Nat:=p2 bs+32+xT bs (p2 bs) 16
def quL (bs:List Nat) (k:Nat):List Int:=(List.range k).map fun j=>((bs.getD (6+j) 0:Nat):Int)
theorem zFC (bs:List Nat) (k:Nat):(quL bs k).length=k:=by simp[quL]
theorem quL_succ (bs:List Nat) (k:Nat):quL bs (k+1)=quL bs k++[((bs.getD (6+k) 0:Nat):Int)]:=by simp[quL,wH0]
theorem quL_set (bs:List Nat) (k:Nat) (h:k<64):(quL bs k++List.replicate (64-k) 0).set k ((bs.getD (6+k) 0:Nat):Int)=quL bs (k+1)++List.replicate (64-(k+1)) 0:=by
 rw[wF6 _ _ (by rw[zFC];omega),zFC,wF7,show 64-k=(64-(k+1))+1 by omega,wF8,wF9,quL_succ,wG0]
 rfl
def jD (bs:List Nat):FC:=⟨((bs.getD 2 0:Nat):Int),((bs.getD 3 0:Nat):Int),((bs.getD 4 0:Nat):Int),xZ (quL bs 64) 64,vK bs 70 16,zBI bs (70+32) (xT bs 70 16),vK bs (p2 bs) 16,zBI bs (p2 bs+32) (xT bs (p2 bs) 16),((bs.getD 5 0:Nat):Int),bs.drop (p3 bs)⟩
theorem zMg (bs:List Nat):(jD bs).shaped:=by
 unfold FC.shaped jD
 dsimp only
 exact⟨vR _ _,vX _ _ _,vX _ _ _⟩
def vP (bs:List Nat):FC×Int:=if 91000<bs.length then (FC.zero,2) else if bs.length<p3 bs then (FC.zero,3) else if (jD bs).packE=0∧(jD bs).packL=bs then (jD bs,0) else (FC.zero,4)
def FpIs (z:FC×Int) (w:World) (e:Ending) (w':World):Prop:= ∃ s1 s2 sd,e=.returned (.tuple #[.agg (z.1.cells s1 s2 sd),.int .i64 z.2])∧z.1.at_ w' s1 s2 sd∧Ext w w'
theorem FpIs.err {z:FC×Int} {w w':World} {E:Int} (h:z=(FC.zero,E)) (hx:Ext w w'):FpIs z w (.returned (.tuple #[.agg zFile,.int .i64 E])) w':=by
 subst h
 exact⟨.slice none 0 0,.slice none 0 0,.slice none 0 0,rfl,zero_at w',hx⟩
theorem builtF (a b c d:Int):Tryz.prog.built 47 [(0,.int .i64 a),(1,.int .i64 b),(2,.int .i64 c),(5,.int .i64 d)]=some (FC.cells ⟨a,b,c,List.replicate 64 0,List.replicate 16 0,[],List.replicate 16 0,[],d,[]⟩ (.slice none 0 0) (.slice none 0 0) (.slice none 0 0)):=by
 show _=_
 kernel_rfl
def strN (bs:List Nat):ByteArray:=strOfNums (bs.map fun n:Nat=>(n:Int))
theorem zMT: ∀ (a:List Nat),(∀ x∈a,x<256)→(strN a).data.toList.map UInt8.toNat=a:=by
 intro a ha
 unfold strN strOfNums
 rw[wL2]
 induction a with
 | nil=>rfl
 | cons x l ih =>
   have h1:=ha x (by simp)
   have h2:=ih (fun y hy=>ha y (by simp[hy]))
   simp only[wC8,Function.comp,wE8] at h2 ⊢
   rw[h2,UInt8.toNat_ofNat',wK9 (by omega)]
theorem strN_inj {a b:List Nat} (ha: ∀ x∈a,x<256) (hb: ∀ x∈b,x<256) (h:(strN a).data.toList=(strN b).data.toList):a=b:=by
 rw[←zMT a ha, ←zMT b hb,h]
theorem zKQ {w:World} {A:Option Addr} {n c:Nat} {bs:List Nat} (h:SL w 1 (.slice A n c) n (zD bs)) :
 (convert 45 9 (.slice A n c)).run Tryz.prog w=.ok (.string (strN bs)) w:=by
 obtain⟨A',c',e,h1,h2,h3,h4⟩:=h
 injection e with e1 e2 e3
 subst e1 e3
 rw[run_convert_bytes_string w 45 9 5 _ n c Tryz.underlying45 Tryz.underlying5 Tryz.underlying9]
 by_cases h0:0<n
 ·obtain⟨ad,rfl, -,hc⟩:=h4 h0
  have hl:(loadCells ad n).run Tryz.prog w=.ok ((bs.map fun n:Nat=>(n:Int)).map (Value.int .u8)).toArray w:=by
   have:=run_loadCells_list (P:=Tryz.prog) w ad (zD bs) (fun j v hj=>hc j v hj)
   rw[show (zD bs).length=n by omega] at this
   rw[this]
   simp[zD,Function.comp_def]
  rw[run_bytesToString w ad n c _ hl,foldl_push_bytes]
  simp[strN,strOfNums,ByteArray.empty,ByteArray.emptyWithCapacity]
  rfl
 ·obtain rfl:n=0:=by omega
  have:bs=[]:=by simpa [zD] using h3
  subst this
  cases A<;>simp[Conv.bytesToString,loadCells,strN,strOfNums]<;>rfl
theorem ex_strEql {o:Oper} {a:Act} {x y:Operand} {t2:TypeId} (ho:o.op=.binOp .eql 9 x y t2) {s u:ByteArray} (hx:a.eval x=.string s) (hy:a.eval y=.string u) {b:Bool} (h:(s.toList ==u.toList)=b) (w:World):(execOp a.eval o).run Tryz.prog w=.ok (.value (.bool b)) w:=by
 subst h
 simp[execOp,ho,hx,hy,binOp,eqGuard,Op.stringOp]
theorem zKe (u v:Value) (xs ys:List Nat) (w:World) (hx: ∀ b∈xs,b<256) (hy: ∀ b∈ys,b<256) (hu:SL w 1 u xs.length (zD xs)) (hv:SL w 1 v ys.length (zD ys)) :
 Calls Tryz.prog 85 #[u,v] w fun e w'=>e=.returned (.bool (decide (xs=ys)))∧Ext w w':=by
 have hu':=hu
 have hv':=hv
 obtain⟨A,c,rfl, -, -, -, -⟩:=hu'
 obtain⟨B,d,rfl, -, -, -, -⟩:=hv'
 have k1:=zA (zKQ hu)
 have k2:=zA (zKQ hv)
 have HE:Hid (((strN xs).toList ==(strN ys).toList)=decide (xs=ys)):=zA (by
  rw[wE2]
  simp only[beq_iff_eq,wB3,ByteArray.toList_eq]
  exact⟨strN_inj hx hy,fun h=>by rw[h]⟩)
 generalize decide (xs=ys)=r at *
 generalize strN xs=s1 at *
 generalize strN ys=s2 at *
 clear hu hv hx hy
 generalize xs.length=n at *
 generalize ys.length=m at *
 go_enter Tryz.func85,Tryz.ntmps85
 go_wp2_with (first
  | ((with_reducible apply gS 6);refine yW rfl (.string s1) (by simp[execOp,Act.eval,k1.out]) ?_)
  | ((with_reducible apply gS 8);refine yW rfl (.string s2) (by simp[execOp,Act.eval,k2.out]) ?_)
  | ((with_reducible apply gS 9);refine zB rfl (.bool r) (ex_strEql rfl rfl rfl HE.out) ?_))
 go_ret
 exact⟨rfl,Ext.refl _⟩
theorem elt_u8C:Elt Tryz.prog 45 5 1 1:=⟨Tryz.underlying45,by kernel_rfl,by omega⟩
theorem zQX (l:List Nat): ∀ u∈zD l,u.oneCell'=true:=by
 intro u hu
 obtain⟨n, -,rfl⟩:=wD6.1 hu
 rfl
theorem zLe (w:World) (a:Option Addr) (l c:Nat):(binOp .eql 45 (.slice a l c) (.slice none 0 0)).run Tryz.prog w=.ok (.bool a.isNone) w:=by
 exact _root_.Go.run_eql_slice_nil w 45 5 a l c Tryz.underlying45
def zKW (bs:List Nat) (w:World) (e:Ending) (w':World):Prop:= ∃ B d,e=.returned (.slice B bs.length d)∧w'.ownsRow w.heap.size 5 1 (.slice B bs.length d) bs.length (zD bs)∧Ext w w'
theorem zQv (w:World) (base:Nat) (e:TypeId) (hb:base≤w.heap.size):(w.alloc (.cells #[] e)).ownsRow base e 1 (.slice (some ⟨w.heap.size,0,none⟩) 0 0) 0 [] :=
 ⟨rfl,.inr ⟨w.heap.size,0, #[],rfl,hb,heap_alloc_new w _,by simp,by simp,by simp⟩⟩
theorem clone_any (A:Option Addr) (n c:Nat) (bs:List Nat) (w:World) (hn:bs.length=n) (hN:n≤1000000) (h:SL w 1 (.slice A n c) n (zD bs)) :
 Calls Tryz.prog 84 #[.slice A n c] w (zKW bs w):=by
 unfold zKW
 rw[hn]
 cases A with
 | none =>
   obtain⟨A',c',e,h1,h2,h3,h4⟩:=h
   injection e with e1 e2 e3
   have h0:n=0:=by
    rcases wC5 n with h | h
    ·exact h
    ·obtain⟨ad,q, -⟩:=h4 h
     rw[←e1] at q
     cases q
   subst h0
   have hb:bs=[]:=wN7.1 hn
   subst hb
   clear h4 h3 e1 e2 e3
   have HNIL:=zA (fun W=>zLe W none 0 c)
   go_enter Tryz.func84,Tryz.ntmps84
   go_wp2_with ((with_reducible apply gS 4);refine zB rfl (.bool true) (by intro W;simp[execOp,Act.eval,HNIL.out,eqGuard]) ?_)
   go_ret
   exact⟨none,0,rfl,zAT _ _ _ _,Ext.refl _⟩
 | some ad =>
   have HS:=zA h
   have HNIL:=zA (fun W=>zLe W (some ad) n c)
   have h5:=zQv w w.heap.size 5 (wA5 _)
   have hx5:=(Ext.refl w).alloc (.cells #[] 5)
   clear h
   go_enter Tryz.func84,Tryz.ntmps84
   go_wp2_with (first
    | ((with_reducible apply gS 4);refine zB rfl (.bool false) (by intro W;simp[execOp,Act.eval,HNIL.out,eqGuard]) ?_)
    | ((with_reducible apply gS 7);refine wApf elt_u8C rfl (.tmp 5) (.tmp 6) rfl w.heap.size (.slice (some ⟨w.heap.size,0,none⟩) 0 0) 0 [] rfl h5 (.slice (some ad) n c) n (zD bs) rfl (HS.out.ext hx5) (zQX bs) (by omega) (by omega) (by simp) ?_;intro B d w7 ho7 hg7 hr7;rw[wB2,wK7] at ho7;rw[wB2]))
   go_ret
   exact⟨_,_,rfl,ho7,Below.grown hx5 hg7 hx5.size (fun k hk=>by simp[Value.ownBlock] at hk;omega)⟩
theorem zPo (A:Option Addr) (n c:Nat) (bs:List Nat) (w:World) (hn:bs.length=n) (hl:91000<n) :
 Calls Tryz.prog 37 #[.slice A n c] w (FpIs (vP bs) w):=by
 have HZ:Hid (vP bs=(FC.zero,2)):=zA (by unfold vP;rw[if_pos (by omega)])
 have HE:=zA (fun W (h:Ext w W)=>FpIs.err HZ.out h)
 have hzs:=zA zBR
 have hzo:=zA zCg
 have hz0:=zBj
 have hbf:=zA zDx
 generalize zFile=zf at *
 generalize vP bs=pz at *
 clear HZ hn
 go_enter Tryz.func37,Tryz.ntmps37
 go_wp2_with (first
  | ((with_reducible apply gS 2);refine wAlo' rfl (some 2) rfl 47 rfl _ hz0 ?_;intro w1 g0 hb0 hx1 hg0)
  | ((with_reducible apply gS 12);refine qH (by rfl) 47 rfl _ hbf.out ?_)
  | ((with_reducible apply gT 2 12);refine wStB rfl 47 (.tmp 2) (.tmp 12) rfl g0 zf rfl rfl hb0 103 yI hzs.out hzs.out hzo.out ?_;intro w2 hb2 hg2))
 exact yB rfl rfl g0 rfl hb2 _ Tryz.underlying47 rfl 103 yI hzs.out (HE.out _ (hx1.grown hg2 hg0))
theorem PRk.upd {S:Nat→Prop} {w w':World} {gr p:Nat} {bs:List Nat} (h:PRk w gr bs p) (hu:Upd S w w') (hS: ∀ x,S x→gr<x):PRk w' gr bs p:=PR.upd h hu hS
theorem PRk.ext {w w':World} {gr p:Nat} {bs:List Nat} (h:PRk w gr bs p) (hx:Ext w w'):PRk w' gr bs p:=PR.ext h hx
theorem PRk.lt {w:World} {gr p:Nat} {bs:List Nat} (h:PRk w gr bs p):gr<w.heap.size:=PR.lt h
theorem PRk.flag {w:World} {gr p:Nat} {bs:List Nat} (h:PRk w gr bs p):w.cell? ⟨gr,1,none⟩=some (.bool (decide (bs.length<p))):=PR.flag h
theorem PRk.start {w w3:World} {gr n c:Nat} {A:Option Addr} {bs:List Nat} (hn:bs.length=n) (hb:Blk w3 gr 119 #[.slice A n c,.bool false]) (hs:SL w 1 (.slice A n c) n (zD bs)) (hx:Ext w w3) (hg:w.heap.size≤gr):PRk w3 gr bs 0:=by
 subst hn
 refine⟨A,c,by simpa using hb,by simpa using hs.ext hx,fun h0 ad e=> ?_⟩
 obtain⟨A',c',e1,h1,h2,h3,h4⟩:=hs
 injection e1 with e1 e2 e3
 obtain⟨ad',e5,h5, -⟩:=h4 (by simpa using h0)
 rw[←e1,e] at e5
 injection e5 with e5
 subst e5
 omega
theorem PRk.rest {w:World} {gr p:Nat} {bs:List Nat} (h:PRk w gr bs p): ∃ A c,w.cell? ⟨gr,0,none⟩=some (.slice A (bs.drop p).length c)∧SL w 1 (.slice A (bs.drop p).length c) (bs.drop p).length (zD (bs.drop p)):=by
 obtain⟨A,c,h1,h2,h3⟩:=h
 exact⟨A,c,h1.cell 0,h2⟩
end Go.Proofs.YtkggcjdlpendfaaGreatDoor
