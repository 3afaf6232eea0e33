/- Contracts of the functions that the law reaches, part 25. -/
import Derived.Lib.FrozenHead
import Derived.Lib.Builder
import Derived.Lib.UnsafeStr
import Derived.Lib.AppendStr
import Derived.Laws.Externs
import Derived.RegionTactic
import Derived.Test.YtkggcjdlpendfaaGreatDoorMTopCoarseCard24
namespace Go.Proofs.YtkggcjdlpendfaaGreatDoor
set_option linter.unusedVariables false
set_option linter.unusedSimpArgs false
set_option maxRecDepth 20000
set_option maxHeartbeats 8000000
open Go.RowKit
section
theorem goesSrc:zAP Tryz.prog 242:=⟨_,Tryz.func242,by kernel_rfl,by kernel_rfl⟩
theorem methSrc (a b : Addr) : Meth Tryz.prog 214 (.agg #[.pointer (some a), .pointer (some b)]) "Token" 242 (.agg #[.pointer (some a), .pointer (some b)]) := ⟨fun w => by kernel_rfl, goesSrc⟩
theorem segSrc (gk gr gc1 gc2:Nat) (T1 T2:List Tok) (A:Option Addr) (n c:Nat) (bs:List Nat) (W0:World) (hG: ∀ (b:Bool) p,p≤(zK bs).length→jE (if b then T1 else T2) (zK bs) p 16 1=vO (if b then T1 else T2) (zK bs) p)
 (hT1: ∀ t∈T1,0≤t.1∧t.1≤255) (hT2: ∀ t∈T2,0≤t.1∧t.1≤255) (B:Nat) (hB:gr<B):Src 242 #[.agg #[.pointer (some ⟨gk,0,none⟩),.pointer (some ⟨gr,0,none⟩)]] #[] B (fun b=>b=gr) (DecIn gk gr gc1 gc2 T1 T2 A n c bs W0) (yM true T1 T2 (zK bs)) :=
 ⟨fun b e=>by omega,fun b p W h _=>by simpa using zPr gk gr gc1 gc2 T1 T2 A n c bs W0 hG hT1 hT2 b p W h,fun s W W' h hu=>h.keep hB hu,fun b p W _ h0=>zQe hT1 hT2 h0⟩
theorem ptr2_one (p q:Option Addr):(#[Value.pointer p,Value.pointer q]).all (·.oneCell')=true:=by simp[Value.oneCell']
theorem zNV {w:World} {base size n:Nat} {e:TypeId} {v:Value} {xs:List Value} (ho:w.ownsRow base e size v n xs): ∀ b,v.ownBlock=some b→base≤b∧b<w.heap.size:=by
 obtain⟨-,hh⟩:=ho
 rcases hh with ⟨rfl, -⟩ | ⟨k,cap,cur,rfl,h1,hg, -⟩
 ·intro b e1;simp[Value.ownBlock] at e1
 ·intro b e1
  have:k=b:=by simpa [Value.ownBlock] using e1
  subst this
  exact⟨h1,Blk.lt (w:=w) (t:=e) (cs:=cur) hg⟩
theorem zHb {w:World} {base size n c:Nat} {e:TypeId} {A:Option Addr} {xs:List Value} (ho:w.ownsRow base e size (.slice A n c) n xs):A=none→c=0:=by
 obtain⟨-,hh⟩:=ho
 rcases hh with ⟨h1, -⟩ | ⟨k,cap,cur,h1, -⟩
 ·injection h1 with _ _ h3;exact fun _=>h3
 ·injection h1 with h2 _ _;exact fun h=>by rw[h] at h2;cases h2
theorem srcNe:214≠33:=by decide
theorem builtSrc (p q:Addr):Tryz.prog.built 214 [(0,.pointer (some p)),(1,.pointer (some q))]=some #[.pointer (some p),.pointer (some q)]:=by
 show _=_
 kernel_rfl
theorem zLA:(Tryz.prog.info? 214).map (·.size)=some 2:=by kernel_rfl
theorem zeroSrc:(Tryz.prog.info? 214).bind (·.zero)=some (.agg #[.pointer none,.pointer none]):=by kernel_rfl
theorem plZ_lt: ∀ (bs z:List Nat),(∀ b∈bs,b<256)→plZ bs=some z→(∀ b∈z,b<256)∧z.length≤bs.length
 | [],z,_,h=>by
   obtain rfl:[]=z:=by simpa [plZ] using h
   exact⟨by simp,by simp⟩
 | [x],z,hl,h=>by
   rw[plZ] at h
   split at h
   ·cases h
   ·obtain rfl:=Option.some.inj h
    exact⟨hl,by simp⟩
 | x::y::r,z,hl,h=>by
   rw[plZ] at h
   split at h
   ·split at h
    ·obtain⟨q,hq,rfl⟩:=wC1.1 h
     obtain⟨h1,h2⟩:=plZ_lt r q (fun b hb=>hl b (by simp[hb])) hq
     refine⟨fun b hb=> ?_,by simp only[wA8];omega⟩
     rcases wJ3.1 hb with rfl | hb
     ·omega
     ·exact h1 b hb
    ·cases h
   ·obtain⟨q,hq,rfl⟩:=wC1.1 h
    obtain⟨h1,h2⟩:=plZ_lt (y::r) q (fun b hb=>hl b (by simp[hb])) hq
    refine⟨fun b hb=> ?_,by simp only[wA8] at h2 ⊢;omega⟩
    rcases wJ3.1 hb with rfl | hb
    ·exact hl b (by simp)
    ·exact h1 b hb
attribute [local irreducible] zD bv plZ zK yM qW zAF yA
theorem zPA (T1 T2:List Tok) (t1 t2:List Value) (A:Option Addr) (n c:Nat) (bs:List Nat) (nn:Int) (m0:Int) (w:World) (hs:SL w 1 (.slice A n c) n (zD bs)) (hA:A=none→c=0) (hlt: ∀ b∈bs,b<256) (hn:n≤1048576) (hm:w.cell? ⟨0,0,none⟩=some (.int .i64 m0)) (h1:t1.length=17) (h2:t2.length=17)
 (hG: ∀ D (b:Bool) p,p≤D.length→jE (if b then T1 else T2) D p 16 1=vO (if b then T1 else T2) D p) (hT1: ∀ t∈T1,0≤t.1∧t.1≤255) (hT2: ∀ t∈T2,0≤t.1∧t.1≤255)
 (o1:t1.toArray.all (·.oneCell')=true) (o2:t2.toArray.all (·.oneCell')=true)
 (C1: ∀ W,Ext w W→Calls Tryz.prog 102 #[.agg t1.toArray] W fun e W'=>e=.returned (.int .i64 0)∧Ext W W')
 (C2: ∀ W,Ext w W→Calls Tryz.prog 102 #[.agg t2.toArray] W fun e W'=>e=.returned (.int .i64 0)∧Ext W W')
 (N1: ∀ W,Ext w W→Calls Tryz.prog 184 #[.agg t1.toArray] W fun e W'=> ∃ gc,e=.returned (.pointer (some ⟨gc,0,none⟩))∧CoderS W' gc T1∧Ext W W')
 (N2: ∀ W,Ext w W→Calls Tryz.prog 184 #[.agg t2.toArray] W fun e W'=> ∃ gc,e=.returned (.pointer (some ⟨gc,0,none⟩))∧CoderS W' gc T2∧Ext W W') :
 Calls Tryz.prog 110 #[.agg (t1++t2).toArray,.slice A n c,.int .i64 nn] w (zCw (uB true T1 T2 nn (plZ bs)) w):=by
 have HM:=zA (fun W (h:Ext w W)=>zLo T1 T2 t1 t2 W h1 h2 o1 o2 (fun W' h'=>C1 W' (h.trans h')) (fun W' h'=>C2 W' (h.trans h')) (fun W' h'=>N1 W' (h.trans h')) (fun W' h'=>N2 W' (h.trans h')))
 have hsz:=zA (zCY h1 h2)
 have HPL:=zA (fun W (h:Ext w W)=>plain_any A n c bs m0 W (hs.ext h) hA hlt hn (zAS hm h))
 have hbl:=(zFK hs).1
 have hpz:=plZ_lt bs
 generalize (t1++t2).toArray=tt at *
 clear C1 C2 N1 N2 h1 h2 o1 o2 hs hm hA
 by_cases hr:nn<0∨400<nn
 ·have HR:Hid (uB true T1 T2 nn (plZ bs)=(1,[])):=zA (by unfold uB;rw[if_pos hr])
  rw[HR.out]
  clear HPL hpz hG hT1 hT2
  by_cases h0:nn<0
  ·go_enter Tryz.func110,Tryz.ntmps110
   go_wp2_with (first
    | ((with_reducible apply gS 3);refine wBox rfl 44 (.tmp 0) rfl tt rfl ?_;intro w1 g hb1 hx1 hg1)
    | ((with_reducible apply gS 20);refine wLdB rfl 44 (.tmp 3) rfl g rfl hb1 _ Tryz.underlying44 rfl 34 qA hsz.out ?_)
    | (go_at_call 152;(with_reducible refine (HM.out _ hx1).mono ?_);rintro e w2 ⟨gk,gc1,gc2,rfl,hk2,hc21,hc22,hx2⟩;have hx2':=hx1.trans hx2))
   refine bodyPost_ret (results_tmp2 rfl _ _ _) rfl ?_
   refine⟨hx2', ?_⟩
   rw[if_neg (show ¬(1:Int)=0 by decide)]
   rfl
  ·have h4:400<nn:=hr.resolve_left h0
   clear hr
   go_enter Tryz.func110,Tryz.ntmps110
   go_wp2_with (first
    | ((with_reducible apply gS 3);refine wBox rfl 44 (.tmp 0) rfl tt rfl ?_;intro w1 g hb1 hx1 hg1)
    | ((with_reducible apply gS 20);refine wLdB rfl 44 (.tmp 3) rfl g rfl hb1 _ Tryz.underlying44 rfl 34 qA hsz.out ?_)
    | (go_at_call 152;(with_reducible refine (HM.out _ hx1).mono ?_);rintro e w2 ⟨gk,gc1,gc2,rfl,hk2,hc21,hc22,hx2⟩;have hx2':=hx1.trans hx2))
   refine bodyPost_ret (results_tmp2 rfl _ _ _) rfl ?_
   refine⟨hx2', ?_⟩
   rw[if_neg (show ¬(1:Int)=0 by decide)]
   rfl
 ·obtain⟨N,hN⟩: ∃ N:Nat,nn=(N:Int):=⟨nn.toNat,by omega⟩
  subst hN
  have hN4:N≤400:=by omega
  have h0I: ¬(N:Int)<0:=by omega
  have h4I: ¬(400:Int)<(N:Int):=by omega
  cases hq:plZ bs with
  | none =>
    have HR:Hid (uB true T1 T2 (N:Int) none=(4,[])):=zA (by unfold uB;rw[if_neg hr])
    rw[hq] at HPL
    rw[HR.out]
    clear hq hpz hG hT1 hT2 hr
    go_enter Tryz.func110,Tryz.ntmps110
    go_wp2_with (first
     | ((with_reducible apply gS 3);refine wBox rfl 44 (.tmp 0) rfl tt rfl ?_;intro w1 g hb1 hx1 hg1)
     | ((with_reducible apply gS 20);refine wLdB rfl 44 (.tmp 3) rfl g rfl hb1 _ Tryz.underlying44 rfl 34 qA hsz.out ?_)
     | (go_at_call 152;(with_reducible refine (HM.out _ hx1).mono ?_);rintro e w2 ⟨gk,gc1,gc2,rfl,hk2,hc21,hc22,hx2⟩;have hx2':=hx1.trans hx2)
     | (go_at_call 160;(with_reducible refine (HPL.out _ hx2').mono ?_);rintro e w3 ⟨rfl,hx3⟩))
    refine bodyPost_ret (results_tmp2 rfl _ _ _) rfl ?_
    refine⟨hx2'.trans hx3, ?_⟩
    rw[if_neg (show ¬(4:Int)=0 by decide)]
    rfl
  | some pb =>
    obtain⟨hplt,hpl⟩:=hpz pb hlt hq
    have hRd:uB true T1 T2 (N:Int) (some pb)=zCm (zK pb) (zAF (yM true T1 T2 (zK pb)) N 0 0 []):=by unfold uB;rw[if_neg hr];rfl
    rw[hRd]
    rw[hq] at HPL
    obtain⟨pn,hpn⟩: ∃ k,pb.length=k:=⟨_,rfl⟩
    have HDL:=zA (show (zK pb).length=8*pn by rw[zDp,hpn])
    have hpn2:pn≤1048576:=by omega
    have HG:=zA (fun (b:Bool) p h=>hG (zK pb) b p h)
    have HT1:=zA hT1
    have HT2:=zA hT2
    have HPN:=zA hpn
    have HPLT:=zA hplt
    clear hq hpz hG hT1 hT2 hr hRd hplt hpl hlt hbl
    have HNR:=zA (fun B d W (h:SL W 1 (.slice B pn d) pn (zD pb))=>zMe B pn d pb W h HPN.out HPLT.out (by omega))
    have hR0: ∃ R,zAF (yM true T1 T2 (zK pb)) N 0 0 []=R:=⟨_,rfl⟩
    obtain⟨R,hR0⟩:=hR0
    have HR0:Hid (zAF (yM true T1 T2 (zK pb)) (N-0) 0 0 []=R):=zA hR0
    rw[hR0]
    obtain⟨FIN,hF⟩: ∃ F,zCm (zK pb) R=F:=⟨_,rfl⟩
    have HFIN:=zA hF
    rw[hF]
    have hkn0:=qN
    have HAL:=zA (show (Tryz.prog.info? 33).bind (·.zero)=some (.agg (bv (List.replicate 64 0))) from qN)
    have hz0:=zA (show (Value.agg (bv (List.replicate 64 0))).cells.size=64 by rw[show (Value.agg (bv (List.replicate 64 0))).cells=bv (List.replicate 64 0) from rfl,zJ];rfl)
    generalize bv (List.replicate 64 0)=cz at *
    clear hR0 hF hkn0 hpn
    go_enter Tryz.func110,Tryz.ntmps110
    go_wp2_with (first
     | ((with_reducible apply gS 3);refine wBox rfl 44 (.tmp 0) rfl tt rfl ?_;intro w1 g hb1 hx1 hg1)
     | ((with_reducible apply gS 20);refine wLdB rfl 44 (.tmp 3) rfl g rfl hb1 _ Tryz.underlying44 rfl 34 qA hsz.out ?_)
     | (go_at_call 152;(with_reducible refine (HM.out _ hx1).mono ?_);rintro e w2 ⟨gk,gc1,gc2,rfl,hk2,hc21,hc22,hx2⟩;have hx2':=hx1.trans hx2)
     | (go_at_call 160;(with_reducible refine (HPL.out _ hx2').mono ?_);rintro e w3 ⟨B,k3,d3,rfl,hk3,hs3,hn3,hx3⟩;obtain rfl:pn=k3:=HPN.out.symm.trans hk3)
     | (go_at_call 161;(with_reducible refine (HNR.out _ _ _ hs3).mono ?_);rintro e w4 ⟨gr,rfl,hr4,hx4,hg4,hg4'⟩)
     | ((with_reducible apply gS 44);refine zB rfl (.agg #[.pointer (some ⟨gk,0,none⟩),.pointer (some ⟨gr,0,none⟩)]) (uH rfl rfl rfl (builtSrc _ _)) ?_)
     | ((with_reducible apply gS 10);refine wAlo' rfl (some 10) rfl 214 rfl _ zeroSrc ?_;intro w5 g10 hb5 hx5 hg5)
     | ((with_reducible apply gT 10 44);refine wStB rfl 214 (.tmp 10) (.tmp 44) rfl _ _ rfl rfl hb5 2 zLA rfl rfl (ptr2_one _ _) ?_;intro w6 hb6 hg6))
    have hx46:Ext w4 w6:=hx5.grown hg6 hg5
    have hD6:DecIn gk gr gc1 gc2 T1 T2 B pn d3 pb w3 w6 0:=⟨hk2.ext hx3,hc21.ext hx3,hc22.ext hx3,hg4,hx4.trans hx46,hr4.ext hx46⟩
    have hx6:Ext w w6:=((hx2'.trans hx3).trans hx4).trans hx46
    have hg10: ¬g10=gr:=by have:=hg4';omega
    have hgrw:w.heap.size≤gr:=by have:=(hx2'.trans hx3).size;omega
    clear hb1 hx1 hg1 hk2 hc21 hc22 hx2 hx2' hk3 hs3 hn3 hx3 hr4 hx4 hg4 hb5 hx5 hg5 hg6 hx46
    have hlt6:=hD6.lt
    obtain⟨wo,hwo⟩: ∃ wo:World,wo=w6:=⟨_,rfl⟩
    have HGR:Hid (gr<wo.heap.size):=zA (by rw[hwo];exact hlt6)
    have HW6:Hid (wo.heap.size≤w6.heap.size):=zA (by rw[hwo];exact wA5 _)
    have HWW:Hid (w.heap.size≤wo.heap.size):=zA (by rw[hwo];exact hx6.size)
    have how:OwnV w6 wo.heap.size 33 64 (.slice none 0 0) 0 (ints []):=OwnV.nil _ _ _ _
    clear hwo
    go_loopw [11,12,46] (fun bf x iv wr=> ∃ (k p:Nat) (before:Int) (L:List Int),k≤N∧iv=.int .i64 (k:Int)∧bf=.int .i64 before∧OwnV wr wo.heap.size 33 64 x k (ints L)∧DecIn gk gr gc1 gc2 T1 T2 B pn d3 pb w3 wr p∧Blk wr g10 214 #[.pointer (some ⟨gk,0,none⟩),.pointer (some ⟨gr,0,none⟩)]∧Hid (-2047≤before∧before≤2047)∧Hid (zAF (yM true T1 T2 (zK pb)) (N-k) before p L=R)∧Hid (wo.heap.size≤wr.heap.size)∧Ext w wr) (fun _ _ i _=>N-(intOf i).toNat)
    case atStart=>exact⟨0,0,0,[],by omega,rfl,rfl,how,hD6,hb6,zA (by omega),HR0,HW6,hx6⟩
    case round =>
     clear how hD6 hb6 HR0 HW6 hx6 hlt6
     obtain⟨k,p,before,L,hk,rfl,rfl,⟨OA,oc,rfl,hown⟩,hD,hbs,HBF,HRR,HSZ,hx⟩:=hrel
     by_cases hlk:k<N
     ·have HFR:=zA (fun W (h:DecIn gk gr gc1 gc2 T1 T2 B pn d3 pb w3 W p)=>from_any before HBF.out.1 HBF.out.2 (methSrc ⟨gk,0,none⟩ ⟨gr,0,none⟩) (segSrc gk gr gc1 gc2 T1 T2 B pn d3 pb w3 HG.out HT1.out HT2.out W.heap.size h.lt) W p h rfl)
      have HE:Hid ((qW (yM true T1 T2 (zK pb)) before p).1≠0→R=((qW (yM true T1 T2 (zK pb)) before p).1,[],p)):=zA (fun h=>by rw[←HRR.out,show N-k=(N-(k+1))+1 by omega,zMG h])
      have HO:Hid ((qW (yM true T1 T2 (zK pb)) before p).1=0→zAF (yM true T1 T2 (zK pb)) (N-(k+1)) ((qW (yM true T1 T2 (zK pb)) before p).2.1.getD 0 0) (qW (yM true T1 T2 (zK pb)) before p).2.2.2 (L++(qW (yM true T1 T2 (zK pb)) before p).2.1)=R):=zA (fun h=>by rw[←HRR.out,show N-k=(N-(k+1))+1 by omega,zIp h])
      have hzl:=(zOJ (yM true T1 T2 (zK pb)) before p).1
      have HHD:=zA (blkZ_head (yM true T1 T2 (zK pb)) before p)
      generalize qW (yM true T1 T2 (zK pb)) before p=G at *
      obtain⟨ge,gz,gt,gp⟩:=G
      unfold zBY at HFR
      dsimp only at HFR HE HO hzl HHD
      have HZL:=zA hzl
      have HS64:=zA (show (bv gz).size=64 by rw[zJ];exact hzl)
      have HO64:=zA (xB gz)
      clear hzl HRR
      by_cases hge:ge=0
      ·subst hge
       have HO2:=zA (HO.out rfl)
       have HH2:=zA (HHD.out rfl)
       have HH0:Hid ((bv gz)[0]? =some (.int .i64 (gz.getD 0 0))):=zA (by rw[qG _ 0 (by rw[HZL.out];omega)];simp[wF2,HZL.out])
       clear HE HO HHD
       go_wp2_with (first
        | ((with_reducible apply gS 50);refine wLdB rfl 214 (.tmp 10) rfl g10 rfl hbs _ Tryz.underlying214 rfl 2 zLA rfl ?_)
        | (go_at_call 162;(with_reducible refine (HFR.out _ hD).mono ?_);rintro e w8 ⟨A8,c8,rfl, -,hI8,hu8⟩;have hb8:=hu8.blk hbs hg10;have ho8:=uM hown hu8 (fun x e=>by have:=HGR.out;omega);have hx8:Ext w w8:=hu8.ext hx (fun x e=>by omega);have hs8:=hu8.size)
        | ((with_reducible apply gS 13);refine wAlo' rfl (some 13) rfl 33 rfl _ HAL.out ?_;intro w9 g13 hb9 hx9 hg9)
        | ((with_reducible apply gT 13 53);refine wStB rfl 33 (.tmp 13) (.tmp 53) rfl _ _ rfl rfl hb9 64 zF HS64.out hz0.out HO64.out ?_;intro w10 hb10 hg10';have hx10:Ext w8 w10:=hx9.grown hg10' hg9)
        | ((with_reducible apply gS 60);refine wLdB rfl 33 (.tmp 13) rfl g13 rfl hb10 _ Tryz.underlying33 rfl 64 zF HS64.out ?_)
        | ((with_reducible apply gS 61);refine wLit1 rfl 25 33 (.tmp 60) rfl (some 61) rfl Tryz.underlying25 64 zF zero48' _ rfl HS64.out (by omega) (by omega) ?_;intro w11 g61 hb11 hx11 hg11;have hx811:=hx10.trans hx11;have ho11:=yJ ho8 hx811)
        | ((with_reducible apply gS 62);at_builtin;refine wApf zKk rfl (.tmp 59) (.tmp 61) rfl wo.heap.size (.slice OA k oc) k (ints L) rfl ho11 _ 1 (ints gz) rfl (blk_sl1 hb11 HZL.out) (qR gz) (by omega) (by omega) (by have:=HSZ.out;have:=hx811.size;omega) ?_;intro A12 c12 w12 ho12 hgr12 hor12;have hb13:=hb10.ext hx11;have hu12:=zL hgr12;have hlo8:=zNV ho8;have hb12:=hu12.blk hb13 (fun e=>by have:=(hlo8 _ e).2;omega);have q13:w12.cell? ⟨g13,0,none⟩=some (.int .i64 (gz.getD 0 0)):=(hb12.cell 0).trans HH0.out))
       go_roundw
       case rel =>
        have hlo:=zNV ho11
        refine⟨k+1,gp,gz.getD 0 0,L++gz,by omega,by go_num,rfl,⟨A12,c12,rfl,by rw[uQ];exact ho12⟩,(hI8.ext hx811).keep HGR.out (vQ hu12 (fun b e=>(hlo b e).1)),hu12.blk (hb8.ext hx811) (fun e=>zGI (hb8.ext hx811) ho11 srcNe e.symm),HH2,HO2,zA ?_,hu12.ext (hx8.trans hx811) (fun b e=>by have:=(hlo b e).1;have:=HWW.out;omega)⟩
        have h1:=HSZ.out
        have h2:=hx811.size
        have h3:=hu12.size
        omega
       case measure=>simp[intOf];omega
      ·have hgb:(ge !=0)=true:=by simpa using hge
       have HRE:=zA (HE.out hge)
       have HGE:=zA hge
       clear hge HE HO HHD
       go_wp2_with (first
        | ((with_reducible apply gS 50);refine wLdB rfl 214 (.tmp 10) rfl g10 rfl hbs _ Tryz.underlying214 rfl 2 zLA rfl ?_)
        | (go_at_call 162;(with_reducible refine (HFR.out _ hD).mono ?_);rintro e w8 ⟨A8,c8,rfl, -,hI8,hu8⟩;have hx8:Ext w w8:=hu8.ext hx (fun x e=>by omega))
        | ((with_reducible apply gS 13);refine wAlo' rfl (some 13) rfl 33 rfl _ HAL.out ?_;intro w9 g13 hb9 hx9 hg9)
        | ((with_reducible apply gT 13 53);refine wStB rfl 33 (.tmp 13) (.tmp 53) rfl _ _ rfl rfl hb9 64 zF HS64.out hz0.out HO64.out ?_;intro w10 hb10 hg10';have hx10:Ext w8 w10:=hx9.grown hg10' hg9))
       refine bodyPost_ret (results_tmp2 rfl _ _ _) rfl ?_
       have hfe:FIN=(ge,[]):=by rw[←HFIN.out,HRE.out];unfold zCm;rw[if_pos HGE.out]
       rw[hfe]
       refine⟨hx8.trans hx10, ?_⟩
       rw[if_neg HGE.out]
       rfl
     ·have hkN:N-k=0:=by omega
      have HR2:Hid (R=(0,L,p)):=zA (by rw[←HRR.out,hkN,zAF])
      have hp8:=hD.r.2.2.2.2.2.2
      have hll:L.length=k*64:=by have:=hown.1;simpa [ints] using this
      have hln:=zHb hown
      obtain⟨lf,hlf⟩: ∃ l,8*pn-p=l:=⟨_,rfl⟩
      have HLF:=zA (fun W h=>zJJ gr B pn d3 p pb W h)
      rw[hlf] at HLF
      obtain⟨m,hm⟩: ∃ m,lf%8=m:=⟨_,rfl⟩
      have HGT:=zA (fun W h=>zHm gr B pn d3 p pb m W h (by omega) (by omega))
      obtain⟨x,hx0⟩: ∃ x,yA (((zK pb).drop p).take m)=x:=⟨_,rfl⟩
      rw[hx0] at HGT
      have hm8:m<8:=by omega
      have H73:Hid (∀ W,(binOp .rem 3 (.int .i64 (lf:Int)) (.int .i64 8)).run Tryz.prog W=.ok (.int .i64 (m:Int)) W):=zA (fun W=>by rw[show (8:Int)=((8:Nat):Int) from rfl,zFZ lf 8 (by omega) (by omega),hm])
      have hdl:((zK pb).drop p).length=lf:=by rw[wJ4,HDL.out,hlf]
      have hlf2:lf≤8388608:=by omega
      by_cases h7:7<lf
      ·have HFE:Hid (FIN=(4,[])):=zA (by rw[←HFIN.out,HR2.out];unfold zCm;rw[if_neg (by simp),if_pos (.inl (by rw[HDL.out];dsimp only;omega))])
       have H78:Hid (decide ((7:Int)<(lf:Int))=true):=zA (by rw[wK3];omega)
       clear HRR HFIN HR2 hlf hm hx0 hp8 hdl
       go_wp2_with (first
        | ((with_reducible apply gS 67);refine yW rfl (.pointer (some ⟨gr,0,none⟩)) (zCQ rfl rfl (hbs.cell 1)) ?_)
        | (go_at_call 163;(with_reducible refine (HLF.out _ hD.r).mono ?_);rintro e w8 ⟨rfl,hx8⟩;have hb8:=hbs.ext hx8;have hI8:=hD.ext hx8)
        | ((with_reducible apply gS 71);refine yW rfl (.pointer (some ⟨gr,0,none⟩)) (zCQ rfl rfl (hb8.cell 1)) ?_)
        | ((with_reducible apply gS 73);refine zB rfl (.int .i64 (m:Int)) (qE rfl rfl rfl H73.out) ?_)
        | (go_at_call 164;(with_reducible refine (HGT.out _ hI8.r).mono ?_);rintro e w9 ⟨rfl, -,hu9⟩;have hx9:=hu9.ext (hx.trans hx8) (fun x e=>by omega);have ho9:=uM (yJ hown hx8) hu9 (fun x e=>by have:=HGR.out;omega))
        | ((with_reducible apply gS 78);refine zB rfl (.bool true) (xP rfl rfl rfl H78.out) ?_))
       refine bodyPost_ret (results_tmp2 rfl _ _ _) rfl ?_
       rw[HFE.out]
       refine⟨hx9, ?_⟩
       rw[if_neg (show ¬(4:Int)=0 by decide)]
       rfl
      ·have hml:m=lf:=by omega
       subst hml
       obtain⟨Q,hQ⟩: ∃ Q:Nat,2 ^ m=Q:=⟨_,rfl⟩
       have hQ1:0<Q:=by rw[←hQ];exact wI2 m
       have hQ2:Q<1000:=by rw[←hQ];have:=wI1 (n:=2) (by omega) (show m≤7 by omega);have h128:(2:Nat) ^ 7=128:=by decide
                           omega
       obtain⟨Q1,hQ3⟩: ∃ q,Q-1=q:=⟨_,rfl⟩
       have H82:Hid (∀ W,(binOp .shl 3 (.int .i64 1) (.int .i64 (m:Int))).run Tryz.prog W=.ok (.int .i64 (Q:Int)) W):=zA (fun W=>by rw[run_shl1 m (by omega), ←hQ];push_cast;rfl)
       have H83:Hid (∀ W,(binOp .sub 3 (.int .i64 (Q:Int)) (.int .i64 1)).run Tryz.prog W=.ok (.int .i64 (Q1:Int)) W):=zA (fun W=>by rw[show (1:Int)=((1:Nat):Int) from rfl,zIr Q 1 (by omega) (by omega),hQ3])
       have H78:Hid (decide ((7:Int)<(m:Int))=false):=zA (by rw[wK4];omega)
       have hon:=ones_iff ((zK pb).drop p)
       rw[hdl,hQ,hQ3, ←wC4 (i:=m) (l:=(zK pb).drop p) (by omega),hx0,wC4 (by omega)] at hon
       by_cases hf:false∈(zK pb).drop p
       ·have HFE:Hid (FIN=(4,[])):=zA (by rw[←HFIN.out,HR2.out];unfold zCm;rw[if_neg (by simp),if_pos (.inr hf)])
        have H84:Hid (decide ((x:Int)≠(Q1:Int))=true):=zA (by rw[wB3];intro e;exact hon.1 (by exact_mod_cast e) hf)
        clear HRR HFIN HR2 hlf hm hx0 hp8 hdl hon hQ hQ3 hf
        go_wp2_with (first
         | ((with_reducible apply gS 67);refine yW rfl (.pointer (some ⟨gr,0,none⟩)) (zCQ rfl rfl (hbs.cell 1)) ?_)
         | (go_at_call 163;(with_reducible refine (HLF.out _ hD.r).mono ?_);rintro e w8 ⟨rfl,hx8⟩;have hb8:=hbs.ext hx8;have hI8:=hD.ext hx8)
         | ((with_reducible apply gS 71);refine yW rfl (.pointer (some ⟨gr,0,none⟩)) (zCQ rfl rfl (hb8.cell 1)) ?_)
         | ((with_reducible apply gS 73);refine zB rfl (.int .i64 (m:Int)) (qE rfl rfl rfl H73.out) ?_)
         | (go_at_call 164;(with_reducible refine (HGT.out _ hI8.r).mono ?_);rintro e w9 ⟨rfl, -,hu9⟩;have hx9:=hu9.ext (hx.trans hx8) (fun x e=>by omega);have ho9:=uM (yJ hown hx8) hu9 (fun x e=>by have:=HGR.out;omega))
         | ((with_reducible apply gS 78);refine zB rfl (.bool false) (xP rfl rfl rfl H78.out) ?_)
         | ((with_reducible apply gS 82);refine xC (by rfl) (.int .i64 (Q:Int)) (qE rfl rfl rfl H82.out) ?_)
         | ((with_reducible apply gS 83);refine xC (by rfl) (.int .i64 (Q1:Int)) (qE rfl rfl rfl H83.out) ?_)
         | ((with_reducible apply gS 84);refine xC (by rfl) (.bool true) (zAK rfl rfl rfl H84.out) ?_))
        refine bodyPost_ret (results_tmp2 rfl _ _ _) rfl ?_
        rw[HFE.out]
        refine⟨hx9, ?_⟩
        rw[if_neg (show ¬(4:Int)=0 by decide)]
        rfl
       ·have HFE:Hid (FIN=(0,L)):=zA (by rw[←HFIN.out,HR2.out];unfold zCm;rw[if_neg (by simp),if_neg (by rw[HDL.out];dsimp only;rintro (h | h)<;>first | omega | exact hf h)])
        have H84:Hid (decide ((x:Int)≠(Q1:Int))=false):=zA (by have:=hon.2 hf;simp[this])
        clear HRR HFIN HR2 hlf hm hx0 hp8 hdl hon hQ hQ3 hf
        go_wp2_with (first
         | ((with_reducible apply gS 67);refine yW rfl (.pointer (some ⟨gr,0,none⟩)) (zCQ rfl rfl (hbs.cell 1)) ?_)
         | (go_at_call 163;(with_reducible refine (HLF.out _ hD.r).mono ?_);rintro e w8 ⟨rfl,hx8⟩;have hb8:=hbs.ext hx8;have hI8:=hD.ext hx8)
         | ((with_reducible apply gS 71);refine yW rfl (.pointer (some ⟨gr,0,none⟩)) (zCQ rfl rfl (hb8.cell 1)) ?_)
         | ((with_reducible apply gS 73);refine zB rfl (.int .i64 (m:Int)) (qE rfl rfl rfl H73.out) ?_)
         | (go_at_call 164;(with_reducible refine (HGT.out _ hI8.r).mono ?_);rintro e w9 ⟨rfl, -,hu9⟩;have hx9:=hu9.ext (hx.trans hx8) (fun x e=>by omega);have ho9:=uM (yJ hown hx8) hu9 (fun x e=>by have:=HGR.out;omega))
         | ((with_reducible apply gS 78);refine zB rfl (.bool false) (xP rfl rfl rfl H78.out) ?_)
         | ((with_reducible apply gS 82);refine xC (by rfl) (.int .i64 (Q:Int)) (qE rfl rfl rfl H82.out) ?_)
         | ((with_reducible apply gS 83);refine xC (by rfl) (.int .i64 (Q1:Int)) (qE rfl rfl rfl H83.out) ?_)
         | ((with_reducible apply gS 84);refine xC (by rfl) (.bool false) (zAK rfl rfl rfl H84.out) ?_))
        refine bodyPost_ret (results_tmp2 rfl _ _ _) rfl ?_
        rw[HFE.out]
        refine⟨hx9, ?_⟩
        rw[if_pos rfl]
        exact⟨OA,k,oc,rfl,hll,(qU ho9).1,hln⟩
end
theorem zOr (cs xs:List Int) (hl:cs.length=16) (h:yC cs xs=0):(zM (zG cs 16) xs).Pairwise (fun a b=>a.2.1≤b.2.1)∧(∀ t∈zM (zG cs 16) xs, ∃ l c:Nat,t.2=((l:Int),(c:Int))∧1≤l∧l≤16∧c<2 ^ l)∧(zG cs 16).length=xs.length:=by
 obtain⟨q1,q2,q3,q4,q5,q6⟩:=zCB h
 have hlen:(zG cs 16).length=xs.length:=by have:=zDw cs (fun z hz=>(yD.1 q1 z hz).1) 16 (by omega);omega
 exact⟨zPW _ _ (zGb cs 16) hlen,zipC_fits cs xs hl q4 hlen,hlen⟩
theorem zJP (cs xs:List Int) (hl:cs.length=16) (h:yC cs xs=0) (D:List Bool) (p:Nat) (hp:p≤D.length):jE (zM (zG cs 16) xs) D p 16 1=vO (zM (zG cs 16) xs) D p:=by
 obtain⟨h1,h2, -⟩:=zOr cs xs hl h
 refine zMI _ D p h1 (fun t ht=> ?_) 16 1 (by omega) (by omega) (by omega) (fun t ht h3=> ?_)
 ·obtain⟨l,c,e,a,b, -⟩:=h2 t ht
  exact⟨l,c,e,a,b⟩
 ·obtain⟨l,c,e,a,b, -⟩:=h2 t ht
  rw[e] at h3
  simp only at h3
  omega
section
theorem zAJ {P:Program} {o:Oper} {a:Act} {ty:TypeId} {x:Operand} (ho:o.op=.load ty x) {g:Nat} (hx:a.eval x=.pointer (some ⟨g,0,none⟩)) {t:TypeId} {cs:Array Value} {w:World} (hB:Blk w g t cs) {d:TypeDesc} (hu:P.underlying ty=some d) (hd:d.isRow=true) {n:Nat} (hi:(P.info? ty).map (·.size)=some n) (hn:cs.size=n) :
 (execOp a.eval o).run P w=.ok (.value (.agg cs)) w:=by
 have h1:Blk w g t ([]++(cs.toList++[])).toArray:=by simpa using hB
 have h:=zCy ho hx (zAQ h1) hu hd (by rw[hi, ←hn];simp)
 simpa using h
attribute [local irreducible] zD bv plZ zK yM qW zAF yA
end
theorem zNf (p:Nat) (hp:p≤100000000) (w:World):Calls Tryz.prog 103 #[.int .i64 (p:Int)] w fun e w'=>e=.returned (.int .i64 ((208+p%8:Nat):Int))∧w=w':=by
 obtain⟨m,hm⟩: ∃ m,p%8=m:=⟨_,rfl⟩
 rw[hm]
 have HM:=zA hm
 have hm8:m<8:=by omega
 clear hm
 obtain⟨q,hq⟩: ∃ q,208+m=q:=⟨_,rfl⟩
 have HQ:=zA hq
 rw[hq]
 clear hq
 go_enter Tryz.func103,Tryz.ntmps103
 go_wp2_with (first
  | ((with_reducible apply gS 4);refine zB rfl (.int .i64 (m:Int)) (by rw[←HM.out];exact zKf (i:=p) (d:=8) rfl rfl rfl (by omega) (by omega)) ?_)
  | ((with_reducible apply gS 5);refine zB rfl (.int .i64 (q:Int)) (by rw[←HQ.out];exact zZ (i:=208) (d:=m) rfl rfl rfl (by omega)) ?_))
 go_ret
 exact⟨rfl,rfl⟩
theorem zMr (tt:Array Value) (v:Value) (nn:Int) (w:World) (h:nn<0∨100<nn):Calls Tryz.prog 45 #[.agg tt,v,.int .i64 nn] w (zEe (1,[]) w):=by
 by_cases h0:nn<0
 ·clear h
  go_enter Tryz.func45,Tryz.ntmps45
  go_wp2_with (first
   | ((with_reducible apply gS 3);refine wBox rfl 44 (.tmp 0) rfl tt rfl ?_;intro w1 g hb1 hx1 hg))
  refine bodyPost_ret (results_tmp2 rfl _ _ _) rfl ?_
  refine⟨hx1, ?_⟩
  rw[if_neg (show ¬(1:Int)=0 by decide)]
  rfl
 ·have h4:100<nn:=h.resolve_left h0
  clear h
  go_enter Tryz.func45,Tryz.ntmps45
  go_wp2_with (first
   | ((with_reducible apply gS 3);refine wBox rfl 44 (.tmp 0) rfl tt rfl ?_;intro w1 g hb1 hx1 hg))
  refine bodyPost_ret (results_tmp2 rfl _ _ _) rfl ?_
  refine⟨hx1, ?_⟩
  rw[if_neg (show ¬(1:Int)=0 by decide)]
  rfl
end Go.Proofs.YtkggcjdlpendfaaGreatDoor
