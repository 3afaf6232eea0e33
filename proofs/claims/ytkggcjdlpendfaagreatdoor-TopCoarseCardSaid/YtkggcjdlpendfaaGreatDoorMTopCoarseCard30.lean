/- Contracts of the functions that the law reaches, part 30. -/
import Derived.Great.BuildSlice
import Derived.Test.YtkggcjdlpendfaaGreatDoorMTopCoarseCard29
namespace Go.Proofs.YtkggcjdlpendfaaGreatDoor
set_option linter.unusedVariables false
set_option linter.unusedSimpArgs false
set_option maxRecDepth 20000
set_option maxHeartbeats 8000000
open Go.RowKit
section
def Z64:List Int:=List.replicate 64 0
def Z16:List Int:=List.replicate 16 0
attribute [local irreducible] xT xZ zBI vK quL
theorem zQL (A:Option Addr) (n c:Nat) (bs:List Nat) (w:World) (hn:bs.length=n) (hl:n≤91000) (hlt: ∀ b∈bs,b<256) (hs:SL w 1 (.slice A n c) n (zD bs)) :
 Calls Tryz.prog 37 #[.slice A n c] w (FpIs (vP bs) w):=by
 have HSB:=zA hs
 have HNL:=zA hn
 have HLT:=zA hlt
 have hzs:=zA zBR
 have hzo:=zA zCg
 have hZF:=zBj
 have hbf:=zA zDx
 have hb4:=zA builtF
 have hST:=zA (fun (w3:World) (gr:Nat) (hb:Blk w3 gr 119 #[.slice A n c,.bool false]) (hx:Ext w w3) (hg:w.heap.size≤gr)=>PRk.start hn hb hs hx hg)
 obtain⟨X,hX⟩: ∃ X:Nat→Nat,X=fun p=>bs.getD p 0:=⟨_,rfl⟩
 have HX:=zA (fun p=>(show bs.getD p 0=X p by rw[hX]))
 have HN:Hid (∀ g p W,PRk W g bs p→Calls Tryz.prog 81 #[.pointer (some ⟨g,0,none⟩)] W fun e w'=>e=.returned (.int .i64 ((X p:Nat):Int))∧PRk w' g bs (p+1)∧Upd (fun b=>b=g) W w'):=zA (fun g p W h=>by rw[hX];exact zMX g bs p W hlt h)
 clear hX hs hlt hn
 obtain⟨F0,hF0⟩: ∃ F0:FC,F0=⟨((X 2:Nat):Int),((X 3:Nat):Int),((X 4:Nat):Int),Z64,Z16,[],Z16,[],((X 5:Nat):Int),[]⟩:=⟨_,rfl⟩
 have hbF:Hid (Tryz.prog.built 47 [(0,.int .i64 ((X 2:Nat):Int)),(1,.int .i64 ((X 3:Nat):Int)),(2,.int .i64 ((X 4:Nat):Int)),(5,.int .i64 ((X 5:Nat):Int))]=some (F0.cells (.slice none 0 0) (.slice none 0 0) (.slice none 0 0))):=zA (by rw[hF0];exact hb4.out _ _ _ _)
 have hF0s:F0.shaped:=by rw[hF0];exact⟨rfl,rfl,rfl⟩
 have hF0z:=zA (FC.size hF0s (.slice none 0 0) (.slice none 0 0) (.slice none 0 0))
 have hF0o:=zA (zEA F0 none none none 0 0 0 0 0 0)
 have HF0:=zA hF0
 clear hF0 hb4
 obtain⟨fc0,hfc0⟩: ∃ fc0,fc0=F0.cells (.slice none 0 0) (.slice none 0 0) (.slice none 0 0):=⟨_,rfl⟩
 rw[←hfc0] at hbF hF0z hF0o
 have HFC0:=zA hfc0
 clear hfc0
 have HE: ∀ E,vP bs=(FC.zero,E)→Hid (∀ W,Ext w W→FpIs (vP bs) w (.returned (.tuple #[.agg zFile,.int .i64 E])) W):=fun E h=>zA (fun W hx=>FpIs.err h hx)
 have HER:=zA HE
 clear HE
 generalize hzf:zFile=zf at *
 go_enter Tryz.func37,Tryz.ntmps37
 go_wp2_with (first
  | ((with_reducible apply gS 2);refine wAlo' rfl (some 2) rfl 47 rfl _ hZF ?_;intro w1 g0 hb0 hx1 hg0)
  | ((with_reducible apply gS 15);refine wBox rfl 119 (.tmp 14) rfl #[.slice A n c,.bool false] rfl ?_;intro w3 gr hbr hx3 hgr;have hy0:=hx1.trans hx3;have hgr':w.heap.size≤gr:=(by have:=hx1.size;omega);have hq0:=hST.out w3 gr hbr hy0 hgr';have hz0:Blk w3 g0 47 zf:=hb0.ext hx3;have hne:g0<gr:=(by have:=hb0.lt;omega);clear hx1 hx3 hbr hb0)
  | (go_at_call 81;(with_reducible refine (HN.out _ 0 _ hq0).mono ?_);rintro e v0 ⟨rfl,hq',hu0⟩;have hq1:PRk v0 gr bs 1:=hq';have hz1:=hu0.blk hz0 (by omega);have hy1:=hu0.ext hy0 (fun x hx=>by omega);clear hq' hq0 hz0 hy0 hu0)
  | (go_at_call 81;(with_reducible refine (HN.out _ 1 _ hq1).mono ?_);rintro e v1 ⟨rfl,hq',hu1⟩;have hq2:PRk v1 gr bs 2:=hq';have hz2:=hu1.blk hz1 (by omega);have hy2:=hu1.ext hy1 (fun x hx=>by omega);clear hq' hq1 hz1 hy1 hu1)
  | (go_at_call 81;(with_reducible refine (HN.out _ 2 _ hq2).mono ?_);rintro e v2 ⟨rfl,hq',hu2⟩;have hq3:PRk v2 gr bs 3:=hq';have hz3:=hu2.blk hz2 (by omega);have hy3:=hu2.ext hy2 (fun x hx=>by omega);clear hq' hq2 hz2 hy2 hu2)
  | (go_at_call 81;(with_reducible refine (HN.out _ 3 _ hq3).mono ?_);rintro e v3 ⟨rfl,hq',hu3⟩;have hq4:PRk v3 gr bs 4:=hq';have hz4:=hu3.blk hz3 (by omega);have hy4:=hu3.ext hy3 (fun x hx=>by omega);clear hq' hq3 hz3 hy3 hu3)
  | (go_at_call 81;(with_reducible refine (HN.out _ 4 _ hq4).mono ?_);rintro e v4 ⟨rfl,hq',hu4⟩;have hq5:PRk v4 gr bs 5:=hq';have hz5:=hu4.blk hz4 (by omega);have hy5:=hu4.ext hy4 (fun x hx=>by omega);clear hq' hq4 hz4 hy4 hu4)
  | (go_at_call 81;(with_reducible refine (HN.out _ 5 _ hq5).mono ?_);rintro e v5 ⟨rfl,hq',hu5⟩;have hq6:PRk v5 gr bs 6:=hq';have hz6:=hu5.blk hz5 (by omega);have hy6:=hu5.ext hy5 (fun x hx=>by omega);clear hq' hq5 hz5 hy5 hu5)
  | ((with_reducible apply gS 28);refine wpList_buildTo rfl 47 _ rfl (some 28) rfl fc0 (by simp only[wC7,wC8,wC9];exact hbF.out) ?_)
  | ((with_reducible apply gS 5);refine wAlo' rfl (some 5) rfl 47 rfl _ hZF ?_;intro w10 gf hbf10 hx10 hgf;have hq10:=hq6.ext hx10;have hz10:=hz6.ext hx10;have hy10:=hy6.trans hx10;have hgg:gr<gf:=(by have:=hq6.lt;omega);have hgf':w.heap.size≤gf:=(by have:=hy6.size;omega);clear hq6 hz6 hy6 hx10)
  | ((with_reducible apply gT 5 28);refine wStB rfl 47 (.tmp 5) (.tmp 28) rfl gf fc0 rfl rfl hbf10 103 yI hF0z.out hzs.out hF0o.out ?_;intro w11 hbf11 hgf11))
 clear hbF hF0z hF0o hbf10
 rw[HFC0.out] at hbf11
 have hq11:=hq10.upd ((zL hgf11)) (fun x hx=>by injection hx with hx;omega)
 have hz11:=hz10.grown hgf11 (by intro hx;injection hx with hx;omega)
 have hy11:=hy10.grown hgf11 hgf'
 have hgrl:gr<w11.heap.size:=hq11.lt
 have hgfl:=hbf11.lt
 have hne2:g0<gf:=by omega
 obtain⟨G,hG⟩: ∃ G:List Int→FC,G=fun q=>{ F0 with qs:=q }:=⟨_,rfl⟩
 have HGQ:Hid (∀ q,(G q).qs=q):=zA (fun q=>by rw[hG])
 have HGU:Hid (∀ q q',({ G q with qs:=q' }:FC)=G q'):=zA (fun q q'=>by rw[hG])
 have HGS:Hid (∀ q,q.length=64→(G q).shaped):=zA (fun q h=>by rw[hG];exact⟨h,hF0s.2.1,hF0s.2.2⟩)
 have HG:Hid (∀ q,G q=⟨((X 2:Nat):Int),((X 3:Nat):Int),((X 4:Nat):Int),q,Z16,[],Z16,[],((X 5:Nat):Int),[]⟩):=zA (fun q=>by rw[hG,HF0.out])
 have e0:F0=G (quL bs 0++List.replicate (64-0) 0):=by rw[HG.out,HF0.out,show quL bs 0=[] by simp[quL]];rfl
 rw[e0] at hbf11
 clear hG e0 HF0 hF0s HFC0 hq10 hz10 hy10
 go_loopw [29] (fun i wr=> ∃ k:Nat,k≤64∧i=.int .i64 (k:Int)∧PRk wr gr bs (6+k)∧Blk wr g0 47 zf∧Blk wr gf 47 (FC.cells (G (quL bs k++List.replicate (64-k) 0)) (.slice none 0 0) (.slice none 0 0) (.slice none 0 0))∧Ext w wr∧gf<wr.heap.size) (fun i _=>64-(intOf i).toNat)
 case atStart=>exact⟨0,by omega,rfl,hq11,hz11,hbf11,hy11,hgfl⟩
 case round =>
  clear hq11 hz11 hbf11 hy11 hgfl hgrl
  obtain⟨k,hk,rfl,hq,hz,hbf2,hy,hgfl⟩:=hrel
  by_cases hk64:k<64
  ·have HN1:=zA (HN.out gr (6+k))
   have hql:(quL bs k++List.replicate (64-k) 0).length=64:=by rw[wF1,zFC,wF3];omega
   have HGk:=zA (HGS.out _ hql)
   have HQ:Hid ((quL bs k++List.replicate (64-k) 0).set k ((X (6+k):Nat):Int)=quL bs (k+1)++List.replicate (64-(k+1)) 0):=zA (by rw[←HX.out];exact quL_set bs k hk64)
   generalize quL bs k++List.replicate (64-k) 0=q0 at *
   generalize hq1:quL bs (k+1)++List.replicate (64-(k+1)) 0=q1 at *
   have HQ1:=zA hq1
   clear hq1 hql
   generalize X (6+k)=x at *
   go_wp2_with (first
    | (go_at_call 81;(with_reducible refine (HN1.out _ hq).mono ?_);rintro e w3 ⟨rfl,hq3,hu3⟩;have hbf3:=hu3.blk hbf2 (by omega);have hz3:=hu3.blk hz (by omega);have hy3:=hu3.ext hy (fun y hx=>by omega);have hgfl3:=(show gf<w3.heap.size by have:=hu3.size;omega);clear hq hz hbf2 hy hu3)
    | ((with_reducible apply gT 36 34);refine store_qk rfl _ _ rfl gf (G q0) HGk.out _ _ _ k hk64 (x:Int) rfl rfl hbf3 ?_;intro w4 hbf4 hu4;rw[HGQ.out,HGU.out,HQ.out] at hbf4;have hq4:=hq3.upd hu4 (fun y hy=>by omega);have hz4:=hu4.blk hz3 (by omega);have hy4:=hu4.ext hy3 (fun y hx=>by omega);have hgfl4:=(show gf<w4.heap.size by have:=hu4.size;omega);clear hq3 hz3 hbf3 hy3 hu4))
   go_roundw
   case rel=>exact⟨k+1,by omega,by go_num,hq4,hz4,by rw[HQ1.out];exact hbf4,hy4,hgfl4⟩
   case measure=>simp[intOf];omega
  ·obtain rfl:k=64:=by omega
   have hq70:PRk wr gr bs 70:=hq
   have e64:quL bs 64++List.replicate (64-64) 0=quL bs 64:=by simp
   rw[e64] at hbf2
   clear e64 hq
   have HZF:=zA (fun W=>zGp (quL bs 64) W (zFC bs 64))
   have HQs:=zA (HGS.out _ (zFC bs 64))
   have hzql:=zA (vR (quL bs 64) 64)
   have HZs:=zA (HGS.out _ hzql.out)
   generalize hq6:quL bs 64=q6 at *
   have HQ6:=zA hq6
   clear hq6
   generalize hzq:xZ q6 64=zq at *
   have HZQ:=zA hzq
   clear hzq
   have HT:=zA (fun p W (hp:p≤10000000) (h:PRk W gr bs p)=>table_any gr bs p W HLT.out hp h)
   have HCS:=zA (zKd HLT.out 70 16)
   go_upto_region 15 with (first
    | ((with_reducible apply gS 39);refine load_q rfl _ rfl gf (G q6) HQs.out _ _ _ rfl hbf2 ?_;rw[HGQ.out])
    | (go_at_call 82;(with_reducible refine (HZF.out _).mono ?_);rintro e w19 ⟨rfl,hx19⟩;have hq19:=hq70.ext hx19;have hz19:=hz.ext hx19;have hb19:=hbf2.ext hx19;have hy19:=hy.trans hx19;have hl19:=(show gf<w19.heap.size by have:=hx19.size;omega);clear hq70 hz hbf2 hy hx19)
    | ((with_reducible apply gT 41 40);refine store_q rfl _ _ rfl gf (G q6) HQs.out _ _ _ zq hzql.out rfl rfl hb19 ?_;intro w20 hb20 hu20;rw[HGU.out] at hb20;have hq20:=hq19.upd hu20 (fun y hy=>by omega);have hz20:=hu20.blk hz19 (by omega);have hy20:=hu20.ext hy19 (fun y hx=>by omega);have hl20:=(show gf<w20.heap.size by have:=hu20.size;omega);clear hq19 hz19 hb19 hy19 hu20)
    | (go_at_call 83;(with_reducible refine (HT.out 70 _ (by omega) hq20).mono ?_);rintro e w21 ⟨k1,A1,c1,hk1,hs1,rfl,ho1,hq21,hu21⟩;have hb21:=hu21.blk hb20 (by omega);have hz21:=hu21.blk hz20 (by omega);have hy21:=hu21.ext hy20 (fun y hx=>by omega);have hl21:=(show gf<w21.heap.size by have:=hu21.size;omega);clear hq20 hz20 hb20 hy20 hu21)
    | ((with_reducible apply gT 45 43);refine store_t1 rfl _ _ rfl gf (G zq) HZs.out _ _ _ (vK bs 70 16) (zBI bs (70+32) k1) (vX _ _ _) A1 k1 c1 rfl rfl hb21 ?_;intro w22 hb22 hu22;have hq22:=hq21.upd hu22 (fun y hy=>by omega);have hz22:=hu22.blk hz21 (by omega);have hy22:=hu22.ext hy21 (fun y hx=>by omega);have hl22:=(show gf<w22.heap.size by have:=hu22.size;omega);have ho1':=uM ho1 hu22 (fun y hy=>by omega);clear hq21 hz21 hb21 hy21 hu22 ho1)
    | (go_at_call 83;(with_reducible refine (HT.out (70+32+k1) _ (by have:=HCS.out;omega) hq22).mono ?_);rintro e w23 ⟨k2,A2,c2,hk2,hs2,rfl,ho2,hq23,hu23⟩;have hb23:=hu23.blk hb22 (by omega);have hz23:=hu23.blk hz22 (by omega);have hy23:=hu23.ext hy22 (fun y hx=>by omega);have hl23:=(show gf<w23.heap.size by have:=hu23.size;omega);have ho1'':=uM ho1' hu23 (fun y hy=>by omega);clear hq22 hz22 hb22 hy22 hu23 ho1')
    | ((with_reducible apply gT 49 47);refine store_t2 rfl _ _ rfl gf ({ G zq with cs1:=vK bs 70 16,xs1:=zBI bs (70+32) k1 }:FC) ⟨HZs.out.1,vX _ _ _,HZs.out.2.2⟩ _ _ _ (vK bs (70+32+k1) 16) (zBI bs (70+32+k1+32) k2) (vX _ _ _) A2 k2 c2 rfl rfl hb23 ?_;intro w24 hb24 hu24;have hq24:=hq23.upd hu24 (fun y hy=>by omega);have hz24:=hu24.blk hz23 (by omega);have hy24:=hu24.ext hy23 (fun y hx=>by omega);have hl24:=(show gf<w24.heap.size by have:=hu24.size;omega);have ho1:=uM ho1'' hu24 (fun y hy=>by omega);have ho2':=uM ho2 hu24 (fun y hy=>by omega);clear hq23 hz23 hb23 hy23 hu24 ho1'' ho2))
   have HOE:=zA (fun W (hb:Blk W g0 47 zf)=>hb)
   by_cases hsh:bs.length<70+32+k1+32+k2
   ·have hfl:=hq24.flag
    rw[show decide (bs.length<70+32+k1+32+k2)=true by simpa using hsh] at hfl
    have hP3:bs.length<p3 bs:=by
     unfold p3 p2
     by_cases hk:k1=xT bs 70 16
     ·rw[←hk];omega
     ·have:=hs1 (by omega);omega
    have HEE:=HER.out 3 (by unfold vP;rw[if_neg (by have:=HNL.out;omega),if_pos hP3])
    clear hb24 ho1 ho2' hq24 hs1 hs2 HCS hP3 HER HT
    generalize vP bs=pz at *
    go_wp2_with (first
     | ((with_reducible apply gS 54);refine qH (by rfl) 47 rfl _ hbf.out ?_)
     | ((with_reducible apply gT 2 54);refine wStB rfl 47 (.tmp 2) (.tmp 54) rfl g0 zf rfl rfl hz24 103 yI hzs.out hzs.out hzo.out ?_;intro w2 hb2 hg2))
    exact yB rfl rfl g0 rfl hb2 _ Tryz.underlying47 rfl 103 yI hzs.out (HEE.out _ (hy24.grown hg2 hg0))
   ·have hfl:=hq24.flag
    rw[show decide (bs.length<70+32+k1+32+k2)=false by simpa using hsh] at hfl
    obtain rfl:k1=xT bs 70 16:=by
     by_cases hk:k1=xT bs 70 16
     ·exact hk
     ·have:=hs1 (by omega);omega
    have hsh2: ¬bs.length<p2 bs+32+k2:=hsh
    have hs2':k2<xT bs (p2 bs) 16→bs.length<p2 bs+32+k2:=hs2
    have hk2':k2≤xT bs (p2 bs) 16:=hk2
    obtain rfl:k2=xT bs (p2 bs) 16:=by
     by_cases hk:k2=xT bs (p2 bs) 16
     ·exact hk
     ·have:=hs2' (by omega);omega
    have hq24':PRk w24 gr bs (p3 bs):=hq24
    obtain⟨B4,d4,hc4,hsd4⟩:=hq24'.rest
    have hb24':Blk w24 gf 47 (FC.cells { jD bs with data:=[] } (.slice A1 (xT bs 70 16) c1) (.slice A2 (xT bs (p2 bs) 16) c2) (.slice none 0 0)):=by
     have:=hb24
     rw[HG.out] at this
     unfold jD
     rw[HX.out,HX.out,HX.out,HX.out,HQ6.out,HZQ.out]
     exact this
    have ho2:w24.ownsRow w22.heap.size 3 1 (.slice A2 (xT bs (p2 bs) 16) c2) (xT bs (p2 bs) 16) (ints (zBI bs (p2 bs+32) (xT bs (p2 bs) 16))):=ho2'
    have hFs:=zMg bs
    have HAT:=zA (fun W sd (h1:SL W 1 (.slice A1 (xT bs 70 16) c1) (xT bs 70 16) (ints (zBI bs (70+32) (xT bs 70 16)))) (h2:SL W 1 (.slice A2 (xT bs (p2 bs) 16) c2) (xT bs (p2 bs) 16) (ints (zBI bs (p2 bs+32) (xT bs (p2 bs) 16)))) (h3:SL W 1 sd (bs.drop (p3 bs)).length (zD (bs.drop (p3 bs))))=>(show (jD bs).at_ W (.slice A1 (xT bs 70 16) c1) (.slice A2 (xT bs (p2 bs) 16) c2) sd by
     unfold FC.at_ jD
     dsimp only
     rw[zOK,zOK]
     exact⟨h1,h2,h3⟩))
    have HPK:=zA (fun W s1 s2 sd (ha:(jD bs).at_ W s1 s2 sd)=>(jD bs).pack hFs s1 s2 sd W ha)
    have HLL:=zA ((jD bs).packL_lt hFs.1 (fun b hb=>HLT.out b (wG6 hb)))
    have HP0:=zA (fun (h1:(jD bs).packE=0) (h2:(jD bs).packL=bs)=>(show vP bs=(jD bs,0) by unfold vP;rw[if_neg (by have:=HNL.out;omega),if_neg (show ¬bs.length<p3 bs from hsh2),if_pos ⟨h1,h2⟩]))
    have HP4:=zA (fun (h: ¬((jD bs).packE=0∧(jD bs).packL=bs))=>(show vP bs=(FC.zero,4) by unfold vP;rw[if_neg (by have:=HNL.out;omega),if_neg (show ¬bs.length<p3 bs from hsh2),if_neg h]))
    have HSD:=zA (fun B m d=>FC.size (F:={ jD bs with data:=[] }) hFs (.slice A1 (xT bs 70 16) c1) (.slice A2 (xT bs (p2 bs) 16) c2) (.slice B m d))
    have HSZ:=zA (fun B m d=>FC.size hFs (.slice A1 (xT bs 70 16) c1) (.slice A2 (xT bs (p2 bs) 16) c2) (.slice B m d))
    have HON:=zA (fun B m d=>zEA (jD bs) A1 A2 B (xT bs 70 16) c1 (xT bs (p2 bs) 16) c2 m d)
    have hDL:(bs.drop (p3 bs)).length≤91000:=by rw[wJ4];have:=HNL.out;omega
    have HST:=zA (fun (ops:Array Oper) (rest:List Oper) (o:Oper) (ac:Act) (w:World) (Q:Exit→Act→World→Prop) (hgd:o.guard=none) (x y:Operand) (ho:o.op=.store 45 x y) (A:Option Addr) (n c:Nat) (hx:ac.eval x=.pointer (some ⟨gf,102,none⟩)) (hy:ac.eval y=.slice A n c) (hB:Blk w gf 47 (FC.cells { jD bs with data:=[] } (.slice A1 (xT bs 70 16) c1) (.slice A2 (xT bs (p2 bs) 16) c2) (.slice none 0 0))) (h: ∀ w1,Blk w1 gf 47 (FC.cells (jD bs) (.slice A1 (xT bs 70 16) c1) (.slice A2 (xT bs (p2 bs) 16) c2) (.slice A n c))→Upd (fun b=>b=gf) w w1→wpList Tryz.prog ops Q rest (ac.put o.dst undef) w1)=>zKr (Q:=Q) (rest:=rest) (ops:=ops) hgd x y ho gf { jD bs with data:=[] } hFs _ _ _ (bs.drop (p3 bs)) A n c hx hy hB h)
    have HSB':=zA (fun W (h:Ext w W)=>HSB.out.ext h)
    have hl22:gf<w22.heap.size:=by have:=ho2.lt;omega
    clear hb24 ho2' hq24 hq24' HT HCS hk1 hs1 hk2 hs2 hs2' hk2' hsh hsh2 HG HGQ HGU HGS HX HN HZF HQs HZs HQ6 HZQ hzql
    obtain⟨FC3,hFC3⟩: ∃ C:Array Value,C=FC.cells { jD bs with data:=[] } (.slice A1 (xT bs 70 16) c1) (.slice A2 (xT bs (p2 bs) 16) c2) (.slice none 0 0):=⟨_,rfl⟩
    simp only[←hFC3] at hb24' HST
    generalize jD bs=PF at *
    clear hFC3
    have HCLN:=clone_any B4 (bs.drop (p3 bs)).length d4 (bs.drop (p3 bs)) w24 rfl (wD1 hDL (by omega)) hsd4
    unfold zKW at HCLN
    generalize bs.drop (p3 bs)=RR at *
    generalize RR.length=m at *
    have HCLN':=zA HCLN
    clear HCLN hsd4
    go_upto_region 19 with (first
     | ((with_reducible apply gS 58);refine yW rfl (.slice B4 m d4) (zCM rfl rfl hc4) ?_)
     | (go_at_call 84;(with_reducible refine HCLN'.out.mono ?_);rintro e w25 ⟨B5,d5,rfl,ho5,hx5⟩;have hb25:=hb24'.ext hx5;have hz25:=hz24.ext hx5;have hy25:=hy24.trans hx5;have ho15:=yJ ho1 hx5;have ho25:=yJ ho2 hx5)
     | ((with_reducible apply gT 60 59);refine HST.out _ _ _ _ _ _ rfl _ _ rfl B5 m d5 rfl rfl hb25 ?_;intro w26 hb26 hu26;have hz26:=hu26.blk hz25 (by omega);have hy26:=hu26.ext hy25 (fun y hx=>by omega);have ho16:=uM ho15 hu26 (fun y hy=>by omega);have ho26:=uM ho25 hu26 (fun y hy=>by omega);have ho56:=uM ho5 hu26 (fun y hy=>by omega);have hat:=HAT.out _ _ (qU ho16).1 (qU ho26).1 (qU ho56).1)
     | ((with_reducible apply gS 62);refine wLdB rfl 47 (.tmp 5) rfl gf rfl hb26 _ Tryz.underlying47 rfl 103 yI (HSZ.out _ _ _) ?_)
     | (go_at_call 36;(with_reducible refine (HPK.out _ _ _ _ hat).mono ?_);rintro e w27 ⟨C7,d7,rfl,hs7,hx7⟩;have hb27:=hb26.ext hx7;have hz27:=hz26.ext hx7;have hy27:=hy26.trans hx7;have hat7:=hat.ext hx7))
    have HEQ:=zA (zKe (.slice C7 PF.packL.length d7) (.slice A n c) PF.packL bs w27 HLL.out HLT.out hs7 (by rw[HNL.out];exact HSB'.out w27 hy27))
    have HEF:=zA (fun (E:Int) (h:vP bs=(FC.zero,E)) W (hx:Ext w W)=>(HER.out E h).out W hx)
    have HON':=zA (HON.out B5 m d5)
    have HSZ':=zA (HSZ.out B5 m d5)
    have hzl27:=hz27
    obtain⟨FV,hFV⟩: ∃ C:Array Value,C=FC.cells PF (.slice A1 (xT bs 70 16) c1) (.slice A2 (xT bs (p2 bs) 16) c2) (.slice B5 m d5):=⟨_,rfl⟩
    have HFV:=zA hFV
    rw[←hFV] at hb27
    rw[←hFV] at HON' HSZ'
    clear hFV HER HPK HON HSZ HST hb26 hb25 hz25 hz26 ho15 ho25 ho5 hat hs7 hb24' HCLN' HSD hz24 ho1 ho2
    generalize PF.packL=L at *
    by_cases hE:PF.packE=0
    ·by_cases hLb:L=bs
     ·rw[wK3 hLb] at HEQ
      have HZ:=zA (HP0.out hE hLb)
      generalize vP bs=pz at *
      rw[hE]
      generalize L.length=ll at *
      clear HP0 HP4 HEF HLL hLb
      go_wp2_with (first
       | (go_at_call 85;(with_reducible refine HEQ.out.mono ?_);rintro e w28 ⟨rfl,hx28⟩;have hb28:=hb27.ext hx28;have hz28:=hz27.ext hx28;have hy28:=hy27.trans hx28;have hat8:=hat7.ext hx28)
       | ((with_reducible apply gS 75);refine wLdB rfl 47 (.tmp 5) rfl gf rfl hb28 _ Tryz.underlying47 rfl 103 yI HSZ'.out ?_)
       | ((with_reducible apply gT 2 75);refine wStB rfl 47 (.tmp 2) (.tmp 75) rfl g0 FV rfl rfl hz28 103 yI HSZ'.out hzs.out HON'.out ?_;intro w29 hb29 hg29))
      have hy29:=hy28.grown hg29 hg0
      have a1:=uM (yJ (yJ ho16 hx7) hx28) (zL hg29) (fun x hx=>by injection hx with hx;omega)
      have a2:=uM (yJ (yJ ho26 hx7) hx28) (zL hg29) (fun x hx=>by injection hx with hx;omega)
      have a3:=uM (yJ (yJ ho56 hx7) hx28) (zL hg29) (fun x hx=>by injection hx with hx;omega)
      exact yB rfl rfl g0 rfl hb29 _ Tryz.underlying47 rfl 103 yI HSZ'.out (by
       rw[HZ.out]
       exact⟨_,_,_,by rw[HFV.out];rfl,HAT.out _ _ (qU a1).1 (qU a2).1 (qU a3).1,hy29⟩)
     ·rw[wK4 hLb] at HEQ
      have HEE:=zA (HEF.out 4 (HP4.out (fun h=>hLb h.2)))
      generalize vP bs=pz at *
      rw[hE]
      generalize L.length=ll at *
      clear HP0 HP4 HEF HLL hLb
      go_wp2_with (first
       | (go_at_call 85;(with_reducible refine HEQ.out.mono ?_);rintro e w28 ⟨rfl,hx28⟩;have hz28:=hz27.ext hx28;have hy28:=hy27.trans hx28)
       | ((with_reducible apply gS 74);refine qH (by rfl) 47 rfl _ hbf.out ?_)
       | ((with_reducible apply gT 2 74);refine wStB rfl 47 (.tmp 2) (.tmp 74) rfl g0 zf rfl rfl hz28 103 yI hzs.out hzs.out hzo.out ?_;intro w29 hb29 hg29))
      exact yB rfl rfl g0 rfl hb29 _ Tryz.underlying47 rfl 103 yI hzs.out (HEE.out _ (hy28.grown hg29 hg0))
    ·have HEE:=zA (HEF.out 4 (HP4.out (fun h=>hE h.1)))
     generalize vP bs=pz at *
     generalize PF.packE=E at *
     generalize L.length=ll at *
     clear HP0 HP4 HEF HLL HEQ
     go_wp2_with (first
      | ((with_reducible apply gS 67);refine zB rfl (.bool true) (ex_neqT rfl rfl rfl hE) ?_)
      | ((with_reducible apply gS 74);refine qH (by rfl) 47 rfl _ hbf.out ?_)
      | ((with_reducible apply gT 2 74);refine wStB rfl 47 (.tmp 2) (.tmp 74) rfl g0 zf rfl rfl hz27 103 yI hzs.out hzs.out hzo.out ?_;intro w29 hb29 hg29))
     exact yB rfl rfl g0 rfl hb29 _ Tryz.underlying47 rfl 103 yI hzs.out (HEE.out _ (hy27.grown hg29 hg0))
end
theorem parse_any (v:Value) (bs:List Nat) (w:World) (hlt: ∀ b∈bs,b<256) (hs:SL w 1 v bs.length (zD bs)):Calls Tryz.prog 37 #[v] w (FpIs (vP bs) w):=by
 have hs':=hs
 obtain⟨A,c,rfl, -, -, -, -⟩:=hs'
 by_cases h:91000<bs.length
 ·exact zPo A _ c bs w rfl h
 ·exact zQL A _ c bs w rfl (by omega) hlt hs
theorem zJp (cs:List Int): ∀ (k:Nat) (p:Nat×Nat),p∈zG cs k→p.1≤k∧(p.2+1)*2 ^ (k-p.1)≤vW cs k
 | 0,p,h=>by rw[zDS] at h;simp at h
 | k+1,p,h=>by
   rw[zEl] at h
   have hn:vW cs (k+1)=2*vW cs k+(cs.getD k 0).toNat:=rfl
   rcases wE5.1 h with h | h
   ·obtain⟨h1,h2⟩:=zJp cs k p h
    refine⟨by omega, ?_⟩
    rw[show k+1-p.1=(k-p.1)+1 by omega,wK8, ←Nat.mul_assoc,hn]
    omega
   ·unfold vV at h
    obtain⟨i,hi,rfl⟩:=wD6.1 h
    have:=wB7.1 hi
    refine⟨by simp, ?_⟩
    simp only[wF7,Nat.pow_zero,wE9,hn]
    omega
def Before (p q:Nat×Nat):Prop:=p.1≤q.1∧(p.2+1)*2 ^ (q.1-p.1)≤q.2
theorem zGZ (cs:List Int): ∀ k,(zG cs k).Pairwise Before
 | 0=>by rw[zDS];exact List.Pairwise.nil
 | k+1=>by
   rw[zEl,wP1]
   refine⟨zGZ cs k, ?_,fun a ha b hb=> ?_⟩
   ·unfold vV
    rw[wO5]
    intro i j hi hj hij
    simp only[wH8,wH9]
    unfold Before
    refine⟨wA5 _, ?_⟩
    simp only[wF7,Nat.pow_zero,wE9]
    omega
   ·obtain⟨h1,h2⟩:=zJp cs k a ha
    unfold vV at hb
    obtain⟨i, -,rfl⟩:=wD6.1 hb
    refine⟨by simp only;omega, ?_⟩
    simp only
    rw[show k+1-a.1=(k-a.1)+1 by omega,wK8, ←Nat.mul_assoc]
    omega
theorem zLr (cs xs:List Int) (hl:cs.length=16) (hz:yC cs xs=0) (s:Int) (long code:Nat) (D R:List Bool) (p:Nat) (hf:zAI (zM (zG cs 16) xs) s=some (s,(long:Int),(code:Int))) (hc:code<2 ^ long) (hp:p≤D.length) (hD:D.drop p=xU code long++R) :
 vO (zM (zG cs 16) xs) D p=(s,p+long,0):=by
 obtain⟨q1,q2,q3,q4,q5,q6⟩:=zCB hz
 have hcl:(zG cs 16).length=xs.length:=by
  have:=zDw cs (fun z hz=>(yD.1 q1 z hz).1) 16 (by omega)
  omega
 unfold zAI at hf
 obtain⟨-,i,hi,hti, -⟩:=wP7.1 hf
 have hDl:long+R.length=D.length-p:=by
  have:=congrArg List.length hD
  rw[wJ4,wF1,qB] at this
  omega
 have hw:(zM (zG cs 16) xs).find? (zAM D p)=some (s,(long:Int),(code:Int)):=by
  rw[wP7]
  refine⟨?_,i,hi,hti,fun j hj=> ?_⟩
  ·unfold zAM
   simp only[wE8]
   rw[hD,wL3 (by rw[qB];omega),wC4 (by rw[qB];omega),zBA hc]
   simp
   omega
  ·have hlen:(zM (zG cs 16) xs).length=(zG cs 16).length:=zDJ _ _ (by omega)
   have e1:=zBc (zG cs 16) xs j (by omega) (by omega) (by omega)
   have e2:=zBc (zG cs 16) xs i (by omega) (by omega) hi
   rw[hti] at e2
   have hb:=wO5.1 (zGZ cs 16) j i (by omega) (by omega) hj
   obtain⟨hb1,hb2⟩:=hb
   have e21:((zG cs 16)[i]'(by omega)).1=long:=by have:=congrArg (fun t=>t.2.1) e2;simp only at this;omega
   have e22:((zG cs 16)[i]'(by omega)).2=code:=by have:=congrArg (fun t=>t.2.2) e2;simp only at this;omega
   rw[e21] at hb1 hb2
   rw[e22] at hb2
   rw[e1]
   generalize (zG cs 16)[j]'(by omega)=u at *
   unfold zAM
   simp only[wE8,wE3,Bool.and_eq_false_imp,wB3,beq_eq_false_iff_ne]
   intro _ h2
   rw[hD,wL3 (by rw[qB];omega),zLI,qB,zBA hc] at h2
   have h3:code/2 ^ (long-u.1)=u.2:=by omega
   have h4:=Nat.lt_mul_div_succ code (wI2 (long-u.1))
   rw[h3,wI7] at h4
   omega
 rw[zLV hw]
 simp
theorem zJl (n:Int) (h: -4095≤n∧n≤4095):yO (jN n).1 (jN n).2.1=(n,0):=by
 obtain⟨s1,s2,s3⟩:=zEK n h.1 h.2
 have p:=zBQ (szN n)
 have s2':(n.natAbs:Int)<2 ^ szN n:=by exact_mod_cast s2
 unfold jN
 rw[if_pos h]
 unfold yO
 dsimp only
 by_cases h0:n=0
 ·subst h0;decide
 ·obtain⟨s4,s5⟩:=s3 h0
  have s5':(2:Int) ^ (szN n-1)≤(n.natAbs:Int):=by exact_mod_cast s5
  have e2:(2:Int) ^ szN n=2 ^ (szN n-1)*2:=by rw[←Int.pow_succ];congr 1;omega
  rw[if_pos (by rw[wE8];split<;>omega),wE8]
  unfold zAr
  refine Prod.ext ?_ rfl
  dsimp only
  by_cases hn:n<0
  ·simp only[if_pos hn]
   rw[if_pos (by omega)]
   omega
  ·simp only[if_neg hn]
   rw[if_neg (by omega)]
theorem szN_11 (n:Int) (h: -2047≤n∧n≤2047):szN n≤11∧(n≠0→1≤szN n):=by
 obtain⟨s1,s2,s3⟩:=zEK n (by omega) (by omega)
 refine⟨?_,fun h0=>(s3 h0).1⟩
 by_cases h0:n=0
 ·subst h0;decide
 ·obtain⟨s4,s5⟩:=s3 h0
  rcases wA3 11 (szN n) with h1 | h1
  ·have:=wI1 (n:=2) (by omega) (show 11≤szN n-1 by omega)
   rw[show 2 ^ 11=2048 from rfl] at this
   omega
  ·exact h1
section
variable {σ:Type}
def zCA (next:σ→Tok×Int×σ):List Tok→σ→σ→Prop
 | [],s,s'=>s=s'
 | t::l,s,s'=> ∃ s1,next s=(t,0,s1)∧zCA next l s1 s'
theorem zGV {next:σ→Tok×Int×σ}: ∀ (a b:List Tok) (s s':σ),zCA next (a++b) s s'↔ ∃ s1,zCA next a s s1∧zCA next b s1 s'
 | [],b,s,s'=>by simp[zCA]
 | t::a,b,s,s'=>by
   simp only[wK6,zCA,zGV a b]
   constructor
   ·rintro⟨s1,h,s2,h2,h3⟩;exact⟨s2,⟨s1,h,h2⟩,h3⟩
   ·rintro⟨s2,⟨s1,h,h2⟩,h3⟩;exact⟨s1,h,s2,h2,h3⟩
def zAt:Nat→List Int→List Tok
 | run,[]=>if 0<run then [(0,0,0)] else []
 | run,n::l=>if n=0 then zAt (run+1) l else List.replicate (run/16) long++jY ((run%16:Nat):Int) n::zAt 0 l
theorem zGE: ∀ (l:List Int) (acc:List Tok) (run:Nat),(if 0<(l.foldl zDP (acc,run)).2 then (l.foldl zDP (acc,run)).1++[(0,0,0)] else (l.foldl zDP (acc,run)).1)=acc++zAt run l
 | [],acc,run=>by
   rw[zAt]
   by_cases h:0<run
   ·rw[if_pos h];exact if_pos h
   ·rw[if_neg h,wG3];exact if_neg h
 | n::l,acc,run=>by
   rw[List.foldl_cons,zAt]
   by_cases h:n=0
   ·rw[zFR h,if_pos h]
    exact zGE l acc (run+1)
   ·rw[zHC h,if_neg h,zGE l _ 0]
    simp
theorem zDc (before:Int) (z:List Int) (hz:z.length=64):yE before z=jY 0 (z.getD 0 0-before)::zAt 0 (z.drop 1):=by
 unfold yE zAV
 rw[wC4 (by simp;omega)]
 exact zGE (z.drop 1) [jY 0 (z.getD 0 0-before)] 0
theorem zJn:zAw long=true:=by decide
theorem zLd:zAw (0,0,0)=true:=by decide
theorem zJO (r:Nat) (n:Int) (hr:r≤15) (h: -2047≤n∧n≤2047) (h0:n≠0):zAw (jY (r:Int) n)=true∧(jY (r:Int) n).1≠0∧((jY (r:Int) n).1/16).toNat=r∧(yO (jY (r:Int) n).2.1 (jY (r:Int) n).2.2).1=n:=by
 have hb:=zJl n (by omega)
 obtain⟨h1,h2⟩:=szN_11 n h
 have h3:=h2 h0
 have e:(jN n).1=(szN n:Int):=by unfold jN;rw[if_pos (by omega)]
 unfold jY
 refine⟨zHg.2 ⟨by dsimp only;rw[hb], ?_, ?_, ?_, ?_, ?_⟩, ?_, ?_,by dsimp only;rw[hb]⟩
 all_goals dsimp only
 all_goals rw[e]
 all_goals omega
theorem zLL (next:σ→Tok×Int×σ): ∀ (q j:Nat) (zc:List Int) (all:List Tok) (s s':σ),zCA next (List.replicate q long) s s'→j+16*q≤64→(0<q→j+16*q<64+1)→Half zc j→goB next j zc all s=goB next (j+16*q) zc (all++List.replicate q long) s'
 | 0,j,zc,all,s,s',h,_,_,_=>by
   obtain rfl:s=s':=h
   simp
 | q+1,j,zc,all,s,s',h,h1,h2,hz=>by
   rw[wF8] at h
   obtain⟨s1,hn,h⟩:=h
   have e:=zEG (z:=zc) (all:=all) (show j<64 by omega) hn zJn (by decide) (show ¬64<j+(long.1/16).toNat+1 by rw[show (long.1/16).toNat=15 by decide];omega)
   rw[e,show (long.1/16).toNat=15 by decide,show (yO long.2.1 long.2.2).1=0 by decide,hz.same (by omega) (by omega)]
   rw[zLL next q (j+15+1) zc (all++[long]) s1 s' h (by omega) (fun _=>by omega) ⟨hz.len,hz.lo,fun k a b=>hz.zero k (by omega) b⟩]
   rw[show j+15+1+16*q=j+16*(q+1) by omega,wG0,wF8]
   rfl
def zAa (z:List Int) (j:Nat):List Int:=z.take j++List.replicate (64-j) 0
theorem zPv {z:List Int} (hz:z.length=64) (hb: ∀ x∈z, -2047≤x∧x≤2047) {j:Nat} (hj:j≤64):Half (zAa z j) j:=by
 have hl:(z.take j).length=j:=by rw[wI4];omega
 refine⟨by unfold zAa;rw[wF1,hl,wF3];omega,fun x hx=> ?_,fun k h1 h2=> ?_⟩
 ·unfold zAa at hx
  rcases wE5.1 hx with h | h
  ·exact hb x (wG7 h)
  ·have:=(wJ5.1 h).2;omega
 ·unfold zAa
  rw[wG5 (by omega),hl,wK2,if_pos (by omega)]
theorem zJu {z:List Int} (hz:z.length=64) {j k:Nat} (hk:k≤64) (h: ∀ i,j≤i→i<k→z[i]? =some 0) (hjk:j≤k):zAa z j=zAa z k:=by
 refine List.ext_getElem? fun i=> ?_
 unfold zAa
 have l1:(z.take j).length=j:=by rw[wI4];omega
 have l2:(z.take k).length=k:=by rw[wI4];omega
 rcases wA3 i j with h1 | h1
 ·rw[wG4 (by omega),wG4 (by omega),wD0 h1,wD0 (by omega)]
 ·rw[wG5 (by omega),l1,wK2]
  rcases wA3 i k with h2 | h2
  ·rw[wG4 (by omega),wD0 h2,h i h1 h2,if_pos (by omega)]
  ·rw[wG5 (by omega),l2,wK2]
   by_cases h3:i<64
   ·rw[if_pos (by omega),if_pos (by omega)]
   ·rw[if_neg (by omega),if_neg (by omega)]
theorem zJh {z:List Int} (hz:z.length=64) {k:Nat} (hk:k<64):(zAa z k).set k (z[k]'(by omega))=zAa z (k+1):=by
 unfold zAa
 have l1:(z.take k).length=k:=by rw[wI4];omega
 rw[wF6 _ _ (by omega),l1,wF7,show 64-k=(64-(k+1))+1 by omega,wF8,wF9,wC3 (by omega),wG0]
 rfl
theorem soFar_all {z:List Int} (hz:z.length=64):zAa z 64=z:=by unfold zAa;rw[wC4 (by omega)];simp
theorem zFp (next:σ→Tok×Int×σ) (z:List Int) (hz:z.length=64) (hb: ∀ x∈z, -2047≤x∧x≤2047): ∀ (l:List Int) (run j:Nat) (all:List Tok) (s s':σ),z.drop (j+run)=l→j+run≤64→(∀ i,j≤i→i<j+run→z[i]? =some 0) →
 zCA next (zAt run l) s s'→goB next j (zAa z j) all s=(0,z,all++zAt run l,s')
 | [],run,j,all,s,s',hd,hj,h0,h=>by
   have hjr:j+run=64:=by
    have:=congrArg List.length hd
    rw[wJ4] at this
    simp at this
    omega
   unfold zAt at h ⊢
   have e:zAa z j=z:=by rw[zJu hz (wA5 64) (fun i a b=>h0 i a (by omega)) (by omega),soFar_all hz]
   by_cases hr:0<run
   ·rw[if_pos hr] at h ⊢
    obtain⟨s1,hn,h⟩:=h
    obtain rfl:s1=s':=h
    rw[zKw (by omega) hn zLd rfl,e]
   ·rw[if_neg hr] at h ⊢
    obtain rfl:s=s':=h
    rw[zJE (by omega),e]
    simp
 | n::l,run,j,all,s,s',hd,hj,h0,h=>by
   have hlt:j+run<64:=by
    have:=congrArg List.length hd
    rw[wJ4] at this
    simp at this
    omega
   rw[wG1 (by omega)] at hd
   injection hd with hd1 hd2
   rw[zAt] at h ⊢
   by_cases hn:n=0
   ·rw[if_pos hn] at h ⊢
    refine zFp next z hz hb l (run+1) j all s s' (by rw[←hd2];congr 1) (by omega) (fun i a b=> ?_) h
    by_cases hi:i=j+run
    ·subst hi;rw[wA2 (by omega),hd1,hn]
    ·exact h0 i a (by omega)
   ·rw[if_neg hn] at h ⊢
    obtain⟨s1,ha,s2,hs2,hc⟩:=(zGV _ _ _ _).1 h
    have hzn:=hb n (by rw[←hd1];exact wE1 _)
    obtain⟨k1,k2,k3,k4⟩:=zJO (run%16) n (by omega) hzn hn
    rw[zLL next (run/16) j (zAa z j) all s s1 ha (by omega) (fun _=>by omega) (zPv hz hb (by omega))]
    rw[zEG (by omega) hs2 k1 k2 (by rw[k3];omega),k3,k4,show j+16*(run/16)+run%16=j+run by omega]
    have e:(zAa z j).set (j+run) n=zAa z (j+run+1):=by
     rw[zJu hz (k:=j+run) (by omega) h0 (by omega), ←hd1]
     exact zJh hz hlt
    rw[e,zFp next z hz hb l 0 (j+run+1) _ s2 s' hd2 (by omega) (fun i a b=>by omega) hc]
    simp
theorem zPl (next:Bool→σ→Tok×Int×σ) (before:Int) (hbf: -2047≤before∧before≤2047) (z:List Int) (hz:z.length=64) (hb: ∀ x∈z, -2047≤x∧x≤2047) (s s1 s':σ)
 (h1:next true s=(jY 0 (z.getD 0 0-before),0,s1)) (h2:zCA (next false) (zAt 0 (z.drop 1)) s1 s') :
 qW next before s=(0,xZ z 64,yE before z,s'):=by
 have hz0: -2047≤z.getD 0 0∧z.getD 0 0≤2047:=by
  rw[wF2,wA2 (by omega)]
  exact hb _ (wE1 _)
 have hbk:=zJl (z.getD 0 0-before) (by omega)
 have ht:zAk before (jY 0 (z.getD 0 0-before))=true:=by
  rw[zJm]
  unfold jY
  dsimp only
  rw[hbk]
  dsimp only
  omega
 rw[zNM h1 ht]
 have e:before+(yO (jY 0 (z.getD 0 0-before)).2.1 (jY 0 (z.getD 0 0-before)).2.2).1=z.getD 0 0:=by
  unfold jY
  dsimp only
  rw[hbk]
  dsimp only
  omega
 rw[e]
 have e2:(List.replicate 64 (0:Int)).set 0 (z.getD 0 0)=zAa z 1:=by
  have:=zJh hz (k:=0) (by omega)
  rw[←this]
  rw[wF2,wA2 (by omega)]
  rfl
 rw[e2,zFp (next false) z hz hb (z.drop 1) 0 1 _ s1 s' rfl (by omega) (fun i a b=>by omega) h2, ←List.singleton_append.symm]
 rw[zDc before z hz]
 exact zLv (zDc before z hz)
end
theorem zQg: ∀ m:Fin 64, ∃ k:Fin 64,(jM k.val).toNat=m.val:=by decide+kernel
theorem zfrom_zto (b:List Int) (hb:b.length=64):xZ (zto b) 64=b:=by
 refine wH6 (by rw[vR,hb]) fun m h1 h2=> ?_
 rw[vR] at h1
 obtain⟨k,hk⟩:=zQg ⟨m,h1⟩
 have h:=zHW (zto b) 64 k.val (by omega) k.isLt
 rw[hk] at h
 dsimp only at h
 rw[wF2,wA2 (by rw[vR];omega),Option.getD_some] at h
 rw[h]
 unfold zto
 simp[wF2,hk,h2]
theorem zJq {B:Nat}: ∀ (r:List Nat) (P:List (List Nat)) (M c:List Nat) (z:List (List Nat)×List Nat),xN r P M c=some z→(∀ p∈P,p.length≤B∧ ∀ b∈p,b<256)→c.length+r.length≤B→(∀ b∈c,b<256)→(∀ b∈r,b<256)→ ∀ p∈z.1,p.length≤B∧ ∀ b∈p,b<256
 | [],P,M,c,z,h,hP,hB,hc,hr=>by
   simp[xN] at h
   subst h
   intro p hp
   rcases wE5.1 hp with hp | hp
   ·exact hP p hp
   ·simp at hp;subst hp;exact⟨by simpa using hB,hc⟩
 | [x],P,M,c,z,h,hP,hB,hc,hr=>by
   simp only[xN] at h
   split at h
   ·cases h
   ·simp at h
    subst h
    intro p hp
    rcases wE5.1 hp with hp | hp
    ·exact hP p hp
    ·simp at hp
     subst hp
     refine⟨by simpa using hB,fun b hb=> ?_⟩
     rcases wE5.1 hb with hb | hb
     ·exact hc b hb
     ·simp at hb;subst hb;exact hr b (by simp)
 | x::y::r,P,M,c,z,h,hP,hB,hc,hr=>by
   simp only[xN] at h
   simp only[wA8] at hB
   split at h
   ·split at h
    ·cases h
    ·split at h
     ·refine zJq r P M (c++[255,0]) z h hP (by simp;omega) (fun b hb=> ?_) (fun b hb=>hr b (by simp[hb]))
      rcases wE5.1 hb with hb | hb
      ·exact hc b hb
      ·simp at hb;omega
     ·refine zJq r (P++[c]) (M++[y]) [] z h (fun p hp=> ?_) (by simp;omega) (by simp) (fun b hb=>hr b (by simp[hb]))
      rcases wE5.1 hp with hp | hp
      ·exact hP p hp
      ·simp at hp;subst hp;exact⟨by omega,hc⟩
   ·refine zJq (y::r) P M (c++[x]) z h hP (by simp;omega) (fun b hb=> ?_) (fun b hb=>hr b (wP8 _ hb))
    rcases wE5.1 hb with hb | hb
    ·exact hc b hb
    ·simp at hb;subst hb;exact hr b (by simp)
def vG:List Nat→Nat→Bool
 | [],_=>true
 | m::r,i=>decide (m=208+i%8)&&vG r (i+1)
theorem zQo {M:List Nat} {i:Nat} (h:i<M.length):vG (M.drop i) i=(decide (M[i]=208+i%8)&&vG (M.drop (i+1)) (i+1)):=by
 rw[wG1 h,vG]
theorem zOs {M:List Nat} {i:Nat} (h:M.length≤i):vG (M.drop i) i=true:=by
 rw[wL5 h,vG]
def zAZ (n e i:Nat):Nat:=min (n-i*yP n e) (yP n e)
def zAy (n e:Nat) (P:List (List Nat)) (M:List Nat):Int:=if P.length≠yK n e then 4 else if vG M 0 then 0 else 6
def zAx (T1 T2:List Tok) (n e:Nat) (P:List (List Nat)):Nat→Nat→List Int→Int×List Int
 | 0,_,acc=>(0,acc)
 | m+1,i,acc=>if (uB true T1 T2 ((zAZ n e i:Nat):Int) (plZ (P.getD i []))).1≠0 then ((uB true T1 T2 ((zAZ n e i:Nat):Int) (plZ (P.getD i []))).1,[]) else zAx T1 T2 n e P m (i+1) (acc++(uB true T1 T2 ((zAZ n e i:Nat):Int) (plZ (P.getD i []))).2)
theorem sdGo_err {T1 T2:List Tok} {n e:Nat} {P:List (List Nat)} {m i:Nat} {acc:List Int} {r:Int×List Int} (hr:uB true T1 T2 ((zAZ n e i:Nat):Int) (plZ (P.getD i []))=r) (h:r.1≠0):zAx T1 T2 n e P (m+1) i acc=(r.1,[]):=by
 rw[zAx,hr,if_pos h]
theorem sdGo_ok {T1 T2:List Tok} {n e:Nat} {P:List (List Nat)} {m i:Nat} {acc:List Int} {r:Int×List Int} (hr:uB true T1 T2 ((zAZ n e i:Nat):Int) (plZ (P.getD i []))=r) (h:r.1=0):zAx T1 T2 n e P (m+1) i acc=zAx T1 T2 n e P m (i+1) (acc++r.2):=by
 rw[zAx,hr,if_neg (by simp[h])]
theorem zNY {r:Bool} {T1 T2:List Tok} {N:Nat} {z:Option (List Nat)} (h:(uB r T1 T2 (N:Int) z).1=0):(uB r T1 T2 (N:Int) z).2.length=N*64:=by
 unfold uB at h ⊢
 split at h
 ·cases h
 ·next hn =>
  rw[if_neg hn]
  cases z with
  | none=>cases h
  | some pb =>
    dsimp only at h ⊢
    rw[wE8] at h ⊢
    unfold zCm at h ⊢
    split at h
    ·next h1=>exact absurd h h1
    ·next h1 =>
     rw[if_neg h1]
     split at h
     ·cases h
     ·next h2 =>
      rw[if_neg h2]
      have:=zLz (next:=yM r T1 T2 (zK pb)) N 0 0 [] 0 rfl (by simpa using h1)
      simpa using this
def zAn (T1 T2:List Tok) (n e:Nat) (bs:List Nat):Int×List Int :=
 match xN bs [] [] [] with
 | none=>(4,[])
 | some (P,M)=>if zAy n e P M≠0 then (zAy n e P M,[]) else zAx T1 T2 n e P (yK n e) 0 []
def mendAt (T1 T2:List Tok) (n e:Nat) (P:List (List Nat)) (i:Nat):Int×List Int:=if i<P.length then uB true T1 T2 ((zAZ n e i:Nat):Int) (plZ (P.getD i [])) else (5,[])
def mendPart (T1 T2:List Tok) (n e:Nat) (P:List (List Nat)) (i:Nat):List Int:=if (mendAt T1 T2 n e P i).1=0 then (mendAt T1 T2 n e P i).2 else List.replicate (zAZ n e i*64) 0
def mendL (T1 T2:List Tok) (n e:Nat) (P:List (List Nat)):Nat→List Int×List Int
 | 0=>([],[])
 | k+1=>((mendL T1 T2 n e P k).1++mendPart T1 T2 n e P k,if (mendAt T1 T2 n e P k).1=0 then (mendL T1 T2 n e P k).2 else (mendL T1 T2 n e P k).2++[(k:Int)])
def atK (n e i:Nat):Nat:=min (i*yP n e) n
theorem atK_0 (n e:Nat):atK n e 0=0:=by unfold atK;simp
theorem zNR {n e i:Nat} (h:i<yK n e):atK n e (i+1)=atK n e i+zAZ n e i:=by
 have h1:=zGv h
 unfold atK zAZ
 rw[wN3]
 omega
theorem cutK_end (n e:Nat):n≤yK n e*yP n e:=by
 by_cases h:e=0∨n=0
 ·rw[(zEi h).1,(zEi h).2];omega
 ·have h1:=zKs (i:=yK n e) h
  have h2: ¬yK n e*e<n:=fun h3=>by have:=h1.2 h3;omega
  rw[(zFW h).1]
  omega
theorem atK_end (n e:Nat):atK n e (yK n e)=n:=by have:=cutK_end n e;unfold atK;omega
theorem zOS {T1 T2:List Tok} {n e:Nat} {P:List (List Nat)}: ∀ (m i:Nat) (acc:List Int),i+m≤yK n e→acc.length=atK n e i*64→(zAx T1 T2 n e P m i acc).1=0→(zAx T1 T2 n e P m i acc).2.length=atK n e (i+m)*64
 | 0,i,acc,_,ha,_=>by rw[zAx];exact ha
 | m+1,i,acc,hi,ha,h=>by
   rw[zAx] at h ⊢
   by_cases h0:(uB true T1 T2 ((zAZ n e i:Nat):Int) (plZ (P.getD i []))).1≠0
   ·rw[if_pos h0] at h;exact absurd h h0
   ·rw[if_neg h0] at h ⊢
    have hl:=zNY (r:=true) (T1:=T1) (T2:=T2) (N:=zAZ n e i) (z:=plZ (P.getD i [])) (by omega)
    have:=zOS m (i+1) _ (by omega) (by rw[wF1,ha,hl,zNR (by omega),wJ1]) h
    rwa [show i+(m+1)=i+1+m by omega]
end Go.Proofs.YtkggcjdlpendfaaGreatDoor
