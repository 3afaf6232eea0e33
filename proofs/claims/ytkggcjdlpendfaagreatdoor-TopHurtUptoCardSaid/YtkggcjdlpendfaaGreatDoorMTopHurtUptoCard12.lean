import Derived.Test.YtkggcjdlpendfaaGreatDoorMTopHurtUptoCard11
set_option linter.all false
set_option maxRecDepth 20000
set_option maxHeartbeats 8000000
namespace Go.Proofs.YtkggcjdlpendfaaGreatDoor
open Go.RowKit Tryz
def two_sl (w:World) (T:TypeId) (x y:Value):SL (w.alloc (.cells #[x,y] T)) 1 (.slice (some ⟨w.heap.size,0,none⟩) 2 2) 2 [x,y] :=
 ⟨_,_,rfl,by omega,by omega,rfl,λ_=>⟨_,rfl,(Blk.new w T #[x,y]).lt,λj u hu=>by
  have hc:=(Blk.new w T #[x,y]).cell j;rw[zBe];simp only[wB2];rw[hc, ←hu]
  simp⟩⟩
def two_one:∀u∈[Value.int .u8 255,Value.int .u8 0],u.oneCell'=true:=by intro u hu;simp at hu;rcases hu with rfl | rfl<;>rfl
def zTo (C:List Nat):zF (C++[255,0])=zF C++[.int .u8 255,.int .u8 0]:=by simp[zF]
def NZ (VS:List Value):Prop:=∀u∈VS,∀A n c,u=Value.slice A n c→A=none→c=0
def NZ.nil:NZ []:=λ_ h=>by cases h
def NZ.snoc {VS:List Value} {A:Option Addr} {n c:Nat} (h:NZ VS) (h2:A=none→c=0):NZ (VS++[.slice A n c]):=by
 intro u hu A' n' c' e e0;rcases wD3.1 hu with hu | hu
 ·exact h u hu A' n' c' e e0
 simp at hu;rw[hu] at e;injection e with e1 e2 e3
 rw[←e3];exact h2 (by rw[e1];exact e0)
def own_nz {w:World} {base size n c:Nat} {e:TypeId} {A:Option Addr} {xs:List Value} (ho:w.ownsRow base e size (.slice A n c) n xs):A=none→c=0:=by
 obtain⟨-,hh⟩:=ho;rcases hh with ⟨h1,-⟩ | ⟨k,cap,cur,h1,-⟩
 ·injection h1 with _ _ h3;exact λ_=>h3
 injection h1 with h2 _ _;exact λh=>by rw[h] at h2;cases h2
def SpIsN (z:Option (List (List Nat)×List Nat)) (w:World) (e:Ending) (w':World):Prop :=
 match z with
 | none=>e=.returned (.tuple #[.slice none 0 0,.slice none 0 0,.int .i64 4])∧Ext w w'
 | some (P,M)=>∃A c B d VS,e=.returned (.tuple #[.slice A P.length c,.slice B M.length d,.int .i64 0])∧SL w' 1 (.slice A P.length c) P.length VS∧Pieces w' VS P∧SL w' 1 (.slice B M.length d) M.length (ints (M.map Int.ofNat))∧Ext w w'∧NZ VS
def SpIsN.is {z:Option (List (List Nat)×List Nat)} {w w':World} {e:Ending} (h:SpIsN z w e w'):SpIs z w e w':=by
 cases z with
 | none=>exact h
 | some q =>
   obtain⟨P,M⟩:=q;obtain⟨A,c,B,d,VS,h1,h2,h3,h4,h5,-⟩:=h;exact⟨A,c,B,d,VS,h1,h2,h3,h4,h5⟩
def SpIsF (z:Option (List (List Nat)×List Nat)) (w:World) (e:Ending) (w':World):Prop :=
 match z with
 | none=>e=.returned (.tuple #[.slice none 0 0,.slice none 0 0,.int .i64 4])∧Ext w w'
 | some (P,M)=>∃A c B d VS,e=.returned (.tuple #[.slice A P.length c,.slice B M.length d,.int .i64 0])∧SL w' 1 (.slice A P.length c) P.length VS∧Pieces w' VS P∧SL w' 1 (.slice B M.length d) M.length (ints (M.map Int.ofNat))∧Ext w w'∧NZ VS ∧
    (∀ad,A=some ad→w.heap.size≤ad.block)∧∀ad,B=some ad→w.heap.size≤ad.block
def SpIsF.n {z:Option (List (List Nat)×List Nat)} {w w':World} {e:Ending} (h:SpIsF z w e w'):SpIsN z w e w':=by
 cases z with
 | none=>exact h
 | some q =>
   obtain⟨P,M⟩:=q;obtain⟨A,c,B,d,VS,h1,h2,h3,h4,h5,h6,-⟩:=h;exact⟨A,c,B,d,VS,h1,h2,h3,h4,h5,h6⟩
def zMO (bs:List Nat) (v:Value) (w:World) (hv:SL w 1 v bs.length (zF bs)) (hlt:∀b∈bs,b<256) (hn:bs.length≤1048576) :
 Calls prog 34 #[v] w (SpIsF (xW bs [] [] []) w):=by
 have HB:=zA hlt;have hv':=hv;obtain⟨A,c,rfl,hc1,hc2,-,-⟩:=hv';obtain⟨ez,hez⟩:∃ez,ez=xW bs [] [] []:=⟨_,rfl⟩
 have HEZ:=zA hez;rw[←hez];clear hez hlt;have HSE:=zA (λi P M c (h:bs.length≤i)=>sp_end (bs:=bs) (i:=i) (P:=P) (M:=M) (c:=c) h);have HSP:=zA (λi P M c (h:i<bs.length) hx=>sp_plain (bs:=bs) (i:=i) (P:=P) (M:=M) (c:=c) h hx);have HS2:=zA (λi P M c (h:i+1<bs.length) hx=>sp_two (bs:=bs) (i:=i) (P:=P) (M:=M) (c:=c) h hx);have HSL:=zA (λi P M c (h:i+1=bs.length) hx=>sp_last (bs:=bs) (i:=i) (P:=P) (M:=M) (c:=c) h hx);obtain⟨n,hnn⟩:∃n,n=bs.length:=⟨_,rfl⟩
 have HBL:Hid (bs.length=n):=zA hnn.symm;rw[←hnn] at hv hn hc1 ⊢;clear hnn;go_enter func34,ntmps34;go_wp2_with fail
 go_loopw [5,6,7,8] (λs1 s2 s3 iv wr=>∃(i:Nat) (P:List (List Nat)) (M C:List Nat) (A1:Option Addr) (c1:Nat) (A2:Option Addr) (c2:Nat) (A3:Option Addr) (c3:Nat) (VS:List Value),i≤n∧P.length≤i∧M.length≤i∧C.length≤i∧iv=.int .i64 (i:Int)∧s1=.slice A1 P.length c1∧s2=.slice A2 M.length c2∧s3=.slice A3 C.length c3 ∧
  Cur w wr w.heap.size 45 3 5 (.slice A1 P.length c1) (.slice A2 M.length c2) (.slice A3 C.length c3) P.length M.length C.length VS (ints (M.map Int.ofNat)) (zF C) P∧Hid (ez=xW (bs.drop i) P M C)∧Hid (NZ VS)) (λ_ _ _ i _=>n-(intOf i).toNat)
 case atStart=>exact⟨0,[],[],[],none,0,none,0,none,0,[],by omega,by simp,by simp,by simp,rfl,rfl,rfl,rfl,⟨⟨Ext.refl _,⟨wA5 _,wA5 _⟩,zAm _ _ _ _,zAm _ _ _ _,(λb h=>by simp[Value.ownBlock] at h),(λ_ _ h=>by cases h),(λ_ _ h=>by cases h)⟩,Kept.nil _ _ _,zAm _ _ _ _,(λb h=>by simp[Value.ownBlock] at h),(λ_ h=>by cases h)⟩,HEZ,zA NZ.nil⟩
 case round =>
  clear HEZ;obtain⟨i,P,M,C,A1,c1,A2,c2,A3,c3,VS,hi,hPl,hMl,hCl,rfl,rfl,rfl,rfl,hC,HEZ,HNZ⟩:=hrel;have HN3:=zA (own_nz hC.cur)
  by_cases hlt:i<n
  ·have hil:i<bs.length:=by rw[HBL.out];exact hlt
   obtain⟨ad,u,rfl,hab,hxk,hcell⟩:=(hv.ext hC.two.ext).at1 hlt;obtain⟨hkl,rfl⟩:=zGI hxk;have hx8:bs[i]<256:=HB.out _ (wC7 hil);have HPP:=zA (λhx=>HEZ.out.trans (HSP.out i P M C hil hx))
   by_cases hx:bs[i]=255
   ·by_cases h1:i+1=n
    ·have HER:Hid (ez=none):=zA (HEZ.out.trans (HSL.out i P M _ (by rw[HBL.out];exact h1) hx));have hd:decide ((i:Int)+1=(n:Int))=true:=by simp;omega
     have hd2:((i:Int)+1 ==(n:Int))=true:=by simp;omega
     have hwr:IntKind.i64.wrap ((i:Int)+1)=(i:Int)+1:=IntWalk.i64_in _ (by omega);clear HPP HEZ;rw[hx] at hcell;clear hxk hx8;go_wp2_with fail;go_ret3
     rw[HER.out];exact⟨rfl,hC.two.ext⟩
    have h1':i+1<n:=by omega
    obtain⟨ad2,u2,e2,-,hyk,hcell2⟩:=(hv.ext hC.two.ext).at1 h1';injection e2 with e2
    subst e2;obtain⟨hkl2,rfl⟩:=zGI hyk;have hy:bs[i+1]<256:=HB.out _ (wC7 hkl2);have HT:=zA (HEZ.out.trans (HS2.out i P M _ hkl2 hx));have hd:decide ((i:Int)+1=(n:Int))=false:=by simp;omega
    have hd2:((i:Int)+1 ==(n:Int))=false:=by simp;omega
    have hdI:¬((i:Int)+1=(n:Int)):=by omega
    have hwr:IntKind.i64.wrap ((i:Int)+1)=(i:Int)+1:=IntWalk.i64_in _ (by omega);have hwr2:IntKind.i64.wrap ((i:Int)+1+1)=(i:Int)+1+1:=IntWalk.i64_in _ (by omega);have hwr3:IntKind.i64.wrap ((i:Int)+2)=(i:Int)+2:=IntWalk.i64_in _ (by omega);have hi1:i+1<n:=h1';have hi1I:(i:Int)+1<(n:Int):=by omega
    clear HPP HEZ hxk hyk hx8;rw[hx] at hcell
    by_cases hy1:bs[i+1]=255
    ·rw[if_pos hy1] at HT;rw[hy1] at hcell2;have hcell3:=hcell2;unfold Addr.add at hcell3;rw[if_neg (by omega)] at hcell3;clear hy hy1;go_wp2_with fail;go_ret3
     rw[HT.out];exact⟨rfl,hC.two.ext⟩
    rw[if_neg hy1] at HT;have hyI:¬(((bs[i+1]:Nat):Int)=255):=by omega
    have hyb:(((bs[i+1]:Nat):Int) ==255)=false:=by simp;omega
    by_cases hy0:bs[i+1]=0
    ·rw[if_pos hy0] at HT;rw[hy0] at hcell2;have hcell3:=hcell2;unfold Addr.add at hcell3;rw[if_neg (by omega)] at hcell3;clear hy hy1 hyI hyb hy0;go_wp2_with (at_builtin;go_must (refine wApf zBd rfl _ _ rfl w.heap.size (.slice A3 C.length c3) _ _ rfl (hC.cur.alloc _) _ 2 [.int .u8 255,.int .u8 0] rfl (two_sl _ _ _ _) two_one (by omega) (by omega) (by have:=hC.two.base.2;simp;omega) ?_);intro A7 c7 w7 ho7 hg7 hr7)
     have hC7:=(hC.later ((Ext.refl wr).alloc (.cells #[.int .u8 255,.int .u8 0] 5))).grow ho7 hg7 (by rw[zCT];exact hr7);go_roundw
     case rel =>
      refine⟨i+2,P,M,C++[255,0],A1,c1,A2,c2,A7,c7,VS,by omega,by omega,by omega,by simp;omega,by go_num,rfl,rfl,by rw[wE2];rfl, ?_,HT,HNZ⟩;rw[wE2,zTo];exact hC7
     case measure=>simp[intOf];omega
    rw[if_neg hy0] at HT;have hdy:decide ((0:Int)<((bs[i+1]:Nat):Int))=true:=by simp;omega
    have hy0I:0<bs[i+1]:=by omega
    have HCX:∀W,Ext w W→W.cell? (ad.add ((i+1)*1))=some (.int .u8 ((bs[i+1]:Nat):Int)):=λW hW=>by
     rw[wD8];obtain⟨ad3,u3,e3,-,hk3,hc3⟩:=(hv.ext hW).at1 h1';injection e3 with e3
     subst e3;obtain⟨_,hu⟩:=zGI hk3;rw[hc3,hu]
    generalize bs[i+1]=y at *
    try clear hx
    have hcell3:=hcell2;unfold Addr.add at hcell3;rw[if_neg (by omega)] at hcell3;have hI:Ext w wr.drew:=hC.two.ext.drew;have hCd:=hC.later (Ext.refl wr).drew;have T0:=hCd.two;have K0:=hCd.kept.snoc hCd.cur rfl hCd.d1;clear hCd;go_wp2_with fail;refine qR (Ext w) (by kernel_rfl) ?_;refine zG (k:=0) (by kernel_rfl) rfl (by rfl) (.slice A1 P.length c1) (zD rfl rfl) hI ?_;simp only[sP,sB,sC];refine zG (k:=1) (by kernel_rfl) rfl (by rfl) (.slice A3 C.length c3) (zD rfl rfl) hI ?_;simp only[sP,sB,sC];refine zG (k:=4) (by kernel_rfl) rfl (by rfl) (.slice A2 M.length c2) (zD rfl rfl) hI ?_;simp only[sP,sB,sC];refine zG (k:=5) (by kernel_rfl) rfl (by rfl) (.slice (some ad) n c) (zD rfl rfl) hI ?_;simp only[sP,sB,sC];refine zG (k:=6) (by kernel_rfl) rfl (by rfl) (.int .i64 ((i+1:Nat):Int)) (zD rfl rfl) hI ?_;simp only[sP,sB,sC];refine zG (k:=7) (by kernel_rfl) rfl (by rfl) (.pointer (some (ad.add ((i+1)*1)))) (qP underlying45 zKc rfl rfl rfl hi1) hI ?_;simp only[sP,sB,sC];refine xE (k:=8) (by kernel_rfl) rfl (by rfl) (.int .u8 ((y:Nat):Int)) (λW hW=>zLT rfl rfl (HCX W hW)) hI ?_;simp only[Act.put,sA,sB,sC];refine zG (k:=9) (by kernel_rfl) rfl (by rfl) (.int .i64 ((y:Nat):Int)) (zNp rfl rfl (zIz y hy)) hI ?_;simp only[sP,sB,sC];refine oi_two (k:=2) (l:=10) (by kernel_rfl) rfl rfl ?_ ?_
    ·refine wLit1 rfl 71 45 (.tmp 30) rfl (some 31) rfl underlying71 1 zGA zeroBs _ rfl rfl (by omega) (by omega) ?_;intro w1 g1 hb1 hx1 hg1;have T1:=T0.lit1 (v:=(.slice A3 C.length c3)) hb1 hx1 hg1;have K1:=K0.ext hx1;clear hb1 hx1 hg1;refine zZ ⟨T1.ext, ?_⟩;simp only[Act.put,sA,sB,sC];refine oi_two (k:=3) (l:=10) (by kernel_rfl) rfl rfl ?_ ?_
     ·refine wApf zKg rfl _ _ rfl w.heap.size (.slice A1 P.length c1) P.length VS rfl T1.p _ 1 [(.slice A3 C.length c3)] rfl (zCf (T1.a1 _ _ rfl).1) (zJW rfl) (by omega) (by omega) T1.base.2 ?_;intro B1 d1 w2 ho2 hg2 hr2;have T2:=T1.app1' ho2 hg2 hr2;have K2:=K1.grown1 (n:=P.length+1) (c:=d1) hg2 hr2;clear ho2 hg2 hr2;refine zZ ⟨T2.ext, ?_⟩;simp only[Act.put,sA,sB,sC];refine qI (k:=10) (by kernel_rfl) rfl ?_;refine wLit1 rfl 22 3 (.tmp 38) rfl (some 39) rfl underlying22 1 jM zeroI _ rfl rfl (by omega) (by omega) ?_;intro w3 g3 hb3 hx3 hg3;have T3:=T2.lit2 (v:=.int .i64 (y:Int)) hb3 hx3 hg3;have K3:=K2.ext hx3;clear hb3 hx3 hg3;refine zZ ⟨T3.ext, ?_⟩;simp only[Act.put,sA,sB,sC];refine qI (k:=11) (by kernel_rfl) rfl ?_;refine wApf zGB rfl _ _ rfl w.heap.size (.slice A2 M.length c2) M.length (ints (M.map Int.ofNat)) rfl T3.m _ 1 [.int .i64 (y:Int)] rfl (zCf (T3.a2 _ _ rfl).1) (zNz _) (by omega) (by omega) T3.base.2 ?_;intro B2 d2 w4 ho4 hg4 hr4;have T4:=T3.app2' ho4 hg4 hr4;have K4:=K3.grown2 (n:=M.length+1) (c:=d2) hg4 hr4;clear ho4 hg4 hr4;refine zZ ⟨T4.ext, ?_⟩;simp only[Act.put,sA,sB,sC];refine zG (k:=12) (by kernel_rfl) rfl (by rfl) (.slice B1 (P.length+1) d1) (zW rfl rfl) T4.ext ?_;simp only[sP,sB,sC];refine zG (k:=13) (by kernel_rfl) rfl (by rfl) (.slice B2 (M.length+1) d2) (zW rfl rfl) T4.ext ?_;simp only[sP,sB,sC];refine zG (k:=14) (by kernel_rfl) rfl (by rfl) (.slice none 0 0) (zW rfl rfl) T4.ext ?_;simp only[sP,sB,sC];refine uA (by kernel_rfl) ?_;go_wp2_with fail;go_roundw
      case rel =>
       refine⟨i+2,P++[C],M++[y],[],B1,d1,B2,d2,none,0,VS++[.slice A3 C.length c3],by omega,by simp;omega,by simp;omega,by simp,by go_num,by rw[wE2];rfl,by rw[wE2];rfl,rfl, ?_,zA HT.out,zA (HNZ.out.snoc HN3.out)⟩;rw[wE2,wE2,wF5,vP];exact⟨T4,K4,zAm _ _ _ _,(λb h=>by cases h),(λ_ _ _ _ h=>by cases h)⟩
      case measure=>simp[intOf];omega
     refine wLit1 rfl 22 3 (.tmp 38) rfl (some 39) rfl underlying22 1 jM zeroI _ rfl rfl (by omega) (by omega) ?_;intro w2 g2 hb2 hx2 hg2;have T2:=T1.lit2 (v:=.int .i64 (y:Int)) hb2 hx2 hg2;have K2:=K1.ext hx2;clear hb2 hx2 hg2;refine zZ ⟨T2.ext, ?_⟩;simp only[Act.put,sA,sB,sC];refine qI (k:=3) (by kernel_rfl) rfl ?_;refine wApf zKg rfl _ _ rfl w.heap.size (.slice A1 P.length c1) P.length VS rfl T2.p _ 1 [(.slice A3 C.length c3)] rfl (zCf (T2.a1 _ _ rfl).1) (zJW rfl) (by omega) (by omega) T2.base.2 ?_;intro B1 d1 w3 ho3 hg3 hr3;have T3:=T2.app1' ho3 hg3 hr3;have K3:=K2.grown1 (n:=P.length+1) (c:=d1) hg3 hr3;clear ho3 hg3 hr3;refine zZ ⟨T3.ext, ?_⟩;simp only[Act.put,sA,sB,sC];refine qI (k:=11) (by kernel_rfl) rfl ?_;refine wApf zGB rfl _ _ rfl w.heap.size (.slice A2 M.length c2) M.length (ints (M.map Int.ofNat)) rfl T3.m _ 1 [.int .i64 (y:Int)] rfl (zCf (T3.a2 _ _ rfl).1) (zNz _) (by omega) (by omega) T3.base.2 ?_;intro B2 d2 w4 ho4 hg4 hr4;have T4:=T3.app2' ho4 hg4 hr4;have K4:=K3.grown2 (n:=M.length+1) (c:=d2) hg4 hr4;clear ho4 hg4 hr4;refine zZ ⟨T4.ext, ?_⟩;simp only[Act.put,sA,sB,sC];refine zG (k:=12) (by kernel_rfl) rfl (by rfl) (.slice B1 (P.length+1) d1) (zW rfl rfl) T4.ext ?_;simp only[sP,sB,sC];refine zG (k:=13) (by kernel_rfl) rfl (by rfl) (.slice B2 (M.length+1) d2) (zW rfl rfl) T4.ext ?_;simp only[sP,sB,sC];refine zG (k:=14) (by kernel_rfl) rfl (by rfl) (.slice none 0 0) (zW rfl rfl) T4.ext ?_;simp only[sP,sB,sC];refine uA (by kernel_rfl) ?_;go_wp2_with fail;go_roundw
     case rel =>
      refine⟨i+2,P++[C],M++[y],[],B1,d1,B2,d2,none,0,VS++[.slice A3 C.length c3],by omega,by simp;omega,by simp;omega,by simp,by go_num,by rw[wE2];rfl,by rw[wE2];rfl,rfl, ?_,zA HT.out,zA (HNZ.out.snoc HN3.out)⟩;rw[wE2,wE2,wF5,vP];exact⟨T4,K4,zAm _ _ _ _,(λb h=>by cases h),(λ_ _ _ _ h=>by cases h)⟩
     case measure=>simp[intOf];omega
    refine wLit1 rfl 22 3 (.tmp 38) rfl (some 39) rfl underlying22 1 jM zeroI _ rfl rfl (by omega) (by omega) ?_;intro w1 g1 hb1 hx1 hg1;have T1:=T0.lit2 (v:=.int .i64 (y:Int)) hb1 hx1 hg1;have K1:=K0.ext hx1;clear hb1 hx1 hg1;refine zZ ⟨T1.ext, ?_⟩;simp only[Act.put,sA,sB,sC];refine qI (k:=2) (by kernel_rfl) rfl ?_;refine wLit1 rfl 71 45 (.tmp 30) rfl (some 31) rfl underlying71 1 zGA zeroBs _ rfl rfl (by omega) (by omega) ?_;intro w2 g2 hb2 hx2 hg2;have T2:=T1.lit1 (v:=(.slice A3 C.length c3)) hb2 hx2 hg2;have K2:=K1.ext hx2;clear hb2 hx2 hg2;refine zZ ⟨T2.ext, ?_⟩;simp only[Act.put,sA,sB,sC];refine qI (k:=3) (by kernel_rfl) rfl ?_;refine wApf zKg rfl _ _ rfl w.heap.size (.slice A1 P.length c1) P.length VS rfl T2.p _ 1 [(.slice A3 C.length c3)] rfl (zCf (T2.a1 _ _ rfl).1) (zJW rfl) (by omega) (by omega) T2.base.2 ?_;intro B1 d1 w3 ho3 hg3 hr3;have T3:=T2.app1' ho3 hg3 hr3;have K3:=K2.grown1 (n:=P.length+1) (c:=d1) hg3 hr3;clear ho3 hg3 hr3;refine zZ ⟨T3.ext, ?_⟩;simp only[Act.put,sA,sB,sC];refine qI (k:=11) (by kernel_rfl) rfl ?_;refine wApf zGB rfl _ _ rfl w.heap.size (.slice A2 M.length c2) M.length (ints (M.map Int.ofNat)) rfl T3.m _ 1 [.int .i64 (y:Int)] rfl (zCf (T3.a2 _ _ rfl).1) (zNz _) (by omega) (by omega) T3.base.2 ?_;intro B2 d2 w4 ho4 hg4 hr4;have T4:=T3.app2' ho4 hg4 hr4;have K4:=K3.grown2 (n:=M.length+1) (c:=d2) hg4 hr4;clear ho4 hg4 hr4;refine zZ ⟨T4.ext, ?_⟩;simp only[Act.put,sA,sB,sC];refine zG (k:=12) (by kernel_rfl) rfl (by rfl) (.slice B1 (P.length+1) d1) (zW rfl rfl) T4.ext ?_;simp only[sP,sB,sC];refine zG (k:=13) (by kernel_rfl) rfl (by rfl) (.slice B2 (M.length+1) d2) (zW rfl rfl) T4.ext ?_;simp only[sP,sB,sC];refine zG (k:=14) (by kernel_rfl) rfl (by rfl) (.slice none 0 0) (zW rfl rfl) T4.ext ?_;simp only[sP,sB,sC];refine uA (by kernel_rfl) ?_;go_wp2_with fail;go_roundw
    case rel =>
     refine⟨i+2,P++[C],M++[y],[],B1,d1,B2,d2,none,0,VS++[.slice A3 C.length c3],by omega,by simp;omega,by simp;omega,by simp,by go_num,by rw[wE2];rfl,by rw[wE2];rfl,rfl, ?_,zA HT.out,zA (HNZ.out.snoc HN3.out)⟩;rw[wE2,wE2,wF5,vP];exact⟨T4,K4,zAm _ _ _ _,(λb h=>by cases h),(λ_ _ _ _ h=>by cases h)⟩
    case measure=>simp[intOf];omega
   have HNX:=zA (HPP.out hx);have hxn:(((bs[i]:Nat):Int) !=255)=true:=by simp;omega
   clear HPP HEZ hxk;generalize bs[i]=x at *;have hxI:¬((x:Int)=255):=by omega
   go_wp2_with (at_builtin;go_must (refine wApf zBd rfl _ _ rfl w.heap.size (.slice A3 C.length c3) _ _ rfl (hC.cur.alloc _) _ 1 [.int .u8 _] rfl (one_sl _ _ _) (zJW rfl) (by omega) (by omega) (by have:=hC.two.base.2;simp;omega) ?_);intro A7 c7 w7 ho7 hg7 hr7)
   have hC7:=(hC.later ((Ext.refl wr).alloc (.cells #[.int .u8 (x:Int)] 5))).grow ho7 hg7 (by rw[zCT];exact hr7);go_roundw
   case rel =>
    refine⟨i+1,P,M,C++[x],A1,c1,A2,c2,A7,c7,VS,by omega,by omega,by omega,by simp;omega,by go_num,rfl,rfl,by rw[wE2];rfl, ?_,HNX,HNZ⟩;rw[wE2,zLK];exact hC7
   case measure=>simp[intOf];omega
  have HER:=zA (HEZ.out.trans (HSE.out i P M _ (by rw[HBL.out];omega)));clear HEZ;have T0:=hC.two;have K0:=hC.kept.snoc hC.cur rfl hC.d1;go_upto_region 15 with fail
  refine wp_region_lit ?_;refine zB rfl (.slice A1 P.length c1) (zD rfl rfl) ?_;simp only[Act.put,sA,sB,sC];refine zB rfl (.slice A3 C.length c3) (zD rfl rfl) ?_;simp only[Act.put,sA,sB,sC];refine wLit1 rfl 71 45 (.tmp 63) rfl (some 64) rfl underlying71 1 zGA zeroBs _ rfl rfl (by omega) (by omega) ?_;intro w1 g1 hb1 hx1 hg1;have T1:=T0.lit1 (v:=.slice A3 C.length c3) hb1 hx1 hg1;have K1:=K0.ext hx1;clear hb1 hx1 hg1;simp only[Act.put,sA,sB,sC];refine wApf zKg rfl _ _ rfl w.heap.size (.slice A1 P.length c1) P.length VS rfl T1.p _ 1 [.slice A3 C.length c3] rfl (zCf (T1.a1 _ _ rfl).1) (zJW rfl) (by omega) (by omega) T1.base.2 ?_;intro B1 d1 w2 ho2 hg2 hr2;have T2:=T1.app1' ho2 hg2 hr2;have K2:=K1.grown1 (n:=P.length+1) (c:=d1) hg2 hr2;clear ho2 hg2 hr2;simp only[Act.put,sA,sB,sC];go_wp2_with fail;go_ret3
  rw[HER.out];refine⟨B1,d1,A2,c2,_,by rw[wE2];rfl, ?_,K2.1,(jC T2.m).1,T2.ext,HNZ.out.snoc HN3.out,λad h=>wJ1 T2.base.1 ((jC T2.p).2 ad h),λad h=>wJ1 T2.base.1 ((jC T2.m).2 ad h)⟩;rw[wE2];exact (jC T2.p).1
def zMW (bs:List Nat) (v:Value) (w:World) (hv:SL w 1 v bs.length (zF bs)) (hlt:∀b∈bs,b<256) (hn:bs.length≤1048576) :
 Calls prog 34 #[v] w (SpIsN (xW bs [] [] []) w):=(zMO bs v w hv hlt hn).mono λ_ _ h=>h.n
def split_any (bs:List Nat) (v:Value) (w:World) (hv:SL w 1 v bs.length (zF bs)) (hlt:∀b∈bs,b<256) (hn:bs.length≤1048576) :
 Calls prog 34 #[v] w (SpIs (xW bs [] [] []) w):=(zMW bs v w hv hlt hn).mono λ_ _ h=>h.is
def Ext.grown' {a w w':World} (h:Ext a w) {row:Option Nat} (hg:w.grownBy w' row) (hB:∀b,row=some b→a.heap.size≤b):Ext a w' :=
 Below.grown h hg h.size (λk hk=>hB k hk)
section
def zeroU8:((prog.info? 5).bind (·.zero)).isSome=true:=by kernel_rfl
def zCq {ops:Array Oper} {rest:List Oper} {o:Oper} {a:Act} {w:World} {Q:Exit→Act→World→Prop} (hg:o.guard=none) (x y:Operand) (ho:o.op=.buildSlice 45 2 #[(0,x),(1,y)]) (dst:Option Tmp) (hdst:o.dst=dst)
 (m n:Nat) (hx:a.eval x=.int .u8 (m:Int)) (hy:a.eval y=.int .u8 (n:Int))
 (h:∀w1 g,Blk w1 g 5 (zF [m,n]).toArray→Ext w w1→w.heap.size≤g→wpList prog ops Q rest (a.put dst (.slice (some ⟨g,0,none⟩) 2 2)) w1):wpList prog ops Q (o::rest) a w:=by
 refine Go.Great.wpList_buildSliceTo hg 45 5 2 #[(0,x),(1,y)] ho _ rfl dst hdst underlying45 (zF [m,n]).toArray ?_ (h _ _ (Blk.new w _ _) ((Ext.refl w).alloc _) (wA5 _));simp only[wI2,wG6,wG7,hx,hy];show _=_
 kernel_rfl
def zKD {ops:Array Oper} {rest:List Oper} {o:Oper} {a:Act} {w:World} {Q:Exit→Act→World→Prop} (hg:o.guard=none) (x:Operand) (ho:o.op=.buildSlice 45 1 #[(0,x)]) (dst:Option Tmp) (hdst:o.dst=dst)
 (m:Nat) (hx:a.eval x=.int .u8 (m:Int))
 (h:∀w1 g,Blk w1 g 5 (zF [m]).toArray→Ext w w1→w.heap.size≤g→wpList prog ops Q rest (a.put dst (.slice (some ⟨g,0,none⟩) 1 1)) w1):wpList prog ops Q (o::rest) a w :=
 wLit1 hg 45 5 x ho dst hdst underlying45 1 zKc zeroU8 _ hx rfl (by omega) (by omega) h
attribute [local irreducible] zF zBp yA
def zGw (A:Option Addr) (n c k1 k2 g1 g2:Nat) (bs o v:List Nat) (m0:Int) (w:World) (hs:SL w 1 (.slice A n c) n (zF bs)) (hA:A=none→c=0) (hlt:∀b∈bs,b<256) (hlo:∀b∈o,b<256) (hn:n≤1000000000)
 (ho:o.length=k1) (hk1:1≤k1) (hk2:k1≤2) (hv:v.length=k2) (hk3:1≤k2) (hk4:k2≤2) (hbo:Blk w g1 5 (zF o).toArray) (hbv:Blk w g2 5 (zF v).toArray) (hm:w.cell? ⟨0,0,none⟩=some (.int .i64 m0)) :
 Calls prog 79 #[.slice A n c,.slice (some ⟨g1,0,none⟩) k1 k1,.slice (some ⟨g2,0,none⟩) k2 k2] w (ReplIs (zBp bs o v) w):=by
 have H:=zA (zTP A n c k1 k2 g1 g2 bs o v m0 w hs hA hlt hlo hn ho hk1 hk2 hv hk3 hk4 hbo hbv hm);generalize zBp bs o v=R at *;clear hs hlt hlo ho hv hbo hbv hm;go_enter func79,ntmps79;go_wp2_with (go_at_call 138;(with_reducible refine (H.out).mono ?_);rintro e w1 ⟨B,k,d,rfl,h1,h2,h3,h4⟩)
 go_ret;exact⟨B,k,d,rfl,h1,h2,h3,h4⟩
def uG {w w':World} {m0:Int} (hm:w.cell? ⟨0,0,none⟩=some (.int .i64 m0)) (hx:Ext w w'):w'.cell? ⟨0,0,none⟩=some (.int .i64 m0):=by
 have h00:0<w.heap.size:=by
  rcases wI0 w.heap.size with h | h
  ·unfold World.cell? at hm;rw[wA4 (by simp[h])] at hm;cases hm
  exact h
 exact (hx.cell (p:=⟨0,0,none⟩) h00).trans hm
def zOu (A:Option Addr) (n c:Nat) (bs:List Nat) (m0:Int) (w:World) (hs:SL w 1 (.slice A n c) n (zF bs)) (hA:A=none→c=0) (hlt:∀b∈bs,b<256) (hn:n≤1000000000) (hm:w.cell? ⟨0,0,none⟩=some (.int .i64 m0)) :
 Calls prog 35 #[.slice A n c] w (ReplIs (yA bs) w):=by
 have H:=zA (λW (h:Ext w W) g1 g2 h1 h2=>zGw A n c 1 2 g1 g2 bs [255] [255,0] m0 W (hs.ext h) hA hlt (by simp) hn rfl (by omega) (by omega) rfl (by omega) (by omega) h1 h2 (uG hm h));rw[zMY bs hlt] at H;generalize yA bs=R at *;clear hs hlt hm;go_enter func35,ntmps35
 go_wp2_with (first
  | ((with_reducible apply gS 4);refine zKD rfl _ rfl (some 4) rfl 255 rfl ?_;intro w1 g1 hb1 hx1 hg1)
  | ((with_reducible apply gS 5);refine zCq rfl _ _ rfl (some 5) rfl 255 0 rfl rfl ?_;intro w2 g2 hb2 hx2 hg2)
  | (go_at_call 79;(with_reducible refine (H.out _ (hx1.trans hx2) _ _ (hb1.ext hx2) hb2).mono ?_);rintro e w3 ⟨B,k,d,rfl,h1,h2,h3,h4⟩))
 go_ret;exact⟨B,k,d,rfl,h1,h2,h3,(hx1.trans hx2).trans h4⟩
def PlIs (z:Option (List Nat)) (w:World) (e:Ending) (w':World):Prop :=
 match z with
 | none=>e=.returned (.tuple #[.slice none 0 0,.int .i64 4])∧Ext w w'
 | some R=>∃B k d,e=.returned (.tuple #[.slice B k d,.int .i64 0])∧R.length=k∧SL w' 1 (.slice B k d) k (zF R)∧(B=none→d=0)∧Ext w w'
def plain_any (A:Option Addr) (n c:Nat) (bs:List Nat) (m0:Int) (w:World) (hs:SL w 1 (.slice A n c) n (zF bs)) (hA:A=none→c=0) (hlt:∀b∈bs,b<256) (hn:n≤1048576) (hm:w.cell? ⟨0,0,none⟩=some (.int .i64 m0)) :
 Calls prog 160 #[.slice A n c] w (PlIs (plZ bs) w):=by
 have hl:=(zHN hs).1;have HSP:=split_any bs (.slice A n c) w (by rw[hl];exact hs) hlt (by omega);obtain⟨k1,k2⟩:=zNb bs [] [] [];have H:=zA (λW (h:Ext w W) g1 g2 h1 h2=>zGw A n c 2 1 g1 g2 bs [255,0] [255] m0 W (hs.ext h) hA hlt (by simp) (by omega) rfl (by omega) (by omega) rfl (by omega) (by omega) h1 h2 (uG hm h));have hpr:=zHv bs
 cases hz:plZ bs with
 | none =>
   have k3:=k1 (.inr hz)
   cases hq:xW bs [] [] [] with
   | none =>
     rw[hq] at HSP;have HSP:=zA HSP;clear hs hlt hm k1 k2 k3 hz hq H hpr;go_enter func160,ntmps160;go_wp2_with (go_at_call 34;(with_reducible refine (HSP.out).mono ?_);rintro e w1 ⟨rfl,hx1⟩)
     refine bodyPost_ret (results_tmp2 rfl _ _ _) rfl ?_;exact⟨rfl,hx1⟩
   | some z =>
     obtain⟨P,M⟩:=z;have hM:=k3 _ hq;dsimp only at hM;rw[hq] at HSP;have HSP:=zA HSP;obtain⟨ml,hml⟩:∃ml,M.length=ml:=⟨_,rfl⟩
     have hml0:0<ml:=by rw[←hml];exact List.length_pos_iff.2 hM
     have HML:=zA hml;clear hs hlt hm k1 k2 k3 hz hq H hpr hM hml;go_enter func160,ntmps160;go_wp2_with (go_at_call 34;(with_reducible refine (HSP.out).mono ?_);rintro e w1 ⟨B,b,D,d,VS,rfl,-,-,-,hx1⟩;rw[HML.out])
     refine bodyPost_ret (results_tmp2 rfl _ _ _) rfl ?_;exact⟨rfl,hx1⟩
 | some R =>
   obtain⟨P,hq⟩:=k2 rfl R hz;rw[hq] at HSP;have HSP:=zA HSP;rw[hpr R hlt hz] at H;clear hs hlt hm k1 k2 hz hq hpr;go_enter func160,ntmps160
   go_wp2_with (first
    | (go_at_call 34;(with_reducible refine (HSP.out).mono ?_);rintro e w1 ⟨B,b,D,d,VS,rfl,-,-,-,hx1⟩;rw[show ([]:List Nat).length=0 from rfl])
    | ((with_reducible apply gS 24);refine zCq rfl _ _ rfl (some 24) rfl 255 0 rfl rfl ?_;intro w2 g2 hb2 hx2 hg2)
    | ((with_reducible apply gS 25);refine zKD rfl _ rfl (some 25) rfl 255 rfl ?_;intro w3 g3 hb3 hx3 hg3;have hx13:=(hx1.trans hx2).trans hx3)
    | (go_at_call 79;(with_reducible refine (H.out _ hx13 _ _ (hb2.ext hx3) hb3).mono ?_);rintro e w4 ⟨B4,k4,d4,rfl,h1,h2,h3,h4⟩))
   refine bodyPost_ret (results_tmp2 rfl _ _ _) rfl ?_;exact⟨B4,k4,d4,rfl,h1,h2,h3,hx13.trans h4⟩
def zNP (y:Nat) (l:List Nat):yA (y::l)=(if y=255 then [255,0] else [y])++yA l:=by unfold yA;rw[wG2]
end
section
def zTi (Z:List Int) (k:Nat):(uM Z k).length≤4034:=by
 unfold uM yW;have h:=(accT_bd (qZ 0 ((zto (yP Z k)).getD 0 0-vW Z k)) ((zto (yP Z k)).drop 1) 63 (by rw[wE8,vA];omega) (by omega)).2;dsimp only;split
 ·rw[wE2,List.length_singleton];omega
 omega
def zTE {Z:List Int} {n k:Nat}:∀t∈xM Z n k,zBJ t.1:=by intro t ht;unfold xM at ht;obtain⟨i,-,ht⟩:=wS6.1 ht;unfold zAP at ht;obtain⟨p,hp,rfl⟩:=wD2.1 ht;have:=wS8 hp;unfold uM at this;exact zEB _ _ (vA _) _ this
def zTC (Z:List Int) (n:Nat):(xM Z n 0).length≤4034*n:=by
 unfold xM;rw[Nat.sub_zero]
 have key:∀m k,((List.range' k m).flatMap λi=>zAP (uM Z i)).length≤4034*m:=by
  intro m
  induction m with
  | zero=>intro k;simp
  | succ m ih =>
    intro k;rw[wM6,wG2,wE2,zGP];have:=ih (k+1);have:=zTi Z k;omega
 exact key n 0
def encZ_bd {T1 T2:List Tok} (f1:zBg T1) (f2:zBg T2) (n:Nat) (Z:List Int):(xN (yV T1 T2) n Z []).2.length≤1000000000:=by
 unfold xN;split
 ·simp
 split
 ·simp
 have h1:=zLk f1 f2 (xM Z n 0) [] zTE;have h2:=zTC Z n;simp only[wJ0] at h1;omega
def zGO (r:Int×List Nat) (w:World) (e:Ending) (w':World):Prop :=
 Ext w w'∧if r.1=0 then ∃B k d,e=.returned (.tuple #[.slice B k d,.int .i64 0])∧r.2.length=k∧SL w' 1 (.slice B k d) k (zF r.2)∧(B=none→d=0)
  else e=.returned (.tuple #[.slice none 0 0,.int .i64 r.1])
def zDN (T1 T2:List Tok) (n:Nat) (Z:List Int):Int×List Nat:=((xN (yV T1 T2) n Z []).1,yA (qU (vU (xN (yV T1 T2) n Z []).2)))
def nilPtrK:(prog.info? 197).bind (·.zero)=some (.pointer none):=by kernel_rfl
def nilPtrW:(prog.info? 200).bind (·.zero)=some (.pointer none):=by kernel_rfl
def zCr {t1 t2:List Value} (h1:t1.length=17) (h2:t2.length=17):(t1++t2).toArray.size=34:=by simp[h1,h2]
def builtWr:prog.built 203 []=some #[.slice none 0 0,.int .u64 0,.int .i64 0]:=by
 show _=_
 kernel_rfl
attribute [local irreducible] zF yA qU vU xN
def zTW (T1 T2:List Tok) (f1:zBg T1) (f2:zBg T2) (t1 t2:List Value) (A:Option Addr) (n c:Nat) (Z:List Int) (hZ:Z.length=n*64) (m0:Int) (w:World) (hs:SL w 64 (.slice A n c) n (ints Z)) (hm:w.cell? ⟨0,0,none⟩=some (.int .i64 m0)) (h1:t1.length=17) (h2:t2.length=17)
 (o1:t1.toArray.all (·.oneCell')=true) (o2:t2.toArray.all (·.oneCell')=true)
 (C1:∀W,Ext w W→Calls prog 102 #[.agg t1.toArray] W λe W'=>e=.returned (.int .i64 0)∧Ext W W')
 (C2:∀W,Ext w W→Calls prog 102 #[.agg t2.toArray] W λe W'=>e=.returned (.int .i64 0)∧Ext W W')
 (N1:∀W,Ext w W→Calls prog 184 #[.agg t1.toArray] W λe W'=>∃gc,e=.returned (.pointer (some ⟨gc,0,none⟩))∧CoderS W' gc T1∧Ext W W')
 (N2:∀W,Ext w W→Calls prog 184 #[.agg t2.toArray] W λe W'=>∃gc,e=.returned (.pointer (some ⟨gc,0,none⟩))∧CoderS W' gc T2∧Ext W W') :
 Calls prog 104 #[.agg (t1++t2).toArray,.slice A n c] w (zGO (zDN T1 T2 n Z) w):=by
 have HM:=zA (λW (h:Ext w W)=>zGK T1 T2 t1 t2 W h1 h2 o1 o2 (λW' h'=>C1 W' (h.trans h')) (λW' h'=>C2 W' (h.trans h')) (λW' h'=>N1 W' (h.trans h')) (λW' h'=>N2 W' (h.trans h')));have hsz:=zA (zCr h1 h2);have hbd:=encZ_bd f1 f2 n Z
 have HEA:=zA (λpc pw gk gw gc1 gc2 W0 W F (hsW:SL W 64 (.slice A n c) n (ints Z)) (hI:EncIn pc pw gk gw gc1 gc2 T1 T2 W0 W [] F) (hA:∀ad,A=some ad→0<n→¬F ad.block) =>
  zSa (encEat pc pw gk gw gc1 gc2 T1 T2 f1 f2 W0) A n c Z hZ W hsW [] F hI hA hbd)
 unfold zDN;unfold EachIs at HEA;have hmf:∀(fn:Fn) (first cap:Array Value) (w:World),(Instr.makeFunc fn first cap).run prog w=.ok (.func fn first cap) w:=λ_ _ _ _=>rfl
 have HSA:Hid (∀ad,A=some ad→0<n→ad.block<w.heap.size):=zA (λad e h0=>by
  obtain⟨A',c',e2,-,-,-,h5⟩:=hs;injection e2 with e3 _ _
  subst e3;obtain⟨ad',e4,h6,-⟩:=h5 h0;rw[e] at e4;injection e4 with e4
  subst e4
  exact h6)
 generalize xN (yV T1 T2) n Z []=R at *;generalize (t1++t2).toArray=tt at *;obtain⟨x,L⟩:=R;dsimp only at HEA hbd ⊢;have HBY:=zA (λgw r W (h:WrS W gw L r)=>zUK gw L r W h (by omega))
 have hpl:(qU (vU L)).length≤1000000000:=by
  rw[zCo]
  have:(vU L).length≤L.length+7:=by
   unfold vU;rw[wE2,wM9];omega
  omega
 have HLT:=zA (zLs (vU L));generalize qU (vU L)=B at *;have HST:=zA (λD d W (h:SL W 1 (.slice D B.length d) B.length (zF B)) (hD:D=none→d=0) (hx:Ext w W)=>zOu D B.length d B m0 W h hD HLT.out hpl (uG hm hx));obtain⟨bl,hbl⟩:∃k,B.length=k:=⟨_,rfl⟩
 rw[hbl] at HST HBY;have HS0:=zA hs;clear C1 C2 N1 N2 h1 h2 o1 o2 hs hm hbd hpl hbl hZ
 by_cases hx0:x=0
 ·subst hx0;go_enter func104,ntmps104
  go_wp2_with (first
   | ((with_reducible apply gS 2);refine wBox rfl 44 (.tmp 0) rfl tt rfl ?_;intro w1 g hb1 hx1 hg1)
   | ((with_reducible apply gS 10);refine wLdB rfl 44 (.tmp 2) rfl g rfl hb1 _ underlying44 rfl 34 qG hsz.out ?_)
   | (go_at_call 152;(with_reducible refine (HM.out _ hx1).mono ?_);rintro e w2 ⟨gk,gc1,gc2,rfl,hk2,hc21,hc22,hx2⟩;have hx2':=hx1.trans hx2)
   | ((with_reducible apply gS 6);refine wAlo' rfl (some 6) rfl 197 rfl _ nilPtrK ?_;intro w3 pc hb3 hx3 hg3;have hc3:=hb3.cell 0;have hz3:=hb3.frozen 0;have hx4:Ext w2 (w3.setCell ⟨pc,0,none⟩ (.pointer (some ⟨gk,0,none⟩))):=hx3.setCell hg3 _;have hb4:=hb3.set_ 0 (.pointer (some ⟨gk,0,none⟩)))
   | ((with_reducible apply gS 17);refine zB rfl (.agg #[.slice none 0 0,.int .u64 0,.int .i64 0]) (zOi rfl builtWr) ?_)
   | ((with_reducible apply gS 18);go_must (refine wBox rfl 203 (.tmp 17) rfl #[.slice none 0 0,.int .u64 0,.int .i64 0] rfl ?_;intro w5 gw hb5 hx5 hg5))
   | ((with_reducible apply gS 8);go_must (refine wAlo' rfl (some 8) rfl 200 rfl _ nilPtrW ?_;intro w6 pw hb6 hx6 hg6;have hc6:=hb6.cell 0;have hz6:=hb6.frozen 0;have hb7:=hb6.set_ 0 (.pointer (some ⟨gw,0,none⟩));have hx7:Ext (w3.setCell ⟨pc,0,none⟩ (.pointer (some ⟨gk,0,none⟩))) (w6.setCell ⟨pw,0,none⟩ (.pointer (some ⟨gw,0,none⟩))):=(hx5.trans hx6).setCell (wJ1 hx5.size hg6) _;have hgw:w.heap.size≤gw:=wJ1 (wJ1 hx2'.size hx4.size) hg5;have hw7:Ext w (w6.setCell ⟨pw,0,none⟩ (.pointer (some ⟨gw,0,none⟩))):=(hx2'.trans hx4).trans hx7;have hI7:EncIn pc pw gk gw gc1 gc2 T1 T2 (w3.setCell ⟨pc,0,none⟩ (.pointer (some ⟨gk,0,none⟩))) (w6.setCell ⟨pw,0,none⟩ (.pointer (some ⟨gw,0,none⟩))) [] (λx=>x=gw∨(none:Option Nat)=some x):=⟨hb4,hk2.ext hx4,hc21.ext hx4,hc22.ext hx4,hg5,hx7,hb7,none,(WrS.nil w5 gw hb5).ext (hx6.setCell hg6 _),λx=>Iff.rfl⟩))
   | (go_at_call 145;(with_reducible refine (HEA.out _ _ _ _ _ _ _ _ _ (HS0.out.ext hw7) hI7 (λad e h0 k=>by have:=HSA.out ad e h0;have:=hx2'.size;have:=hx4.size;rcases k with k | k<;>first | omega | cases k)).mono ?_);rintro e w8 ⟨rfl,hu8,F8,hI8,hF8⟩;have hq8:w8.cell? ⟨pw,0,none⟩=some (.pointer (some ⟨gw,0,none⟩)):=hI8.q.cell 0;obtain⟨r8,hr8,hFr8⟩:=hI8.r)
   | (go_at_call 157;(with_reducible refine (HBY.out _ _ _ hr8).mono ?_);rintro e w9 ⟨D,d,rfl,hs9,-,hD9,hu9⟩;have hx9:Ext w w9:=hu9.ext (hu8.ext hw7 (λy k=>k.elim (λe=>e ▸ hgw) (λe=>by cases e))) (λy k=>k.elim (λe=>e ▸ hgw) (λe=>by have:=(hr8.row y e).1;omega)))
   | (go_at_call 35;(with_reducible refine (HST.out _ _ _ hs9 hD9 hx9).mono ?_);rintro e w10 ⟨D10,k10,d10,rfl,h101,h102,h103,hx10⟩))
  refine bodyPost_ret (results_tmp2 rfl _ _ _) rfl ?_;refine⟨hx9.trans hx10, ?_⟩;rw[if_pos rfl];exact⟨D10,k10,d10,rfl,h101,h102,h103⟩
 have hxb:(x !=0)=true:=by simpa using hx0
 have HX0:=zA hx0;clear hx0;go_enter func104,ntmps104
 go_wp2_with (first
  | ((with_reducible apply gS 2);refine wBox rfl 44 (.tmp 0) rfl tt rfl ?_;intro w1 g hb1 hx1 hg1)
  | ((with_reducible apply gS 10);refine wLdB rfl 44 (.tmp 2) rfl g rfl hb1 _ underlying44 rfl 34 qG hsz.out ?_)
  | (go_at_call 152;(with_reducible refine (HM.out _ hx1).mono ?_);rintro e w2 ⟨gk,gc1,gc2,rfl,hk2,hc21,hc22,hx2⟩;have hx2':=hx1.trans hx2)
  | ((with_reducible apply gS 6);refine wAlo' rfl (some 6) rfl 197 rfl _ nilPtrK ?_;intro w3 pc hb3 hx3 hg3;have hc3:=hb3.cell 0;have hz3:=hb3.frozen 0;have hx4:Ext w2 (w3.setCell ⟨pc,0,none⟩ (.pointer (some ⟨gk,0,none⟩))):=hx3.setCell hg3 _;have hb4:=hb3.set_ 0 (.pointer (some ⟨gk,0,none⟩)))
  | ((with_reducible apply gS 17);refine zB rfl (.agg #[.slice none 0 0,.int .u64 0,.int .i64 0]) (zOi rfl builtWr) ?_)
  | ((with_reducible apply gS 18);go_must (refine wBox rfl 203 (.tmp 17) rfl #[.slice none 0 0,.int .u64 0,.int .i64 0] rfl ?_;intro w5 gw hb5 hx5 hg5))
  | ((with_reducible apply gS 8);go_must (refine wAlo' rfl (some 8) rfl 200 rfl _ nilPtrW ?_;intro w6 pw hb6 hx6 hg6;have hc6:=hb6.cell 0;have hz6:=hb6.frozen 0;have hb7:=hb6.set_ 0 (.pointer (some ⟨gw,0,none⟩));have hx7:Ext (w3.setCell ⟨pc,0,none⟩ (.pointer (some ⟨gk,0,none⟩))) (w6.setCell ⟨pw,0,none⟩ (.pointer (some ⟨gw,0,none⟩))):=(hx5.trans hx6).setCell (wJ1 hx5.size hg6) _;have hgw:w.heap.size≤gw:=wJ1 (wJ1 hx2'.size hx4.size) hg5;have hw7:Ext w (w6.setCell ⟨pw,0,none⟩ (.pointer (some ⟨gw,0,none⟩))):=(hx2'.trans hx4).trans hx7;have hI7:EncIn pc pw gk gw gc1 gc2 T1 T2 (w3.setCell ⟨pc,0,none⟩ (.pointer (some ⟨gk,0,none⟩))) (w6.setCell ⟨pw,0,none⟩ (.pointer (some ⟨gw,0,none⟩))) [] (λx=>x=gw∨(none:Option Nat)=some x):=⟨hb4,hk2.ext hx4,hc21.ext hx4,hc22.ext hx4,hg5,hx7,hb7,none,(WrS.nil w5 gw hb5).ext (hx6.setCell hg6 _),λx=>Iff.rfl⟩))
  | (go_at_call 145;(with_reducible refine (HEA.out _ _ _ _ _ _ _ _ _ (HS0.out.ext hw7) hI7 (λad e h0 k=>by have:=HSA.out ad e h0;have:=hx2'.size;have:=hx4.size;rcases k with k | k<;>first | omega | cases k)).mono ?_);rintro e w8 ⟨rfl,hu8,F8,hI8,hF8⟩;have hq8:w8.cell? ⟨pw,0,none⟩=some (.pointer (some ⟨gw,0,none⟩)):=hI8.q.cell 0;obtain⟨r8,hr8,hFr8⟩:=hI8.r))
 refine bodyPost_ret (results_tmp2 rfl _ _ _) rfl ?_;refine⟨hu8.ext hw7 (λy k=>k.elim (λe=>e ▸ hgw) (λe=>by cases e)), ?_⟩;rw[if_neg HX0.out];rfl
end
section
def qJ (n:Nat) (Z:List Int):Int:=if 400<n then 2 else if zR Z (-2047) 2047=false then 1 else 0
attribute [local irreducible] bv yP
end
def yM (n e:Nat):Nat:=if e=0∨n=0 then n else e
def zL (n e:Nat):Nat:=if e=0∨n=0 then 1 else (n+e-1)/e
def zDm {n e:Nat} (h:e=0∨n=0):yM n e=n∧zL n e=1:=by unfold yM zL;rw[if_pos h,if_pos h];exact⟨rfl,rfl⟩
def zFn {n e:Nat} (h:¬(e=0∨n=0)):yM n e=e∧zL n e=(n+e-1)/e:=by unfold yM zL;rw[if_neg h,if_neg h];exact⟨rfl,rfl⟩
def zFi {n e i:Nat} (h:¬(e=0∨n=0)):i<zL n e↔i*e<n:=by
 have he:0<e:=by omega
 rw[(zFn h).2,Nat.lt_div_iff_mul_lt he,wE5];omega
def zEO {n e:Nat}:zL n e≤n+1:=by
 unfold zL;split
 ·omega
 next h =>
 have he:0<e:=by omega
 rw[Nat.div_le_iff_le_mul_add_pred he];have:n≤e*n:=Nat.le_mul_of_pos_left n he;rw[wF9];omega
def zGC {n e i:Nat} (hi:i<zL n e):i*yM n e≤n:=by
 by_cases h:e=0∨n=0
 ·rw[(zDm h).2] at hi;obtain rfl:i=0:=by omega
  simp
 rw[(zFn h).1];exact Nat.le_of_lt ((zFi h).1 hi)
def jG (n e:Nat):Nat→List Int
 | 0=>[]
 | k+1=>jG n e k++[((k*yM n e:Nat):Int),((min (k*yM n e+yM n e) n:Nat):Int)]
def zDu (n e:Nat):∀k,(jG n e k).length=k*2
 | 0=>rfl
 | k+1=>by rw[jG,wE2,zDu n e k];simp;omega
def zEx (n e:Nat):∀(k i:Nat),i<k→((jG n e k).drop (i*2)).take 2=[((i*yM n e:Nat):Int),((min (i*yM n e+yM n e) n:Nat):Int)]
 | 0,i,h=>by omega
 | k+1,i,h=>by
   rw[jG]
   by_cases hk:i=k
   ·subst hk;rw[wF4 (by rw[zDu];omega),wG3 (by rw[zDu];omega)];rfl
   rw[wF4 (by rw[zDu];omega),wF8 (by rw[wE8,zDu];omega)];exact zEx n e k i (by omega)
def partsL (n e:Nat):Nat→List Int
 | 0=>[]
 | k+1=>partsL n e k++[((min (n-k*yM n e) (yM n e):Nat):Int)]
def zAX (i:Nat):List Nat:=if i=0 then [] else [255,208+(i-1)%8]
def yD (n e i:Nat) (Z:List Int):List Int:=(Z.drop (i*yM n e*64)).take (min (n-i*yM n e) (yM n e)*64)
def zAF (T1 T2:List Tok) (n e:Nat) (Z:List Int):Nat→Nat→List Nat→Int×List Nat
 | 0,_,acc=>(0,acc)
 | m+1,i,acc=>if (zDN T1 T2 (min (n-i*yM n e) (yM n e)) (yD n e i Z)).1≠0 then ((zDN T1 T2 (min (n-i*yM n e) (yM n e)) (yD n e i Z)).1,[]) else zAF T1 T2 n e Z m (i+1) (acc++zAX i++(zDN T1 T2 (min (n-i*yM n e) (yM n e)) (yD n e i Z)).2)
def zML {T1 T2:List Tok} {n e:Nat} {Z:List Int} {m i:Nat} {acc:List Nat} {r:Int×List Nat} (hr:zDN T1 T2 (min (n-i*yM n e) (yM n e)) (yD n e i Z)=r) (h:r.1≠0):zAF T1 T2 n e Z (m+1) i acc=(r.1,[]):=by rw[zAF,hr,if_pos h]
def zJF {T1 T2:List Tok} {n e:Nat} {Z:List Int} {m i:Nat} {acc:List Nat} {r:Int×List Nat} (hr:zDN T1 T2 (min (n-i*yM n e) (yM n e)) (yD n e i Z)=r) (h:r.1=0):zAF T1 T2 n e Z (m+1) i acc=zAF T1 T2 n e Z m (i+1) (acc++zAX i++r.2):=by rw[zAF,hr,if_neg (by simp[h])]
def zEA {n e i:Nat} {Z:List Int} (hZ:Z.length=n*64):(yD n e i Z).length=min (n-i*yM n e) (yM n e)*64:=by unfold yD;rw[wF1,wE8,hZ, ←Nat.sub_mul];exact wQ8 (wO9 _ (Nat.min_le_left _ _))
def segR_len {T1 T2:List Tok} (f1:zBg T1) (f2:zBg T2) (n:Nat) (Z:List Int):(zDN T1 T2 n Z).2.length≤1000000000:=by
 unfold zDN;have h:=encZ_bd f1 f2 n Z;generalize (xN (yV T1 T2) n Z []).2=L at *;have h1:=zEr (qU (vU L));rw[zCo] at h1;have h2:(vU L).length≤L.length+8:=by unfold vU;rw[wE2,wM9];omega
 show (yA (qU (vU L))).length≤_
 omega
def zBN (T1 T2:List Tok) (n e:Nat) (Z:List Int):Int×List Nat:=if qJ n Z≠0 then (qJ n Z,[]) else zAF T1 T2 n e Z (zL n e) 0 []
section
def uR (l:List Int) (k:Nat):List Int:=l.set k (wrap64 (l.getD k 0+1))
def yQ (s:List Int×List Int) (t:Tok) (b:Bool):Int×(List Int×List Int):=(0,if b then (uR s.1 t.1.toNat,s.2) else (s.1,uR s.2 t.1.toNat))
def zOT (l:List Int) (k:Nat):(uR l k).length=l.length:=by simp[uR]
structure CntIn (p q gA gB:Nat) (W:World) (s:List Int×List Int) (F:Nat→Prop):Prop where
 hp:Blk W p 22 #[.slice (some ⟨gA,0,none⟩) 256 256]
 hq:Blk W q 22 #[.slice (some ⟨gB,0,none⟩) 256 256]
 ha:Blk W gA 3 (bv s.1)
 hb:Blk W gB 3 (bv s.2)
 la:s.1.length=256
 lb:s.2.length=256
 ne:gA≠gB
 hF:∀x,F x↔x=p∨x=q∨x=gA∨x=gB
def CntIn.keep {p q gA gB:Nat} {W W':World} {s:List Int×List Int} {F T:Nat→Prop} (h:CntIn p q gA gB W s F) (hu:Upd T W W') (hT:∀x,T x→¬F x):CntIn p q gA gB W' s F:=by
 have k:∀x,F x→¬T x:=λx hf ht=>hT x ht hf
 exact⟨hu.blk h.hp (k _ ((h.hF _).2 (.inl rfl))),hu.blk h.hq (k _ ((h.hF _).2 (.inr (.inl rfl)))),hu.blk h.ha (k _ ((h.hF _).2 (.inr (.inr (.inl rfl))))),hu.blk h.hb (k _ ((h.hF _).2 (.inr (.inr (.inr rfl))))),h.la,h.lb,h.ne,h.hF⟩
def zGx:22≠3:=by decide
def CntIn.setA {p q gA gB:Nat} {W:World} {s:List Int×List Int} {F:Nat→Prop} (h:CntIn p q gA gB W s F) (k:Nat) (x:Int):CntIn p q gA gB (W.setCell ⟨gA,k,none⟩ (.int .i64 x)) (s.1.set k x,s.2) F:=by have n1:=h.hp.ne_ h.ha zGx;have n2:=h.hq.ne_ h.ha zGx;have:=h.ha.set_ k (.int .i64 x);rw[zAE] at this;exact⟨h.hp.far (p:=⟨gA,k,none⟩) n1 _,h.hq.far (p:=⟨gA,k,none⟩) n2 _,this,h.hb.far (p:=⟨gA,k,none⟩) h.ne.symm _,by simpa using h.la,h.lb,h.ne,h.hF⟩
def CntIn.setB {p q gA gB:Nat} {W:World} {s:List Int×List Int} {F:Nat→Prop} (h:CntIn p q gA gB W s F) (k:Nat) (x:Int):CntIn p q gA gB (W.setCell ⟨gB,k,none⟩ (.int .i64 x)) (s.1,s.2.set k x) F:=by have n1:=h.hp.ne_ h.hb zGx;have n2:=h.hq.ne_ h.hb zGx;have:=h.hb.set_ k (.int .i64 x);rw[zAE] at this;exact⟨h.hp.far (p:=⟨gB,k,none⟩) n1 _,h.hq.far (p:=⟨gB,k,none⟩) n2 _,h.ha.far (p:=⟨gB,k,none⟩) h.ne _,this,h.la,by simpa using h.lb,h.ne,h.hF⟩
def run_inc (x:Int) (w:World):(binOp .add 3 (.int .i64 x) (.int .i64 1)).run prog w=.ok (.int .i64 (wrap64 (x+1))) w:=by
 have e:IntKind.i64.wrap (x+1)=wrap64 (x+1):=by simp[IntKind.wrap_i64,wrap64]
 go_simp
attribute [local irreducible] bv
def zTb (p q gA gB:Nat) (t:Tok) (b:Bool) (s:List Int×List Int) (F:Nat→Prop) (w:World) (hw:zBJ t) (h:CntIn p q gA gB w s F) :
 Calls prog 146 #[.agg (qN t).toArray,.bool b,.pointer (some ⟨p,0,none⟩),.pointer (some ⟨q,0,none⟩)] w λe w'=>e=.returned (.int .i64 (yQ s t b).1)∧Upd F w w'∧∃F',CntIn p q gA gB w' (yQ s t b).2 F'∧∀x,F' x→F x∨w.heap.size≤x:=by
 obtain⟨t1,t2,t3⟩:=t;obtain⟨h1,h2,-⟩:=hw;dsimp only at h1 h2;obtain⟨m,hm⟩:∃m:Nat,t1=(m:Int):=⟨t1.toNat,by omega⟩
 subst hm;have hm2:m<256:=by omega
 obtain⟨f,r⟩:=s;have hfa:F gA:=(h.hF _).2 (.inr (.inr (.inl rfl)));have hfb:F gB:=(h.hF _).2 (.inr (.inr (.inr rfl)));have HS:Hid (yQ (f,r) ((m:Int),t2,t3) b=(0,if b then (uR f m,r) else (f,uR r m))):=zA (by simp[yQ]);generalize yQ (f,r) ((m:Int),t2,t3) b=R at *
 cases b with
 | true =>
   have hl:m<f.length:=by rw[h.la];exact hm2
   have HF:=zA (show f.getD m 0=f[m] by simp[wH7,hl]);have hm3:(m:Int)<256:=by omega
   go_enter func146,ntmps146
   go_wp2_with (first
    | ((with_reducible apply gS 4);refine wBox rfl 149 (.tmp 0) rfl #[.int .i64 (m:Int),.int .i64 t2,.int .i64 t3] rfl ?_;intro w1 g1 hb1 hx1 hg1;have h1':=h.keep (yG (S:=λ_=>False) hx1) (λ_ k=>k.elim);have q0:w1.cell? ⟨g1,0,none⟩=some (.int .i64 (m:Int)):=hb1.cell 0;have hp1:=(h1'.hp.cell 0).trans (show (#[Value.slice (some ⟨gA,0,none⟩) 256 256]:Array Value)[0]? =some (.slice (some ⟨gA,0,none⟩) 256 256) from rfl);have hc1:w1.cell? ⟨gA,m,none⟩=some (.int .i64 f[m]):=(h1'.ha.cell m).trans (jQ f m hl);have hz1:=h1'.ha.frozen m)
    | ((with_reducible apply gS 13);refine zB rfl (.int .i64 (wrap64 (f[m]+1))) (jO rfl rfl rfl (run_inc _)) ?_))
   go_ret;have hs:=h1'.setA m (wrap64 (f[m]+1));rw[HS.out];refine⟨rfl, ?_,F, ?_,λx k=>.inl k⟩
   ·exact Upd.setCell (S:=F) (yG hx1) (p:=⟨gA,m,none⟩) hfa _
   have e:uR f m=f.set m (wrap64 (f[m]+1)):=by unfold uR;rw[HF.out]
   simp only[if_true,wA6,if_false,e];exact hs
 | false =>
   have hl:m<r.length:=by rw[h.lb];exact hm2
   have HF:=zA (show r.getD m 0=r[m] by simp[wH7,hl]);have hm3:(m:Int)<256:=by omega
   go_enter func146,ntmps146
   go_wp2_with (first
    | ((with_reducible apply gS 4);refine wBox rfl 149 (.tmp 0) rfl #[.int .i64 (m:Int),.int .i64 t2,.int .i64 t3] rfl ?_;intro w1 g1 hb1 hx1 hg1;have h1':=h.keep (yG (S:=λ_=>False) hx1) (λ_ k=>k.elim);have q0:w1.cell? ⟨g1,0,none⟩=some (.int .i64 (m:Int)):=hb1.cell 0;have hp1:=(h1'.hq.cell 0).trans (show (#[Value.slice (some ⟨gB,0,none⟩) 256 256]:Array Value)[0]? =some (.slice (some ⟨gB,0,none⟩) 256 256) from rfl);have hc1:w1.cell? ⟨gB,m,none⟩=some (.int .i64 r[m]):=(h1'.hb.cell m).trans (jQ r m hl);have hz1:=h1'.hb.frozen m)
    | ((with_reducible apply gS 20);refine zB rfl (.int .i64 (wrap64 (r[m]+1))) (jO rfl rfl rfl (run_inc _)) ?_))
   go_ret;have hs:=h1'.setB m (wrap64 (r[m]+1));rw[HS.out];refine⟨rfl, ?_,F, ?_,λx k=>.inl k⟩
   ·exact Upd.setCell (S:=F) (yG hx1) (p:=⟨gB,m,none⟩) hfb _
   have e:uR r m=r.set m (wrap64 (r[m]+1)):=by unfold uR;rw[HF.out]
   simp only[if_true,wA6,if_false,e];exact hs
def goesCnt:zAn prog 146:=⟨_,func146,by kernel_rfl,by kernel_rfl⟩
def countEat (p q gA gB:Nat):Eat 146 #[.pointer (some ⟨p,0,none⟩),.pointer (some ⟨q,0,none⟩)] (CntIn p q gA gB) yQ (λ_=>True) :=
 ⟨goesCnt,λ_ _ _=>trivial,λt b s F W _ hw h=>by simpa using zTb p q gA gB t b s F W hw h,λs F W W' h hx=>h.keep (T:=λ_=>False) (yG hx) (λ_ k=>k.elim),λs F W x h hx=>by
  rcases (h.hF x).1 hx with rfl | rfl | rfl | rfl
  ·exact h.hp.lt
  ·exact h.hq.lt
  ·exact h.ha.lt
  ·exact h.hb.lt⟩
end
section
variable {P:Program} {md:Region.Mode} {ops:Array Oper} {J:Array Bool→Act→World→Prop} {QN:Act→World→Prop}
def count_set (l:Array Bool) (i:Nat) (h:l.getD i true=false):(l.setIfInBounds i true).toList.count false+1=l.toList.count false:=by
 have hi:i<l.size:=by
  rcases wA3 i l.size with h1 | h1
  ·exact h1
  rw[wS9,wA4 h1] at h;cases h
 have h0:l.toList[i]'(by simpa using hi)=false:=by
  rw[wS9,wD9 hi] at h;simpa using h
 rw[wN3];rw[List.count_set (by simpa using hi),h0];have:0<l.toList.count false:=wR4.2 (h0 ▸ wC7 _);simp only[show ((false:Bool) ==false)=true from rfl,show ((true:Bool) ==false)=false from rfl,if_true,wA6,if_false];omega
def zPi (hstep:∀listed a w,J listed a w→∀i∈Region.ready md ops listed,wpOp P ops (xT QN) i (λa' w'=>J (listed.setIfInBounds i true) a' w') a w)
 (hdone:∀listed a w,J listed a w→Region.ready md ops listed=[]→QN a w):∀(f:Nat) (listed:Array Bool) (a:Act) (w:World),listed.toList.count false≤f→J listed a w→wpAny P md ops (xT QN) f listed a w
 | 0,listed,a,w,hf,h=>by
   have hr:Region.ready md ops listed=[]:=by
    cases hq:Region.ready md ops listed with
    | nil=>rfl
    | cons i r =>
      have hi:i∈Region.ready md ops listed:=by rw[hq];simp
      have:=count_set listed i (mem_ready.1 hi).1;omega
   exact⟨hr,hdone _ _ _ h hr⟩
 | f+1,listed,a,w,hf,h=>⟨λh0=>hdone _ _ _ h h0,λi hi=>wpOp_mono (λa' w' h'=>zPi hstep hdone f _ a' w' (by have:=count_set listed i (mem_ready.1 hi).1;omega) h') (hstep _ _ _ h i hi)⟩
def zQQ (J:Array Bool→Act→World→Prop) {id:Nat} {a:Act} {w:World} {l:List Oper} {Q:Exit→Act→World→Prop} (hm:P.follows .mixedOrders=true) (h0:J (Array.replicate l.length false) a w.drew)
 (hstep:∀listed a w,J listed a w→∀i∈Region.ready .any l.toArray listed,wpOp P l.toArray (xT λa w=>Q .normal a w) i (λa' w'=>J (listed.setIfInBounds i true) a' w') a w)
 (hdone:∀listed a w,J listed a w→Region.ready .any l.toArray listed=[]→Q .normal a w):(Code.region id l.toArray true).wp P Q a w:=by
 refine Code.wp_mono (Q:=xT (λa w=>Q .normal a w)) (λe a w h=> ?_) (wp_region_any hm (zPi hstep hdone _ _ _ _ ?_ ?_))
 ·cases e<;>first | exact h | exact (h:False).elim
 ·simp
 simpa using h0
end
section
def z256:List Int:=List.replicate 256 0
def zEU:bv (List.replicate 256 0)=bv z256:=rfl
def zCw:z256.length=256:=wM9
def MadeAt (w0 w:World) (l:Bool) (u:Value):Prop:=l=true→∃g,u=.slice (some ⟨g,0,none⟩) 256 256∧Blk w g 3 (bv z256)∧w0.heap.size≤g
def CellIn (w0 w:World) (l s:Bool) (u v:Value):Prop:=l=true→∃g,u=.pointer (some ⟨g,0,none⟩)∧Blk w g 22 #[if s then v else .slice none 0 0]∧w0.heap.size≤g
def MadeAt.ext {w0 w w':World} {l:Bool} {u:Value} (h:MadeAt w0 w l u) (hx:Ext w w'):MadeAt w0 w' l u:=λe=>by obtain⟨g,h1,h2,h3⟩:=h e;exact⟨g,h1,h2.ext hx,h3⟩
def CellIn.ext {w0 w w':World} {l s:Bool} {u v:Value} (h:CellIn w0 w l s u v) (hx:Ext w w'):CellIn w0 w' l s u v:=λe=>by obtain⟨g,h1,h2,h3⟩:=h e;exact⟨g,h1,h2.ext hx,h3⟩
attribute [local irreducible] bv z256 xN
def zLX (v0 u5 u6 u8 u9:Value):Act:=⟨#[v0,undef,.slice none 0 0,.slice none 0 0,.int .i64 0,u5,u6,undef,u8,u9,undef,undef,undef,undef,undef,undef,undef,undef],[]⟩
def CntJ (w0:World) (v0:Value) (l:Array Bool) (a:Act) (w:World):Prop :=
 ∃b0 b1 b2 b3 b4 b5 u5 u6 u8 u9,l= #[b0,b1,b2,b3,b4,b5]∧a=zLX v0 u5 u6 u8 u9∧Ext w0 w∧MadeAt w0 w b0 u8∧MadeAt w0 w b1 u9∧CellIn w0 w b2 b4 u5 u8∧CellIn w0 w b3 b5 u6 u9 ∧
  (b0=true→b1=true→u8≠u9)∧(b2=true→b3=true→u5≠u6)∧(b4=true→b0=true∧b2=true)∧(b5=true→b1=true∧b3=true)
def MadeAt.ne {w0 w:World} {l:Bool} {u:Value} (h:MadeAt w0 w l u) {g:Nat} (hg:w.heap.size≤g) (hl:l=true):u≠.slice (some ⟨g,0,none⟩) 256 256:=by
 obtain⟨g',rfl,hb,-⟩:=h hl;intro e;injection e with e
 injection e with e
 injection e with e
 have:=hb.lt;omega
def CellIn.ne {w0 w:World} {l s:Bool} {u v:Value} (h:CellIn w0 w l s u v) {g:Nat} (hg:w.heap.size≤g) (hl:l=true):u≠.pointer (some ⟨g,0,none⟩):=by
 obtain⟨g',rfl,hb,-⟩:=h hl;intro e;injection e with e
 injection e with e
 injection e with e
 have:=hb.lt;omega
def zCt {md:Region.Mode} {ops:Array Oper} {l:Array Bool} {i:Nat} {o:Oper} (h:i∈Region.ready md ops l) (ho:ops[i]? =some o):l.getD i true=false∧∀e∈o.after,Region.binds md e=true→l.getD e.on false=true:=by
 obtain⟨h1,o',h2,h3⟩:=mem_ready.1 h;rw[ho] at h2;injection h2 with h2
 subst h2;exact⟨h1,h3⟩
def MadeAt.set {w0 w:World} {l:Bool} {u:Value} (h:MadeAt w0 w l u) {g:Nat} {cs:Array Value} (hb:Blk w g 22 cs) (v:Value):MadeAt w0 (w.setCell ⟨g,0,none⟩ v) l u:=λe=>by
 obtain⟨g',h1,h2,h3⟩:=h e;exact⟨g',h1,h2.far (p:=⟨g,0,none⟩) (hb.ne_ h2 zGx).symm v,h3⟩
def CountsIs (w:World) (r:Int×(List Int×List Int)) (e:Ending) (w':World):Prop :=
 Ext w w'∧if r.1=0 then ∃gA gB,e=.returned (.tuple #[.slice (some ⟨gA,0,none⟩) 256 256,.slice (some ⟨gB,0,none⟩) 256 256,.int .i64 0])∧Blk w' gA 3 (bv r.2.1)∧Blk w' gB 3 (bv r.2.2)∧r.2.1.length=256∧r.2.2.length=256∧w.heap.size≤gA∧w.heap.size≤gB
  else e=.returned (.tuple #[.slice none 0 0,.slice none 0 0,.int .i64 r.1])
def zSn (W:World) (p:Addr) (A:Option Addr) (n c:Nat) (h:W.cell? p=some (.slice A n c)):(Instr.loadAt 22 (.pointer (some p))).run prog W=.ok (.slice A n c) W:=by go_simp
section
variable {o:Oper} {a:Act}
def zPA {x:Operand} (ho:o.op=.load 22 x) {p:Addr} (hx:a.eval x=.pointer (some p)) {A:Option Addr} {n c:Nat} {w:World} (h:w.cell? p=some (.slice A n c)):(execOp a.eval o).run prog w=.ok (.value (.slice A n c)) w:=by simp[execOp,ho,hx,zSn w p A n c h]
end
def nilZero:(prog.info? 22).bind (·.zero)=some (.slice none 0 0):=by kernel_rfl
def zNT (A:Option Addr) (n c:Nat) (Z:List Int) (hZ:Z.length=n*64) (w:World) (hs:SL w 64 (.slice A n c) n (ints Z)) :
 Calls prog 100 #[.slice A n c] w (CountsIs w (xN yQ n Z (z256,z256))):=by
 have hmf:∀(fn:Fn) (first cap:Array Value) (w:World),(Instr.makeFunc fn first cap).run prog w=.ok (.func fn first cap) w:=λ_ _ _ _=>rfl
 go_enter func100,ntmps100;go_upto_region 1 with fail
 refine zQQ (CntJ w (.slice A n c)) (by kernel_rfl) ?_ ?_ ?_
 ·exact⟨false,false,false,false,false,false,undef,undef,undef,undef,rfl,rfl,(Ext.refl w).drew,(λh=>by cases h),(λh=>by cases h),(λh=>by cases h),(λh=>by cases h),(λh=>by cases h),(λh=>by cases h),(λh=>by cases h),(λh=>by cases h)⟩
 ·rintro l a w1 ⟨b0,b1,b2,b3,b4,b5,u5,u6,u8,u9,rfl,rfl,hx,h8,h9,h5,h6,d8,d5,k4,k5⟩ i hi
  have hi6:i=0∨i=1∨i=2∨i=3∨i=4∨i=5:=by
   obtain⟨h1,o,ho,-⟩:=mem_ready.1 hi
   have:i<6:=by
    rcases wA3 i 6 with h | h
    ·exact h
    rw[wA4 (by simpa using h)] at ho;cases ho
   omega
  unfold zLX;rcases hi6 with rfl | rfl | rfl | rfl | rfl | rfl
  ·have r:=(zCt hi rfl).1;have r0:b0=false:=r;subst r0;have r4:b4=false:=by cases b4 with | false=>rfl | true=>exact absurd (k4 rfl).1 (by simp)
   subst r4;refine vK rfl ?_;refine uH rfl (some 8) rfl _ _ rfl 256 (by omega) rfl rfl ?_;intro w2 g hb hx2 hg;rw[zEU] at hb;exact⟨true,b1,b2,b3,false,b5,u5,u6,_,u9,rfl,rfl,hx.trans hx2,λ_=>⟨g,rfl,hb,by have:=hx.size;omega⟩,h9.ext hx2,h5.ext hx2,h6.ext hx2,λ_ e=>(h9.ne hg e).symm,d5,(λe=>by cases e),k5⟩
  ·have r1:b1=false:=(zCt hi rfl).1;subst r1;have r5:b5=false:=by cases b5 with | false=>rfl | true=>exact absurd (k5 rfl).1 (by simp)
   subst r5;refine vK rfl ?_;refine uH rfl (some 9) rfl _ _ rfl 256 (by omega) rfl rfl ?_;intro w2 g hb hx2 hg;rw[zEU] at hb;exact⟨b0,true,b2,b3,b4,false,u5,u6,u8,_,rfl,rfl,hx.trans hx2,h8.ext hx2,λ_=>⟨g,rfl,hb,by have:=hx.size;omega⟩,h5.ext hx2,h6.ext hx2,λe _=>h8.ne hg e,d5,k4,λe=>by cases e⟩
  ·have r2:b2=false:=(zCt hi rfl).1;subst r2;have r4:b4=false:=by cases b4 with | false=>rfl | true=>exact absurd (k4 rfl).2 (by simp)
   subst r4;refine vK rfl ?_;refine wAlo' rfl (some 5) rfl 22 rfl _ nilZero ?_;intro w2 g hb hx2 hg;exact⟨b0,b1,true,b3,false,b5,_,u6,u8,u9,rfl,rfl,hx.trans hx2,h8.ext hx2,h9.ext hx2,λ_=>⟨g,rfl,hb,by have:=hx.size;omega⟩,h6.ext hx2,d8,λ_ e=>(h6.ne hg e).symm,(λe=>by cases e),k5⟩
  ·have r3:b3=false:=(zCt hi rfl).1;subst r3;have r5:b5=false:=by cases b5 with | false=>rfl | true=>exact absurd (k5 rfl).2 (by simp)
   subst r5;refine vK rfl ?_;refine wAlo' rfl (some 6) rfl 22 rfl _ nilZero ?_;intro w2 g hb hx2 hg;exact⟨b0,b1,b2,true,b4,false,u5,_,u8,u9,rfl,rfl,hx.trans hx2,h8.ext hx2,h9.ext hx2,h5.ext hx2,λ_=>⟨g,rfl,hb,by have:=hx.size;omega⟩,d8,λe _=>h5.ne hg e,k4,λe=>by cases e⟩
  ·have r4:b4=false:=(zCt hi rfl).1;subst r4;have e:=(zCt hi rfl).2;simp[Region.binds] at e;obtain⟨-,r0,r2,r3⟩:=e;subst r0 r2 r3;obtain⟨g5,rfl,hb5,hl5⟩:=h5 rfl;obtain⟨g8,rfl,hb8,hl8⟩:=h8 rfl;simp only[wA6,if_false] at hb5;have hc:w1.cell? ⟨g5,0,none⟩=some (.slice none 0 0):=hb5.cell 0;have hz:=hb5.frozen 0;refine vK rfl ?_;go_wp2_with fail;obtain⟨g6,rfl,hb6,hl6⟩:=h6 rfl;have hne:g6≠g5:=λe=>d5 trivial trivial (by rw[e])
   exact⟨true,b1,true,true,true,b5,_,_,_,u9,rfl,rfl,hx.setCell hl5 _,h8.set hb5 _,h9.set hb5 _,λ_=>⟨g5,rfl,hb5.set_ 0 _,hl5⟩,λ_=>⟨g6,rfl,hb6.far (p:=⟨g5,0,none⟩) hne _,hl6⟩,λ_=>d8 trivial,λ_ _=>d5 trivial trivial,λ_=>⟨rfl,rfl⟩,λe=>⟨(k5 e).1,rfl⟩⟩
  have r5:b5=false:=(zCt hi rfl).1;subst r5;have e:=(zCt hi rfl).2;simp[Region.binds] at e;have e1:b1=true:=by simp_all
  have e3:b3=true:=by simp_all
  have e2:b2=true:=by simp_all
  subst e1 e2 e3;obtain⟨g6,rfl,hb6,hl6⟩:=h6 rfl;obtain⟨g9,rfl,hb9,hl9⟩:=h9 rfl;simp only[wA6,if_false] at hb6;have hc:w1.cell? ⟨g6,0,none⟩=some (.slice none 0 0):=hb6.cell 0;have hz:=hb6.frozen 0;clear e;refine vK rfl ?_;go_wp2_with fail;obtain⟨g5,rfl,hb5,hl5⟩:=h5 rfl;have hne:g5≠g6:=λe=>d5 trivial trivial (by rw[e])
  exact⟨b0,true,true,true,b4,true,_,_,u8,_,rfl,rfl,hx.setCell hl6 _,h8.set hb6 _,h9.set hb6 _,λ_=>⟨g5,rfl,hb5.far (p:=⟨g6,0,none⟩) hne _,hl5⟩,λ_=>⟨g6,rfl,hb6.set_ 0 _,hl6⟩,λe _=>d8 e trivial,λ_ _=>d5 trivial trivial,λe=>⟨(k4 e).1,rfl⟩,λ_=>⟨rfl,rfl⟩⟩
 rintro l a w1 ⟨b0,b1,b2,b3,b4,b5,u5,u6,u8,u9,rfl,rfl,hx,h8,h9,h5,h6,d8,d5,k4,k5⟩ hr;have no:∀i,¬i∈Region.ready .any _ #[b0,b1,b2,b3,b4,b5]:=λi hi=>by rw[hr] at hi;cases hi
 have r0:b0=true:=by
  cases b0 with
  | true=>rfl
  | false=>exact absurd (mem_ready.2 ⟨rfl,_,rfl,by simp⟩) (no 0)
 have r1:b1=true:=by
  cases b1 with
  | true=>rfl
  | false=>exact absurd (mem_ready.2 ⟨rfl,_,rfl,by simp⟩) (no 1)
 have r2:b2=true:=by
  cases b2 with
  | true=>rfl
  | false=>exact absurd (mem_ready.2 ⟨rfl,_,rfl,by simp⟩) (no 2)
 have r3:b3=true:=by
  cases b3 with
  | true=>rfl
  | false=>exact absurd (mem_ready.2 ⟨rfl,_,rfl,by simp⟩) (no 3)
 subst r0 r1 r2 r3
 have r4:b4=true:=by
  cases b4 with
  | true=>rfl
  | false=>exact absurd (mem_ready.2 ⟨rfl,_,rfl,by simp[Region.binds]⟩) (no 4)
 subst r4
 have r5:b5=true:=by
  cases b5 with
  | true=>rfl
  | false=>exact absurd (mem_ready.2 ⟨rfl,_,rfl,by simp[Region.binds]⟩) (no 5)
 subst r5;obtain⟨gA,rfl,hbA,hlA⟩:=h8 rfl;obtain⟨gB,rfl,hbB,hlB⟩:=h9 rfl;obtain⟨p,rfl,hbp,hlp⟩:=h5 rfl;obtain⟨q,rfl,hbq,hlq⟩:=h6 rfl;simp only[if_true] at hbp hbq;have hI:CntIn p q gA gB w1 (z256,z256) (λx=>x=p∨x=q∨x=gA∨x=gB):=⟨hbp,hbq,hbA,hbB,zCw,zCw,λe=>d8 rfl rfl (by rw[e]),λx=>Iff.rfl⟩
 have hs1:=hs.ext hx
 have HE:=zA (zSa (countEat p q gA gB) A n c Z hZ w1 hs1 (z256,z256) _ hI (λad e h0 k=>by
  obtain⟨A',c',e2,-,-,-,h5⟩:=hs;injection e2 with e3 _ _
  subst e3;obtain⟨ad',e4,h6,-⟩:=h5 h0;rw[e] at e4;injection e4 with e4
  subst e4
  omega) trivial)
 unfold EachIs at HE;generalize xN yQ n Z (z256,z256)=R at *;obtain⟨x,s⟩:=R;dsimp only at HE;unfold zLX;clear hbA hbB hbp hbq hI hs hs1 h8 h9 h5 h6 d8 d5 k4 k5 hr no hZ
 by_cases hx0:x=0
 ·subst hx0;obtain⟨f,r⟩:=s;go_upto_region 5 with (go_at_call 145;(with_reducible refine (HE.out).mono ?_);rintro e w3 ⟨rfl,hu3,F',hI3,-⟩)
  have hI4:CntIn p q gA gB w3.drew (f,r) F':=hI3.keep (T:=λ_=>False) (Upd.refl _ _).drew (λ_ k=>k.elim);refine xU qM (by kernel_rfl) (by kernel_rfl) ?_;refine xA (by rfl) (.slice (some ⟨gA,0,none⟩) 256 256) (λW hW=>zPA rfl rfl ((hI4.hp.ext hW).cell 0)) ?_;simp only[sP,sB,sC];refine xA (by rfl) (.slice (some ⟨gB,0,none⟩) 256 256) (λW hW=>zPA rfl rfl ((hI4.hq.ext hW).cell 0)) ?_;simp only[sP,sB,sC];refine zE (by rfl) (.slice (some ⟨gA,0,none⟩) 256 256) (zW rfl rfl) ?_;simp only[sP,sB,sC];refine zE (by rfl) (.slice (some ⟨gB,0,none⟩) 256 256) (zW rfl rfl) ?_;simp only[sP,sB,sC];refine zE (by rfl) (.int .i64 0) (zW rfl rfl) ?_;simp only[sP,sB,sC];refine jU ?_;intro w5 hx5;go_wp2_with fail;refine bodyPost_ret (results_tmp3 rfl _ _ _) rfl ?_;have hx3:Ext w w3.drew:=(hu3.ext hx (λy k=>by rcases k with rfl | rfl | rfl | rfl<;>assumption)).drew;refine⟨hx3.trans hx5, ?_⟩;rw[if_pos rfl];exact⟨gA,gB,rfl,hI4.ha.ext hx5,hI4.hb.ext hx5,hI4.la,hI4.lb,by assumption,by assumption⟩
 have hxb:(x !=0)=true:=by simpa using hx0
 have HX:=zA hx0;clear hx0;go_wp2_with (go_at_call 145;(with_reducible refine (HE.out).mono ?_);rintro e w3 ⟨rfl,hu3,-⟩)
 refine bodyPost_ret (results_tmp3 rfl _ _ _) rfl ?_;refine⟨hu3.ext hx (λy k=>by rcases k with rfl | rfl | rfl | rfl<;>assumption), ?_⟩;rw[if_neg HX.out];rfl
end
def zAw (a b:List Int):List Int:=List.zipWith (λx y=>wrap64 (x+y)) a b
def zCj (a b:List Int) (i:Nat):List Int:=(zAw a b).take i++a.drop i
def zBI {a b:List Int} (h:b.length=a.length):(zAw a b).length=a.length:=by simp[zAw,h]
def zOZ (a b:List Int):zCj a b 0=a:=by simp[zCj]
def zRB {a b:List Int} {n:Nat} (h:b.length=a.length) (hn:a.length=n):zCj a b n=zAw a b:=by unfold zCj;rw[wC2 (by rw[zBI h];omega),wG3 (by omega),wG9]
def zSj {a b:List Int} (h:b.length=a.length) (i:Nat):(zCj a b i).length=a.length:=by unfold zCj;rw[wE2,wF1,wE8,zBI h];omega
def mixW_at {a b:List Int} (h:b.length=a.length) {i:Nat} (hi:i<a.length):(zCj a b i)[i]? =some a[i]:=by unfold zCj;rw[wH9 (by rw[wF1];omega),wF1,zBI h,wQ8 (by omega),wL5,wB4,Nat.add_zero,wA2 hi]
def zRW {a b:List Int} (h:b.length=a.length) {i:Nat} (hi:i<a.length):(zCj a b i).set i (wrap64 (a[i]+b[i]'(by omega)))=zCj a b (i+1):=by
 have hl:((zAw a b).take i).length=i:=by rw[wF1,zBI h];omega
 unfold zCj;rw[wL4 _ _ (by omega),hl,wL5,wH0 hi,wJ9,wC1 (by rw[zBI h];exact hi),wI7];simp[zAw]
def xJ (n e:Nat) (Z:List Int):Nat→List Int×List Int
 | 0=>(z256,z256)
 | k+1=>(zAw (xJ n e Z k).1 (xN yQ (min (n-k*yM n e) (yM n e)) (yD n e k Z) (z256,z256)).2.1,zAw (xJ n e Z k).2 (xN yQ (min (n-k*yM n e) (yM n e)) (yD n e k Z) (z256,z256)).2.2)
def zSC:∀(l:List (Tok×Bool)) (s:List Int×List Int),(qB yQ l s).1=0
 | [],_=>rfl
 | (_,_)::r,_=>by rw[zBC rfl];exact zSC r _
def cntE (n:Nat) (Z:List Int) (s:List Int×List Int):(xN yQ n Z s).1=qJ n Z:=by
 unfold xN qJ;split
 ·rfl
 split
 ·rfl
 exact zSC _ _
def zCh {n:Nat} {Z:List Int}:qJ n Z=0↔n≤400∧∀z∈Z,-2047≤z∧z≤2047:=by
 unfold qJ;constructor
 ·intro h
  by_cases h1:400<n
  ·rw[if_pos h1] at h;cases h
  rw[if_neg h1] at h
  cases h2:zR Z (-2047) 2047 with
  | false=>rw[h2] at h;cases h
  | true=>exact⟨by omega,yJ.1 h2⟩
 rintro⟨h1,h2⟩;rw[if_neg (by omega),yJ.2 h2];rfl
def piece_mem {n e i:Nat} {Z:List Int} {z:Int} (h:z∈yD n e i Z):z∈Z:=wM7 (wH6 h)
def zHH {n e i:Nat} {Z:List Int} (h:qJ n Z=0):qJ (min (n-i*yM n e) (yM n e)) (yD n e i Z)=0:=by obtain⟨h1,h2⟩:=zCh.1 h;exact zCh.2 ⟨by omega,λz hz=>h2 z (piece_mem hz)⟩
