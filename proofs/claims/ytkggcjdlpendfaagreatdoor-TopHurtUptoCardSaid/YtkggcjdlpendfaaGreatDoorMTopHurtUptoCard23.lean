import Derived.Test.YtkggcjdlpendfaaGreatDoorMTopHurtUptoCard22
set_option linter.all false
set_option maxRecDepth 20000
set_option maxHeartbeats 8000000
namespace Go.Proofs.YtkggcjdlpendfaaGreatDoor
open Go.RowKit Tryz
def zND {α:Type} (F:Nat→List α) (m:Nat):(List.range (m+1)).flatMap F=(List.range m).flatMap F++F m:=by rw[wG5,wP1,wG2,wG8,wG9]
def mend_hurt {T1 T2:List Tok} {n e:Nat} {Z:List Int} (x:Nat→List Nat) (k:Nat) (y:List Nat)
 (hp:∀j,j<zL n e→vQ true T1 T2 ((yT n e j:Nat):Int) (plZ (x j))=(0,yD n e j Z)) :
 ∃(X:List Int) (bad:Bool),X.length=yT n e k*64∧∀m,m≤zL n e→vG T1 T2 n e ((List.range (zL n e)).map λj=>if j=k then y else x j) m=((List.range m).flatMap (λi=>if i=k then X else yD n e i Z),if bad=true∧k<m then [(k:Int)] else []):=by
 generalize hP:(List.range (zL n e)).map (λj=>if j=k then y else x j)=P;refine⟨zBh T1 T2 n e P k,decide ((uQ T1 T2 n e P k).1≠0),zJn,λm=> ?_⟩
 induction m with
 | zero =>
   intro _;rw[if_neg (by omega)];rfl
 | succ m ih =>
   intro hm;have ih:=ih (by omega);rw[zND]
   by_cases hk:m=k
   ·subst hk;rw[if_neg (by omega)] at ih;rw[if_pos rfl]
    by_cases h0:(uQ T1 T2 n e P m).1=0
    ·rw[zLp rfl h0,ih,if_neg (by simp[h0]),zBh,if_pos h0]
    rw[zPl rfl h0,ih,if_pos ⟨by simp[h0],by omega⟩,zBh,if_neg h0];rfl
   have hg:P.getD m []=x m:=by
    rw[←hP,wH7,wB9,wO7 (by omega)];simp[hk]
   have hl:m<P.length:=by rw[←hP,wQ9,wU1];omega
   have ha:uQ T1 T2 n e P m=(0,yD n e m Z):=by
    unfold uQ;rw[if_pos hl,hg,hp m (by omega)]
   rw[zLp ha rfl,ih,if_neg hk];congr 1
   by_cases hb:decide ((uQ T1 T2 n e P k).1≠0)=true∧k<m
   ·rw[if_pos hb,if_pos ⟨hb.1,by omega⟩]
   rw[if_neg hb,if_neg (λh=>hb ⟨h.1,by omega⟩)]
def zLo (F:Nat→List Int) (n e:Nat) (hF:∀i,i<zL n e→(F i).length=yT n e i*64):∀m,m≤zL n e →
 ((List.range m).flatMap F).length=atK n e m*64∧∀i,i<m→∀t,t<yT n e i*64→((List.range m).flatMap F).getD (atK n e i*64+t) 0=(F i).getD t 0
 | 0,_=>⟨by rw[zHU];rfl,λi h=>by omega⟩
 | m+1,h=>by
   obtain⟨h1,h2⟩:=zLo F n e hF m (by omega);have hs:=zBG (n:=n) (e:=e) (i:=m) (by omega);have hf:=hF m (by omega);rw[zND];refine⟨by rw[wE2,h1,hf,hs,wE3],λi hi t ht=> ?_⟩
   by_cases e1:i=m
   ·subst e1;rw[wH7,wH9 (by omega),h1,wP6, ←wH7]
   have hle:atK n e i*64+t<atK n e m*64:=by
    have hs2:=zBG (n:=n) (e:=e) (i:=i) (by omega)
    have hm:atK n e (i+1)≤atK n e m:=by
     unfold atK;have:=wO9 (yM n e) (show i+1≤m by omega);omega
    rw[hs2] at hm;generalize atK n e i=u at *;generalize atK n e m=v at *;generalize yT n e i=r at *;omega
   rw[wH7,wH4 (by omega), ←wH7];exact h2 i (by omega) t ht
def zUs {n e:Nat} (he:1≤e) {Z X:List Int} (hZ:Z.length=n*64) {k:Nat} (hX:X.length=yT n e k*64) {j:Nat} (hj:j<n) (hk:j/e≠k) :
 qF ((List.range (zL n e)).flatMap (λi=>if i=k then X else yD n e i Z)) j=qF Z j:=by
 have hne:¬(e=0∨n=0):=by omega
 obtain⟨i,hi⟩:∃i,j/e=i:=⟨_,rfl⟩
 have hm:=wP3 j e;have hr:=wN6 j (show 0<e by omega);rw[hi] at hm hk;rw[wE5] at hm;have hik:i<zL n e:=(zFi hne).2 (by omega);have hsp:=(zFn hne).1
 have hF:∀i,i<zL n e→(if i=k then X else yD n e i Z).length=yT n e i*64:=λi _=>by
  by_cases h:i=k
  ·subst h;rw[if_pos rfl];exact hX
  rw[if_neg h];exact zEA hZ
 obtain⟨f1,f2⟩:=zLo _ n e hF (zL n e) (wA5 _);rw[zDj] at f1;have hat:atK n e i=i*e:=by unfold atK;rw[hsp];omega
 have hlt:j%e<yT n e i:=by unfold yT;rw[hsp];omega
 refine ext64 (by unfold qF;rw[wF1,wE8,f1];omega) (by unfold qF;rw[wF1,wE8,hZ];omega) λt ht=> ?_
 rw[←zJw _ _ _ ht, ←zJw _ _ _ ht];have h3:=f2 i hik (j%e*64+t) (by omega);rw[hat,if_neg hk] at h3;have e1:i*e*64+(j%e*64+t)=j*64+t:=by omega
 rw[e1] at h3;rw[h3];have hl2:yT n e i=min (n-i*yM n e) (yM n e):=rfl;unfold yD;rw[←hl2,hsp,wH7,wB8 (by omega),wB4,e1, ←wH7]
def zRl (q X:List Int) (wd hi x y:Nat) (hX:X.length=zT wd hi*64) (h1:1≤wd) (hx:x<wd) (hy:y<hi):y/8*((wd+7)/8)+x/8<zT wd hi ∧
 (zAB q X wd hi 0).getD (y*wd+x) 0=jY ((shB (qF X (y/8*((wd+7)/8)+x/8)) q).getD (y%8*8+x%8) 0+128) 0 255:=by
 have hj:y/8*((wd+7)/8)+x/8<zT wd hi:=by
  have a1:x/8<(wd+7)/8:=by omega
  have a2:y/8+1≤(hi+7)/8:=by omega
  have a3:=wJ2 ((wd+7)/8) a2;unfold zT;rw[Nat.mul_succ,wE5] at a3;omega
 have hp:y*wd+x<wd*hi:=by
  have:=wO9 wd (show y+1≤hi by omega);rw[wS5,wE5 hi] at this;omega
 have hd:(y*wd+x)/wd=y∧(y*wd+x)%wd=x:=by
  rw[wE5,Nat.mul_add_div (by omega),wF0 hx,Nat.mul_add_mod,wE6 hx];exact⟨rfl,rfl⟩
 refine⟨hj, ?_⟩
 have hs:sect X (zT wd hi) 0=X:=by
  unfold sect;rw[wS0,wS0,wK2,wC2 (by rw[hX];exact wA5 _)]
 unfold zAB zIE;rw[hs,wH7,wB9,wO7 hp];simp only[Option.map_some,wN0];rw[hd.1,hd.2];unfold zMR zEZ;rw[zJw _ _ _ (by omega),zOo _ _ _ _ hj]
def zVB (q:List Int) {wd hi e:Nat} (he:1≤e) (h1:1≤wd) {Z X:List Int} (hZ:Z.length=zT wd hi*64) {k:Nat} (hX:X.length=yT (zT wd hi) e k*64) (t:Nat) (ht:t<wd*hi) (hk:(t/wd/8*((wd+7)/8)+t%wd/8)/e≠k) :
 (zAB q ((List.range (zL (zT wd hi) e)).flatMap (λi=>if i=k then X else yD (zT wd hi) e i Z)) wd hi 0).getD t 0=(zAB q Z wd hi 0).getD t 0:=by
 have hx:=wN6 t (show 0<wd by omega);have hy:t/wd<hi:=wP5 ht;have et:t/wd*wd+t%wd=t:=by rw[wE5];exact wP3 t wd
 have hF:∀i,i<zL (zT wd hi) e→(if i=k then X else yD (zT wd hi) e i Z).length=yT (zT wd hi) e i*64:=λi _=>by
  by_cases h:i=k
  ·subst h;rw[if_pos rfl];exact hX
  rw[if_neg h];exact zEA hZ
 have hL:=(zLo _ (zT wd hi) e hF (zL (zT wd hi) e) (wA5 _)).1;rw[zDj] at hL;obtain⟨hj,e1⟩:=zRl q _ wd hi (t%wd) (t/wd) hL h1 hx hy;obtain⟨-,e2⟩:=zRl q Z wd hi (t%wd) (t/wd) hZ h1 hx hy;rw[et] at e1 e2;rw[e1,e2,zUs he hZ hX hj hk]
def light_of {wd hi:Int} {xs q:List Int} (h:(zO wd hi [xs] q).1=0):∃a b:Nat,wd=a∧hi=b∧1≤a∧a≤64∧1≤b∧b≤64∧xs.length=a*b∧zR xs 0 255=true∧zR q 1 255=true:=by
 unfold zO at h
 by_cases hp:zDM wd hi [xs]=0
 ·rw[if_pos hp] at h
  cases hq:zR q 1 255 with
  | false=>rw[hq,if_neg (by simp)] at h;cases h
  | true =>
    unfold zDM at hp
    by_cases h0:xX wd hi=0
    ·rw[if_pos h0,if_pos (.inl rfl)] at hp;obtain⟨a,b,rfl,rfl,a1,a2,b1,b2⟩:=zGE h0;have he:=zGt _ hp (zAD xs a b) (by simp);rcases zEt xs a b with ⟨-,hE⟩ | ⟨a',b',ea,eb,-,-,-,-,-,⟨hl',hE⟩ | ⟨hl',hq,hE⟩ | ⟨hl',hq',hE⟩⟩
     ·rw[hE] at he;cases he
     ·rw[hE] at he;cases he
     ·rw[hE] at he;cases he
     obtain rfl:a=a':=by omega
     obtain rfl:b=b':=by omega
     exact⟨a,b,rfl,rfl,a1,a2,b1,b2,hl',hq',rfl⟩
    rw[if_neg h0] at hp;cases hp
 rw[if_neg hp] at h;exact absurd h hp
def cutZ_rng {xs:List Int} (hv:zR xs 0 255=true) (a b:Nat):∀z∈zBD xs a b,-128≤z∧z≤127:=by
 intro z hz;unfold zBD at hz;obtain⟨j,-,rfl⟩:=wD2.1 hz;unfold zKU;rw[wH7]
 cases h:xs[min (j/64/((a+7)/8)*8+j%64/8) (b-1)*a+min (j/64%((a+7)/8)*8+j%64%8) (a-1)]? with
 | none=>simp
 | some x =>
   have:=yJ.1 hv x (wM8 h);simp only[wN0];omega
structure HurtOk (F:FC) (q:List Int) (a b e:Nat) (Z:List Int) (x:Nat→List Nat):Prop where
 thru:Thru F q a b e Z
 data:F.data=jA x 0 (zL (zT a b) e)
 lt:∀j,∀y∈x j,y<256
 len:Z.length=zT a b*64
 tight:∀(k:Nat) (y:List Nat),y.length≤40000→(jA (zDC x k y) 0 (zL (zT a b) e)).length≤90000
 back:∀j,j<zL (zT a b) e→vQ true (zH (zC F.cs1 16) F.xs1) (zH (zC F.cs2 16) F.xs2) ((yT (zT a b) e j:Nat):Int) (plZ (yA (x j)))=(0,yD (zT a b) e j Z)
def hurt_ok {wd hi:Int} {xs q:List Int} (hq:q.length=64) {e:Nat} (he1:1≤e) (he:e≤100) {F:FC} (h:zDP wd hi [xs] q (e:Int) 0 F) :
 ∃a b:Nat,wd=a∧hi=b∧1≤a∧a≤64∧1≤b∧b≤64∧xs.length=a*b∧∃Z x,HurtOk F q a b e Z x:=by
 obtain⟨hE,-,cs1,xs1,cs2,xs2,l1,l2,z1,z2,m1,m2,hs,hF⟩:=enc_good hq h;obtain⟨a,b,rfl,rfl,a1,a2,b1,b2,hx,hv,hq1⟩:=light_of hE;obtain⟨-,hT⟩:=zTn a1 a2 b1 b2 hx hv hq hq1 he h;have hbe:=zLg a b [xs] q;rw[zMS xs q a b a1 a2 b1 b2 hx hv hq1] at m1 m2 hs hF hbe;dsimp only at m1 m2 hs hF hbe;have hZ:(zAa q (zBD xs a b) (zT a b)).length=zT a b*64:=zEN q _ hq _;have hn:=zBx a2 b2
 have hen:∀k,k<zT a b→uV (yP (zAa q (zBD xs a b) (zT a b)) k)≤1057500:=λk hk=>by
  have e1:yP (zAa q (zBD xs a b) (zT a b)) k=blkF (qF (zBD xs a b) k) q:=zPB q _ hq _ k hk;rw[e1];exact zUn _ q (λz hz=>cutZ_rng hv a b z (zEv (k:=k) hz)) (zGL _ (zT a b) k (zFl xs a b) hk) hq hq1
 generalize zAa q (zBD xs a b) (zT a b)=Z at *;obtain⟨hd,hok,-⟩:=zGM l1 l2 z1 z2 hZ hs;have ht:=zVG he1 hn hbe hen l1 l2 z1 z2 m1 m2 hok;refine⟨a,b,rfl,rfl,a1,a2,b1,b2,hx,Z,zCC (zH (zC cs1 16) xs1) (zH (zC cs2 16) xs2) (zT a b) e Z,⟨hT, ?_, ?_,hZ, ?_, ?_⟩⟩
 ·rw[hF];exact hd
 ·intro j y hy;unfold zCC at hy;exact zLs _ y hy
 ·intro k y hy;have h1:=zOe (zDC (zCC (zH (zC cs1 16) xs1) (zH (zC cs2 16) xs2) (zT a b) e Z) k y) (zL (zT a b) e);have h2:=zPH (zCC (zH (zC cs1 16) xs1) (zH (zC cs2 16) xs2) (zT a b) e Z) k y (zL (zT a b) e);have h3:=zEr y;split at h2<;>omega
 intro j hj;rw[hF];exact zNR l1 l2 z1 z2 hZ (hok j hj)
def fc_chk {F:FC} (h:F.chk=0) (D:List Nat) (hD:D.length≤90000):FC.chk { F with data:=D }=0:=by
 unfold FC.chk at h ⊢;dsimp only at h ⊢;unfold zDI at h ⊢
 by_cases h1:(zCa F.wd F.hi F.pt F.ev&&zR F.qs 1 255)=true
 ·rw[if_pos h1] at h ⊢
  by_cases h2:zQ F.cs1 F.xs1=0
  ·rw[if_pos h2] at h ⊢
   by_cases h3:zQ F.cs2 F.xs2=0
   ·rw[if_pos h3,if_neg (by omega)]
   rw[if_neg h3] at h;exact absurd h h3
  rw[if_neg h2] at h;exact absurd h h2
 rw[if_neg h1] at h;cases h
def zIv (n e:Nat):List Nat:=(List.range' 1 (zL n e-1)).map λj=>208+(j-1)%8
def zMB (x:Nat→List Nat) (n e:Nat):xW (jA x 0 (zL n e)) [] [] []=some ((List.range (zL n e)).map (λj=>yA (x j)),zIv n e):=by have hK:=zHm n e;have:=zPo x (zL n e-1);rw[show zL n e-1+1=zL n e by omega] at this;exact this
def hurt_mend {F:FC} {q:List Int} {a b e:Nat} {Z:List Int} {x:Nat→List Nat} (H:HurtOk F q a b e Z x) (he:1≤e) (a1:1≤a) (k:Nat) (hk:k<zL (zT a b) e) (y:List Nat) :
 ∃X Y,vG (zH (zC F.cs1 16) F.xs1) (zH (zC F.cs2 16) F.xs2) (zT a b*1) e ((List.range (zL (zT a b) e)).map λj=>yA (zDC x k y j)) (zL (zT a b*1) e)=(X,Y)∧(Y=[]∨Y=[(k:Int)]) ∧
  ∀t,t<a*b→(t/a/8*((a+7)/8)+t%a/8)/e≠k→(zAB q X a b 0).getD t 0=(zAB q Z a b 0).getD t 0:=by
 obtain⟨X,bad,hX,hm⟩:=mend_hurt (λj=>yA (x j)) k (yA y) H.back;have h1:=hm (zL (zT a b) e) (wA5 _)
 have e1:((List.range (zL (zT a b) e)).map λj=>yA (zDC x k y j))=(List.range (zL (zT a b) e)).map λj=>if j=k then yA y else yA (x j):=wF7 λj _=>by
  unfold zDC;split<;>rfl
 rw[wD8,e1,h1];refine⟨_,_,rfl, ?_,λt ht hb=>zVB q he a1 H.len hX t ht hb⟩;split
 ·exact .inr rfl
 exact .inl rfl
section
def dec_far {q:List Int} {a b e:Nat} {Z:List Int} {F:FC} (hT:Thru F q a b e Z) {s1 s2:Value} {A:Option Addr} {n c:Nat} (hn:F.data.length=n) {m0:Int} {w:World} (hm:w.cell? ⟨0,0,none⟩=some (.int .i64 m0)) (ha:F.at_ w s1 s2 (.slice A n c)) :
 Calls prog 27 #[.agg (F.cells s1 s2 (.slice A n c))] w λen w'=>∃B d,en=.returned (.tuple #[.agg (yX a b (.slice B 1 d)),.int .i64 0])∧RowsF w' w.heap.size B 1 d [zAB q Z a b 0]∧Ext w w':=by
 have C1:=λW (h:Ext w W)=>F.check hT.shaped s1 s2 (.slice A n c) W (ha.ext h)
 have hz:=hT.chk;rw[hz] at C1;obtain⟨a',b',p',ea',eb',ep',a1,a2,b1,b2,hp13,hev0,hev1,hq,z1,z2,hd⟩:=zEj hz;have ea:=hT.wd;have eb:=hT.hi;have ep:=hT.pt;obtain rfl:a=a':=by omega
 obtain rfl:b=b':=by omega
 obtain rfl:1=p':=by omega
 have h3:=ha.2.2;rw[hn] at h3;have hc:=zBx a2 b2;have he:=hT.ev;have K1:=zQA F.cs1 F.xs1 F.cs2 F.xs2 s1 s2 hT.shaped.2.1 hT.shaped.2.2 z1 z2 A n c F.data (zT a b*1) e hT.lt (by omega) (by omega) (by omega) m0 w hm ha.1 ha.2.1 h3;have hL:=zJK (T1:=zH (zC F.cs1 16) F.xs1) (T2:=zH (zC F.cs2 16) F.xs2) (N:=zT a b*1) (E:=e) (bs:=F.data);rw[hT.dec] at K1 hL;refine (zKH F hT.shaped s1 s2 A n c e a b 1 (zT a b) (zT a b*1) ea eb ep he a1 a2 b1 b2 hp13 rfl rfl w C1 Z (hL rfl) K1).mono λen w' h=> ?_
 rw[hT.qs] at h;obtain⟨B,k,d,rfl,hr,hx⟩:=h;have e1:zAh q Z a b 1=[zAB q Z a b 0]:=rfl;rw[e1] at hr;obtain rfl:k=1:=hr.rows.len.symm;exact⟨B,d,rfl,hr,hx⟩
def HurtEnd (q:List Int) (a b e k:Nat) (Z:List Int) (y:List Nat) (en:Ending) (w w':World):Prop :=
 ∃(E wd hi:Int) (B:Option Addr) (n d:Nat) (C:Option Addr) (j c:Nat),en=.returned (.tuple #[.agg (yX wd hi (.slice B n d)),.slice C j c,.int .i64 E])∧Ext w w' ∧
  ((E≠0∧40000<y.length)∨(E=0∧n=1∧∃(P:List Int) (Y:List Int),Y.length=j∧RowsS w' B 1 d [P]∧SL w' 1 (.slice C j c) j (ints Y)∧(Y=[]∨Y=[(k:Int)])∧P.length=a*b ∧
    ∀t,t<a*b→(t/a/8*((a+7)/8)+t%a/8)/e≠k→P.getD t 0=(zAB q Z a b 0).getD t 0))
attribute [local irreducible] FC.cells vG jA zAB in
def resc_hurt {F:FC} {q:List Int} {a b e:Nat} {Z:List Int} {x:Nat→List Nat} (H:HurtOk F q a b e Z x) (he:1≤e) (a1:1≤a) (k:Nat) (hk:k<zL (zT a b) e) (y:List Nat) (hy:∀b∈y,b<256) (D:List Nat) (hD:D=jA (zDC x k y) 0 (zL (zT a b) e)) (s1 s2:Value) (A:Option Addr) (n c:Nat) (hn:D.length=n) (m0:Int) (w:World) (hm:w.cell? ⟨0,0,none⟩=some (.int .i64 m0)) (ha:FC.at_ { F with data:=D } w s1 s2 (.slice A n c)) :
 Calls prog 22 #[.agg (FC.cells { F with data:=D } s1 s2 (.slice A n c))] w λen w'=>HurtEnd q a b e k Z y en w w':=by
 by_cases hz:FC.chk { F with data:=D }=0
 ·have hlt:∀z∈D,z<256:=by
   rw[hD];refine zLx (λj z hz=> ?_) _;unfold zDC at hz;split at hz
   ·exact hy z hz
   exact H.lt j z hz
  have hsp:=zMB (zDC x k y) (zT a b) e;rw[←hD] at hsp;obtain⟨X,Y,hm1,hY,hP⟩:=hurt_mend H he a1 k hk y;have h:=rescD_any { F with data:=D } H.thru.shaped hz s1 s2 A n c hn hlt m0 w hm ha a b 1 e H.thru.wd H.thru.hi H.thru.pt H.thru.ev hsp w (Ext.refl w);dsimp only at h;rw[hm1] at h;refine Calls.mono h λen w' h=> ?_
  obtain⟨B,k',d,C,j,c',rfl,hr,hs,hj,hx⟩:=h;have e1:zAh q X a b 1=[zAB q X a b 0]:=rfl;dsimp only at hr hs hj;rw[H.thru.qs,e1] at hr;obtain rfl:k'=1:=hr.len.symm;exact⟨0,a,b,B,1,d,C,j,c',rfl,hx,.inr ⟨rfl,rfl,_,Y,hj,hr,hs,hY,zFP _ _ _ _ _,hP⟩⟩
 have h:=zTF (FC.cells { F with data:=D } s1 s2 (.slice A n c)) (FC.size (F:={ F with data:=D }) H.thru.shaped s1 s2 (.slice A n c)) _ hz w (λW h=>FC.check { F with data:=D } H.thru.shaped s1 s2 (.slice A n c) W (ha.ext h));refine Calls.mono h λen w' h=> ?_
 obtain⟨B,k',d,C,j,c',rfl,-,-,-,hx⟩:=h;refine⟨_,0,0,B,k',d,C,j,c',rfl,hx,.inl ⟨hz, ?_⟩⟩;refine Nat.lt_of_not_le λh40=>hz (fc_chk H.thru.chk D ?_)
 rw[hD];exact H.tight k y h40
end
end Go.Proofs.YtkggcjdlpendfaaGreatDoor
namespace Go.Proofs.YtkggcjdlpendfaaGreatDoor.BM
open Tryz
def Good (p:Pack):Prop:=p.1=1∧p.2.count 0=1∧∀s∈p.2,s= -1∨s=0
def zP:Pack:=(0,[-1])
def zLd:Good (1,[0]):=⟨rfl,by decide,λs h=>by simp at h;exact .inr h⟩
def good_more {p:Pack} (h:Good p):Good (0+p.1,[-1]++p.2):=by
 refine⟨by rw[Nat.zero_add];exact h.1, ?_,λs hs=> ?_⟩
 ·show ([-1]++p.2).count 0=1
  rw[List.count_append,h.2.1];decide
 rcases List.mem_append.1 hs with h1 | h1
 ·simp at h1;exact .inl h1
 exact h.2.2 s h1
def zNK {L r:List Pack} (hp:L.Perm (zP::r)) (hs:(L.map (·.1)).Pairwise (· ≤ ·)) (hr:∀p∈r,Good p):∃l,L=zP::l∧l.Perm r:=by
 cases L with
 | nil=>exact absurd hp.length_eq (by simp)
 | cons x l =>
   have hx:x=zP:=by
    have h1:zP∈x::l:=hp.symm.subset (by simp);rcases List.mem_cons.1 (hp.subset (List.mem_cons_self (a:=x) (l:=l))) with h2 | h2
    ·exact h2
    have h3:=(hr x h2).1;rcases List.mem_cons.1 h1 with h4 | h4
    ·exact h4.symm
    rw[List.map_cons,List.pairwise_cons] at hs;have h5:=hs.1 zP.1 (List.mem_map.2 ⟨zP,h4,rfl⟩);have h6:zP.1=0:=rfl;omega
   subst hx;exact⟨l,rfl,hp.cons_inv⟩
def zUw {S:List Pack} (hS:S=[zP,(1,[0])]):∀{f L},Reach S f L→∃p r,L=zP::p::r∧r.length≤1∧Good p:=by
 intro f L h
 induction h with
 | zero=>exact⟨(1,[0]),[],hS,by simp,zLd⟩
 | step h1 h2 h3 ih =>
   obtain⟨p,r,rfl,hr,hg⟩:=ih
   have hpr:pairP (zP::p::r)=[(0+p.1,[-1]++p.2)]:=by
    cases r with
    | nil=>rfl
    | cons x r=>cases r with
      | nil=>rfl
      | cons y r=>simp at hr
   rw[hpr,hS] at h2;have h4:=h2.trans (show ([(0+p.1,[-1]++p.2)]++[zP,(1,[0])]).Perm (zP::[(0+p.1,[-1]++p.2),(1,[0])]) from List.Perm.swap _ _ _)
   have hgo:∀q∈[((0+p.1,[-1]++p.2):Pack),(1,[0])],Good q:=λq hq=>by
    simp only[List.mem_cons,List.not_mem_nil,or_false] at hq;rcases hq with rfl | rfl
    ·exact good_more hg
    exact zLd
   obtain⟨l,rfl,hl⟩:=zNK h4 h3 hgo;have hll:=hl.length_eq
   cases l with
   | nil=>simp at hll
   | cons q l=>exact⟨q,l,rfl,by simp at hll;omega,hgo q (hl.subset List.mem_cons_self)⟩
def filt_same {f g:Int→Nat} {n:Nat} (h:∀j,j<n→f (j:Int)=g (j:Int)) (k:Nat):filt f k n=filt g k n:=by
 unfold filt;refine List.filter_congr λs hs=> ?_
 obtain⟨j,hj,rfl⟩:=List.mem_map.1 hs;rw[show f (Int.ofNat j)=g (Int.ofNat j) from h j (List.mem_range.1 hj)]
def tabs_same {f g:Int→Nat} {n:Nat} (h:∀j,j<n→f (j:Int)=g (j:Int)):csN f n 16 0=csN g n 16 0∧xsN f n 16 0=xsN g n 16 0:=by
 have hf:=λk=>filt_same h k
 refine⟨?_, ?_⟩
 ·unfold csN;refine List.map_congr_left λj hj=> ?_
  have:=List.mem_range.1 hj;rw[if_pos this,if_pos this,hf]
 unfold xsN;rw[show filt f 16 0=filt g 16 0 from rfl,show (λj=>filt f j n)=(λj=>filt g j n) from funext hf]
def made_one {counts cs xs:List Int} (hM:Made counts cs xs) (h1:singN counts counts.length=[zP,(1,[0])]) :
 cs=csN (λs=>if s=0 then 1 else 0) counts.length 16 0∧xs=xsN (λs=>if s=0 then 1 else 0) counts.length 16 0:=by
 obtain⟨S,L,hS,hso,hR,hcs,hxs⟩:=hM;rw[h1] at hS;obtain⟨l,e,hl⟩:=zNK hS hso (λp hp=>by simp at hp;subst hp;exact zLd);have hl1:l=[(1,[0])]:=List.perm_singleton.1 hl;rw[hl1] at e;obtain⟨p,r,hL,-,hg⟩:=zUw e hR;have ht:L.take (2*S.length-2)=[zP,p]:=by rw[e,hL];rfl
 rw[ht] at hcs hxs
 have hf:∀j,j<counts.length→(cont [zP,p]).count ((j:Nat):Int)=(λs:Int=>if s=0 then 1 else 0) (j:Int):=λj _=>by
  have hc:cont [zP,p]=[-1]++p.2:=by simp[cont,zP]
  rw[hc,List.count_append]
  have h0:List.count ((j:Nat):Int) [-1]=0:=by
   rw[List.count_eq_zero];simp
  rw[h0,Nat.zero_add];dsimp only
  by_cases hj:j=0
  ·subst hj;exact hg.2.1
  rw[if_neg (by omega),List.count_eq_zero];intro hm;rcases hg.2.2 _ hm with h | h<;>omega
 obtain⟨t1,t2⟩:=tabs_same (f:=λs=>(cont [zP,p]).count s) (g:=λs=>if s=0 then 1 else 0) hf;exact⟨hcs.trans t1,hxs.trans t2⟩
end Go.Proofs.YtkggcjdlpendfaaGreatDoor.BM
namespace Go.Proofs.YtkggcjdlpendfaaGreatDoor
open Go.RowKit Tryz
def PR (w:World) (gr:Nat) (rs:List Nat) (sh:Bool):Prop :=
 ∃(A:Option Addr) (c:Nat),Blk w gr 119 #[.slice A rs.length c,.bool sh]∧SL w 1 (.slice A rs.length c) rs.length (zF rs)∧(0<rs.length→∀ad,A=some ad→ad.block<gr)
def PR.ext {w w':World} {gr:Nat} {rs:List Nat} {sh:Bool} (h:PR w gr rs sh) (hx:Ext w w'):PR w' gr rs sh:=by obtain⟨A,c,h1,h2,h3⟩:=h;exact⟨A,c,h1.ext hx,h2.ext hx,h3⟩
def PR.upd {S:Nat→Prop} {w w':World} {gr:Nat} {rs:List Nat} {sh:Bool} (h:PR w gr rs sh) (hu:Upd S w w') (hS:∀x,S x→gr<x):PR w' gr rs sh:=by obtain⟨A,c,h1,h2,h3⟩:=h;exact⟨A,c,hu.blk h1 (λe=>by have:=hS _ e;omega),h2.upd0 hu (λh0 ad e hx=>by have:=hS _ hx;have:=h3 h0 ad e;omega),h3⟩
def PR.flag {w:World} {gr:Nat} {rs:List Nat} {sh:Bool} (h:PR w gr rs sh):w.cell? ⟨gr,1,none⟩=some (.bool sh):=by obtain⟨A,c,h1,h2,h3⟩:=h;exact h1.cell 1
def PR.lt {w:World} {gr:Nat} {rs:List Nat} {sh:Bool} (h:PR w gr rs sh):gr<w.heap.size:=by obtain⟨A,c,h1,h2,h3⟩:=h;exact h1.lt
def sizeU8:(prog.info? 5).map (·.size)=some 1:=by kernel_rfl
def zTx (gr:Nat) (A:Option Addr) (c:Nat) (sh:Bool) (w:World) (hB:Blk w gr 119 #[.slice A 0 c,.bool sh]) :
 Calls prog 81 #[.pointer (some ⟨gr,0,none⟩)] w λe w'=>e=.returned (.int .i64 0)∧Blk w' gr 119 #[.slice A 0 c,.bool true]∧Upd (λb=>b=gr) w w':=by
 have hc0:w.cell? ⟨gr,0,none⟩=some (.slice A 0 c):=hB.cell 0;have hc1:w.cell? ⟨gr,1,none⟩=some (.bool sh):=hB.cell 1;have hf1:=hB.frozen 1;have hset:=hB.set_ 1 (.bool true);have hu:=(Upd.refl (λb=>b=gr) w).setCell (p:=⟨gr,1,none⟩) rfl (.bool true);go_enter func81,ntmps81;go_wp2
 go_ret;exact⟨rfl,hset,hu⟩
def zSy (gr:Nat) (A:Option Addr) (c b:Nat) (rs:List Nat) (sh:Bool) (w:World) (hb:b<256) (hB:Blk w gr 119 #[.slice A (rs.length+1) c,.bool sh]) (hs:SL w 1 (.slice A (rs.length+1) c) (rs.length+1) (zF (b::rs))) (X:Option Addr) (hX:Hid (X=if c=1 then A else A.map (·.add 1))) :
 Calls prog 81 #[.pointer (some ⟨gr,0,none⟩)] w λe w'=>e=.returned (.int .i64 (b:Int))∧Blk w' gr 119 #[.slice X rs.length (c-1),.bool sh]∧Upd (λb=>b=gr) w w':=by
 obtain⟨ad,u,rfl,hlt,hu0,hcl⟩:=hs.at1 (k:=0) (by omega);have hub:u=.int .u8 (b:Int):=by simpa [zF] using hu0.symm
 subst hub;obtain⟨A',c',he,hcap,hcap2,-,-⟩:=hs;injection he with e1 e2 e3
 subst e1 e3;have hc0:w.cell? ⟨gr,0,none⟩=some (.slice (some ad) (rs.length+1) c):=hB.cell 0;have hc1:w.cell? ⟨gr,1,none⟩=some (.bool sh):=hB.cell 1;have hf0:=hB.frozen 0;have hset:=hB.set_ 0 (.slice X rs.length (c-1));have hu:=(Upd.refl (λb=>b=gr) w).setCell (p:=⟨gr,0,none⟩) rfl (.slice X rs.length (c-1));have HB:=zA hB;clear hB;generalize rs.length=n at *
 have HSL:Hid (∀(o:Oper) (a:Act) (x lo:Operand),o.op=.slice 45 x (some lo) none none→a.eval x=.slice (some ad) (n+1) c→a.eval lo=.int .i64 1→∀W,(execOp a.eval o).run prog W=.ok (.value (.slice X n (c-1))) W):=zA (λo a x lo h1 h2 h3 W=>by
  have:=zOY (l:=1) h1 h2 h3 (by omega) hcap W;rw[hX.out]
  exact this)
 clear hX;go_enter func81,ntmps81
 go_wp2_with (first
  | ((with_reducible apply gS 9);refine zB rfl (.bool false) (uZ rfl rfl rfl (by simp;omega)) ?_)
  | ((with_reducible apply gS 17);refine zB rfl (.pointer (some (ad.add (0*1)))) (qP (i:=0) underlying45 sizeU8 rfl rfl rfl (by omega)) ?_)
  | ((with_reducible apply gS 18);refine yU rfl (.int .u8 (b:Int)) (zLT rfl rfl hcl) ?_)
  | ((with_reducible apply gS 19);refine zB rfl (.int .i64 (b:Int)) (zNp rfl rfl (zIz b hb)) ?_)
  | ((with_reducible apply gS 25);refine zB rfl (.slice X n (c-1)) (HSL.out _ _ _ _ rfl rfl rfl) ?_))
 go_ret;exact⟨rfl,hset,hu⟩
def zUa (gr:Nat) (rs:List Nat) (sh:Bool) (w:World) (hlt:∀b∈rs,b<256) (h:PR w gr rs sh) :
 Calls prog 81 #[.pointer (some ⟨gr,0,none⟩)] w λe w'=>e=.returned (.int .i64 ((rs.headD 0:Nat):Int))∧PR w' gr rs.tail (sh ||rs.isEmpty)∧Upd (λb=>b=gr) w w':=by
 obtain⟨A,c,hB,hs,hne⟩:=h
 cases rs with
 | nil =>
   refine (zTx gr A c sh w hB).mono ?_;rintro e w' ⟨rfl,h1,h2⟩;obtain⟨A',c',he,hcap,hcap2,-,-⟩:=hs;injection he with e1 e2 e3
   subst e3;refine⟨rfl,⟨A,c,by simpa using h1,⟨A,c,rfl,hcap,hcap2,rfl,λh=>by simp at h⟩,λh=>by simp at h⟩,h2⟩
 | cons b rs =>
   refine (zSy gr A c b rs sh w (hlt b (by simp)) hB hs _ (zA rfl)).mono ?_;rintro e w' ⟨rfl,h1,h2⟩;have hs2:=hs.sub (l:=1) (h:=rs.length+1) (by omega) (by simp);have e2:((zF (b::rs)).drop 1).take (rs.length+1-1)=zF rs:=by simp[zF,wC2]
   rw[e2,wH8] at hs2
   have hblk:0<rs.length→∀ad,(if c=1 then A else A.map (·.add 1))=some ad→ad.block<gr:=λh0 ad e=>by
    split at e
    ·exact hne (by simp) ad e
    cases A with
    | none=>cases e
    | some a0 =>
      injection e with e
      subst e;rw[yH];exact hne (by simp) a0 rfl
   refine⟨rfl,⟨_,_,by simpa using h1,hs2.upd0 h2 (λh0 ad e=>Nat.ne_of_lt (hblk h0 ad e)),hblk⟩,h2⟩
def tblv_set (xs:List Int) (s:Value) (k:Nat) (z:Int) (h:k<xs.length):(yY xs s).setIfInBounds k (.int .i64 z)=yY (xs.set k z) s:=by unfold yY ints;rw[wJ8,wP8 _ _ (by simpa using h),List.map_set]
def zeroTblv:(prog.info? 42).bind (·.zero)=some (.agg (yY (List.replicate 16 0) (.slice none 0 0))):=zAW
def elt_intP:Elt prog 22 3 1 8:=⟨underlying22,by kernel_rfl,by omega⟩
def zeroIP:((prog.info? 3).bind (·.zero)).isSome=true:=by kernel_rfl
def tblNeI:3≠42:=by decide
def tblv_get (xs:List Int) (s:Value) (k:Nat) (h:k<xs.length):(yY xs s)[k]? =some (.int .i64 xs[k]):=by unfold yY ints;simp[wT2,h]
def tblv_one' (cs:List Int) (A:Option Addr) (k c:Nat):(yY cs (.slice A k c)).all (·.oneCell')=true:=by unfold yY ints;simp[Value.oneCell']
def zSF (cs:List Int) (s u:Value) (h:cs.length=16):(yY cs s).setIfInBounds 16 u=yY cs u:=by unfold yY;rw[wJ8,wL4 _ _ (by rw[yI,h];omega),yI,h];rfl
def cnt (bs:List Nat) (p j:Nat):Nat:=256*bs.getD (p+2*j) 0+bs.getD (p+2*j+1) 0
def qT (bs:List Nat) (p k:Nat):List Int:=(List.range k).map λj=>((cnt bs p j:Nat):Int)
def qO (bs:List Nat) (p:Nat):Nat→Nat
 | 0=>0
 | k+1=>qO bs p k+cnt bs p k
def zCF (bs:List Nat) (q k:Nat):List Int:=(List.range k).map λj=>((bs.getD (q+j) 0:Nat):Int)
def PRk (w:World) (gr:Nat) (bs:List Nat) (p:Nat):Prop:=PR w gr (bs.drop p) (decide (bs.length<p))
def zOA {bs:List Nat} (hlt:∀b∈bs,b<256) (p:Nat):bs.getD p 0<256:=by
 rw[wH7]
 cases h:bs[p]? with
 | none=>simp
 | some b=>exact hlt b (wM8 h)
def cnt_lt {bs:List Nat} (hlt:∀b∈bs,b<256) (p j:Nat):cnt bs p j≤65535:=by have h1:=zOA hlt (p+2*j);have h2:=zOA hlt (p+2*j+1);unfold cnt;omega
def zOL {bs:List Nat} (hlt:∀b∈bs,b<256) (p:Nat):∀k,qO bs p k≤65535*k
 | 0=>by simp[qO]
 | k+1=>by
   have:=zOL hlt p k;have:=cnt_lt hlt p k;rw[qO];omega
def zAI (bs:List Nat) (p k:Nat):(qT bs p k).length=k:=by simp[qT]
def cntL_succ (bs:List Nat) (p k:Nat):qT bs p (k+1)=qT bs p k++[((cnt bs p k:Nat):Int)]:=by simp[qT,wG5]
def zRG (bs:List Nat) (q k:Nat):(zCF bs q k).length=k:=by simp[zCF]
def symL_succ (bs:List Nat) (q k:Nat):zCF bs q (k+1)=zCF bs q k++[((bs.getD (q+k) 0:Nat):Int)]:=by simp[zCF,wG5]
def zOd (gr:Nat) (bs:List Nat) (p:Nat) (w:World) (hlt:∀b∈bs,b<256) (h:PRk w gr bs p) :
 Calls prog 81 #[.pointer (some ⟨gr,0,none⟩)] w λe w'=>e=.returned (.int .i64 ((bs.getD p 0:Nat):Int))∧PRk w' gr bs (p+1)∧Upd (λb=>b=gr) w w':=by
 refine (zUa gr (bs.drop p) _ w (λb hb=>hlt b (wM7 hb)) h).mono ?_;rintro e w' ⟨rfl,h1,h2⟩;refine⟨?_, ?_,h2⟩
 ·congr 3
  rw[List.headD_eq_head?_getD,List.head?_drop,wH7]
 unfold PRk;have e1:(bs.drop p).tail=bs.drop (p+1):=by rw[List.tail_drop]
 have e2:(decide (bs.length<p) ||(bs.drop p).isEmpty)=decide (bs.length<p+1):=by
  rw[wC8];simp only[wD0,wB3,List.isEmpty_iff,List.drop_eq_nil_iff];omega
 rw[←e1, ←e2];exact h1
def run_shl8 (m:Nat) (h:m<1000000) (W:World):(binOp .shl 3 (.int .i64 (m:Int)) (.int .u64 8)).run prog W=.ok (.int .i64 ((256*m:Nat):Int)) W:=by
 have e:IntKind.i64.wrap ((m:Int)*2 ^ (min 8 IntKind.i64.bits))=((256*m:Nat):Int):=by
  rw[show min 8 IntKind.i64.bits=8 by decide,IntWalk.i64_in _ (by omega)];omega
 simp[binOp,Op.shift,e]
def run_or8 (m b:Nat) (h:m<1000000) (hb:b<256) (W:World):(binOp .or 3 (.int .i64 ((256*m:Nat):Int)) (.int .i64 (b:Int))).run prog W=.ok (.int .i64 ((256*m+b:Nat):Int)) W:=by
 have e:bits .or .i64 ((256*m:Nat):Int) (b:Int)=((256*m+b:Nat):Int):=by
  have hx:256*m |||b=256*m+b:=by
   rw[show 256*m=2 ^ 8*m by rfl, ←Nat.two_pow_add_eq_or_of_lt (i:=8) (by omega)]
  show IntKind.i64.wrap ((BitVec.ofInt 64 ((256*m:Nat):Int) |||BitVec.ofInt 64 (b:Int)).toNat:Int)=_
  rw[BitVec.toNat_or,BitVec.ofInt_natCast,BitVec.ofInt_natCast,BitVec.toNat_ofNat,BitVec.toNat_ofNat,wE6 (by omega),wE6 (by omega),hx];exact IntWalk.i64_in _ (by omega)
 have e2:binOp .or 3 (.int .i64 ((256*m:Nat):Int)) (.int .i64 (b:Int))=pure (.int .i64 (bits .or .i64 ((256*m:Nat):Int) (b:Int))):=by rw[binOp_or,intBits_or]
 rw[e2,e];rfl
def cntL_set (bs:List Nat) (p k:Nat) (h:k<16):(qT bs p k++List.replicate (16-k) 0).set k ((cnt bs p k:Nat):Int)=qT bs p (k+1)++List.replicate (16-(k+1)) 0:=by rw[wL4 _ _ (by rw[zAI];omega),zAI,wL5,show 16-k=(16-(k+1))+1 by omega,wG1,wJ9,cntL_succ,wI7];rfl
def goesNum:zAn prog 81:=⟨_,func81,rfl,rfl⟩
def table_any (gr:Nat) (bs:List Nat) (p:Nat) (w:World) (hlt:∀b∈bs,b<256) (hp:p≤10000000) (h:PRk w gr bs p) :
 Calls prog 83 #[.pointer (some ⟨gr,0,none⟩)] w λe w'=>∃(k:Nat) (A:Option Addr) (c:Nat),k≤qO bs p 16∧(k<qO bs p 16→bs.length<p+32+k)∧e=.returned (.agg (yY (qT bs p 16) (.slice A k c))) ∧
  w'.ownsRow w.heap.size 3 1 (.slice A k c) k (ints (zCF bs (p+32) k))∧PRk w' gr bs (p+32+k)∧Upd (λb=>b=gr) w w':=by
 have HN:=zA (λq W (h:PRk W gr bs q)=>zOd gr bs q W hlt h);have HS:=zA (zOL hlt p);have HG:=zA (λq=>zOA hlt q);have HC:=zA (λk=>cnt_lt hlt p k);have hgrw:=h.lt;have HP:=zA h;clear h;go_enter func83,ntmps83
 go_wp2_with (first
  | ((with_reducible apply gS 2);refine wAlo' rfl (some 2) rfl 42 rfl _ zeroTblv ?_;intro w2 gt hbt hx2 hgt))
 have hne:gr<gt:=by omega
 have HP2:=zA (HP.out.ext hx2);have hu2:Upd (λb=>b=gr∨b=gt) w w2:=Upd.of_ext hx2;clear hx2 HP
 go_loopw [3,5] (λs i wr=>∃k:Nat,k≤16∧i=.int .i64 (k:Int)∧s=.int .i64 ((qO bs p k:Nat):Int)∧PRk wr gr bs (p+2*k)∧Blk wr gt 42 (yY (qT bs p k++List.replicate (16-k) 0) (.slice none 0 0))∧Upd (λb=>b=gr∨b=gt) w wr) (λ_ i _=>16-(intOf i).toNat)
 case atStart=>exact⟨0,by omega,rfl,rfl,HP2.out,hbt,hu2⟩
 case round =>
  clear hbt hu2 HP2;obtain⟨k,hk,rfl,rfl,hpr,hbt,hu⟩:=hrel
  by_cases hlt16:k<16
  ·have HCK:=zA (HC.out k);have HSK:=zA (HS.out k);have HE:Hid (qO bs p (k+1)=qO bs p k+cnt bs p k):=zA rfl;have HX:Hid (cnt bs p k=256*bs.getD (p+2*k) 0+bs.getD (p+2*k+1) 0):=zA rfl;have HN1:=zA (HN.out (p+2*k));have HN2:=zA (HN.out (p+2*k+1));have hb1:=HG.out (p+2*k);have hb2:=HG.out (p+2*k+1)
   have hset:Hid ((yY (qT bs p k++List.replicate (16-k) 0) (.slice none 0 0)).setIfInBounds k (.int .i64 ((cnt bs p k:Nat):Int))=yY (qT bs p (k+1)++List.replicate (16-(k+1)) 0) (.slice none 0 0)):=zA (by
    rw[tblv_set _ _ _ _ (by rw[wE2,zAI,wM9];omega),cntL_set _ _ _ hlt16])
   have hsz:k<(yY (qT bs p k++List.replicate (16-k) 0) (.slice none 0 0)).size:=by rw[zAb _ _ (by rw[wE2,zAI,wM9];omega)];omega
   have hget:Hid ((yY (qT bs p (k+1)++List.replicate (16-(k+1)) 0) (.slice none 0 0))[k]? =some (.int .i64 ((cnt bs p k:Nat):Int))):=zA (by
    rw[tblv_get _ _ _ (by rw[wE2,zAI,wM9];omega),wS4 (by rw[zAI];omega)]
    simp[qT])
   generalize hT1:yY (qT bs p k++List.replicate (16-k) 0) (.slice none 0 0)=T1 at *;generalize hT2:yY (qT bs p (k+1)++List.replicate (16-(k+1)) 0) (.slice none 0 0)=T2 at *;have HT2:=zA hT2;clear hT1 hT2;generalize bs.getD (p+2*k) 0=x1 at *;generalize bs.getD (p+2*k+1) 0=x2 at *;have hS1:qO bs p k≤1048560:=by have:=HSK.out;omega
   generalize hS:qO bs p k=S at *;generalize hS2:qO bs p (k+1)=S2 at *;have HS2:=zA hS2;clear hS hS2;generalize hK:cnt bs p k=ck at *;clear hK;obtain⟨y1,hy1⟩:∃y,256*x1=y:=⟨_,rfl⟩
   have R1:Hid (∀W,(binOp .shl 3 (.int .i64 (x1:Int)) (.int .u64 8)).run prog W=.ok (.int .i64 (y1:Int)) W):=zA (λW=>by rw[←hy1];exact run_shl8 x1 (by omega) W);have R2:Hid (∀W,(binOp .or 3 (.int .i64 (y1:Int)) (.int .i64 (x2:Int))).run prog W=.ok (.int .i64 (ck:Int)) W):=zA (λW=>by rw[HX.out, ←hy1];exact run_or8 x1 x2 (by omega) hb2 W);have hck:=HCK.out;clear HX HCK HSK hy1
   go_wp2_with (first
    | (go_at_call 81;(with_reducible refine (HN1.out _ hpr).mono ?_);rintro e w3 ⟨rfl,hpr3,hu3⟩;have hbt3:=hu3.blk hbt (by omega))
    | ((with_reducible apply gS 11);refine zB rfl (.int .i64 (y1:Int)) (zBz rfl rfl rfl R1.out) ?_)
    | (go_at_call 81;(with_reducible refine (HN2.out _ hpr3).mono ?_);rintro e w4 ⟨rfl,hpr4,hu4⟩;have hbt4:=hu4.blk hbt3 (by omega))
    | ((with_reducible apply gS 14);refine zB rfl (.int .i64 (ck:Int)) (zBz rfl rfl rfl R2.out) ?_)
    | ((with_reducible apply gT 16 14);refine zAc rfl _ _ rfl gt k _ rfl rfl hbt4 hsz ?_;have hbt5:=hbt4.set_ k (.int .i64 (ck:Int));rw[hset.out] at hbt5;have hl5:=(hbt5.cell k).trans hget.out;have hu5:=((hu.trans hu3 (λx h=>.inl (.inl h))).trans hu4 (λx h=>.inl (.inl h))).setCell (p:=⟨gt,k,none⟩) (.inr rfl) (.int .i64 (ck:Int));have hpr5:=hpr4.upd ((Upd.refl (λb=>b=gt) w4).setCell (p:=⟨gt,k,none⟩) rfl (.int .i64 (ck:Int))) (λx h=>by rw[h];exact hne);clear hpr hu hpr3 hpr4 hu3 hu4 hbt hbt3 hbt4;generalize w4.setCell ⟨gt,k,none⟩ (.int .i64 (ck:Int))=w5 at *)
    | ((with_reducible apply gS 21);refine yU rfl (.int .i64 (ck:Int)) (zS rfl rfl hl5) ?_)
    | ((with_reducible apply gS 22);refine zB rfl (.int .i64 ((S+ck:Nat):Int)) (yL rfl rfl rfl (by omega)) ?_))
   go_roundw
   case rel=>exact⟨k+1,by omega,by go_num,by rw[HS2.out,HE.out];go_num,by rw[show p+2*(k+1)=p+2*k+1+1 by omega];exact hpr5,by rw[HT2.out];exact hbt5,hu5⟩
   case measure=>simp[intOf];omega
  obtain rfl:k=16:=by omega
  rw[show 16-16=0 by rfl,wS7,wG9] at hbt;have hall:=HS.out 16;generalize hS:qO bs p 16=S at *;have HS16:=zA hS;clear hS;have HT:Hid (∀A k c,(yY (qT bs p 16) (.slice A k c)).size=17):=zA (λA k c=>zAb _ _ (by rw[zAI]));have HO:Hid (∀A k c,(yY (qT bs p 16) (.slice A k c)).all (·.oneCell')=true):=zA (λA k c=>tblv_one' _ A k c);have HL:Hid (∀A k c B m d,(yY (qT bs p 16) (.slice A k c)).setIfInBounds 16 (.slice B m d)=yY (qT bs p 16) (.slice B m d)):=zA (λA k c B m d=>zSF _ _ _ (by rw[zAI]))
  have HG16:Hid (∀A k c,(yY (qT bs p 16) (.slice A k c))[16]? =some (.slice A k c)):=zA (λA k c=>by
   have:(yY (qT bs p 16) (.slice A k c))=(yY (qT bs p 16) (.slice A k c)):=rfl;unfold yY ints
   simp[wT2,zAI])
  obtain⟨TV,hTV⟩:∃TV:Option Addr→Nat→Nat→Array Value,TV=λA k c=>yY (qT bs p 16) (.slice A k c):=⟨_,rfl⟩
  have HTV:=zA hTV;have eT:∀A k c,yY (qT bs p 16) (.slice A k c)=TV A k c:=λA k c=>by rw[hTV]
  simp only[eT] at HT HO HL HG16 hbt;have HeT:=zA eT;clear hTV eT;have hp0:PRk wr gr bs (p+32+0):=hpr;have own0:wr.ownsRow w.heap.size 3 1 (.slice none 0 0) 0 (ints (zCF bs (p+32) 0)):=zAm _ _ _ _;go_wp2_with fail
  go_loopw [25] (λi w9=>∃(k:Nat) (A:Option Addr) (c:Nat),k≤S∧i=.int .i64 (k:Int)∧PRk w9 gr bs (p+32+k)∧Blk w9 gt 42 (TV A k c)∧w9.ownsRow w.heap.size 3 1 (.slice A k c) k (ints (zCF bs (p+32) k))∧Upd (λb=>b=gr∨b=gt) w w9) (λi _=>S-(intOf i).toNat)
  case atStart=>exact⟨0,none,0,by omega,rfl,hp0,hbt,own0,hu⟩
  case round =>
   clear hpr hbt hu hp0 own0;obtain⟨k,A,c,hk,rfl,hpr,hbt,hown,hu⟩:=hrel
   have HEND:Hid (∀W,(k<S→bs.length<p+32+k)→wr.grownBy W (some gt)→∃(k':Nat) (A':Option Addr) (c':Nat),k'≤qO bs p 16∧(k'<qO bs p 16→bs.length<p+32+k')∧Ending.returned (.agg (TV A k c))=.returned (.agg (yY (qT bs p 16) (.slice A' k' c'))) ∧
    W.ownsRow w.heap.size 3 1 (.slice A' k' c') k' (ints (zCF bs (p+32) k'))∧PRk W gr bs (p+32+k')∧Upd (λb=>b=gr) w W):=zA (λW hl hg=>by
    have hug:=zM hg;refine⟨k,A,c,by rw[HS16.out];exact hk,by rw[HS16.out];exact hl,by rw[HeT.out],qV hown hug (λx hx q=>jS hown hbt tblNeI (by rw[q,hx])),hpr.upd hug (λx q=>by injection q with q;omega), ?_⟩;have hu2:=hu.grown hg (λb hb=>by injection hb with hb;exact .inl (.inr hb.symm))
    exact⟨hu2.os,hu2.tape,hu2.output,hu2.size,λb hb hn=>hu2.block b hb (λh=>h.elim hn (λh=>by omega))⟩)
   have hfl:=hpr.flag
   by_cases hlt2:k<S
   ·by_cases hsh:bs.length<p+32+k
    ·rw[show decide (bs.length<p+32+k)=true by simpa using hsh] at hfl
     go_wp2_with (first
      | ((with_reducible apply gS 39);refine wLdB rfl 42 (.tmp 2) rfl gt rfl hbt _ underlying42 rfl 17 zCx (HT.out A k c) ?_)
      | ((with_reducible apply gT 2 39);refine wStB rfl 42 (.tmp 2) (.tmp 39) rfl gt _ rfl rfl hbt 17 zCx (HT.out A k c) (HT.out A k c) (HO.out A k c) ?_;intro w7 hb7 hg7))
     exact zCS rfl rfl gt rfl hb7 _ underlying42 rfl 17 zCx (HT.out A k c) (HEND.out _ (λ_=>hsh) hg7)
    rw[show decide (bs.length<p+32+k)=false by simpa using hsh] at hfl;go_wp2_with fail;have HNK:=zA (HN.out (p+32+k));have HSY:=zA (symL_succ bs (p+32) k);generalize bs.getD (p+32+k) 0=x at *;have hbD:=hbt.drew;have hprD:=(show PRk wr.drew gr bs (p+32+k) from hpr)
    have hownD:=(show wr.drew.ownsRow w.heap.size 3 1 (.slice A k c) k (ints (zCF bs (p+32) k)) from hown)
    have huD:=hu.drew;clear hpr hbt hown hu HEND hfl;refine vI (λj=> !(j ==7)) (λW=>Blk W gt 42 (TV A k c)) (by kernel_rfl) ?_;refine of_run (k:=0) (by kernel_rfl) rfl (by rfl) (.pointer (some ⟨gt,16,none⟩)) (λW=>by go_simp) hbD ?_;simp only[Act.put,sA,sB,sC];refine of_run (k:=2) (by kernel_rfl) rfl (by rfl) (.pointer (some ⟨gr,0,none⟩)) (zD rfl rfl) hbD ?_;simp only[Act.put,sA,sB,sC];refine of_fix (k:=1) (by kernel_rfl) rfl (by rfl) (.slice A k c) (λW hW=>jV rfl rfl ((hW.cell 16).trans (HG16.out A k c))) hbD ?_;simp only[Act.put,sA,sB,sC];refine xZ (k:=3) (by kernel_rfl) rfl ?_;refine xK (by rfl) (xL _ _ _ rfl rfl goesNum #[.pointer (some ⟨gr,0,none⟩)] (by simp[Act.eval])) ?_;refine (HNK.out wr.drew hprD).mono ?_;rintro e w3 ⟨rfl,hpr3,hu3⟩;have hb3:=hu3.blk hbD (by omega);have hown3:=zAV hownD hu3 (λy hy=>by omega);have hu03:=huD.trans hu3 (λy hy=>.inl (.inl hy));refine⟨_,rfl,zZ ⟨λ_=>hb3, ?_⟩⟩;simp only[Act.put,sA,sB,sC];refine xZ (k:=4) (by kernel_rfl) rfl ?_;refine wLit1 rfl 22 3 (.tmp 34) rfl (some 35) rfl underlying22 1 jM zeroIP _ rfl rfl (by omega) (by omega) ?_;intro w4 g4 hb4 hx4 hg4;refine zZ ⟨λ_=>hb3.ext hx4, ?_⟩;simp only[Act.put,sA,sB,sC];refine xZ (k:=5) (by kernel_rfl) rfl ?_;refine wApf elt_intP rfl (.tmp 32) (.tmp 35) rfl w.heap.size (.slice A k c) k (ints (zCF bs (p+32) k)) rfl (yE hown3 hx4) _ 1 (ints [(x:Int)]) rfl (zCf hb4) (qK _) (by omega) (by omega) (by have:=hu03.size;have:=hx4.size;omega) ?_;intro A5 c5 w5 ho5 hg5 hr5;have hown4:=yE hown3 hx4;have hug:=zM hg5;have hb5:=hug.blk (hb3.ext hx4) (λq=>jS hown4 (hb3.ext hx4) tblNeI q.symm);have hpr5:=(hpr3.ext hx4).upd hug (λy hy=>by have:=(hown4.lt y hy).1;omega);have hu5:=(hu03.trans (Upd.of_ext (S:=λ_=>False) hx4) (λ_ h=>h.elim)).grown hg5 (λb hb=>.inr (hown4.lt b hb).1);refine zZ ⟨λ_=>hb5, ?_⟩;simp only[Act.put,sA,sB,sC];refine of_run (k:=6) (by kernel_rfl) rfl (by rfl) (.pointer (some ⟨gt,16,none⟩)) (λW=>by go_simp) hb5 ?_;simp only[Act.put,sA,sB,sC];refine xZ (k:=7) (by kernel_rfl) rfl ?_;refine zIx rfl _ _ rfl gt 16 A5 (k+1) c5 rfl rfl hb5 (by rw[HT.out];omega) ?_;have hb6:=hb5.set_ 16 (.slice A5 (k+1) c5);rw[HL.out] at hb6;have hu6s:=(Upd.refl (λb=>b=gt) w5).setCell (p:=⟨gt,16,none⟩) rfl (.slice A5 (k+1) c5);have hpr6:=hpr5.upd hu6s (λy hy=>by omega);have hown6:=qV ho5 hu6s (λy hy q=>jS ho5 hb5 tblNeI (by rw[hy,q]));have hu6:=hu5.trans hu6s (λy hy=>.inl (.inr hy));refine zZ ⟨λh=>(by cases h), ?_⟩;simp only[Act.put,sA,sB,sC];refine zAK (by kernel_rfl) ?_;go_wp2_with fail;go_roundw
    case rel=>exact⟨k+1,A5,c5,by omega,by go_num,hpr6,hb6,by rw[HSY.out,vP];exact hown6,hu6⟩
    case measure=>simp[intOf];omega
   go_wp2_with (first
    | ((with_reducible apply gS 39);refine wLdB rfl 42 (.tmp 2) rfl gt rfl hbt _ underlying42 rfl 17 zCx (HT.out A k c) ?_)
    | ((with_reducible apply gT 2 39);refine wStB rfl 42 (.tmp 2) (.tmp 39) rfl gt _ rfl rfl hbt 17 zCx (HT.out A k c) (HT.out A k c) (HO.out A k c) ?_;intro w7 hb7 hg7))
   exact zCS rfl rfl gt rfl hb7 _ underlying42 rfl 17 zCx (HT.out A k c) (HEND.out _ (λh=>absurd h hlt2) hg7)
def pack_good (wd hi pt ev:Nat) (qs:List Int) (qn cn1 xn1 cn2 xn2:List Nat) (s1 s2:Value) (bs:List Nat) (A0:Option Addr) (c0:Nat) (w:World) (hq:qs.length=64) (hqn:zto qs=jK qn) (hq8:∀n∈qn,n<256)
 (k1:wd<256) (k2:hi<256) (k3:pt<256) (k4:ev<256) (hl1:cn1.length=16) (hl2:cn2.length=16) (hc1:∀n∈cn1,n≤256) (hc2:∀n∈cn2,n≤256) (hx1:∀n∈xn1,n<256) (hx2:∀n∈xn2,n<256) (hy1:xn1.length≤256) (hy2:xn2.length≤256)
 (hs1:SL w 1 s1 xn1.length (ints (jK xn1))) (hs2:SL w 1 s2 xn2.length (ints (jK xn2))) (hsd:SL w 1 (.slice A0 bs.length c0) bs.length (zF bs)) (hbl:bs.length≤90000)
 (o1:(zV (jK cn1) s1).toArray.all (·.oneCell')=true) (o2:(zV (jK cn2) s2).toArray.all (·.oneCell')=true)
 (HCHK:∀W,Ext w W→Calls prog 50 #[.agg (xG wd hi pt qs (zV (jK cn1) s1) (zV (jK cn2) s2) ev (.slice A0 bs.length c0)).toArray] W λe W'=>e=.returned (.int .i64 0)∧Ext W W') :
 Calls prog 36 #[.agg (xG wd hi pt qs (zV (jK cn1) s1) (zV (jK cn2) s2) ev (.slice A0 bs.length c0)).toArray] w λe w'=>∃A n c,e=.returned (.tuple #[.slice A n c,.int .i64 0])∧n=(zGj wd hi pt ev qn cn1 xn1 cn2 xn2 bs).length∧SL w' 1 (.slice A n c) n (zF (zGj wd hi pt ev qn cn1 xn1 cn2 xn2 bs))∧Ext w w':=by
 have t1l:=zU (jK cn1) s1 ((zDb _).trans hl1);have t2l:=zU (jK cn2) s2 ((zDb _).trans hl2);have HF:=zA (λW g (hb:Blk W g 47 (xG wd hi pt qs (zV (jK cn1) s1) (zV (jK cn2) s2) ev (.slice A0 bs.length c0)).toArray)=>zBX hb hq t1l t2l);have hfs:=zA (zFA wd hi pt qs (zV (jK cn1) s1) (zV (jK cn2) s2) ev (.slice A0 bs.length c0) hq t1l t2l);have HCK:=zA HCHK;clear HCHK;have HZT:Hid (∀W,Calls prog 80 #[.agg (ints qs).toArray] W λe w'=>e=.returned (.agg (bv (jK qn)))∧Ext W w'):=zA (λW=>by have h:=zto_any qs W hq;rw[hqn] at h;exact h);have hqn64:qn.length=64:=by have:=vA qs;rw[hqn,zDb] at this;exact this
 have HQA:Hid (∀k (h:k<qn.length),(bv (jK qn))[k]? =some (.int .i64 ((qn[k]:Nat):Int))):=zA (λk h=>by rw[show bv (jK qn)=(ints (jK qn)).toArray from rfl,wH3];exact zNt h);have HQ8:=zA hq8;have hbq:=zA (zK (jK qn));clear hqn hq8;have hql:=zA ((yI qs).trans hq);have HB2:=zA (zHJ _ _ t1l t2l);have HRT:=zA (λW g (hb:Blk W g 42 (zV (jK cn1) s1++zV (jK cn2) s2).toArray)=>zAL t1l hb);have hz17:Hid ((ints (List.replicate 16 0)++[Value.slice none 0 0]).toArray.size=17):=zA (by simp[ints])
 have HTB:Hid (∀k,k<2→∃(cn xn:List Nat) (sl:Value),Hid (∀W g,Blk W g 42 (zV (jK cn1) s1++zV (jK cn2) s2).toArray→W.rangeAt g (0+k*17) (zV (jK cn) sl))∧Hid (cn.length=16)∧Hid (∀n∈cn,n≤256)∧Hid (∀n∈xn,n<256)∧xn.length≤256∧SL w 1 sl xn.length (ints (jK xn))∧Hid ((zV (jK cn) sl).toArray.all (·.oneCell')=true) ∧
  Hid (([zCD cn1 xn1,zCD cn2 xn2].take (k+1)).flatten=([zCD cn1 xn1,zCD cn2 xn2].take k).flatten++zCD cn xn)∧([zCD cn1 xn1,zCD cn2 xn2].take k).flatten.length≤1000):=zA (λk hk=>by
  rcases (by omega:k=0∨k=1) with rfl | rfl
  ·exact⟨cn1,xn1,s1,zA (λW g hb=>(zAL t1l hb).1),zA hl1,zA hc1,zA hx1,hy1,hs1,zA o1,zA (by simp),by simp⟩
  ·exact⟨cn2,xn2,s2,zA (λW g hb=>(zAL t1l hb).2),zA hl2,zA hc2,zA hx2,hy2,hs2,zA o2,zA (by simp),by simp[zLv];omega⟩)
 have HLEN:Hid (∀k,k≤2→([zCD cn1 xn1,zCD cn2 xn2].take k).flatten.length≤1000):=zA (λk hk=>by
  rcases (by omega:k=0∨k=1∨k=2) with rfl | rfl | rfl<;>simp[zLv]<;>omega)
 have HPK:Hid (zGj wd hi pt ev qn cn1 xn1 cn2 xn2 bs=[77,90,wd,hi,pt,ev]++qn++([zCD cn1 xn1,zCD cn2 xn2].take 2).flatten++bs):=zA (by simp[zGj]);have HBS:=zA hbl;generalize zGj wd hi pt ev qn cn1 xn1 cn2 xn2 bs=PN at *;generalize [zCD cn1 xn1,zCD cn2 xn2]=TT at *;have hl17a:Hid ((zV (jK cn1) s1).length=17):=zA t1l;have hl17b:Hid ((zV (jK cn2) s2).length=17):=zA t2l;generalize zV (jK cn1) s1=t1 at *;generalize zV (jK cn2) s2=t2 at *;clear t1l t2l hc1 hc2 hx1 hx2 hl1 hl2 o1 o2;generalize (xG wd hi pt qs t1 t2 ev (.slice A0 bs.length c0)).toArray=fv at *;have kc:=λ(w:World) (C:Array Value) (n c:Nat)=>Lib.run_convert_bytes_const (P:=prog) w 45 5 C n c underlying45 underlying5
 go_enter func36,ntmps36
 go_wp2_with (first
  | (refine wBox rfl 47 (.tmp 0) rfl fv rfl ?_;intro w1 g hb1 hx1 hg)
  | (refine wLdB rfl 47 (.tmp 1) rfl _ rfl hb1 _ underlying47 rfl 103 yO hfs.out ?_)
  | (go_at_call 50;(with_reducible refine (HCK.out _ hx1).mono ?_);rintro e w2 ⟨rfl,hx2⟩;have hb2:=hb1.ext hx2;have hgl:=hb2.lt;have hf2:=HF.out _ _ hb2;have d0:=hf2.c0;have d1:=hf2.c1;have d2:=hf2.c2;have d101:=hf2.c101;have hx12:=hx1.trans hx2)
  | (refine zB rfl (.int .u8 ((wd:Nat):Int)) (zDe (n:=wd) rfl rfl k1) ?_)
  | (refine zB rfl (.int .u8 ((hi:Nat):Int)) (zDe (n:=hi) rfl rfl k2) ?_)
  | (refine zB rfl (.int .u8 ((pt:Nat):Int)) (zDe (n:=pt) rfl rfl k3) ?_)
  | (refine zB rfl (.int .u8 ((ev:Nat):Int)) (zDe (n:=ev) rfl rfl k4) ?_)
  | (at_builtin;go_must (refine zKh zBd rfl _ _ rfl 2 _ (zF [77,90]) rfl rfl (zUE _ _ _) _ 4 (zF [wd,hi,pt,ev]) rfl (cells_sl' _ _ [.int .u8 (wd:Int),.int .u8 (hi:Int),.int .u8 (pt:Int),.int .u8 (ev:Int)] 4 _ (World.size_alloc _ _) rfl (by omega)) (zDY _) (by omega) (by omega) (by omega) ?_);intro v3 w3 hown3' hx3';have hx23:=(((Ext.refl w2).alloc _).alloc _).trans hx3';have hb3:=hb2.ext hx23;have hf3:=HF.out _ _ hb3;have hx13:=hx12.trans hx23;have hown3:=own_base (B':=w.heap.size) hown3' (by have:=hx12.size;simp;omega))
  | (go_at_call 80;(with_reducible refine (HZT.out _).mono ?_);rintro e w4 ⟨rfl,hx4⟩;have hb4:=hb3.ext hx4;have hown4:=yE hown3 hx4;have hx14:=hx13.trans hx4)
  | (refine wpList_load_mid rfl 33 (.tmp 35) rfl g 3 rfl (ints qs) _ hf3.q underlying33 rfl (by rw[hql.out];exact zJ) ?_))
 have hgb:w.heap.size≤w.heap.size:=wA5 _;have hB0:=hx14.size;have HHEAD:Hid (([77,90,wd,hi,pt,ev]:List Nat).length=6):=zA rfl;generalize hHD:([77,90,wd,hi,pt,ev]:List Nat)=HD at *
 have hown4a:w4.ownsRow w.heap.size 5 1 v3 (6+0) (zF (HD++qn.take 0)):=by
  have h:=hown4;rw[wH2,wG9, ←hHD]
  first
   | exact h
   | simpa [zF] using h
 clear hHD;clear hown4 hf3 hb3 hf2 hb2 hb1 d0 d1 d2 d101 HCK HZT
 go_loopw [5,38] (λv i wr=>∃k:Nat,k≤64∧i=.int .i64 (k:Int)∧wr.ownsRow w.heap.size 5 1 v (6+k) (zF (HD++qn.take k))∧Blk wr g 47 fv∧Ext w wr) (λ_ i _=>64-(intOf i).toNat)
 case atStart=>exact⟨0,by omega,rfl,hown4a,hb4,hx14⟩
 case round =>
  clear hown4a hb4 hx14 hB0;obtain⟨k,hk,rfl,hown,hb,hx⟩:=hrel
  by_cases hlt:k<64
  ·have hkq:k<qn.length:=by omega
   have hqk:=HQ8.out qn[k] (wC7 hkq);have hqa:=HQA.out k hkq;have HN:Hid (qn.take (k+1)=qn.take k++[qn[k]]):=zA (wC1 hkq);have HQA1:=zA hqa;clear hqa;generalize qn[k]=q at *
   go_wp2_with (first
    | (refine zB rfl (.int .i64 ((q:Nat):Int)) (ex_idx underlying33 underlying3 jM rfl rfl rfl hlt HQA1.out) ?_)
    | (refine zB rfl (.int .u8 ((q:Nat):Int)) (zDe (n:=q) rfl rfl hqk) ?_)
    | (at_builtin;go_must (refine zAu zBd rfl _ _ rfl w.heap.size _ _ _ rfl (hown.alloc _) _ 1 (zF [q]) rfl (zHT _ _ [.int .u8 ((q:Nat):Int)] 1 rfl (by omega)) (zDY _) (by omega) (by omega) (by have:=hx.size;simp;omega) ?_);intro v' w9 hown9 hg9 ho9))
   go_roundw
   case rel =>
    refine⟨k+1,by omega,by go_num, ?_,(hb.alloc _).grown hg9 (zFk hb hown (by decide)),zLm hx hown hg9⟩;rw[HN.out, ←wI7,zDF, ←wA0];exact hown9
   case measure=>simp[intOf];omega
  have ek:k=64:=by omega
  have hown0:wr.ownsRow w.heap.size 5 1 u5 (70+0) (zF (HD++qn++(TT.take 0).flatten)):=by
   have h:=hown;rw[ek,wC2 (by omega)] at h;simpa using h
  have HQL:Hid ((HD++qn).length=70):=zA (by rw[wE2,HHEAD.out,hqn64]);generalize HD++qn=HQ at *;clear hown ek HQA HQ8;have hf:=HF.out _ _ hb
  go_wp2_with (first
   | (refine wpList_load_mid rfl 42 (.tmp 48) rfl g 67 rfl t1 _ hf.ta underlying42 rfl (by rw[hl17a.out];exact zX) ?_)
   | (refine wpList_load_mid rfl 42 (.tmp 51) rfl g 84 rfl t2 _ hf.tb underlying42 rfl (by rw[hl17b.out];exact zX) ?_)
   | (refine Go.Great.wpList_buildSliceTo rfl 115 42 2 _ rfl _ rfl (some 53) rfl underlying115 _ (by simp[Act.eval];exact HB2.out) ?_))
  have hbn:=Blk.new wr 42 (t1++t2).toArray;have hb1:=hb.alloc (.cells (t1++t2).toArray 42);have hx1:=hx.alloc (.cells (t1++t2).toArray 42);have hown1:=hown0.alloc (.cells (t1++t2).toArray 42);clear hf hb hx hown0;generalize wr.alloc (.cells (t1++t2).toArray 42)=wq at *;generalize wr.heap.size=gt at *
  go_loopw [5,55] (λv i w5=>∃k m:Nat,k≤2∧Hid (m=70+(TT.take k).flatten.length)∧m≤2000∧i=.int .i64 (k:Int)∧w5.ownsRow w.heap.size 5 1 v m (zF (HQ++(TT.take k).flatten))∧Blk w5 g 47 fv∧Blk w5 gt 42 (t1++t2).toArray∧Ext w w5) (λ_ i _=>2-(intOf i).toNat)
  case atStart=>exact⟨0,70,by omega,zA (by simp),by omega,rfl,hown1,hb1,hbn,hx1⟩
  case round =>
   clear hb1 hx1 hown1 hbn;obtain⟨k,m,hk,HM,hm2,rfl,hown,hb,hbn,hx⟩:=hrel
   by_cases hlt:k<2
   ·obtain⟨cn,xn,sl,HTV,HCL,HC6,HX6,hxl,hsl,HTVE,HNX,hfl⟩:=HTB.out k hlt;have HFL:Hid (m≤1070):=zA (by rw[HM.out];omega);have hm1:=HFL.out;have hsx:=hsl.ext hx;have hsl':=hsl;obtain⟨B,d,rfl,hd1,hd2,-,-⟩:=hsl';have hr:=HTV.out _ _ hbn
    go_wp2_with (first
     | (refine zB rfl (.pointer (some ⟨gt,0+k*17,none⟩)) (zFs underlying115 zX rfl rfl rfl hlt) ?_)
     | (refine wpList_load_mid rfl 42 (.tmp 57) rfl gt (0+k*17) rfl (zV (jK cn) (.slice B xn.length d)) _ hr underlying42 rfl (by rw[zU _ _ ((zDb _).trans HCL.out)];exact zX) ?_)
     | (refine wAlo' rfl (some 9) rfl 42 rfl _ zAW ?_;intro w4 ga hba4 hx4 hga)
     | (refine wStB rfl 42 (.tmp 9) (.tmp 58) rfl _ _ rfl rfl hba4 17 zX (by simpa using zU (jK cn) (.slice B xn.length d) ((zDb _).trans HCL.out)) hz17.out HTVE.out ?_;intro w5 hba5 hg5;have hx45:=hx4.grown hg5 hga;have hx5:=hx.trans hx45;have hb5:=hb.ext hx45;have hown5:=yE hown hx45;have hbn5:=hbn.ext hx45)
     | (refine wpList_load_mid rfl 40 (.tmp 59) rfl ga 0 rfl (ints (jK cn)) _ (zFT hba5) underlying40 rfl (by rw[yI,zDb,HCL.out];exact zNc) ?_))
    have hgl5:=hba5.lt;have hown50:w5.ownsRow w.heap.size 5 1 u5 (m+2*0) (zF (HQ++(TT.take k).flatten++(cn.take 0).flatMap (λn=>[n/256,n%256]))):=by simpa using hown5
    have hclen:=HCL.out;clear hown hb hx hx4 hba4 hg5 hown5 hbn hr;have hbt5:Blk w5 ga 42 (yY (jK cn) (.slice B xn.length d)):=hba5;clear hba5
    go_loopw [5,61] (λv i wr=>∃j:Nat,j≤16∧i=.int .i64 (j:Int)∧wr.ownsRow w.heap.size 5 1 v (m+2*j) (zF (HQ++(TT.take k).flatten++(cn.take j).flatMap (λn=>[n/256,n%256])))∧Blk wr g 47 fv∧Blk wr gt 42 (t1++t2).toArray∧Blk wr ga 42 (yY (jK cn) (.slice B xn.length d))∧Ext w wr) (λ_ i _=>16-(intOf i).toNat)
    case atStart=>exact⟨0,by omega,rfl,hown50,hb5,hbn5,hbt5,hx5⟩
    case round =>
     clear hown50 hb5 hbt5 hx5 hx45 hbn5;obtain⟨j,hj,rfl,hown,hb,hbn,hbt,hx⟩:=hrel
     by_cases hltj:j<16
     ·have hjc:j<cn.length:=by omega
      have hc6:=HC6.out cn[j] (wC7 hjc);have HCA:Hid ((ints (jK cn)).toArray[j]? =some (.int .i64 ((cn[j]:Nat):Int))):=zA (by rw[wH3];exact zNt hjc);have HN:=zA (zUO cn j hjc);generalize cn[j]=c at *;have hc1:c/256<256:=by omega
      have hc2:c%256<256:=by omega
      go_wp2_with (first
       | (refine zB rfl (.int .i64 ((c:Nat):Int)) (ex_idx underlying40 underlying3 jM rfl rfl rfl hltj HCA.out) ?_)
       | (refine zB rfl (.int .i64 ((c/256:Nat):Int)) (ex_shr8 (n:=c) rfl rfl rfl) ?_)
       | (refine zB rfl (.int .u8 ((c/256:Nat):Int)) (zDe (n:=c/256) rfl rfl hc1) ?_)
       | (refine zB rfl (.int .u8 ((c%256:Nat):Int)) (zPV (n:=c) rfl rfl) ?_)
       | (at_builtin;go_must (refine zAu zBd rfl _ _ rfl w.heap.size _ _ _ rfl (hown.alloc _) _ 2 (zF [c/256,c%256]) rfl (zHT _ _ [.int .u8 ((c/256:Nat):Int),.int .u8 ((c%256:Nat):Int)] 2 rfl (by omega)) (zDY _) (by omega) (by omega) (by have:=hx.size;simp;omega) ?_);intro v' w9 hown9 hg9 ho9))
      go_roundw
      case rel =>
       refine⟨j+1,by omega,by go_num, ?_,(hb.alloc _).grown hg9 (zFk hb hown (by decide)),(hbn.alloc _).grown hg9 (zFk hbn hown (by decide)),(hbt.alloc _).grown hg9 (zFk hbt hown (by decide)),zLm hx hown hg9⟩;rw[HN.out, ←wI7,zDF,show m+2*(j+1)=m+2*j+2 by omega];exact hown9
      case measure=>simp[intOf];omega
     ·have ej:j=16:=by omega
      rw[ej,show cn.take 16=cn from wC2 (by omega)] at hown;have hcl:=zEw hbt ((zDb _).trans HCL.out);have hown00:wr.ownsRow w.heap.size 5 1 u5 (m+32+0) (zF (HQ++(TT.take k).flatten++cn.flatMap (λn=>[n/256,n%256])++xn.take 0)):=by simpa using hown
      clear hown ej;go_wp2_with fail
      go_loopw [5,76] (λv i wr=>∃j:Nat,j≤xn.length∧i=.int .i64 (j:Int)∧wr.ownsRow w.heap.size 5 1 v (m+32+j) (zF (HQ++(TT.take k).flatten++cn.flatMap (λn=>[n/256,n%256])++xn.take j))∧Blk wr g 47 fv∧Blk wr gt 42 (t1++t2).toArray∧Ext w wr) (λ_ i _=>xn.length-(intOf i).toNat)
      case atStart=>exact⟨0,by omega,rfl,hown00,hb,hbn,hx⟩
      case round =>
       clear hown00 hb hbt hx hcl hbn;obtain⟨j,hj,rfl,hown,hb,hbn,hx⟩:=hrel
       by_cases hltx:j<xn.length
       ·have hsn:SL wr 1 (.slice B xn.length d) xn.length (ints (jK xn)):=by have:=hsl.ext hx;exact this
        obtain⟨ad,u,had,hab,hux,hcell⟩:=hsn.at1 hltx;rw[zNt hltx] at hux;injection hux with hux
        subst hux;subst had;have hx6:=HX6.out xn[j] (wC7 hltx);have HN:Hid (xn.take (j+1)=xn.take j++[xn[j]]):=zA (wC1 hltx);generalize xn[j]=x at *
        go_wp2_with (first
         | (refine zB rfl (.int .u8 ((x:Nat):Int)) (zDe (n:=x) rfl rfl hx6) ?_)
         | (at_builtin;go_must (refine zAu zBd rfl _ _ rfl w.heap.size _ _ _ rfl (hown.alloc _) _ 1 (zF [x]) rfl (zHT _ _ [.int .u8 ((x:Nat):Int)] 1 rfl (by omega)) (zDY _) (by omega) (by omega) (by have:=hx.size;simp;omega) ?_);intro v' w9 hown9 hg9 ho9))
        go_roundw
        case rel =>
         refine⟨j+1,by omega,by go_num, ?_,(hb.alloc _).grown hg9 (zFk hb hown (by decide)),(hbn.alloc _).grown hg9 (zFk hbn hown (by decide)),zLm hx hown hg9⟩;rw[HN.out, ←wI7,zDF, ←wA0];exact hown9
        case measure=>simp[intOf];omega
       have ej:j=xn.length:=by omega
       rw[ej,wP0] at hown;clear ej;go_wp2_with fail;go_roundw
       case rel =>
        refine⟨k+1,m+32+xn.length,by omega,zA ?_,by omega,by go_num, ?_,hb,hbn,hx⟩
        ·rw[HNX.out,wE2,zLv,HM.out,HCL.out];omega
        rw[HNX.out];unfold zCD;rw[←wI7, ←wI7];exact hown
       case measure=>simp[intOf];omega
   have ek:k=2:=by omega
   have hf:=HF.out _ _ hb;have c102:=hf.c102;have hsn:=hsd.ext hx;go_wp2_with (at_builtin;go_must (refine zAu zBd rfl _ _ rfl w.heap.size _ _ _ rfl hown _ bs.length (zF bs) rfl hsn (zDY bs) (by omega) (by omega) (by have:=hx.size;omega) ?_);intro v' w9 hown9 hg9 ho9)
   go_ret2;obtain⟨A',c',rfl,hsl,hfs⟩:=zCN hown9;refine⟨A',m+bs.length,c',rfl, ?_, ?_,ext_own hx hown hg9⟩
   ·rw[HPK.out,HM.out,ek];simp only[wE2,HQL.out]
   rw[HPK.out,zDF, ←ek];exact hsl
def uC (zs:List Int):List Nat:=zs.map Int.toNat
def zDE:∀(zs:List Int),(∀z∈zs,0≤z)→jK (uC zs)=zs
 | [],_=>rfl
 | z::zs,h=>by
   have ih:=zDE zs (λy hy=>h y (by simp[hy]));have hz:=h z (by simp);simp only[jK,uC,wG6,wF6] at ih ⊢;rw[ih];congr 1
   omega
def zCL {zs:List Int} {lo hi:Int} {N:Nat} (h:zR zs lo hi=true) (h0:0≤lo) (hN:hi<N):∀n∈uC zs,n<N:=by intro n hn;obtain⟨z,hz,rfl⟩:=wD2.1 hn;have:=yJ.1 h z hz;omega
def zDD (zs:List Int):(uC zs).length=zs.length:=by simp[uC]
def packE (wd hi pt ev:Int) (qs cs1 xs1 cs2 xs2:List Int) (n:Nat):Int:=zDI wd hi pt qs (zQ cs1 xs1) (zQ cs2 xs2) ev n
def packL (wd hi pt ev:Int) (qs cs1 xs1 cs2 xs2:List Int) (bs:List Nat):List Nat :=
 if packE wd hi pt ev qs cs1 xs1 cs2 xs2 bs.length=0 then zGj wd.toNat hi.toNat pt.toNat ev.toNat (uC (zto qs)) (uC cs1) (uC xs1) (uC cs2) (uC xs2) bs else []
def PackIs (E:Int) (L:List Nat) (w:World) (e:Ending) (w':World):Prop:=∃A c,e=.returned (.tuple #[.slice A L.length c,.int .i64 E])∧SL w' 1 (.slice A L.length c) L.length (zF L)∧Ext w w'
def zNa {wd hi pt ev:Int} {qs cs1 xs1 cs2 xs2:List Int} {n:Nat} (h:packE wd hi pt ev qs cs1 xs1 cs2 xs2 n=0):zCa wd hi pt ev=true∧zR qs 1 255=true∧zQ cs1 xs1=0∧zQ cs2 xs2=0∧n≤90000:=by
 unfold packE zDI at h
 by_cases h1:(zCa wd hi pt ev&&zR qs 1 255)=true
 ·rw[if_pos h1] at h;rw[wA9] at h1
  by_cases h2:zQ cs1 xs1=0
  ·rw[if_pos h2] at h
   by_cases h3:zQ cs2 xs2=0
   ·rw[if_pos h3] at h
    by_cases h4:90000<n
    ·rw[if_pos h4] at h;cases h
    exact⟨h1.1,h1.2,h2,h3,by omega⟩
   rw[if_neg h3] at h;exact absurd h h3
  rw[if_neg h2] at h;exact absurd h h2
 rw[if_neg h1] at h;cases h
def zHd {cs xs:List Int} (h:zQ cs xs=0):zR cs 0 256=true∧zR xs 0 255=true∧xs.length≤256:=by
 cases ht:zDU cs xs with
 | false=>rw[zNC ht] at h;cases h
 | true =>
   obtain⟨a,b,c⟩:=zGb.1 ht
   cases hx:zR xs 0 255 with
   | false=>rw[zNY ht hx] at h;cases h
   | true=>exact⟨a,rfl,by omega⟩
def zto_in {qs:List Int} (hq:qs.length=64) (h:zR qs 1 255=true):zR (zto qs) 1 255=true:=by
 refine yJ.2 λz hz=> ?_
 unfold zto at hz;obtain⟨k,hk,rfl⟩:=wD2.1 hz;have hk':=wF2.1 hk;have hb:=zHx k hk';have hlt:(vB k).toNat<qs.length:=by omega
 rw[wH7,wA2 hlt];exact yJ.1 h _ (wC7 hlt)
def pack_bad (fv:Array Value) (E:Int) (h0:E≠0) (hfs:fv.size=103) (w:World) (HC:∀W,Ext w W→Calls prog 50 #[.agg fv] W λe W'=>e=.returned (.int .i64 E)∧Ext W W') :
 Calls prog 36 #[.agg fv] w (PackIs E [] w):=by
 have HFS:=zA hfs;have HCK:=zA HC;have hE:(E !=0)=true:=by simpa using h0
 clear hfs HC h0;go_enter func36,ntmps36
 go_wp2_with (first
  | (refine wBox rfl 47 (.tmp 0) rfl fv rfl ?_;intro w1 g hb1 hx1 hg)
  | (refine wLdB rfl 47 (.tmp 1) rfl _ rfl hb1 _ underlying47 rfl 103 yO HFS.out ?_)
  | (go_at_call 50;(with_reducible refine (HCK.out _ hx1).mono ?_);rintro e w2 ⟨rfl,hx2⟩))
 go_ret2;exact⟨none,0,rfl,SL.nil _ _,hx1.trans hx2⟩
def pack_any (wd hi pt ev:Int) (qs cs1 xs1:List Int) (s1:Value) (cs2 xs2:List Int) (s2:Value) (bs:List Nat) (sd:Value) (w:World) (hq:qs.length=64) (h1:cs1.length=16) (h2:cs2.length=16)
 (hs1:SL w 1 s1 xs1.length (ints xs1)) (hs2:SL w 1 s2 xs2.length (ints xs2)) (hsd:SL w 1 sd bs.length (zF bs)) :
 Calls prog 36 #[.agg (xG wd hi pt qs (zV cs1 s1) (zV cs2 s2) ev sd).toArray] w (PackIs (packE wd hi pt ev qs cs1 xs1 cs2 xs2 bs.length) (packL wd hi pt ev qs cs1 xs1 cs2 xs2 bs) w):=by
 have HC:∀W,Ext w W→Calls prog 50 #[.agg (xG wd hi pt qs (zV cs1 s1) (zV cs2 s2) ev sd).toArray] W λe W'=>e=.returned (.int .i64 (packE wd hi pt ev qs cs1 xs1 cs2 xs2 bs.length))∧Ext W W' :=
  λW hW=>zMa wd hi pt ev qs cs1 xs1 s1 cs2 xs2 s2 bs sd W hq h1 h2 (hs1.ext hW) (hs2.ext hW) (hsd.ext hW)
 have l1:=zU cs1 s1 h1;have l2:=zU cs2 s2 h2
 by_cases hE:packE wd hi pt ev qs cs1 xs1 cs2 xs2 bs.length=0
 ·obtain⟨ha,kq,z1,z2,hb⟩:=zNa hE;obtain⟨k1,k2,k3,hp⟩:=zHu ha;have k1:=uJ.1 k1;have k2:=uJ.1 k2;have k3:=uJ.1 k3;obtain⟨a1,b1,c1⟩:=zHd z1;obtain⟨a2,b2,c2⟩:=zHd z2;have o1:=zHy cs1 s1 (let ⟨A,c,h,_⟩:=hs1;⟨A,_,c,h⟩);have o2:=zHy cs2 s2 (let ⟨A,c,h,_⟩:=hs2;⟨A,_,c,h⟩);obtain⟨A0,c0,rfl,-⟩:=id hsd;obtain⟨wd,rfl⟩:=wU2 (show 0≤wd by omega);obtain⟨hi,rfl⟩:=wU2 (show 0≤hi by omega);obtain⟨pt,rfl⟩:=wU2 (show 0≤pt by omega);obtain⟨ev,rfl⟩:=wU2 (show 0≤ev by omega);have e1:=zDE cs1 (λz hz=>(yJ.1 a1 z hz).1);have e2:=zDE cs2 (λz hz=>(yJ.1 a2 z hz).1);have e3:=zDE xs1 (λz hz=>(yJ.1 b1 z hz).1);have e4:=zDE xs2 (λz hz=>(yJ.1 b2 z hz).1);have hzi:=zto_in hq kq;have e5:=zDE (zto qs) (λz hz=>by have:=(yJ.1 hzi z hz).1;omega);have hL:packL (wd:Int) hi pt ev qs cs1 xs1 cs2 xs2 bs=zGj wd hi pt ev (uC (zto qs)) (uC cs1) (uC xs1) (uC cs2) (uC xs2) bs:=by unfold packL;rw[if_pos hE];rfl
  rw[hE] at HC ⊢;rw[hL]
  have key:=pack_good wd hi pt ev qs (uC (zto qs)) (uC cs1) (uC xs1) (uC cs2) (uC xs2) s1 s2 bs A0 c0 w hq e5.symm (zCL hzi (by decide) (by decide)) (by omega) (by omega) (by omega) (by omega)
   (by rw[zDD];exact h1) (by rw[zDD];exact h2) (λn hn=>by have:=zCL (N:=257) a1 (by decide) (by decide) n hn;omega) (λn hn=>by have:=zCL (N:=257) a2 (by decide) (by decide) n hn;omega)
   (zCL b1 (by decide) (by decide)) (zCL b2 (by decide) (by decide)) (by rw[zDD];exact c1) (by rw[zDD];exact c2)
   (by rw[zDD,e3];exact hs1) (by rw[zDD,e4];exact hs2) hsd hb (by rw[e1];exact o1) (by rw[e2];exact o2)
  rw[e1,e2] at key;refine (key HC).mono ?_;rintro e w' ⟨A,n,c,rfl,rfl,hs,hx⟩;exact⟨A,c,rfl,hs,hx⟩
 have hL:packL wd hi pt ev qs cs1 xs1 cs2 xs2 bs=[]:=by unfold packL;rw[if_neg hE]
 rw[hL];exact pack_bad _ _ hE (zFA wd hi pt qs (zV cs1 s1) (zV cs2 s2) ev sd hq l1 l2) w HC
def FC.packE (F:FC):Int:=Go.Proofs.YtkggcjdlpendfaaGreatDoor.packE F.wd F.hi F.pt F.ev F.qs F.cs1 F.xs1 F.cs2 F.xs2 F.data.length
def FC.packL (F:FC):List Nat:=Go.Proofs.YtkggcjdlpendfaaGreatDoor.packL F.wd F.hi F.pt F.ev F.qs F.cs1 F.xs1 F.cs2 F.xs2 F.data
def FC.pack (F:FC) (h:F.shaped) (s1 s2 sd:Value) (w:World) (ha:F.at_ w s1 s2 sd):Calls prog 36 #[.agg (F.cells s1 s2 sd)] w (PackIs F.packE F.packL w) :=
 pack_any F.wd F.hi F.pt F.ev F.qs F.cs1 F.xs1 s1 F.cs2 F.xs2 s2 F.data sd w h.1 h.2.1 h.2.2 ha.1 ha.2.1 ha.2.2
def FC.packL_lt (F:FC) (hq:F.qs.length=64) (hd:∀b∈F.data,b<256):∀b∈F.packL,b<256:=by
 intro b hb;unfold FC.packL Go.Proofs.YtkggcjdlpendfaaGreatDoor.packL at hb;split at hb
 ·rename_i h0;obtain⟨ha,hqs,h1,h2,-⟩:=zNa h0;obtain⟨c1,x1,-⟩:=zHd h1;obtain⟨c2,x2,-⟩:=zHd h2
  have ha':(1≤F.wd∧F.wd≤64)∧(1≤F.hi∧F.hi≤64)∧(F.pt=1∨F.pt=3)∧(0≤F.ev∧F.ev≤100):=by
   unfold zCa at ha;simp only[wA9,wD0,beq_iff_eq,uJ] at ha;exact⟨ha.1.1.1,ha.1.1.2,ha.1.2,ha.2⟩
  have ht:∀(cs xs:List Int),zR cs 0 256=true→zR xs 0 255=true→∀n∈zCD (uC cs) (uC xs),n<256:=by
   intro cs xs hc hx n hn;unfold zCD at hn;rcases wD3.1 hn with hn | hn
   ·obtain⟨m,hm,hn⟩:=wS6.1 hn;have:=zCL (N:=257) hc (by omega) (by omega) m hm;simp at hn;omega
   exact zCL (N:=256) hx (by omega) (by omega) n hn
  unfold zGj at hb;simp only[wD3] at hb;rcases hb with ((hb | hb) | (hb | hb)) | hb
  ·simp at hb;omega
  ·exact zCL (N:=256) (zto_in hq hqs) (by omega) (by omega) b hb
  ·exact ht _ _ c1 x1 b hb
  ·exact ht _ _ c2 x2 b hb
  exact hd b hb
 cases hb
def p2 (bs:List Nat):Nat:=70+32+qO bs 70 16
def p3 (bs:List Nat):Nat:=p2 bs+32+qO bs (p2 bs) 16
def quL (bs:List Nat) (k:Nat):List Int:=(List.range k).map λj=>((bs.getD (6+j) 0:Nat):Int)
def zGv (bs:List Nat) (k:Nat):(quL bs k).length=k:=by simp[quL]
def quL_succ (bs:List Nat) (k:Nat):quL bs (k+1)=quL bs k++[((bs.getD (6+k) 0:Nat):Int)]:=by simp[quL,wG5]
def quL_set (bs:List Nat) (k:Nat) (h:k<64):(quL bs k++List.replicate (64-k) 0).set k ((bs.getD (6+k) 0:Nat):Int)=quL bs (k+1)++List.replicate (64-(k+1)) 0:=by rw[wL4 _ _ (by rw[zGv];omega),zGv,wL5,show 64-k=(64-(k+1))+1 by omega,wG1,wJ9,quL_succ,wI7];rfl
def vJ (bs:List Nat):FC:=⟨((bs.getD 2 0:Nat):Int),((bs.getD 3 0:Nat):Int),((bs.getD 4 0:Nat):Int),qX (quL bs 64) 64,qT bs 70 16,zCF bs (70+32) (qO bs 70 16),qT bs (p2 bs) 16,zCF bs (p2 bs+32) (qO bs (p2 bs) 16),((bs.getD 5 0:Nat):Int),bs.drop (p3 bs)⟩
def zQR (bs:List Nat):(vJ bs).shaped:=by unfold FC.shaped vJ;dsimp only;exact⟨uW _ _,zAI _ _ _,zAI _ _ _⟩
def uX (bs:List Nat):FC×Int:=if 91000<bs.length then (FC.zero,2) else if bs.length<p3 bs then (FC.zero,3) else if (vJ bs).packE=0∧(vJ bs).packL=bs then (vJ bs,0) else (FC.zero,4)
def FpIs (z:FC×Int) (w:World) (e:Ending) (w':World):Prop:=∃s1 s2 sd,e=.returned (.tuple #[.agg (z.1.cells s1 s2 sd),.int .i64 z.2])∧z.1.at_ w' s1 s2 sd∧Ext w w'
def FpIs.err {z:FC×Int} {w w':World} {E:Int} (h:z=(FC.zero,E)) (hx:Ext w w'):FpIs z w (.returned (.tuple #[.agg zFile,.int .i64 E])) w':=by subst h;exact⟨.slice none 0 0,.slice none 0 0,.slice none 0 0,rfl,zero_at w',hx⟩
def builtF (a b c d:Int):prog.built 47 [(0,.int .i64 a),(1,.int .i64 b),(2,.int .i64 c),(5,.int .i64 d)]=some (FC.cells ⟨a,b,c,List.replicate 64 0,List.replicate 16 0,[],List.replicate 16 0,[],d,[]⟩ (.slice none 0 0) (.slice none 0 0) (.slice none 0 0)):=by
 show _=_
 kernel_rfl
