/- Contracts of the functions that the law reaches, part 31. -/
import Derived.Test.YtkggcjdlpendfaaGreatDoorMTopCoarseCard30
namespace Go.Proofs.YtkggcjdlpendfaaGreatDoor
set_option linter.unusedVariables false
set_option linter.unusedSimpArgs false
set_option maxRecDepth 20000
set_option maxHeartbeats 8000000
open Go.RowKit
def zCZ (T1 T2:List Tok) (x:Tok×Bool):List Bool:=zDu (if x.2 then T1 else T2) x.1.1++xU x.1.2.2.toNat x.1.2.1.toNat
theorem zOl (T1 T2:List Tok): ∀ (l:List (Tok×Bool)) (L:List Bool),(jT (xG T1 T2) l L).1=0 →
 (∀ x∈l,(zAI (if x.2 then T1 else T2) x.1.1).isSome=true)∧(jT (xG T1 T2) l L).2=L++l.flatMap (zCZ T1 T2)
 | [],L,_=>by simp[jT]
 | (t,b)::r,L,h=>by
   by_cases h0:(xG T1 T2 L t b).1=0
   ·rw[zCL h0] at h ⊢
    obtain⟨h1,h2⟩:=zOl T1 T2 r _ h
    cases hf:zAI (if b then T1 else T2) t.1 with
    | none=>unfold xG at h0;rw[hf] at h0;cases h0
    | some u =>
      have e:(xG T1 T2 L t b).2=L++zCZ T1 T2 (t,b):=by unfold xG zCZ;rw[hf];simp
      refine⟨fun x hx=> ?_, ?_⟩
      ·rcases wJ3.1 hx with rfl | hx
       ·dsimp only;rw[hf];rfl
       ·exact h1 x hx
      ·rw[h2,e,wJ0,wG0]
   ·rw[zDU h0] at h;exact absurd h h0
theorem zLk: ∀ (l:List Tok) (k:Nat),0<k→(l.zipIdx k).map (fun p=>(p.1,p.2 ==0))=l.map fun t=>(t,false)
 | [],_,_=>rfl
 | t::l,k,h=>by
   rw[wD2,wC8,wC8,zLk l (k+1) (by omega)]
   simp
   omega
theorem zQQ (t:Tok) (l:List Tok):zAq (t::l)=(t,true)::l.map fun u=>(u,false):=by
 unfold zAq
 rw[wD2,wC8,zLk l 1 (by omega)]
 rfl
theorem zIs: ∀ (l:List Int) (run:Nat),(∀ x∈l, -2047≤x∧x≤2047)→ ∀ t∈zAt run l,zAw t=true
 | [],run,_,t,ht=>by
   unfold zAt at ht
   split at ht
   ·simp at ht;subst ht;exact zLd
   ·simp at ht
 | n::l,run,h,t,ht=>by
   rw[zAt] at ht
   by_cases hn:n=0
   ·rw[if_pos hn] at ht
    exact zIs l _ (fun x hx=>h x (by simp[hx])) t ht
   ·rw[if_neg hn] at ht
    rcases wE5.1 ht with h1 | h1
    ·obtain⟨-,rfl⟩:=wJ5.1 h1;exact zJn
    ·rcases wJ3.1 h1 with rfl | h1
     ·exact (zJO _ n (by omega) (h n (by simp)) hn).1
     ·exact zIs l 0 (fun x hx=>h x (by simp[hx])) t h1
theorem zHO {cs1 xs1 cs2 xs2:List Int} (l1:cs1.length=16) (l2:cs2.length=16) (z1:yC cs1 xs1=0) (z2:yC cs2 xs2=0) {D R:List Bool} {p:Nat} {t:Tok} {b:Bool} (hp:p≤D.length) (hf:(zAI (if b then zM (zG cs1 16) xs1 else zM (zG cs2 16) xs2) t.1).isSome=true) (ht:zBP t)
 (hw:(if b then t.1 else t.1%16)=t.2.1) (h11:b=false→t.2.1≤11) (hD:D.drop p=zCZ (zM (zG cs1 16) xs1) (zM (zG cs2 16) xs2) (t,b)++R) :
 ∃ p',yM true (zM (zG cs1 16) xs1) (zM (zG cs2 16) xs2) D b p=(t,0,p')∧D.drop p'=R∧p'≤D.length:=by
 obtain⟨u,hu⟩:=wB1.1 hf
 have key: ∃ long code:Nat,u=(t.1,(long:Int),(code:Int))∧code<2 ^ long∧ ∀ R',D.drop p=xU code long++R'→vO (if b then zM (zG cs1 16) xs1 else zM (zG cs2 16) xs2) D p=(t.1,p+long,0):=by
  cases b with
  | true =>
    obtain⟨long,code,e, -, -,hc⟩:=zHr cs1 xs1 l1 z1 t.1 u hu
    subst e
    exact⟨long,code,rfl,hc,fun R' hR=>zLr cs1 xs1 l1 z1 t.1 long code D R' p hu hc hp hR⟩
  | false =>
    obtain⟨long,code,e, -, -,hc⟩:=zHr cs2 xs2 l2 z2 t.1 u hu
    subst e
    exact⟨long,code,rfl,hc,fun R' hR=>zLr cs2 xs2 l2 z2 t.1 long code D R' p hu hc hp hR⟩
 obtain⟨long,code,rfl,hc,hs⟩:=key
 have hb:=zFS hu
 unfold zCZ at hD
 dsimp only at hD
 rw[hb,wG0] at hD
 have hs:=hs _ hD
 obtain⟨w1,w2,w3,w4,w5,w6⟩:=ht
 have hlen:long+(t.2.1.toNat+R.length)=D.length-p:=by
  have:=congrArg List.length hD
  rw[wJ4,wF1,wF1,qB,qB] at this
  omega
 have hd2:D.drop (p+long)=xU t.2.2.toNat t.2.1.toNat++R:=by
  rw[←wL4,hD,List.drop_left' (qB _ _)]
 refine⟨p+long+t.2.1.toNat, ?_, ?_,by omega⟩
 ·rw[zES hs hw (by intro h;exact h.elim (fun h=>by omega) (fun h=>by have:=h11 h.1;omega)) (by omega)]
  have h9:((t.2.2.toNat:Nat):Int)<((2 ^ t.2.1.toNat:Nat):Int):=by push_cast;omega
  have h10:t.2.2.toNat<2 ^ t.2.1.toNat:=by exact_mod_cast h9
  rw[hd2,List.take_left' (qB _ _),zBA h10]
  rw[Int.toNat_of_nonneg w5]
 ·rw[←wL4,hd2,List.drop_left' (qB _ _)]
theorem zIW {cs1 xs1 cs2 xs2:List Int} (l1:cs1.length=16) (l2:cs2.length=16) (z1:yC cs1 xs1=0) (z2:yC cs2 xs2=0) {D:List Bool}: ∀ (l:List Tok) (p:Nat) (R:List Bool),p≤D.length→(∀ t∈l,(zAI (zM (zG cs2 16) xs2) t.1).isSome=true∧zBP t∧zAw t=true) →
 D.drop p=(l.map fun t=>(t,false)).flatMap (zCZ (zM (zG cs1 16) xs1) (zM (zG cs2 16) xs2))++R→ ∃ p',zCA (yM true (zM (zG cs1 16) xs1) (zM (zG cs2 16) xs2) D false) l p p'∧D.drop p'=R∧p'≤D.length
 | [],p,R,hp,_,hD=>⟨p,rfl,by simpa using hD,hp⟩
 | t::l,p,R,hp,h,hD=>by
   rw[wC8,wJ0,wG0] at hD
   obtain⟨h1,h2,h3⟩:=h t (by simp)
   have h3:=zHg.1 h3
   obtain⟨p1,e,hd,hp1⟩:=zHO l1 l2 z1 z2 (b:=false) hp h1 h2 h3.2.1.symm (fun _=>h3.2.2.1) hD
   obtain⟨p',hs,hd',hp'⟩:=zIW l1 l2 z1 z2 l p1 R hp1 (fun u hu=>h u (by simp[hu])) hd
   exact⟨p',⟨p1,e,hs⟩,hd',hp'⟩
theorem befAt_rng {Z:List Int} (hb: ∀ x∈Z, -2047≤x∧x≤2047) (k:Nat): -2047≤uA Z k∧uA Z k≤2047:=by
 unfold uA
 split
 ·omega
 ·rw[wF2]
  cases h:(yT Z (k-1))[0]? with
  | none=>simp
  | some x=>exact hb x (zHK (wJ8 h))
theorem zKD {cs1 xs1 cs2 xs2:List Int} (l1:cs1.length=16) (l2:cs2.length=16) (z1:yC cs1 xs1=0) (z2:yC cs2 xs2=0) {Z:List Int} {n:Nat} (hZ:Z.length=n*64) (hb: ∀ x∈Z, -2047≤x∧x≤2047) {D:List Bool}: ∀ (m k p:Nat) (acc:List Int) (R:List Bool),k+m=n→p≤D.length →
 (∀ x∈qL Z n k,(zAI (if x.2 then zM (zG cs1 16) xs1 else zM (zG cs2 16) xs2) x.1.1).isSome=true)→D.drop p=(qL Z n k).flatMap (zCZ (zM (zG cs1 16) xs1) (zM (zG cs2 16) xs2))++R →
 ∃ p',zAF (yM true (zM (zG cs1 16) xs1) (zM (zG cs2 16) xs2) D) m (uA Z k) p acc=(0,acc++Z.drop (k*64),p')∧D.drop p'=R∧p'≤D.length
 | 0,k,p,acc,R,hk,hp,hf,hD=>by
   obtain rfl:k=n:=by omega
   rw[zId] at hD
   refine⟨p, ?_,by simpa using hD,hp⟩
   rw[zAF,wL5 (by omega),wG3]
 | m+1,k,p,acc,R,hk,hp,hf,hD=>by
   rw[zHE Z n k (by omega)] at hf hD
   have hbl:=zHA Z n k hZ (by omega)
   have hzb: ∀ x∈zto (yT Z k), -2047≤x∧x≤2047:=by
    intro x hx
    unfold zto at hx
    obtain⟨i,hi,rfl⟩:=wD6.1 hx
    rw[wF2]
    cases h:(yT Z k)[(jM i).toNat]? with
    | none=>simp
    | some x=>exact hb x (zHK (wJ8 h))
   have hbf:=befAt_rng hb k
   have e:=zDc (uA Z k) (zto (yT Z k)) (uD _)
   have hwf:=zFY (uA Z k) (zto (yT Z k)) (uD _)
   rw[e] at hwf
   have hft:zAq (zBD Z k)=(jY 0 ((zto (yT Z k)).getD 0 0-uA Z k),true)::(zAt 0 ((zto (yT Z k)).drop 1)).map fun u=>(u,false):=by
    unfold zBD
    rw[e,zQQ]
   rw[hft] at hf hD
   rw[wI9,wJ0,wG0,wG0] at hD
   obtain⟨p1,e1,d1,q1⟩:=zHO l1 l2 z1 z2 (b:=true) hp (hf _ (List.mem_append_left _ wP4)) (hwf _ wP4) (by unfold jY;simp) (fun h=>by cases h) hD
   obtain⟨p2,s2,d2,q2⟩:=zIW l1 l2 z1 z2 (zAt 0 ((zto (yT Z k)).drop 1)) p1 _ q1 (fun t ht=>⟨by
    have:=hf (t,false) (List.mem_append_left _ (wP8 _ (wD6.2 ⟨t,ht,rfl⟩)))
    simpa using this,hwf t (wP8 _ ht),zIs _ 0 (fun x hx=>hzb x (wG6 hx)) t ht⟩) d1
   have hblk:=zPl (yM true (zM (zG cs1 16) xs1) (zM (zG cs2 16) xs2) D) (uA Z k) hbf (zto (yT Z k)) (uD _) hzb p p1 p2 e1 s2
   rw[zfrom_zto _ hbl] at hblk
   have hne:(yT Z k).getD 0 0=uA Z (k+1):=by unfold uA;rw[if_neg (by omega),wI6]
   obtain⟨p',e',d',q'⟩:=zKD l1 l2 z1 z2 hZ hb m (k+1) p2 (acc++yT Z k) R (by omega) q2 (fun x hx=>hf x (List.mem_append_right _ hx)) d2
   refine⟨p', ?_,d',q'⟩
   rw[zIp (by rw[hblk]),hblk]
   dsimp only
   rw[hne,e',wG0]
   have e3:Z.drop (k*64)=yT Z k++Z.drop ((k+1)*64):=by
    unfold yT
    rw[show (k+1)*64=k*64+64 by omega, ←wL4,wL0]
   rw[e3]
theorem decR_back {cs1 xs1 cs2 xs2:List Int} (l1:cs1.length=16) (l2:cs2.length=16) (z1:yC cs1 xs1=0) (z2:yC cs2 xs2=0) {Z:List Int} {n:Nat} (hZ:Z.length=n*64) (h:(qD (xG (zM (zG cs1 16) xs1) (zM (zG cs2 16) xs2)) n Z []).1=0) :
 uB true (zM (zG cs1 16) xs1) (zM (zG cs2 16) xs2) (n:Int) (some (qP (uS (qD (xG (zM (zG cs1 16) xs1) (zM (zG cs2 16) xs2)) n Z []).2)))=(0,Z):=by
 have h400:n≤400:=by
  refine Nat.le_of_not_lt fun h1=> ?_
  unfold qD at h;rw[if_pos h1] at h;cases h
 cases hin:zN Z (-2047) 2047 with
 | false=>unfold qD at h;rw[if_neg (by omega),if_pos hin] at h;cases h
 | true =>
   have e:qD (xG (zM (zG cs1 16) xs1) (zM (zG cs2 16) xs2)) n Z []=jT (xG (zM (zG cs1 16) xs1) (zM (zG cs2 16) xs2)) (qL Z n 0) []:=by
    unfold qD;rw[if_neg (by omega),if_neg (by rw[hin];simp)]
   rw[e] at h ⊢
   obtain⟨hf,hL⟩:=zOl _ _ _ _ h
   rw[wK7] at hL
   rw[hL]
   generalize hLL:(qL Z n 0).flatMap (zCZ (zM (zG cs1 16) xs1) (zM (zG cs2 16) xs2))=L at *
   have hD:zK (qP (uS L))=uS L:=zNd _ (padB_len L)
   obtain⟨p',e',d',q'⟩:=zKD l1 l2 z1 z2 hZ (yD.1 hin) (D:=uS L) n 0 0 [] (List.replicate ((8-L.length%8)%8) true) (by omega) (by omega) hf (by rw[hLL];rfl)
   have hbf:uA Z 0=0:=rfl
   rw[hbf] at e'
   unfold uB
   rw[if_neg (by omega)]
   dsimp only
   rw[hD,wE8,e']
   unfold zCm
   dsimp only
   rw[if_neg (by simp),d',if_neg]
   ·simp
   ·rintro (h1 | h1)
    ·have:=congrArg List.length d'
     rw[wJ4,wF3] at this
     omega
    ·have:=(wJ5.1 h1).2
     cases this
theorem plZ_one (b:Nat) (l:List Nat) (h:b≠255):plZ (b::l)=(plZ l).map (b:: ·):=by
 cases l with
 | nil=>simp[plZ,h]
 | cons c r=>rw[plZ,if_neg h]
theorem zHU: ∀ bs:List Nat,plZ (xR bs)=some bs
 | []=>rfl
 | b::l=>by
   rw[zJa]
   by_cases h:b=255
   ·rw[if_pos h,h]
    show plZ (255::0::xR l)=_
    rw[plZ,if_pos rfl,if_pos rfl,zHU l]
    rfl
   ·rw[if_neg h]
    show plZ (b::xR l)=_
    rw[plZ_one b _ h,zHU l]
    rfl
theorem sp_one (b:Nat) (r:List Nat) (P:List (List Nat)) (M c:List Nat) (h:b≠255):xN (b::r) P M c=xN r P M (c++[b]):=by
 cases r with
 | nil=>simp[xN,h]
 | cons y r=>rw[xN,if_neg h]
theorem zGB: ∀ (x r:List Nat) (P:List (List Nat)) (M c:List Nat),xN (xR x++r) P M c=xN r P M (c++xR x)
 | [],r,P,M,c=>by simp[xR]
 | b::l,r,P,M,c=>by
   rw[zJa,wG0]
   by_cases h:b=255
   ·rw[if_pos h]
    show xN (255::0::(xR l++r)) P M c=_
    rw[xN,if_pos rfl,if_neg (by decide),if_pos rfl,zGB l,wG0]
   ·rw[if_neg h]
    show xN (b::(xR l++r)) P M c=_
    rw[sp_one b _ _ _ _ h,zGB l,wG0]
theorem sp_mark (m:Nat) (r:List Nat) (P:List (List Nat)) (M c:List Nat) (h0:m≠0) (h:m≠255):xN (255::m::r) P M c=xN r (P++[c]) (M++[m]) []:=by
 rw[xN,if_pos rfl,if_neg h,if_neg h0]
def zCv (x:Nat→List Nat) (i m:Nat):List Nat:=(List.range' i m).flatMap fun j=>zCE j++xR (x j)
theorem zGM (x:Nat→List Nat) (i m:Nat):zCv x i (m+1)=zCE i++(xR (x i)++zCv x (i+1) m):=by
 unfold zCv
 rw[wJ7,wJ0,wG0]
theorem sp_join (x:Nat→List Nat): ∀ (m i:Nat) (P:List (List Nat)) (M c:List Nat),0<i→xN (zCv x i m) P M c=some (P++c::(List.range' i m).map (fun j=>xR (x j)),M++(List.range' i m).map fun j=>208+(j-1)%8)
 | 0,i,P,M,c,_=>by simp[zCv,xN]
 | m+1,i,P,M,c,hi=>by
   rw[zGM]
   unfold zCE
   rw[if_neg (by omega)]
   show xN (255::(208+(i-1)%8)::(xR (x i)++zCv x (i+1) m)) P M c=_
   rw[sp_mark _ _ _ _ _ (by omega) (by omega),zGB,wK7,sp_join x m (i+1) _ _ _ (by omega),wJ7]
   simp
theorem sp_joined (x:Nat→List Nat) (m:Nat):xN (zCv x 0 (m+1)) [] [] []=some ((List.range (m+1)).map (fun j=>xR (x j)),(List.range' 1 m).map fun j=>208+(j-1)%8):=by
 rw[zGM]
 show xN (xR (x 0)++zCv x 1 m) [] [] []=_
 rw[zGB,sp_join x m 1 _ _ _ (by omega),List.range_eq_range',wJ7]
 simp
theorem zNN: ∀ (m i:Nat),0<i→vG ((List.range' i m).map fun j=>208+(j-1)%8) (i-1)=true
 | 0,i,_=>rfl
 | m+1,i,hi=>by
   rw[wJ7,wC8,vG,show i-1+1=i+1-1 by omega,zNN m (i+1) (by omega)]
   simp
theorem cutK_pos (n e:Nat):1≤yK n e:=by
 unfold yK
 split
 ·omega
 ·next h=>exact (Nat.le_div_iff_mul_le (by omega)).2 (by omega)
theorem zJv (n e:Nat) (Z:List Int) (hZ:Z.length=n*64): ∀ k,k≤yK n e→(List.range k).flatMap (fun i=>xM n e i Z)=Z.take (atK n e k*64)
 | 0,_=>by rw[atK_0];simp
 | k+1,h=>by
   rw[wH0,wI9,zJv n e Z hZ k (by omega),wJ0,List.flatMap_nil,wG3,zNR (by omega),wJ1]
   have h1:atK n e k=k*yP n e:=by have:=zGv (n:=n) (e:=e) (i:=k) (by omega);unfold atK;omega
   unfold xM
   rw[h1,List.take_add]
   rfl
def segB (T1 T2:List Tok) (n e:Nat) (Z:List Int) (i:Nat):List Nat:=qP (uS (qD (xG T1 T2) (zAZ n e i) (xM n e i Z) []).2)
theorem zKK (T1 T2:List Tok) (n e:Nat) (Z:List Int): ∀ (m i:Nat) (acc:List Nat),(uL T1 T2 n e Z m i acc).1=0 →
 (∀ j,i≤j→j<i+m→(qD (xG T1 T2) (zAZ n e j) (xM n e j Z) []).1=0)∧(uL T1 T2 n e Z m i acc).2=acc++zCv (segB T1 T2 n e Z) i m
 | 0,i,acc,_=>⟨fun j h1 h2=>by omega,by simp[uL,zCv]⟩
 | m+1,i,acc,h=>by
   by_cases h0:(zCI T1 T2 (min (n-i*yP n e) (yP n e)) (xM n e i Z)).1=0
   ·rw[zMd rfl h0] at h ⊢
    obtain⟨h1,h2⟩:=zKK T1 T2 n e Z m (i+1) _ h
    refine⟨fun j a b=> ?_, ?_⟩
    ·by_cases hj:j=i
     ·subst hj;exact h0
     ·exact h1 j (by omega) (by omega)
    ·rw[h2,zGM,wG0,wG0]
     rfl
   ·rw[zJT rfl h0] at h;exact absurd h h0
theorem zQz {cs1 xs1 cs2 xs2:List Int} (l1:cs1.length=16) (l2:cs2.length=16) (z1:yC cs1 xs1=0) (z2:yC cs2 xs2=0) {n e:Nat} {Z:List Int} (hZ:Z.length=n*64) {i:Nat} (h:(qD (xG (zM (zG cs1 16) xs1) (zM (zG cs2 16) xs2)) (zAZ n e i) (xM n e i Z) []).1=0) :
 uB true (zM (zG cs1 16) xs1) (zM (zG cs2 16) xs2) ((zAZ n e i:Nat):Int) (plZ (xR (segB (zM (zG cs1 16) xs1) (zM (zG cs2 16) xs2) n e Z i)))=(0,xM n e i Z):=by
 rw[zHU]
 exact decR_back l1 l2 z1 z2 (zFy hZ) h
theorem zMD {cs1 xs1 cs2 xs2:List Int} (l1:cs1.length=16) (l2:cs2.length=16) (z1:yC cs1 xs1=0) (z2:yC cs2 xs2=0) {n e:Nat} {Z:List Int} (hZ:Z.length=n*64) (x:Nat→List Nat) (K:Nat): ∀ (m i:Nat) (acc:List Int),i+m=K →
 (∀ j,i≤j→j<i+m→uB true (zM (zG cs1 16) xs1) (zM (zG cs2 16) xs2) ((zAZ n e j:Nat):Int) (plZ (xR (x j)))=(0,xM n e j Z)) →
 zAx (zM (zG cs1 16) xs1) (zM (zG cs2 16) xs2) n e ((List.range K).map fun j=>xR (x j)) m i acc=(0,acc++(List.range' i m).flatMap fun j=>xM n e j Z)
 | 0,i,acc,_,_=>by simp[zAx]
 | m+1,i,acc,hK,h=>by
   have hg:((List.range K).map fun j=>xR (x j)).getD i []=xR (x i):=by
    rw[wF2,wC0,List.getElem?_range (by omega)]
    rfl
   have h1:=h i (wA5 _) (by omega)
   rw[sdGo_ok (r:=(0,xM n e i Z)) (by rw[hg,h1]) rfl,zMD l1 l2 z1 z2 hZ x K m (i+1) _ (by omega) (fun j a b=>h j (by omega) (by omega)),wJ7,wJ0,wG0]
theorem scan_back {cs1 xs1 cs2 xs2:List Int} (l1:cs1.length=16) (l2:cs2.length=16) (z1:yC cs1 xs1=0) (z2:yC cs2 xs2=0) {n e:Nat} {Z:List Int} (hZ:Z.length=n*64) (h:(zCF (zM (zG cs1 16) xs1) (zM (zG cs2 16) xs2) n e Z).1=0) :
 (zCF (zM (zG cs1 16) xs1) (zM (zG cs2 16) xs2) n e Z).2=zCv (segB (zM (zG cs1 16) xs1) (zM (zG cs2 16) xs2) n e Z) 0 (yK n e) ∧
 (∀ j,j<yK n e→(qD (xG (zM (zG cs1 16) xs1) (zM (zG cs2 16) xs2)) (zAZ n e j) (xM n e j Z) []).1=0) ∧
 zAn (zM (zG cs1 16) xs1) (zM (zG cs2 16) xs2) n e (zCF (zM (zG cs1 16) xs1) (zM (zG cs2 16) xs2) n e Z).2=(0,Z):=by
 have hbe:qF n Z=0:=by
  by_cases h0:qF n Z=0
  ·exact h0
  ·unfold zCF at h;rw[if_pos h0] at h;exact absurd h h0
 have hsc:zCF (zM (zG cs1 16) xs1) (zM (zG cs2 16) xs2) n e Z=uL (zM (zG cs1 16) xs1) (zM (zG cs2 16) xs2) n e Z (yK n e) 0 []:=by
  unfold zCF;rw[if_neg (by simpa using hbe)]
 rw[hsc] at h ⊢
 obtain⟨h1,h2⟩:=zKK _ _ n e Z (yK n e) 0 [] h
 rw[wK7] at h2
 refine⟨h2,fun j hj=>h1 j (by omega) (by omega), ?_⟩
 rw[h2]
 have hK:=cutK_pos n e
 unfold zAn
 have hs:=sp_joined (segB (zM (zG cs1 16) xs1) (zM (zG cs2 16) xs2) n e Z) (yK n e-1)
 rw[show yK n e-1+1=yK n e by omega] at hs
 rw[hs]
 dsimp only
 have hw:zAy n e ((List.range (yK n e)).map fun j=>xR (segB (zM (zG cs1 16) xs1) (zM (zG cs2 16) xs2) n e Z j)) ((List.range' 1 (yK n e-1)).map fun j=>208+(j-1)%8)=0:=by
  unfold zAy
  rw[if_neg (by simp),zNN (yK n e-1) 1 (by omega),if_pos rfl]
 rw[hw,if_neg (by simp),zMD l1 l2 z1 z2 hZ _ (yK n e) (yK n e) 0 [] (by omega) (fun j a b=>zQz l1 l2 z1 z2 hZ (h1 j (by omega) b))]
 rw[wK7, ←List.range_eq_range',zJv n e Z hZ _ (wA5 _),atK_end,wC4 (by omega)]
def PcErr (z:Int) (w:World) (e:Ending) (w':World):Prop:=e=.returned (.tuple #[.slice none 0 0,.slice none 0 0,.int .i64 z])∧Ext w w'
theorem zPq (t1 t2:List Value) (v:Value) (bs:List Nat) (nn ev:Int) (w:World) (he:0≤ev∧ev≤100) (hn:0≤nn∧nn≤400) (hs:SL w 1 v bs.length (zD bs)) (hlt: ∀ b∈bs,b<256) (hl:bs.length≤1048576) (h1:t1.length=17) (h2:t2.length=17)
 (o1:t1.toArray.all (·.oneCell')=true) (o2:t2.toArray.all (·.oneCell')=true)
 (C1: ∀ W,Ext w W→Calls Tryz.prog 102 #[.agg t1.toArray] W fun e W'=>e=.returned (.int .i64 0)∧Ext W W')
 (C2: ∀ W,Ext w W→Calls Tryz.prog 102 #[.agg t2.toArray] W fun e W'=>e=.returned (.int .i64 0)∧Ext W W') :
 Calls Tryz.prog 109 #[.agg (t1++t2).toArray,v,.int .i64 nn,.int .i64 ev] w (SpIsN (xN bs [] [] []) w):=by
 have hl1:=zA h1
 have hl2:=zA h2
 have HB2:=zA (zFP t1 t2 h1 h2)
 have HRT:=zA (fun W g (hb:Blk W g 42 (t1++t2).toArray)=>uF h1 hb)
 have HRU:=zA (fun W g (hb:Blk W g 44 (t1++t2).toArray)=>uF h1 hb)
 have hs1:Hid (t1.toArray.size=17):=zA (by simpa using h1)
 have hs2:Hid (t2.toArray.size=17):=zA (by simpa using h2)
 have hz17:Hid ((ints (List.replicate 16 0)++[Value.slice none 0 0]).toArray.size=17):=zA (by simp[ints])
 have HO1:=zA o1
 have HO2:=zA o2
 have HC1:=zA C1
 have HC2:=zA C2
 have H15:Hid (decide (ev<0)=false):=zA (by rw[decide_eq_false_iff_not];omega)
 have H18:Hid (decide (100<ev)=false):=zA (by rw[decide_eq_false_iff_not];omega)
 have H22:Hid (decide (nn<0)=false):=zA (by rw[decide_eq_false_iff_not];omega)
 have H26:Hid (decide (400<nn)=false):=zA (by rw[decide_eq_false_iff_not];omega)
 have HSP:=zA (fun W (h:Ext w W)=>zJX bs v W (hs.ext h) hlt hl)
 generalize xN bs [] [] []=z at *
 clear o1 o2 C1 C2 h1 h2 he hn hs hlt hl
 go_enter Tryz.func109,Tryz.ntmps109
 go_wp2_with (first
  | ((with_reducible apply gS 4);refine wBox rfl 44 (.tmp 0) rfl (t1++t2).toArray rfl ?_;intro w1 g hb1 hx1 hg;have hr1:=HRU.out _ _ hb1)
  | ((with_reducible apply gS 15);refine zB rfl (.bool false) (zR rfl rfl rfl H15.out) ?_)
  | ((with_reducible apply gS 18);refine xC (by rfl) (.bool false) (xP rfl rfl rfl H18.out) ?_)
  | ((with_reducible apply gS 22);refine xC (by rfl) (.bool false) (zR rfl rfl rfl H22.out) ?_)
  | ((with_reducible apply gS 26);refine xC (by rfl) (.bool false) (xP rfl rfl rfl H26.out) ?_)
  | ((with_reducible apply gS 29);refine wpList_load_mid rfl 42 (.tmp 28) rfl g 0 rfl t1 _ hr1.1 Tryz.underlying42 rfl (by rw[hl1.out];exact zO) ?_)
  | ((with_reducible apply gS 31);refine wpList_load_mid rfl 42 (.tmp 30) rfl g 17 rfl t2 _ hr1.2 Tryz.underlying42 rfl (by rw[hl2.out];exact zO) ?_)
  | ((with_reducible apply gS 32);refine Go.Great.wpList_buildSliceTo rfl 115 42 2 _ rfl _ rfl (some 32) rfl Tryz.underlying115 _ (by simp[Act.eval];exact HB2.out) ?_))
 have hbn0:=Blk.new w1 42 (t1++t2).toArray
 have hb3:=hb1.alloc (.cells (t1++t2).toArray 42)
 have hx3:=hx1.alloc (.cells (t1++t2).toArray 42)
 clear hb1 hr1 hx1
 go_loopw [34] (fun i wr=> ∃ k:Nat,k≤2∧i=.int .i64 (k:Int)∧Blk wr g 44 (t1++t2).toArray∧Blk wr w1.heap.size 42 (t1++t2).toArray∧Ext w wr) (fun i _=>2-(intOf i).toNat)
 case atStart=>exact⟨0,by omega,rfl,hb3,hbn0,hx3⟩
 case round =>
  clear hb3 hbn0 hx3
  obtain⟨k,hk,rfl,hb,hbn,hx⟩:=hrel
  rcases (by omega:k=0∨k=1∨k=2) with rfl | rfl | rfl
  ·have hr:=(HRT.out _ _ hbn).1
   go_wp2_with (first
    | ((with_reducible apply gS 37);refine wpList_load_mid rfl 42 (.tmp 36) rfl _ 0 rfl t1 _ hr Tryz.underlying42 rfl (by rw[hl1.out];exact zO) ?_)
    | ((with_reducible apply gS 12);refine wAlo' rfl (some 12) rfl 42 rfl _ uO ?_;intro w4 ga hba4 hx4 hga)
    | ((with_reducible apply gT 12 37);refine wStB rfl 42 (.tmp 12) (.tmp 37) rfl _ _ rfl rfl hba4 17 zO hs1.out hz17.out HO1.out ?_;intro w5 hba5 hg5;have hx5:=(hx.trans hx4).grown hg5 (by have:=hx.size;omega))
    | ((with_reducible apply gS 38);refine wLdB rfl 42 (.tmp 12) rfl _ rfl hba5 _ Tryz.underlying42 rfl 17 zO hs1.out ?_)
    | (go_at_call 102;(with_reducible refine (HC1.out _ hx5).mono ?_);rintro e w6 ⟨rfl,hx6⟩))
   go_roundw
   case rel=>exact⟨1,by omega,by go_num,((hb.ext hx4).grown hg5 (by have:=hb.lt;simp;omega)).ext hx6,((hbn.ext hx4).grown hg5 (by have:=hbn.lt;simp;omega)).ext hx6,hx5.trans hx6⟩
   case measure=>simp[intOf]
  ·have hr:=(HRT.out _ _ hbn).2
   go_wp2_with (first
    | ((with_reducible apply gS 37);refine wpList_load_mid rfl 42 (.tmp 36) rfl _ 17 rfl t2 _ hr Tryz.underlying42 rfl (by rw[hl2.out];exact zO) ?_)
    | ((with_reducible apply gS 12);refine wAlo' rfl (some 12) rfl 42 rfl _ uO ?_;intro w4 ga hba4 hx4 hga)
    | ((with_reducible apply gT 12 37);refine wStB rfl 42 (.tmp 12) (.tmp 37) rfl _ _ rfl rfl hba4 17 zO hs2.out hz17.out HO2.out ?_;intro w5 hba5 hg5;have hx5:=(hx.trans hx4).grown hg5 (by have:=hx.size;omega))
    | ((with_reducible apply gS 38);refine wLdB rfl 42 (.tmp 12) rfl _ rfl hba5 _ Tryz.underlying42 rfl 17 zO hs2.out ?_)
    | (go_at_call 102;(with_reducible refine (HC2.out _ hx5).mono ?_);rintro e w6 ⟨rfl,hx6⟩))
   go_roundw
   case rel=>exact⟨2,by omega,by go_num,((hb.ext hx4).grown hg5 (by have:=hb.lt;simp;omega)).ext hx6,((hbn.ext hx4).grown hg5 (by have:=hbn.lt;simp;omega)).ext hx6,hx5.trans hx6⟩
   case measure=>simp[intOf]
  ·clear HRT HRU HB2 HC1 HC2 hbn hs1 hs2 hz17 HO1 HO2 hl1 hl2
   cases z with
   | none =>
     go_wp2_with (first
      | (go_at_call 34;(with_reducible refine (HSP.out _ hx).mono ?_);rintro e w2 ⟨rfl,hx2⟩))
     go_ret3
     exact⟨rfl,hx.trans hx2⟩
   | some q =>
     obtain⟨P,M⟩:=q
     go_wp2_with (first
      | (go_at_call 34;(with_reducible refine (HSP.out _ hx).mono ?_);rintro e w2 ⟨A,c,B,d,VS,rfl,k1,k2,k3,hx2,k4⟩))
     go_ret3
     exact⟨A,c,B,d,VS,rfl,k1,k2,k3,hx.trans hx2,k4⟩
section
def WhIs (x:Int) (P:List (List Nat)) (w:World) (e:Ending) (w':World):Prop :=
 Ext w w'∧if x=0 then ∃ A c VS,e=.returned (.tuple #[.slice A P.length c,.int .i64 0])∧SL w' 1 (.slice A P.length c) P.length VS∧Pieces w' VS P∧NZ VS
  else e=.returned (.tuple #[.slice none 0 0,.int .i64 x])
theorem whole_err (tt:Array Value) (hsz0:tt.size=34) (v:Value) (nn ev:Int) (z:Int) (hz:z≠0) (w:World)
 (PC: ∀ W,Ext w W→Calls Tryz.prog 109 #[.agg tt,v,.int .i64 nn,.int .i64 ev] W (PcErr z W)):Calls Tryz.prog 122 #[.agg tt,v,.int .i64 nn,.int .i64 ev] w (WhIs z [] w):=by
 have HPC:=zA PC
 have hsz:=zA hsz0
 have hzb:(z !=0)=true:=by simpa using hz
 have HZ:=zA hz
 clear PC hsz0 hz
 go_enter Tryz.func122,Tryz.ntmps122
 go_wp2_with (first
  | ((with_reducible apply gS 4);refine wBox rfl 44 (.tmp 0) rfl tt rfl ?_;intro w1 g hb1 hx1 hg)
  | ((with_reducible apply gS 16);refine wLdB rfl 44 (.tmp 4) rfl g rfl hb1 _ Tryz.underlying44 rfl 34 qA hsz.out ?_)
  | (go_at_call 109;(with_reducible refine (HPC.out _ hx1).mono ?_);rintro e w2 ⟨rfl,hx2⟩))
 refine bodyPost_ret (results_tmp2 rfl _ _ _) rfl ?_
 refine⟨hx1.trans hx2, ?_⟩
 rw[if_neg HZ.out]
 rfl
attribute [local irreducible] qS yP yK vG xN
theorem zRL (tt:Array Value) (hsz0:tt.size=34) (v:Value) (n e:Nat) (hn:n≤1000000) (he:e≤1000000) (P:List (List Nat)) (M:List Nat) (hM:M.length≤100000000) (hP:P.length≤100000000) (w:World)
 (PC: ∀ W,Ext w W→Calls Tryz.prog 109 #[.agg tt,v,.int .i64 (n:Int),.int .i64 (e:Int)] W (SpIsN (some (P,M)) W)):Calls Tryz.prog 122 #[.agg tt,v,.int .i64 (n:Int),.int .i64 (e:Int)] w (WhIs (zAy n e P M) P w):=by
 have HPC:=zA PC
 have hsz:=zA hsz0
 have HSP:=zA (fun W=>zHI n e hn he W)
 have hKl:=zEu (n:=n) (e:=e)
 have HMK:=zA (fun i W (h:i<M.length)=>zNf i (by omega) W)
 obtain⟨x,hx0⟩: ∃ x,zAy n e P M=x:=⟨_,rfl⟩
 have HX4:Hid (P.length≠yK n e→x=4):=zA (fun h=>by rw[←hx0];unfold zAy;rw[if_pos h])
 have HX6:Hid (P.length=yK n e→vG M 0=false→x=6):=zA (fun h h2=>by rw[←hx0];unfold zAy;rw[if_neg (by simp[h]),if_neg (by simp[h2])])
 have HX0:Hid (P.length=yK n e→vG M 0=true→x=0):=zA (fun h h2=>by rw[←hx0];unfold zAy;rw[if_neg (by simp[h]),if_pos h2])
 rw[hx0]
 obtain⟨K,hK⟩: ∃ K,yK n e=K:=⟨_,rfl⟩
 rw[hK] at HSP HX4 HX6 HX0 hKl
 obtain⟨pn,hpn⟩: ∃ k,P.length=k:=⟨_,rfl⟩
 have HPN:=zA hpn
 have HRS:Hid (∀ W e' W',SpIsN (some (P,M)) W e' W'→ ∃ A c B d VS,e'=.returned (.tuple #[.slice A pn c,.slice B M.length d,.int .i64 0])∧SL W' 1 (.slice A pn c) pn VS∧Pieces W' VS P∧SL W' 1 (.slice B M.length d) M.length (ints (M.map Int.ofNat))∧Ext W W'∧NZ VS):=zA (fun W e' W' h=>by rw[←hpn];exact h)
 rw[hpn] at HX4 HX6 HX0 hP
 obtain⟨ml,hml⟩: ∃ k,M.length=k:=⟨_,rfl⟩
 have HML:=zA hml
 rw[hml] at HRS hM HMK
 clear PC hsz0 hx0 hK hpn hml
 by_cases hpk:pn=K
 ·have H33:Hid (decide ((pn:Int)≠(K:Int))=false):=zA (by simp[hpk])
  have HX6:=zA (HX6.out hpk)
  have HX0:=zA (HX0.out hpk)
  clear hpk HX4
  go_enter Tryz.func122,Tryz.ntmps122
  go_wp2_with (first
   | ((with_reducible apply gS 4);refine wBox rfl 44 (.tmp 0) rfl tt rfl ?_;intro w1 g hb1 hx1 hg)
   | ((with_reducible apply gS 16);refine wLdB rfl 44 (.tmp 4) rfl g rfl hb1 _ Tryz.underlying44 rfl 34 qA hsz.out ?_)
   | (go_at_call 109;(with_reducible refine (HPC.out _ hx1).mono ?_);intro e2 w2 h2;obtain⟨A,c,B,d,VS,rfl,k1,k2,k3,hx2,k4⟩:=HRS.out _ _ _ h2;have hx2':=hx1.trans hx2)
   | (go_at_call 99;(with_reducible refine (HSP.out _).mono ?_);rintro e3 w3 ⟨B3,d3,rfl, -,hx3⟩;have hx3':=hx2'.trans hx3)
   | ((with_reducible apply gS 33);refine zB rfl (.bool false) (zAK rfl rfl rfl H33.out) ?_))
  have k1':=zA (k1.ext hx3)
  have k2':=zA (k2.ext hx3)
  have k3':=zA (k3.ext hx3)
  have HK4:=zA k4
  have HX3:=zA hx3'
  have HM0:Hid (vG (M.drop 0) 0=vG M 0):=zA (by rw[wK5])
  clear hb1 hx1 hg k1 k2 k3 k4 hx2 hx2' hx3 hx3' h2
  go_loopw [36] (fun iv wr=> ∃ i:Nat,i≤ml∧iv=.int .i64 (i:Int)∧Hid (vG (M.drop i) i=vG M 0)∧Ext w3 wr) (fun i _=>ml-(intOf i).toNat)
  case atStart=>exact⟨0,by omega,rfl,HM0,Ext.refl _⟩
  case round =>
   clear HM0
   obtain⟨i,hi,rfl,HMI,hx⟩:=hrel
   by_cases hlt:i<ml
   ·obtain⟨ad,u,hB,hab,hxk,hcell⟩:=k3'.out.at1 hlt
    subst hB
    have hiM:i<M.length:=by rw[HML.out];exact hlt
    have hu:u=.int .i64 ((M[i]:Nat):Int):=by
     have h2:(ints (M.map Int.ofNat))[i]? =some (.int .i64 ((M[i]:Nat):Int)):=by
      rw[ints,wC0,wC0,wA2 hiM]
      rfl
     rw[h2] at hxk
     exact (Option.some.inj hxk).symm
    subst hu
    have hcell0:wr.cell? (ad.add i)=some (.int .i64 ((M[i]:Nat):Int)):=(hx.cell (p:=ad.add i) (by rw[yH];exact hab)).trans hcell
    have HST:=zA (zQo hiM)
    have HMQ:=zA (fun W=>HMK.out i W hlt)
    obtain⟨q,hq⟩: ∃ q,208+i%8=q:=⟨_,rfl⟩
    rw[hq] at HST HMQ
    clear hxk hcell hq
    generalize M[i]=y at *
    by_cases hy:y=q
    ·have H44:Hid (decide ((y:Int)≠(q:Int))=false):=zA (by simp[hy])
     have HM1:Hid (vG (M.drop (i+1)) (i+1)=vG M 0):=zA (by rw[←HMI.out,HST.out];simp[hy])
     clear hy
     go_wp2_with (first
      | (go_at_call 103;(with_reducible refine (HMQ.out _).mono ?_);rintro e5 w5 ⟨rfl,rfl⟩)
      | ((with_reducible apply gS 44);refine zB rfl (.bool false) (zAK rfl rfl rfl H44.out) ?_))
     go_roundw
     case rel=>exact⟨i+1,by omega,by go_num,HM1,hx⟩
     case measure=>simp[intOf];omega
    ·have H44:Hid (decide ((y:Int)≠(q:Int))=true):=zA (by rw[wB3];omega)
     have HXE:Hid (x=6):=zA (HX6.out (by rw[←HMI.out,HST.out];simp[hy]))
     clear hy
     go_wp2_with (first
      | (go_at_call 103;(with_reducible refine (HMQ.out _).mono ?_);rintro e5 w5 ⟨rfl,rfl⟩)
      | ((with_reducible apply gS 44);refine zB rfl (.bool true) (zAK rfl rfl rfl H44.out) ?_))
     refine bodyPost_ret (results_tmp2 rfl _ _ _) rfl ?_
     rw[HXE.out]
     refine⟨HX3.out.trans hx, ?_⟩
     rw[if_neg (show ¬(6:Int)=0 by decide)]
     rfl
   ·have HXE:Hid (x=0):=zA (HX0.out (by rw[←HMI.out];exact zOs (by rw[HML.out];omega)))
    go_wp2_with fail
    refine bodyPost_ret (results_tmp2 rfl _ _ _) rfl ?_
    rw[HXE.out]
    refine⟨HX3.out.trans hx, ?_⟩
    rw[if_pos rfl,HPN.out]
    exact⟨A,c,VS,rfl,k1'.out.ext hx,k2'.out.ext hx,HK4.out⟩
 ·have H33:Hid (decide ((pn:Int)≠(K:Int))=true):=zA (by rw[wB3];omega)
  have HXE:=zA (HX4.out hpk)
  clear hpk HX4 HX6 HX0
  go_enter Tryz.func122,Tryz.ntmps122
  go_wp2_with (first
   | ((with_reducible apply gS 4);refine wBox rfl 44 (.tmp 0) rfl tt rfl ?_;intro w1 g hb1 hx1 hg)
   | ((with_reducible apply gS 16);refine wLdB rfl 44 (.tmp 4) rfl g rfl hb1 _ Tryz.underlying44 rfl 34 qA hsz.out ?_)
   | (go_at_call 109;(with_reducible refine (HPC.out _ hx1).mono ?_);intro e2 w2 h2;obtain⟨A,c,B,d,VS,rfl,k1,k2,k3,hx2,k4⟩:=HRS.out _ _ _ h2;have hx2':=hx1.trans hx2)
   | (go_at_call 99;(with_reducible refine (HSP.out _).mono ?_);rintro e3 w3 ⟨B3,d3,rfl, -,hx3⟩;have hx3':=hx2'.trans hx3)
   | ((with_reducible apply gS 33);refine zB rfl (.bool true) (zAK rfl rfl rfl H33.out) ?_))
  refine bodyPost_ret (results_tmp2 rfl _ _ _) rfl ?_
  rw[HXE.out]
  refine⟨hx3', ?_⟩
  rw[if_neg (show ¬(4:Int)=0 by decide)]
  rfl
end
end Go.Proofs.YtkggcjdlpendfaaGreatDoor
