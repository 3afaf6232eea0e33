import Derived.RangeFuncNested
import Derived.RangeFuncBound
import Derived.RangeFuncCalls
import Derived.RangeFuncLeaves
import Derived.OwnWalkIn
import Derived.TacticsInMore
import Derived.LoopNIn
import Derived.LoopIn
import Derived.Test.YtkggcjdlpendfaaGreatDoorMTopHurtUptoCard19
set_option linter.all false
set_option maxRecDepth 20000
set_option maxHeartbeats 8000000
namespace Go.Proofs.YtkggcjdlpendfaaGreatDoor
open Go.RowKit Tryz
def okW_at {cs:List Int} (h:okW cs=true) {k:Nat} (hk:k<16):jT cs (k+1)+1≤2 ^ (k+1):=by have:=wI3.1 h k (wF2.2 hk);simpa using this
def zMT {cs:List Int} (h:okW cs=true):∀k,k≤16→∀p∈zC cs k,p.2+2≤2 ^ p.1
 | 0,_,p,hp=>by simp[zC] at hp
 | k+1,hk,p,hp=>by
   rw[zC] at hp;rcases wD3.1 hp with hp | hp
   ·exact zMT h k (by omega) p hp
   unfold uF at hp;obtain⟨i,hi,rfl⟩:=wD2.1 hp;have hi:=wF2.1 hi;have h1:=okW_at h (k:=k) (by omega);rw[jT] at h1;show 2*jT cs k+i+2≤2 ^ (k+1)
   omega
def zQt:∀L:List Bool,L.count false=0→L=List.replicate L.length true
 | [],_=>rfl
 | b::L,h=>by
   cases b with
   | false=>simp at h
   | true =>
     rw[wA8,wG1, ←zQt L (by simpa using h)]
def digs_zero {c l:Nat} (h:c+2≤2 ^ l):1≤(qD c l).count false:=by
 refine wR0 λh0=> ?_
 have e:=zQt _ h0;rw[qH] at e;have e2:yK (qD c l)=c:=zBF (by omega);rw[e,zJT] at e2;omega
def tokB (T1 T2:List Tok) (x:Tok×Bool):List Bool:=zBm (if x.2 then T1 else T2) x.1.1++qD x.1.2.2.toNat x.1.2.1.toNat
def zQr (T1 T2:List Tok):∀(l:List (Tok×Bool)) (L:List Bool),(qB (yV T1 T2) l L).1=0→(qB (yV T1 T2) l L).2=L++l.flatMap (tokB T1 T2)∧∀x∈l,(qL (if x.2 then T1 else T2) x.1.1).isSome=true
 | [],L,_=>⟨by simp[qB],λx hx=>by cases hx⟩
 | (t,b)::r,L,h=>by
   by_cases h0:(yV T1 T2 L t b).1=0
   ·rw[zBC h0] at h ⊢;obtain⟨h1,h2⟩:=zQr T1 T2 r _ h;unfold yV at h0 h1
    cases hf:qL (if b then T1 else T2) t.1 with
    | none=>rw[hf] at h0;exact absurd h0 (show ¬(5:Int)=0 by decide)
    | some u =>
      rw[hf] at h1;refine⟨?_,λx hx=> ?_⟩
      ·unfold yV;rw[hf,h1,wG2];simp[tokB,wI7]
      rcases wI8.1 hx with rfl | hx
      ·show (qL (if b then T1 else T2) t.1).isSome=true
       rw[hf];rfl
      exact h2 x hx
   rw[zDh h0] at h;exact absurd h h0
def tok_zero {T1 T2:List Tok} (h1:∀s t,qL T1 s=some t→t.2.2.toNat+2≤2 ^ t.2.1.toNat) (h2:∀s t,qL T2 s=some t→t.2.2.toNat+2≤2 ^ t.2.1.toNat) {x:Tok×Bool} (hx:(qL (if x.2 then T1 else T2) x.1.1).isSome=true):1≤(tokB T1 T2 x).count false:=by
 obtain⟨t,ht⟩:=wB1.1 hx;unfold tokB zBm;rw[ht,wR3]
 have:t.2.2.toNat+2≤2 ^ t.2.1.toNat:=by
  cases hb:x.2 with
  | true=>rw[hb] at ht;exact h1 _ _ ht
  | false=>rw[hb] at ht;exact h2 _ _ ht
 have:=digs_zero this;exact wJ1 this (Nat.le_add_right _ _)
def zOl {T1 T2:List Tok} (h1:∀s t,qL T1 s=some t→t.2.2.toNat+2≤2 ^ t.2.1.toNat) (h2:∀s t,qL T2 s=some t→t.2.2.toNat+2≤2 ^ t.2.1.toNat):∀(l:List (Tok×Bool)),(∀x∈l,(qL (if x.2 then T1 else T2) x.1.1).isSome=true)→l.length≤(l.flatMap (tokB T1 T2)).count false
 | [],_=>by simp
 | x::r,h=>by
   have a:=tok_zero h1 h2 (h x (by simp));have b:=zOl h1 h2 r λy hy=>h y (by simp[hy])
   rw[wG2,wR3,wA8];omega
def zPh {cs xs:List Int} (hl:cs.length=16) (hz:zQ cs xs=0):∀s t,qL (zH (zC cs 16) xs) s=some t→t.2.2.toNat+2≤2 ^ t.2.1.toNat:=λs t h=>by
 obtain⟨-,-,-,q4,-,-⟩:=zAy hz;have hm:=wK3 h;unfold zH at hm
 obtain⟨p,hp,x,hx,rfl⟩:∃p,p∈zC cs 16∧∃x,x∈xs∧((x,(p.1:Int),(p.2:Int)):Tok)=t:=by
  obtain⟨i,hi,e⟩:=wL3 hm;rw[wK5] at e;exact⟨_,wC7 _,_,wC7 _,e⟩
 exact zMT q4 16 (wA5 _) p hp
def zSl {cs1 xs1 cs2 xs2:List Int} (l1:cs1.length=16) (l2:cs2.length=16) (z1:zQ cs1 xs1=0) (z2:zQ cs2 xs2=0) {n:Nat} {Z:List Int} (h:(xN (yV (zH (zC cs1 16) xs1) (zH (zC cs2 16) xs2)) n Z []).1=0) :
 8*(yA (qU (vU (xN (yV (zH (zC cs1 16) xs1) (zH (zC cs2 16) xs2)) n Z []).2))).length+(xM Z n 0).length≤2*((xM Z n 0).flatMap (tokB (zH (zC cs1 16) xs1) (zH (zC cs2 16) xs2))).length+14:=by
 have f1:=zPh l1 z1;have f2:=zPh l2 z2;generalize zH (zC cs1 16) xs1=T1 at *;generalize zH (zC cs2 16) xs2=T2 at *;unfold xN at h ⊢
 by_cases h1:400<n
 ·rw[if_pos h1] at h;exact absurd h (by decide)
 rw[if_neg h1] at h ⊢
 by_cases h2:zR Z (-2047) 2047=false
 ·rw[if_pos h2] at h;exact absurd h (by decide)
 rw[if_neg h2] at h ⊢;obtain⟨e1,e2⟩:=zQr T1 T2 _ _ h;have h3:=zOl f1 f2 _ e2;rw[e1,wG4];have h4:=stuff_pad ((xM Z n 0).flatMap (tokB T1 T2));omega
def tab0:List Tok:=zH (zC cs0 16) xs0
def tab4:List Tok:=zH (zC cs4 16) xs4
def zPb {s:Int} (h0:0≤s) (h1:s≤255):jL tab0 s=zDL s:=by
 have h:=(zLy ⟨s.toNat,by omega⟩).2;have e:((s.toNat:Nat):Int)=s:=by omega
 dsimp only at h;rw[e] at h;exact h
def zCX:List (Tok×Bool)→Int
 | []=>0
 | x::r=>x.1.2.1+zCX r
def zRR:∀a b,zCX (a++b)=zCX a+zCX b
 | [],b=>by rw[wG4,zCX,Int.zero_add]
 | x::a,b=>by rw[wE1,zCX,zCX,zRR a b];omega
def zQy (T1 T2:List Tok):∀l:List (Tok×Bool),(∀x∈l,0≤x.1.2.1)→(((l.flatMap (tokB T1 T2)).length:Nat):Int)=zBP T1 T2 l+zCX l
 | [],_=>rfl
 | x::r,h=>by
   have hx:=h x (by simp);have ih:=zQy T1 T2 r λy hy=>h y (by simp[hy])
   have e:(tokB T1 T2 x).length=jL (if x.2 then T1 else T2) x.1.1+x.1.2.1.toNat:=by
    unfold tokB jL;rw[wE2,qH]
   rw[wG2,wE2,e,zBP,zCX];omega
def PcErr (z:Int) (w:World) (e:Ending) (w':World):Prop:=e=.returned (.tuple #[.slice none 0 0,.slice none 0 0,.int .i64 z])∧Ext w w'
def zSx (t1 t2:List Value) (v:Value) (bs:List Nat) (nn ev:Int) (w:World) (he:0≤ev∧ev≤100) (hn:0≤nn∧nn≤400) (hs:SL w 1 v bs.length (zF bs)) (hlt:∀b∈bs,b<256) (hl:bs.length≤1048576) (h1:t1.length=17) (h2:t2.length=17)
 (o1:t1.toArray.all (·.oneCell')=true) (o2:t2.toArray.all (·.oneCell')=true)
 (C1:∀W,Ext w W→Calls prog 102 #[.agg t1.toArray] W λe W'=>e=.returned (.int .i64 0)∧Ext W W')
 (C2:∀W,Ext w W→Calls prog 102 #[.agg t2.toArray] W λe W'=>e=.returned (.int .i64 0)∧Ext W W') :
 Calls prog 109 #[.agg (t1++t2).toArray,v,.int .i64 nn,.int .i64 ev] w (SpIsN (xW bs [] [] []) w):=by
 have hl1:=zA h1;have hl2:=zA h2;have HB2:=zA (zHJ t1 t2 h1 h2);have HRT:=zA (λW g (hb:Blk W g 42 (t1++t2).toArray)=>zAL h1 hb);have HRU:=zA (λW g (hb:Blk W g 44 (t1++t2).toArray)=>zAL h1 hb);have hs1:Hid (t1.toArray.size=17):=zA (by simpa using h1);have hs2:Hid (t2.toArray.size=17):=zA (by simpa using h2);have hz17:Hid ((ints (List.replicate 16 0)++[Value.slice none 0 0]).toArray.size=17):=zA (by simp[ints]);have HO1:=zA o1;have HO2:=zA o2;have HC1:=zA C1;have HC2:=zA C2;have H15:Hid (decide (ev<0)=false):=zA (by rw[decide_eq_false_iff_not];omega);have H18:Hid (decide (100<ev)=false):=zA (by rw[decide_eq_false_iff_not];omega);have H22:Hid (decide (nn<0)=false):=zA (by rw[decide_eq_false_iff_not];omega);have H26:Hid (decide (400<nn)=false):=zA (by rw[decide_eq_false_iff_not];omega);have HSP:=zA (λW (h:Ext w W)=>zMW bs v W (hs.ext h) hlt hl);generalize xW bs [] [] []=z at *;clear o1 o2 C1 C2 h1 h2 he hn hs hlt hl;go_enter func109,ntmps109
 go_wp2_with (first
  | ((with_reducible apply gS 4);refine wBox rfl 44 (.tmp 0) rfl (t1++t2).toArray rfl ?_;intro w1 g hb1 hx1 hg;have hr1:=HRU.out _ _ hb1)
  | ((with_reducible apply gS 15);refine zB rfl (.bool false) (yB rfl rfl rfl H15.out) ?_)
  | ((with_reducible apply gS 18);refine xV (by rfl) (.bool false) (xY rfl rfl rfl H18.out) ?_)
  | ((with_reducible apply gS 22);refine xV (by rfl) (.bool false) (yB rfl rfl rfl H22.out) ?_)
  | ((with_reducible apply gS 26);refine xV (by rfl) (.bool false) (xY rfl rfl rfl H26.out) ?_)
  | ((with_reducible apply gS 29);refine wpList_load_mid rfl 42 (.tmp 28) rfl g 0 rfl t1 _ hr1.1 underlying42 rfl (by rw[hl1.out];exact zX) ?_)
  | ((with_reducible apply gS 31);refine wpList_load_mid rfl 42 (.tmp 30) rfl g 17 rfl t2 _ hr1.2 underlying42 rfl (by rw[hl2.out];exact zX) ?_)
  | ((with_reducible apply gS 32);refine Go.Great.wpList_buildSliceTo rfl 115 42 2 _ rfl _ rfl (some 32) rfl underlying115 _ (by simp[Act.eval];exact HB2.out) ?_))
 have hbn0:=Blk.new w1 42 (t1++t2).toArray;have hb3:=hb1.alloc (.cells (t1++t2).toArray 42);have hx3:=hx1.alloc (.cells (t1++t2).toArray 42);clear hb1 hr1 hx1
 go_loopw [34] (λi wr=>∃k:Nat,k≤2∧i=.int .i64 (k:Int)∧Blk wr g 44 (t1++t2).toArray∧Blk wr w1.heap.size 42 (t1++t2).toArray∧Ext w wr) (λi _=>2-(intOf i).toNat)
 case atStart=>exact⟨0,by omega,rfl,hb3,hbn0,hx3⟩
 case round =>
  clear hb3 hbn0 hx3;obtain⟨k,hk,rfl,hb,hbn,hx⟩:=hrel;rcases (by omega:k=0∨k=1∨k=2) with rfl | rfl | rfl
  ·have hr:=(HRT.out _ _ hbn).1
   go_wp2_with (first
    | ((with_reducible apply gS 37);refine wpList_load_mid rfl 42 (.tmp 36) rfl _ 0 rfl t1 _ hr underlying42 rfl (by rw[hl1.out];exact zX) ?_)
    | ((with_reducible apply gS 12);refine wAlo' rfl (some 12) rfl 42 rfl _ zAW ?_;intro w4 ga hba4 hx4 hga)
    | ((with_reducible apply gT 12 37);refine wStB rfl 42 (.tmp 12) (.tmp 37) rfl _ _ rfl rfl hba4 17 zX hs1.out hz17.out HO1.out ?_;intro w5 hba5 hg5;have hx5:=(hx.trans hx4).grown hg5 (by have:=hx.size;omega))
    | ((with_reducible apply gS 38);refine wLdB rfl 42 (.tmp 12) rfl _ rfl hba5 _ underlying42 rfl 17 zX hs1.out ?_)
    | (go_at_call 102;(with_reducible refine (HC1.out _ hx5).mono ?_);rintro e w6 ⟨rfl,hx6⟩))
   go_roundw
   case rel=>exact⟨1,by omega,by go_num,((hb.ext hx4).grown hg5 (by have:=hb.lt;simp;omega)).ext hx6,((hbn.ext hx4).grown hg5 (by have:=hbn.lt;simp;omega)).ext hx6,hx5.trans hx6⟩
   case measure=>simp[intOf]
  ·have hr:=(HRT.out _ _ hbn).2
   go_wp2_with (first
    | ((with_reducible apply gS 37);refine wpList_load_mid rfl 42 (.tmp 36) rfl _ 17 rfl t2 _ hr underlying42 rfl (by rw[hl2.out];exact zX) ?_)
    | ((with_reducible apply gS 12);refine wAlo' rfl (some 12) rfl 42 rfl _ zAW ?_;intro w4 ga hba4 hx4 hga)
    | ((with_reducible apply gT 12 37);refine wStB rfl 42 (.tmp 12) (.tmp 37) rfl _ _ rfl rfl hba4 17 zX hs2.out hz17.out HO2.out ?_;intro w5 hba5 hg5;have hx5:=(hx.trans hx4).grown hg5 (by have:=hx.size;omega))
    | ((with_reducible apply gS 38);refine wLdB rfl 42 (.tmp 12) rfl _ rfl hba5 _ underlying42 rfl 17 zX hs2.out ?_)
    | (go_at_call 102;(with_reducible refine (HC2.out _ hx5).mono ?_);rintro e w6 ⟨rfl,hx6⟩))
   go_roundw
   case rel=>exact⟨2,by omega,by go_num,((hb.ext hx4).grown hg5 (by have:=hb.lt;simp;omega)).ext hx6,((hbn.ext hx4).grown hg5 (by have:=hbn.lt;simp;omega)).ext hx6,hx5.trans hx6⟩
   case measure=>simp[intOf]
  clear HRT HRU HB2 HC1 HC2 hbn hs1 hs2 hz17 HO1 HO2 hl1 hl2
  cases z with
  | none =>
    go_wp2_with (first
     | (go_at_call 34;(with_reducible refine (HSP.out _ hx).mono ?_);rintro e w2 ⟨rfl,hx2⟩))
    go_ret3
    exact⟨rfl,hx.trans hx2⟩
  | some q =>
    obtain⟨P,M⟩:=q
    go_wp2_with (first
     | (go_at_call 34;(with_reducible refine (HSP.out _ hx).mono ?_);rintro e w2 ⟨A,c,B,d,VS,rfl,k1,k2,k3,hx2,k4⟩))
    go_ret3
    exact⟨A,c,B,d,VS,rfl,k1,k2,k3,hx.trans hx2,k4⟩
section
def WhIs (x:Int) (P:List (List Nat)) (w:World) (e:Ending) (w':World):Prop :=
 Ext w w'∧if x=0 then ∃A c VS,e=.returned (.tuple #[.slice A P.length c,.int .i64 0])∧SL w' 1 (.slice A P.length c) P.length VS∧Pieces w' VS P∧NZ VS
  else e=.returned (.tuple #[.slice none 0 0,.int .i64 x])
def whole_err (tt:Array Value) (hsz0:tt.size=34) (v:Value) (nn ev:Int) (z:Int) (hz:z≠0) (w:World)
 (PC:∀W,Ext w W→Calls prog 109 #[.agg tt,v,.int .i64 nn,.int .i64 ev] W (PcErr z W)):Calls prog 122 #[.agg tt,v,.int .i64 nn,.int .i64 ev] w (WhIs z [] w):=by
 have HPC:=zA PC;have hsz:=zA hsz0;have hzb:(z !=0)=true:=by simpa using hz
 have HZ:=zA hz;clear PC hsz0 hz;go_enter func122,ntmps122
 go_wp2_with (first
  | ((with_reducible apply gS 4);refine wBox rfl 44 (.tmp 0) rfl tt rfl ?_;intro w1 g hb1 hx1 hg)
  | ((with_reducible apply gS 16);refine wLdB rfl 44 (.tmp 4) rfl g rfl hb1 _ underlying44 rfl 34 qG hsz.out ?_)
  | (go_at_call 109;(with_reducible refine (HPC.out _ hx1).mono ?_);rintro e w2 ⟨rfl,hx2⟩))
 refine bodyPost_ret (results_tmp2 rfl _ _ _) rfl ?_;refine⟨hx1.trans hx2, ?_⟩;rw[if_neg HZ.out];rfl
attribute [local irreducible] jG yM zL uI xW
def zTw (tt:Array Value) (hsz0:tt.size=34) (v:Value) (n e:Nat) (hn:n≤1000000) (he:e≤1000000) (P:List (List Nat)) (M:List Nat) (hM:M.length≤100000000) (hP:P.length≤100000000) (w:World)
 (PC:∀W,Ext w W→Calls prog 109 #[.agg tt,v,.int .i64 (n:Int),.int .i64 (e:Int)] W (SpIsN (some (P,M)) W)):Calls prog 122 #[.agg tt,v,.int .i64 (n:Int),.int .i64 (e:Int)] w (WhIs (zBv n e P M) P w):=by
 have HPC:=zA PC;have hsz:=zA hsz0;have HSP:=zA (λW=>zGa n e hn he W);have hKl:=zEO (n:=n) (e:=e);have HMK:=zA (λi W (h:i<M.length)=>zRH i (by omega) W);obtain⟨x,hx0⟩:∃x,zBv n e P M=x:=⟨_,rfl⟩
 have HX4:Hid (P.length≠zL n e→x=4):=zA (λh=>by rw[←hx0];unfold zBv;rw[if_pos h]);have HX6:Hid (P.length=zL n e→uI M 0=false→x=6):=zA (λh h2=>by rw[←hx0];unfold zBv;rw[if_neg (by simp[h]),if_neg (by simp[h2])]);have HX0:Hid (P.length=zL n e→uI M 0=true→x=0):=zA (λh h2=>by rw[←hx0];unfold zBv;rw[if_neg (by simp[h]),if_pos h2]);rw[hx0];obtain⟨K,hK⟩:∃K,zL n e=K:=⟨_,rfl⟩
 rw[hK] at HSP HX4 HX6 HX0 hKl;obtain⟨pn,hpn⟩:∃k,P.length=k:=⟨_,rfl⟩
 have HPN:=zA hpn;have HRS:Hid (∀W e' W',SpIsN (some (P,M)) W e' W'→∃A c B d VS,e'=.returned (.tuple #[.slice A pn c,.slice B M.length d,.int .i64 0])∧SL W' 1 (.slice A pn c) pn VS∧Pieces W' VS P∧SL W' 1 (.slice B M.length d) M.length (ints (M.map Int.ofNat))∧Ext W W'∧NZ VS):=zA (λW e' W' h=>by rw[←hpn];exact h);rw[hpn] at HX4 HX6 HX0 hP;obtain⟨ml,hml⟩:∃k,M.length=k:=⟨_,rfl⟩
 have HML:=zA hml;rw[hml] at HRS hM HMK;clear PC hsz0 hx0 hK hpn hml
 by_cases hpk:pn=K
 ·have H33:Hid (decide ((pn:Int)≠(K:Int))=false):=zA (by simp[hpk]);have HX6:=zA (HX6.out hpk);have HX0:=zA (HX0.out hpk);clear hpk HX4;go_enter func122,ntmps122
  go_wp2_with (first
   | ((with_reducible apply gS 4);refine wBox rfl 44 (.tmp 0) rfl tt rfl ?_;intro w1 g hb1 hx1 hg)
   | ((with_reducible apply gS 16);refine wLdB rfl 44 (.tmp 4) rfl g rfl hb1 _ underlying44 rfl 34 qG hsz.out ?_)
   | (go_at_call 109;(with_reducible refine (HPC.out _ hx1).mono ?_);intro e2 w2 h2;obtain⟨A,c,B,d,VS,rfl,k1,k2,k3,hx2,k4⟩:=HRS.out _ _ _ h2;have hx2':=hx1.trans hx2)
   | (go_at_call 99;(with_reducible refine (HSP.out _).mono ?_);rintro e3 w3 ⟨B3,d3,rfl,-,hx3⟩;have hx3':=hx2'.trans hx3)
   | ((with_reducible apply gS 33);refine zB rfl (.bool false) (jW rfl rfl rfl H33.out) ?_))
  have k1':=zA (k1.ext hx3);have k2':=zA (k2.ext hx3);have k3':=zA (k3.ext hx3);have HK4:=zA k4;have HX3:=zA hx3';have HM0:Hid (uI (M.drop 0) 0=uI M 0):=zA (by rw[wK2]);clear hb1 hx1 hg k1 k2 k3 k4 hx2 hx2' hx3 hx3' h2
  go_loopw [36] (λiv wr=>∃i:Nat,i≤ml∧iv=.int .i64 (i:Int)∧Hid (uI (M.drop i) i=uI M 0)∧Ext w3 wr) (λi _=>ml-(intOf i).toNat)
  case atStart=>exact⟨0,by omega,rfl,HM0,Ext.refl _⟩
  case round =>
   clear HM0;obtain⟨i,hi,rfl,HMI,hx⟩:=hrel
   by_cases hlt:i<ml
   ·obtain⟨ad,u,hB,hab,hxk,hcell⟩:=k3'.out.at1 hlt;subst hB;have hiM:i<M.length:=by rw[HML.out];exact hlt
    have hu:u=.int .i64 ((M[i]:Nat):Int):=by
     have h2:(ints (M.map Int.ofNat))[i]? =some (.int .i64 ((M[i]:Nat):Int)):=by
      rw[ints,wB9,wB9,wA2 hiM];rfl
     rw[h2] at hxk;exact (wU4 hxk).symm
    subst hu;have hcell0:wr.cell? (ad.add i)=some (.int .i64 ((M[i]:Nat):Int)):=(hx.cell (p:=ad.add i) (by rw[yH];exact hab)).trans hcell;have HST:=zA (zUh hiM);have HMQ:=zA (λW=>HMK.out i W hlt);obtain⟨q,hq⟩:∃q,208+i%8=q:=⟨_,rfl⟩
    rw[hq] at HST HMQ;clear hxk hcell hq;generalize M[i]=y at *
    by_cases hy:y=q
    ·have H44:Hid (decide ((y:Int)≠(q:Int))=false):=zA (by simp[hy]);have HM1:Hid (uI (M.drop (i+1)) (i+1)=uI M 0):=zA (by rw[←HMI.out,HST.out];simp[hy]);clear hy
     go_wp2_with (first
      | (go_at_call 103;(with_reducible refine (HMQ.out _).mono ?_);rintro e5 w5 ⟨rfl,rfl⟩)
      | ((with_reducible apply gS 44);refine zB rfl (.bool false) (jW rfl rfl rfl H44.out) ?_))
     go_roundw
     case rel=>exact⟨i+1,by omega,by go_num,HM1,hx⟩
     case measure=>simp[intOf];omega
    have H44:Hid (decide ((y:Int)≠(q:Int))=true):=zA (by rw[wB3];omega);have HXE:Hid (x=6):=zA (HX6.out (by rw[←HMI.out,HST.out];simp[hy]));clear hy
    go_wp2_with (first
     | (go_at_call 103;(with_reducible refine (HMQ.out _).mono ?_);rintro e5 w5 ⟨rfl,rfl⟩)
     | ((with_reducible apply gS 44);refine zB rfl (.bool true) (jW rfl rfl rfl H44.out) ?_))
    refine bodyPost_ret (results_tmp2 rfl _ _ _) rfl ?_;rw[HXE.out];refine⟨HX3.out.trans hx, ?_⟩;rw[if_neg (show ¬(6:Int)=0 by decide)];rfl
   have HXE:Hid (x=0):=zA (HX0.out (by rw[←HMI.out];exact zTR (by rw[HML.out];omega)));go_wp2_with fail;refine bodyPost_ret (results_tmp2 rfl _ _ _) rfl ?_;rw[HXE.out];refine⟨HX3.out.trans hx, ?_⟩;rw[if_pos rfl,HPN.out];exact⟨A,c,VS,rfl,k1'.out.ext hx,k2'.out.ext hx,HK4.out⟩
 have H33:Hid (decide ((pn:Int)≠(K:Int))=true):=zA (by rw[wB3];omega);have HXE:=zA (HX4.out hpk);clear hpk HX4 HX6 HX0;go_enter func122,ntmps122
 go_wp2_with (first
  | ((with_reducible apply gS 4);refine wBox rfl 44 (.tmp 0) rfl tt rfl ?_;intro w1 g hb1 hx1 hg)
  | ((with_reducible apply gS 16);refine wLdB rfl 44 (.tmp 4) rfl g rfl hb1 _ underlying44 rfl 34 qG hsz.out ?_)
  | (go_at_call 109;(with_reducible refine (HPC.out _ hx1).mono ?_);intro e2 w2 h2;obtain⟨A,c,B,d,VS,rfl,k1,k2,k3,hx2,k4⟩:=HRS.out _ _ _ h2;have hx2':=hx1.trans hx2)
  | (go_at_call 99;(with_reducible refine (HSP.out _).mono ?_);rintro e3 w3 ⟨B3,d3,rfl,-,hx3⟩;have hx3':=hx2'.trans hx3)
  | ((with_reducible apply gS 33);refine zB rfl (.bool true) (jW rfl rfl rfl H33.out) ?_))
 refine bodyPost_ret (results_tmp2 rfl _ _ _) rfl ?_;rw[HXE.out];refine⟨hx3', ?_⟩;rw[if_neg (show ¬(4:Int)=0 by decide)];rfl
end
section
def zFQ:zAn prog 110:=⟨_,func110,by kernel_rfl,by kernel_rfl⟩
def zEc {a w w':World} (h:Ext a w) {row:Option Nat} (hg:w.grownBy w' row) (hB:∀b,row=some b→a.heap.size≤b):Ext a w':=Below.grown h hg h.size (λk hk=>hB k hk)
def zKt (tt:Array Value) (hsz0:tt.size=34) (v:Value) (nn ev:Int) (z:Int) (P:List (List Nat)) (hz:z≠0) (w:World)
 (WC:∀W,Ext w W→Calls prog 122 #[.agg tt,v,.int .i64 nn,.int .i64 ev] W (WhIs z P W)):Calls prog 63 #[.agg tt,v,.int .i64 nn,.int .i64 ev] w (zCk (z,[]) w):=by
 have HWC:=zA (λW h=>(WC W h).mono (λe W' (h:WhIs z P W e W')=>show e=.returned (.tuple #[.slice none 0 0,.int .i64 z])∧Ext W W' by obtain⟨hx,h⟩:=h;rw[if_neg hz] at h;exact⟨h,hx⟩));have hsz:=zA hsz0;have hzb:(z !=0)=true:=by simpa using hz
 have HZ:=zA hz;clear WC hsz0 hz;go_enter func63,ntmps63
 go_wp2_with (first
  | ((with_reducible apply gS 4);refine wBox rfl 44 (.tmp 0) rfl tt rfl ?_;intro w1 g hb1 hx1 hg)
  | ((with_reducible apply gS 18);refine wLdB rfl 44 (.tmp 4) rfl g rfl hb1 _ underlying44 rfl 34 qG hsz.out ?_)
  | (go_at_call 122;(with_reducible refine (HWC.out _ hx1).mono ?_);rintro e w2 ⟨rfl,hx2⟩))
 refine bodyPost_ret (results_tmp2 rfl _ _ _) rfl ?_;refine⟨hx1.trans hx2, ?_⟩;rw[if_neg HZ.out];rfl
attribute [local irreducible] zF bv zBu jG yM zL plZ vQ
def zSW (T1 T2:List Tok) (tt:Array Value) (hsz0:tt.size=34) (v:Value) (n e:Nat) (hn:n≤400) (he:e≤100) (P:List (List Nat)) (hK:P.length=zL n e) (hPM:∀p∈P,p.length≤1048576∧∀b∈p,b<256) (w:World)
 (WC:∀W,Ext w W→Calls prog 122 #[.agg tt,v,.int .i64 (n:Int),.int .i64 (e:Int)] W (WhIs 0 P W))
 (SD:∀W A' m c' bs' nn',Ext w W→SL W 1 (.slice A' m c') m (zF bs')→(A'=none→c'=0)→(∀b∈bs',b<256)→m≤1048576→Calls prog 110 #[.agg tt,.slice A' m c',.int .i64 nn'] W (zCk (vQ true T1 T2 nn' (plZ bs')) W)) :
 Calls prog 63 #[.agg tt,v,.int .i64 (n:Int),.int .i64 (e:Int)] w (zCk (zBu T1 T2 n e P (zL n e) 0 []) w):=by
 have hsz:=zA hsz0;have HSP:=zA (λW=>zGa n e (by omega) (by omega) W);have hKl:=zEO (n:=n) (e:=e);have HAT:=zA (λi (h:i<zL n e)=>zGC h);obtain⟨R,hRR⟩:∃R,zBu T1 T2 n e P (zL n e) 0 []=R:=⟨_,rfl⟩
 have HR0:Hid (zBu T1 T2 n e P (zL n e-0) 0 []=R):=zA hRR;rw[hRR];obtain⟨K,hKK⟩:∃K,zL n e=K:=⟨_,rfl⟩
 rw[hKK] at HSP HR0 HAT hKl hK;have HPK:=zA hK
 have HWC:=zA (λW h=>(WC W h).mono (λe W' (h:WhIs 0 P W e W')=>show ∃A c VS,e=.returned (.tuple #[.slice A K c,.int .i64 0])∧SL W' 1 (.slice A K c) K VS∧Pieces W' VS P∧NZ VS∧Ext W W' by
  obtain⟨hx,h⟩:=h;rw[if_pos rfl,hK] at h;obtain⟨A,c,VS,h1,h2,h3,h4⟩:=h
  exact⟨A,c,VS,h1,h2,h3,h4,hx⟩))
 have HPM:=zA hPM;have HSD:=zA SD;clear hRR hKK hK WC hPM SD hsz0;go_enter func63,ntmps63
 go_wp2_with (first
  | ((with_reducible apply gS 4);refine wBox rfl 44 (.tmp 0) rfl tt rfl ?_;intro w1 g hb1 hx1 hg)
  | ((with_reducible apply gS 18);refine wLdB rfl 44 (.tmp 4) rfl g rfl hb1 _ underlying44 rfl 34 qG hsz.out ?_)
  | (go_at_call 122;(with_reducible refine (HWC.out _ hx1).mono ?_);rintro e2 w2 ⟨PA,pc,VS,rfl,k1,k2,k4,hx2⟩;have hx2':=hx1.trans hx2)
  | (go_at_call 99;(with_reducible refine (HSP.out _).mono ?_);rintro e3 w3 ⟨B3,d3,rfl,hsp,hx3⟩;have hx3':=hx2'.trans hx3))
 have hg3:=(hb1.ext hx2).ext hx3;have how:OwnV w3 w3.heap.size 33 64 (.slice none 0 0) 0 (ints []):=OwnV.nil _ _ _ _;have HSP3:=zA hsp;have HG3:=zA hg3;have HX3:=zA hx3';have HK1:=zA (k1.ext hx3);have HK2:=zA (k2.ext hx3);have HK4:=zA k4;clear hb1 hx1 hg hx2 hx2' hx3 hx3' hsp hg3 k1 k2 k4
 go_loopw [12,32] (λx iv wr=>∃(i m:Nat) (acc:List Int),i≤K∧iv=.int .i64 (i:Int)∧m≤i*400∧OwnV wr w3.heap.size 33 64 x m (ints acc)∧Hid (zBu T1 T2 n e P (K-i) i acc=R)∧Ext w3 wr) (λ_ i _=>K-(intOf i).toNat)
 case atStart=>exact⟨0,0,[],by omega,rfl,by omega,how,HR0,Ext.refl _⟩
 case round =>
  clear how HR0;obtain⟨i,m,acc,hi,rfl,hm,⟨OA,oc,rfl,hown⟩,HR,hx⟩:=hrel
  by_cases hlt:i<K
  ·obtain⟨td,hB,htb,htc⟩:=(HSP3.out.ext hx).part hlt;subst hB;obtain⟨pd,u,hB,hpb,hpk,hpc⟩:=HK1.out.at1 hlt;subst hB;have hiP:i<P.length:=by rw[HPK.out];exact hlt
   obtain⟨SA,sc,hv,hsl⟩:=HK2.out.2 i hiP;rw[hv] at hpk;obtain rfl:=wU4 hpk;have hnz:=HK4.out _ (wM8 hv) _ _ _ rfl;have hpm:=HPM.out P[i] (wC7 hiP);have hgd:P.getD i []=P[i]:=by rw[wH7,wA2 hiP];rfl
   obtain⟨lo,hlo⟩:∃q,i*yM n e=q:=⟨_,rfl⟩
   obtain⟨hh,hhh⟩:∃q,min (lo+yM n e) n=q:=⟨_,rfl⟩
   obtain⟨ln,hln⟩:∃q,yT n e i=q:=⟨_,rfl⟩
   have hln2:min (n-lo) (yM n e)=ln:=by rw[←hln, ←hlo];rfl
   have e2:((ints (jG n e K)).drop (i*2)).take 2=ints [(lo:Int),(hh:Int)]:=by
    have h:=zEx n e K i hlt;rw[hlo,hhh] at h;rw[←h];simp[ints,wO1,wO0]
   rw[e2] at htc;have hlon:lo≤n:=by rw[←hlo];exact HAT.out i hlt
   have hlh:lo≤hh:=by omega
   have hhn:hh≤n:=by omega
   have hd:hh-lo=ln:=by omega
   have HD:=zA hd;have HTC:=zA htc;have HBV:=zA (zHB [(lo:Int),(hh:Int)]);have HS2:=zA (show (bv [(lo:Int),(hh:Int)]).size=2 by rw[zK];rfl);have HS20:=zA (show (Value.agg (bv [0,0])).cells.size=2 by rw[show (Value.agg (bv [0,0])).cells=bv [0,0] from rfl,zK];rfl);have HO2:=zA (xR [(lo:Int),(hh:Int)]);have HSR:=zA (λW (h:Ext w3 W)=>HSD.out W SA P[i].length sc P[i] (ln:Int) (HX3.out.trans h) (hsl.ext h) hnz hpm.2 hpm.1);have HPC:=zA (λW (h:Ext w3 W)=>(h.cell (p:=pd.add i) (by rw[yH];exact hpb)).trans hpc);have HERa:Hid (∀r,vQ true T1 T2 (ln:Int) (plZ P[i])=r→r.1≠0→R=(r.1,[])):=zA (λr h h0=>by rw[←HR.out,show K-i=(K-(i+1))+1 by omega];exact sdGo_err (by rw[hln,hgd];exact h) h0);have HOKa:Hid (∀r,vQ true T1 T2 (ln:Int) (plZ P[i])=r→r.1=0→zBu T1 T2 n e P (K-(i+1)) (i+1) (acc++r.2)=R):=zA (λr h h0=>by rw[←HR.out,show K-i=(K-(i+1))+1 by omega];exact (sdGo_ok (by rw[hln,hgd];exact h) h0).symm);have hrl:(vQ true T1 T2 (ln:Int) (plZ P[i])).1=0→(vQ true T1 T2 (ln:Int) (plZ P[i])).2.length=ln*64:=zHs;obtain⟨r,hr⟩:∃r,vQ true T1 T2 (ln:Int) (plZ P[i])=r:=⟨_,rfl⟩
   rw[hr] at HSR hrl;have HER:=zA (HERa.out r hr);have HOK:=zA (HOKa.out r hr);generalize bv [(lo:Int),(hh:Int)]=sp at *;have HC0:Hid (sp[0]? =some (.int .i64 (lo:Int))∧sp[1]? =some (.int .i64 (hh:Int))):=zA (by rw[←HBV.out];exact⟨rfl,rfl⟩);obtain⟨pl,hpl⟩:∃q,P[i].length=q:=⟨_,rfl⟩
   rw[hpl] at HSR HPC;obtain⟨r1,r2⟩:=r;dsimp only at hrl HER HOK
   have HRA:Hid (∀W e W',zCk (r1,r2) W e W'→∃B k d,e=.returned (.tuple #[.slice B k d,.int .i64 r1])∧(r1=0→k=ln∧SL W' 64 (.slice B k d) k (ints r2))∧Ext W W'):=zA (λW e W' h=>by
    obtain⟨hx,h⟩:=h
    by_cases h0:r1=0
    ·subst h0;rw[if_pos rfl] at h;obtain⟨B,k,d,rfl,h1,h2,-⟩:=h;have h3:=hrl rfl;exact⟨B,k,d,rfl,λ_=>⟨by dsimp only at h1;omega,h2⟩,hx⟩
    ·rw[if_neg h0] at h
     exact⟨none,0,0,h,λh=>absurd h h0,hx⟩)
   have htd:td.block<wr.heap.size:=htb;have hln4:ln≤400:=by omega
   clear htb htc e2 hr hd hln hln2 hhh hlo hlon HR hsl hv hpc hpb hpm hgd hrl hpl hnz
   go_wp2_with (first
    | ((with_reducible apply gS 36);refine yZ (by rfl) 139 (.tmp 35) rfl (td.add (i*2)) rfl (ints [(lo:Int),(hh:Int)]) _ HTC.out underlying139 rfl vE ?_;rw[HBV.out])
    | ((with_reducible apply gS 14);refine wAlo' rfl (some 14) rfl 139 rfl _ zCM ?_;intro w4 g16 hb4 hx4 hg4)
    | ((with_reducible apply gT 14 36);refine wStB rfl 139 (.tmp 14) (.tmp 36) rfl _ _ rfl rfl hb4 2 vE HS2.out HS20.out HO2.out ?_;intro w5 hb5 hg5;have hx5:Ext wr w5:=hx4.grown hg5 hg4))
   have hx8d:Ext w3 w5.drew:=(hx.trans hx5).drew;have hb8d:=hb5.drew;have ho8d:=yE hown (hx5.drew);clear hb4 hx4 hg4 hb5 hg5 hx5;have HGX:=zA (λW (h:Ext w5.drew W)=>((HG3.out.ext hx8d).ext h));have hI:Ext w5.drew w5.drew:=Ext.refl _
   by_cases h0:r1=0
   ·subst h0;refine qR (Ext w5.drew) (by kernel_rfl) ?_;refine xE (k:=0) (by kernel_rfl) rfl (by rfl) (.agg tt) (λW hW=>uT rfl rfl (HGX.out W hW) underlying44 rfl qG hsz.out) hI ?_;simp only[Act.put,sA,sB,sC];refine zG (k:=1) (by kernel_rfl) rfl (by rfl) (.slice (some pd) K pc) (zD rfl rfl) hI ?_;simp only[sP,sB,sC];refine zG (k:=2) (by kernel_rfl) rfl (by rfl) (.int .i64 (i:Int)) (zD rfl rfl) hI ?_;simp only[sP,sB,sC];refine zG (k:=3) (by kernel_rfl) rfl (by rfl) (.pointer (some (pd.add (i*1)))) (qP underlying71 zGA rfl rfl rfl hlt) hI ?_;simp only[sP,sB,sC];refine xE (k:=4) (by kernel_rfl) rfl (by rfl) (.slice SA pl sc) (λW hW=>zAT rfl rfl (by rw[wD8];exact HPC.out W (hx8d.trans hW))) hI ?_;simp only[Act.put,sA,sB,sC];refine zG (k:=5) (by kernel_rfl) rfl (by rfl) (.pointer (some ⟨g16,1,none⟩)) (λw=>by go_simp) hI ?_;simp only[sP,sB,sC];refine xE (k:=6) (by kernel_rfl) rfl (by rfl) (.int .i64 (hh:Int)) (λW hW=>zS rfl rfl (((hb8d.ext hW).cell 1).trans HC0.out.2)) hI ?_;simp only[Act.put,sA,sB,sC];refine zG (k:=7) (by kernel_rfl) rfl (by rfl) (.pointer (some ⟨g16,0,none⟩)) (λw=>by go_simp) hI ?_;simp only[sP,sB,sC];refine xE (k:=8) (by kernel_rfl) rfl (by rfl) (.int .i64 (lo:Int)) (λW hW=>zS rfl rfl (((hb8d.ext hW).cell 0).trans HC0.out.1)) hI ?_;simp only[Act.put,sA,sB,sC];refine zG (k:=9) (by kernel_rfl) rfl (by rfl) (.int .i64 (ln:Int)) (by rw[←HD.out];exact xP (i:=hh) (d:=lo) rfl rfl rfl (by omega) hlh) hI ?_;simp only[sP,sB,sC];refine qI (k:=10) (by kernel_rfl) rfl ?_;refine xK (by rfl) (xL _ _ _ rfl rfl zFQ #[.agg tt,.slice SA pl sc,.int .i64 (ln:Int)] (by simp[Act.eval])) ?_;refine (HSR.out _ hx8d).mono ?_;intro e9 w9 h9;obtain⟨B9,k9,d9,rfl,hr9,hx9⟩:=HRA.out _ _ _ h9;refine⟨_,rfl,zZ ⟨hx9, ?_⟩⟩;simp only[Act.put,sA,sB,sC];refine zG (k:=11) (by kernel_rfl) rfl (by rfl) (.tuple #[.slice B9 k9 d9,.int .i64 0]) (zD rfl rfl) hx9 ?_;simp only[sP,sB,sC];refine zG (k:=12) (by kernel_rfl) rfl (by rfl) (.slice B9 k9 d9) (yR rfl rfl rfl) hx9 ?_;simp only[sP,sB,sC];refine zG (k:=13) (by kernel_rfl) rfl (by rfl) (.int .i64 0) (yR rfl rfl rfl) hx9 ?_;simp only[sP,sB,sC];refine zG (k:=14) (by kernel_rfl) rfl (by rfl) (.slice B9 k9 d9) (zW rfl rfl) hx9 ?_;simp only[sP,sB,sC];refine zG (k:=15) (by kernel_rfl) rfl (by rfl) (.int .i64 0) (zW rfl rfl) hx9 ?_;simp only[sP,sB,sC];refine uA (by kernel_rfl) ?_;obtain⟨hk9,hs9⟩:=hr9 (by first | rfl | trivial);subst hk9;have ho9:=yE ho8d hx9;have hx19:=hx8d.trans hx9
    go_wp2_with (first
     | ((with_reducible apply gS 56);at_builtin;refine wApf zFd rfl (.tmp 54) (.tmp 55) rfl w3.heap.size (.slice OA m oc) m (ints acc) rfl ho9 _ k9 (ints r2) rfl hs9 (qK _) (by omega) (by omega) hx19.size ?_;intro A10 c10 w10 ho10 hgr10 hor10;have hx10:=zEc hx19 hgr10 (λb hb=>(ho9.lt b hb).1)))
    go_roundw
    case rel=>exact⟨i+1,m+k9,acc++r2,by omega,by go_num,by omega,⟨A10,c10,rfl,by rw[vP];exact ho10⟩,HOK.out (by first | rfl | trivial),hx10⟩
    case measure=>simp[intOf];omega
   have h0b:(r1 !=0)=true:=by simpa using h0
   have H0N:=zA h0;clear h0;refine qR (Ext w5.drew) (by kernel_rfl) ?_;refine xE (k:=0) (by kernel_rfl) rfl (by rfl) (.agg tt) (λW hW=>uT rfl rfl (HGX.out W hW) underlying44 rfl qG hsz.out) hI ?_;simp only[Act.put,sA,sB,sC];refine zG (k:=1) (by kernel_rfl) rfl (by rfl) (.slice (some pd) K pc) (zD rfl rfl) hI ?_;simp only[sP,sB,sC];refine zG (k:=2) (by kernel_rfl) rfl (by rfl) (.int .i64 (i:Int)) (zD rfl rfl) hI ?_;simp only[sP,sB,sC];refine zG (k:=3) (by kernel_rfl) rfl (by rfl) (.pointer (some (pd.add (i*1)))) (qP underlying71 zGA rfl rfl rfl hlt) hI ?_;simp only[sP,sB,sC];refine xE (k:=4) (by kernel_rfl) rfl (by rfl) (.slice SA pl sc) (λW hW=>zAT rfl rfl (by rw[wD8];exact HPC.out W (hx8d.trans hW))) hI ?_;simp only[Act.put,sA,sB,sC];refine zG (k:=5) (by kernel_rfl) rfl (by rfl) (.pointer (some ⟨g16,1,none⟩)) (λw=>by go_simp) hI ?_;simp only[sP,sB,sC];refine xE (k:=6) (by kernel_rfl) rfl (by rfl) (.int .i64 (hh:Int)) (λW hW=>zS rfl rfl (((hb8d.ext hW).cell 1).trans HC0.out.2)) hI ?_;simp only[Act.put,sA,sB,sC];refine zG (k:=7) (by kernel_rfl) rfl (by rfl) (.pointer (some ⟨g16,0,none⟩)) (λw=>by go_simp) hI ?_;simp only[sP,sB,sC];refine xE (k:=8) (by kernel_rfl) rfl (by rfl) (.int .i64 (lo:Int)) (λW hW=>zS rfl rfl (((hb8d.ext hW).cell 0).trans HC0.out.1)) hI ?_;simp only[Act.put,sA,sB,sC];refine zG (k:=9) (by kernel_rfl) rfl (by rfl) (.int .i64 (ln:Int)) (by rw[←HD.out];exact xP (i:=hh) (d:=lo) rfl rfl rfl (by omega) hlh) hI ?_;simp only[sP,sB,sC];refine qI (k:=10) (by kernel_rfl) rfl ?_;refine xK (by rfl) (xL _ _ _ rfl rfl zFQ #[.agg tt,.slice SA pl sc,.int .i64 (ln:Int)] (by simp[Act.eval])) ?_;refine (HSR.out _ hx8d).mono ?_;intro e9 w9 h9;obtain⟨B9,k9,d9,rfl,hr9,hx9⟩:=HRA.out _ _ _ h9;refine⟨_,rfl,zZ ⟨hx9, ?_⟩⟩;simp only[Act.put,sA,sB,sC];refine zG (k:=11) (by kernel_rfl) rfl (by rfl) (.tuple #[.slice B9 k9 d9,.int .i64 r1]) (zD rfl rfl) hx9 ?_;simp only[sP,sB,sC];refine zG (k:=12) (by kernel_rfl) rfl (by rfl) (.slice B9 k9 d9) (yR rfl rfl rfl) hx9 ?_;simp only[sP,sB,sC];refine zG (k:=13) (by kernel_rfl) rfl (by rfl) (.int .i64 r1) (yR rfl rfl rfl) hx9 ?_;simp only[sP,sB,sC];refine zG (k:=14) (by kernel_rfl) rfl (by rfl) (.slice B9 k9 d9) (zW rfl rfl) hx9 ?_;simp only[sP,sB,sC];refine zG (k:=15) (by kernel_rfl) rfl (by rfl) (.int .i64 r1) (zW rfl rfl) hx9 ?_;simp only[sP,sB,sC];refine uA (by kernel_rfl) ?_;go_wp2_with fail;refine bodyPost_ret (results_tmp2 rfl _ _ _) rfl ?_;rw[HER.out H0N.out];refine⟨HX3.out.trans (hx8d.trans hx9), ?_⟩;rw[if_neg H0N.out];rfl
  have hiK:K-i=0:=by omega
  have HR2:Hid (R=(0,acc)):=zA (by rw[←HR.out,hiK,zBu]);have hnn:=zJj hown;have hal:acc.length=m*64:=by have:=hown.1;simpa [ints] using this
  clear HR;go_wp2_with fail;refine bodyPost_ret (results_tmp2 rfl _ _ _) rfl ?_;rw[HR2.out];refine⟨HX3.out.trans hx, ?_⟩;rw[if_pos rfl];exact⟨OA,m,oc,rfl,hal,(jC hown).1,hnn⟩
end
def zNe {o:Oper} {a:Act} {x:Operand} (ho:o.op=.call { callee:=.builtin .len,args:= #[x],argTypes:= #[25] }) {A:Option Addr} {n c:Nat} (hx:a.eval x=.slice A n c) (w:World):(execOp a.eval o).run prog w=.ok (.value (.int .i64 (n:Int))) w:=by simp[execOp,ho,resolve,invoke,builtin,hx,Result.andThen,Builtin.len_,goInt]
section
def zFu:33≠3:=by decide
def rep_sl {w:World} {g n:Nat} {t:TypeId} (h:Blk w g t (bv (List.replicate (n*64) 0))) (hn:n≤100000):SL w 64 (.slice (some ⟨g,0,none⟩) n n) n (ints (List.replicate (n*64) 0)):=by have:=h.sl (size:=64) (n:=n) (c:=n) (by rw[zK];simp) (by omega) (by omega);simpa [bv] using this
attribute [local irreducible] zF bv vG uQ zBh jG yM zL plZ vQ atK
def zQP (T1 T2:List Tok) (tt:Array Value) (hsz0:tt.size=34) (v:Value) (n e:Nat) (hn:n≤400) (he:e≤100) (P:List (List Nat)) (M:List Nat) (hPM:∀p∈P,p.length≤1048576∧∀b∈p,b<256) (w:World)
 (PC:∀W,Ext w W→Calls prog 109 #[.agg tt,v,.int .i64 (n:Int),.int .i64 (e:Int)] W (SpIsN (some (P,M)) W))
 (SD:∀W A' m c' bs' nn',Ext w W→SL W 1 (.slice A' m c') m (zF bs')→(A'=none→c'=0)→(∀b∈bs',b<256)→m≤1048576→Calls prog 110 #[.agg tt,.slice A' m c',.int .i64 nn'] W (zCk (vQ true T1 T2 nn' (plZ bs')) W)) :
 Calls prog 55 #[.agg tt,v,.int .i64 (n:Int),.int .i64 (e:Int)] w (zMf (0,(vG T1 T2 n e P (zL n e)).1,(vG T1 T2 n e P (zL n e)).2) w):=by
 have hsz:=zA hsz0;have HSP:=zA (λW=>zGa n e (by omega) (by omega) W);have hKl:=zEO (n:=n) (e:=e);have HAT:=zA (λi (h:i<zL n e)=>zGC h);have HAS:=zA (λi (h:i<zL n e)=>zBG h);have HML:=zA (λi (h:i≤zL n e)=>zJg (T1:=T1) (T2:=T2) (P:=P) i h);obtain⟨R,hRR⟩:∃R,vG T1 T2 n e P (zL n e)=R:=⟨_,rfl⟩
 rw[hRR];obtain⟨K,hKK⟩:∃K,zL n e=K:=⟨_,rfl⟩
 rw[hKK] at HSP HAT hKl HAS HML hRR;have HR:=zA hRR;have HM0:Hid (vG T1 T2 n e P 0=([],[])):=zA (by rw[vG]);have HA0:Hid (atK n e 0=0):=zA (zHU n e);have HAL:=zA (λi=>zMt n e i);obtain⟨pn,hpn⟩:∃k,P.length=k:=⟨_,rfl⟩
 have HPN:=zA hpn
 have HRS:Hid (∀W e' W',SpIsN (some (P,M)) W e' W'→∃A c u VS,e'=.returned (.tuple #[.slice A pn c,u,.int .i64 0])∧SL W' 1 (.slice A pn c) pn VS∧Pieces W' VS P∧NZ VS∧Ext W W'):=zA (λW e' W' h=>by
  rw[←hpn];obtain⟨A,c,B,d,VS,h1,h2,h3,-,h5,h6⟩:=h
  exact⟨A,c,_,VS,h1,h2,h3,h6,h5⟩)
 have HPC:=zA PC;have HPM:=zA hPM;have HSD:=zA SD;clear hRR hKK PC hPM SD hsz0 hpn;go_enter func55,ntmps55
 go_wp2_with (first
  | ((with_reducible apply gS 4);refine wBox rfl 44 (.tmp 0) rfl tt rfl ?_;intro w1 g hb1 hx1 hg)
  | ((with_reducible apply gS 22);refine wLdB rfl 44 (.tmp 4) rfl g rfl hb1 _ underlying44 rfl 34 qG hsz.out ?_)
  | (go_at_call 109;(with_reducible refine (HPC.out _ hx1).mono ?_);intro e2 w2 h2;obtain⟨PA,pc,pu,VS,rfl,k1,k2,k4,hx2⟩:=HRS.out _ _ _ h2;have hx2':=hx1.trans hx2)
  | (go_at_call 99;(with_reducible refine (HSP.out _).mono ?_);rintro e3 w3 ⟨B3,d3,rfl,hsp,hx3⟩;have hx3':=hx2'.trans hx3))
 have how:OwnV w3 w3.heap.size 33 64 (.slice none 0 0) 0 (ints []):=OwnV.nil _ _ _ _;have hob:OwnV w3 w3.heap.size 3 1 (.slice none 0 0) 0 (ints []):=OwnV.nil _ _ _ _;have HG3:=zA ((hb1.ext hx2).ext hx3);have HSP3:=zA hsp;have HX3:=zA hx3';have HK1:=zA (k1.ext hx3);have HK2:=zA (k2.ext hx3);have HK4:=zA k4;clear hb1 hx1 hg hx2 hx2' hx3 hx3' hsp k1 k2 k4 h2
 go_loopw [14,15,37] (λx y iv wr=>∃(i m j:Nat) (X Y:List Int),i≤K∧iv=.int .i64 (i:Int)∧m≤n∧Hid (m=atK n e i)∧j≤i∧Hid (vG T1 T2 n e P i=(X,Y))∧OwnV wr w3.heap.size 33 64 x m (ints X)∧OwnV wr w3.heap.size 3 1 y j (ints Y)∧Ext w3 wr) (λ_ _ i _=>K-(intOf i).toNat)
 case atStart=>exact⟨0,0,0,[],[],by omega,rfl,by omega,zA HA0.out.symm,by omega,HM0,how,hob,Ext.refl _⟩
 case round =>
  clear how hob HM0 HA0;obtain⟨i,m,j,X,Y,hi,rfl,hm,HMA,hj,HMX,⟨OA,oc,rfl,hown⟩,⟨YA,yc,rfl,hbad⟩,hx⟩:=hrel
  by_cases hlt:i<K
  ·obtain⟨td,hB,htb,htc⟩:=(HSP3.out.ext hx).part hlt;subst hB;obtain⟨lo,hlo⟩:∃q,i*yM n e=q:=⟨_,rfl⟩
   obtain⟨hh,hhh⟩:∃q,min (lo+yM n e) n=q:=⟨_,rfl⟩
   obtain⟨ln,hln⟩:∃q,yT n e i=q:=⟨_,rfl⟩
   have hln2:min (n-lo) (yM n e)=ln:=by rw[←hln, ←hlo];rfl
   have e2:((ints (jG n e K)).drop (i*2)).take 2=ints [(lo:Int),(hh:Int)]:=by
    have h:=zEx n e K i hlt;rw[hlo,hhh] at h;rw[←h];simp[ints,wO1,wO0]
   rw[e2] at htc;have hlon:lo≤n:=by rw[←hlo];exact HAT.out i hlt
   have hlh:lo≤hh:=by omega
   have hhn:hh≤n:=by omega
   have hd:hh-lo=ln:=by omega
   have HLN:=zA hln;have HMS:Hid (m+ln=atK n e (i+1)):=zA (by rw[HAS.out i hlt,hln,HMA.out]);have hms:m+ln≤n:=by rw[HMS.out];exact HAL.out _
   have HD:=zA hd;have HTC:=zA htc;have HBV:=zA (zHB [(lo:Int),(hh:Int)]);have HS2:=zA (show (bv [(lo:Int),(hh:Int)]).size=2 by rw[zK];rfl);have HS20:=zA (show (Value.agg (bv [0,0])).cells.size=2 by rw[show (Value.agg (bv [0,0])).cells=bv [0,0] from rfl,zK];rfl);have HO2:=zA (xR [(lo:Int),(hh:Int)]);generalize bv [(lo:Int),(hh:Int)]=sp at *;have HC0:Hid (sp[0]? =some (.int .i64 (lo:Int))∧sp[1]? =some (.int .i64 (hh:Int))):=zA (by rw[←HBV.out];exact⟨rfl,rfl⟩);have htd:td.block<wr.heap.size:=htb;have hln4:ln≤400:=by omega
   have HXEa:=zA (λr (h:uQ T1 T2 n e P i=r) (h0:r.1≠0)=>show vG T1 T2 n e P (i+1)=(X++List.replicate (ln*64) 0,Y++[(i:Int)]) by rw[zPl h h0,HMX.out,HLN.out]);have HXOa:=zA (λr (h:uQ T1 T2 n e P i=r) (h0:r.1=0)=>show vG T1 T2 n e P (i+1)=(X++r.2,Y) by rw[zLp h h0,HMX.out]);clear htb htc e2 hd hln2 hhh hlo hlon hln HMX HMA
   by_cases hp:i<pn
   ·obtain⟨pd,u,hB,hpb,hpk,hpc⟩:=HK1.out.at1 hp;subst hB;have hiP:i<P.length:=by rw[HPN.out];exact hp
    obtain⟨SA,sc,hv,hsl⟩:=HK2.out.2 i hiP;rw[hv] at hpk;obtain rfl:=wU4 hpk;have hnz:=HK4.out _ (wM8 hv) _ _ _ rfl;have hpm:=HPM.out P[i] (wC7 hiP);have hgd:P.getD i []=P[i]:=by rw[wH7,wA2 hiP];rfl
    have hma:uQ T1 T2 n e P i=vQ true T1 T2 (ln:Int) (plZ P[i]):=by unfold uQ;rw[if_pos hiP,hgd,HLN.out]
    have HSR:=zA (λW (h:Ext w3 W)=>HSD.out W SA P[i].length sc P[i] (ln:Int) (HX3.out.trans h) (hsl.ext h) hnz hpm.2 hpm.1);have HPC:=zA (λW (h:Ext w3 W)=>(h.cell (p:=pd.add i) (by rw[yH];exact hpb)).trans hpc);have hrl:(vQ true T1 T2 (ln:Int) (plZ P[i])).1=0→(vQ true T1 T2 (ln:Int) (plZ P[i])).2.length=ln*64:=zHs;obtain⟨r,hr⟩:∃r,vQ true T1 T2 (ln:Int) (plZ P[i])=r:=⟨_,rfl⟩
    rw[hr] at HSR hrl hma;have HXE:=zA (HXEa.out r hma);have HXO:=zA (HXOa.out r hma);obtain⟨pl,hpl⟩:∃q,P[i].length=q:=⟨_,rfl⟩
    rw[hpl] at HSR HPC;obtain⟨r1,r2⟩:=r;dsimp only at hrl HXE HXO
    have HRA:Hid (∀W e W',zCk (r1,r2) W e W'→∃B k d,e=.returned (.tuple #[.slice B k d,.int .i64 r1])∧(r1=0→k=ln∧SL W' 64 (.slice B k d) k (ints r2))∧Ext W W'):=zA (λW e W' h=>by
     obtain⟨hx,h⟩:=h
     by_cases h0:r1=0
     ·subst h0;rw[if_pos rfl] at h;obtain⟨B,k,d,rfl,h1,h2,-⟩:=h;have h3:=hrl rfl;exact⟨B,k,d,rfl,λ_=>⟨by dsimp only at h1;omega,h2⟩,hx⟩
     ·rw[if_neg h0] at h
      exact⟨none,0,0,h,λh=>absurd h h0,hx⟩)
    have H51:Hid (decide ((i:Int)<(pn:Int))=true):=zA (by rw[wB3];omega);clear hr hsl hv hpc hpb hpm hgd hrl hpl hnz hma
    go_wp2_with (first
     | ((with_reducible apply gS 41);refine yZ (by rfl) 139 (.tmp 40) rfl (td.add (i*2)) rfl (ints [(lo:Int),(hh:Int)]) _ HTC.out underlying139 rfl vE ?_;rw[HBV.out])
     | ((with_reducible apply gS 17);refine wAlo' rfl (some 17) rfl 139 rfl _ zCM ?_;intro w4 g16 hb4 hx4 hg4)
     | ((with_reducible apply gT 17 41);refine wStB rfl 139 (.tmp 17) (.tmp 41) rfl _ _ rfl rfl hb4 2 vE HS2.out HS20.out HO2.out ?_;intro w5 hb5 hg5;have hx5:Ext wr w5:=hx4.grown hg5 hg4)
     | ((with_reducible apply gS 43);refine yU rfl (.int .i64 (hh:Int)) (zS rfl rfl ((hb5.cell 1).trans HC0.out.2)) ?_)
     | ((with_reducible apply gS 45);refine yU rfl (.int .i64 (lo:Int)) (zS rfl rfl ((hb5.cell 0).trans HC0.out.1)) ?_)
     | ((with_reducible apply gS 46);refine zB rfl (.int .i64 (ln:Int)) (by rw[←HD.out];exact xP (i:=hh) (d:=lo) rfl rfl rfl (by omega) hlh) ?_)
     | ((with_reducible apply gS 47);refine zBq rfl (some 47) rfl (.tmp 46) (.tmp 46) rfl ln (by omega) rfl rfl ?_;intro w6 g6 hb6 hx6 hg6;have hx6':=hx5.trans hx6)
     | ((with_reducible apply gS 51);refine zB rfl (.bool true) (yB rfl rfl rfl H51.out) ?_))
    have hx8d:Ext w3 w6.drew:=(hx.trans hx6').drew;have ho8d:=yE hown (hx6'.drew);have hbad8:=yE hbad (hx6'.drew);have hz8:=hb6.drew;clear hb4 hx4 hg4 hb5 hg5 hx5 hb6 hx6 hx6' hg6;have HGX:=zA (λW (h:Ext w6.drew W)=>((HG3.out.ext hx8d).ext h));have hI:Ext w6.drew w6.drew:=Ext.refl _
    by_cases h0:r1=0
    ·subst h0;refine qR (Ext w6.drew) (by kernel_rfl) ?_;refine xE (k:=0) (by kernel_rfl) rfl (by rfl) (.agg tt) (λW hW=>uT rfl rfl (HGX.out W hW) underlying44 rfl qG hsz.out) hI ?_;simp only[Act.put,sA,sB,sC];refine zG (k:=1) (by kernel_rfl) rfl (by rfl) (.slice (some pd) pn pc) (zD rfl rfl) hI ?_;simp only[sP,sB,sC];refine zG (k:=2) (by kernel_rfl) rfl (by rfl) (.int .i64 (i:Int)) (zD rfl rfl) hI ?_;simp only[sP,sB,sC];refine zG (k:=3) (by kernel_rfl) rfl (by rfl) (.pointer (some (pd.add (i*1)))) (qP underlying71 zGA rfl rfl rfl hp) hI ?_;simp only[sP,sB,sC];refine xE (k:=4) (by kernel_rfl) rfl (by rfl) (.slice SA pl sc) (λW hW=>zAT rfl rfl (by rw[wD8];exact HPC.out W (hx8d.trans hW))) hI ?_;simp only[Act.put,sA,sB,sC];refine zG (k:=5) (by kernel_rfl) rfl (by rfl) (.slice (some ⟨g6,0,none⟩) ln ln) (zD rfl rfl) hI ?_;simp only[sP,sB,sC];refine zG (k:=6) (by kernel_rfl) rfl (by rfl) (.int .i64 (ln:Int)) (zNe rfl rfl) hI ?_;simp only[sP,sB,sC];refine qI (k:=7) (by kernel_rfl) rfl ?_;refine xK (by rfl) (xL _ _ _ rfl rfl zFQ #[.agg tt,.slice SA pl sc,.int .i64 (ln:Int)] (by simp[Act.eval])) ?_;refine (HSR.out _ hx8d).mono ?_;intro e9 w9 h9;obtain⟨B9,k9,d9,rfl,hr9,hx9⟩:=HRA.out _ _ _ h9;refine⟨_,rfl,zZ ⟨hx9, ?_⟩⟩;simp only[Act.put,sA,sB,sC];refine zG (k:=8) (by kernel_rfl) rfl (by rfl) (.tuple #[.slice B9 k9 d9,.int .i64 0]) (zD rfl rfl) hx9 ?_;simp only[sP,sB,sC];refine zG (k:=9) (by kernel_rfl) rfl (by rfl) (.slice B9 k9 d9) (yR rfl rfl rfl) hx9 ?_;simp only[sP,sB,sC];refine zG (k:=10) (by kernel_rfl) rfl (by rfl) (.int .i64 0) (yR rfl rfl rfl) hx9 ?_;simp only[sP,sB,sC];refine zG (k:=11) (by kernel_rfl) rfl (by rfl) (.slice B9 k9 d9) (zW rfl rfl) hx9 ?_;simp only[sP,sB,sC];refine zG (k:=12) (by kernel_rfl) rfl (by rfl) (.int .i64 0) (zW rfl rfl) hx9 ?_;simp only[sP,sB,sC];refine uA (by kernel_rfl) ?_;have ho9:=yE ho8d hx9;have hbad9:=yE hbad8 hx9;have hz9:=hz8.ext hx9;have hy9:=hx8d.trans hx9;obtain⟨hk9,hs9⟩:=hr9 (by first | rfl | trivial);subst hk9
     go_wp2_with (first
      | ((with_reducible apply gS 72);at_builtin;refine wApf zFd rfl (.tmp 70) (.tmp 71) rfl w3.heap.size (.slice OA m oc) m (ints X) rfl ho9 _ k9 (ints r2) rfl hs9 (qK _) (by omega) (by omega) hy9.size ?_;intro A13 c13 w13 ho13 hgr13 hor13;have hy13:=zEc hy9 hgr13 (λb hb=>(ho9.lt b hb).1);have hbad13:=qV hbad9 (zM hgr13) (λx hx e=>zEs hbad9 ho9 (Ne.symm zFu) x hx e)))
     go_roundw
     case rel=>exact⟨i+1,m+k9,j,X++r2,Y,by omega,by go_num,hms,HMS,by omega,zA (HXO.out (by first | rfl | trivial)),⟨A13,c13,rfl,by rw[vP];exact ho13⟩,⟨YA,yc,rfl,hbad13⟩,hy13⟩
     case measure=>simp[intOf];omega
    have h0b:(r1 ==0)=false:=by simpa using h0
    have H0N:=zA h0;clear h0;refine qR (Ext w6.drew) (by kernel_rfl) ?_;refine xE (k:=0) (by kernel_rfl) rfl (by rfl) (.agg tt) (λW hW=>uT rfl rfl (HGX.out W hW) underlying44 rfl qG hsz.out) hI ?_;simp only[Act.put,sA,sB,sC];refine zG (k:=1) (by kernel_rfl) rfl (by rfl) (.slice (some pd) pn pc) (zD rfl rfl) hI ?_;simp only[sP,sB,sC];refine zG (k:=2) (by kernel_rfl) rfl (by rfl) (.int .i64 (i:Int)) (zD rfl rfl) hI ?_;simp only[sP,sB,sC];refine zG (k:=3) (by kernel_rfl) rfl (by rfl) (.pointer (some (pd.add (i*1)))) (qP underlying71 zGA rfl rfl rfl hp) hI ?_;simp only[sP,sB,sC];refine xE (k:=4) (by kernel_rfl) rfl (by rfl) (.slice SA pl sc) (λW hW=>zAT rfl rfl (by rw[wD8];exact HPC.out W (hx8d.trans hW))) hI ?_;simp only[Act.put,sA,sB,sC];refine zG (k:=5) (by kernel_rfl) rfl (by rfl) (.slice (some ⟨g6,0,none⟩) ln ln) (zD rfl rfl) hI ?_;simp only[sP,sB,sC];refine zG (k:=6) (by kernel_rfl) rfl (by rfl) (.int .i64 (ln:Int)) (zNe rfl rfl) hI ?_;simp only[sP,sB,sC];refine qI (k:=7) (by kernel_rfl) rfl ?_;refine xK (by rfl) (xL _ _ _ rfl rfl zFQ #[.agg tt,.slice SA pl sc,.int .i64 (ln:Int)] (by simp[Act.eval])) ?_;refine (HSR.out _ hx8d).mono ?_;intro e9 w9 h9;obtain⟨B9,k9,d9,rfl,hr9,hx9⟩:=HRA.out _ _ _ h9;refine⟨_,rfl,zZ ⟨hx9, ?_⟩⟩;simp only[Act.put,sA,sB,sC];refine zG (k:=8) (by kernel_rfl) rfl (by rfl) (.tuple #[.slice B9 k9 d9,.int .i64 r1]) (zD rfl rfl) hx9 ?_;simp only[sP,sB,sC];refine zG (k:=9) (by kernel_rfl) rfl (by rfl) (.slice B9 k9 d9) (yR rfl rfl rfl) hx9 ?_;simp only[sP,sB,sC];refine zG (k:=10) (by kernel_rfl) rfl (by rfl) (.int .i64 r1) (yR rfl rfl rfl) hx9 ?_;simp only[sP,sB,sC];refine zG (k:=11) (by kernel_rfl) rfl (by rfl) (.slice B9 k9 d9) (zW rfl rfl) hx9 ?_;simp only[sP,sB,sC];refine zG (k:=12) (by kernel_rfl) rfl (by rfl) (.int .i64 r1) (zW rfl rfl) hx9 ?_;simp only[sP,sB,sC];refine uA (by kernel_rfl) ?_;have ho9:=yE ho8d hx9;have hbad9:=yE hbad8 hx9;have hz9:=hz8.ext hx9;have hy9:=hx8d.trans hx9
    go_wp2_with (first
     | ((with_reducible apply gS 68);refine wLit1 rfl 22 3 (.tmp 67) rfl (some 68) rfl underlying22 1 jM zeroI _ rfl rfl (by omega) (by omega) ?_;intro w11 g11 hb11 hx11 hg11;have hbad11:=yE hbad9 hx11;have hown11:=yE ho9 hx11;have hz11:=hz9.ext hx11;have hy11:=hy9.trans hx11)
     | ((with_reducible apply gS 69);at_builtin;refine wApf zGB rfl (.tmp 66) (.tmp 68) rfl w3.heap.size (.slice YA j yc) j (ints Y) rfl hbad11 _ 1 (ints [(i:Int)]) rfl (zCf hb11) (qK _) (by omega) (by omega) hy11.size ?_;intro A12 c12 w12 ho12 hgr12 hor12;have hy12:=zEc hy11 hgr12 (λb hb=>(hbad11.lt b hb).1);have hown12:=qV hown11 (zM hgr12) (λx hx e=>zEs hown11 hbad11 zFu x hx e);have hz12:=hz11.grown hgr12 (jS hbad11 hz11 (Ne.symm zFu)))
     | ((with_reducible apply gS 72);at_builtin;refine wApf zFd rfl (.tmp 70) (.tmp 71) rfl w3.heap.size (.slice OA m oc) m (ints X) rfl hown12 _ ln (ints (List.replicate (ln*64) 0)) rfl (rep_sl hz12 (by omega)) (qK _) (by omega) (by omega) hy12.size ?_;intro A13 c13 w13 ho13 hgr13 hor13;have hy13:=zEc hy12 hgr13 (λb hb=>(hown12.lt b hb).1);have hbad13:=qV ho12 (zM hgr13) (λx hx e=>zEs ho12 hown12 (Ne.symm zFu) x hx e)))
    go_roundw
    case rel=>exact⟨i+1,m+ln,j+1,X++List.replicate (ln*64) 0,Y++[(i:Int)],by omega,by go_num,hms,HMS,by omega,zA (HXE.out H0N.out),⟨A13,c13,rfl,by rw[vP];exact ho13⟩,⟨A12,c12,rfl,by rw[vP];exact hbad13⟩,hy13⟩
    case measure=>simp[intOf];omega
   have hiP:¬i<P.length:=by rw[HPN.out];exact hp
   have hma:uQ T1 T2 n e P i=(5,[]):=by unfold uQ;rw[if_neg hiP]
   have HXE:=zA (HXEa.out _ hma);have H51:Hid (decide ((i:Int)<(pn:Int))=false):=zA (by rw[decide_eq_false_iff_not];omega);clear hma hiP HXOa;have hy6:∀w6,Ext wr w6→Ext w3 w6:=λw6 h=>hx.trans h
   go_wp2_with (first
    | ((with_reducible apply gS 41);refine yZ (by rfl) 139 (.tmp 40) rfl (td.add (i*2)) rfl (ints [(lo:Int),(hh:Int)]) _ HTC.out underlying139 rfl vE ?_;rw[HBV.out])
    | ((with_reducible apply gS 17);refine wAlo' rfl (some 17) rfl 139 rfl _ zCM ?_;intro w4 g16 hb4 hx4 hg4)
    | ((with_reducible apply gT 17 41);refine wStB rfl 139 (.tmp 17) (.tmp 41) rfl _ _ rfl rfl hb4 2 vE HS2.out HS20.out HO2.out ?_;intro w5 hb5 hg5;have hx5:Ext wr w5:=hx4.grown hg5 hg4)
    | ((with_reducible apply gS 43);refine yU rfl (.int .i64 (hh:Int)) (zS rfl rfl ((hb5.cell 1).trans HC0.out.2)) ?_)
    | ((with_reducible apply gS 45);refine yU rfl (.int .i64 (lo:Int)) (zS rfl rfl ((hb5.cell 0).trans HC0.out.1)) ?_)
    | ((with_reducible apply gS 46);refine zB rfl (.int .i64 (ln:Int)) (by rw[←HD.out];exact xP (i:=hh) (d:=lo) rfl rfl rfl (by omega) hlh) ?_)
    | ((with_reducible apply gS 47);refine zBq rfl (some 47) rfl (.tmp 46) (.tmp 46) rfl ln (by omega) rfl rfl ?_;intro w6 g6 hb6 hx6 hg6;have hx6':=hx5.trans hx6)
    | ((with_reducible apply gS 51);refine zB rfl (.bool false) (yB rfl rfl rfl H51.out) ?_)
    | ((with_reducible apply gS 68);refine wLit1 rfl 22 3 (.tmp 67) rfl (some 68) rfl underlying22 1 jM zeroI _ rfl rfl (by omega) (by omega) ?_;intro w11 g11 hb11 hx11 hg11;have hbad11:=yE hbad (hx6'.trans hx11);have hown11:=yE hown (hx6'.trans hx11);have hz11:=hb6.ext hx11;have hy11:=(hx.trans hx6').trans hx11)
    | ((with_reducible apply gS 69);at_builtin;refine wApf zGB rfl (.tmp 66) (.tmp 68) rfl w3.heap.size (.slice YA j yc) j (ints Y) rfl hbad11 _ 1 (ints [(i:Int)]) rfl (zCf hb11) (qK _) (by omega) (by omega) hy11.size ?_;intro A12 c12 w12 ho12 hgr12 hor12;have hy12:=zEc hy11 hgr12 (λb hb=>(hbad11.lt b hb).1);have hown12:=qV hown11 (zM hgr12) (λx hx e=>zEs hown11 hbad11 zFu x hx e);have hz12:=hz11.grown hgr12 (jS hbad11 hz11 (Ne.symm zFu)))
    | ((with_reducible apply gS 72);at_builtin;refine wApf zFd rfl (.tmp 70) (.tmp 71) rfl w3.heap.size (.slice OA m oc) m (ints X) rfl hown12 _ ln (ints (List.replicate (ln*64) 0)) rfl (rep_sl hz12 (by omega)) (qK _) (by omega) (by omega) hy12.size ?_;intro A13 c13 w13 ho13 hgr13 hor13;have hy13:=zEc hy12 hgr13 (λb hb=>(hown12.lt b hb).1);have hbad13:=qV ho12 (zM hgr13) (λx hx e=>zEs ho12 hown12 (Ne.symm zFu) x hx e)))
   go_roundw
   case rel=>exact⟨i+1,m+ln,j+1,X++List.replicate (ln*64) 0,Y++[(i:Int)],by omega,by go_num,hms,HMS,by omega,zA (HXE.out (by decide)),⟨A13,c13,rfl,by rw[vP];exact ho13⟩,⟨A12,c12,rfl,by rw[vP];exact hbad13⟩,hy13⟩
   case measure=>simp[intOf];omega
  have hiK:i=K:=by omega
  subst hiK;have HRR:Hid (R=(X,Y)):=zA (by rw[←HR.out,HMX.out]);have HXL:Hid (X.length=m*64):=zA (by have h:=HML.out i (by omega);rw[HMX.out] at h;rw[HMA.out];exact h);have hyl:Y.length=j:=by have:=hbad.1;simpa [ints] using this
  go_wp2_with fail;go_ret3
  refine⟨HX3.out.trans hx, ?_⟩;rw[if_pos rfl,HRR.out];exact⟨OA,m,oc,YA,j,yc,rfl,HXL.out,(jC hown).1,hyl,(jC hbad).1,λad e=>wJ1 HX3.out.size ((jC hbad).2 ad e)⟩
end
def zSc:∀(C:List (Nat×Nat)) (xs:List Int),(∀x∈xs,0≤x∧x≤255)→∀t∈zH C xs,0≤t.1∧t.1≤255
 | [],_,_,t,ht=>by simp[zH] at ht
 | _::_,[],_,t,ht=>by simp[zH] at ht
 | c::C,x::xs,h,t,ht=>by
   simp only[zH,wI5,wI8] at ht;rcases ht with rfl | ht
   ·exact h x (by simp)
   exact zSc C xs (λy hy=>h y (by simp[hy])) t ht
def tbl_rng {cs xs:List Int} (h:zQ cs xs=0):∀t∈zH (zC cs 16) xs,0≤t.1∧t.1≤255 :=
 zSc _ _ (λx hx=>by
  obtain⟨-,-,-,-,h5,-⟩:=zAy h
  exact uJ.1 (wI3.1 h5 x hx))
def upon_in {l n:Nat} {P:Program} {o:Oper} {a:Act} {K K':Act→World→Prop} {Q:Exit→Act→World→Prop} (hK:∀a w,K a w→K' a w) (r:Result Next) (h:o.upon P a K Q r):o.uponIn (Fence.wide.inRound l) n P a K' Q r:=by
 cases r with
 | ok v w' =>
   cases v with
   | value v=>exact hK _ _ h
   | skip=>exact hK _ _ h
   | defer d=>exact hK _ _ h
   | enter f args =>
     refine⟨λq=>(by cases q),CallsIn.inRound l (callsIn_wide.2 (Calls.mono h ?_))⟩;intro e w'' h
     cases e with
     | returned v=>exact hK _ _ h
     | panicked ch=>exact h
     | outgrown=>exact h
   | row row args =>
     refine⟨λq=>(by cases q),λc cs _=> ?_⟩;obtain⟨v,w',r,s⟩:=h c cs;exact⟨v,w',hK _ _ r,stepsIn_wide.2 s⟩
   | _=>exact h.elim
 | halt h0 w' =>
   cases h0 with
   | panic v=>exact h
   | _=>exact h.elim
def wl_in {l n:Nat} {P:Program} {ops:Array Oper} {Q:Exit→Act→World→Prop} (hQ:¬LetsOut Q):∀(rest:List Oper) (a:Act) (w:World),(rest.all λo=>match o.op with | .defer _=>false | _=>true)=true→wpList P ops Q rest a w→wpListIn (Fence.wide.inRound l) n P ops Q rest a w
 | [],_,_,_,h=>h
 | o::rest,a,w,hd,h=>by
   rw[List.all_cons,wA9] at hd;have hdo:∀c,o.op≠.defer c:=λc e=>by have:=hd.1;rw[e] at this;cases this
   unfold wpList at h;unfold wpListIn;split
   ·rename_i hw;rw[if_pos hw] at h;rcases h with h | h
    ·refine⟨λf _=>trivial, ?_⟩;show o.uponIn _ n P a _ Q ((o.semAt (some l) a.eval).run P w)
     rw[Oper.semAt_some l _ o hdo];exact upon_in (λa w h=>wl_in hQ rest a w hd.2 h) _ h
    exact absurd h.2 hQ
   rename_i hw;rw[if_neg hw] at h;exact⟨λf _=>trivial,wl_in hQ rest _ _ hd.2 h⟩
def jZ {l n id:Nat} {P:Program} {L:List Oper} {Q:Exit→Act→World→Prop} {a:Act} {w:World} (hQ:¬LetsOut Q) (hd:(L.all λo=>match o.op with | .defer _=>false | _=>true)=true) (h:wpList P L.toArray Q L a w) :
 (Code.region id L.toArray false).wpIn (Fence.wide.inRound l) n P Q a w:=wpIn_region_lit (wl_in hQ L a w hd h)
section
open Go.RowKit Go.Shelf
attribute [local go_sem] Oper.semAt_some
def ext_grown {w w':World} (h:Ext w w'):w.grownBy w' none:=⟨h.os,h.tape,h.output,h.size,λk hk _=>h.block k hk⟩
def zBf {n:Nat} {P:Program} {ops:Array Oper} {Q:Exit→Act→World→Prop} {rest:List Oper} {o:Oper} {a:Act} {w:World} (hg:o.guard=none) (v:Value) (h1:(execOp a.eval o).run P w=.ok (.value v) w)
 (h:wpListIn Fence.wide n P ops Q rest (a.put o.dst v) w):wpListIn Fence.wide n P ops Q (o::rest) a w :=
 wpListIn_plain hg λK hK=>⟨λ_ _=>trivial,by
  show o.uponIn _ n P a K Q ((execOp a.eval o).run P w)
  rw[h1]
  exact hK _ _ h⟩
def zGg {o:Oper} {a:Act} {x:Operand} (ho:o.op=.load 25 x) {p:Addr} (hx:a.eval x=.pointer (some p)) {A:Option Addr} {n c:Nat} {w:World} (h:w.cell? p=some (.slice A n c)):(execOp a.eval o).run prog w=.ok (.value (.slice A n c)) w:=by
 have hr:(loadVar 25 p).run prog w=.ok (.slice A n c) w:=by
  have hi:(prog.info? 25).map (·.size)=some 1:=by kernel_rfl
  simp[loadVar,Sem.run_bind,isAgg,run_underlying underlying25,run_load,h]
 simp[execOp,ho,hx,Instr.loadAt,Instr.sureAddr,Sem.run_bind,hr]
def zGX (A:Addr) (n k:Nat):Value:=.slice (some (A.add (k*n*64))) n n
def run_subM0 (A:Addr) (m c l h:Nat) (hn:l<h) (hh:h≤m) (hc:m≤c) (w:World) :
 (Instr.slice 25 (.slice (some A) m c) (some (.int .i64 (l:Int))) (some (.int .i64 (h:Int))) (some (.int .i64 (h:Int)))).run prog w=.ok (.slice (some (A.add (l*64))) (h-l) (h-l)) w:=by
 have e1:((l:Int)≤(h:Int)):=by omega
 have e2:((h:Int)≤(c:Int)):=by omega
 have e4:¬h=l:=by omega
 have e5:l≤h:=by omega
 go_simp
def run_subM (A:Addr) (m c l n:Nat) (hn:1≤n) (hh:l+n≤m) (hc:m≤c) (w:World) :
 (Instr.slice 25 (.slice (some A) m c) (some (.int .i64 (l:Int))) (some (.int .i64 ((l+n:Nat):Int))) (some (.int .i64 ((l+n:Nat):Int)))).run prog w=.ok (.slice (some (A.add (l*64))) n n) w:=by
 have:=run_subM0 A m c l (l+n) (by omega) hh hc w
 rwa [wP6] at this
def ex_subM {o:Oper} {a:Act} {x lo hi mx:Operand} (ho:o.op=.slice 25 x (some lo) (some hi) (some mx)) {A:Addr} {m c l n h:Nat} (hx:a.eval x=.slice (some A) m c) (h1:a.eval lo=.int .i64 (l:Int)) (h2:a.eval hi=.int .i64 (h:Int)) (h3:a.eval mx=.int .i64 (h:Int)) (hlh:l+n=h) (hn:1≤n) (hh:h≤m) (hc:m≤c) (w:World) :
 (execOp a.eval o).run prog w=.ok (.value (.slice (some (A.add (l*64))) n n)) w:=by subst hlh;simp only[execOp,ho,hx,h1,h2,h3,Instr.sliceAt,Sem.run_bind,run_underlying underlying25,Option.map_some,run_subM A m c l n hn hh hc w,Result.andThen_ok,Sem.run_pure]
def chunk_any (A:Option Addr) (m c n:Nat) (hn:1≤n) (w:World) :
 Calls prog 111 #[.slice A m c,.int .i64 (n:Int)] w λe w'=>∃g1 g2,e=.returned (.func (.func 165) #[] #[.pointer (some ⟨g1,0,none⟩),.pointer (some ⟨g2,0,none⟩)])∧Blk w' g1 25 #[.slice A m c]∧Blk w' g2 3 #[.int .i64 (n:Int)]∧w.heap.size≤g1∧w.heap.size≤g2∧Ext w w':=by
 have hn1:decide ((n:Int)<1)=false:=by rw[decide_eq_false_iff_not];omega
 go_enter func111,ntmps111
 go_wp2_with (first
  | ((with_reducible apply gS 2);refine wBox rfl 25 (.tmp 0) rfl #[.slice A m c] rfl ?_;intro w1 g1 hb1 hx1 hg1)
  | ((with_reducible apply gS 3);refine wBox rfl 3 (.tmp 1) rfl #[.int .i64 (n:Int)] rfl ?_;intro w2 g2 hb2 hx2 hg2;have hb12:=hb1.ext hx2;have hc2:w2.cell? ⟨g2,0,none⟩=some (.int .i64 (n:Int)):=hb2.cell 0)
  | ((with_reducible apply gS 5);refine yU rfl (.int .i64 (n:Int)) (zS rfl rfl hc2) ?_)
  | ((with_reducible apply gS 6);refine zB rfl (.bool false) (yB rfl rfl rfl hn1) ?_))
 go_ret;exact⟨g1,g2,rfl,hb12,hb2,hg1,wJ1 hx1.size hg2,hx1.trans hx2⟩
end
section
open Go.RowKit Go.Shelf
attribute [local go_sem] Oper.semAt_some
def KpC (n₀ g1 g2:Nat) (W W':World):Prop:=Below n₀ W W'∧W'.heap[g1]? =W.heap[g1]? ∧W'.heap[g2]? =W.heap[g2]?
def KpC.trans {n₀ g1 g2:Nat} {A B C:World} (h:KpC n₀ g1 g2 A B) (k:KpC n₀ g1 g2 B C):KpC n₀ g1 g2 A C:=⟨h.1.trans k.1,k.2.1.trans h.2.1,k.2.2.trans h.2.2⟩
def zTq {β:Type} {B:Nat} {J:β→World→Prop} (h:AbidesFrom B J) {s:β} {W W':World} (hs:J s W) (hx:Ext W W'):J s W':=h s W W' none hs (ext_grown hx) (λ_ e=>by cases e)
def finTake {p k:Nat} (hk:k<p):(List.finRange p).take (k+1)=(List.finRange p).take k++[⟨k,hk⟩]:=by rw[wC1 (by simpa using hk)];simp
set_option maxRecDepth 100000 in
def chunk1_in (N l g1 g2 n₀ B:Nat) (A:Addr) (m c n p:Nat) (hn:1≤n) (hm:m=p*n) (hmc:m≤c) (hm4:m≤100000) (J Jx:List (Fin p)→World→Prop) (hJ:AbidesFrom B J) (hJx:AbidesFrom B Jx)
 (hY:∀pre (x:Fin p) W1,J pre W1→pre.length<p→YieldAt Fence.wide (N-1) prog l #[zGX A n x.1] W1 λe W'=>(e=.returned (.bool true)∧J (pre++[x]) W'∧KpC n₀ g1 g2 W1 W')∨(e=.returned (.bool false)∧Jx (pre++[x]) W'))
 (W:World) (hb1:Blk W g1 25 #[.slice (some A) m c]) (hb2:Blk W g2 3 #[.int .i64 (n:Int)]) (h0:J [] W) :
 CallsIn Fence.wide N prog 165 #[.func (.yield l) #[] #[],.pointer (some ⟨g1,0,none⟩),.pointer (some ⟨g2,0,none⟩)] W λe W'=>(∃v,e=.returned v) ∧
  ((∃ys,ys=List.finRange p∧J ys W')∨(∃pre,True∧Jx pre W')):=by
 have HM:=zA hm;clear hm;refine callsIn_of_wp func165 rfl trivial ?_ rfl;simp only[ntmps165,List.size_toArray,wA8,wJ0,Nat.reduceAdd,Nat.reduceSub,Array.replicate_succ,Array.replicate_zero,List.push_toArray,wT5,wG4,wE1]
 gi_wp2
 gi_loopw [4] (λiv wr=>∃k lo:Nat,k≤p∧Hid (k*n=lo)∧iv=.int .i64 (lo:Int)∧J ((List.finRange p).take k) wr∧Blk wr g1 25 #[.slice (some A) m c]∧Blk wr g2 3 #[.int .i64 (n:Int)])
  (λiv _=>m-(intOf iv).toNat)
 case atStart=>exact⟨0,0,by omega,zA (by simp),rfl,by simpa using h0,hb1,hb2⟩
 case round =>
  clear hb1 hb2 h0;obtain⟨k,lo,hk,HLO,rfl,hJs,hb1,hb2⟩:=hrel;have hc1:wr.cell? ⟨g1,0,none⟩=some (.slice (some A) m c):=hb1.cell 0;have hc2:wr.cell? ⟨g2,0,none⟩=some (.int .i64 (n:Int)):=hb2.cell 0
  by_cases hkp:k<p
  ·have hlm:lo+n≤m:=by
    rw[HM.out, ←HLO.out];have:=wO9 n (show k+1≤p by omega);rw[wE3] at this;omega
   have hlt:decide ((lo:Int)<(m:Int))=true:=by rw[wB3];omega
   have HPV:Hid (zGX A n k=.slice (some (A.add (lo*64))) n n):=zA (by unfold zGX;rw[HLO.out])
   gi_wp2_with (first
    | ((with_reducible show wpListIn _ _ _ _ _ (⟨some 7,_,_,_,_,_⟩::_) _ _);refine zBf rfl (.slice (some A) m c) (zGg rfl rfl hc1) ?_)
    | ((with_reducible show wpListIn _ _ _ _ _ (⟨some 9,_,_,_,_,_⟩::_) _ _);refine zBf rfl (.bool true) (yB rfl rfl rfl hlt _) ?_))
   have hbd1:∀w',Ext wr.drew w'→w'.cell? ⟨g1,0,none⟩=some (.slice (some A) m c):=λw' h=>(h.cell (p:=⟨g1,0,none⟩) hb1.lt).trans hc1
   have hbd2:∀w',Ext wr.drew w'→w'.cell? ⟨g2,0,none⟩=some (.int .i64 (n:Int)):=λw' h=>(h.cell (p:=⟨g2,0,none⟩) hb2.lt).trans hc2
   refine wpIn_wide.2 ?_;refine xU qM (by kernel_rfl) (by kernel_rfl) ?_;simp only[Act.put,sA,sB,sC];refine xA (by rfl) (.int .i64 (n:Int)) (λW hW=>zS rfl rfl (hbd2 W hW)) ?_;simp only[sP,sB,sC];refine xA (by rfl) (.slice (some A) m c) (λW hW=>zGg rfl rfl (hbd1 W hW)) ?_;simp only[sP,sB,sC];refine zE (by rfl) (.int .i64 (lo:Int)) (zD rfl rfl) ?_;simp only[sP,sB,sC];refine zE (by rfl) (.slice (zDt (some A) c lo) (m-lo) (c-lo)) (ex_subF rfl rfl rfl (by omega) hmc) ?_;simp only[sP,sB,sC];refine zE (by rfl) (.int .i64 ((m-lo:Nat):Int)) (zNe rfl rfl) ?_;simp only[sP,sB,sC];refine zE (by rfl) (.int .i64 ((min n (m-lo):Nat):Int)) (zKb rfl rfl rfl) ?_;simp only[sP,sB,sC];refine zE (by rfl) (.int .i64 (n:Int)) (by rw[show n=min n (m-lo) by omega];exact zW rfl (by rw[show min (min n (m-lo)) (m-lo)=min n (m-lo) by omega];rfl)) ?_;simp only[sP,sB,sC];refine jU ?_;intro w9 hx9;have hJ9:=zTq hJ hJs ((Ext.refl wr).drew.trans hx9);have hb19:Blk w9 g1 25 #[.slice (some A) m c]:=hb1.drew.ext hx9;have hb29:Blk w9 g2 3 #[.int .i64 (n:Int)]:=hb2.drew.ext hx9;have hc19:=hbd1 w9 hx9;obtain⟨hh,hhe⟩:∃hh,lo+n=hh:=⟨_,rfl⟩
   have HH:=zA hhe;have hhm:hh≤m:=by omega
   clear hhe hbd1 hbd2 hc1 hc2 hb1 hb2 hJs;obtain⟨fn,tmps,assign,body,hy,hR⟩:=hY _ ⟨k,hkp⟩ w9 hJ9 (by simp;omega);rw[←finTake hkp] at hR;dsimp only at hy;generalize hpv:zGX A n k=pv at *
   gi_wp2_with (first
    | ((with_reducible show wpListIn _ _ _ _ _ (⟨some 20,_,_,_,_,_⟩::_) _ _);refine zBf rfl (.slice (some A) m c) (zGg rfl rfl hc19) ?_)
    | ((with_reducible show wpListIn _ _ _ _ _ (⟨some 24,_,_,_,_,_⟩::_) _ _);refine zBf rfl (.int .i64 (hh:Int)) (by rw[←HH.out];exact yL (i:=lo) (d:=n) rfl rfl rfl (by omega) _) ?_)
    | ((with_reducible show wpListIn _ _ _ _ _ (⟨some 27,_,_,_,_,_⟩::_) _ _);refine zBf rfl (.int .i64 (hh:Int)) (by rw[←HH.out];exact yL (i:=lo) (d:=n) rfl rfl rfl (by omega) _) ?_)
    | ((with_reducible show wpListIn _ _ _ _ _ (⟨some 28,_,_,_,_,_⟩::_) _ _);refine zBf rfl pv (by rw[HPV.out];exact ex_subM rfl rfl rfl rfl rfl HH.out hn hhm hmc _) ?_))
   refine⟨λh=>(by cases h),hR.mono ?_⟩;rintro e W3 (⟨rfl,hJ3,hk3⟩ | ⟨rfl,hJx3⟩)
   ·have hb13:Blk W3 g1 25 #[.slice (some A) m c]:=hk3.2.1.trans hb19;have hb23:Blk W3 g2 3 #[.int .i64 (n:Int)]:=hk3.2.2.trans hb29;have hc23:W3.cell? ⟨g2,0,none⟩=some (.int .i64 (n:Int)):=hb23.cell 0
    gi_wp2_with (first
     | ((with_reducible show wpListIn _ _ _ _ _ (⟨some 11,_,_,_,_,_⟩::_) _ _);refine zBf rfl (.int .i64 (n:Int)) (zS rfl rfl hc23) ?_)
     | ((with_reducible show wpListIn _ _ _ _ _ (⟨some 12,_,_,_,_,_⟩::_) _ _);refine zBf rfl (.int .i64 (hh:Int)) (by rw[←HH.out];exact yL (i:=lo) (d:=n) rfl rfl rfl (by omega) _) ?_))
    go_roundw
    case rel=>exact⟨k+1,hh,by omega,zA (by rw[wE3,HLO.out,wN5,HH.out]),by go_num,hJ3,hb13,hb23⟩
    case measure=>simp[intOf];have:=HH.out;omega
   gi_wp2
   refine bodyPost_ret (results_none rfl _ _ _) rfl ?_;exact⟨⟨_,rfl⟩,.inr ⟨_,trivial,hJx3⟩⟩
  have ekp:k=p:=by omega
  have elo:lo=m:=by rw[←HLO.out,HM.out,ekp]
  subst elo;have hlt:decide ((lo:Int)<(lo:Int))=false:=by rw[decide_eq_false_iff_not];omega
  have hJz:J (List.finRange p) wr:=by rw[ekp,wC2 (by simp)] at hJs;exact hJs
  gi_wp2_with (first
   | ((with_reducible show wpListIn _ _ _ _ _ (⟨some 7,_,_,_,_,_⟩::_) _ _);refine zBf rfl (.slice (some A) lo c) (zGg rfl rfl hc1) ?_)
   | ((with_reducible show wpListIn _ _ _ _ _ (⟨some 9,_,_,_,_,_⟩::_) _ _);refine zBf rfl (.bool false) (yB rfl rfl rfl hlt _) ?_))
  go_end0
  exact⟨⟨_,rfl⟩,.inl ⟨_,rfl,hJz⟩⟩
def zTD (N g1 g2 n₀:Nat) (A:Addr) (m c n p:Nat) (hn:1≤n) (hm:m=p*n) (hmc:m≤c) (hm4:m≤100000) (w:World) (hb1:Blk w g1 25 #[.slice (some A) m c]) (hb2:Blk w g2 3 #[.int .i64 (n:Int)]) :
 SeqStopsK Fence.wide N prog 165 #[.pointer (some ⟨g1,0,none⟩),.pointer (some ⟨g2,0,none⟩)] (λx:Fin p=> #[zGX A n x.1]) (KpC n₀ g1 g2) (λys=>ys=List.finRange p) (λ_=>True) p w:=λl J Jx W hW hJ hJx hY h0 =>
 chunk1_in N l g1 g2 n₀ W.heap.size A m c n p hn hm hmc hm4 J Jx hJ hJx hY W (hb1.ext hW) (hb2.ext hW) h0
