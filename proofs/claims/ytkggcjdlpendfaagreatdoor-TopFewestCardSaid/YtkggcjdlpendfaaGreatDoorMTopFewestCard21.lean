import Derived.Test.YtkggcjdlpendfaaGreatDoorMTopFewestCard20
set_option linter.all false
set_option maxRecDepth 20000
set_option maxHeartbeats 8000000
namespace Go.Proofs.YtkggcjdlpendfaaGreatDoor
open Go.RowKit
def plZ_one (b:Nat) (l:List Nat) (h:b≠255):plZ (b::l)=(plZ l).map (b:: ·):=by
 cases l with
 | nil=>simp[plZ,h]
 | cons c r=>rw[plZ,if_neg h]
def zIT: ∀ bs:List Nat,plZ (qG bs)=some bs
 | []=>rfl
 | b::l=>by
   rw[zMA]
   by_cases h:b=255
   ·rw[if_pos h,h];show plZ (255::0::qG l)=_
    rw[plZ,if_pos rfl,if_pos rfl,zIT l];rfl
   ·rw[if_neg h];show plZ (b::qG l)=_
    rw[plZ_one b _ h,zIT l];rfl
def sp_one (b:Nat) (r:List Nat) (P:List (List Nat)) (M c:List Nat) (h:b≠255):xY (b::r) P M c=xY r P M (c++[b]):=by
 cases r with
 | nil=>simp[xY,h]
 | cons y r=>rw[xY,if_neg h]
def zGm: ∀ (x r:List Nat) (P:List (List Nat)) (M c:List Nat),xY (qG x++r) P M c=xY r P M (c++qG x)
 | [],r,P,M,c=>by simp[qG]
 | b::l,r,P,M,c=>by
   rw[zMA,wG2]
   by_cases h:b=255
   ·rw[if_pos h];show xY (255::0::(qG l++r)) P M c=_
    rw[xY,if_pos rfl,if_neg (by decide),if_pos rfl,zGm l,wG2]
   ·rw[if_neg h];show xY (b::(qG l++r)) P M c=_
    rw[sp_one b _ _ _ _ h,zGm l,wG2]
def sp_mark (m:Nat) (r:List Nat) (P:List (List Nat)) (M c:List Nat) (h0:m≠0) (h:m≠255):xY (255::m::r) P M c=xY r (P++[c]) (M++[m]) []:=by
 rw[xY,if_pos rfl,if_neg h,if_neg h0]
def zDe (x:Nat→List Nat) (i m:Nat):List Nat:=(List.range' i m).flatMap fun j=>zCk j++qG (x j)
def zGy (x:Nat→List Nat) (i m:Nat):zDe x i (m+1)=zCk i++(qG (x i)++zDe x (i+1) m):=by
 unfold zDe;rw[wK4,wJ6,wG2]
def sp_join (x:Nat→List Nat): ∀ (m i:Nat) (P:List (List Nat)) (M c:List Nat),0<i→xY (zDe x i m) P M c=some (P++c::(List.range' i m).map (fun j=>qG (x j)),M++(List.range' i m).map fun j=>208+(j-1)%8)
 | 0,i,P,M,c,_=>by simp[zDe,xY]
 | m+1,i,P,M,c,hi=>by
   rw[zGy];unfold zCk;rw[if_neg (by omega)];show xY (255::(208+(i-1)%8)::(qG (x i)++zDe x (i+1) m)) P M c=_
   rw[sp_mark _ _ _ _ _ (by omega) (by omega),zGm,wL5,sp_join x m (i+1) _ _ _ (by omega),wK4];simp
def sp_joined (x:Nat→List Nat) (m:Nat):xY (zDe x 0 (m+1)) [] [] []=some ((List.range (m+1)).map (fun j=>qG (x j)),(List.range' 1 m).map fun j=>208+(j-1)%8):=by
 rw[zGy];show xY (qG (x 0)++zDe x 1 m) [] [] []=_
 rw[zGm,sp_join x m 1 _ _ _ (by omega),List.range_eq_range',wK4];simp
def zPV: ∀ (m i:Nat),0<i→vY ((List.range' i m).map fun j=>208+(j-1)%8) (i-1)=true
 | 0,i,_=>rfl
 | m+1,i,hi=>by
   rw[wK4,wC8,vY,show i-1+1=i+1-1 by omega,zPV m (i+1) (by omega)];simp
def zPy (n e:Nat):1≤yG n e:=by
 unfold yG;split
 ·omega
 ·next h=>exact (Nat.le_div_iff_mul_le (by omega)).2 (by omega)
def zMC (n e:Nat) (Z:List Int) (hZ:Z.length=n*64): ∀ k,k≤yG n e→(List.range k).flatMap (fun i=>yX n e i Z)=Z.take (atK n e k*64)
 | 0,_=>by rw[atK_0];simp
 | k+1,h=>by
   rw[wH3,wJ4,zMC n e Z hZ k (by omega),wJ6,List.flatMap_nil,wG6,zPM (by omega),wJ8];have h1:atK n e k=k*yE n e:=by have:=zIG (n:=n) (e:=e) (i:=k) (by omega);unfold atK;omega
   unfold yX;rw[h1,List.take_add];rfl
def segB (T1 T2:List Tok) (n e:Nat) (Z:List Int) (i:Nat):List Nat:=jJ (zAM (xZ (xK T1 T2) (zAe n e i) (yX n e i Z) []).2)
def zLj (T1 T2:List Tok) (n e:Nat) (Z:List Int): ∀ (m i:Nat) (acc:List Nat),(zAB T1 T2 n e Z m i acc).1=0 →
 (∀ j,i≤j→j<i+m→(xZ (xK T1 T2) (zAe n e j) (yX n e j Z) []).1=0)∧(zAB T1 T2 n e Z m i acc).2=acc++zDe (segB T1 T2 n e Z) i m
 | 0,i,acc,_=>⟨fun j h1 h2=>by omega,by simp[zAB,zDe]⟩
 | m+1,i,acc,h=>by
   by_cases h0:(zCo T1 T2 (min (n-i*yE n e) (yE n e)) (yX n e i Z)).1=0
   ·rw[zOB rfl h0] at h ⊢;obtain⟨h1,h2⟩:=zLj T1 T2 n e Z m (i+1) _ h;refine⟨fun j a b=> ?_, ?_⟩
    ·by_cases hj:j=i
     ·subst hj;exact h0
     ·exact h1 j (by omega) (by omega)
    ·rw[h2,zGy,wG2,wG2];rfl
   ·rw[zMF rfl h0] at h;exact absurd h h0
def zRt {cs1 xs1 cs2 xs2:List Int} (l1:cs1.length=16) (l2:cs2.length=16) (z1:zT cs1 xs1=0) (z2:zT cs2 xs2=0) {n e:Nat} {Z:List Int} (hZ:Z.length=n*64) {i:Nat} (h:(xZ (xK (zL (zD cs1 16) xs1) (zL (zD cs2 16) xs2)) (zAe n e i) (yX n e i Z) []).1=0) :
 uT true (zL (zD cs1 16) xs1) (zL (zD cs2 16) xs2) ((zAe n e i:Nat):Int) (plZ (qG (segB (zL (zD cs1 16) xs1) (zL (zD cs2 16) xs2) n e Z i)))=(0,yX n e i Z):=by
 rw[zIT];exact decR_back l1 l2 z1 z2 (zEp hZ) h
def zMz {cs1 xs1 cs2 xs2:List Int} (l1:cs1.length=16) (l2:cs2.length=16) (z1:zT cs1 xs1=0) (z2:zT cs2 xs2=0) {n e:Nat} {Z:List Int} (hZ:Z.length=n*64) (x:Nat→List Nat) (K:Nat): ∀ (m i:Nat) (acc:List Int),i+m=K →
 (∀ j,i≤j→j<i+m→uT true (zL (zD cs1 16) xs1) (zL (zD cs2 16) xs2) ((zAe n e j:Nat):Int) (plZ (qG (x j)))=(0,yX n e j Z)) →
 zBb (zL (zD cs1 16) xs1) (zL (zD cs2 16) xs2) n e ((List.range K).map fun j=>qG (x j)) m i acc=(0,acc++(List.range' i m).flatMap fun j=>yX n e j Z)
 | 0,i,acc,_,_=>by simp[zBb]
 | m+1,i,acc,hK,h=>by
   have hg:((List.range K).map fun j=>qG (x j)).getD i []=qG (x i):=by
    rw[wF4,wC0,wI7 (by omega)];rfl
   have h1:=h i (wA5 _) (by omega);rw[sdGo_ok (r:=(0,yX n e i Z)) (by rw[hg,h1]) rfl,zMz l1 l2 z1 z2 hZ x K m (i+1) _ (by omega) (fun j a b=>h j (by omega) (by omega)),wK4,wJ6,wG2]
def zOZ {cs1 xs1 cs2 xs2:List Int} (l1:cs1.length=16) (l2:cs2.length=16) (z1:zT cs1 xs1=0) (z2:zT cs2 xs2=0) {n e:Nat} {Z:List Int} (hZ:Z.length=n*64) (h:(zCM (zL (zD cs1 16) xs1) (zL (zD cs2 16) xs2) n e Z).1=0) :
 (zCM (zL (zD cs1 16) xs1) (zL (zD cs2 16) xs2) n e Z).2=zDe (segB (zL (zD cs1 16) xs1) (zL (zD cs2 16) xs2) n e Z) 0 (yG n e) ∧
 (∀ j,j<yG n e→(xZ (xK (zL (zD cs1 16) xs1) (zL (zD cs2 16) xs2)) (zAe n e j) (yX n e j Z) []).1=0) ∧
 zBQ (zL (zD cs1 16) xs1) (zL (zD cs2 16) xs2) n e (zCM (zL (zD cs1 16) xs1) (zL (zD cs2 16) xs2) n e Z).2=(0,Z):=by
 have hbe:qL n Z=0:=by
  by_cases h0:qL n Z=0
  ·exact h0
  ·unfold zCM at h;rw[if_pos h0] at h;exact absurd h h0
 have hsc:zCM (zL (zD cs1 16) xs1) (zL (zD cs2 16) xs2) n e Z=zAB (zL (zD cs1 16) xs1) (zL (zD cs2 16) xs2) n e Z (yG n e) 0 []:=by
  unfold zCM;rw[if_neg (by simpa using hbe)]
 rw[hsc] at h ⊢;obtain⟨h1,h2⟩:=zLj _ _ n e Z (yG n e) 0 [] h;rw[wL5] at h2;refine⟨h2,fun j hj=>h1 j (by omega) (by omega), ?_⟩;rw[h2];have hK:=zPy n e;unfold zBQ;have hs:=sp_joined (segB (zL (zD cs1 16) xs1) (zL (zD cs2 16) xs2) n e Z) (yG n e-1);rw[show yG n e-1+1=yG n e by omega] at hs;rw[hs];dsimp only
 have hw:zBg n e ((List.range (yG n e)).map fun j=>qG (segB (zL (zD cs1 16) xs1) (zL (zD cs2 16) xs2) n e Z j)) ((List.range' 1 (yG n e-1)).map fun j=>208+(j-1)%8)=0:=by
  unfold zBg;rw[if_neg (by simp),zPV (yG n e-1) 1 (by omega),if_pos rfl]
 rw[hw,if_neg (by simp),zMz l1 l2 z1 z2 hZ _ (yG n e) (yG n e) 0 [] (by omega) (fun j a b=>zRt l1 l2 z1 z2 hZ (h1 j (by omega) b))];rw[wL5, ←List.range_eq_range',zMC n e Z hZ _ (wA5 _),atK_end,wC4 (by omega)]
def PcErr (z:Int) (w:World) (e:Ending) (w':World):Prop:=e=.returned (.tuple #[.slice none 0 0,.slice none 0 0,.int .i64 z])∧Ext w w'
def zRT (t1 t2:List Value) (v:Value) (bs:List Nat) (nn ev:Int) (w:World) (he:0≤ev∧ev≤100) (hn:0≤nn∧nn≤400) (hs:SL w 1 v bs.length (zF bs)) (hlt: ∀ b∈bs,b<256) (hl:bs.length≤1048576) (h1:t1.length=17) (h2:t2.length=17)
 (o1:t1.toArray.all (·.oneCell')=true) (o2:t2.toArray.all (·.oneCell')=true)
 (C1: ∀ W,Ext w W→Calls Tryz.prog 102 #[.agg t1.toArray] W fun e W'=>e=.returned (.int .i64 0)∧Ext W W')
 (C2: ∀ W,Ext w W→Calls Tryz.prog 102 #[.agg t2.toArray] W fun e W'=>e=.returned (.int .i64 0)∧Ext W W') :
 Calls Tryz.prog 109 #[.agg (t1++t2).toArray,v,.int .i64 nn,.int .i64 ev] w (SpIsN (xY bs [] [] []) w):=by
 have hl1:=zA h1;have hl2:=zA h2;have HB2:=zA (zGY t1 t2 h1 h2);have HRT:=zA (fun W g (hb:Blk W g 42 (t1++t2).toArray)=>uY h1 hb);have HRU:=zA (fun W g (hb:Blk W g 44 (t1++t2).toArray)=>uY h1 hb);have hs1:Hid (t1.toArray.size=17):=zA (by simpa using h1);have hs2:Hid (t2.toArray.size=17):=zA (by simpa using h2);have hz17:Hid ((ints (List.replicate 16 0)++[Value.slice none 0 0]).toArray.size=17):=zA (by simp[ints]);have HO1:=zA o1;have HO2:=zA o2;have HC1:=zA C1;have HC2:=zA C2;have H15:Hid (decide (ev<0)=false):=zA (by rw[decide_eq_false_iff_not];omega);have H18:Hid (decide (100<ev)=false):=zA (by rw[decide_eq_false_iff_not];omega);have H22:Hid (decide (nn<0)=false):=zA (by rw[decide_eq_false_iff_not];omega);have H26:Hid (decide (400<nn)=false):=zA (by rw[decide_eq_false_iff_not];omega);have HSP:=zA (fun W (h:Ext w W)=>zLe bs v W (hs.ext h) hlt hl);generalize xY bs [] [] []=z at *;clear o1 o2 C1 C2 h1 h2 he hn hs hlt hl;go_enter Tryz.func109,Tryz.ntmps109
 go_wp2_with (first
  | ((with_reducible apply gS 4);refine wBox rfl 44 (.tmp 0) rfl (t1++t2).toArray rfl ?_;intro w1 g hb1 hx1 hg;have hr1:=HRU.out _ _ hb1)
  | ((with_reducible apply gS 15);refine zB rfl (.bool false) (zZ rfl rfl rfl H15.out) ?_)
  | ((with_reducible apply gS 18);refine xA (by rfl) (.bool false) (xU rfl rfl rfl H18.out) ?_)
  | ((with_reducible apply gS 22);refine xA (by rfl) (.bool false) (zZ rfl rfl rfl H22.out) ?_)
  | ((with_reducible apply gS 26);refine xA (by rfl) (.bool false) (xU rfl rfl rfl H26.out) ?_)
  | ((with_reducible apply gS 29);refine wpList_load_mid rfl 42 (.tmp 28) rfl g 0 rfl t1 _ hr1.1 Tryz.underlying42 rfl (by rw[hl1.out];exact zS) ?_)
  | ((with_reducible apply gS 31);refine wpList_load_mid rfl 42 (.tmp 30) rfl g 17 rfl t2 _ hr1.2 Tryz.underlying42 rfl (by rw[hl2.out];exact zS) ?_)
  | ((with_reducible apply gS 32);refine Go.Great.wpList_buildSliceTo rfl 115 42 2 _ rfl _ rfl (some 32) rfl Tryz.underlying115 _ (by simp[Act.eval];exact HB2.out) ?_))
 have hbn0:=Blk.new w1 42 (t1++t2).toArray;have hb3:=hb1.alloc (.cells (t1++t2).toArray 42);have hx3:=hx1.alloc (.cells (t1++t2).toArray 42);clear hb1 hr1 hx1
 go_loopw [34] (fun i wr=> ∃ k:Nat,k≤2∧i=.int .i64 (k:Int)∧Blk wr g 44 (t1++t2).toArray∧Blk wr w1.heap.size 42 (t1++t2).toArray∧Ext w wr) (fun i _=>2-(intOf i).toNat)
 case atStart=>exact⟨0,by omega,rfl,hb3,hbn0,hx3⟩
 case round =>
  clear hb3 hbn0 hx3;obtain⟨k,hk,rfl,hb,hbn,hx⟩:=hrel;rcases (by omega:k=0∨k=1∨k=2) with rfl | rfl | rfl
  ·have hr:=(HRT.out _ _ hbn).1
   go_wp2_with (first
    | ((with_reducible apply gS 37);refine wpList_load_mid rfl 42 (.tmp 36) rfl _ 0 rfl t1 _ hr Tryz.underlying42 rfl (by rw[hl1.out];exact zS) ?_)
    | ((with_reducible apply gS 12);refine wAlo' rfl (some 12) rfl 42 rfl _ zAN ?_;intro w4 ga hba4 hx4 hga)
    | ((with_reducible apply gT 12 37);refine wStB rfl 42 (.tmp 12) (.tmp 37) rfl _ _ rfl rfl hba4 17 zS hs1.out hz17.out HO1.out ?_;intro w5 hba5 hg5;have hx5:=(hx.trans hx4).grown hg5 (by have:=hx.size;omega))
    | ((with_reducible apply gS 38);refine wLdB rfl 42 (.tmp 12) rfl _ rfl hba5 _ Tryz.underlying42 rfl 17 zS hs1.out ?_)
    | (go_at_call 102;(with_reducible refine (HC1.out _ hx5).mono ?_);rintro e w6 ⟨rfl,hx6⟩))
   go_roundw
   case rel=>exact⟨1,by omega,by go_num,((hb.ext hx4).grown hg5 (by have:=hb.lt;simp;omega)).ext hx6,((hbn.ext hx4).grown hg5 (by have:=hbn.lt;simp;omega)).ext hx6,hx5.trans hx6⟩
   case measure=>simp[intOf]
  ·have hr:=(HRT.out _ _ hbn).2
   go_wp2_with (first
    | ((with_reducible apply gS 37);refine wpList_load_mid rfl 42 (.tmp 36) rfl _ 17 rfl t2 _ hr Tryz.underlying42 rfl (by rw[hl2.out];exact zS) ?_)
    | ((with_reducible apply gS 12);refine wAlo' rfl (some 12) rfl 42 rfl _ zAN ?_;intro w4 ga hba4 hx4 hga)
    | ((with_reducible apply gT 12 37);refine wStB rfl 42 (.tmp 12) (.tmp 37) rfl _ _ rfl rfl hba4 17 zS hs2.out hz17.out HO2.out ?_;intro w5 hba5 hg5;have hx5:=(hx.trans hx4).grown hg5 (by have:=hx.size;omega))
    | ((with_reducible apply gS 38);refine wLdB rfl 42 (.tmp 12) rfl _ rfl hba5 _ Tryz.underlying42 rfl 17 zS hs2.out ?_)
    | (go_at_call 102;(with_reducible refine (HC2.out _ hx5).mono ?_);rintro e w6 ⟨rfl,hx6⟩))
   go_roundw
   case rel=>exact⟨2,by omega,by go_num,((hb.ext hx4).grown hg5 (by have:=hb.lt;simp;omega)).ext hx6,((hbn.ext hx4).grown hg5 (by have:=hbn.lt;simp;omega)).ext hx6,hx5.trans hx6⟩
   case measure=>simp[intOf]
  ·clear HRT HRU HB2 HC1 HC2 hbn hs1 hs2 hz17 HO1 HO2 hl1 hl2
   cases z with
   | none =>
     go_wp2_with (first
      | (go_at_call 34;(with_reducible refine (HSP.out _ hx).mono ?_);rintro e w2 ⟨rfl,hx2⟩))
     go_ret3
     exact⟨rfl,hx.trans hx2⟩
   | some q =>
     obtain⟨P,M⟩:=q
     go_wp2_with (first
      | (go_at_call 34;(with_reducible refine (HSP.out _ hx).mono ?_);rintro e w2 ⟨A,c,B,d,VS,rfl,k1,k2,k3,hx2,k4⟩))
     go_ret3
     exact⟨A,c,B,d,VS,rfl,k1,k2,k3,hx.trans hx2,k4⟩
section
def WhIs (x:Int) (P:List (List Nat)) (w:World) (e:Ending) (w':World):Prop :=
 Ext w w'∧if x=0 then ∃ A c VS,e=.returned (.tuple #[.slice A P.length c,.int .i64 0])∧SL w' 1 (.slice A P.length c) P.length VS∧Pieces w' VS P∧NZ VS
  else e=.returned (.tuple #[.slice none 0 0,.int .i64 x])
def whole_err (tt:Array Value) (hsz0:tt.size=34) (v:Value) (nn ev:Int) (z:Int) (hz:z≠0) (w:World)
 (PC: ∀ W,Ext w W→Calls Tryz.prog 109 #[.agg tt,v,.int .i64 nn,.int .i64 ev] W (PcErr z W)):Calls Tryz.prog 122 #[.agg tt,v,.int .i64 nn,.int .i64 ev] w (WhIs z [] w):=by
 have HPC:=zA PC;have hsz:=zA hsz0;have hzb:(z !=0)=true:=by simpa using hz
 have HZ:=zA hz;clear PC hsz0 hz;go_enter Tryz.func122,Tryz.ntmps122
 go_wp2_with (first
  | ((with_reducible apply gS 4);refine wBox rfl 44 (.tmp 0) rfl tt rfl ?_;intro w1 g hb1 hx1 hg)
  | ((with_reducible apply gS 16);refine wLdB rfl 44 (.tmp 4) rfl g rfl hb1 _ Tryz.underlying44 rfl 34 qP hsz.out ?_)
  | (go_at_call 109;(with_reducible refine (HPC.out _ hx1).mono ?_);rintro e w2 ⟨rfl,hx2⟩))
 refine bodyPost_ret (results_tmp2 rfl _ _ _) rfl ?_;refine⟨hx1.trans hx2, ?_⟩;rw[if_neg HZ.out];rfl
attribute [local irreducible] jM yE yG vY xY
def zTF (tt:Array Value) (hsz0:tt.size=34) (v:Value) (n e:Nat) (hn:n≤1000000) (he:e≤1000000) (P:List (List Nat)) (M:List Nat) (hM:M.length≤100000000) (hP:P.length≤100000000) (w:World)
 (PC: ∀ W,Ext w W→Calls Tryz.prog 109 #[.agg tt,v,.int .i64 (n:Int),.int .i64 (e:Int)] W (SpIsN (some (P,M)) W)):Calls Tryz.prog 122 #[.agg tt,v,.int .i64 (n:Int),.int .i64 (e:Int)] w (WhIs (zBg n e P M) P w):=by
 have HPC:=zA PC;have hsz:=zA hsz0;have HSP:=zA (fun W=>zIf n e hn he W);have hKl:=zDj (n:=n) (e:=e);have HMK:=zA (fun i W (h:i<M.length)=>zPR i (by omega) W);obtain⟨x,hx0⟩: ∃ x,zBg n e P M=x:=⟨_,rfl⟩
 have HX4:Hid (P.length≠yG n e→x=4):=zA (fun h=>by rw[←hx0];unfold zBg;rw[if_pos h]);have HX6:Hid (P.length=yG n e→vY M 0=false→x=6):=zA (fun h h2=>by rw[←hx0];unfold zBg;rw[if_neg (by simp[h]),if_neg (by simp[h2])]);have HX0:Hid (P.length=yG n e→vY M 0=true→x=0):=zA (fun h h2=>by rw[←hx0];unfold zBg;rw[if_neg (by simp[h]),if_pos h2]);rw[hx0];obtain⟨K,hK⟩: ∃ K,yG n e=K:=⟨_,rfl⟩
 rw[hK] at HSP HX4 HX6 HX0 hKl;obtain⟨pn,hpn⟩: ∃ k,P.length=k:=⟨_,rfl⟩
 have HPN:=zA hpn;have HRS:Hid (∀ W e' W',SpIsN (some (P,M)) W e' W'→ ∃ A c B d VS,e'=.returned (.tuple #[.slice A pn c,.slice B M.length d,.int .i64 0])∧SL W' 1 (.slice A pn c) pn VS∧Pieces W' VS P∧SL W' 1 (.slice B M.length d) M.length (ints (M.map Int.ofNat))∧Ext W W'∧NZ VS):=zA (fun W e' W' h=>by rw[←hpn];exact h);rw[hpn] at HX4 HX6 HX0 hP;obtain⟨ml,hml⟩: ∃ k,M.length=k:=⟨_,rfl⟩
 have HML:=zA hml;rw[hml] at HRS hM HMK;clear PC hsz0 hx0 hK hpn hml
 by_cases hpk:pn=K
 ·have H33:Hid (decide ((pn:Int)≠(K:Int))=false):=zA (by simp[hpk]);have HX6:=zA (HX6.out hpk);have HX0:=zA (HX0.out hpk);clear hpk HX4;go_enter Tryz.func122,Tryz.ntmps122
  go_wp2_with (first
   | ((with_reducible apply gS 4);refine wBox rfl 44 (.tmp 0) rfl tt rfl ?_;intro w1 g hb1 hx1 hg)
   | ((with_reducible apply gS 16);refine wLdB rfl 44 (.tmp 4) rfl g rfl hb1 _ Tryz.underlying44 rfl 34 qP hsz.out ?_)
   | (go_at_call 109;(with_reducible refine (HPC.out _ hx1).mono ?_);intro e2 w2 h2;obtain⟨A,c,B,d,VS,rfl,k1,k2,k3,hx2,k4⟩:=HRS.out _ _ _ h2;have hx2':=hx1.trans hx2)
   | (go_at_call 99;(with_reducible refine (HSP.out _).mono ?_);rintro e3 w3 ⟨B3,d3,rfl, -,hx3⟩;have hx3':=hx2'.trans hx3)
   | ((with_reducible apply gS 33);refine zB rfl (.bool false) (jZ rfl rfl rfl H33.out) ?_))
  have k1':=zA (k1.ext hx3);have k2':=zA (k2.ext hx3);have k3':=zA (k3.ext hx3);have HK4:=zA k4;have HX3:=zA hx3';have HM0:Hid (vY (M.drop 0) 0=vY M 0):=zA (by rw[wL3]);clear hb1 hx1 hg k1 k2 k3 k4 hx2 hx2' hx3 hx3' h2
  go_loopw [36] (fun iv wr=> ∃ i:Nat,i≤ml∧iv=.int .i64 (i:Int)∧Hid (vY (M.drop i) i=vY M 0)∧Ext w3 wr) (fun i _=>ml-(intOf i).toNat)
  case atStart=>exact⟨0,by omega,rfl,HM0,Ext.refl _⟩
  case round =>
   clear HM0;obtain⟨i,hi,rfl,HMI,hx⟩:=hrel
   by_cases hlt:i<ml
   ·obtain⟨ad,u,hB,hab,hxk,hcell⟩:=k3'.out.at1 hlt;subst hB;have hiM:i<M.length:=by rw[HML.out];exact hlt
    have hu:u=.int .i64 ((M[i]:Nat):Int):=by
     have h2:(ints (M.map Int.ofNat))[i]? =some (.int .i64 ((M[i]:Nat):Int)):=by
      rw[ints,wC0,wC0,wA2 hiM];rfl
     rw[h2] at hxk;exact (Option.some.inj hxk).symm
    subst hu;have hcell0:wr.cell? (ad.add i)=some (.int .i64 ((M[i]:Nat):Int)):=(hx.cell (p:=ad.add i) (by rw[yN];exact hab)).trans hcell;have HST:=zA (zSq hiM);have HMQ:=zA (fun W=>HMK.out i W hlt);obtain⟨q,hq⟩: ∃ q,208+i%8=q:=⟨_,rfl⟩
    rw[hq] at HST HMQ;clear hxk hcell hq;generalize M[i]=y at *
    by_cases hy:y=q
    ·have H44:Hid (decide ((y:Int)≠(q:Int))=false):=zA (by simp[hy]);have HM1:Hid (vY (M.drop (i+1)) (i+1)=vY M 0):=zA (by rw[←HMI.out,HST.out];simp[hy]);clear hy
     go_wp2_with (first
      | (go_at_call 103;(with_reducible refine (HMQ.out _).mono ?_);rintro e5 w5 ⟨rfl,rfl⟩)
      | ((with_reducible apply gS 44);refine zB rfl (.bool false) (jZ rfl rfl rfl H44.out) ?_))
     go_roundw
     case rel=>exact⟨i+1,by omega,by go_num,HM1,hx⟩
     case measure=>simp[intOf];omega
    ·have H44:Hid (decide ((y:Int)≠(q:Int))=true):=zA (by rw[wB3];omega);have HXE:Hid (x=6):=zA (HX6.out (by rw[←HMI.out,HST.out];simp[hy]));clear hy
     go_wp2_with (first
      | (go_at_call 103;(with_reducible refine (HMQ.out _).mono ?_);rintro e5 w5 ⟨rfl,rfl⟩)
      | ((with_reducible apply gS 44);refine zB rfl (.bool true) (jZ rfl rfl rfl H44.out) ?_))
     refine bodyPost_ret (results_tmp2 rfl _ _ _) rfl ?_;rw[HXE.out];refine⟨HX3.out.trans hx, ?_⟩;rw[if_neg (show ¬(6:Int)=0 by decide)];rfl
   ·have HXE:Hid (x=0):=zA (HX0.out (by rw[←HMI.out];exact zRF (by rw[HML.out];omega)));go_wp2_with fail;refine bodyPost_ret (results_tmp2 rfl _ _ _) rfl ?_;rw[HXE.out];refine⟨HX3.out.trans hx, ?_⟩;rw[if_pos rfl,HPN.out];exact⟨A,c,VS,rfl,k1'.out.ext hx,k2'.out.ext hx,HK4.out⟩
 ·have H33:Hid (decide ((pn:Int)≠(K:Int))=true):=zA (by rw[wB3];omega);have HXE:=zA (HX4.out hpk);clear hpk HX4 HX6 HX0;go_enter Tryz.func122,Tryz.ntmps122
  go_wp2_with (first
   | ((with_reducible apply gS 4);refine wBox rfl 44 (.tmp 0) rfl tt rfl ?_;intro w1 g hb1 hx1 hg)
   | ((with_reducible apply gS 16);refine wLdB rfl 44 (.tmp 4) rfl g rfl hb1 _ Tryz.underlying44 rfl 34 qP hsz.out ?_)
   | (go_at_call 109;(with_reducible refine (HPC.out _ hx1).mono ?_);intro e2 w2 h2;obtain⟨A,c,B,d,VS,rfl,k1,k2,k3,hx2,k4⟩:=HRS.out _ _ _ h2;have hx2':=hx1.trans hx2)
   | (go_at_call 99;(with_reducible refine (HSP.out _).mono ?_);rintro e3 w3 ⟨B3,d3,rfl, -,hx3⟩;have hx3':=hx2'.trans hx3)
   | ((with_reducible apply gS 33);refine zB rfl (.bool true) (jZ rfl rfl rfl H33.out) ?_))
  refine bodyPost_ret (results_tmp2 rfl _ _ _) rfl ?_;rw[HXE.out];refine⟨hx3', ?_⟩;rw[if_neg (show ¬(4:Int)=0 by decide)];rfl
end
section
def zLI:zAp Tryz.prog 110:=⟨_,Tryz.func110,by kernel_rfl,by kernel_rfl⟩
def ext_grow {a w w':World} (h:Ext a w) {row:Option Nat} (hg:w.grownBy w' row) (hB: ∀ b,row=some b→a.heap.size≤b):Ext a w':=Below.grown h hg h.size (fun k hk=>hB k hk)
def zJs (tt:Array Value) (hsz0:tt.size=34) (v:Value) (nn ev:Int) (z:Int) (P:List (List Nat)) (hz:z≠0) (w:World)
 (WC: ∀ W,Ext w W→Calls Tryz.prog 122 #[.agg tt,v,.int .i64 nn,.int .i64 ev] W (WhIs z P W)):Calls Tryz.prog 63 #[.agg tt,v,.int .i64 nn,.int .i64 ev] w (zDV (z,[]) w):=by
 have HWC:=zA (fun W h=>(WC W h).mono (fun e W' (h:WhIs z P W e W')=>show e=.returned (.tuple #[.slice none 0 0,.int .i64 z])∧Ext W W' by obtain⟨hx,h⟩:=h;rw[if_neg hz] at h;exact⟨h,hx⟩));have hsz:=zA hsz0;have hzb:(z !=0)=true:=by simpa using hz
 have HZ:=zA hz;clear WC hsz0 hz;go_enter Tryz.func63,Tryz.ntmps63
 go_wp2_with (first
  | ((with_reducible apply gS 4);refine wBox rfl 44 (.tmp 0) rfl tt rfl ?_;intro w1 g hb1 hx1 hg)
  | ((with_reducible apply gS 18);refine wLdB rfl 44 (.tmp 4) rfl g rfl hb1 _ Tryz.underlying44 rfl 34 qP hsz.out ?_)
  | (go_at_call 122;(with_reducible refine (HWC.out _ hx1).mono ?_);rintro e w2 ⟨rfl,hx2⟩))
 refine bodyPost_ret (results_tmp2 rfl _ _ _) rfl ?_;refine⟨hx1.trans hx2, ?_⟩;rw[if_neg HZ.out];rfl
attribute [local irreducible] zF bv zBb jM yE yG plZ uT
def zPl (T1 T2:List Tok) (tt:Array Value) (hsz0:tt.size=34) (v:Value) (n e:Nat) (hn:n≤400) (he:e≤100) (P:List (List Nat)) (hK:P.length=yG n e) (hPM: ∀ p∈P,p.length≤1048576∧ ∀ b∈p,b<256) (w:World)
 (WC: ∀ W,Ext w W→Calls Tryz.prog 122 #[.agg tt,v,.int .i64 (n:Int),.int .i64 (e:Int)] W (WhIs 0 P W))
 (SD: ∀ W A' m c' bs' nn',Ext w W→SL W 1 (.slice A' m c') m (zF bs')→(A'=none→c'=0)→(∀ b∈bs',b<256)→m≤1048576→Calls Tryz.prog 110 #[.agg tt,.slice A' m c',.int .i64 nn'] W (zDV (uT true T1 T2 nn' (plZ bs')) W)) :
 Calls Tryz.prog 63 #[.agg tt,v,.int .i64 (n:Int),.int .i64 (e:Int)] w (zDV (zBb T1 T2 n e P (yG n e) 0 []) w):=by
 have hsz:=zA hsz0;have HSP:=zA (fun W=>zIf n e (by omega) (by omega) W);have hKl:=zDj (n:=n) (e:=e);have HAT:=zA (fun i (h:i<yG n e)=>zIG h);obtain⟨R,hRR⟩: ∃ R,zBb T1 T2 n e P (yG n e) 0 []=R:=⟨_,rfl⟩
 have HR0:Hid (zBb T1 T2 n e P (yG n e-0) 0 []=R):=zA hRR;rw[hRR];obtain⟨K,hKK⟩: ∃ K,yG n e=K:=⟨_,rfl⟩
 rw[hKK] at HSP HR0 HAT hKl hK;have HPK:=zA hK
 have HWC:=zA (fun W h=>(WC W h).mono (fun e W' (h:WhIs 0 P W e W')=>show ∃ A c VS,e=.returned (.tuple #[.slice A K c,.int .i64 0])∧SL W' 1 (.slice A K c) K VS∧Pieces W' VS P∧NZ VS∧Ext W W' by
  obtain⟨hx,h⟩:=h;rw[if_pos rfl,hK] at h;obtain⟨A,c,VS,h1,h2,h3,h4⟩:=h
  exact⟨A,c,VS,h1,h2,h3,h4,hx⟩))
 have HPM:=zA hPM;have HSD:=zA SD;clear hRR hKK hK WC hPM SD hsz0;go_enter Tryz.func63,Tryz.ntmps63
 go_wp2_with (first
  | ((with_reducible apply gS 4);refine wBox rfl 44 (.tmp 0) rfl tt rfl ?_;intro w1 g hb1 hx1 hg)
  | ((with_reducible apply gS 18);refine wLdB rfl 44 (.tmp 4) rfl g rfl hb1 _ Tryz.underlying44 rfl 34 qP hsz.out ?_)
  | (go_at_call 122;(with_reducible refine (HWC.out _ hx1).mono ?_);rintro e2 w2 ⟨PA,pc,VS,rfl,k1,k2,k4,hx2⟩;have hx2':=hx1.trans hx2)
  | (go_at_call 99;(with_reducible refine (HSP.out _).mono ?_);rintro e3 w3 ⟨B3,d3,rfl,hsp,hx3⟩;have hx3':=hx2'.trans hx3))
 have hg3:=(hb1.ext hx2).ext hx3;have how:OwnV w3 w3.heap.size 33 64 (.slice none 0 0) 0 (ints []):=OwnV.nil _ _ _ _;have HSP3:=zA hsp;have HG3:=zA hg3;have HX3:=zA hx3';have HK1:=zA (k1.ext hx3);have HK2:=zA (k2.ext hx3);have HK4:=zA k4;clear hb1 hx1 hg hx2 hx2' hx3 hx3' hsp hg3 k1 k2 k4
 go_loopw [12,32] (fun x iv wr=> ∃ (i m:Nat) (acc:List Int),i≤K∧iv=.int .i64 (i:Int)∧m≤i*400∧OwnV wr w3.heap.size 33 64 x m (ints acc)∧Hid (zBb T1 T2 n e P (K-i) i acc=R)∧Ext w3 wr) (fun _ i _=>K-(intOf i).toNat)
 case atStart=>exact⟨0,0,[],by omega,rfl,by omega,how,HR0,Ext.refl _⟩
 case round =>
  clear how HR0;obtain⟨i,m,acc,hi,rfl,hm,⟨OA,oc,rfl,hown⟩,HR,hx⟩:=hrel
  by_cases hlt:i<K
  ·obtain⟨td,hB,htb,htc⟩:=(HSP3.out.ext hx).part hlt;subst hB;obtain⟨pd,u,hB,hpb,hpk,hpc⟩:=HK1.out.at1 hlt;subst hB;have hiP:i<P.length:=by rw[HPK.out];exact hlt
   obtain⟨SA,sc,hv,hsl⟩:=HK2.out.2 i hiP;rw[hv] at hpk;obtain rfl:=Option.some.inj hpk;have hnz:=HK4.out _ (wK5 hv) _ _ _ rfl;have hpm:=HPM.out P[i] (wE2 hiP);have hgd:P.getD i []=P[i]:=by rw[wF4,wA2 hiP];rfl
   obtain⟨lo,hlo⟩: ∃ q,i*yE n e=q:=⟨_,rfl⟩
   obtain⟨hh,hhh⟩: ∃ q,min (lo+yE n e) n=q:=⟨_,rfl⟩
   obtain⟨ln,hln⟩: ∃ q,zAe n e i=q:=⟨_,rfl⟩
   have hln2:min (n-lo) (yE n e)=ln:=by rw[←hln, ←hlo];rfl
   have e2:((ints (jM n e K)).drop (i*2)).take 2=ints [(lo:Int),(hh:Int)]:=by
    have h:=zFy n e K i hlt;rw[hlo,hhh] at h;rw[←h];simp[ints,wH2,wH1]
   rw[e2] at htc;have hlon:lo≤n:=by rw[←hlo];exact HAT.out i hlt
   have hlh:lo≤hh:=by omega
   have hhn:hh≤n:=by omega
   have hd:hh-lo=ln:=by omega
   have HD:=zA hd;have HTC:=zA htc;have HBV:=zA (zGN [(lo:Int),(hh:Int)]);have HS2:=zA (show (bv [(lo:Int),(hh:Int)]).size=2 by rw[zK];rfl);have HS20:=zA (show (Value.agg (bv [0,0])).cells.size=2 by rw[show (Value.agg (bv [0,0])).cells=bv [0,0] from rfl,zK];rfl);have HO2:=zA (xE [(lo:Int),(hh:Int)]);have HSR:=zA (fun W (h:Ext w3 W)=>HSD.out W SA P[i].length sc P[i] (ln:Int) (HX3.out.trans h) (hsl.ext h) hnz hpm.2 hpm.1);have HPC:=zA (fun W (h:Ext w3 W)=>(h.cell (p:=pd.add i) (by rw[yN];exact hpb)).trans hpc);have HERa:Hid (∀ r,uT true T1 T2 (ln:Int) (plZ P[i])=r→r.1≠0→R=(r.1,[])):=zA (fun r h h0=>by rw[←HR.out,show K-i=(K-(i+1))+1 by omega];exact sdGo_err (by rw[hln,hgd];exact h) h0);have HOKa:Hid (∀ r,uT true T1 T2 (ln:Int) (plZ P[i])=r→r.1=0→zBb T1 T2 n e P (K-(i+1)) (i+1) (acc++r.2)=R):=zA (fun r h h0=>by rw[←HR.out,show K-i=(K-(i+1))+1 by omega];exact (sdGo_ok (by rw[hln,hgd];exact h) h0).symm);have hrl:(uT true T1 T2 (ln:Int) (plZ P[i])).1=0→(uT true T1 T2 (ln:Int) (plZ P[i])).2.length=ln*64:=zOy;obtain⟨r,hr⟩: ∃ r,uT true T1 T2 (ln:Int) (plZ P[i])=r:=⟨_,rfl⟩
   rw[hr] at HSR hrl;have HER:=zA (HERa.out r hr);have HOK:=zA (HOKa.out r hr);generalize bv [(lo:Int),(hh:Int)]=sp at *;have HC0:Hid (sp[0]? =some (.int .i64 (lo:Int))∧sp[1]? =some (.int .i64 (hh:Int))):=zA (by rw[←HBV.out];exact⟨rfl,rfl⟩);obtain⟨pl,hpl⟩: ∃ q,P[i].length=q:=⟨_,rfl⟩
   rw[hpl] at HSR HPC;obtain⟨r1,r2⟩:=r;dsimp only at hrl HER HOK
   have HRA:Hid (∀ W e W',zDV (r1,r2) W e W'→ ∃ B k d,e=.returned (.tuple #[.slice B k d,.int .i64 r1])∧(r1=0→k=ln∧SL W' 64 (.slice B k d) k (ints r2))∧Ext W W'):=zA (fun W e W' h=>by
    obtain⟨hx,h⟩:=h
    by_cases h0:r1=0
    ·subst h0;rw[if_pos rfl] at h;obtain⟨B,k,d,rfl,h1,h2, -⟩:=h;have h3:=hrl rfl;exact⟨B,k,d,rfl,fun _=>⟨by dsimp only at h1;omega,h2⟩,hx⟩
    ·rw[if_neg h0] at h
     exact⟨none,0,0,h,fun h=>absurd h h0,hx⟩)
   have htd:td.block<wr.heap.size:=htb;have hln4:ln≤400:=by omega
   clear htb htc e2 hr hd hln hln2 hhh hlo hlon HR hsl hv hpc hpb hpm hgd hrl hpl hnz
   go_wp2_with (first
    | ((with_reducible apply gS 36);refine yI (by rfl) 139 (.tmp 35) rfl (td.add (i*2)) rfl (ints [(lo:Int),(hh:Int)]) _ HTC.out Tryz.underlying139 rfl uH ?_;rw[HBV.out])
    | ((with_reducible apply gS 14);refine wAlo' rfl (some 14) rfl 139 rfl _ zCp ?_;intro w4 g16 hb4 hx4 hg4)
    | ((with_reducible apply gT 14 36);refine wStB rfl 139 (.tmp 14) (.tmp 36) rfl _ _ rfl rfl hb4 2 uH HS2.out HS20.out HO2.out ?_;intro w5 hb5 hg5;have hx5:Ext wr w5:=hx4.grown hg5 hg4))
   have hx8d:Ext w3 w5.drew:=(hx.trans hx5).drew;have hb8d:=hb5.drew;have ho8d:=yR hown (hx5.drew);clear hb4 hx4 hg4 hb5 hg5 hx5;have HGX:=zA (fun W (h:Ext w5.drew W)=>((HG3.out.ext hx8d).ext h));have hI:Ext w5.drew w5.drew:=Ext.refl _
   by_cases h0:r1=0
   ·subst h0;refine jA (Ext w5.drew) (by kernel_rfl) ?_;refine xM (k:=0) (by kernel_rfl) rfl (by rfl) (.agg tt) (fun W hW=>zAj rfl rfl (HGX.out W hW) Tryz.underlying44 rfl qP hsz.out) hI ?_;simp only[Act.put,sA,sB,sC];refine zJ (k:=1) (by kernel_rfl) rfl (by rfl) (.slice (some pd) K pc) (zC rfl rfl) hI ?_;simp only[sP,sB,sC];refine zJ (k:=2) (by kernel_rfl) rfl (by rfl) (.int .i64 (i:Int)) (zC rfl rfl) hI ?_;simp only[sP,sB,sC];refine zJ (k:=3) (by kernel_rfl) rfl (by rfl) (.pointer (some (pd.add (i*1)))) (vJ Tryz.underlying71 zIg rfl rfl rfl hlt) hI ?_;simp only[sP,sB,sC];refine xM (k:=4) (by kernel_rfl) rfl (by rfl) (.slice SA pl sc) (fun W hW=>zCt rfl rfl (by rw[wF1];exact HPC.out W (hx8d.trans hW))) hI ?_;simp only[Act.put,sA,sB,sC];refine zJ (k:=5) (by kernel_rfl) rfl (by rfl) (.pointer (some ⟨g16,1,none⟩)) (fun w=>by go_simp) hI ?_;simp only[sP,sB,sC];refine xM (k:=6) (by kernel_rfl) rfl (by rfl) (.int .i64 (hh:Int)) (fun W hW=>zV rfl rfl (((hb8d.ext hW).cell 1).trans HC0.out.2)) hI ?_;simp only[Act.put,sA,sB,sC];refine zJ (k:=7) (by kernel_rfl) rfl (by rfl) (.pointer (some ⟨g16,0,none⟩)) (fun w=>by go_simp) hI ?_;simp only[sP,sB,sC];refine xM (k:=8) (by kernel_rfl) rfl (by rfl) (.int .i64 (lo:Int)) (fun W hW=>zV rfl rfl (((hb8d.ext hW).cell 0).trans HC0.out.1)) hI ?_;simp only[Act.put,sA,sB,sC];refine zJ (k:=9) (by kernel_rfl) rfl (by rfl) (.int .i64 (ln:Int)) (by rw[←HD.out];exact xH (i:=hh) (d:=lo) rfl rfl rfl (by omega) hlh) hI ?_;simp only[sP,sB,sC];refine qO (k:=10) (by kernel_rfl) rfl ?_;refine xP (by rfl) (xQ _ _ _ rfl rfl zLI #[.agg tt,.slice SA pl sc,.int .i64 (ln:Int)] (by simp[Act.eval])) ?_;refine (HSR.out _ hx8d).mono ?_;intro e9 w9 h9;obtain⟨B9,k9,d9,rfl,hr9,hx9⟩:=HRA.out _ _ _ h9;refine⟨_,rfl,zX ⟨hx9, ?_⟩⟩;simp only[Act.put,sA,sB,sC];refine zJ (k:=11) (by kernel_rfl) rfl (by rfl) (.tuple #[.slice B9 k9 d9,.int .i64 0]) (zC rfl rfl) hx9 ?_;simp only[sP,sB,sC];refine zJ (k:=12) (by kernel_rfl) rfl (by rfl) (.slice B9 k9 d9) (xB rfl rfl rfl) hx9 ?_;simp only[sP,sB,sC];refine zJ (k:=13) (by kernel_rfl) rfl (by rfl) (.int .i64 0) (xB rfl rfl rfl) hx9 ?_;simp only[sP,sB,sC];refine zJ (k:=14) (by kernel_rfl) rfl (by rfl) (.slice B9 k9 d9) (zW rfl rfl) hx9 ?_;simp only[sP,sB,sC];refine zJ (k:=15) (by kernel_rfl) rfl (by rfl) (.int .i64 0) (zW rfl rfl) hx9 ?_;simp only[sP,sB,sC];refine uX (by kernel_rfl) ?_;obtain⟨hk9,hs9⟩:=hr9 (by first | rfl | trivial);subst hk9;have ho9:=yR ho8d hx9;have hx19:=hx8d.trans hx9
    go_wp2_with (first
     | ((with_reducible apply gS 56);at_builtin;refine wApf zMW rfl (.tmp 54) (.tmp 55) rfl w3.heap.size (.slice OA m oc) m (ints acc) rfl ho9 _ k9 (ints r2) rfl hs9 (qY _) (by omega) (by omega) hx19.size ?_;intro A10 c10 w10 ho10 hgr10 hor10;have hx10:=ext_grow hx19 hgr10 (fun b hb=>(ho9.lt b hb).1)))
    go_roundw
    case rel=>exact⟨i+1,m+k9,acc++r2,by omega,by go_num,by omega,⟨A10,c10,rfl,by rw[uR];exact ho10⟩,HOK.out (by first | rfl | trivial),hx10⟩
    case measure=>simp[intOf];omega
   ·have h0b:(r1 !=0)=true:=by simpa using h0
    have H0N:=zA h0;clear h0;refine jA (Ext w5.drew) (by kernel_rfl) ?_;refine xM (k:=0) (by kernel_rfl) rfl (by rfl) (.agg tt) (fun W hW=>zAj rfl rfl (HGX.out W hW) Tryz.underlying44 rfl qP hsz.out) hI ?_;simp only[Act.put,sA,sB,sC];refine zJ (k:=1) (by kernel_rfl) rfl (by rfl) (.slice (some pd) K pc) (zC rfl rfl) hI ?_;simp only[sP,sB,sC];refine zJ (k:=2) (by kernel_rfl) rfl (by rfl) (.int .i64 (i:Int)) (zC rfl rfl) hI ?_;simp only[sP,sB,sC];refine zJ (k:=3) (by kernel_rfl) rfl (by rfl) (.pointer (some (pd.add (i*1)))) (vJ Tryz.underlying71 zIg rfl rfl rfl hlt) hI ?_;simp only[sP,sB,sC];refine xM (k:=4) (by kernel_rfl) rfl (by rfl) (.slice SA pl sc) (fun W hW=>zCt rfl rfl (by rw[wF1];exact HPC.out W (hx8d.trans hW))) hI ?_;simp only[Act.put,sA,sB,sC];refine zJ (k:=5) (by kernel_rfl) rfl (by rfl) (.pointer (some ⟨g16,1,none⟩)) (fun w=>by go_simp) hI ?_;simp only[sP,sB,sC];refine xM (k:=6) (by kernel_rfl) rfl (by rfl) (.int .i64 (hh:Int)) (fun W hW=>zV rfl rfl (((hb8d.ext hW).cell 1).trans HC0.out.2)) hI ?_;simp only[Act.put,sA,sB,sC];refine zJ (k:=7) (by kernel_rfl) rfl (by rfl) (.pointer (some ⟨g16,0,none⟩)) (fun w=>by go_simp) hI ?_;simp only[sP,sB,sC];refine xM (k:=8) (by kernel_rfl) rfl (by rfl) (.int .i64 (lo:Int)) (fun W hW=>zV rfl rfl (((hb8d.ext hW).cell 0).trans HC0.out.1)) hI ?_;simp only[Act.put,sA,sB,sC];refine zJ (k:=9) (by kernel_rfl) rfl (by rfl) (.int .i64 (ln:Int)) (by rw[←HD.out];exact xH (i:=hh) (d:=lo) rfl rfl rfl (by omega) hlh) hI ?_;simp only[sP,sB,sC];refine qO (k:=10) (by kernel_rfl) rfl ?_;refine xP (by rfl) (xQ _ _ _ rfl rfl zLI #[.agg tt,.slice SA pl sc,.int .i64 (ln:Int)] (by simp[Act.eval])) ?_;refine (HSR.out _ hx8d).mono ?_;intro e9 w9 h9;obtain⟨B9,k9,d9,rfl,hr9,hx9⟩:=HRA.out _ _ _ h9;refine⟨_,rfl,zX ⟨hx9, ?_⟩⟩;simp only[Act.put,sA,sB,sC];refine zJ (k:=11) (by kernel_rfl) rfl (by rfl) (.tuple #[.slice B9 k9 d9,.int .i64 r1]) (zC rfl rfl) hx9 ?_;simp only[sP,sB,sC];refine zJ (k:=12) (by kernel_rfl) rfl (by rfl) (.slice B9 k9 d9) (xB rfl rfl rfl) hx9 ?_;simp only[sP,sB,sC];refine zJ (k:=13) (by kernel_rfl) rfl (by rfl) (.int .i64 r1) (xB rfl rfl rfl) hx9 ?_;simp only[sP,sB,sC];refine zJ (k:=14) (by kernel_rfl) rfl (by rfl) (.slice B9 k9 d9) (zW rfl rfl) hx9 ?_;simp only[sP,sB,sC];refine zJ (k:=15) (by kernel_rfl) rfl (by rfl) (.int .i64 r1) (zW rfl rfl) hx9 ?_;simp only[sP,sB,sC];refine uX (by kernel_rfl) ?_;go_wp2_with fail;refine bodyPost_ret (results_tmp2 rfl _ _ _) rfl ?_;rw[HER.out H0N.out];refine⟨HX3.out.trans (hx8d.trans hx9), ?_⟩;rw[if_neg H0N.out];rfl
  ·have hiK:K-i=0:=by omega
   have HR2:Hid (R=(0,acc)):=zA (by rw[←HR.out,hiK,zBb]);have hnn:=zId hown;have hal:acc.length=m*64:=by have:=hown.1;simpa [ints] using this
   clear HR;go_wp2_with fail;refine bodyPost_ret (results_tmp2 rfl _ _ _) rfl ?_;rw[HR2.out];refine⟨HX3.out.trans hx, ?_⟩;rw[if_pos rfl];exact⟨OA,m,oc,rfl,hal,(jF hown).1,hnn⟩
end
section
attribute [local irreducible] bv vZ yE yG

def zSx (n e:Nat) (hn:n≤1000000) (he:e≤1000000) (w:World) :
 Calls Tryz.prog 46 #[.int .i64 (n:Int),.int .i64 (e:Int)] w fun en w'=> ∃ B d,en=.returned (.slice B (yG n e) d)∧SL w' 1 (.slice B (yG n e) d) (yG n e) (ints (vZ n e (yG n e)))∧Ext w w'∧ ∀ ad,B=some ad→w.heap.size≤ad.block:=by
 by_cases h:e=0∨n=0
 ·obtain⟨hE,hK⟩:=zDB h
  have hL:vZ n e 1=[(n:Int)]:=by
   simp only[vZ,wL5,hE];simp
  rw[hK,hL];clear hE hK hL
  by_cases h0:e=0
  ·have H8:Hid (decide ((e:Int)=0)=true):=zA (by rw[wB3];omega);clear h h0;go_enter Tryz.func46,Tryz.ntmps46
   go_wp2_with (first
    | ((with_reducible apply gS 7);refine zB rfl (.bool true) (jQ rfl rfl rfl H8.out) ?_)
    | ((with_reducible apply gS 13);refine wLit1 rfl 22 3 (.tmp 12) rfl (some 13) rfl Tryz.underlying22 1 qW zJW _ rfl rfl (by omega) (by omega) ?_;intro w1 g hb1 hx1 hg1))
   go_ret;exact⟨_,_,rfl,zBh hb1,hx1,fun ad e=>by injection e with e;rw[←e];exact hg1⟩
  ·have H8:Hid (decide ((e:Int)=0)=false):=zA (by rw[decide_eq_false_iff_not];omega);have H11:Hid (decide ((n:Int)=0)=true):=zA (by rw[wB3];omega);clear h h0;go_enter Tryz.func46,Tryz.ntmps46
   go_wp2_with (first
    | ((with_reducible apply gS 7);refine zB rfl (.bool false) (jQ rfl rfl rfl H8.out) ?_)
    | ((with_reducible apply gS 10);refine xA (by rfl) (.bool true) (jQ rfl rfl rfl H11.out) ?_)
    | ((with_reducible apply gS 13);refine wLit1 rfl 22 3 (.tmp 12) rfl (some 13) rfl Tryz.underlying22 1 qW zJW _ rfl rfl (by omega) (by omega) ?_;intro w1 g hb1 hx1 hg1))
   go_ret;exact⟨_,_,rfl,zBh hb1,hx1,fun ad e=>by injection e with e;rw[←e];exact hg1⟩
 ·have HE:=zA (zFJ h).1;have HLT:=zA (fun i=>zJh (i:=i) h);have HKL:=zA (zDj (n:=n) (e:=e));have HE0:Hid (0<e):=zA (by omega);have H8:Hid (decide ((e:Int)=0)=false):=zA (by rw[decide_eq_false_iff_not];omega);have H11:Hid (decide ((n:Int)=0)=false):=zA (by rw[decide_eq_false_iff_not];omega)
  have how:OwnV w w.heap.size 3 1 (.slice none 0 0) 0 (ints (vZ n e 0)):=by
   have h0:vZ n e 0=[]:=by unfold vZ;rfl
   rw[h0];exact OwnV.nil _ _ _ _
  clear h;obtain⟨K,hK⟩: ∃ K,yG n e=K:=⟨_,rfl⟩
  rw[hK] at HLT HKL ⊢;clear hK;go_enter Tryz.func46,Tryz.ntmps46
  go_wp2_with (first
   | ((with_reducible apply gS 7);refine zB rfl (.bool false) (jQ rfl rfl rfl H8.out) ?_)
   | ((with_reducible apply gS 10);refine xA (by rfl) (.bool false) (jQ rfl rfl rfl H11.out) ?_))
  go_loopw [0,5] (fun iv x wr=> ∃ (k p:Nat),Hid (p=n-k*e∧k≤K)∧p≤n∧iv=.int .i64 (p:Int)∧OwnV wr w.heap.size 3 1 x k (ints (vZ n e k))∧Ext w wr) (fun i _ _=>(intOf i).toNat)
  case atStart=>exact⟨0,n,zA (by omega),by omega,rfl,how,Ext.refl _⟩
  case round =>
   clear how;obtain⟨k,p,HP,hpn,rfl,⟨OA,oc,rfl,hown⟩,hx⟩:=hrel
   by_cases hlt:0<p
   ·obtain⟨mn,hmn⟩: ∃ q,min p e=q:=⟨_,rfl⟩
    have hk1:k<K:=by have h1:=HP.out;exact (HLT.out k).2 (by omega)
    have hk2:k≤1000001:=by have h1:=HKL.out;omega
    have HNX:Hid (vZ n e (k+1)=vZ n e k++[(mn:Int)]):=zA (by
     have h1:=HP.out;have h2:n-k*yE n e=p:=by rw[HE.out,h1.1]
     rw[vZ,h2,HE.out,hmn])
    obtain⟨p2,hp2⟩: ∃ q,p-mn=q:=⟨_,rfl⟩
    have HP2:Hid (p2=n-(k+1)*e∧k+1≤K):=zA (by have h1:=HP.out;rw[wO9];omega);have HPP:=zA hp2;have hp3:p2<p:=by have:=HE0.out;omega
    have hml:mn≤p:=by omega
    clear hp2
    go_wp2_with (first
     | ((with_reducible apply gS 19);refine zB rfl (.int .i64 (mn:Int)) (by rw[←hmn];exact zEz (i:=p) (d:=e) rfl rfl rfl) ?_)
     | ((with_reducible apply gS 20);refine wLit1 rfl 22 3 (.tmp 19) rfl (some 20) rfl Tryz.underlying22 1 qW zJW _ rfl rfl (by omega) (by omega) ?_;intro w1 g hb1 hx1 hg1;have ho1:=yR hown hx1)
     | ((with_reducible apply gS 21);at_builtin;refine wApf zHd rfl (.tmp 16) (.tmp 20) rfl w.heap.size (.slice OA k oc) k (ints (vZ n e k)) rfl ho1 _ 1 (ints [(mn:Int)]) rfl (zBh hb1) (qY _) (by omega) (by omega) (by have:=hx.size;have:=hx1.size;omega) ?_;intro A4 c4 w4 ho4 hgr4 hor4;have hx4:=(hx.trans hx1).grown' hgr4 (fun b hb=>(ho1.lt b hb).1))
     | ((with_reducible apply gS 25);refine zB rfl (.int .i64 (mn:Int)) (by rw[←hmn];exact zEz (i:=p) (d:=e) rfl rfl rfl) ?_)
     | ((with_reducible apply gS 26);refine zB rfl (.int .i64 (p2:Int)) (by rw[←HPP.out];exact xH (i:=p) (d:=mn) rfl rfl rfl (by omega) (by omega)) ?_))
    go_roundw
    case rel=>exact⟨k+1,p2,HP2,by omega,rfl,⟨A4,c4,rfl,by rw[HNX.out,uR];exact ho4⟩,hx4⟩
    case measure=>simp[intOf];omega
   ·have hk:k=K:=by
     have h1:=HP.out;have h2: ¬k<K:=fun h=>hlt (by have h3:=(HLT.out k).1 h;omega)
     omega
    subst hk;go_wp2_with fail;go_ret;exact⟨_,_,rfl,(jF hown).1,hx,(jF hown).2⟩
end
def ex_lenB {o:Oper} {a:Act} {x:Operand} (ho:o.op=.call { callee:=.builtin .len,args:= #[x],argTypes:= #[25] }) {A:Option Addr} {n c:Nat} (hx:a.eval x=.slice A n c) (w:World):(execOp a.eval o).run Tryz.prog w=.ok (.value (.int .i64 (n:Int))) w:=by
 simp[execOp,ho,resolve,invoke,builtin,hx,Result.andThen,Builtin.len_,goInt]
def zPq: ∀ (C:List (Nat×Nat)) (xs:List Int),(∀ x∈xs,0≤x∧x≤255)→ ∀ t∈zL C xs,0≤t.1∧t.1≤255
 | [],_,_,t,ht=>by simp[zL] at ht
 | _::_,[],_,t,ht=>by simp[zL] at ht
 | c::C,x::xs,h,t,ht=>by
   simp only[zL,wM7,wK0] at ht;rcases ht with rfl | ht
   ·exact h x (by simp)
   ·exact zPq C xs (fun y hy=>h y (by simp[hy])) t ht
def tbl_rng {cs xs:List Int} (h:zT cs xs=0): ∀ t∈zL (zD cs 16) xs,0≤t.1∧t.1≤255 :=
 zPq _ _ (fun x hx=>by
  obtain⟨-, -, -, -,h5, -⟩:=zAQ h
  exact jS.1 (wB5.1 h5 x hx))
def zEY (wd y x:Nat):Nat:=(y/8*((wd+7)/8)+x/8)*64+(y%8*8+x%8)
def joinAt (Z:List Int) (wd y x:Nat):Int:=vF (Z.getD (zEY wd y x) 0+128) 0 255
def zJi (Z:List Int) (wd hi:Nat):List Int:=(List.range (wd*hi)).map fun p=>joinAt Z wd (p/wd) (p%wd)
def zIc (Z:List Int) (wd hi:Nat):(zJi Z wd hi).length=wd*hi:=by simp[zJi]
def uJ (Z:List Int) (wd hi m:Nat):List Int:=(List.range (wd*hi)).map fun p=>if zEY wd (p/wd) (p%wd)<m then joinAt Z wd (p/wd) (p%wd) else 0
def zGB (Z:List Int) (wd hi m:Nat):(uJ Z wd hi m).length=wd*hi:=by simp[uJ]
def zPo (Z:List Int) (wd hi:Nat):uJ Z wd hi 0=List.replicate (wd*hi) 0:=by
 unfold uJ;apply wH9
 ·simp
 ·intro i h1 h2;simp
def jidx_at (wd k j:Nat) (hj:j<64):zEY wd (k/((wd+7)/8)*8+j/8) (k%((wd+7)/8)*8+j%8)=k*64+j:=by
 unfold zEY;generalize (wd+7)/8=c;have h1:(k/c*8+j/8)/8=k/c:=by omega
 have h2:(k/c*8+j/8)%8=j/8:=by omega
 have h3:(k%c*8+j%8)/8=k%c:=by omega
 have h4:(k%c*8+j%8)%8=j%8:=by omega
 rw[h1,h2,h3,h4,wJ2 (k/c) c,Nat.div_add_mod];omega
def zQf (wd y x k j:Nat) (hx:x<wd) (hj:j<64) (h:zEY wd y x=k*64+j):k/((wd+7)/8)*8+j/8=y∧k%((wd+7)/8)*8+j%8=x:=by
 unfold zEY at h;have hc:x/8<(wd+7)/8:=by omega
 generalize (wd+7)/8=c at *;have h1:y/8*c+x/8=k:=by omega
 have h2:y%8*8+x%8=j:=by omega
 have h3:k/c=y/8:=by rw[←h1,wB0,Nat.add_mul_div_right _ _ (by omega),Nat.div_eq_of_lt hc,wB2]
 have h4:k%c=x/8:=by rw[←h1,wB0,wS2,wL8 hc]
 rw[h3,h4];omega
def zRX (Z:List Int) (wd hi k j:Nat) (hj:j<64) (hr:k/((wd+7)/8)*8+j/8<hi) (hq:k%((wd+7)/8)*8+j%8<wd) :
 (uJ Z wd hi (k*64+j)).set ((k/((wd+7)/8)*8+j/8)*wd+(k%((wd+7)/8)*8+j%8)) (vF (Z.getD (k*64+j) 0+128) 0 255)=uJ Z wd hi (k*64+(j+1)):=by
 have hi1:=jidx_at wd k j hj;have hinv:=fun y x hx h=>zQf wd y x k j hx hj h
 generalize k/((wd+7)/8)*8+j/8=r at *;generalize k%((wd+7)/8)*8+j%8=q at *;apply wH9
 ·simp[zGB]
 ·intro p h1 h2;have hp:p<wd*hi:=by simpa [zGB] using h2
  have hw:0<wd:=by omega
  rw[wI0]
  by_cases e:r*wd+q=p
  ·rw[if_pos e];have e1:p/wd=r:=by rw[←e,wB0,Nat.add_mul_div_right _ _ hw,Nat.div_eq_of_lt hq,wB2]
   have e2:p%wd=q:=by rw[←e,wB0,wS2,wL8 hq]
   simp only[uJ,wI1,wI2,e1,e2,joinAt,hi1];rw[if_pos (by omega)]
  ·rw[if_neg e];simp only[uJ,wI1,wI2]
   have hne:zEY wd (p/wd) (p%wd)≠k*64+j:=by
    intro h;obtain⟨a,b⟩:=hinv _ _ (wF6 _ hw) h;apply e;rw[a,b,wJ2,Nat.div_add_mod]
   by_cases hlt:zEY wd (p/wd) (p%wd)<k*64+j
   ·rw[if_pos hlt,if_pos (by omega)]
   ·rw[if_neg hlt,if_neg (by omega)]
def zPp (Z:List Int) (wd hi k j:Nat) (hj:j<64) (h: ¬(k/((wd+7)/8)*8+j/8<hi∧k%((wd+7)/8)*8+j%8<wd)):uJ Z wd hi (k*64+j)=uJ Z wd hi (k*64+(j+1)):=by
 have hinv:=fun y x hx h=>zQf wd y x k j hx hj h
 unfold uJ;apply wI3;intro p hp;have hp':p<wd*hi:=wB7.1 hp;rcases wC5 wd with h0 | hw
 ·subst h0;omega
 have hy:p/wd<hi:=Nat.div_lt_of_lt_mul hp'
 have hne:zEY wd (p/wd) (p%wd)≠k*64+j:=by
  intro h9;obtain⟨a,b⟩:=hinv _ _ (wF6 _ hw) h9;apply h;rw[a,b];exact⟨hy,wF6 _ hw⟩
 by_cases hlt:zEY wd (p/wd) (p%wd)<k*64+j
 ·rw[if_pos hlt,if_pos (by omega)]
 ·rw[if_neg hlt,if_neg (by omega)]
def jidx_lt (wd hi y x:Nat) (hx:x<wd) (hy:y<hi):zEY wd y x<qD wd hi*64:=by
 unfold zEY qD;have h1:x/8<(wd+7)/8:=by omega
 have h2:y/8<(hi+7)/8:=by omega
 generalize (wd+7)/8=c at *;generalize (hi+7)/8=d at *;have h3:(y/8+1)*c≤d*c:=wJ0 _ h2;rw[wJ8,wJ2 d c] at h3;have h4:y/8*c+x/8+1≤c*d:=by omega
 have h5:=wJ0 64 h4;omega
def zQw (Z:List Int) (wd hi:Nat):uJ Z wd hi (qD wd hi*64)=zJi Z wd hi:=by
 unfold uJ zJi;apply wI3;intro p hp;have hp':p<wd*hi:=wB7.1 hp;rcases wC5 wd with h0 | hw
 ·subst h0;omega
 rw[if_pos (jidx_lt wd hi _ _ (wF6 _ hw) (Nat.div_lt_of_lt_mul hp'))]
def zDU (n:Nat) (Z:List Int) (wd hi:Int) (s:Int):Int:=if s=0 then (if n=qD wd.toNat hi.toNat then (if zR Z (-40000) 40000 then 0 else 1) else 4) else 1
def join1_any (z:Int) (w:World):Calls Tryz.prog 168 (#[.int .i64 z]++ #[]) w fun e w'=>e=.returned (.bool (!inB z (-40000) 40000))∧w=w':=by
 by_cases h:z< -40000
 ·have h':decide (z< -40000)=true:=by simpa using h
  have e:inB z (-40000) 40000=false:=zAI.2 (by omega);rw[e];clear e;go_enter Tryz.func168,Tryz.ntmps168;go_wp2_with fail;go_ret;exact⟨rfl,rfl⟩
 ·have h':decide (z< -40000)=false:=by simpa using h
  have e:(!inB z (-40000) 40000)=decide (40000<z):=by rw[wE3];simp[inB];omega
  rw[e];clear e;go_enter Tryz.func168,Tryz.ntmps168;go_wp2_with fail;go_ret;exact⟨rfl,rfl⟩
def zQM:uB Tryz.prog 168:=zAW Tryz.func168 (by kernel_rfl) rfl
def zHa {w:World} {A:Option Addr} {n c k:Nat} {Z:List Int} (hv:SL w 64 (.slice A n c) n (ints Z)) (hz:Z.length=n*64) (hk:k<n) :
 ∃ ad zs,A=some ad∧ad.block<w.heap.size∧zAJ w (ad.add (k*64)) (ints zs)∧zs=(Z.drop (k*64)).take 64∧zs.length=64:=by
 obtain⟨ad,rfl,hab,hca⟩:=hv.part hk;have e:((ints Z).drop (k*64)).take 64=ints ((Z.drop (k*64)).take 64):=by simp[ints,wH2,wH1]
 exact⟨ad,_,rfl,hab,by rw[←e];exact hca,rfl,by rw[wI8,wK1,hz];omega⟩
def zHo {zs:List Int} (h:zs.length=64):(ints zs).toArray.size=64:=by simp[yA,h]
def zFD:(Value.agg (bv yO)).cells.size=64:=by rw[show (Value.agg (bv yO)).cells=bv yO from rfl,zK];rfl
def zGe (n:Nat) (Z:List Int) (wd hi:Int) (w:World) (e:Ending) (w':World):Prop :=
 ∃ A m c,e=.returned (.tuple #[.slice A m c,.int .i64 (zDU n Z wd hi (xW wd hi))])∧m=(if zDU n Z wd hi (xW wd hi)=0 then wd.toNat*hi.toNat else 0)∧SL w' 1 (.slice A m c) m (ints (if zDU n Z wd hi (xW wd hi)=0 then zJi Z wd.toNat hi.toNat else []))∧Ext w w'∧ ∀ ad,A=some ad→w.heap.size≤ad.block
def zKq {n:Nat} {Z:List Int} {wd hi:Int} {w w':World} {e:Ending} {k:Int} (hk:zDU n Z wd hi (xW wd hi)=k) (h0:k≠0) (he:e=.returned (.tuple #[.slice none 0 0,.int .i64 k])) (hx:Ext w w'):zGe n Z wd hi w e w':=by
 unfold zGe;rw[hk];refine⟨none,0,0,he,by rw[if_neg h0], ?_,hx,fun _ e=>by cases e⟩;rw[if_neg h0];exact SL.nil _ _
def zTK (n:Nat) (Z:List Int) (v:Value) (wd hi:Int) (w:World) (hv:SL w 64 v n (ints Z)) (hz:Z.length=n*64) (h:xW wd hi≠0) :
 Calls Tryz.prog 114 #[v,.int .i64 wd,.int .i64 hi] w fun e w'=>e=.returned (.tuple #[.slice none 0 0,.int .i64 1])∧Ext w w':=by
 have HK:=zA (fun W=>uZ wd hi W);rw[zHb h] at HK;clear h;have hbv: #[Value.int .i64 wd,Value.int .i64 hi]=qX wd hi:=rfl;have hts:=zA (uQ wd hi);have ho:=zA (zBL wd hi);have HZ0:=zA qU;generalize qX wd hi=av at *;have HZ:=zA hz;clear hz;have hv':=hv;obtain⟨A,c,rfl,hc1,hc2, -, -⟩:=hv';go_enter Tryz.func114,Tryz.ntmps114
 go_wp2_with (first
               | (refine wAlo' rfl (some 8) rfl 128 rfl _ zCA ?_;intro w1 g hb1 hx1 hg)
               | (refine wStB rfl 128 (.tmp 8) (.tmp 21) rfl _ _ rfl rfl hb1 2 xX hts.out rfl ho.out ?_;intro w2 hb2 hg2;have hx2:=hx1.grown hg2 (by omega))
               | (refine wLdB rfl 128 (.tmp 8) rfl _ rfl hb2 _ Tryz.underlying128 rfl 2 xX hts.out ?_)
               | (go_at_call 87;(with_reducible refine (HK.out _).mono ?_);rintro e w3 ⟨rfl,hx3⟩;have hx23:=hx2.trans hx3;have hb3:=hb2.ext hx3))
 go_loopw [9,35] (fun s i wr=> ∃ k:Nat,k≤n∧i=.int .i64 (k:Int)∧s=.int .i64 1∧Ext w wr) (fun _ i _=>n-(intOf i).toNat)
 case atStart=>exact⟨0,by omega,rfl,rfl,hx23⟩
 case round =>
  obtain⟨k,hk,rfl,rfl,hx⟩:=hrel
  by_cases hlt:k<n
  ·obtain⟨ad,zs,rfl,hab,hca, -,hl⟩:=zHa (hv.ext hx) HZ.out hlt;have HCA:=zA hca;have HL:=zA hl;clear hca hl
   go_wp2_with (first
    | (refine yI (by rfl) 33 (.tmp 37) rfl (ad.add (k*64)) rfl (ints zs) _ HCA.out Tryz.underlying33 rfl (by rw[yA,HL.out];exact zH) ?_)
    | (refine wAlo' rfl (some 11) rfl 33 rfl _ HZ0.out ?_;intro w7 g7 hb7 hx7 hg7)
    | (refine wStB rfl 33 (.tmp 11) (.tmp 38) rfl _ _ rfl rfl hb7 64 zH (zHo HL.out) zFD (xE zs) ?_;intro w8 hb8 hg8;have hx8:=hx7.grown hg8 (by omega)))
   go_roundw
   case rel=>exact⟨k+1,by omega,by go_num,rfl,hx.trans hx8⟩
   case measure=>simp[intOf];omega
  ·go_wp2_with fail;go_ret2;exact⟨rfl,hx⟩
def join_many (n:Nat) (Z:List Int) (v:Value) (wd hi:Nat) (w:World) (hv:SL w 64 v n (ints Z)) (hz:Z.length=n*64) (h0:xW wd hi=0) (a1:1≤wd) (a2:wd≤64) (b1:1≤hi) (b2:hi≤64) (h:n≠qD wd hi) :
 Calls Tryz.prog 114 #[v,.int .i64 wd,.int .i64 hi] w fun e w'=>e=.returned (.tuple #[.slice none 0 0,.int .i64 4])∧Ext w w':=by
 have HK:=zA (fun W=>uZ wd hi W);rw[h0] at HK;clear h0;have HM:=zA (fun W=>zGi wd hi W a1 a2 b1 b2);have hcn:(wd+7)/8*((hi+7)/8)=qD wd hi:=rfl;rw[hcn] at HM;clear hcn;generalize qD wd hi=N at *;have hne:((n:Int) !=(N:Int))=true:=by simp;omega
 have hneq:(n ==N)=false:=by simpa using h
 clear h;have hbv: #[Value.int .i64 wd,Value.int .i64 hi]=qX wd hi:=rfl;have hts:=zA (uQ wd hi);have ho:=zA (zBL wd hi);have HZ0:=zA qU;generalize qX wd hi=av at *;have HZ:=zA hz;clear hz;have hv':=hv;obtain⟨A,c,rfl,hc1,hc2, -, -⟩:=hv';go_enter Tryz.func114,Tryz.ntmps114
 go_wp2_with (first
               | (refine wAlo' rfl (some 8) rfl 128 rfl _ zCA ?_;intro w1 g hb1 hx1 hg)
               | (refine wStB rfl 128 (.tmp 8) (.tmp 21) rfl _ _ rfl rfl hb1 2 xX hts.out rfl ho.out ?_;intro w2 hb2 hg2;have hx2:=hx1.grown hg2 (by omega))
               | (refine wLdB rfl 128 (.tmp 8) rfl _ rfl hb2 _ Tryz.underlying128 rfl 2 xX hts.out ?_)
               | (go_at_call 87;(with_reducible refine (HK.out _).mono ?_);rintro e w3 ⟨rfl,hx3⟩;have hx23:=hx2.trans hx3;have hb3:=hb2.ext hx3)
               | (refine zCd (by rfl) 128 (.tmp 8) rfl _ rfl hb3 _ Tryz.underlying128 rfl 2 xX hts.out ?_)
               | (go_at_call 90;(with_reducible refine (HM.out _).mono ?_);rintro e w5 ⟨rfl,hx5⟩;have hb5:=hb3.ext hx5;have hx35:=hx23.trans hx5))
 go_loopw [9,35] (fun s i wr=> ∃ k:Nat,k≤n∧i=.int .i64 (k:Int)∧s=.int .i64 4∧Ext w wr) (fun _ i _=>n-(intOf i).toNat)
 case atStart=>exact⟨0,by omega,rfl,rfl,hx35⟩
 case round =>
  obtain⟨k,hk,rfl,rfl,hx⟩:=hrel
  by_cases hlt:k<n
  ·obtain⟨ad,zs,rfl,hab,hca, -,hl⟩:=zHa (hv.ext hx) HZ.out hlt;have HCA:=zA hca;have HL:=zA hl;clear hca hl
   go_wp2_with (first
    | (refine yI (by rfl) 33 (.tmp 37) rfl (ad.add (k*64)) rfl (ints zs) _ HCA.out Tryz.underlying33 rfl (by rw[yA,HL.out];exact zH) ?_)
    | (refine wAlo' rfl (some 11) rfl 33 rfl _ HZ0.out ?_;intro w7 g7 hb7 hx7 hg7)
    | (refine wStB rfl 33 (.tmp 11) (.tmp 38) rfl _ _ rfl rfl hb7 64 zH (zHo HL.out) zFD (xE zs) ?_;intro w8 hb8 hg8;have hx8:=hx7.grown hg8 (by omega)))
   go_roundw
   case rel=>exact⟨k+1,by omega,by go_num,rfl,hx.trans hx8⟩
   case measure=>simp[intOf];omega
  ·go_wp2_with fail;go_ret2;exact⟨rfl,hx⟩
def allIn_app (xs ys:List Int) (lo hi:Int):zR (xs++ys) lo hi=(zR xs lo hi&&zR ys lo hi):=by simp[zR]
def take_next (Z:List Int) (k:Nat):Z.take ((k+1)*64)=Z.take (k*64)++(Z.drop (k*64)).take 64:=by
 rw[show (k+1)*64=k*64+64 by omega,List.take_add]
def zQp {w:World} {g:Nat} {t:TypeId} {zs:List Int} (h:Blk w g t (ints zs).toArray) (hl:zs.length=64):SL w 1 (.slice (some ⟨g,0,none⟩) 64 64) zs.length (ints zs):=by
 have:=Blk.bsl (zs:=zs) (c:=64) h (by omega) (by omega)
 rwa [hl] at this ⊢
def clampI (z:Int):min (max z 0) 255=vF z 0 255:=min_max z 0 255 (by decide)
def join_in (n:Nat) (Z:List Int) (v:Value) (wd hi:Nat) (w:World) (hv:SL w 64 v n (ints Z)) (hz:Z.length=n*64) (h0:xW wd hi=0) (a1:1≤wd) (a2:wd≤64) (b1:1≤hi) (b2:hi≤64) (h:n=qD wd hi) :
 Calls Tryz.prog 114 #[v,.int .i64 wd,.int .i64 hi] w (zGe n Z wd hi w):=by
 have HK:=zA (fun W=>uZ wd hi W);have HE:Hid (zDU n Z wd hi (xW wd hi)=if zR Z (-40000) 40000 then 0 else 1):=zA (by unfold zDU;rw[h0,if_pos rfl];simp only[wF0];rw[if_pos h]);rw[h0] at HK;clear h0;have HM:=zA (fun W=>zGi wd hi W a1 a2 b1 b2)
 have HP:Hid (∀ k j,k<64→j<64→ ∃ r q:Nat,Hid (r=k/((wd+7)/8)*8+j/8∧q=k%((wd+7)/8)*8+j%8)∧ ∀ W,Calls Tryz.prog 91 #[.agg (qX wd hi),.int .i64 (k:Int),.int .i64 (j:Int)] W fun e w' =>
  e=.returned (.tuple #[.int .i64 ((r:Nat):Int),.int .i64 ((q:Nat):Int)])∧Ext W w'):=zA fun k j hk hj=>⟨_,_,zA ⟨rfl,rfl⟩,fun W=>zNL wd hi k j W a1 a2 hk hj⟩
 have hcn:(wd+7)/8*((hi+7)/8)=qD wd hi:=rfl;rw[hcn, ←h] at HM;clear hcn;have hn64:n≤64:=by rw[h];have:(wd+7)/8*((hi+7)/8)≤8*8:=wI6 (by omega) (by omega);exact this
 have HN:=zA h;clear h;have HCF:=zA (fun W u zs (hl:zs.length=64) (hs:SL W 1 u zs.length (ints zs))=>jU 168 #[] (fun z=> !inB z (-40000) 40000) zQM u zs W hs (fun z _=>join1_any z W));simp only[zDH] at HCF;have hm:wd*hi≤64*64:=wI6 a2 b2;obtain⟨n0,hn0⟩: ∃ n0,wd*hi=n0:=⟨_,rfl⟩
 have HN0:=zA hn0;rw[hn0] at hm;clear hn0;have hbv: #[Value.int .i64 wd,Value.int .i64 hi]=qX wd hi:=rfl;have hts:=zA (uQ wd hi);have ho:=zA (zBL wd hi);have HZ0:=zA qU;generalize qX wd hi=av at *;have HZ:=zA hz;clear hz;have hv':=hv;obtain⟨A,c,rfl,hc1,hc2, -, -⟩:=hv';go_enter Tryz.func114,Tryz.ntmps114
 go_wp2_with (first
               | (refine wAlo' rfl (some 8) rfl 128 rfl _ zCA ?_;intro w1 g hb1 hx1 hg)
               | (refine wStB rfl 128 (.tmp 8) (.tmp 21) rfl _ _ rfl rfl hb1 2 xX hts.out rfl ho.out ?_;intro w2 hb2 hg2;have hx2:=hx1.grown hg2 (by omega))
               | (refine wLdB rfl 128 (.tmp 8) rfl _ rfl hb2 _ Tryz.underlying128 rfl 2 xX hts.out ?_)
               | (go_at_call 87;(with_reducible refine (HK.out _).mono ?_);rintro e w3 ⟨rfl,hx3⟩;have hx23:=hx2.trans hx3;have hb3:=hb2.ext hx3)
               | (refine zCd (by rfl) 128 (.tmp 8) rfl _ rfl hb3 _ Tryz.underlying128 rfl 2 xX hts.out ?_)
               | (go_at_call 90;(with_reducible refine (HM.out _).mono ?_);rintro e w5 ⟨rfl,hx5⟩;have hb5:=hb3.ext hx5;have hx35:=hx23.trans hx5))
 clear hb1 hb2 hb3 hx1 hx2 hx3 hx5 hx23 hg2 HK HM
 go_loopw [9,35] (fun s i wr=> ∃ (k:Nat) (b:Bool),k≤n∧i=.int .i64 (k:Int)∧s=.int .i64 (if b then 0 else 1)∧Hid (b=zR (Z.take (k*64)) (-40000) 40000)∧Blk wr g 128 av∧Ext w wr) (fun _ i _=>n-(intOf i).toNat)
 case atStart=>exact⟨0,true,by omega,rfl,rfl,zA (by simp[zR]),hb5,hx35⟩
 case round =>
  clear hb5 hx35;obtain⟨k,b,hk,rfl,rfl,HB,hba,hx⟩:=hrel
  by_cases hlt:k<n
  ·obtain⟨ad,zs,rfl,hab,hca,hzs,hl⟩:=zHa (hv.ext hx) HZ.out hlt
   have HNX:Hid (zR (Z.take ((k+1)*64)) (-40000) 40000=(b&&zR zs (-40000) 40000)):=zA (by
    rw[HB.out,hzs, ←allIn_app, ←take_next])
   have HCA:=zA hca;have HL:=zA hl;clear hca hl hzs;have HCF2:=zA (fun W u=>HCF.out W u zs HL.out);generalize hq:zR zs (-40000) 40000=q at *;clear hq
   cases b with
   | false =>
     go_wp2_with (first
      | (refine yI (by rfl) 33 (.tmp 37) rfl (ad.add (k*64)) rfl (ints zs) _ HCA.out Tryz.underlying33 rfl (by rw[yA,HL.out];exact zH) ?_)
      | (refine wAlo' rfl (some 11) rfl 33 rfl _ HZ0.out ?_;intro w7 g7 hb7 hx7 hg7)
      | (refine wStB rfl 33 (.tmp 11) (.tmp 38) rfl _ _ rfl rfl hb7 64 zH (zHo HL.out) zFD (xE zs) ?_;intro w8 hb8 hg8;have hx8:=hx7.grown hg8 (by omega)))
     go_roundw
     case rel=>exact⟨k+1,false,by omega,by go_num,rfl,zA (by rw[HNX.out];rfl),(hba.ext hx8),hx.trans hx8⟩
     case measure=>simp[intOf];omega
   | true =>
     cases q with
     | true =>
       go_wp2_with (first
        | (refine yI (by rfl) 33 (.tmp 37) rfl (ad.add (k*64)) rfl (ints zs) _ HCA.out Tryz.underlying33 rfl (by rw[yA,HL.out];exact zH) ?_)
        | (refine wAlo' rfl (some 11) rfl 33 rfl _ HZ0.out ?_;intro w7 g7 hb7 hx7 hg7)
        | (refine wStB rfl 33 (.tmp 11) (.tmp 38) rfl _ _ rfl rfl hb7 64 zH (zHo HL.out) zFD (xE zs) ?_;intro w8 hb8 hg8;have hx8:=hx7.grown hg8 (by omega))
        | (go_at_call 88;(with_reducible refine (HCF2.out _ _ (zQp hb8 HL.out)).mono ?_);rintro e w9 ⟨rfl,rfl⟩))
       go_roundw
       case rel=>exact⟨k+1,true,by omega,by go_num,rfl,zA (by rw[HNX.out];rfl),(hba.ext hx8),hx.trans hx8⟩
       case measure=>simp[intOf];omega
     | false =>
       go_wp2_with (first
        | (refine yI (by rfl) 33 (.tmp 37) rfl (ad.add (k*64)) rfl (ints zs) _ HCA.out Tryz.underlying33 rfl (by rw[yA,HL.out];exact zH) ?_)
        | (refine wAlo' rfl (some 11) rfl 33 rfl _ HZ0.out ?_;intro w7 g7 hb7 hx7 hg7)
        | (refine wStB rfl 33 (.tmp 11) (.tmp 38) rfl _ _ rfl rfl hb7 64 zH (zHo HL.out) zFD (xE zs) ?_;intro w8 hb8 hg8;have hx8:=hx7.grown hg8 (by omega))
        | (go_at_call 88;(with_reducible refine (HCF2.out _ _ (zQp hb8 HL.out)).mono ?_);rintro e w9 ⟨rfl,rfl⟩))
       go_roundw
       case rel=>exact⟨k+1,false,by omega,by go_num,rfl,zA (by rw[HNX.out];rfl),(hba.ext hx8),hx.trans hx8⟩
       case measure=>simp[intOf];omega
  ·have ek:k=n:=by omega
   have HA:Hid (zR Z (-40000) 40000=b):=zA (by rw[HB.out,ek, ←HZ.out,wJ3]);rw[ek];clear ek hk hlt HB
   cases b with
   | false =>
     go_wp2_with fail;go_ret2;exact zKq (by rw[HE.out,HA.out];rfl) (by decide) rfl hx
   | true =>
     go_wp2_with (first
      | (refine zB rfl (.int .i64 ((n0:Nat):Int)) (by rw[←HN0.out];exact zCI (i:=wd) (d:=hi) rfl rfl rfl (by have:=HN0.out;omega)) ?_)
      | (refine qE rfl (some 52) rfl _ _ rfl n0 (by omega) rfl rfl ?_;intro w6 gz hbz hx6 hgz;have hb6:=hba.ext hx6;have hxx:=hx.trans hx6))
     have hgz0:w.heap.size≤gz:=by have:=hx.size;omega
     have hbz0:Blk w6 gz 3 (bv (uJ Z wd hi 0)):=by rw[zPo,HN0.out];exact hbz
     clear hbz hba hx hx6
     go_loopw [55] (fun i wr=> ∃ k:Nat,k≤n∧i=.int .i64 (k:Int)∧Blk wr gz 3 (bv (uJ Z wd hi (k*64)))∧Blk wr g 128 av∧Ext w wr) (fun i _=>n-(intOf i).toNat)
     case atStart=>exact⟨0,by omega,rfl,hbz0,hb6,hxx⟩
     case round =>
      clear hbz0 hb6 hxx;obtain⟨k,hk,rfl,hbo,hba,hx⟩:=hrel
      by_cases hlt:k<n
      ·obtain⟨ad,zs,rfl,hab,hca,hzs,hl⟩:=zHa (hv.ext hx) HZ.out hlt;have HCA:=zA hca;have HL:=zA hl;have HZS:=zA hzs;clear hca hl hzs
       go_wp2_with (first
        | (refine yI (by rfl) 33 (.tmp 58) rfl (ad.add (k*64)) rfl (ints zs) _ HCA.out Tryz.underlying33 rfl (by rw[yA,HL.out];exact zH) ?_)
        | (refine wAlo' rfl (some 14) rfl 33 rfl _ HZ0.out ?_;intro w7 g7 hb7 hx7 hg7)
        | (refine wStB rfl 33 (.tmp 14) (.tmp 59) rfl _ _ rfl rfl hb7 64 zH (zHo HL.out) zFD (xE zs) ?_;intro w8 hb8 hg8;have hx8:=hx7.grown hg8 (by omega);have hbo8:=hbo.ext hx8;have hba8:=hba.ext hx8;have hxx8:=hx.trans hx8)
        | (refine wLdB rfl 33 (.tmp 14) rfl _ rfl hb8 _ Tryz.underlying33 rfl 64 zH (zHo HL.out) ?_))
       have HBV:Hid (∀ j:Nat,j<64→ ∃ z,(bv zs)[j]? =some (.int .i64 z)∧Hid (z=Z.getD (k*64+j) 0)∧ -40000≤z∧z≤40000):=zA (fun j hj=>by
        have hjl:j<zs.length:=by rw[HL.out];exact hj
        refine⟨zs[j],qK zs j hjl,zA ?_, ?_⟩
        ·have e:=wA2 hjl;have hzs:=HZS.out;subst hzs;rw[wD0 hj,wB4] at e;rw[wF4,e];rfl
        ·have hmem: ∀ z∈zs,z∈Z:=fun z hz=>by
          rw[HZS.out] at hz;exact wG9 (wH0 hz)
         exact yD.1 HA.out _ (hmem _ (wE2 hjl)))
       have hbve:(ints zs).toArray=bv zs:=rfl;rw[hbve];generalize bv zs=cz at *;clear hbo hba hx hb7 hx7 hg8 hx8
       go_loopw [61] (fun i wr=> ∃ j:Nat,j≤64∧i=.int .i64 (j:Int)∧Blk wr gz 3 (bv (uJ Z wd hi (k*64+j)))∧Blk wr g 128 av∧Ext w wr) (fun i _=>64-(intOf i).toNat)
       case atStart=>exact⟨0,by omega,rfl,hbo8,hba8,hxx8⟩
       case round =>
        clear hbo8 hba8 hxx8 hb8;obtain⟨j,hj,rfl,hbo,hba,hx⟩:=hrel
        by_cases hltj:j<64
        ·obtain⟨z,hcz,HZV,hz1,hz2⟩:=HBV.out j hltj;have hat:=fun W=>zDw cz j _ hltj hcz W
         obtain⟨r,q,HRQ,hcall⟩:=HP.out k j (by omega) hltj;have HCALL:=zA hcall;clear hcall hcz
         by_cases hrq:r<hi∧q<wd
         ·obtain⟨hr,hq⟩:=hrq;have d1:decide (r<hi)=true:=by simpa using hr
          have d2:decide (q<wd)=true:=by simpa using hq
          go_upto_region 22 with (first
           | (refine wLdB rfl 128 (.tmp 8) rfl _ rfl hba _ Tryz.underlying128 rfl 2 xX hts.out ?_)
           | (go_at_call 91;(with_reducible refine (HCALL.out _).mono ?_);rintro e w9 ⟨rfl,hx9⟩;have hbo9:=hbo.ext hx9;have hba9:=hba.ext hx9;have hxx9:=hx.trans hx9))
          have hpb:r*wd≤64*64:=wI6 (by omega) a2;obtain⟨p,hpx⟩: ∃ p,r*wd+q=p:=⟨_,rfl⟩
          have HPX:=zA hpx
          have hp:p<n0:=by
           have h9:=wJ0 wd (show r+1≤hi by omega);rw[wJ8,wJ2 hi wd,HN0.out] at h9;omega
          clear hpx;have HSZ:Hid (p<(bv (uJ Z wd hi (k*64+j))).size):=zA (by rw[zK,zGB,HN0.out];exact hp);refine wp_region_lit ?_;refine zB rfl (.slice (some ⟨gz,0,none⟩) n0 n0) (zC rfl rfl) ?_;simp only[Act.put,sA,sB,sC];refine zB rfl (.int .i64 ((r:Nat):Int)) (zC rfl rfl) ?_;simp only[Act.put,sA,sB,sC];refine zB rfl (.int .i64 ((wd:Nat):Int)) (zC rfl rfl) ?_;simp only[Act.put,sA,sB,sC];refine zB rfl (.int .i64 ((r*wd:Nat):Int)) (zCI (i:=r) (d:=wd) rfl rfl rfl (by omega)) ?_;simp only[Act.put,sA,sB,sC];refine zB rfl (.int .i64 ((q:Nat):Int)) (zC rfl rfl) ?_;simp only[Act.put,sA,sB,sC];refine zB rfl (.int .i64 ((p:Nat):Int)) (by rw[←HPX.out];exact yH (i:=r*wd) (d:=q) rfl rfl rfl (by omega)) ?_;simp only[Act.put,sA,sB,sC];refine zB rfl (.int .i64 (z)) (zC rfl rfl) ?_;simp only[Act.put,sA,sB,sC];refine zB rfl (.int .i64 (z+128)) (ex_addI (i:=z) (d:=128) rfl rfl rfl (by omega)) ?_;simp only[Act.put,sA,sB,sC];refine zB rfl (.int .i64 (max (z+128) 0)) (ex_maxI (i:=z+128) (d:=0) rfl rfl rfl) ?_;simp only[Act.put,sA,sB,sC];refine zB rfl (.int .i64 (min (max (z+128) 0) 255)) (ex_minI (i:=max (z+128) 0) (d:=255) rfl rfl rfl) ?_;simp only[Act.put,sA,sB,sC];refine zB rfl (.pointer (some ⟨gz,p,none⟩)) (jL Tryz.underlying22 qW rfl rfl rfl hp) ?_;simp only[Act.put,sA,sB,sC];refine uK rfl (.tmp 90) (.tmp 89) rfl gz p (min (max (z+128) 0) 255) rfl rfl hbo9 HSZ.out ?_;simp only[Act.put,sA,sB,sC];have hb9:=hbo9.set_ p (.int .i64 (min (max (z+128) 0) 255));have hset:=zRX Z wd hi k j hltj (by rw[←HRQ.out.1];exact hr) (by rw[←HRQ.out.2];exact hq);rw[←HRQ.out.1, ←HRQ.out.2,HPX.out, ←HZV.out] at hset;rw[jO,clampI,hset] at hb9;have hb10:=hba9.far (p:=⟨gz,p,none⟩) (hbo9.ne_ hba9 (by decide)).symm (.int .i64 (min (max (z+128) 0) 255));have hx10:=hxx9.setCell (p:=⟨gz,p,none⟩) hgz0 (.int .i64 (min (max (z+128) 0) 255));rw[clampI] at hb10 hx10 ⊢;clear hset;go_wp2_with fail;go_roundw
          case rel=>exact⟨j+1,by omega,by go_num,hb9,hb10,hx10⟩
          case measure=>simp[intOf];omega
         ·have HSK:=zA (zPp Z wd hi k j hltj (by rw[←HRQ.out.1, ←HRQ.out.2];exact hrq));rw[HSK.out] at hbo
          by_cases hr:r<hi
          ·have hq: ¬q<wd:=fun hq=>hrq ⟨hr,hq⟩
           have d1:decide (r<hi)=true:=by simpa using hr
           have d2:decide (q<wd)=false:=by simpa using hq
           clear hrq
           go_wp2_with (first
            | (refine wLdB rfl 128 (.tmp 8) rfl _ rfl hba _ Tryz.underlying128 rfl 2 xX hts.out ?_)
            | (go_at_call 91;(with_reducible refine (HCALL.out _).mono ?_);rintro e w9 ⟨rfl,hx9⟩;have hbo9:=hbo.ext hx9;have hba9:=hba.ext hx9;have hxx9:=hx.trans hx9))
           go_roundw
           case rel=>exact⟨j+1,by omega,by go_num,hbo9,hba9,hxx9⟩
           case measure=>simp[intOf];omega
          ·have d1:decide (r<hi)=false:=by simpa using hr
           clear hrq
           go_wp2_with (first
            | (refine wLdB rfl 128 (.tmp 8) rfl _ rfl hba _ Tryz.underlying128 rfl 2 xX hts.out ?_)
            | (go_at_call 91;(with_reducible refine (HCALL.out _).mono ?_);rintro e w9 ⟨rfl,hx9⟩;have hbo9:=hbo.ext hx9;have hba9:=hba.ext hx9;have hxx9:=hx.trans hx9))
           go_roundw
           case rel=>exact⟨j+1,by omega,by go_num,hbo9,hba9,hxx9⟩
           case measure=>simp[intOf];omega
        ·have ej:j=64:=by omega
         rw[ej];go_wp2_with fail;go_roundw
         case rel=>exact⟨k+1,by omega,by go_num,by rw[ej] at hbo;rw[show (k+1)*64=k*64+64 by omega];exact hbo,hba,hx⟩
         case measure=>simp[intOf];omega
      ·have ek:k=n:=by omega
       rw[ek] at hbo ⊢;rw[HN.out,zQw] at hbo;go_wp2_with fail;go_ret2;have hE:zDU n Z wd hi (xW wd hi)=0:=by rw[HE.out,HA.out];rfl
       unfold zGe;rw[hE];refine⟨some ⟨gz,0,none⟩,n0,n0,rfl, ?_, ?_,hx,fun ad e=>by cases e;exact hgz0⟩
       ·rw[if_pos rfl];exact HN0.out.symm
       ·rw[if_pos rfl];have:=hbo.bsl (c:=n0) (by rw[zIc,HN0.out];omega) (by omega);rw[zIc,HN0.out] at this;exact this
def join_any (n:Nat) (Z:List Int) (v:Value) (wd hi:Int) (w:World) (hv:SL w 64 v n (ints Z)) (hz:Z.length=n*64):Calls Tryz.prog 114 #[v,.int .i64 wd,.int .i64 hi] w (zGe n Z wd hi w):=by
 by_cases h:xW wd hi=0
 ·obtain⟨a,b,rfl,rfl,h1,h2,h3,h4⟩:=zHg h
  by_cases hn:n=qD a b
  ·exact join_in n Z v a b w hv hz h h1 h2 h3 h4 hn
  ·exact (join_many n Z v a b w hv hz h h1 h2 h3 h4 hn).mono fun e w' hh=>zKq (by unfold zDU;rw[h,if_pos rfl];simp only[wF0];rw[if_neg hn]) (by decide) hh.1 hh.2
 ·exact (zTK n Z v wd hi w hv hz h).mono fun e w' hh=>zKq (by unfold zDU;rw[if_neg h]) (by decide) hh.1 hh.2
end Go.Proofs.YtkggcjdlpendfaaGreatDoor
