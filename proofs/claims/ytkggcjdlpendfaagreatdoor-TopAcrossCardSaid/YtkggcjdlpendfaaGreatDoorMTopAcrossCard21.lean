/- Part 21. -/
import Derived.Test.YtkggcjdlpendfaaGreatDoorMTopAcrossCard20
namespace Go.Proofs.YtkggcjdlpendfaaGreatDoor
set_option linter.all false
set_option maxRecDepth 20000
set_option maxHeartbeats 8000000
open Go.RowKit
theorem plZ_one (b:Nat) (l:List Nat) (h:b≠255):plZ (b::l)=(plZ l).map (b:: ·):=by
 cases l with
 | nil=>simp[plZ,h]
 | cons c r=>rw[plZ,if_neg h]
theorem zIH: ∀ bs:List Nat,plZ (xR bs)=some bs
 | []=>rfl
 | b::l=>by
   rw[zLG]
   by_cases h:b=255
   ·rw[if_pos h,h]
    show plZ (255::0::xR l)=_
    rw[plZ,if_pos rfl,if_pos rfl,zIH l]
    rfl
   ·rw[if_neg h]
    show plZ (b::xR l)=_
    rw[plZ_one b _ h,zIH l]
    rfl
theorem sp_one (b:Nat) (r:List Nat) (P:List (List Nat)) (M c:List Nat) (h:b≠255):xV (b::r) P M c=xV r P M (c++[b]):=by
 cases r with
 | nil=>simp[xV,h]
 | cons y r=>rw[xV,if_neg h]
theorem zHW: ∀ (x r:List Nat) (P:List (List Nat)) (M c:List Nat),xV (xR x++r) P M c=xV r P M (c++xR x)
 | [],r,P,M,c=>by simp[xR]
 | b::l,r,P,M,c=>by
   rw[zLG,wG2]
   by_cases h:b=255
   ·rw[if_pos h]
    show xV (255::0::(xR l++r)) P M c=_
    rw[xV,if_pos rfl,if_neg (by decide),if_pos rfl,zHW l,wG2]
   ·rw[if_neg h]
    show xV (b::(xR l++r)) P M c=_
    rw[sp_one b _ _ _ _ h,zHW l,wG2]
theorem sp_mark (m:Nat) (r:List Nat) (P:List (List Nat)) (M c:List Nat) (h0:m≠0) (h:m≠255):xV (255::m::r) P M c=xV r (P++[c]) (M++[m]) []:=by
 rw[xV,if_pos rfl,if_neg h,if_neg h0]
def zAf (x:Nat→List Nat) (i m:Nat):List Nat:=(List.range' i m).flatMap fun j=>zBP j++xR (x j)
theorem zHY (x:Nat→List Nat) (i m:Nat):zAf x i (m+1)=zBP i++(xR (x i)++zAf x (i+1) m):=by
 unfold zAf
 rw[wK4,wJ6,wG2]
theorem sp_join (x:Nat→List Nat): ∀ (m i:Nat) (P:List (List Nat)) (M c:List Nat),0<i→xV (zAf x i m) P M c=some (P++c::(List.range' i m).map (fun j=>xR (x j)),M++(List.range' i m).map fun j=>208+(j-1)%8)
 | 0,i,P,M,c,_=>by simp[zAf,xV]
 | m+1,i,P,M,c,hi=>by
   rw[zHY]
   unfold zBP
   rw[if_neg (by omega)]
   show xV (255::(208+(i-1)%8)::(xR (x i)++zAf x (i+1) m)) P M c=_
   rw[sp_mark _ _ _ _ _ (by omega) (by omega),zHW,wL7,sp_join x m (i+1) _ _ _ (by omega),wK4]
   simp
theorem sp_joined (x:Nat→List Nat) (m:Nat):xV (zAf x 0 (m+1)) [] [] []=some ((List.range (m+1)).map (fun j=>xR (x j)),(List.range' 1 m).map fun j=>208+(j-1)%8):=by
 rw[zHY]
 show xV (xR (x 0)++zAf x 1 m) [] [] []=_
 rw[zHW,sp_join x m 1 _ _ _ (by omega),wS9,wK4]
 simp
theorem zOx: ∀ (m i:Nat),0<i→vW ((List.range' i m).map fun j=>208+(j-1)%8) (i-1)=true
 | 0,i,_=>rfl
 | m+1,i,hi=>by
   rw[wK4,wC8,vW,show i-1+1=i+1-1 by omega,zOx m (i+1) (by omega)]
   simp
theorem cutK_pos (n e:Nat):1≤yJ n e:=by
 unfold yJ
 split
 ·omega
 ·next h=>exact (Nat.le_div_iff_mul_le (by omega)).2 (by omega)
theorem zLQ (n e:Nat) (Z:List Int) (hZ:Z.length=n*64): ∀ k,k≤yJ n e→(List.range k).flatMap (fun i=>yN n e i Z)=Z.take (atK n e k*64)
 | 0,_=>by rw[atK_0];simp
 | k+1,h=>by
   rw[wH3,wJ4,zLQ n e Z hZ k (by omega),wJ6,List.flatMap_nil,wG6,zHP (by omega),wJ8]
   have h1:atK n e k=k*yQ n e:=by have:=zHm (n:=n) (e:=e) (i:=k) (by omega);unfold atK;omega
   unfold yN
   rw[h1,List.take_add]
   rfl
def zEP (T1 T2:List Tok) (n e:Nat) (Z:List Int) (i:Nat):List Nat:=jB (zAA (xW (yX T1 T2) (qR n e i) (yN n e i Z) []).2)
theorem zLV (T1 T2:List Tok) (n e:Nat) (Z:List Int): ∀ (m i:Nat) (acc:List Nat),(uQ T1 T2 n e Z m i acc).1=0 →
 (∀ j,i≤j→j<i+m→(xW (yX T1 T2) (qR n e j) (yN n e j Z) []).1=0)∧(uQ T1 T2 n e Z m i acc).2=acc++zAf (zEP T1 T2 n e Z) i m
 | 0,i,acc,_=>⟨fun j h1 h2=>by omega,by simp[uQ,zAf]⟩
 | m+1,i,acc,h=>by
   by_cases h0:(zCf T1 T2 (min (n-i*yQ n e) (yQ n e)) (yN n e i Z)).1=0
   ·rw[zJD rfl h0] at h ⊢
    obtain⟨h1,h2⟩:=zLV T1 T2 n e Z m (i+1) _ h
    refine⟨fun j a b=> ?_, ?_⟩
    ·by_cases hj:j=i
     ·subst hj;exact h0
     ·exact h1 j (by omega) (by omega)
    ·rw[h2,zHY,wG2,wG2]
     rfl
   ·rw[zLd rfl h0] at h;exact absurd h h0
theorem zSS {cs1 xs1 cs2 xs2:List Int} (l1:cs1.length=16) (l2:cs2.length=16) (z1:zV cs1 xs1=0) (z2:zV cs2 xs2=0) {n e:Nat} {Z:List Int} (hZ:Z.length=n*64) {i:Nat} (h:(xW (yX (zK (zD cs1 16) xs1) (zK (zD cs2 16) xs2)) (qR n e i) (yN n e i Z) []).1=0) :
 uU true (zK (zD cs1 16) xs1) (zK (zD cs2 16) xs2) ((qR n e i:Nat):Int) (plZ (xR (zEP (zK (zD cs1 16) xs1) (zK (zD cs2 16) xs2) n e Z i)))=(0,yN n e i Z):=by
 rw[zIH]
 exact decR_back l1 l2 z1 z2 (zGX hZ) h
theorem zNp {cs1 xs1 cs2 xs2:List Int} (l1:cs1.length=16) (l2:cs2.length=16) (z1:zV cs1 xs1=0) (z2:zV cs2 xs2=0) {n e:Nat} {Z:List Int} (hZ:Z.length=n*64) (x:Nat→List Nat) (K:Nat): ∀ (m i:Nat) (acc:List Int),i+m=K →
 (∀ j,i≤j→j<i+m→uU true (zK (zD cs1 16) xs1) (zK (zD cs2 16) xs2) ((qR n e j:Nat):Int) (plZ (xR (x j)))=(0,yN n e j Z)) →
 zBb (zK (zD cs1 16) xs1) (zK (zD cs2 16) xs2) n e ((List.range K).map fun j=>xR (x j)) m i acc=(0,acc++(List.range' i m).flatMap fun j=>yN n e j Z)
 | 0,i,acc,_,_=>by simp[zBb]
 | m+1,i,acc,hK,h=>by
   have hg:((List.range K).map fun j=>xR (x j)).getD i []=xR (x i):=by
    rw[wF4,wC0,wI7 (by omega)]
    rfl
   have h1:=h i (wA5 _) (by omega)
   rw[sdGo_ok (r:=(0,yN n e i Z)) (by rw[hg,h1]) rfl,zNp l1 l2 z1 z2 hZ x K m (i+1) _ (by omega) (fun j a b=>h j (by omega) (by omega)),wK4,wJ6,wG2]
theorem zNz {cs1 xs1 cs2 xs2:List Int} (l1:cs1.length=16) (l2:cs2.length=16) (z1:zV cs1 xs1=0) (z2:zV cs2 xs2=0) {n e:Nat} {Z:List Int} (hZ:Z.length=n*64) (h:(zBV (zK (zD cs1 16) xs1) (zK (zD cs2 16) xs2) n e Z).1=0) :
 (zBV (zK (zD cs1 16) xs1) (zK (zD cs2 16) xs2) n e Z).2=zAf (zEP (zK (zD cs1 16) xs1) (zK (zD cs2 16) xs2) n e Z) 0 (yJ n e) ∧
 (∀ j,j<yJ n e→(xW (yX (zK (zD cs1 16) xs1) (zK (zD cs2 16) xs2)) (qR n e j) (yN n e j Z) []).1=0) ∧
 zAm (zK (zD cs1 16) xs1) (zK (zD cs2 16) xs2) n e (zBV (zK (zD cs1 16) xs1) (zK (zD cs2 16) xs2) n e Z).2=(0,Z):=by
 have hbe:qD n Z=0:=by
  by_cases h0:qD n Z=0
  ·exact h0
  ·unfold zBV at h;rw[if_pos h0] at h;exact absurd h h0
 have hsc:zBV (zK (zD cs1 16) xs1) (zK (zD cs2 16) xs2) n e Z=uQ (zK (zD cs1 16) xs1) (zK (zD cs2 16) xs2) n e Z (yJ n e) 0 []:=by
  unfold zBV;rw[if_neg (by simpa using hbe)]
 rw[hsc] at h ⊢
 obtain⟨h1,h2⟩:=zLV _ _ n e Z (yJ n e) 0 [] h
 rw[wL7] at h2
 refine⟨h2,fun j hj=>h1 j (by omega) (by omega), ?_⟩
 rw[h2]
 have hK:=cutK_pos n e
 unfold zAm
 have hs:=sp_joined (zEP (zK (zD cs1 16) xs1) (zK (zD cs2 16) xs2) n e Z) (yJ n e-1)
 rw[show yJ n e-1+1=yJ n e by omega] at hs
 rw[hs]
 dsimp only
 have hw:zBf n e ((List.range (yJ n e)).map fun j=>xR (zEP (zK (zD cs1 16) xs1) (zK (zD cs2 16) xs2) n e Z j)) ((List.range' 1 (yJ n e-1)).map fun j=>208+(j-1)%8)=0:=by
  unfold zBf
  rw[if_neg (by simp),zOx (yJ n e-1) 1 (by omega),if_pos rfl]
 rw[hw,if_neg (by simp),zNp l1 l2 z1 z2 hZ _ (yJ n e) (yJ n e) 0 [] (by omega) (fun j a b=>zSS l1 l2 z1 z2 hZ (h1 j (by omega) b))]
 rw[wL7, ←wS9,zLQ n e Z hZ _ (wA5 _),zJX,wC4 (by omega)]
def PcErr (z:Int) (w:World) (e:Ending) (w':World):Prop:=e=.returned (.tuple #[.slice none 0 0,.slice none 0 0,.int .i64 z])∧Ext w w'
theorem zRB (t1 t2:List Value) (v:Value) (bs:List Nat) (nn ev:Int) (w:World) (he:0≤ev∧ev≤100) (hn:0≤nn∧nn≤400) (hs:SL w 1 v bs.length (zF bs)) (hlt: ∀ b∈bs,b<256) (hl:bs.length≤1048576) (h1:t1.length=17) (h2:t2.length=17)
 (o1:t1.toArray.all (·.oneCell')=true) (o2:t2.toArray.all (·.oneCell')=true)
 (C1: ∀ W,Ext w W→Calls Tryz.prog 102 #[.agg t1.toArray] W fun e W'=>e=.returned (.int .i64 0)∧Ext W W')
 (C2: ∀ W,Ext w W→Calls Tryz.prog 102 #[.agg t2.toArray] W fun e W'=>e=.returned (.int .i64 0)∧Ext W W') :
 Calls Tryz.prog 109 #[.agg (t1++t2).toArray,v,.int .i64 nn,.int .i64 ev] w (SpIsN (xV bs [] [] []) w):=by
 have hl1:=zA h1
 have hl2:=zA h2
 have HB2:=zA (zGI t1 t2 h1 h2)
 have HRT:=zA (fun W g (hb:Blk W g 42 (t1++t2).toArray)=>uW h1 hb)
 have HRU:=zA (fun W g (hb:Blk W g 44 (t1++t2).toArray)=>uW h1 hb)
 have hs1:Hid (t1.toArray.size=17):=zA (by simpa using h1)
 have hs2:Hid (t2.toArray.size=17):=zA (by simpa using h2)
 have hz17:Hid ((ints (List.replicate 16 0)++[Value.slice none 0 0]).toArray.size=17):=zA (by simp[ints])
 have HO1:=zA o1
 have HO2:=zA o2
 have HC1:=zA C1
 have HC2:=zA C2
 have H15:Hid (decide (ev<0)=false):=zA (by rw[decide_eq_false_iff_not];omega)
 have H18:Hid (decide (100<ev)=false):=zA (by rw[decide_eq_false_iff_not];omega)
 have H22:Hid (decide (nn<0)=false):=zA (by rw[decide_eq_false_iff_not];omega)
 have H26:Hid (decide (400<nn)=false):=zA (by rw[decide_eq_false_iff_not];omega)
 have HSP:=zA (fun W (h:Ext w W)=>zLK bs v W (hs.ext h) hlt hl)
 generalize xV bs [] [] []=z at *
 clear o1 o2 C1 C2 h1 h2 he hn hs hlt hl
 go_enter Tryz.func109,Tryz.ntmps109
 go_wp2_with (first
  | ((with_reducible apply gS 4);refine wBox rfl 44 (.tmp 0) rfl (t1++t2).toArray rfl ?_;intro w1 g hb1 hx1 hg;have hr1:=HRU.out _ _ hb1)
  | ((with_reducible apply gS 15);refine zB rfl (.bool false) (zT rfl rfl rfl H15.out) ?_)
  | ((with_reducible apply gS 18);refine xL (by rfl) (.bool false) (xY rfl rfl rfl H18.out) ?_)
  | ((with_reducible apply gS 22);refine xL (by rfl) (.bool false) (zT rfl rfl rfl H22.out) ?_)
  | ((with_reducible apply gS 26);refine xL (by rfl) (.bool false) (xY rfl rfl rfl H26.out) ?_)
  | ((with_reducible apply gS 29);refine wpList_load_mid rfl 42 (.tmp 28) rfl g 0 rfl t1 _ hr1.1 Tryz.underlying42 rfl (by rw[hl1.out];exact zO) ?_)
  | ((with_reducible apply gS 31);refine wpList_load_mid rfl 42 (.tmp 30) rfl g 17 rfl t2 _ hr1.2 Tryz.underlying42 rfl (by rw[hl2.out];exact zO) ?_)
  | ((with_reducible apply gS 32);refine Go.Great.wpList_buildSliceTo rfl 115 42 2 _ rfl _ rfl (some 32) rfl Tryz.underlying115 _ (by simp[Act.eval];exact HB2.out) ?_))
 have hbn0:=Blk.new w1 42 (t1++t2).toArray
 have hb3:=hb1.alloc (.cells (t1++t2).toArray 42)
 have hx3:=hx1.alloc (.cells (t1++t2).toArray 42)
 clear hb1 hr1 hx1
 go_loopw [34] (fun i wr=> ∃ k:Nat,k≤2∧i=.int .i64 (k:Int)∧Blk wr g 44 (t1++t2).toArray∧Blk wr w1.heap.size 42 (t1++t2).toArray∧Ext w wr) (fun i _=>2-(intOf i).toNat)
 case atStart=>exact⟨0,by omega,rfl,hb3,hbn0,hx3⟩
 case round =>
  clear hb3 hbn0 hx3
  obtain⟨k,hk,rfl,hb,hbn,hx⟩:=hrel
  rcases (by omega:k=0∨k=1∨k=2) with rfl | rfl | rfl
  ·have hr:=(HRT.out _ _ hbn).1
   go_wp2_with (first
    | ((with_reducible apply gS 37);refine wpList_load_mid rfl 42 (.tmp 36) rfl _ 0 rfl t1 _ hr Tryz.underlying42 rfl (by rw[hl1.out];exact zO) ?_)
    | ((with_reducible apply gS 12);refine wAlo' rfl (some 12) rfl 42 rfl _ zAG ?_;intro w4 ga hba4 hx4 hga)
    | ((with_reducible apply gT 12 37);refine wStB rfl 42 (.tmp 12) (.tmp 37) rfl _ _ rfl rfl hba4 17 zO hs1.out hz17.out HO1.out ?_;intro w5 hba5 hg5;have hx5:=(hx.trans hx4).grown hg5 (by have:=hx.size;omega))
    | ((with_reducible apply gS 38);refine wLdB rfl 42 (.tmp 12) rfl _ rfl hba5 _ Tryz.underlying42 rfl 17 zO hs1.out ?_)
    | (go_at_call 102;(with_reducible refine (HC1.out _ hx5).mono ?_);rintro e w6 ⟨rfl,hx6⟩))
   go_roundw
   case rel=>exact⟨1,by omega,by go_num,((hb.ext hx4).grown hg5 (by have:=hb.lt;simp;omega)).ext hx6,((hbn.ext hx4).grown hg5 (by have:=hbn.lt;simp;omega)).ext hx6,hx5.trans hx6⟩
   case measure=>simp[intOf]
  ·have hr:=(HRT.out _ _ hbn).2
   go_wp2_with (first
    | ((with_reducible apply gS 37);refine wpList_load_mid rfl 42 (.tmp 36) rfl _ 17 rfl t2 _ hr Tryz.underlying42 rfl (by rw[hl2.out];exact zO) ?_)
    | ((with_reducible apply gS 12);refine wAlo' rfl (some 12) rfl 42 rfl _ zAG ?_;intro w4 ga hba4 hx4 hga)
    | ((with_reducible apply gT 12 37);refine wStB rfl 42 (.tmp 12) (.tmp 37) rfl _ _ rfl rfl hba4 17 zO hs2.out hz17.out HO2.out ?_;intro w5 hba5 hg5;have hx5:=(hx.trans hx4).grown hg5 (by have:=hx.size;omega))
    | ((with_reducible apply gS 38);refine wLdB rfl 42 (.tmp 12) rfl _ rfl hba5 _ Tryz.underlying42 rfl 17 zO hs2.out ?_)
    | (go_at_call 102;(with_reducible refine (HC2.out _ hx5).mono ?_);rintro e w6 ⟨rfl,hx6⟩))
   go_roundw
   case rel=>exact⟨2,by omega,by go_num,((hb.ext hx4).grown hg5 (by have:=hb.lt;simp;omega)).ext hx6,((hbn.ext hx4).grown hg5 (by have:=hbn.lt;simp;omega)).ext hx6,hx5.trans hx6⟩
   case measure=>simp[intOf]
  ·clear HRT HRU HB2 HC1 HC2 hbn hs1 hs2 hz17 HO1 HO2 hl1 hl2
   cases z with
   | none =>
     go_wp2_with (first
      | (go_at_call 34;(with_reducible refine (HSP.out _ hx).mono ?_);rintro e w2 ⟨rfl,hx2⟩))
     go_ret3
     exact⟨rfl,hx.trans hx2⟩
   | some q =>
     obtain⟨P,M⟩:=q
     go_wp2_with (first
      | (go_at_call 34;(with_reducible refine (HSP.out _ hx).mono ?_);rintro e w2 ⟨A,c,B,d,VS,rfl,k1,k2,k3,hx2,k4⟩))
     go_ret3
     exact⟨A,c,B,d,VS,rfl,k1,k2,k3,hx.trans hx2,k4⟩
section
def WhIs (x:Int) (P:List (List Nat)) (w:World) (e:Ending) (w':World):Prop :=
 Ext w w'∧if x=0 then ∃ A c VS,e=.returned (.tuple #[.slice A P.length c,.int .i64 0])∧SL w' 1 (.slice A P.length c) P.length VS∧Pieces w' VS P∧NZ VS
  else e=.returned (.tuple #[.slice none 0 0,.int .i64 x])
theorem whole_err (tt:Array Value) (hsz0:tt.size=34) (v:Value) (nn ev:Int) (z:Int) (hz:z≠0) (w:World)
 (PC: ∀ W,Ext w W→Calls Tryz.prog 109 #[.agg tt,v,.int .i64 nn,.int .i64 ev] W (PcErr z W)):Calls Tryz.prog 122 #[.agg tt,v,.int .i64 nn,.int .i64 ev] w (WhIs z [] w):=by
 have HPC:=zA PC
 have hsz:=zA hsz0
 have hzb:(z !=0)=true:=by simpa using hz
 have HZ:=zA hz
 clear PC hsz0 hz
 go_enter Tryz.func122,Tryz.ntmps122
 go_wp2_with (first
  | ((with_reducible apply gS 4);refine wBox rfl 44 (.tmp 0) rfl tt rfl ?_;intro w1 g hb1 hx1 hg)
  | ((with_reducible apply gS 16);refine wLdB rfl 44 (.tmp 4) rfl g rfl hb1 _ Tryz.underlying44 rfl 34 qN hsz.out ?_)
  | (go_at_call 109;(with_reducible refine (HPC.out _ hx1).mono ?_);rintro e w2 ⟨rfl,hx2⟩))
 refine bodyPost_ret (results_tmp2 rfl _ _ _) rfl ?_
 refine⟨hx1.trans hx2, ?_⟩
 rw[if_neg HZ.out]
 rfl
attribute [local irreducible] jD yQ yJ vW xV
theorem zSo (tt:Array Value) (hsz0:tt.size=34) (v:Value) (n e:Nat) (hn:n≤1000000) (he:e≤1000000) (P:List (List Nat)) (M:List Nat) (hM:M.length≤100000000) (hP:P.length≤100000000) (w:World)
 (PC: ∀ W,Ext w W→Calls Tryz.prog 109 #[.agg tt,v,.int .i64 (n:Int),.int .i64 (e:Int)] W (SpIsN (some (P,M)) W)):Calls Tryz.prog 122 #[.agg tt,v,.int .i64 (n:Int),.int .i64 (e:Int)] w (WhIs (zBf n e P M) P w):=by
 have HPC:=zA PC
 have hsz:=zA hsz0
 have HSP:=zA (fun W=>zIy n e hn he W)
 have hKl:=zEo (n:=n) (e:=e)
 have HMK:=zA (fun i W (h:i<M.length)=>zQY i (by omega) W)
 obtain⟨x,hx0⟩: ∃ x,zBf n e P M=x:=⟨_,rfl⟩
 have HX4:Hid (P.length≠yJ n e→x=4):=zA (fun h=>by rw[←hx0];unfold zBf;rw[if_pos h])
 have HX6:Hid (P.length=yJ n e→vW M 0=false→x=6):=zA (fun h h2=>by rw[←hx0];unfold zBf;rw[if_neg (by simp[h]),if_neg (by simp[h2])])
 have HX0:Hid (P.length=yJ n e→vW M 0=true→x=0):=zA (fun h h2=>by rw[←hx0];unfold zBf;rw[if_neg (by simp[h]),if_pos h2])
 rw[hx0]
 obtain⟨K,hK⟩: ∃ K,yJ n e=K:=⟨_,rfl⟩
 rw[hK] at HSP HX4 HX6 HX0 hKl
 obtain⟨pn,hpn⟩: ∃ k,P.length=k:=⟨_,rfl⟩
 have HPN:=zA hpn
 have HRS:Hid (∀ W e' W',SpIsN (some (P,M)) W e' W'→ ∃ A c B d VS,e'=.returned (.tuple #[.slice A pn c,.slice B M.length d,.int .i64 0])∧SL W' 1 (.slice A pn c) pn VS∧Pieces W' VS P∧SL W' 1 (.slice B M.length d) M.length (ints (M.map Int.ofNat))∧Ext W W'∧NZ VS):=zA (fun W e' W' h=>by rw[←hpn];exact h)
 rw[hpn] at HX4 HX6 HX0 hP
 obtain⟨ml,hml⟩: ∃ k,M.length=k:=⟨_,rfl⟩
 have HML:=zA hml
 rw[hml] at HRS hM HMK
 clear PC hsz0 hx0 hK hpn hml
 by_cases hpk:pn=K
 ·have H33:Hid (decide ((pn:Int)≠(K:Int))=false):=zA (by simp[hpk])
  have HX6:=zA (HX6.out hpk)
  have HX0:=zA (HX0.out hpk)
  clear hpk HX4
  go_enter Tryz.func122,Tryz.ntmps122
  go_wp2_with (first
   | ((with_reducible apply gS 4);refine wBox rfl 44 (.tmp 0) rfl tt rfl ?_;intro w1 g hb1 hx1 hg)
   | ((with_reducible apply gS 16);refine wLdB rfl 44 (.tmp 4) rfl g rfl hb1 _ Tryz.underlying44 rfl 34 qN hsz.out ?_)
   | (go_at_call 109;(with_reducible refine (HPC.out _ hx1).mono ?_);intro e2 w2 h2;obtain⟨A,c,B,d,VS,rfl,k1,k2,k3,hx2,k4⟩:=HRS.out _ _ _ h2;have hx2':=hx1.trans hx2)
   | (go_at_call 99;(with_reducible refine (HSP.out _).mono ?_);rintro e3 w3 ⟨B3,d3,rfl, -,hx3⟩;have hx3':=hx2'.trans hx3)
   | ((with_reducible apply gS 33);refine zB rfl (.bool false) (zAL rfl rfl rfl H33.out) ?_))
  have k1':=zA (k1.ext hx3)
  have k2':=zA (k2.ext hx3)
  have k3':=zA (k3.ext hx3)
  have HK4:=zA k4
  have HX3:=zA hx3'
  have HM0:Hid (vW (M.drop 0) 0=vW M 0):=zA (by rw[wL5])
  clear hb1 hx1 hg k1 k2 k3 k4 hx2 hx2' hx3 hx3' h2
  go_loopw [36] (fun iv wr=> ∃ i:Nat,i≤ml∧iv=.int .i64 (i:Int)∧Hid (vW (M.drop i) i=vW M 0)∧Ext w3 wr) (fun i _=>ml-(intOf i).toNat)
  case atStart=>exact⟨0,by omega,rfl,HM0,Ext.refl _⟩
  case round =>
   clear HM0
   obtain⟨i,hi,rfl,HMI,hx⟩:=hrel
   by_cases hlt:i<ml
   ·obtain⟨ad,u,hB,hab,hxk,hcell⟩:=k3'.out.at1 hlt
    subst hB
    have hiM:i<M.length:=by rw[HML.out];exact hlt
    have hu:u=.int .i64 ((M[i]:Nat):Int):=by
     have h2:(ints (M.map Int.ofNat))[i]? =some (.int .i64 ((M[i]:Nat):Int)):=by
      rw[ints,wC0,wC0,wA2 hiM]
      rfl
     rw[h2] at hxk
     exact (Option.some.inj hxk).symm
    subst hu
    have hcell0:wr.cell? (ad.add i)=some (.int .i64 ((M[i]:Nat):Int)):=(hx.cell (p:=ad.add i) (by rw[yK];exact hab)).trans hcell
    have HST:=zA (zTS hiM)
    have HMQ:=zA (fun W=>HMK.out i W hlt)
    obtain⟨q,hq⟩: ∃ q,208+i%8=q:=⟨_,rfl⟩
    rw[hq] at HST HMQ
    clear hxk hcell hq
    generalize M[i]=y at *
    by_cases hy:y=q
    ·have H44:Hid (decide ((y:Int)≠(q:Int))=false):=zA (by simp[hy])
     have HM1:Hid (vW (M.drop (i+1)) (i+1)=vW M 0):=zA (by rw[←HMI.out,HST.out];simp[hy])
     clear hy
     go_wp2_with (first
      | (go_at_call 103;(with_reducible refine (HMQ.out _).mono ?_);rintro e5 w5 ⟨rfl,rfl⟩)
      | ((with_reducible apply gS 44);refine zB rfl (.bool false) (zAL rfl rfl rfl H44.out) ?_))
     go_roundw
     case rel=>exact⟨i+1,by omega,by go_num,HM1,hx⟩
     case measure=>simp[intOf];omega
    ·have H44:Hid (decide ((y:Int)≠(q:Int))=true):=zA (by rw[wB3];omega)
     have HXE:Hid (x=6):=zA (HX6.out (by rw[←HMI.out,HST.out];simp[hy]))
     clear hy
     go_wp2_with (first
      | (go_at_call 103;(with_reducible refine (HMQ.out _).mono ?_);rintro e5 w5 ⟨rfl,rfl⟩)
      | ((with_reducible apply gS 44);refine zB rfl (.bool true) (zAL rfl rfl rfl H44.out) ?_))
     refine bodyPost_ret (results_tmp2 rfl _ _ _) rfl ?_
     rw[HXE.out]
     refine⟨HX3.out.trans hx, ?_⟩
     rw[if_neg (show ¬(6:Int)=0 by decide)]
     rfl
   ·have HXE:Hid (x=0):=zA (HX0.out (by rw[←HMI.out];exact zRO (by rw[HML.out];omega)))
    go_wp2_with fail
    refine bodyPost_ret (results_tmp2 rfl _ _ _) rfl ?_
    rw[HXE.out]
    refine⟨HX3.out.trans hx, ?_⟩
    rw[if_pos rfl,HPN.out]
    exact⟨A,c,VS,rfl,k1'.out.ext hx,k2'.out.ext hx,HK4.out⟩
 ·have H33:Hid (decide ((pn:Int)≠(K:Int))=true):=zA (by rw[wB3];omega)
  have HXE:=zA (HX4.out hpk)
  clear hpk HX4 HX6 HX0
  go_enter Tryz.func122,Tryz.ntmps122
  go_wp2_with (first
   | ((with_reducible apply gS 4);refine wBox rfl 44 (.tmp 0) rfl tt rfl ?_;intro w1 g hb1 hx1 hg)
   | ((with_reducible apply gS 16);refine wLdB rfl 44 (.tmp 4) rfl g rfl hb1 _ Tryz.underlying44 rfl 34 qN hsz.out ?_)
   | (go_at_call 109;(with_reducible refine (HPC.out _ hx1).mono ?_);intro e2 w2 h2;obtain⟨A,c,B,d,VS,rfl,k1,k2,k3,hx2,k4⟩:=HRS.out _ _ _ h2;have hx2':=hx1.trans hx2)
   | (go_at_call 99;(with_reducible refine (HSP.out _).mono ?_);rintro e3 w3 ⟨B3,d3,rfl, -,hx3⟩;have hx3':=hx2'.trans hx3)
   | ((with_reducible apply gS 33);refine zB rfl (.bool true) (zAL rfl rfl rfl H33.out) ?_))
  refine bodyPost_ret (results_tmp2 rfl _ _ _) rfl ?_
  rw[HXE.out]
  refine⟨hx3', ?_⟩
  rw[if_neg (show ¬(4:Int)=0 by decide)]
  rfl
end
section
theorem zMC:zAd Tryz.prog 110:=⟨_,Tryz.func110,by kernel_rfl,by kernel_rfl⟩
theorem ext_grow {a w w':World} (h:Ext a w) {row:Option Nat} (hg:w.grownBy w' row) (hB: ∀ b,row=some b→a.heap.size≤b):Ext a w':=Below.grown h hg h.size (fun k hk=>hB k hk)
theorem zJf (tt:Array Value) (hsz0:tt.size=34) (v:Value) (nn ev:Int) (z:Int) (P:List (List Nat)) (hz:z≠0) (w:World)
 (WC: ∀ W,Ext w W→Calls Tryz.prog 122 #[.agg tt,v,.int .i64 nn,.int .i64 ev] W (WhIs z P W)):Calls Tryz.prog 63 #[.agg tt,v,.int .i64 nn,.int .i64 ev] w (zDR (z,[]) w):=by
 have HWC:=zA (fun W h=>(WC W h).mono (fun e W' (h:WhIs z P W e W')=>show e=.returned (.tuple #[.slice none 0 0,.int .i64 z])∧Ext W W' by obtain⟨hx,h⟩:=h;rw[if_neg hz] at h;exact⟨h,hx⟩))
 have hsz:=zA hsz0
 have hzb:(z !=0)=true:=by simpa using hz
 have HZ:=zA hz
 clear WC hsz0 hz
 go_enter Tryz.func63,Tryz.ntmps63
 go_wp2_with (first
  | ((with_reducible apply gS 4);refine wBox rfl 44 (.tmp 0) rfl tt rfl ?_;intro w1 g hb1 hx1 hg)
  | ((with_reducible apply gS 18);refine wLdB rfl 44 (.tmp 4) rfl g rfl hb1 _ Tryz.underlying44 rfl 34 qN hsz.out ?_)
  | (go_at_call 122;(with_reducible refine (HWC.out _ hx1).mono ?_);rintro e w2 ⟨rfl,hx2⟩))
 refine bodyPost_ret (results_tmp2 rfl _ _ _) rfl ?_
 refine⟨hx1.trans hx2, ?_⟩
 rw[if_neg HZ.out]
 rfl
attribute [local irreducible] zF bv zBb jD yQ yJ plZ uU
theorem zQi (T1 T2:List Tok) (tt:Array Value) (hsz0:tt.size=34) (v:Value) (n e:Nat) (hn:n≤400) (he:e≤100) (P:List (List Nat)) (hK:P.length=yJ n e) (hPM: ∀ p∈P,p.length≤1048576∧ ∀ b∈p,b<256) (w:World)
 (WC: ∀ W,Ext w W→Calls Tryz.prog 122 #[.agg tt,v,.int .i64 (n:Int),.int .i64 (e:Int)] W (WhIs 0 P W))
 (SD: ∀ W A' m c' bs' nn',Ext w W→SL W 1 (.slice A' m c') m (zF bs')→(A'=none→c'=0)→(∀ b∈bs',b<256)→m≤1048576→Calls Tryz.prog 110 #[.agg tt,.slice A' m c',.int .i64 nn'] W (zDR (uU true T1 T2 nn' (plZ bs')) W)) :
 Calls Tryz.prog 63 #[.agg tt,v,.int .i64 (n:Int),.int .i64 (e:Int)] w (zDR (zBb T1 T2 n e P (yJ n e) 0 []) w):=by
 have hsz:=zA hsz0
 have HSP:=zA (fun W=>zIy n e (by omega) (by omega) W)
 have hKl:=zEo (n:=n) (e:=e)
 have HAT:=zA (fun i (h:i<yJ n e)=>zHm h)
 obtain⟨R,hRR⟩: ∃ R,zBb T1 T2 n e P (yJ n e) 0 []=R:=⟨_,rfl⟩
 have HR0:Hid (zBb T1 T2 n e P (yJ n e-0) 0 []=R):=zA hRR
 rw[hRR]
 obtain⟨K,hKK⟩: ∃ K,yJ n e=K:=⟨_,rfl⟩
 rw[hKK] at HSP HR0 HAT hKl hK
 have HPK:=zA hK
 have HWC:=zA (fun W h=>(WC W h).mono (fun e W' (h:WhIs 0 P W e W')=>show ∃ A c VS,e=.returned (.tuple #[.slice A K c,.int .i64 0])∧SL W' 1 (.slice A K c) K VS∧Pieces W' VS P∧NZ VS∧Ext W W' by
  obtain⟨hx,h⟩:=h
  rw[if_pos rfl,hK] at h
  obtain⟨A,c,VS,h1,h2,h3,h4⟩:=h
  exact⟨A,c,VS,h1,h2,h3,h4,hx⟩))
 have HPM:=zA hPM
 have HSD:=zA SD
 clear hRR hKK hK WC hPM SD hsz0
 go_enter Tryz.func63,Tryz.ntmps63
 go_wp2_with (first
  | ((with_reducible apply gS 4);refine wBox rfl 44 (.tmp 0) rfl tt rfl ?_;intro w1 g hb1 hx1 hg)
  | ((with_reducible apply gS 18);refine wLdB rfl 44 (.tmp 4) rfl g rfl hb1 _ Tryz.underlying44 rfl 34 qN hsz.out ?_)
  | (go_at_call 122;(with_reducible refine (HWC.out _ hx1).mono ?_);rintro e2 w2 ⟨PA,pc,VS,rfl,k1,k2,k4,hx2⟩;have hx2':=hx1.trans hx2)
  | (go_at_call 99;(with_reducible refine (HSP.out _).mono ?_);rintro e3 w3 ⟨B3,d3,rfl,hsp,hx3⟩;have hx3':=hx2'.trans hx3))
 have hg3:=(hb1.ext hx2).ext hx3
 have how:OwnV w3 w3.heap.size 33 64 (.slice none 0 0) 0 (ints []):=OwnV.nil _ _ _ _
 have HSP3:=zA hsp
 have HG3:=zA hg3
 have HX3:=zA hx3'
 have HK1:=zA (k1.ext hx3)
 have HK2:=zA (k2.ext hx3)
 have HK4:=zA k4
 clear hb1 hx1 hg hx2 hx2' hx3 hx3' hsp hg3 k1 k2 k4
 go_loopw [12,32] (fun x iv wr=> ∃ (i m:Nat) (acc:List Int),i≤K∧iv=.int .i64 (i:Int)∧m≤i*400∧OwnV wr w3.heap.size 33 64 x m (ints acc)∧Hid (zBb T1 T2 n e P (K-i) i acc=R)∧Ext w3 wr) (fun _ i _=>K-(intOf i).toNat)
 case atStart=>exact⟨0,0,[],by omega,rfl,by omega,how,HR0,Ext.refl _⟩
 case round =>
  clear how HR0
  obtain⟨i,m,acc,hi,rfl,hm,⟨OA,oc,rfl,hown⟩,HR,hx⟩:=hrel
  by_cases hlt:i<K
  ·obtain⟨td,hB,htb,htc⟩:=(HSP3.out.ext hx).part hlt
   subst hB
   obtain⟨pd,u,hB,hpb,hpk,hpc⟩:=HK1.out.at1 hlt
   subst hB
   have hiP:i<P.length:=by rw[HPK.out];exact hlt
   obtain⟨SA,sc,hv,hsl⟩:=HK2.out.2 i hiP
   rw[hv] at hpk
   obtain rfl:=Option.some.inj hpk
   have hnz:=HK4.out _ (wK6 hv) _ _ _ rfl
   have hpm:=HPM.out P[i] (wE2 hiP)
   have hgd:P.getD i []=P[i]:=by rw[wF4,wA2 hiP];rfl
   obtain⟨lo,hlo⟩: ∃ q,i*yQ n e=q:=⟨_,rfl⟩
   obtain⟨hh,hhh⟩: ∃ q,min (lo+yQ n e) n=q:=⟨_,rfl⟩
   obtain⟨ln,hln⟩: ∃ q,qR n e i=q:=⟨_,rfl⟩
   have hln2:min (n-lo) (yQ n e)=ln:=by rw[←hln, ←hlo];rfl
   have e2:((ints (jD n e K)).drop (i*2)).take 2=ints [(lo:Int),(hh:Int)]:=by
    have h:=zFf n e K i hlt
    rw[hlo,hhh] at h
    rw[←h]
    simp[ints,wH2,wH1]
   rw[e2] at htc
   have hlon:lo≤n:=by rw[←hlo];exact HAT.out i hlt
   have hlh:lo≤hh:=by omega
   have hhn:hh≤n:=by omega
   have hd:hh-lo=ln:=by omega
   have HD:=zA hd
   have HTC:=zA htc
   have HBV:=zA (zIN [(lo:Int),(hh:Int)])
   have HS2:=zA (show (bv [(lo:Int),(hh:Int)]).size=2 by rw[zJ];rfl)
   have HS20:=zA (show (Value.agg (bv [0,0])).cells.size=2 by rw[show (Value.agg (bv [0,0])).cells=bv [0,0] from rfl,zJ];rfl)
   have HO2:=zA (xK [(lo:Int),(hh:Int)])
   have HSR:=zA (fun W (h:Ext w3 W)=>HSD.out W SA P[i].length sc P[i] (ln:Int) (HX3.out.trans h) (hsl.ext h) hnz hpm.2 hpm.1)
   have HPC:=zA (fun W (h:Ext w3 W)=>(h.cell (p:=pd.add i) (by rw[yK];exact hpb)).trans hpc)
   have HERa:Hid (∀ r,uU true T1 T2 (ln:Int) (plZ P[i])=r→r.1≠0→R=(r.1,[])):=zA (fun r h h0=>by rw[←HR.out,show K-i=(K-(i+1))+1 by omega];exact sdGo_err (by rw[hln,hgd];exact h) h0)
   have HOKa:Hid (∀ r,uU true T1 T2 (ln:Int) (plZ P[i])=r→r.1=0→zBb T1 T2 n e P (K-(i+1)) (i+1) (acc++r.2)=R):=zA (fun r h h0=>by rw[←HR.out,show K-i=(K-(i+1))+1 by omega];exact (sdGo_ok (by rw[hln,hgd];exact h) h0).symm)
   have hrl:(uU true T1 T2 (ln:Int) (plZ P[i])).1=0→(uU true T1 T2 (ln:Int) (plZ P[i])).2.length=ln*64:=zPV
   obtain⟨r,hr⟩: ∃ r,uU true T1 T2 (ln:Int) (plZ P[i])=r:=⟨_,rfl⟩
   rw[hr] at HSR hrl
   have HER:=zA (HERa.out r hr)
   have HOK:=zA (HOKa.out r hr)
   generalize bv [(lo:Int),(hh:Int)]=sp at *
   have HC0:Hid (sp[0]? =some (.int .i64 (lo:Int))∧sp[1]? =some (.int .i64 (hh:Int))):=zA (by rw[←HBV.out];exact⟨rfl,rfl⟩)
   obtain⟨pl,hpl⟩: ∃ q,P[i].length=q:=⟨_,rfl⟩
   rw[hpl] at HSR HPC
   obtain⟨r1,r2⟩:=r
   dsimp only at hrl HER HOK
   have HRA:Hid (∀ W e W',zDR (r1,r2) W e W'→ ∃ B k d,e=.returned (.tuple #[.slice B k d,.int .i64 r1])∧(r1=0→k=ln∧SL W' 64 (.slice B k d) k (ints r2))∧Ext W W'):=zA (fun W e W' h=>by
    obtain⟨hx,h⟩:=h
    by_cases h0:r1=0
    ·subst h0
     rw[if_pos rfl] at h
     obtain⟨B,k,d,rfl,h1,h2, -⟩:=h
     have h3:=hrl rfl
     exact⟨B,k,d,rfl,fun _=>⟨by dsimp only at h1;omega,h2⟩,hx⟩
    ·rw[if_neg h0] at h
     exact⟨none,0,0,h,fun h=>absurd h h0,hx⟩)
   have htd:td.block<wr.heap.size:=htb
   have hln4:ln≤400:=by omega
   clear htb htc e2 hr hd hln hln2 hhh hlo hlon HR hsl hv hpc hpb hpm hgd hrl hpl hnz
   go_wp2_with (first
    | ((with_reducible apply gS 36);refine yW (by rfl) 139 (.tmp 35) rfl (td.add (i*2)) rfl (ints [(lo:Int),(hh:Int)]) _ HTC.out Tryz.underlying139 rfl uE ?_;rw[HBV.out])
    | ((with_reducible apply gS 14);refine wAlo' rfl (some 14) rfl 139 rfl _ zCt ?_;intro w4 g16 hb4 hx4 hg4)
    | ((with_reducible apply gT 14 36);refine wStB rfl 139 (.tmp 14) (.tmp 36) rfl _ _ rfl rfl hb4 2 uE HS2.out HS20.out HO2.out ?_;intro w5 hb5 hg5;have hx5:Ext wr w5:=hx4.grown hg5 hg4))
   have hx8d:Ext w3 w5.drew:=(hx.trans hx5).drew
   have hb8d:=hb5.drew
   have ho8d:=yO hown (hx5.drew)
   clear hb4 hx4 hg4 hb5 hg5 hx5
   have HGX:=zA (fun W (h:Ext w5.drew W)=>((HG3.out.ext hx8d).ext h))
   have hI:Ext w5.drew w5.drew:=Ext.refl _
   by_cases h0:r1=0
   ·subst h0
    refine qT (Ext w5.drew) (by kernel_rfl) ?_
    refine xI (k:=0) (by kernel_rfl) rfl (by rfl) (.agg tt) (fun W hW=>zAW rfl rfl (HGX.out W hW) Tryz.underlying44 rfl qN hsz.out) hI ?_
    simp only[Act.put,sA,sB,sC]
    refine zI (k:=1) (by kernel_rfl) rfl (by rfl) (.slice (some pd) K pc) (zC rfl rfl) hI ?_
    simp only[Act.put,sA,sB,sC]
    refine zI (k:=2) (by kernel_rfl) rfl (by rfl) (.int .i64 (i:Int)) (zC rfl rfl) hI ?_
    simp only[Act.put,sA,sB,sC]
    refine zI (k:=3) (by kernel_rfl) rfl (by rfl) (.pointer (some (pd.add (i*1)))) (qS Tryz.underlying71 zHt rfl rfl rfl hlt) hI ?_
    simp only[Act.put,sA,sB,sC]
    refine xI (k:=4) (by kernel_rfl) rfl (by rfl) (.slice SA pl sc) (fun W hW=>zCx rfl rfl (by rw[wF1];exact HPC.out W (hx8d.trans hW))) hI ?_
    simp only[Act.put,sA,sB,sC]
    refine zI (k:=5) (by kernel_rfl) rfl (by rfl) (.pointer (some ⟨g16,1,none⟩)) (fun w=>by go_simp) hI ?_
    simp only[Act.put,sA,sB,sC]
    refine xI (k:=6) (by kernel_rfl) rfl (by rfl) (.int .i64 (hh:Int)) (fun W hW=>zQ rfl rfl (((hb8d.ext hW).cell 1).trans HC0.out.2)) hI ?_
    simp only[Act.put,sA,sB,sC]
    refine zI (k:=7) (by kernel_rfl) rfl (by rfl) (.pointer (some ⟨g16,0,none⟩)) (fun w=>by go_simp) hI ?_
    simp only[Act.put,sA,sB,sC]
    refine xI (k:=8) (by kernel_rfl) rfl (by rfl) (.int .i64 (lo:Int)) (fun W hW=>zQ rfl rfl (((hb8d.ext hW).cell 0).trans HC0.out.1)) hI ?_
    simp only[Act.put,sA,sB,sC]
    refine zI (k:=9) (by kernel_rfl) rfl (by rfl) (.int .i64 (ln:Int)) (by rw[←HD.out];exact xG (i:=hh) (d:=lo) rfl rfl rfl (by omega) hlh) hI ?_
    simp only[Act.put,sA,sB,sC]
    refine qJ (k:=10) (by kernel_rfl) rfl ?_
    refine xM (by rfl) (xN _ _ _ rfl rfl zMC #[.agg tt,.slice SA pl sc,.int .i64 (ln:Int)] (by simp[Act.eval])) ?_
    refine (HSR.out _ hx8d).mono ?_
    intro e9 w9 h9
    obtain⟨B9,k9,d9,rfl,hr9,hx9⟩:=HRA.out _ _ _ h9
    refine⟨_,rfl,zU ⟨hx9, ?_⟩⟩
    simp only[Act.put,sA,sB,sC]
    refine zI (k:=11) (by kernel_rfl) rfl (by rfl) (.tuple #[.slice B9 k9 d9,.int .i64 0]) (zC rfl rfl) hx9 ?_
    simp only[Act.put,sA,sB,sC]
    refine zI (k:=12) (by kernel_rfl) rfl (by rfl) (.slice B9 k9 d9) (yZ rfl rfl rfl) hx9 ?_
    simp only[Act.put,sA,sB,sC]
    refine zI (k:=13) (by kernel_rfl) rfl (by rfl) (.int .i64 0) (yZ rfl rfl rfl) hx9 ?_
    simp only[Act.put,sA,sB,sC]
    refine zI (k:=14) (by kernel_rfl) rfl (by rfl) (.slice B9 k9 d9) (zS rfl rfl) hx9 ?_
    simp only[Act.put,sA,sB,sC]
    refine zI (k:=15) (by kernel_rfl) rfl (by rfl) (.int .i64 0) (zS rfl rfl) hx9 ?_
    simp only[Act.put,sA,sB,sC]
    refine uV (by kernel_rfl) ?_
    obtain⟨hk9,hs9⟩:=hr9 (by first | rfl | trivial)
    subst hk9
    have ho9:=yO ho8d hx9
    have hx19:=hx8d.trans hx9
    go_wp2_with (first
     | ((with_reducible apply gS 56);at_builtin;refine wApf zMT rfl (.tmp 54) (.tmp 55) rfl w3.heap.size (.slice OA m oc) m (ints acc) rfl ho9 _ k9 (ints r2) rfl hs9 (jC _) (by omega) (by omega) hx19.size ?_;intro A10 c10 w10 ho10 hgr10 hor10;have hx10:=ext_grow hx19 hgr10 (fun b hb=>(ho9.lt b hb).1)))
    go_roundw
    case rel=>exact⟨i+1,m+k9,acc++r2,by omega,by go_num,by omega,⟨A10,c10,rfl,by rw[zAF];exact ho10⟩,HOK.out (by first | rfl | trivial),hx10⟩
    case measure=>simp[intOf];omega
   ·have h0b:(r1 !=0)=true:=by simpa using h0
    have H0N:=zA h0
    clear h0
    refine qT (Ext w5.drew) (by kernel_rfl) ?_
    refine xI (k:=0) (by kernel_rfl) rfl (by rfl) (.agg tt) (fun W hW=>zAW rfl rfl (HGX.out W hW) Tryz.underlying44 rfl qN hsz.out) hI ?_
    simp only[Act.put,sA,sB,sC]
    refine zI (k:=1) (by kernel_rfl) rfl (by rfl) (.slice (some pd) K pc) (zC rfl rfl) hI ?_
    simp only[Act.put,sA,sB,sC]
    refine zI (k:=2) (by kernel_rfl) rfl (by rfl) (.int .i64 (i:Int)) (zC rfl rfl) hI ?_
    simp only[Act.put,sA,sB,sC]
    refine zI (k:=3) (by kernel_rfl) rfl (by rfl) (.pointer (some (pd.add (i*1)))) (qS Tryz.underlying71 zHt rfl rfl rfl hlt) hI ?_
    simp only[Act.put,sA,sB,sC]
    refine xI (k:=4) (by kernel_rfl) rfl (by rfl) (.slice SA pl sc) (fun W hW=>zCx rfl rfl (by rw[wF1];exact HPC.out W (hx8d.trans hW))) hI ?_
    simp only[Act.put,sA,sB,sC]
    refine zI (k:=5) (by kernel_rfl) rfl (by rfl) (.pointer (some ⟨g16,1,none⟩)) (fun w=>by go_simp) hI ?_
    simp only[Act.put,sA,sB,sC]
    refine xI (k:=6) (by kernel_rfl) rfl (by rfl) (.int .i64 (hh:Int)) (fun W hW=>zQ rfl rfl (((hb8d.ext hW).cell 1).trans HC0.out.2)) hI ?_
    simp only[Act.put,sA,sB,sC]
    refine zI (k:=7) (by kernel_rfl) rfl (by rfl) (.pointer (some ⟨g16,0,none⟩)) (fun w=>by go_simp) hI ?_
    simp only[Act.put,sA,sB,sC]
    refine xI (k:=8) (by kernel_rfl) rfl (by rfl) (.int .i64 (lo:Int)) (fun W hW=>zQ rfl rfl (((hb8d.ext hW).cell 0).trans HC0.out.1)) hI ?_
    simp only[Act.put,sA,sB,sC]
    refine zI (k:=9) (by kernel_rfl) rfl (by rfl) (.int .i64 (ln:Int)) (by rw[←HD.out];exact xG (i:=hh) (d:=lo) rfl rfl rfl (by omega) hlh) hI ?_
    simp only[Act.put,sA,sB,sC]
    refine qJ (k:=10) (by kernel_rfl) rfl ?_
    refine xM (by rfl) (xN _ _ _ rfl rfl zMC #[.agg tt,.slice SA pl sc,.int .i64 (ln:Int)] (by simp[Act.eval])) ?_
    refine (HSR.out _ hx8d).mono ?_
    intro e9 w9 h9
    obtain⟨B9,k9,d9,rfl,hr9,hx9⟩:=HRA.out _ _ _ h9
    refine⟨_,rfl,zU ⟨hx9, ?_⟩⟩
    simp only[Act.put,sA,sB,sC]
    refine zI (k:=11) (by kernel_rfl) rfl (by rfl) (.tuple #[.slice B9 k9 d9,.int .i64 r1]) (zC rfl rfl) hx9 ?_
    simp only[Act.put,sA,sB,sC]
    refine zI (k:=12) (by kernel_rfl) rfl (by rfl) (.slice B9 k9 d9) (yZ rfl rfl rfl) hx9 ?_
    simp only[Act.put,sA,sB,sC]
    refine zI (k:=13) (by kernel_rfl) rfl (by rfl) (.int .i64 r1) (yZ rfl rfl rfl) hx9 ?_
    simp only[Act.put,sA,sB,sC]
    refine zI (k:=14) (by kernel_rfl) rfl (by rfl) (.slice B9 k9 d9) (zS rfl rfl) hx9 ?_
    simp only[Act.put,sA,sB,sC]
    refine zI (k:=15) (by kernel_rfl) rfl (by rfl) (.int .i64 r1) (zS rfl rfl) hx9 ?_
    simp only[Act.put,sA,sB,sC]
    refine uV (by kernel_rfl) ?_
    go_wp2_with fail
    refine bodyPost_ret (results_tmp2 rfl _ _ _) rfl ?_
    rw[HER.out H0N.out]
    refine⟨HX3.out.trans (hx8d.trans hx9), ?_⟩
    rw[if_neg H0N.out]
    rfl
  ·have hiK:K-i=0:=by omega
   have HR2:Hid (R=(0,acc)):=zA (by rw[←HR.out,hiK,zBb])
   have hnn:=zIc hown
   have hal:acc.length=m*64:=by have:=hown.1;simpa [ints] using this
   clear HR
   go_wp2_with fail
   refine bodyPost_ret (results_tmp2 rfl _ _ _) rfl ?_
   rw[HR2.out]
   refine⟨HX3.out.trans hx, ?_⟩
   rw[if_pos rfl]
   exact⟨OA,m,oc,rfl,hal,(jK hown).1,hnn⟩
end
theorem ex_lenB {o:Oper} {a:Act} {x:Operand} (ho:o.op=.call { callee:=.builtin .len,args:= #[x],argTypes:= #[25] }) {A:Option Addr} {n c:Nat} (hx:a.eval x=.slice A n c) (w:World):(execOp a.eval o).run Tryz.prog w=.ok (.value (.int .i64 (n:Int))) w:=by
 simp[execOp,ho,resolve,invoke,builtin,hx,Result.andThen,Builtin.len_,goInt]
theorem zQS: ∀ (C:List (Nat×Nat)) (xs:List Int),(∀ x∈xs,0≤x∧x≤255)→ ∀ t∈zK C xs,0≤t.1∧t.1≤255
 | [],_,_,t,ht=>by simp[zK] at ht
 | _::_,[],_,t,ht=>by simp[zK] at ht
 | c::C,x::xs,h,t,ht=>by
   simp only[zK,wN3,wK0] at ht
   rcases ht with rfl | ht
   ·exact h x (by simp)
   ·exact zQS C xs (fun y hy=>h y (by simp[hy])) t ht
theorem tbl_rng {cs xs:List Int} (h:zV cs xs=0): ∀ t∈zK (zD cs 16) xs,0≤t.1∧t.1≤255 :=
 zQS _ _ (fun x hx=>by
  obtain⟨-, -, -, -,h5, -⟩:=zBL h
  exact vX.1 (wB5.1 h5 x hx))
def zDm (wd y x:Nat):Nat:=(y/8*((wd+7)/8)+x/8)*64+(y%8*8+x%8)
def zKv (Z:List Int) (wd y x:Nat):Int:=jI (Z.getD (zDm wd y x) 0+128) 0 255
def zGe (Z:List Int) (wd hi:Nat):List Int:=(List.range (wd*hi)).map fun p=>zKv Z wd (p/wd) (p%wd)
theorem zIJ (Z:List Int) (wd hi:Nat):(zGe Z wd hi).length=wd*hi:=by simp[zGe]
def uM (Z:List Int) (wd hi m:Nat):List Int:=(List.range (wd*hi)).map fun p=>if zDm wd (p/wd) (p%wd)<m then zKv Z wd (p/wd) (p%wd) else 0
theorem zFr (Z:List Int) (wd hi m:Nat):(uM Z wd hi m).length=wd*hi:=by simp[uM]
theorem zQD (Z:List Int) (wd hi:Nat):uM Z wd hi 0=List.replicate (wd*hi) 0:=by
 unfold uM
 apply wH9
 ·simp
 ·intro i h1 h2;simp
theorem jidx_at (wd k j:Nat) (hj:j<64):zDm wd (k/((wd+7)/8)*8+j/8) (k%((wd+7)/8)*8+j%8)=k*64+j:=by
 unfold zDm
 generalize (wd+7)/8=c
 have h1:(k/c*8+j/8)/8=k/c:=by omega
 have h2:(k/c*8+j/8)%8=j/8:=by omega
 have h3:(k%c*8+j%8)/8=k%c:=by omega
 have h4:(k%c*8+j%8)%8=j%8:=by omega
 rw[h1,h2,h3,h4,wJ2 (k/c) c,wT0]
 omega
theorem zPb (wd y x k j:Nat) (hx:x<wd) (hj:j<64) (h:zDm wd y x=k*64+j):k/((wd+7)/8)*8+j/8=y∧k%((wd+7)/8)*8+j%8=x:=by
 unfold zDm at h
 have hc:x/8<(wd+7)/8:=by omega
 generalize (wd+7)/8=c at *
 have h1:y/8*c+x/8=k:=by omega
 have h2:y%8*8+x%8=j:=by omega
 have h3:k/c=y/8:=by rw[←h1,wB0,Nat.add_mul_div_right _ _ (by omega),wM4 hc,wB2]
 have h4:k%c=x/8:=by rw[←h1,wB0,wT1,wM0 hc]
 rw[h3,h4]
 omega
theorem zRe (Z:List Int) (wd hi k j:Nat) (hj:j<64) (hr:k/((wd+7)/8)*8+j/8<hi) (hq:k%((wd+7)/8)*8+j%8<wd) :
 (uM Z wd hi (k*64+j)).set ((k/((wd+7)/8)*8+j/8)*wd+(k%((wd+7)/8)*8+j%8)) (jI (Z.getD (k*64+j) 0+128) 0 255)=uM Z wd hi (k*64+(j+1)):=by
 have hi1:=jidx_at wd k j hj
 have hinv:=fun y x hx h=>zPb wd y x k j hx hj h
 generalize k/((wd+7)/8)*8+j/8=r at *
 generalize k%((wd+7)/8)*8+j%8=q at *
 apply wH9
 ·simp[zFr]
 ·intro p h1 h2
  have hp:p<wd*hi:=by simpa [zFr] using h2
  have hw:0<wd:=by omega
  rw[wI0]
  by_cases e:r*wd+q=p
  ·rw[if_pos e]
   have e1:p/wd=r:=by rw[←e,wB0,Nat.add_mul_div_right _ _ hw,wM4 hq,wB2]
   have e2:p%wd=q:=by rw[←e,wB0,wT1,wM0 hq]
   simp only[uM,wI1,wI2,e1,e2,zKv,hi1]
   rw[if_pos (by omega)]
  ·rw[if_neg e]
   simp only[uM,wI1,wI2]
   have hne:zDm wd (p/wd) (p%wd)≠k*64+j:=by
    intro h
    obtain⟨a,b⟩:=hinv _ _ (wF6 _ hw) h
    apply e
    rw[a,b,wJ2,wT0]
   by_cases hlt:zDm wd (p/wd) (p%wd)<k*64+j
   ·rw[if_pos hlt,if_pos (by omega)]
   ·rw[if_neg hlt,if_neg (by omega)]
theorem zPK (Z:List Int) (wd hi k j:Nat) (hj:j<64) (h: ¬(k/((wd+7)/8)*8+j/8<hi∧k%((wd+7)/8)*8+j%8<wd)):uM Z wd hi (k*64+j)=uM Z wd hi (k*64+(j+1)):=by
 have hinv:=fun y x hx h=>zPb wd y x k j hx hj h
 unfold uM
 apply wI3
 intro p hp
 have hp':p<wd*hi:=wB7.1 hp
 rcases wC5 wd with h0 | hw
 ·subst h0;omega
 have hy:p/wd<hi:=wT2 hp'
 have hne:zDm wd (p/wd) (p%wd)≠k*64+j:=by
  intro h9
  obtain⟨a,b⟩:=hinv _ _ (wF6 _ hw) h9
  apply h
  rw[a,b]
  exact⟨hy,wF6 _ hw⟩
 by_cases hlt:zDm wd (p/wd) (p%wd)<k*64+j
 ·rw[if_pos hlt,if_pos (by omega)]
 ·rw[if_neg hlt,if_neg (by omega)]
theorem jidx_lt (wd hi y x:Nat) (hx:x<wd) (hy:y<hi):zDm wd y x<yH wd hi*64:=by
 unfold zDm yH
 have h1:x/8<(wd+7)/8:=by omega
 have h2:y/8<(hi+7)/8:=by omega
 generalize (wd+7)/8=c at *
 generalize (hi+7)/8=d at *
 have h3:(y/8+1)*c≤d*c:=wJ0 _ h2
 rw[wJ8,wJ2 d c] at h3
 have h4:y/8*c+x/8+1≤c*d:=by omega
 have h5:=wJ0 64 h4
 omega
theorem zQz (Z:List Int) (wd hi:Nat):uM Z wd hi (yH wd hi*64)=zGe Z wd hi:=by
 unfold uM zGe
 apply wI3
 intro p hp
 have hp':p<wd*hi:=wB7.1 hp
 rcases wC5 wd with h0 | hw
 ·subst h0;omega
 rw[if_pos (jidx_lt wd hi _ _ (wF6 _ hw) (wT2 hp'))]
def zDU (n:Nat) (Z:List Int) (wd hi:Int) (s:Int):Int:=if s=0 then (if n=yH wd.toNat hi.toNat then (if zM Z (-40000) 40000 then 0 else 1) else 4) else 1
theorem join1_any (z:Int) (w:World):Calls Tryz.prog 168 (#[.int .i64 z]++ #[]) w fun e w'=>e=.returned (.bool (!inB z (-40000) 40000))∧w=w':=by
 by_cases h:z< -40000
 ·have h':decide (z< -40000)=true:=by simpa using h
  have e:inB z (-40000) 40000=false:=zCI.2 (by omega)
  rw[e];clear e
  go_enter Tryz.func168,Tryz.ntmps168
  go_wp2_with fail
  go_ret
  exact⟨rfl,rfl⟩
 ·have h':decide (z< -40000)=false:=by simpa using h
  have e:(!inB z (-40000) 40000)=decide (40000<z):=by rw[wE3];simp[inB];omega
  rw[e];clear e
  go_enter Tryz.func168,Tryz.ntmps168
  go_wp2_with fail
  go_ret
  exact⟨rfl,rfl⟩
theorem zQI:vZ Tryz.prog 168:=zAQ Tryz.func168 (by kernel_rfl) rfl
theorem zGw {w:World} {A:Option Addr} {n c k:Nat} {Z:List Int} (hv:SL w 64 (.slice A n c) n (ints Z)) (hz:Z.length=n*64) (hk:k<n) :
 ∃ ad zs,A=some ad∧ad.block<w.heap.size∧zAS w (ad.add (k*64)) (ints zs)∧zs=(Z.drop (k*64)).take 64∧zs.length=64:=by
 obtain⟨ad,rfl,hab,hca⟩:=hv.part hk
 have e:((ints Z).drop (k*64)).take 64=ints ((Z.drop (k*64)).take 64):=by simp[ints,wH2,wH1]
 exact⟨ad,_,rfl,hab,by rw[←e];exact hca,rfl,by rw[wI8,wK1,hz];omega⟩
theorem zHB {zs:List Int} (h:zs.length=64):(ints zs).toArray.size=64:=by simp[yA,h]
theorem zEq:(Value.agg (bv yG)).cells.size=64:=by rw[show (Value.agg (bv yG)).cells=bv yG from rfl,zJ];rfl
def zGB (n:Nat) (Z:List Int) (wd hi:Int) (w:World) (e:Ending) (w':World):Prop :=
 ∃ A m c,e=.returned (.tuple #[.slice A m c,.int .i64 (zDU n Z wd hi (xP wd hi))])∧m=(if zDU n Z wd hi (xP wd hi)=0 then wd.toNat*hi.toNat else 0)∧SL w' 1 (.slice A m c) m (ints (if zDU n Z wd hi (xP wd hi)=0 then zGe Z wd.toNat hi.toNat else []))∧Ext w w'∧ ∀ ad,A=some ad→w.heap.size≤ad.block
theorem zKM {n:Nat} {Z:List Int} {wd hi:Int} {w w':World} {e:Ending} {k:Int} (hk:zDU n Z wd hi (xP wd hi)=k) (h0:k≠0) (he:e=.returned (.tuple #[.slice none 0 0,.int .i64 k])) (hx:Ext w w'):zGB n Z wd hi w e w':=by
 unfold zGB
 rw[hk]
 refine⟨none,0,0,he,by rw[if_neg h0], ?_,hx,fun _ e=>by cases e⟩
 rw[if_neg h0]
 exact SL.nil _ _
theorem zTI (n:Nat) (Z:List Int) (v:Value) (wd hi:Int) (w:World) (hv:SL w 64 v n (ints Z)) (hz:Z.length=n*64) (h:xP wd hi≠0) :
 Calls Tryz.prog 114 #[v,.int .i64 wd,.int .i64 hi] w fun e w'=>e=.returned (.tuple #[.slice none 0 0,.int .i64 1])∧Ext w w':=by
 have HK:=zA (fun W=>uX wd hi W)
 rw[zGu h] at HK
 clear h
 have hbv: #[Value.int .i64 wd,Value.int .i64 hi]=qU wd hi:=rfl
 have hts:=zA (uO wd hi)
 have ho:=zA (zBD wd hi)
 have HZ0:=zA qY
 generalize qU wd hi=av at *
 have HZ:=zA hz
 clear hz
 have hv':=hv
 obtain⟨A,c,rfl,hc1,hc2, -, -⟩:=hv'
 go_enter Tryz.func114,Tryz.ntmps114
 go_wp2_with (first
               | (refine wAlo' rfl (some 8) rfl 128 rfl _ zBr ?_;intro w1 g hb1 hx1 hg)
               | (refine wStB rfl 128 (.tmp 8) (.tmp 21) rfl _ _ rfl rfl hb1 2 xQ hts.out rfl ho.out ?_;intro w2 hb2 hg2;have hx2:=hx1.grown hg2 (by omega))
               | (refine wLdB rfl 128 (.tmp 8) rfl _ rfl hb2 _ Tryz.underlying128 rfl 2 xQ hts.out ?_)
               | (go_at_call 87;(with_reducible refine (HK.out _).mono ?_);rintro e w3 ⟨rfl,hx3⟩;have hx23:=hx2.trans hx3;have hb3:=hb2.ext hx3))
 go_loopw [9,35] (fun s i wr=> ∃ k:Nat,k≤n∧i=.int .i64 (k:Int)∧s=.int .i64 1∧Ext w wr) (fun _ i _=>n-(intOf i).toNat)
 case atStart=>exact⟨0,by omega,rfl,rfl,hx23⟩
 case round =>
  obtain⟨k,hk,rfl,rfl,hx⟩:=hrel
  by_cases hlt:k<n
  ·obtain⟨ad,zs,rfl,hab,hca, -,hl⟩:=zGw (hv.ext hx) HZ.out hlt
   have HCA:=zA hca
   have HL:=zA hl
   clear hca hl
   go_wp2_with (first
    | (refine yW (by rfl) 33 (.tmp 37) rfl (ad.add (k*64)) rfl (ints zs) _ HCA.out Tryz.underlying33 rfl (by rw[yA,HL.out];exact zG) ?_)
    | (refine wAlo' rfl (some 11) rfl 33 rfl _ HZ0.out ?_;intro w7 g7 hb7 hx7 hg7)
    | (refine wStB rfl 33 (.tmp 11) (.tmp 38) rfl _ _ rfl rfl hb7 64 zG (zHB HL.out) zEq (xK zs) ?_;intro w8 hb8 hg8;have hx8:=hx7.grown hg8 (by omega)))
   go_roundw
   case rel=>exact⟨k+1,by omega,by go_num,rfl,hx.trans hx8⟩
   case measure=>simp[intOf];omega
  ·go_wp2_with fail
   go_ret2
   exact⟨rfl,hx⟩
theorem join_many (n:Nat) (Z:List Int) (v:Value) (wd hi:Nat) (w:World) (hv:SL w 64 v n (ints Z)) (hz:Z.length=n*64) (h0:xP wd hi=0) (a1:1≤wd) (a2:wd≤64) (b1:1≤hi) (b2:hi≤64) (h:n≠yH wd hi) :
 Calls Tryz.prog 114 #[v,.int .i64 wd,.int .i64 hi] w fun e w'=>e=.returned (.tuple #[.slice none 0 0,.int .i64 4])∧Ext w w':=by
 have HK:=zA (fun W=>uX wd hi W)
 rw[h0] at HK
 clear h0
 have HM:=zA (fun W=>zHK wd hi W a1 a2 b1 b2)
 have hcn:(wd+7)/8*((hi+7)/8)=yH wd hi:=rfl
 rw[hcn] at HM
 clear hcn
 generalize yH wd hi=N at *
 have hne:((n:Int) !=(N:Int))=true:=by simp;omega
 have hneq:(n ==N)=false:=by simpa using h
 clear h
 have hbv: #[Value.int .i64 wd,Value.int .i64 hi]=qU wd hi:=rfl
 have hts:=zA (uO wd hi)
 have ho:=zA (zBD wd hi)
 have HZ0:=zA qY
 generalize qU wd hi=av at *
 have HZ:=zA hz
 clear hz
 have hv':=hv
 obtain⟨A,c,rfl,hc1,hc2, -, -⟩:=hv'
 go_enter Tryz.func114,Tryz.ntmps114
 go_wp2_with (first
               | (refine wAlo' rfl (some 8) rfl 128 rfl _ zBr ?_;intro w1 g hb1 hx1 hg)
               | (refine wStB rfl 128 (.tmp 8) (.tmp 21) rfl _ _ rfl rfl hb1 2 xQ hts.out rfl ho.out ?_;intro w2 hb2 hg2;have hx2:=hx1.grown hg2 (by omega))
               | (refine wLdB rfl 128 (.tmp 8) rfl _ rfl hb2 _ Tryz.underlying128 rfl 2 xQ hts.out ?_)
               | (go_at_call 87;(with_reducible refine (HK.out _).mono ?_);rintro e w3 ⟨rfl,hx3⟩;have hx23:=hx2.trans hx3;have hb3:=hb2.ext hx3)
               | (refine zES (by rfl) 128 (.tmp 8) rfl _ rfl hb3 _ Tryz.underlying128 rfl 2 xQ hts.out ?_)
               | (go_at_call 90;(with_reducible refine (HM.out _).mono ?_);rintro e w5 ⟨rfl,hx5⟩;have hb5:=hb3.ext hx5;have hx35:=hx23.trans hx5))
 go_loopw [9,35] (fun s i wr=> ∃ k:Nat,k≤n∧i=.int .i64 (k:Int)∧s=.int .i64 4∧Ext w wr) (fun _ i _=>n-(intOf i).toNat)
 case atStart=>exact⟨0,by omega,rfl,rfl,hx35⟩
 case round =>
  obtain⟨k,hk,rfl,rfl,hx⟩:=hrel
  by_cases hlt:k<n
  ·obtain⟨ad,zs,rfl,hab,hca, -,hl⟩:=zGw (hv.ext hx) HZ.out hlt
   have HCA:=zA hca
   have HL:=zA hl
   clear hca hl
   go_wp2_with (first
    | (refine yW (by rfl) 33 (.tmp 37) rfl (ad.add (k*64)) rfl (ints zs) _ HCA.out Tryz.underlying33 rfl (by rw[yA,HL.out];exact zG) ?_)
    | (refine wAlo' rfl (some 11) rfl 33 rfl _ HZ0.out ?_;intro w7 g7 hb7 hx7 hg7)
    | (refine wStB rfl 33 (.tmp 11) (.tmp 38) rfl _ _ rfl rfl hb7 64 zG (zHB HL.out) zEq (xK zs) ?_;intro w8 hb8 hg8;have hx8:=hx7.grown hg8 (by omega)))
   go_roundw
   case rel=>exact⟨k+1,by omega,by go_num,rfl,hx.trans hx8⟩
   case measure=>simp[intOf];omega
  ·go_wp2_with fail
   go_ret2
   exact⟨rfl,hx⟩
theorem allIn_app (xs ys:List Int) (lo hi:Int):zM (xs++ys) lo hi=(zM xs lo hi&&zM ys lo hi):=by simp[zM]
theorem take_next (Z:List Int) (k:Nat):Z.take ((k+1)*64)=Z.take (k*64)++(Z.drop (k*64)).take 64:=by
 rw[show (k+1)*64=k*64+64 by omega,List.take_add]
theorem zQC {w:World} {g:Nat} {t:TypeId} {zs:List Int} (h:Blk w g t (ints zs).toArray) (hl:zs.length=64):SL w 1 (.slice (some ⟨g,0,none⟩) 64 64) zs.length (ints zs):=by
 have:=Blk.bsl (zs:=zs) (c:=64) h (by omega) (by omega)
 rwa [hl] at this ⊢
theorem clampI (z:Int):min (max z 0) 255=jI z 0 255:=min_max z 0 255 (by decide)
theorem join_in (n:Nat) (Z:List Int) (v:Value) (wd hi:Nat) (w:World) (hv:SL w 64 v n (ints Z)) (hz:Z.length=n*64) (h0:xP wd hi=0) (a1:1≤wd) (a2:wd≤64) (b1:1≤hi) (b2:hi≤64) (h:n=yH wd hi) :
 Calls Tryz.prog 114 #[v,.int .i64 wd,.int .i64 hi] w (zGB n Z wd hi w):=by
 have HK:=zA (fun W=>uX wd hi W)
 have HE:Hid (zDU n Z wd hi (xP wd hi)=if zM Z (-40000) 40000 then 0 else 1):=zA (by unfold zDU;rw[h0,if_pos rfl];simp only[wF0];rw[if_pos h])
 rw[h0] at HK
 clear h0
 have HM:=zA (fun W=>zHK wd hi W a1 a2 b1 b2)
 have HP:Hid (∀ k j,k<64→j<64→ ∃ r q:Nat,Hid (r=k/((wd+7)/8)*8+j/8∧q=k%((wd+7)/8)*8+j%8)∧ ∀ W,Calls Tryz.prog 91 #[.agg (qU wd hi),.int .i64 (k:Int),.int .i64 (j:Int)] W fun e w' =>
  e=.returned (.tuple #[.int .i64 ((r:Nat):Int),.int .i64 ((q:Nat):Int)])∧Ext W w'):=zA fun k j hk hj=>⟨_,_,zA ⟨rfl,rfl⟩,fun W=>zNl wd hi k j W a1 a2 hk hj⟩
 have hcn:(wd+7)/8*((hi+7)/8)=yH wd hi:=rfl
 rw[hcn, ←h] at HM
 clear hcn
 have hn64:n≤64:=by rw[h];have:(wd+7)/8*((hi+7)/8)≤8*8:=wI6 (by omega) (by omega);exact this
 have HN:=zA h
 clear h
 have HCF:=zA (fun W u zs (hl:zs.length=64) (hs:SL W 1 u zs.length (ints zs))=>jN 168 #[] (fun z=> !inB z (-40000) 40000) zQI u zs W hs (fun z _=>join1_any z W))
 simp only[zDJ] at HCF
 have hm:wd*hi≤64*64:=wI6 a2 b2
 obtain⟨n0,hn0⟩: ∃ n0,wd*hi=n0:=⟨_,rfl⟩
 have HN0:=zA hn0
 rw[hn0] at hm
 clear hn0
 have hbv: #[Value.int .i64 wd,Value.int .i64 hi]=qU wd hi:=rfl
 have hts:=zA (uO wd hi)
 have ho:=zA (zBD wd hi)
 have HZ0:=zA qY
 generalize qU wd hi=av at *
 have HZ:=zA hz
 clear hz
 have hv':=hv
 obtain⟨A,c,rfl,hc1,hc2, -, -⟩:=hv'
 go_enter Tryz.func114,Tryz.ntmps114
 go_wp2_with (first
               | (refine wAlo' rfl (some 8) rfl 128 rfl _ zBr ?_;intro w1 g hb1 hx1 hg)
               | (refine wStB rfl 128 (.tmp 8) (.tmp 21) rfl _ _ rfl rfl hb1 2 xQ hts.out rfl ho.out ?_;intro w2 hb2 hg2;have hx2:=hx1.grown hg2 (by omega))
               | (refine wLdB rfl 128 (.tmp 8) rfl _ rfl hb2 _ Tryz.underlying128 rfl 2 xQ hts.out ?_)
               | (go_at_call 87;(with_reducible refine (HK.out _).mono ?_);rintro e w3 ⟨rfl,hx3⟩;have hx23:=hx2.trans hx3;have hb3:=hb2.ext hx3)
               | (refine zES (by rfl) 128 (.tmp 8) rfl _ rfl hb3 _ Tryz.underlying128 rfl 2 xQ hts.out ?_)
               | (go_at_call 90;(with_reducible refine (HM.out _).mono ?_);rintro e w5 ⟨rfl,hx5⟩;have hb5:=hb3.ext hx5;have hx35:=hx23.trans hx5))
 clear hb1 hb2 hb3 hx1 hx2 hx3 hx5 hx23 hg2 HK HM
 go_loopw [9,35] (fun s i wr=> ∃ (k:Nat) (b:Bool),k≤n∧i=.int .i64 (k:Int)∧s=.int .i64 (if b then 0 else 1)∧Hid (b=zM (Z.take (k*64)) (-40000) 40000)∧Blk wr g 128 av∧Ext w wr) (fun _ i _=>n-(intOf i).toNat)
 case atStart=>exact⟨0,true,by omega,rfl,rfl,zA (by simp[zM]),hb5,hx35⟩
 case round =>
  clear hb5 hx35
  obtain⟨k,b,hk,rfl,rfl,HB,hba,hx⟩:=hrel
  by_cases hlt:k<n
  ·obtain⟨ad,zs,rfl,hab,hca,hzs,hl⟩:=zGw (hv.ext hx) HZ.out hlt
   have HNX:Hid (zM (Z.take ((k+1)*64)) (-40000) 40000=(b&&zM zs (-40000) 40000)):=zA (by
    rw[HB.out,hzs, ←allIn_app, ←take_next])
   have HCA:=zA hca
   have HL:=zA hl
   clear hca hl hzs
   have HCF2:=zA (fun W u=>HCF.out W u zs HL.out)
   generalize hq:zM zs (-40000) 40000=q at *
   clear hq
   cases b with
   | false =>
     go_wp2_with (first
      | (refine yW (by rfl) 33 (.tmp 37) rfl (ad.add (k*64)) rfl (ints zs) _ HCA.out Tryz.underlying33 rfl (by rw[yA,HL.out];exact zG) ?_)
      | (refine wAlo' rfl (some 11) rfl 33 rfl _ HZ0.out ?_;intro w7 g7 hb7 hx7 hg7)
      | (refine wStB rfl 33 (.tmp 11) (.tmp 38) rfl _ _ rfl rfl hb7 64 zG (zHB HL.out) zEq (xK zs) ?_;intro w8 hb8 hg8;have hx8:=hx7.grown hg8 (by omega)))
     go_roundw
     case rel=>exact⟨k+1,false,by omega,by go_num,rfl,zA (by rw[HNX.out];rfl),(hba.ext hx8),hx.trans hx8⟩
     case measure=>simp[intOf];omega
   | true =>
     cases q with
     | true =>
       go_wp2_with (first
        | (refine yW (by rfl) 33 (.tmp 37) rfl (ad.add (k*64)) rfl (ints zs) _ HCA.out Tryz.underlying33 rfl (by rw[yA,HL.out];exact zG) ?_)
        | (refine wAlo' rfl (some 11) rfl 33 rfl _ HZ0.out ?_;intro w7 g7 hb7 hx7 hg7)
        | (refine wStB rfl 33 (.tmp 11) (.tmp 38) rfl _ _ rfl rfl hb7 64 zG (zHB HL.out) zEq (xK zs) ?_;intro w8 hb8 hg8;have hx8:=hx7.grown hg8 (by omega))
        | (go_at_call 88;(with_reducible refine (HCF2.out _ _ (zQC hb8 HL.out)).mono ?_);rintro e w9 ⟨rfl,rfl⟩))
       go_roundw
       case rel=>exact⟨k+1,true,by omega,by go_num,rfl,zA (by rw[HNX.out];rfl),(hba.ext hx8),hx.trans hx8⟩
       case measure=>simp[intOf];omega
     | false =>
       go_wp2_with (first
        | (refine yW (by rfl) 33 (.tmp 37) rfl (ad.add (k*64)) rfl (ints zs) _ HCA.out Tryz.underlying33 rfl (by rw[yA,HL.out];exact zG) ?_)
        | (refine wAlo' rfl (some 11) rfl 33 rfl _ HZ0.out ?_;intro w7 g7 hb7 hx7 hg7)
        | (refine wStB rfl 33 (.tmp 11) (.tmp 38) rfl _ _ rfl rfl hb7 64 zG (zHB HL.out) zEq (xK zs) ?_;intro w8 hb8 hg8;have hx8:=hx7.grown hg8 (by omega))
        | (go_at_call 88;(with_reducible refine (HCF2.out _ _ (zQC hb8 HL.out)).mono ?_);rintro e w9 ⟨rfl,rfl⟩))
       go_roundw
       case rel=>exact⟨k+1,false,by omega,by go_num,rfl,zA (by rw[HNX.out];rfl),(hba.ext hx8),hx.trans hx8⟩
       case measure=>simp[intOf];omega
  ·have ek:k=n:=by omega
   have HA:Hid (zM Z (-40000) 40000=b):=zA (by rw[HB.out,ek, ←HZ.out,wJ3])
   rw[ek]
   clear ek hk hlt HB
   cases b with
   | false =>
     go_wp2_with fail
     go_ret2
     exact zKM (by rw[HE.out,HA.out];rfl) (by decide) rfl hx
   | true =>
     go_wp2_with (first
      | (refine zB rfl (.int .i64 ((n0:Nat):Int)) (by rw[←HN0.out];exact zBX (i:=wd) (d:=hi) rfl rfl rfl (by have:=HN0.out;omega)) ?_)
      | (refine qP rfl (some 52) rfl _ _ rfl n0 (by omega) rfl rfl ?_;intro w6 gz hbz hx6 hgz;have hb6:=hba.ext hx6;have hxx:=hx.trans hx6))
     have hgz0:w.heap.size≤gz:=by have:=hx.size;omega
     have hbz0:Blk w6 gz 3 (bv (uM Z wd hi 0)):=by rw[zQD,HN0.out];exact hbz
     clear hbz hba hx hx6
     go_loopw [55] (fun i wr=> ∃ k:Nat,k≤n∧i=.int .i64 (k:Int)∧Blk wr gz 3 (bv (uM Z wd hi (k*64)))∧Blk wr g 128 av∧Ext w wr) (fun i _=>n-(intOf i).toNat)
     case atStart=>exact⟨0,by omega,rfl,hbz0,hb6,hxx⟩
     case round =>
      clear hbz0 hb6 hxx
      obtain⟨k,hk,rfl,hbo,hba,hx⟩:=hrel
      by_cases hlt:k<n
      ·obtain⟨ad,zs,rfl,hab,hca,hzs,hl⟩:=zGw (hv.ext hx) HZ.out hlt
       have HCA:=zA hca
       have HL:=zA hl
       have HZS:=zA hzs
       clear hca hl hzs
       go_wp2_with (first
        | (refine yW (by rfl) 33 (.tmp 58) rfl (ad.add (k*64)) rfl (ints zs) _ HCA.out Tryz.underlying33 rfl (by rw[yA,HL.out];exact zG) ?_)
        | (refine wAlo' rfl (some 14) rfl 33 rfl _ HZ0.out ?_;intro w7 g7 hb7 hx7 hg7)
        | (refine wStB rfl 33 (.tmp 14) (.tmp 59) rfl _ _ rfl rfl hb7 64 zG (zHB HL.out) zEq (xK zs) ?_;intro w8 hb8 hg8;have hx8:=hx7.grown hg8 (by omega);have hbo8:=hbo.ext hx8;have hba8:=hba.ext hx8;have hxx8:=hx.trans hx8)
        | (refine wLdB rfl 33 (.tmp 14) rfl _ rfl hb8 _ Tryz.underlying33 rfl 64 zG (zHB HL.out) ?_))
       have HBV:Hid (∀ j:Nat,j<64→ ∃ z,(bv zs)[j]? =some (.int .i64 z)∧Hid (z=Z.getD (k*64+j) 0)∧ -40000≤z∧z≤40000):=zA (fun j hj=>by
        have hjl:j<zs.length:=by rw[HL.out];exact hj
        refine⟨zs[j],jA zs j hjl,zA ?_, ?_⟩
        ·have e:=wA2 hjl
         have hzs:=HZS.out
         subst hzs
         rw[wD0 hj,wB4] at e
         rw[wF4,e]
         rfl
        ·have hmem: ∀ z∈zs,z∈Z:=fun z hz=>by
          rw[HZS.out] at hz
          exact wG9 (wH0 hz)
         exact zY.1 HA.out _ (hmem _ (wE2 hjl)))
       have hbve:(ints zs).toArray=bv zs:=rfl
       rw[hbve]
       generalize bv zs=cz at *
       clear hbo hba hx hb7 hx7 hg8 hx8
       go_loopw [61] (fun i wr=> ∃ j:Nat,j≤64∧i=.int .i64 (j:Int)∧Blk wr gz 3 (bv (uM Z wd hi (k*64+j)))∧Blk wr g 128 av∧Ext w wr) (fun i _=>64-(intOf i).toNat)
       case atStart=>exact⟨0,by omega,rfl,hbo8,hba8,hxx8⟩
       case round =>
        clear hbo8 hba8 hxx8 hb8
        obtain⟨j,hj,rfl,hbo,hba,hx⟩:=hrel
        by_cases hltj:j<64
        ·obtain⟨z,hcz,HZV,hz1,hz2⟩:=HBV.out j hltj
         have hat:=fun W=>zEB cz j _ hltj hcz W
         obtain⟨r,q,HRQ,hcall⟩:=HP.out k j (by omega) hltj
         have HCALL:=zA hcall
         clear hcall hcz
         by_cases hrq:r<hi∧q<wd
         ·obtain⟨hr,hq⟩:=hrq
          have d1:decide (r<hi)=true:=by simpa using hr
          have d2:decide (q<wd)=true:=by simpa using hq
          go_upto_region 22 with (first
           | (refine wLdB rfl 128 (.tmp 8) rfl _ rfl hba _ Tryz.underlying128 rfl 2 xQ hts.out ?_)
           | (go_at_call 91;(with_reducible refine (HCALL.out _).mono ?_);rintro e w9 ⟨rfl,hx9⟩;have hbo9:=hbo.ext hx9;have hba9:=hba.ext hx9;have hxx9:=hx.trans hx9))
          have hpb:r*wd≤64*64:=wI6 (by omega) a2
          obtain⟨p,hpx⟩: ∃ p,r*wd+q=p:=⟨_,rfl⟩
          have HPX:=zA hpx
          have hp:p<n0:=by
           have h9:=wJ0 wd (show r+1≤hi by omega)
           rw[wJ8,wJ2 hi wd,HN0.out] at h9
           omega
          clear hpx
          have HSZ:Hid (p<(bv (uM Z wd hi (k*64+j))).size):=zA (by rw[zJ,zFr,HN0.out];exact hp)
          refine wp_region_lit ?_
          refine zB rfl (.slice (some ⟨gz,0,none⟩) n0 n0) (zC rfl rfl) ?_
          simp only[Act.put,sA,sB,sC]
          refine zB rfl (.int .i64 ((r:Nat):Int)) (zC rfl rfl) ?_
          simp only[Act.put,sA,sB,sC]
          refine zB rfl (.int .i64 ((wd:Nat):Int)) (zC rfl rfl) ?_
          simp only[Act.put,sA,sB,sC]
          refine zB rfl (.int .i64 ((r*wd:Nat):Int)) (zBX (i:=r) (d:=wd) rfl rfl rfl (by omega)) ?_
          simp only[Act.put,sA,sB,sC]
          refine zB rfl (.int .i64 ((q:Nat):Int)) (zC rfl rfl) ?_
          simp only[Act.put,sA,sB,sC]
          refine zB rfl (.int .i64 ((p:Nat):Int)) (by rw[←HPX.out];exact yC (i:=r*wd) (d:=q) rfl rfl rfl (by omega)) ?_
          simp only[Act.put,sA,sB,sC]
          refine zB rfl (.int .i64 (z)) (zC rfl rfl) ?_
          simp only[Act.put,sA,sB,sC]
          refine zB rfl (.int .i64 (z+128)) (ex_addI (i:=z) (d:=128) rfl rfl rfl (by omega)) ?_
          simp only[Act.put,sA,sB,sC]
          refine zB rfl (.int .i64 (max (z+128) 0)) (ex_maxI (i:=z+128) (d:=0) rfl rfl rfl) ?_
          simp only[Act.put,sA,sB,sC]
          refine zB rfl (.int .i64 (min (max (z+128) 0) 255)) (ex_minI (i:=max (z+128) 0) (d:=255) rfl rfl rfl) ?_
          simp only[Act.put,sA,sB,sC]
          refine zB rfl (.pointer (some ⟨gz,p,none⟩)) (vF Tryz.underlying22 qW rfl rfl rfl hp) ?_
          simp only[Act.put,sA,sB,sC]
          refine vU rfl (.tmp 90) (.tmp 89) rfl gz p (min (max (z+128) 0) 255) rfl rfl hbo9 HSZ.out ?_
          simp only[Act.put,sA,sB,sC]
          have hb9:=hbo9.set_ p (.int .i64 (min (max (z+128) 0) 255))
          have hset:=zRe Z wd hi k j hltj (by rw[←HRQ.out.1];exact hr) (by rw[←HRQ.out.2];exact hq)
          rw[←HRQ.out.1, ←HRQ.out.2,HPX.out, ←HZV.out] at hset
          rw[vP,clampI,hset] at hb9
          have hb10:=hba9.far (p:=⟨gz,p,none⟩) (hbo9.ne_ hba9 (by decide)).symm (.int .i64 (min (max (z+128) 0) 255))
          have hx10:=hxx9.setCell (p:=⟨gz,p,none⟩) hgz0 (.int .i64 (min (max (z+128) 0) 255))
          rw[clampI] at hb10 hx10 ⊢
          clear hset
          go_wp2_with fail
          go_roundw
          case rel=>exact⟨j+1,by omega,by go_num,hb9,hb10,hx10⟩
          case measure=>simp[intOf];omega
         ·have HSK:=zA (zPK Z wd hi k j hltj (by rw[←HRQ.out.1, ←HRQ.out.2];exact hrq))
          rw[HSK.out] at hbo
          by_cases hr:r<hi
          ·have hq: ¬q<wd:=fun hq=>hrq ⟨hr,hq⟩
           have d1:decide (r<hi)=true:=by simpa using hr
           have d2:decide (q<wd)=false:=by simpa using hq
           clear hrq
           go_wp2_with (first
            | (refine wLdB rfl 128 (.tmp 8) rfl _ rfl hba _ Tryz.underlying128 rfl 2 xQ hts.out ?_)
            | (go_at_call 91;(with_reducible refine (HCALL.out _).mono ?_);rintro e w9 ⟨rfl,hx9⟩;have hbo9:=hbo.ext hx9;have hba9:=hba.ext hx9;have hxx9:=hx.trans hx9))
           go_roundw
           case rel=>exact⟨j+1,by omega,by go_num,hbo9,hba9,hxx9⟩
           case measure=>simp[intOf];omega
          ·have d1:decide (r<hi)=false:=by simpa using hr
           clear hrq
           go_wp2_with (first
            | (refine wLdB rfl 128 (.tmp 8) rfl _ rfl hba _ Tryz.underlying128 rfl 2 xQ hts.out ?_)
            | (go_at_call 91;(with_reducible refine (HCALL.out _).mono ?_);rintro e w9 ⟨rfl,hx9⟩;have hbo9:=hbo.ext hx9;have hba9:=hba.ext hx9;have hxx9:=hx.trans hx9))
           go_roundw
           case rel=>exact⟨j+1,by omega,by go_num,hbo9,hba9,hxx9⟩
           case measure=>simp[intOf];omega
        ·have ej:j=64:=by omega
         rw[ej]
         go_wp2_with fail
         go_roundw
         case rel=>exact⟨k+1,by omega,by go_num,by rw[ej] at hbo;rw[show (k+1)*64=k*64+64 by omega];exact hbo,hba,hx⟩
         case measure=>simp[intOf];omega
      ·have ek:k=n:=by omega
       rw[ek] at hbo ⊢
       rw[HN.out,zQz] at hbo
       go_wp2_with fail
       go_ret2
       have hE:zDU n Z wd hi (xP wd hi)=0:=by rw[HE.out,HA.out];rfl
       unfold zGB
       rw[hE]
       refine⟨some ⟨gz,0,none⟩,n0,n0,rfl, ?_, ?_,hx,fun ad e=>by cases e;exact hgz0⟩
       ·rw[if_pos rfl];exact HN0.out.symm
       ·rw[if_pos rfl]
        have:=hbo.bsl (c:=n0) (by rw[zIJ,HN0.out];omega) (by omega)
        rw[zIJ,HN0.out] at this
        exact this
theorem join_any (n:Nat) (Z:List Int) (v:Value) (wd hi:Int) (w:World) (hv:SL w 64 v n (ints Z)) (hz:Z.length=n*64):Calls Tryz.prog 114 #[v,.int .i64 wd,.int .i64 hi] w (zGB n Z wd hi w):=by
 by_cases h:xP wd hi=0
 ·obtain⟨a,b,rfl,rfl,h1,h2,h3,h4⟩:=zHF h
  by_cases hn:n=yH a b
  ·exact join_in n Z v a b w hv hz h h1 h2 h3 h4 hn
  ·exact (join_many n Z v a b w hv hz h h1 h2 h3 h4 hn).mono fun e w' hh=>zKM (by unfold zDU;rw[h,if_pos rfl];simp only[wF0];rw[if_neg hn]) (by decide) hh.1 hh.2
 ·exact (zTI n Z v wd hi w hv hz h).mono fun e w' hh=>zKM (by unfold zDU;rw[if_neg h]) (by decide) hh.1 hh.2
end Go.Proofs.YtkggcjdlpendfaaGreatDoor
