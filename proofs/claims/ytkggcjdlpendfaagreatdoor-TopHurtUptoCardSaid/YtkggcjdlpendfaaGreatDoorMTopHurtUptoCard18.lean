import Derived.Test.YtkggcjdlpendfaaGreatDoorMTopHurtUptoCard17
set_option linter.all false
set_option maxRecDepth 20000
set_option maxHeartbeats 8000000
namespace Go.Proofs.YtkggcjdlpendfaaGreatDoor
open Go.RowKit Tryz
section
def cnt_okS:∀(l:List (Tok×Bool)) (s:List Int×List Int),(qB yQ l s).1=0
 | [],_=>rfl
 | (_,_)::r,_=>by rw[zBC rfl];exact cnt_okS r _
def each_eS (n:Nat) (Z:List Int) (s:List Int×List Int):(xN yQ n Z s).1=qJ n Z:=by
 unfold xN qJ;split
 ·rfl
 split
 ·rfl
 exact cnt_okS _ _
def zVJ {n:Nat} {Z:List Int} (h:qJ n Z=0):n≤400:=by
 unfold qJ at h
 by_cases h1:400<n
 ·rw[if_pos h1] at h;cases h
 omega
def zTS (A:Option Addr) (n c:Nat) (Z:List Int) (hZ:Z.length=n*64) (w:World) (hs:SL w 64 (.slice A n c) n (ints Z)) :
 Calls prog 100 #[.slice A n c] w λe w'=>∃u v,e=.returned (.tuple #[u,v,.int .i64 (qJ n Z)])∧Ext w w' :=
 (zNT A n c Z hZ w hs).mono λe w' h=>by
   obtain⟨hx,h⟩:=h;rw[each_eS] at h
   by_cases h0:qJ n Z=0
   ·rw[if_pos h0] at h;obtain⟨gA,gB,rfl,-⟩:=h;exact⟨_,_,by rw[h0],hx⟩
   rw[if_neg h0] at h;exact⟨_,_,h,hx⟩
def run_convS (n:Nat) (W:World):(convert 3 5 (.int .i64 (n:Int))).run prog W=.ok (.int .u8 ((n%256:Nat):Int)) W:=by simp[convert,run_underlying underlying3,run_underlying underlying5,Conv.intToInt,show IntKind.u8.wrap (n:Int)=((n%256:Nat):Int) by simp[IntKind.wrap,IntKind.signed,IntKind.bits]]
def zRt {o:Oper} {a:Act} {x:Operand} (ho:o.op=.convert 3 5 x) {n:Nat} (hx:a.eval x=.int .i64 (n:Int)) (h:n<256) (w:World):(execOp a.eval o).run prog w=.ok (.value (.int .u8 (n:Int))) w:=by simp only[execOp,ho,hx,Sem.run_bind,run_convS,Result.andThen_ok,Sem.run_pure,wE6 h]
def zFb:zAn prog 104:=⟨_,func104,by kernel_rfl,by kernel_rfl⟩
def spanNe:139≠5:=by decide
attribute [local irreducible] zF bv zDN zAF jG yM zL qJ yA qU vU
def zSt (t1 t2:List Value) (z1 z2:Int) (v:Value) (nn:Int) (w:World) (h0I:¬nn<0) (h4I:¬100<nn) (h1:t1.length=17) (h2:t2.length=17)
 (o1:t1.toArray.all (·.oneCell')=true) (o2:t2.toArray.all (·.oneCell')=true)
 (C1:∀W,Ext w W→Calls prog 102 #[.agg t1.toArray] W λe W'=>e=.returned (.int .i64 z1)∧Ext W W')
 (C2:∀W,Ext w W→Calls prog 102 #[.agg t2.toArray] W λe W'=>e=.returned (.int .i64 z2)∧Ext W W')
 (hne:(if z1=0 then z2 else z1)≠0) :
 Calls prog 45 #[.agg (t1++t2).toArray,v,.int .i64 nn] w (zGO (if z1=0 then z2 else z1,[]) w):=by
 have hl1:=zA h1;have hl2:=zA h2;have hsz:=zA (zCr h1 h2);have HB2:=zA (zHJ t1 t2 h1 h2);have HRT:=zA (λW g (hb:Blk W g 42 (t1++t2).toArray)=>zAL h1 hb);have HRU:=zA (λW g (hb:Blk W g 44 (t1++t2).toArray)=>zAL h1 hb);have hs1:Hid (t1.toArray.size=17):=zA (by simpa using h1);have hs2:Hid (t2.toArray.size=17):=zA (by simpa using h2);have hz17:Hid ((ints (List.replicate 16 0)++[Value.slice none 0 0]).toArray.size=17):=zA (by simp[ints]);have HO1:=zA o1;have HO2:=zA o2;have HC1:=zA C1;have HC2:=zA C2;clear o1 o2 C1 C2 h1 h2;generalize hR:(if z1=0 then z2 else z1)=R at *;have HR:=zA hR;have HNE:=zA hne;clear hR hne;go_enter func45,ntmps45
 go_wp2_with (first
  | ((with_reducible apply gS 3);refine wBox rfl 44 (.tmp 0) rfl (t1++t2).toArray rfl ?_;intro w1 g hb1 hx1 hg;have hr1:=HRU.out _ _ hb1)
  | ((with_reducible apply gS 26);refine wpList_load_mid rfl 42 (.tmp 25) rfl g 0 rfl t1 _ hr1.1 underlying42 rfl (by rw[hl1.out];exact zX) ?_)
  | ((with_reducible apply gS 28);refine wpList_load_mid rfl 42 (.tmp 27) rfl g 17 rfl t2 _ hr1.2 underlying42 rfl (by rw[hl2.out];exact zX) ?_)
  | ((with_reducible apply gS 29);refine Go.Great.wpList_buildSliceTo rfl 115 42 2 _ rfl _ rfl (some 29) rfl underlying115 _ (by simp[Act.eval];exact HB2.out) ?_))
 have hbn0:=Blk.new w1 42 (t1++t2).toArray;have hb3:=hb1.alloc (.cells (t1++t2).toArray 42);have hx3:=hx1.alloc (.cells (t1++t2).toArray 42);clear hb1 hr1 hx1
 go_loopw [31] (λi wr=>∃k:Nat,k≤2∧i=.int .i64 (k:Int)∧(1≤k→z1=0)∧(2≤k→z2=0)∧Blk wr g 44 (t1++t2).toArray∧Blk wr w1.heap.size 42 (t1++t2).toArray∧Ext w wr) (λi _=>2-(intOf i).toNat)
 case atStart=>exact⟨0,by omega,rfl,λh=>absurd h (by omega),λh=>absurd h (by omega),hb3,hbn0,hx3⟩
 case round =>
  clear hb3 hbn0 hx3;obtain⟨k,hk,rfl,e1,e2,hb,hbn,hx⟩:=hrel;rcases (by omega:k=0∨k=1∨k=2) with rfl | rfl | rfl
  ·have hr:=(HRT.out _ _ hbn).1
   by_cases hz:z1=0
   ·subst hz
    go_wp2_with (first
     | ((with_reducible apply gS 34);refine wpList_load_mid rfl 42 (.tmp 33) rfl _ 0 rfl t1 _ hr underlying42 rfl (by rw[hl1.out];exact zX) ?_)
     | ((with_reducible apply gS 9);refine wAlo' rfl (some 9) rfl 42 rfl _ zAW ?_;intro w4 ga hba4 hx4 hga)
     | ((with_reducible apply gT 9 34);refine wStB rfl 42 (.tmp 9) (.tmp 34) rfl _ _ rfl rfl hba4 17 zX hs1.out hz17.out HO1.out ?_;intro w5 hba5 hg5;have hx5:=(hx.trans hx4).grown hg5 (by have:=hx.size;omega))
     | ((with_reducible apply gS 35);refine wLdB rfl 42 (.tmp 9) rfl _ rfl hba5 _ underlying42 rfl 17 zX hs1.out ?_)
     | (go_at_call 102;(with_reducible refine (HC1.out _ hx5).mono ?_);rintro e w6 ⟨rfl,hx6⟩))
    go_roundw
    case rel=>exact⟨1,by omega,by go_num,by simp,λh=>absurd h (by omega),((hb.ext hx4).grown hg5 (by have:=hb.lt;simp;omega)).ext hx6,((hbn.ext hx4).grown hg5 (by have:=hbn.lt;simp;omega)).ext hx6,hx5.trans hx6⟩
    case measure=>simp[intOf]
   have hz1:(z1 !=0)=true:=by simpa using hz
   have HZ:=zA hz;clear hz
   go_wp2_with (first
    | ((with_reducible apply gS 34);refine wpList_load_mid rfl 42 (.tmp 33) rfl _ 0 rfl t1 _ hr underlying42 rfl (by rw[hl1.out];exact zX) ?_)
    | ((with_reducible apply gS 9);refine wAlo' rfl (some 9) rfl 42 rfl _ zAW ?_;intro w4 ga hba4 hx4 hga)
    | ((with_reducible apply gT 9 34);refine wStB rfl 42 (.tmp 9) (.tmp 34) rfl _ _ rfl rfl hba4 17 zX hs1.out hz17.out HO1.out ?_;intro w5 hba5 hg5;have hx5:=(hx.trans hx4).grown hg5 (by have:=hx.size;omega))
    | ((with_reducible apply gS 35);refine wLdB rfl 42 (.tmp 9) rfl _ rfl hba5 _ underlying42 rfl 17 zX hs1.out ?_)
    | (go_at_call 102;(with_reducible refine (HC1.out _ hx5).mono ?_);rintro e w6 ⟨rfl,hx6⟩))
   refine bodyPost_ret (results_tmp2 rfl _ _ _) rfl ?_;refine⟨hx5.trans hx6, ?_⟩;rw[if_neg HNE.out, ←HR.out,if_neg HZ.out];rfl
  ·have hr:=(HRT.out _ _ hbn).2;have hz0:=e1 (by omega);have hz2:z2=R:=by rw[←HR.out,if_pos hz0]
   have hzb:(z2 !=0)=true:=by rw[hz2];simpa using HNE.out
   have HZ2:=zA hz2;clear hz0 e1 e2 hz2
   go_wp2_with (first
    | ((with_reducible apply gS 34);refine wpList_load_mid rfl 42 (.tmp 33) rfl _ 17 rfl t2 _ hr underlying42 rfl (by rw[hl2.out];exact zX) ?_)
    | ((with_reducible apply gS 9);refine wAlo' rfl (some 9) rfl 42 rfl _ zAW ?_;intro w4 ga hba4 hx4 hga)
    | ((with_reducible apply gT 9 34);refine wStB rfl 42 (.tmp 9) (.tmp 34) rfl _ _ rfl rfl hba4 17 zX hs2.out hz17.out HO2.out ?_;intro w5 hba5 hg5;have hx5:=(hx.trans hx4).grown hg5 (by have:=hx.size;omega))
    | ((with_reducible apply gS 35);refine wLdB rfl 42 (.tmp 9) rfl _ rfl hba5 _ underlying42 rfl 17 zX hs2.out ?_)
    | (go_at_call 102;(with_reducible refine (HC2.out _ hx5).mono ?_);rintro e w6 ⟨rfl,hx6⟩))
   refine bodyPost_ret (results_tmp2 rfl _ _ _) rfl ?_;refine⟨hx5.trans hx6, ?_⟩;rw[if_neg HNE.out, ←HZ2.out];rfl
  exact absurd (by rw[←HR.out,if_pos (e1 (by omega)),e2 (by omega)]) HNE.out
def zQh (T1 T2:List Tok) (f1:zBg T1) (f2:zBg T2) (t1 t2:List Value) (A:Option Addr) (n c:Nat) (Z:List Int) (hZ:Z.length=n*64) (e:Nat) (he:e≤100) (w:World) (hs:SL w 64 (.slice A n c) n (ints Z)) (h1:t1.length=17) (h2:t2.length=17)
 (o1:t1.toArray.all (·.oneCell')=true) (o2:t2.toArray.all (·.oneCell')=true)
 (C1:∀W,Ext w W→Calls prog 102 #[.agg t1.toArray] W λe W'=>e=.returned (.int .i64 0)∧Ext W W')
 (C2:∀W,Ext w W→Calls prog 102 #[.agg t2.toArray] W λe W'=>e=.returned (.int .i64 0)∧Ext W W')
 (SG:∀W A' m c' P,Ext w W→P.length=m*64→SL W 64 (.slice A' m c') m (ints P)→Calls prog 104 #[.agg (t1++t2).toArray,.slice A' m c'] W (zGO (zDN T1 T2 m P) W)) :
 Calls prog 45 #[.agg (t1++t2).toArray,.slice A n c,.int .i64 (e:Int)] w (zGO (zBN T1 T2 n e Z) w):=by
 have hl1:=zA h1;have hl2:=zA h2;have hsz:=zA (zCr h1 h2);have HB2:=zA (zHJ t1 t2 h1 h2);have HRT:=zA (λW g (hb:Blk W g 42 (t1++t2).toArray)=>zAL h1 hb);have HRU:=zA (λW g (hb:Blk W g 44 (t1++t2).toArray)=>zAL h1 hb);have hs1:Hid (t1.toArray.size=17):=zA (by simpa using h1);have hs2:Hid (t2.toArray.size=17):=zA (by simpa using h2);have hz17:Hid ((ints (List.replicate 16 0)++[Value.slice none 0 0]).toArray.size=17):=zA (by simp[ints]);have HO1:=zA o1;have HO2:=zA o2;have HC1:=zA C1;have HC2:=zA C2;have HSG:=zA SG;have HCO:=zA (λW (h:Ext w W)=>zTS A n c Z hZ W (hs.ext h));have HSL:=zA (λi m=>segR_len f1 f2 m (yD n e i Z));have HZ:=zA hZ;have HS:=zA hs;have H20:Hid (decide ((e:Int)<0)=false):=zA (by rw[decide_eq_false_iff_not];omega);have H23:Hid (decide ((100:Int)<(e:Int))=false):=zA (by rw[decide_eq_false_iff_not];omega);have hnc:n≤c:=by obtain⟨A',c',q,q1,q2,-,-⟩:=hs;injection q with q3 q4 q5;omega
 clear o1 o2 C1 C2 h1 h2 SG hZ hs f1 f2;obtain⟨FR,hFR⟩:∃r,zBN T1 T2 n e Z=r:=⟨_,rfl⟩
 have HFE:Hid (qJ n Z≠0→FR=(qJ n Z,[])):=zA (λh=>by rw[←hFR];unfold zBN;rw[if_pos h]);have HFO:Hid (qJ n Z=0→FR=zAF T1 T2 n e Z (zL n e) 0 []):=zA (λh=>by rw[←hFR];unfold zBN;rw[if_neg (by simp[h])]);rw[hFR];clear hFR;go_enter func45,ntmps45
 go_wp2_with (first
  | ((with_reducible apply gS 20);refine zB rfl (.bool false) (yB rfl rfl rfl H20.out) ?_)
  | ((with_reducible apply gS 23);refine xV (by rfl) (.bool false) (xY rfl rfl rfl H23.out) ?_)
  | ((with_reducible apply gS 3);refine wBox rfl 44 (.tmp 0) rfl (t1++t2).toArray rfl ?_;intro w1 g hb1 hx1 hg;have hr1:=HRU.out _ _ hb1)
  | ((with_reducible apply gS 26);refine wpList_load_mid rfl 42 (.tmp 25) rfl g 0 rfl t1 _ hr1.1 underlying42 rfl (by rw[hl1.out];exact zX) ?_)
  | ((with_reducible apply gS 28);refine wpList_load_mid rfl 42 (.tmp 27) rfl g 17 rfl t2 _ hr1.2 underlying42 rfl (by rw[hl2.out];exact zX) ?_)
  | ((with_reducible apply gS 29);refine Go.Great.wpList_buildSliceTo rfl 115 42 2 _ rfl _ rfl (some 29) rfl underlying115 _ (by simp[Act.eval];exact HB2.out) ?_))
 have hbn0:=Blk.new w1 42 (t1++t2).toArray;have hb3:=hb1.alloc (.cells (t1++t2).toArray 42);have hx3:=hx1.alloc (.cells (t1++t2).toArray 42);clear hb1 hr1 hx1
 go_loopw [31] (λi wr=>∃k:Nat,k≤2∧i=.int .i64 (k:Int)∧Blk wr g 44 (t1++t2).toArray∧Blk wr w1.heap.size 42 (t1++t2).toArray∧Ext w wr) (λi _=>2-(intOf i).toNat)
 case atStart=>exact⟨0,by omega,rfl,hb3,hbn0,hx3⟩
 case round =>
  clear hb3 hbn0 hx3;obtain⟨k,hk,rfl,hb,hbn,hx⟩:=hrel;rcases (by omega:k=0∨k=1∨k=2) with rfl | rfl | rfl
  ·have hr:=(HRT.out _ _ hbn).1
   go_wp2_with (first
    | ((with_reducible apply gS 34);refine wpList_load_mid rfl 42 (.tmp 33) rfl _ 0 rfl t1 _ hr underlying42 rfl (by rw[hl1.out];exact zX) ?_)
    | ((with_reducible apply gS 9);refine wAlo' rfl (some 9) rfl 42 rfl _ zAW ?_;intro w4 ga hba4 hx4 hga)
    | ((with_reducible apply gT 9 34);refine wStB rfl 42 (.tmp 9) (.tmp 34) rfl _ _ rfl rfl hba4 17 zX hs1.out hz17.out HO1.out ?_;intro w5 hba5 hg5;have hx5:=(hx.trans hx4).grown hg5 (by have:=hx.size;omega))
    | ((with_reducible apply gS 35);refine wLdB rfl 42 (.tmp 9) rfl _ rfl hba5 _ underlying42 rfl 17 zX hs1.out ?_)
    | (go_at_call 102;(with_reducible refine (HC1.out _ hx5).mono ?_);rintro e w6 ⟨rfl,hx6⟩))
   go_roundw
   case rel=>exact⟨1,by omega,by go_num,((hb.ext hx4).grown hg5 (by have:=hb.lt;simp;omega)).ext hx6,((hbn.ext hx4).grown hg5 (by have:=hbn.lt;simp;omega)).ext hx6,hx5.trans hx6⟩
   case measure=>simp[intOf]
  ·have hr:=(HRT.out _ _ hbn).2
   go_wp2_with (first
    | ((with_reducible apply gS 34);refine wpList_load_mid rfl 42 (.tmp 33) rfl _ 17 rfl t2 _ hr underlying42 rfl (by rw[hl2.out];exact zX) ?_)
    | ((with_reducible apply gS 9);refine wAlo' rfl (some 9) rfl 42 rfl _ zAW ?_;intro w4 ga hba4 hx4 hga)
    | ((with_reducible apply gT 9 34);refine wStB rfl 42 (.tmp 9) (.tmp 34) rfl _ _ rfl rfl hba4 17 zX hs2.out hz17.out HO2.out ?_;intro w5 hba5 hg5;have hx5:=(hx.trans hx4).grown hg5 (by have:=hx.size;omega))
    | ((with_reducible apply gS 35);refine wLdB rfl 42 (.tmp 9) rfl _ rfl hba5 _ underlying42 rfl 17 zX hs2.out ?_)
    | (go_at_call 102;(with_reducible refine (HC2.out _ hx5).mono ?_);rintro e w6 ⟨rfl,hx6⟩))
   go_roundw
   case rel=>exact⟨2,by omega,by go_num,((hb.ext hx4).grown hg5 (by have:=hb.lt;simp;omega)).ext hx6,((hbn.ext hx4).grown hg5 (by have:=hbn.lt;simp;omega)).ext hx6,hx5.trans hx6⟩
   case measure=>simp[intOf]
  clear HRT HRU HB2 HC1 HC2 hbn hs1 hs2 hz17 HO1 HO2 hl1 hl2;generalize (t1++t2).toArray=tt at *
  by_cases hbe:qJ n Z=0
  ·have hn4:=zVJ hbe;rw[hbe] at HCO;have HSP:=zA (λW=>zGa n e (by omega) (by omega) W);have hK:=zEO (n:=n) (e:=e);have hRR:∃R,zAF T1 T2 n e Z (zL n e) 0 []=R:=⟨_,rfl⟩
   obtain⟨R,hRR⟩:=hRR;have HR0:Hid (zAF T1 T2 n e Z (zL n e-0) 0 []=R):=zA hRR;have HFR:Hid (FR=R):=zA (by rw[HFO.out hbe,hRR]);have HAT:=zA (λi (h:i<zL n e)=>zGC h);obtain⟨K,hKK⟩:∃K,zL n e=K:=⟨_,rfl⟩
   rw[hKK] at HSP HR0 HAT hK;clear hRR hKK hbe HFE HFO
   go_wp2_with (first
    | (go_at_call 100;(with_reducible refine (HCO.out _ hx).mono ?_);rintro e w2 ⟨u2,v2,rfl,hx2⟩;have hx2':=hx.trans hx2)
    | (go_at_call 99;(with_reducible refine (HSP.out _).mono ?_);rintro e w3 ⟨B3,d3,rfl,hsp,hx3⟩;have hx3':=hx2'.trans hx3))
   have hg3:=(hb.ext hx2).ext hx3;have how:OwnV w3 w3.heap.size 5 1 (.slice none 0 0) 0 (zF []):=by unfold zF;exact OwnV.nil _ _ _ _
   have HSP3:=zA hsp;have HG3:=zA hg3;have HX3:=zA hx3';clear hb hx hx2 hx2' hx3 hx3' hsp hg3
   go_loopw [14,55] (λx iv wr=>∃(i m:Nat) (acc:List Nat),i≤K∧iv=.int .i64 (i:Int)∧Hid (acc.length=m)∧m≤i*1000000002∧OwnV wr w3.heap.size 5 1 x m (zF acc)∧Hid (zAF T1 T2 n e Z (K-i) i acc=R)∧Ext w3 wr) (λ_ i _=>K-(intOf i).toNat)
   case atStart=>exact⟨0,0,[],by omega,rfl,zA rfl,by omega,how,HR0,Ext.refl _⟩
   case round =>
    clear how HR0;obtain⟨i,m,acc,hi,rfl,HM,hm,⟨OA,oc,rfl,hown⟩,HR,hx⟩:=hrel
    by_cases hlt:i<K
    ·obtain⟨td,hB,htb,htc⟩:=(HSP3.out.ext hx).part hlt;subst hB;obtain⟨lo,hlo⟩:∃q,i*yM n e=q:=⟨_,rfl⟩
     obtain⟨hh,hhh⟩:∃q,min (lo+yM n e) n=q:=⟨_,rfl⟩
     obtain⟨ln,hln⟩:∃q,min (n-lo) (yM n e)=q:=⟨_,rfl⟩
     have e2:((ints (jG n e K)).drop (i*2)).take 2=ints [(lo:Int),(hh:Int)]:=by
      have h:=zEx n e K i hlt;rw[hlo,hhh] at h;rw[←h];simp[ints,wO1,wO0]
     rw[e2] at htc;have hlon:lo≤n:=by rw[←hlo];exact HAT.out i hlt
     have hlh:lo≤hh:=by omega
     have hhn:hh≤n:=by omega
     have hd:hh-lo=ln:=by omega
     have HTC:=zA htc;have HBV:=zA (zHB [(lo:Int),(hh:Int)]);have HS2:=zA (show (bv [(lo:Int),(hh:Int)]).size=2 by rw[zK];rfl);have HS20:=zA (show (Value.agg (bv [0,0])).cells.size=2 by rw[show (Value.agg (bv [0,0])).cells=bv [0,0] from rfl,zK];rfl);have HO2:=zA (xR [(lo:Int),(hh:Int)]);have HP:Hid ((yD n e i Z).length=ln*64):=zA (by rw[zEA HZ.out,hlo,hln]);have HPS:=zA (λW (h:Ext w W)=>(HS.out.ext h).subK hlh hhn)
     have e3:((ints Z).drop (lo*64)).take ((hh-lo)*64)=ints (yD n e i Z):=by
      unfold yD;rw[hlo,hln,hd];simp[ints,wO1,wO0]
     rw[e3,hd] at HPS;have HSR:=zA (λW (h:Ext w W)=>HSG.out W _ _ _ _ h HP.out (HPS.out W h));have HER:Hid (∀r,zDN T1 T2 ln (yD n e i Z)=r→r.1≠0→R=(r.1,[])):=zA (λr h h0=>by rw[←HR.out,show K-i=(K-(i+1))+1 by omega];exact zML (by rw[hlo,hln];exact h) h0);have HOK:Hid (∀r,zDN T1 T2 ln (yD n e i Z)=r→r.1=0→zAF T1 T2 n e Z (K-(i+1)) (i+1) (acc++zAX i++r.2)=R):=zA (λr h h0=>by rw[←HR.out,show K-i=(K-(i+1))+1 by omega];exact (zJF (by rw[hlo,hln];exact h) h0).symm);have hsl:=HSL.out i ln;obtain⟨r,hr⟩:∃r,zDN T1 T2 ln (yD n e i Z)=r:=⟨_,rfl⟩
     rw[hr] at HSR hsl;have HER:=zA (HER.out r hr);have HOK:=zA (HOK.out r hr);obtain⟨cl,hcl⟩:∃q,c-lo=q:=⟨_,rfl⟩
     rw[hcl] at HSR;have HSUB:=zA (λ(o:Oper) (a:Act) (x lo' hi':Operand) (ho:o.op=.slice 25 x (some lo') (some hi') none) (hx:a.eval x=.slice A n c) (h1:a.eval lo'=.int .i64 (lo:Int)) (h2:a.eval hi'=.int .i64 (hh:Int)) (W:World)=>ex_subK ho hx h1 h2 hlh hhn hnc W);rw[hd,hcl] at HSUB;generalize zDt A c lo=SA at *;generalize yD n e i Z=P at *;generalize bv [(lo:Int),(hh:Int)]=sp at *;have HC0:Hid (sp[0]? =some (.int .i64 (lo:Int))∧sp[1]? =some (.int .i64 (hh:Int))):=zA (by rw[←HBV.out];exact⟨rfl,rfl⟩);clear htc e2 hr e3 hcl hd hln hhh hlo hhn hlh hlon HR HPS HP;obtain⟨r1,r2⟩:=r;dsimp only at hsl HER HOK
     have HRA:Hid (∀W e W',zGO (r1,r2) W e W'→∃B k d,e=.returned (.tuple #[.slice B k d,.int .i64 r1])∧(r1=0→r2.length=k∧SL W' 1 (.slice B k d) k (zF r2))∧Ext W W'):=zA (λW e W' h=>by
      obtain⟨hx,h⟩:=h
      by_cases h0:r1=0
      ·subst h0;rw[if_pos rfl] at h;obtain⟨B,k,d,rfl,h1,h2,-⟩:=h;exact⟨B,k,d,rfl,λ_=>⟨h1,h2⟩,hx⟩
      ·rw[if_neg h0] at h
       exact⟨none,0,0,h,λh=>absurd h h0,hx⟩)
     have htd:td.block<wr.heap.size:=htb;clear htb
     by_cases hp:0<i
     ·have H61:Hid (decide ((0:Int)<(i:Int))=true):=zA (by rw[wS2];omega);obtain⟨i1,hi1⟩:∃q,i-1=q:=⟨_,rfl⟩
      have HI1:=zA hi1;obtain⟨q,hq⟩:∃q,208+i1%8=q:=⟨_,rfl⟩
      have HMK:=zA (λW=>zRH i1 (by omega) W);rw[hq] at HMK;have hq2:q<256:=by omega
      have HMZ:Hid (zAX i=[255,q]):=zA (by unfold zAX;rw[if_neg (by omega),hi1,hq]);clear hi1 hq
      by_cases h0:r1=0
      ·subst h0
       go_wp2_with (first
        | ((with_reducible apply gS 59);refine yZ (by rfl) 139 (.tmp 58) rfl (td.add (i*2)) rfl (ints [(lo:Int),(hh:Int)]) _ HTC.out underlying139 rfl vE ?_;rw[HBV.out])
        | ((with_reducible apply gS 16);refine wAlo' rfl (some 16) rfl 139 rfl _ zCM ?_;intro w4 g16 hb4 hx4 hg4)
        | ((with_reducible apply gT 16 59);refine wStB rfl 139 (.tmp 16) (.tmp 59) rfl _ _ rfl rfl hb4 2 vE HS2.out HS20.out HO2.out ?_;intro w5 hb5 hg5;have hx5:Ext wr w5:=hx4.grown hg5 hg4)
        | ((with_reducible apply gS 61);refine zB rfl (.bool true) (xY rfl rfl rfl H61.out) ?_)
        | ((with_reducible apply gS 64);refine zB rfl (.int .i64 ((i1:Nat):Int)) (by rw[←HI1.out];exact xP (i:=i) (d:=1) rfl rfl rfl (by omega) (by omega)) ?_)
        | (go_at_call 103;(with_reducible refine (HMK.out _).mono ?_);rintro e w6 ⟨rfl,rfl⟩)
        | ((with_reducible apply gS 66);refine zB rfl (.int .u8 ((q:Nat):Int)) (zRt rfl rfl (by omega)) ?_)
        | ((with_reducible apply gS 67);refine zCq rfl _ _ rfl (some 67) rfl 255 q rfl rfl ?_;intro w7 g7 hb7 hx7 hg7;have ho7:=yE hown (hx5.trans hx7))
        | ((with_reducible apply gS 68);at_builtin;refine wApf zBd rfl (.tmp 62) (.tmp 67) rfl w3.heap.size (.slice OA m oc) m (zF acc) rfl ho7 _ 2 (zF [255,q]) rfl (zIC rfl hb7) (zHF _) (by omega) (by omega) (by have:=hx.size;have:=(hx5.trans hx7).size;omega) ?_;intro A8 c8 w8 ho8 hgr8 hor8;have hx8:=((hx.trans hx5).trans hx7).grown' hgr8 (λb hb=>(ho7.lt b hb).1);have hb8:=(zM hgr8).blk (hb5.ext hx7) (λe=>zIS (hb5.ext hx7) ho7 spanNe e.symm)))
       have hx8d:Ext w3 w8.drew:=hx8.drew;have hb8d:=hb8.drew;have ho8d:w8.drew.ownsRow w3.heap.size 5 1 (.slice A8 (m+2) c8) (m+2) (zF acc++zF [255,q]):=ho8;clear hb7 hx7 hg7 ho7 ho8 hgr8 hor8 hx8 hb8 hb4 hx4 hg4 hb5 hg5 hx5;have HGX:=zA (λW (h:Ext w8.drew W)=>((HG3.out.ext hx8d).ext h));have hI:Ext w8.drew w8.drew:=Ext.refl _;refine qR (Ext w8.drew) (by kernel_rfl) ?_;refine xE (k:=0) (by kernel_rfl) rfl (by rfl) (.agg tt) (λW hW=>uT rfl rfl (HGX.out W hW) underlying44 rfl qG hsz.out) hI ?_;simp only[Act.put,sA,sB,sC];refine zG (k:=1) (by kernel_rfl) rfl (by rfl) (.slice A n c) (zD rfl rfl) hI ?_;simp only[sP,sB,sC];refine zG (k:=2) (by kernel_rfl) rfl (by rfl) (.pointer (some ⟨g16,0,none⟩)) (λw=>by go_simp) hI ?_;simp only[sP,sB,sC];refine xE (k:=3) (by kernel_rfl) rfl (by rfl) (.int .i64 (lo:Int)) (λW hW=>zS rfl rfl (((hb8d.ext hW).cell 0).trans HC0.out.1)) hI ?_;simp only[Act.put,sA,sB,sC];refine zG (k:=4) (by kernel_rfl) rfl (by rfl) (.pointer (some ⟨g16,1,none⟩)) (λw=>by go_simp) hI ?_;simp only[sP,sB,sC];refine xE (k:=5) (by kernel_rfl) rfl (by rfl) (.int .i64 (hh:Int)) (λW hW=>zS rfl rfl (((hb8d.ext hW).cell 1).trans HC0.out.2)) hI ?_;simp only[Act.put,sA,sB,sC];refine zG (k:=6) (by kernel_rfl) rfl (by rfl) (.slice SA ln cl) (HSUB.out _ _ _ _ _ rfl rfl rfl rfl) hI ?_;simp only[sP,sB,sC];refine qI (k:=7) (by kernel_rfl) rfl ?_;refine xK (by rfl) (xL _ _ _ rfl rfl zFb #[.agg tt,.slice SA ln cl] (by simp[Act.eval])) ?_;refine (HSR.out _ (HX3.out.trans hx8d)).mono ?_;intro e9 w9 h9;obtain⟨B9,k9,d9,rfl,hr9,hx9⟩:=HRA.out _ _ _ h9;refine⟨_,rfl,zZ ⟨hx9, ?_⟩⟩;simp only[Act.put,sA,sB,sC];refine zG (k:=8) (by kernel_rfl) rfl (by rfl) (.tuple #[.slice B9 k9 d9,.int .i64 0]) (zD rfl rfl) hx9 ?_;simp only[sP,sB,sC];refine zG (k:=9) (by kernel_rfl) rfl (by rfl) (.slice B9 k9 d9) (yR rfl rfl rfl) hx9 ?_;simp only[sP,sB,sC];refine zG (k:=10) (by kernel_rfl) rfl (by rfl) (.int .i64 0) (yR rfl rfl rfl) hx9 ?_;simp only[sP,sB,sC];refine zG (k:=11) (by kernel_rfl) rfl (by rfl) (.slice B9 k9 d9) (zW rfl rfl) hx9 ?_;simp only[sP,sB,sC];refine zG (k:=12) (by kernel_rfl) rfl (by rfl) (.int .i64 0) (zW rfl rfl) hx9 ?_;simp only[sP,sB,sC];refine uA (by kernel_rfl) ?_;obtain⟨hk9,hs9⟩:=hr9 (by first | rfl | trivial);have ho9:=yE ho8d hx9
       go_wp2_with (first
        | ((with_reducible apply gS 85);at_builtin;refine wApf zBd rfl (.tmp 83) (.tmp 84) rfl w3.heap.size (.slice A8 (m+2) c8) (m+2) (zF acc++zF [255,q]) rfl ho9 _ k9 (zF r2) rfl hs9 (zHF _) (by omega) (by omega) (by have:=(hx8d.trans hx9).size;omega) ?_;intro A10 c10 w10 ho10 hgr10 hor10;have hx10:=(hx8d.trans hx9).grown' hgr10 (λb hb=>(ho9.lt b hb).1)))
       go_roundw
       case rel =>
        refine⟨i+1,m+2+k9,acc++zAX i++r2,by omega,by go_num,zA ?_,by omega,⟨A10,c10,rfl, ?_⟩,HOK.out (by first | rfl | trivial),hx10⟩
        ·rw[wE2,wE2,HM.out,hk9,HMZ.out];rfl
        rw[zAz,zAz,HMZ.out];exact ho10
       case measure=>simp[intOf];omega
      have h0b:(r1 !=0)=true:=by simpa using h0
      have H0N:=zA h0;clear h0
      go_wp2_with (first
       | ((with_reducible apply gS 59);refine yZ (by rfl) 139 (.tmp 58) rfl (td.add (i*2)) rfl (ints [(lo:Int),(hh:Int)]) _ HTC.out underlying139 rfl vE ?_;rw[HBV.out])
       | ((with_reducible apply gS 16);refine wAlo' rfl (some 16) rfl 139 rfl _ zCM ?_;intro w4 g16 hb4 hx4 hg4)
       | ((with_reducible apply gT 16 59);refine wStB rfl 139 (.tmp 16) (.tmp 59) rfl _ _ rfl rfl hb4 2 vE HS2.out HS20.out HO2.out ?_;intro w5 hb5 hg5;have hx5:Ext wr w5:=hx4.grown hg5 hg4)
       | ((with_reducible apply gS 61);refine zB rfl (.bool true) (xY rfl rfl rfl H61.out) ?_)
       | ((with_reducible apply gS 64);refine zB rfl (.int .i64 ((i1:Nat):Int)) (by rw[←HI1.out];exact xP (i:=i) (d:=1) rfl rfl rfl (by omega) (by omega)) ?_)
       | (go_at_call 103;(with_reducible refine (HMK.out _).mono ?_);rintro e w6 ⟨rfl,rfl⟩)
       | ((with_reducible apply gS 66);refine zB rfl (.int .u8 ((q:Nat):Int)) (zRt rfl rfl (by omega)) ?_)
       | ((with_reducible apply gS 67);refine zCq rfl _ _ rfl (some 67) rfl 255 q rfl rfl ?_;intro w7 g7 hb7 hx7 hg7;have ho7:=yE hown (hx5.trans hx7))
       | ((with_reducible apply gS 68);at_builtin;refine wApf zBd rfl (.tmp 62) (.tmp 67) rfl w3.heap.size (.slice OA m oc) m (zF acc) rfl ho7 _ 2 (zF [255,q]) rfl (zIC rfl hb7) (zHF _) (by omega) (by omega) (by have:=hx.size;have:=(hx5.trans hx7).size;omega) ?_;intro A8 c8 w8 ho8 hgr8 hor8;have hx8:=((hx.trans hx5).trans hx7).grown' hgr8 (λb hb=>(ho7.lt b hb).1);have hb8:=(zM hgr8).blk (hb5.ext hx7) (λe=>zIS (hb5.ext hx7) ho7 spanNe e.symm)))
      have hx8d:Ext w3 w8.drew:=hx8.drew;have hb8d:=hb8.drew;have ho8d:w8.drew.ownsRow w3.heap.size 5 1 (.slice A8 (m+2) c8) (m+2) (zF acc++zF [255,q]):=ho8;clear hb7 hx7 hg7 ho7 ho8 hgr8 hor8 hx8 hb8 hb4 hx4 hg4 hb5 hg5 hx5;have HGX:=zA (λW (h:Ext w8.drew W)=>((HG3.out.ext hx8d).ext h));have hI:Ext w8.drew w8.drew:=Ext.refl _;refine qR (Ext w8.drew) (by kernel_rfl) ?_;refine xE (k:=0) (by kernel_rfl) rfl (by rfl) (.agg tt) (λW hW=>uT rfl rfl (HGX.out W hW) underlying44 rfl qG hsz.out) hI ?_;simp only[Act.put,sA,sB,sC];refine zG (k:=1) (by kernel_rfl) rfl (by rfl) (.slice A n c) (zD rfl rfl) hI ?_;simp only[sP,sB,sC];refine zG (k:=2) (by kernel_rfl) rfl (by rfl) (.pointer (some ⟨g16,0,none⟩)) (λw=>by go_simp) hI ?_;simp only[sP,sB,sC];refine xE (k:=3) (by kernel_rfl) rfl (by rfl) (.int .i64 (lo:Int)) (λW hW=>zS rfl rfl (((hb8d.ext hW).cell 0).trans HC0.out.1)) hI ?_;simp only[Act.put,sA,sB,sC];refine zG (k:=4) (by kernel_rfl) rfl (by rfl) (.pointer (some ⟨g16,1,none⟩)) (λw=>by go_simp) hI ?_;simp only[sP,sB,sC];refine xE (k:=5) (by kernel_rfl) rfl (by rfl) (.int .i64 (hh:Int)) (λW hW=>zS rfl rfl (((hb8d.ext hW).cell 1).trans HC0.out.2)) hI ?_;simp only[Act.put,sA,sB,sC];refine zG (k:=6) (by kernel_rfl) rfl (by rfl) (.slice SA ln cl) (HSUB.out _ _ _ _ _ rfl rfl rfl rfl) hI ?_;simp only[sP,sB,sC];refine qI (k:=7) (by kernel_rfl) rfl ?_;refine xK (by rfl) (xL _ _ _ rfl rfl zFb #[.agg tt,.slice SA ln cl] (by simp[Act.eval])) ?_;refine (HSR.out _ (HX3.out.trans hx8d)).mono ?_;intro e9 w9 h9;obtain⟨B9,k9,d9,rfl,hr9,hx9⟩:=HRA.out _ _ _ h9;refine⟨_,rfl,zZ ⟨hx9, ?_⟩⟩;simp only[Act.put,sA,sB,sC];refine zG (k:=8) (by kernel_rfl) rfl (by rfl) (.tuple #[.slice B9 k9 d9,.int .i64 r1]) (zD rfl rfl) hx9 ?_;simp only[sP,sB,sC];refine zG (k:=9) (by kernel_rfl) rfl (by rfl) (.slice B9 k9 d9) (yR rfl rfl rfl) hx9 ?_;simp only[sP,sB,sC];refine zG (k:=10) (by kernel_rfl) rfl (by rfl) (.int .i64 r1) (yR rfl rfl rfl) hx9 ?_;simp only[sP,sB,sC];refine zG (k:=11) (by kernel_rfl) rfl (by rfl) (.slice B9 k9 d9) (zW rfl rfl) hx9 ?_;simp only[sP,sB,sC];refine zG (k:=12) (by kernel_rfl) rfl (by rfl) (.int .i64 r1) (zW rfl rfl) hx9 ?_;simp only[sP,sB,sC];refine uA (by kernel_rfl) ?_;go_wp2_with fail;refine bodyPost_ret (results_tmp2 rfl _ _ _) rfl ?_;rw[HFR.out,HER.out H0N.out];refine⟨HX3.out.trans (hx8d.trans hx9), ?_⟩;rw[if_neg H0N.out];rfl
     have H61:Hid (decide ((0:Int)<(i:Int))=false):=zA (by rw[decide_eq_false_iff_not];omega);have HMZ:Hid (zAX i=[]):=zA (by unfold zAX;rw[if_pos (by omega)])
     by_cases h0:r1=0
     ·subst h0
      go_wp2_with (first
       | ((with_reducible apply gS 59);refine yZ (by rfl) 139 (.tmp 58) rfl (td.add (i*2)) rfl (ints [(lo:Int),(hh:Int)]) _ HTC.out underlying139 rfl vE ?_;rw[HBV.out])
       | ((with_reducible apply gS 16);refine wAlo' rfl (some 16) rfl 139 rfl _ zCM ?_;intro w4 g16 hb4 hx4 hg4)
       | ((with_reducible apply gT 16 59);refine wStB rfl 139 (.tmp 16) (.tmp 59) rfl _ _ rfl rfl hb4 2 vE HS2.out HS20.out HO2.out ?_;intro w5 hb5 hg5;have hx5:Ext wr w5:=hx4.grown hg5 hg4)
       | ((with_reducible apply gS 61);refine zB rfl (.bool false) (xY rfl rfl rfl H61.out) ?_))
      have hx8d:Ext w3 w5.drew:=(hx.trans hx5).drew;have hb8d:=hb5.drew;have ho8d:=yE hown (hx5.drew);clear hb4 hx4 hg4 hb5 hg5 hx5;have HGX:=zA (λW (h:Ext w5.drew W)=>((HG3.out.ext hx8d).ext h));have hI:Ext w5.drew w5.drew:=Ext.refl _;refine qR (Ext w5.drew) (by kernel_rfl) ?_;refine xE (k:=0) (by kernel_rfl) rfl (by rfl) (.agg tt) (λW hW=>uT rfl rfl (HGX.out W hW) underlying44 rfl qG hsz.out) hI ?_;simp only[Act.put,sA,sB,sC];refine zG (k:=1) (by kernel_rfl) rfl (by rfl) (.slice A n c) (zD rfl rfl) hI ?_;simp only[sP,sB,sC];refine zG (k:=2) (by kernel_rfl) rfl (by rfl) (.pointer (some ⟨g16,0,none⟩)) (λw=>by go_simp) hI ?_;simp only[sP,sB,sC];refine xE (k:=3) (by kernel_rfl) rfl (by rfl) (.int .i64 (lo:Int)) (λW hW=>zS rfl rfl (((hb8d.ext hW).cell 0).trans HC0.out.1)) hI ?_;simp only[Act.put,sA,sB,sC];refine zG (k:=4) (by kernel_rfl) rfl (by rfl) (.pointer (some ⟨g16,1,none⟩)) (λw=>by go_simp) hI ?_;simp only[sP,sB,sC];refine xE (k:=5) (by kernel_rfl) rfl (by rfl) (.int .i64 (hh:Int)) (λW hW=>zS rfl rfl (((hb8d.ext hW).cell 1).trans HC0.out.2)) hI ?_;simp only[Act.put,sA,sB,sC];refine zG (k:=6) (by kernel_rfl) rfl (by rfl) (.slice SA ln cl) (HSUB.out _ _ _ _ _ rfl rfl rfl rfl) hI ?_;simp only[sP,sB,sC];refine qI (k:=7) (by kernel_rfl) rfl ?_;refine xK (by rfl) (xL _ _ _ rfl rfl zFb #[.agg tt,.slice SA ln cl] (by simp[Act.eval])) ?_;refine (HSR.out _ (HX3.out.trans hx8d)).mono ?_;intro e9 w9 h9;obtain⟨B9,k9,d9,rfl,hr9,hx9⟩:=HRA.out _ _ _ h9;refine⟨_,rfl,zZ ⟨hx9, ?_⟩⟩;simp only[Act.put,sA,sB,sC];refine zG (k:=8) (by kernel_rfl) rfl (by rfl) (.tuple #[.slice B9 k9 d9,.int .i64 0]) (zD rfl rfl) hx9 ?_;simp only[sP,sB,sC];refine zG (k:=9) (by kernel_rfl) rfl (by rfl) (.slice B9 k9 d9) (yR rfl rfl rfl) hx9 ?_;simp only[sP,sB,sC];refine zG (k:=10) (by kernel_rfl) rfl (by rfl) (.int .i64 0) (yR rfl rfl rfl) hx9 ?_;simp only[sP,sB,sC];refine zG (k:=11) (by kernel_rfl) rfl (by rfl) (.slice B9 k9 d9) (zW rfl rfl) hx9 ?_;simp only[sP,sB,sC];refine zG (k:=12) (by kernel_rfl) rfl (by rfl) (.int .i64 0) (zW rfl rfl) hx9 ?_;simp only[sP,sB,sC];refine uA (by kernel_rfl) ?_;obtain⟨hk9,hs9⟩:=hr9 (by first | rfl | trivial);have ho9:=yE ho8d hx9
      go_wp2_with (first
       | ((with_reducible apply gS 85);at_builtin;refine wApf zBd rfl (.tmp 83) (.tmp 84) rfl w3.heap.size (.slice OA m oc) (m) (zF acc) rfl ho9 _ k9 (zF r2) rfl hs9 (zHF _) (by omega) (by omega) (by have:=(hx8d.trans hx9).size;omega) ?_;intro A10 c10 w10 ho10 hgr10 hor10;have hx10:=(hx8d.trans hx9).grown' hgr10 (λb hb=>(ho9.lt b hb).1)))
      go_roundw
      case rel =>
       refine⟨i+1,m+k9,acc++zAX i++r2,by omega,by go_num,zA ?_,by omega,⟨A10,c10,rfl, ?_⟩,HOK.out (by first | rfl | trivial),hx10⟩
       ·rw[wE2,wE2,HM.out,hk9,HMZ.out];rfl
       rw[zAz,zAz,HMZ.out];rw[show zF []=[] by unfold zF;rfl,wG9];exact ho10
      case measure=>simp[intOf];omega
     have h0b:(r1 !=0)=true:=by simpa using h0
     have H0N:=zA h0;clear h0
     go_wp2_with (first
      | ((with_reducible apply gS 59);refine yZ (by rfl) 139 (.tmp 58) rfl (td.add (i*2)) rfl (ints [(lo:Int),(hh:Int)]) _ HTC.out underlying139 rfl vE ?_;rw[HBV.out])
      | ((with_reducible apply gS 16);refine wAlo' rfl (some 16) rfl 139 rfl _ zCM ?_;intro w4 g16 hb4 hx4 hg4)
      | ((with_reducible apply gT 16 59);refine wStB rfl 139 (.tmp 16) (.tmp 59) rfl _ _ rfl rfl hb4 2 vE HS2.out HS20.out HO2.out ?_;intro w5 hb5 hg5;have hx5:Ext wr w5:=hx4.grown hg5 hg4)
      | ((with_reducible apply gS 61);refine zB rfl (.bool false) (xY rfl rfl rfl H61.out) ?_))
     have hx8d:Ext w3 w5.drew:=(hx.trans hx5).drew;have hb8d:=hb5.drew;have ho8d:=yE hown (hx5.drew);clear hb4 hx4 hg4 hb5 hg5 hx5;have HGX:=zA (λW (h:Ext w5.drew W)=>((HG3.out.ext hx8d).ext h));have hI:Ext w5.drew w5.drew:=Ext.refl _;refine qR (Ext w5.drew) (by kernel_rfl) ?_;refine xE (k:=0) (by kernel_rfl) rfl (by rfl) (.agg tt) (λW hW=>uT rfl rfl (HGX.out W hW) underlying44 rfl qG hsz.out) hI ?_;simp only[Act.put,sA,sB,sC];refine zG (k:=1) (by kernel_rfl) rfl (by rfl) (.slice A n c) (zD rfl rfl) hI ?_;simp only[sP,sB,sC];refine zG (k:=2) (by kernel_rfl) rfl (by rfl) (.pointer (some ⟨g16,0,none⟩)) (λw=>by go_simp) hI ?_;simp only[sP,sB,sC];refine xE (k:=3) (by kernel_rfl) rfl (by rfl) (.int .i64 (lo:Int)) (λW hW=>zS rfl rfl (((hb8d.ext hW).cell 0).trans HC0.out.1)) hI ?_;simp only[Act.put,sA,sB,sC];refine zG (k:=4) (by kernel_rfl) rfl (by rfl) (.pointer (some ⟨g16,1,none⟩)) (λw=>by go_simp) hI ?_;simp only[sP,sB,sC];refine xE (k:=5) (by kernel_rfl) rfl (by rfl) (.int .i64 (hh:Int)) (λW hW=>zS rfl rfl (((hb8d.ext hW).cell 1).trans HC0.out.2)) hI ?_;simp only[Act.put,sA,sB,sC];refine zG (k:=6) (by kernel_rfl) rfl (by rfl) (.slice SA ln cl) (HSUB.out _ _ _ _ _ rfl rfl rfl rfl) hI ?_;simp only[sP,sB,sC];refine qI (k:=7) (by kernel_rfl) rfl ?_;refine xK (by rfl) (xL _ _ _ rfl rfl zFb #[.agg tt,.slice SA ln cl] (by simp[Act.eval])) ?_;refine (HSR.out _ (HX3.out.trans hx8d)).mono ?_;intro e9 w9 h9;obtain⟨B9,k9,d9,rfl,hr9,hx9⟩:=HRA.out _ _ _ h9;refine⟨_,rfl,zZ ⟨hx9, ?_⟩⟩;simp only[Act.put,sA,sB,sC];refine zG (k:=8) (by kernel_rfl) rfl (by rfl) (.tuple #[.slice B9 k9 d9,.int .i64 r1]) (zD rfl rfl) hx9 ?_;simp only[sP,sB,sC];refine zG (k:=9) (by kernel_rfl) rfl (by rfl) (.slice B9 k9 d9) (yR rfl rfl rfl) hx9 ?_;simp only[sP,sB,sC];refine zG (k:=10) (by kernel_rfl) rfl (by rfl) (.int .i64 r1) (yR rfl rfl rfl) hx9 ?_;simp only[sP,sB,sC];refine zG (k:=11) (by kernel_rfl) rfl (by rfl) (.slice B9 k9 d9) (zW rfl rfl) hx9 ?_;simp only[sP,sB,sC];refine zG (k:=12) (by kernel_rfl) rfl (by rfl) (.int .i64 r1) (zW rfl rfl) hx9 ?_;simp only[sP,sB,sC];refine uA (by kernel_rfl) ?_;go_wp2_with fail;refine bodyPost_ret (results_tmp2 rfl _ _ _) rfl ?_;rw[HFR.out,HER.out H0N.out];refine⟨HX3.out.trans (hx8d.trans hx9), ?_⟩;rw[if_neg H0N.out];rfl
    have hiK:K-i=0:=by omega
    have HR2:Hid (R=(0,acc)):=zA (by rw[←HR.out,hiK,zAF]);have hnn:=zJj hown;clear HR;go_wp2_with fail;refine bodyPost_ret (results_tmp2 rfl _ _ _) rfl ?_;rw[HFR.out,HR2.out];refine⟨HX3.out.trans hx, ?_⟩;rw[if_pos rfl];exact⟨OA,m,oc,rfl,HM.out,(jC hown).1,hnn⟩
  have hbb:(qJ n Z !=0)=true:=by simpa using hbe
  have HBE:=zA hbe;have HFR:=zA (HFE.out hbe);clear hbe HFE HFO;generalize qJ n Z=be at *
  go_wp2_with (first
   | (go_at_call 100;(with_reducible refine (HCO.out _ hx).mono ?_);rintro e w2 ⟨u2,v2,rfl,hx2⟩;have hx2':=hx.trans hx2))
  refine bodyPost_ret (results_tmp2 rfl _ _ _) rfl ?_;rw[HFR.out];refine⟨hx2', ?_⟩;rw[if_neg HBE.out];rfl
end
def twoE (cs1 xs1 cs2 xs2:List Int):Int:=if zQ cs1 xs1=0 then zQ cs2 xs2 else zQ cs1 xs1
def zAr (cs1 xs1 cs2 xs2:List Int) (nn:Int) (n:Nat) (Z:List Int):Int×List Nat :=
 if nn<0∨100<nn then (1,[]) else if twoE cs1 xs1 cs2 xs2≠0 then (twoE cs1 xs1 cs2 xs2,[]) else zBN (zH (zC cs1 16) xs1) (zH (zC cs2 16) xs2) n nn.toNat Z
def scanE_any (cs1 xs1 cs2 xs2:List Int) (s1 s2:Value) (l1:cs1.length=16) (l2:cs2.length=16) (A:Option Addr) (n c:Nat) (Z:List Int) (hZ:Z.length=n*64) (nn:Int) (m0:Int) (w:World) (hm:w.cell? ⟨0,0,none⟩=some (.int .i64 m0))
 (hs1:SL w 1 s1 xs1.length (ints xs1)) (hs2:SL w 1 s2 xs2.length (ints xs2)) (hs:SL w 64 (.slice A n c) n (ints Z)) :
 Calls prog 45 #[.agg (zV cs1 s1++zV cs2 s2).toArray,.slice A n c,.int .i64 nn] w (zGO (zAr cs1 xs1 cs2 xs2 nn n Z) w):=by
 by_cases hr:nn<0∨100<nn
 ·rw[zAr,if_pos hr];exact zQS _ _ nn w hr
 rw[zAr,if_neg hr];have h1:=zU cs1 s1 l1;have h2:=zU cs2 s2 l2;have C1:∀W,Ext w W→Calls prog 102 #[.agg (zV cs1 s1).toArray] W λe W'=>e=.returned (.int .i64 (zQ cs1 xs1))∧Ext W W':=λW h=>zCJ cs1 xs1 s1 W l1 (hs1.ext h)
 have C2:∀W,Ext w W→Calls prog 102 #[.agg (zV cs2 s2).toArray] W λe W'=>e=.returned (.int .i64 (zQ cs2 xs2))∧Ext W W':=λW h=>zCJ cs2 xs2 s2 W l2 (hs2.ext h)
 have o1:=zCm cs1 s1 hs1;have o2:=zCm cs2 s2 hs2
 by_cases hE:twoE cs1 xs1 cs2 xs2=0
 ·rw[if_neg (by simpa using hE)];unfold twoE at hE
  have z1:zQ cs1 xs1=0:=by
   by_cases h:zQ cs1 xs1=0
   ·exact h
   rw[if_neg h] at hE;exact hE
  have z2:zQ cs2 xs2=0:=by rw[if_pos z1] at hE;exact hE
  rw[z1] at C1;rw[z2] at C2;obtain⟨e,rfl⟩:∃e:Nat,nn=(e:Int):=⟨nn.toNat,by omega⟩
  have he:e≤100:=by omega
  have f1:=zEJ cs1 xs1 l1 z1;have f2:=zEJ cs2 xs2 l2 z2;rw[wD7]
  exact zQh _ _ f1 f2 _ _ A n c Z hZ e he w hs h1 h2 o1 o2 C1 C2
   (λW' A' m c' P h' hP hp=>zTW _ _ f1 f2 _ _ A' m c' P hP m0 W' hp (uG hm h') h1 h2 o1 o2 (λW2 h3=>C1 W2 (h'.trans h3)) (λW2 h3=>C2 W2 (h'.trans h3))
     (λW2 h3=>zDr cs1 xs1 s1 W2 l1 ((hs1.ext h').ext h3) z1) (λW2 h3=>zDr cs2 xs2 s2 W2 l2 ((hs2.ext h').ext h3) z2))
 rw[if_pos hE];exact zSt _ _ _ _ _ nn w (by omega) (by omega) h1 h2 o1 o2 C1 C2 hE
def zTd (n d:Int): -2047≤zBO n d∧zBO n d≤2047:=by exact zIW _ _ _ (by omega)
def zKq {F:Int→Int→Int}:∀(a b:List Int) (z:Int),z∈List.zipWith F a b→∃x y,z=F x y
 | [],_,z,h=>by simp at h
 | _::_,[],z,h=>by simp at h
 | x::a,y::b,z,h=>by
   rw[wI5,wI8] at h;rcases h with h | h
   ·exact⟨x,y,h⟩
   exact zKq a b z h
def zUm (b q:List Int) (z:Int) (h:z∈blkF b q): -2047≤z∧z≤2047:=by
 unfold blkF vN at h;have h0:∀z∈xC,-2047≤z∧z≤2047:=by decide
 split at h
 ·split at h
  ·obtain⟨x,y,rfl⟩:=zKq _ _ z h;exact zTd x y
  exact h0 z h
 exact h0 z h
def zNG (q X:List Int):∀(k:Nat) (z:Int),z∈zAa q X k→ -2047≤z∧z≤2047
 | 0,z,h=>by simp[zAa] at h
 | k+1,z,h=>by
   rw[zAa,wD3] at h;rcases h with h | h
   ·exact zNG q X k z h
   exact zUm _ _ z h
def zLg (wd hi:Int) (L:List (List Int)) (q:List Int):qJ (zO wd hi L q).2.1 (zO wd hi L q).2.2=0:=by
 refine zCh.2 ?_;unfold zO;split
 ·rename_i hE;split
  ·dsimp only;refine⟨?_,λz hz=> ?_⟩
   ·have hT:=zPy tto L (picE_ok hE).1;have:=zJf wd hi (zCW tto L) (zCW tto L).length;rw[wP0] at this;omega
   obtain⟨l,-,h⟩:=wS6.1 hz;exact zNG q _ _ z h
  exact⟨by simp,by simp⟩
 exact⟨by simp,by simp⟩
def zOQ (off:Nat):∀(news old a b:List Value) (k:Nat),a.length=off+k→old.length=news.length →
 (news.zipIdx k).foldl (λcs (x:Value×Nat)=>cs.setIfInBounds (off+x.2) x.1) (a++(old++b)).toArray=(a++(news++b)).toArray
 | [],old,a,b,k,_,h=>by
   have:old=[]:=wP7.1 (by simpa using h);subst this;rfl
 | v::news,[],a,b,k,_,h=>by simp at h
 | v::news,o::old,a,b,k,ha,h=>by
   rw[wN2,List.foldl_cons];dsimp only;rw[wJ8,wL4 _ _ (by omega),show off+k-a.length=0 by omega,wE1,wJ9];have:=zOQ off news old (a++[v]) b (k+1) (by simp;omega) (by simpa using h);rw[show a++v::(old++b)=(a++[v])++(old++b) by simp,this];simp
def zDp (place:Nat→Option (Nat×Nat)) (i off:Nat) (v:Value) (news:List Value) (rest:List (Nat×Value)) (a old b:List Value) (hp:place i=some (off,news.length)) (hv:v.cells=news.toArray) (ha:a.length=off) (ho:old.length=news.length) :
 Instr.fill place (a++(old++b)).toArray ((i,v)::rest)=Instr.fill place (a++(news++b)).toArray rest:=by
 rw[Instr.fill,hp];dsimp only;rw[hv,if_neg (by simp;omega)];congr 1
 rw[←Array.foldl_toList,Array.toList_zipIdx];exact zOQ off news old a b 0 (by omega) ho
def placesF:List (Nat×Nat):=[(0,1),(1,1),(2,1),(3,64),(67,34),(101,1),(102,1)]
def zVE (parts:List (Nat×Value)):prog.built 47 parts=Instr.fill (placesF.toArray[·]?) zFile parts:=by
 show _=_
 kernel_rfl
def zNH (wd hi pt ev:Int) (qs:List Int) (hq:qs.length=64) (t1 t2:List Value) (h1:t1.length=17) (h2:t2.length=17) :
 prog.built 47 [(0,.int .i64 wd),(1,.int .i64 hi),(2,.int .i64 pt),(3,.agg (bv qs)),(5,.int .i64 ev),(4,.agg (t1++t2).toArray)]=some (xG wd hi pt qs t1 t2 ev (.slice none 0 0)).toArray:=by
 rw[zVE];obtain⟨zq,hzq⟩:∃l,l=ints (List.replicate 64 0):=⟨_,rfl⟩
 obtain⟨zt,hzt⟩:∃l,l=zV (List.replicate 16 0) (.slice none 0 0)++zV (List.replicate 16 0) (.slice none 0 0):=⟨_,rfl⟩
 have l1:zq.length=64:=by rw[hzq];simp[yI]
 have l2:zt.length=34:=by rw[hzt];rfl
 have e:zFile=([]++([Value.int .i64 0]++([Value.int .i64 0,Value.int .i64 0]++(zq++(zt++[Value.int .i64 0,Value.slice none 0 0])))):List Value).toArray:=by
  rw[hzq,hzt];simp[zFile,FC.zero,FC.cells,xG,ints]
 rw[e,zDp _ 0 0 _ [.int .i64 wd] _ _ _ _ (by rfl) (by rfl) (by rfl) (by rfl)];have e1:([]++([Value.int .i64 wd]++([.int .i64 0,.int .i64 0]++(zq++(zt++[.int .i64 0,.slice none 0 0])))):List Value).toArray=([Value.int .i64 wd]++([.int .i64 0]++([.int .i64 0]++(zq++(zt++[.int .i64 0,.slice none 0 0])))):List Value).toArray:=by simp
 rw[e1];rw[zDp _ 1 1 _ [.int .i64 hi] _ _ _ _ (by rfl) (by rfl) (by rfl) (by rfl)];have e2:([Value.int .i64 wd]++([.int .i64 hi]++([.int .i64 0]++(zq++(zt++[.int .i64 0,.slice none 0 0])))):List Value).toArray=([Value.int .i64 wd,.int .i64 hi]++([.int .i64 0]++(zq++(zt++[.int .i64 0,.slice none 0 0]))):List Value).toArray:=by simp
 rw[e2];rw[zDp _ 2 2 _ [.int .i64 pt] _ _ _ _ (by rfl) (by rfl) (by rfl) (by rfl)];have e3:([Value.int .i64 wd,.int .i64 hi]++([.int .i64 pt]++(zq++(zt++[.int .i64 0,.slice none 0 0]))):List Value).toArray=([Value.int .i64 wd,.int .i64 hi,.int .i64 pt]++(zq++(zt++[.int .i64 0,.slice none 0 0])):List Value).toArray:=by simp
 rw[e3];rw[zDp _ 3 3 (.agg (bv qs)) (ints qs) _ _ _ _ (by rw[yI,hq];rfl) (by rfl) (by rfl) (by rw[yI,l1,hq])];have e4:([Value.int .i64 wd,.int .i64 hi,.int .i64 pt]++(ints qs++(zt++[.int .i64 0,.slice none 0 0])):List Value).toArray=(([Value.int .i64 wd,.int .i64 hi,.int .i64 pt]++ints qs++zt)++([.int .i64 0]++[.slice none 0 0]):List Value).toArray:=by simp
 rw[e4];rw[zDp _ 5 101 _ [.int .i64 ev] _ _ _ _ (by rfl) (by rfl) (by simp[yI,hq,l2]) (by rfl)];have e5:(([Value.int .i64 wd,.int .i64 hi,.int .i64 pt]++ints qs++zt)++([.int .i64 ev]++[.slice none 0 0]):List Value).toArray=(([Value.int .i64 wd,.int .i64 hi,.int .i64 pt]++ints qs)++(zt++[.int .i64 ev,.slice none 0 0]):List Value).toArray:=by simp
 rw[e5];rw[zDp _ 4 67 (.agg (t1++t2).toArray) (t1++t2) _ _ _ _ (by rw[wE2,h1,h2];rfl) (by rfl) (by simp[yI,hq]) (by rw[wE2,h1,h2,l2])];simp[Instr.fill,xG,ints]
section
def zDP (wd hi:Int) (L:List (List Int)) (q:List Int) (nn E:Int) (F:FC):Prop :=
 if (zO wd hi L q).1≠0 then E=(zO wd hi L q).1∧F=FC.zero
 else if nn<0∨100<nn then E=1∧F=FC.zero
 else ∃cs1 xs1 cs2 xs2,zDJ (xJ (zO wd hi L q).2.1 nn.toNat (zO wd hi L q).2.2 (zL (zO wd hi L q).2.1 nn.toNat)).1 cs1 xs1∧zDJ (xJ (zO wd hi L q).2.1 nn.toNat (zO wd hi L q).2.2 (zL (zO wd hi L q).2.1 nn.toNat)).2 cs2 xs2∧cs1.length=16∧cs2.length=16 ∧
  E=(zAr cs1 xs1 cs2 xs2 nn (zO wd hi L q).2.1 (zO wd hi L q).2.2).1∧F=if E=0 then ⟨wd,hi,L.length,q,cs1,xs1,cs2,xs2,nn,(zAr cs1 xs1 cs2 xs2 nn (zO wd hi L q).2.1 (zO wd hi L q).2.2).2⟩ else FC.zero
def NewB (w:World) (v:Value):Prop:=∀b,v.ownBlock=some b→w.heap.size≤b
def zRi (w:World):NewB w (.slice none 0 0):=λb h=>by cases h
def EncIs (wd hi:Int) (L:List (List Int)) (q:List Int) (nn:Int) (w:World) (e:Ending) (w':World):Prop :=
 ∃E F s1 s2 sd,e=.returned (.tuple #[.agg (F.cells s1 s2 sd),.int .i64 E])∧F.shaped∧F.at_ w' s1 s2 sd∧zDP wd hi L q nn E F∧Ext w w'∧NewB w s1∧NewB w s2
def EncIs.zero {wd hi:Int} {L:List (List Int)} {q:List Int} {nn E:Int} {w w':World} (h:zDP wd hi L q nn E FC.zero) (hx:Ext w w'):EncIs wd hi L q nn w (.returned (.tuple #[.agg zFile,.int .i64 E])) w' :=
 ⟨E,FC.zero,_,_,_,rfl,zKy,zero_at w',h,hx,zRi w,zRi w⟩
attribute [local irreducible] bv zO xJ zL zAr zFile

def fenc_bad (wd hi:Int) (L:List (List Int)) (A:Option Addr) (n c:Nat) (q:List Int) (hq:q.length=64) (nn:Int) (w:World) (hr:RowsS w A n c L) (hE:(zO wd hi L q).1≠0) :
 Calls prog 17 #[.agg (yX wd hi (.slice A n c)),.agg (bv q),.int .i64 nn] w (EncIs wd hi L q nn w):=by
 have H1:=zA (λW (h:Ext w W)=>zEl wd hi L A n c q hq W (hr.ext h));have HR:=zA (λW (h:Ext w W)=>EncIs.zero (wd:=wd) (hi:=hi) (L:=L) (q:=q) (nn:=nn) (E:=(zO wd hi L q).1) (w:=w) (w':=W) (by unfold zDP;rw[if_pos hE];exact⟨rfl,rfl⟩) h);have hzb:decide ((zO wd hi L q).1=0)=false:=by simpa using hE
 have hps:=zA (jB wd hi (.slice A n c));have hqs:=zA (show (bv q).size=64 by rw[zK,hq]);have hzs:=zA zBb;have hz0:=zCH;have hbf:=zA zFj;unfold FrmIs at H1;generalize zO wd hi L q=z at *;obtain⟨E,m,Z⟩:=z;dsimp only at H1 HR hzb hE;have HE:=zA hE;generalize yX wd hi (.slice A n c)=pv at *;generalize bv q=qv at *;clear hE hr hq;go_enter func17,ntmps17
 go_wp2_with (first
  | ((with_reducible apply gS 3);refine wBox rfl 31 (.tmp 0) rfl pv rfl ?_;intro w1 g1 hb1 hx1 hg1)
  | ((with_reducible apply gS 4);refine wBox rfl 33 (.tmp 1) rfl qv rfl ?_;intro w2 g2 hb2 hx2 hg2;have hb12:=hb1.ext hx2;have hx12:=hx1.trans hx2)
  | ((with_reducible apply gS 6);refine wAlo' rfl (some 6) rfl 47 rfl _ hz0 ?_;intro w3 g0 hb0 hx3 hg0;have hb13:=hb12.ext hx3;have hb23:=hb2.ext hx3;have hx13:=hx12.trans hx3)
  | ((with_reducible apply gS 12);refine wLdB rfl 31 (.tmp 3) rfl g1 rfl hb13 _ underlying31 rfl 3 qY hps.out ?_)
  | ((with_reducible apply gS 13);refine wLdB rfl 33 (.tmp 4) rfl g2 rfl hb23 _ underlying33 rfl 64 zJ hqs.out ?_)
  | (go_at_call 13;(with_reducible refine (H1.out _ hx13).mono ?_);rintro e4 w4 ⟨B4,d4,rfl,hs4,hx4⟩)
  | ((with_reducible apply gS 18);refine zB rfl (.bool false) (uZ rfl rfl rfl hzb) ?_)
  | ((with_reducible apply gS 28);refine zB rfl (.bool true) (jW rfl rfl rfl (by simpa using HE.out)) ?_)
  | ((with_reducible apply gS 29);refine jI (by rfl) 47 rfl _ hbf.out ?_)
  | ((with_reducible apply gT 6 29);refine wStB rfl 47 (.tmp 6) (.tmp 29) rfl g0 zFile rfl rfl (hb0.ext hx4) 103 yO hzs.out hzs.out zDn ?_;intro w5 hb5 hg5))
 exact yN rfl rfl g0 rfl hb5 _ underlying47 rfl 103 yO hzs.out (HR.out _ ((hx13.trans hx4).grown hg5 (by have:=hx12.size;omega)))

def fenc_low (wd hi:Int) (L:List (List Int)) (A:Option Addr) (n c:Nat) (q:List Int) (hq:q.length=64) (nn:Int) (w:World) (hr:RowsS w A n c L) (hE:(zO wd hi L q).1=0) (hn:nn<0) :
 Calls prog 17 #[.agg (yX wd hi (.slice A n c)),.agg (bv q),.int .i64 nn] w (EncIs wd hi L q nn w):=by
 have H1:=zA (λW (h:Ext w W)=>zEl wd hi L A n c q hq W (hr.ext h));have HR:=zA (λW (h:Ext w W)=>EncIs.zero (wd:=wd) (hi:=hi) (L:=L) (q:=q) (nn:=nn) (E:=1) (w:=w) (w':=W) (by unfold zDP;rw[if_neg (by simpa using hE),if_pos (by omega)];exact⟨rfl,rfl⟩) h);have hps:=zA (jB wd hi (.slice A n c));have hqs:=zA (show (bv q).size=64 by rw[zK,hq]);have hzs:=zA zBb;have hz0:=zCH;have hbf:=zA zFj;unfold FrmIs at H1;generalize zO wd hi L q=z at *;obtain⟨E,m,Z⟩:=z;dsimp only at H1 HR hE;subst hE;have HN:=zA hn;generalize yX wd hi (.slice A n c)=pv at *;generalize bv q=qv at *;clear hr hq hn;go_enter func17,ntmps17
 go_wp2_with (first
  | ((with_reducible apply gS 3);refine wBox rfl 31 (.tmp 0) rfl pv rfl ?_;intro w1 g1 hb1 hx1 hg1)
  | ((with_reducible apply gS 4);refine wBox rfl 33 (.tmp 1) rfl qv rfl ?_;intro w2 g2 hb2 hx2 hg2;have hb12:=hb1.ext hx2;have hx12:=hx1.trans hx2)
  | ((with_reducible apply gS 6);refine wAlo' rfl (some 6) rfl 47 rfl _ hz0 ?_;intro w3 g0 hb0 hx3 hg0;have hb13:=hb12.ext hx3;have hb23:=hb2.ext hx3;have hx13:=hx12.trans hx3)
  | ((with_reducible apply gS 12);refine wLdB rfl 31 (.tmp 3) rfl g1 rfl hb13 _ underlying31 rfl 3 qY hps.out ?_)
  | ((with_reducible apply gS 13);refine wLdB rfl 33 (.tmp 4) rfl g2 rfl hb23 _ underlying33 rfl 64 zJ hqs.out ?_)
  | (go_at_call 13;(with_reducible refine (H1.out _ hx13).mono ?_);rintro e4 w4 ⟨B4,d4,rfl,hs4,hx4⟩)
  | ((with_reducible apply gS 21);refine xV (by rfl) (.bool true) (yB rfl rfl rfl (wS2 HN.out)) ?_)
  | ((with_reducible apply gS 29);refine jI (by rfl) 47 rfl _ hbf.out ?_)
  | ((with_reducible apply gT 6 29);refine wStB rfl 47 (.tmp 6) (.tmp 29) rfl g0 zFile rfl rfl (hb0.ext hx4) 103 yO hzs.out hzs.out zDn ?_;intro w5 hb5 hg5))
 exact yN rfl rfl g0 rfl hb5 _ underlying47 rfl 103 yO hzs.out (HR.out _ ((hx13.trans hx4).grown hg5 (by have:=hx12.size;omega)))

def fenc_high (wd hi:Int) (L:List (List Int)) (A:Option Addr) (n c:Nat) (q:List Int) (hq:q.length=64) (nn:Int) (w:World) (hr:RowsS w A n c L) (hE:(zO wd hi L q).1=0) (hn:¬nn<0∧100<nn) :
 Calls prog 17 #[.agg (yX wd hi (.slice A n c)),.agg (bv q),.int .i64 nn] w (EncIs wd hi L q nn w):=by
 have H1:=zA (λW (h:Ext w W)=>zEl wd hi L A n c q hq W (hr.ext h));have HR:=zA (λW (h:Ext w W)=>EncIs.zero (wd:=wd) (hi:=hi) (L:=L) (q:=q) (nn:=nn) (E:=1) (w:=w) (w':=W) (by unfold zDP;rw[if_neg (by simpa using hE),if_pos (by omega)];exact⟨rfl,rfl⟩) h);have hps:=zA (jB wd hi (.slice A n c));have hqs:=zA (show (bv q).size=64 by rw[zK,hq]);have hzs:=zA zBb;have hz0:=zCH;have hbf:=zA zFj;unfold FrmIs at H1;generalize zO wd hi L q=z at *;obtain⟨E,m,Z⟩:=z;dsimp only at H1 HR hE;subst hE;have H21:Hid (decide (nn<0)=false):=zA (wS3 hn.1);have H24:Hid (decide ((100:Int)<nn)=true):=zA (wS2 hn.2);generalize yX wd hi (.slice A n c)=pv at *;generalize bv q=qv at *;clear hr hq hn;go_enter func17,ntmps17
 go_wp2_with (first
  | ((with_reducible apply gS 3);refine wBox rfl 31 (.tmp 0) rfl pv rfl ?_;intro w1 g1 hb1 hx1 hg1)
  | ((with_reducible apply gS 4);refine wBox rfl 33 (.tmp 1) rfl qv rfl ?_;intro w2 g2 hb2 hx2 hg2;have hb12:=hb1.ext hx2;have hx12:=hx1.trans hx2)
  | ((with_reducible apply gS 6);refine wAlo' rfl (some 6) rfl 47 rfl _ hz0 ?_;intro w3 g0 hb0 hx3 hg0;have hb13:=hb12.ext hx3;have hb23:=hb2.ext hx3;have hx13:=hx12.trans hx3)
  | ((with_reducible apply gS 12);refine wLdB rfl 31 (.tmp 3) rfl g1 rfl hb13 _ underlying31 rfl 3 qY hps.out ?_)
  | ((with_reducible apply gS 13);refine wLdB rfl 33 (.tmp 4) rfl g2 rfl hb23 _ underlying33 rfl 64 zJ hqs.out ?_)
  | (go_at_call 13;(with_reducible refine (H1.out _ hx13).mono ?_);rintro e4 w4 ⟨B4,d4,rfl,hs4,hx4⟩)
  | ((with_reducible apply gS 21);refine xV (by rfl) (.bool false) (yB rfl rfl rfl H21.out) ?_)
  | ((with_reducible apply gS 24);refine xV (by rfl) (.bool true) (xY rfl rfl rfl H24.out) ?_)
  | ((with_reducible apply gS 29);refine jI (by rfl) 47 rfl _ hbf.out ?_)
  | ((with_reducible apply gT 6 29);refine wStB rfl 47 (.tmp 6) (.tmp 29) rfl g0 zFile rfl rfl (hb0.ext hx4) 103 yO hzs.out hzs.out zDn ?_;intro w5 hb5 hg5))
 exact yN rfl rfl g0 rfl hb5 _ underlying47 rfl 103 yO hzs.out (HR.out _ ((hx13.trans hx4).grown hg5 (by have:=hx12.size;omega)))
