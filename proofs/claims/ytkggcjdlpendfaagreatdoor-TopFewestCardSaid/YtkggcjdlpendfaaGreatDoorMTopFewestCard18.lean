import Derived.Test.YtkggcjdlpendfaaGreatDoorMTopFewestCard17
set_option linter.all false
set_option maxRecDepth 20000
set_option maxHeartbeats 8000000
namespace Go.Proofs.YtkggcjdlpendfaaGreatDoor
open Go.RowKit
section
def cnt_okS: ∀ (l:List (Tok×Bool)) (s:List Int×List Int),(xV yT l s).1=0
 | [],_=>rfl
 | (_,_)::r,_=>by rw[zAv rfl];exact cnt_okS r _
def each_eS (n:Nat) (Z:List Int) (s:List Int×List Int):(xZ yT n Z s).1=qL n Z:=by
 unfold xZ qL;split
 ·rfl
 ·split
  ·rfl
  ·exact cnt_okS _ _
def zSA {n:Nat} {Z:List Int} (h:qL n Z=0):n≤400:=by
 unfold qL at h
 by_cases h1:400<n
 ·rw[if_pos h1] at h;cases h
 ·omega
def zRQ (A:Option Addr) (n c:Nat) (Z:List Int) (hZ:Z.length=n*64) (w:World) (hs:SL w 64 (.slice A n c) n (ints Z)) :
 Calls Tryz.prog 100 #[.slice A n c] w fun e w'=> ∃ u v,e=.returned (.tuple #[u,v,.int .i64 (qL n Z)])∧Ext w w' :=
 (zLG A n c Z hZ w hs).mono fun e w' h=>by
   obtain⟨hx,h⟩:=h;rw[each_eS] at h
   by_cases h0:qL n Z=0
   ·rw[if_pos h0] at h;obtain⟨gA,gB,rfl, -⟩:=h;exact⟨_,_,by rw[h0],hx⟩
   ·rw[if_neg h0] at h;exact⟨_,_,h,hx⟩
def run_convS (n:Nat) (W:World):(convert 3 5 (.int .i64 (n:Int))).run Tryz.prog W=.ok (.int .u8 ((n%256:Nat):Int)) W:=by
 simp[convert,run_underlying Tryz.underlying3,run_underlying Tryz.underlying5,Conv.intToInt,show IntKind.u8.wrap (n:Int)=((n%256:Nat):Int) by simp[IntKind.wrap,IntKind.signed,IntKind.bits]]
def zQL {o:Oper} {a:Act} {x:Operand} (ho:o.op=.convert 3 5 x) {n:Nat} (hx:a.eval x=.int .i64 (n:Int)) (h:n<256) (w:World):(execOp a.eval o).run Tryz.prog w=.ok (.value (.int .u8 (n:Int))) w:=by
 simp only[execOp,ho,hx,Sem.run_bind,run_convS,Result.andThen_ok,Sem.run_pure,wL8 h]
def zEo:zAp Tryz.prog 104:=⟨_,Tryz.func104,by kernel_rfl,by kernel_rfl⟩
def spanNe:139≠5:=by decide
attribute [local irreducible] zF bv zCo zAB jM yE yG qL qG jJ zAM
def zRC (t1 t2:List Value) (z1 z2:Int) (v:Value) (nn:Int) (w:World) (h0I: ¬nn<0) (h4I: ¬100<nn) (h1:t1.length=17) (h2:t2.length=17)
 (o1:t1.toArray.all (·.oneCell')=true) (o2:t2.toArray.all (·.oneCell')=true)
 (C1: ∀ W,Ext w W→Calls Tryz.prog 102 #[.agg t1.toArray] W fun e W'=>e=.returned (.int .i64 z1)∧Ext W W')
 (C2: ∀ W,Ext w W→Calls Tryz.prog 102 #[.agg t2.toArray] W fun e W'=>e=.returned (.int .i64 z2)∧Ext W W')
 (hne:(if z1=0 then z2 else z1)≠0) :
 Calls Tryz.prog 45 #[.agg (t1++t2).toArray,v,.int .i64 nn] w (zFw (if z1=0 then z2 else z1,[]) w):=by
 have hl1:=zA h1;have hl2:=zA h2;have hsz:=zA (zDG h1 h2);have HB2:=zA (zGY t1 t2 h1 h2);have HRT:=zA (fun W g (hb:Blk W g 42 (t1++t2).toArray)=>uY h1 hb);have HRU:=zA (fun W g (hb:Blk W g 44 (t1++t2).toArray)=>uY h1 hb);have hs1:Hid (t1.toArray.size=17):=zA (by simpa using h1);have hs2:Hid (t2.toArray.size=17):=zA (by simpa using h2);have hz17:Hid ((ints (List.replicate 16 0)++[Value.slice none 0 0]).toArray.size=17):=zA (by simp[ints]);have HO1:=zA o1;have HO2:=zA o2;have HC1:=zA C1;have HC2:=zA C2;clear o1 o2 C1 C2 h1 h2;generalize hR:(if z1=0 then z2 else z1)=R at *;have HR:=zA hR;have HNE:=zA hne;clear hR hne;go_enter Tryz.func45,Tryz.ntmps45
 go_wp2_with (first
  | ((with_reducible apply gS 3);refine wBox rfl 44 (.tmp 0) rfl (t1++t2).toArray rfl ?_;intro w1 g hb1 hx1 hg;have hr1:=HRU.out _ _ hb1)
  | ((with_reducible apply gS 26);refine wpList_load_mid rfl 42 (.tmp 25) rfl g 0 rfl t1 _ hr1.1 Tryz.underlying42 rfl (by rw[hl1.out];exact zS) ?_)
  | ((with_reducible apply gS 28);refine wpList_load_mid rfl 42 (.tmp 27) rfl g 17 rfl t2 _ hr1.2 Tryz.underlying42 rfl (by rw[hl2.out];exact zS) ?_)
  | ((with_reducible apply gS 29);refine Go.Great.wpList_buildSliceTo rfl 115 42 2 _ rfl _ rfl (some 29) rfl Tryz.underlying115 _ (by simp[Act.eval];exact HB2.out) ?_))
 have hbn0:=Blk.new w1 42 (t1++t2).toArray;have hb3:=hb1.alloc (.cells (t1++t2).toArray 42);have hx3:=hx1.alloc (.cells (t1++t2).toArray 42);clear hb1 hr1 hx1
 go_loopw [31] (fun i wr=> ∃ k:Nat,k≤2∧i=.int .i64 (k:Int)∧(1≤k→z1=0)∧(2≤k→z2=0)∧Blk wr g 44 (t1++t2).toArray∧Blk wr w1.heap.size 42 (t1++t2).toArray∧Ext w wr) (fun i _=>2-(intOf i).toNat)
 case atStart=>exact⟨0,by omega,rfl,fun h=>absurd h (by omega),fun h=>absurd h (by omega),hb3,hbn0,hx3⟩
 case round =>
  clear hb3 hbn0 hx3;obtain⟨k,hk,rfl,e1,e2,hb,hbn,hx⟩:=hrel;rcases (by omega:k=0∨k=1∨k=2) with rfl | rfl | rfl
  ·have hr:=(HRT.out _ _ hbn).1
   by_cases hz:z1=0
   ·subst hz
    go_wp2_with (first
     | ((with_reducible apply gS 34);refine wpList_load_mid rfl 42 (.tmp 33) rfl _ 0 rfl t1 _ hr Tryz.underlying42 rfl (by rw[hl1.out];exact zS) ?_)
     | ((with_reducible apply gS 9);refine wAlo' rfl (some 9) rfl 42 rfl _ zAN ?_;intro w4 ga hba4 hx4 hga)
     | ((with_reducible apply gT 9 34);refine wStB rfl 42 (.tmp 9) (.tmp 34) rfl _ _ rfl rfl hba4 17 zS hs1.out hz17.out HO1.out ?_;intro w5 hba5 hg5;have hx5:=(hx.trans hx4).grown hg5 (by have:=hx.size;omega))
     | ((with_reducible apply gS 35);refine wLdB rfl 42 (.tmp 9) rfl _ rfl hba5 _ Tryz.underlying42 rfl 17 zS hs1.out ?_)
     | (go_at_call 102;(with_reducible refine (HC1.out _ hx5).mono ?_);rintro e w6 ⟨rfl,hx6⟩))
    go_roundw
    case rel=>exact⟨1,by omega,by go_num,by simp,fun h=>absurd h (by omega),((hb.ext hx4).grown hg5 (by have:=hb.lt;simp;omega)).ext hx6,((hbn.ext hx4).grown hg5 (by have:=hbn.lt;simp;omega)).ext hx6,hx5.trans hx6⟩
    case measure=>simp[intOf]
   ·have hz1:(z1 !=0)=true:=by simpa using hz
    have HZ:=zA hz;clear hz
    go_wp2_with (first
     | ((with_reducible apply gS 34);refine wpList_load_mid rfl 42 (.tmp 33) rfl _ 0 rfl t1 _ hr Tryz.underlying42 rfl (by rw[hl1.out];exact zS) ?_)
     | ((with_reducible apply gS 9);refine wAlo' rfl (some 9) rfl 42 rfl _ zAN ?_;intro w4 ga hba4 hx4 hga)
     | ((with_reducible apply gT 9 34);refine wStB rfl 42 (.tmp 9) (.tmp 34) rfl _ _ rfl rfl hba4 17 zS hs1.out hz17.out HO1.out ?_;intro w5 hba5 hg5;have hx5:=(hx.trans hx4).grown hg5 (by have:=hx.size;omega))
     | ((with_reducible apply gS 35);refine wLdB rfl 42 (.tmp 9) rfl _ rfl hba5 _ Tryz.underlying42 rfl 17 zS hs1.out ?_)
     | (go_at_call 102;(with_reducible refine (HC1.out _ hx5).mono ?_);rintro e w6 ⟨rfl,hx6⟩))
    refine bodyPost_ret (results_tmp2 rfl _ _ _) rfl ?_;refine⟨hx5.trans hx6, ?_⟩;rw[if_neg HNE.out, ←HR.out,if_neg HZ.out];rfl
  ·have hr:=(HRT.out _ _ hbn).2;have hz0:=e1 (by omega);have hz2:z2=R:=by rw[←HR.out,if_pos hz0]
   have hzb:(z2 !=0)=true:=by rw[hz2];simpa using HNE.out
   have HZ2:=zA hz2;clear hz0 e1 e2 hz2
   go_wp2_with (first
    | ((with_reducible apply gS 34);refine wpList_load_mid rfl 42 (.tmp 33) rfl _ 17 rfl t2 _ hr Tryz.underlying42 rfl (by rw[hl2.out];exact zS) ?_)
    | ((with_reducible apply gS 9);refine wAlo' rfl (some 9) rfl 42 rfl _ zAN ?_;intro w4 ga hba4 hx4 hga)
    | ((with_reducible apply gT 9 34);refine wStB rfl 42 (.tmp 9) (.tmp 34) rfl _ _ rfl rfl hba4 17 zS hs2.out hz17.out HO2.out ?_;intro w5 hba5 hg5;have hx5:=(hx.trans hx4).grown hg5 (by have:=hx.size;omega))
    | ((with_reducible apply gS 35);refine wLdB rfl 42 (.tmp 9) rfl _ rfl hba5 _ Tryz.underlying42 rfl 17 zS hs2.out ?_)
    | (go_at_call 102;(with_reducible refine (HC2.out _ hx5).mono ?_);rintro e w6 ⟨rfl,hx6⟩))
   refine bodyPost_ret (results_tmp2 rfl _ _ _) rfl ?_;refine⟨hx5.trans hx6, ?_⟩;rw[if_neg HNE.out, ←HZ2.out];rfl
  ·exact absurd (by rw[←HR.out,if_pos (e1 (by omega)),e2 (by omega)]) HNE.out
def zQE (T1 T2:List Tok) (f1:zBe T1) (f2:zBe T2) (t1 t2:List Value) (A:Option Addr) (n c:Nat) (Z:List Int) (hZ:Z.length=n*64) (e:Nat) (he:e≤100) (w:World) (hs:SL w 64 (.slice A n c) n (ints Z)) (h1:t1.length=17) (h2:t2.length=17)
 (o1:t1.toArray.all (·.oneCell')=true) (o2:t2.toArray.all (·.oneCell')=true)
 (C1: ∀ W,Ext w W→Calls Tryz.prog 102 #[.agg t1.toArray] W fun e W'=>e=.returned (.int .i64 0)∧Ext W W')
 (C2: ∀ W,Ext w W→Calls Tryz.prog 102 #[.agg t2.toArray] W fun e W'=>e=.returned (.int .i64 0)∧Ext W W')
 (SG: ∀ W A' m c' P,Ext w W→P.length=m*64→SL W 64 (.slice A' m c') m (ints P)→Calls Tryz.prog 104 #[.agg (t1++t2).toArray,.slice A' m c'] W (zFw (zCo T1 T2 m P) W)) :
 Calls Tryz.prog 45 #[.agg (t1++t2).toArray,.slice A n c,.int .i64 (e:Int)] w (zFw (zCM T1 T2 n e Z) w):=by
 have hl1:=zA h1;have hl2:=zA h2;have hsz:=zA (zDG h1 h2);have HB2:=zA (zGY t1 t2 h1 h2);have HRT:=zA (fun W g (hb:Blk W g 42 (t1++t2).toArray)=>uY h1 hb);have HRU:=zA (fun W g (hb:Blk W g 44 (t1++t2).toArray)=>uY h1 hb);have hs1:Hid (t1.toArray.size=17):=zA (by simpa using h1);have hs2:Hid (t2.toArray.size=17):=zA (by simpa using h2);have hz17:Hid ((ints (List.replicate 16 0)++[Value.slice none 0 0]).toArray.size=17):=zA (by simp[ints]);have HO1:=zA o1;have HO2:=zA o2;have HC1:=zA C1;have HC2:=zA C2;have HSG:=zA SG;have HCO:=zA (fun W (h:Ext w W)=>zRQ A n c Z hZ W (hs.ext h));have HSL:=zA (fun i m=>segR_len f1 f2 m (yX n e i Z));have HZ:=zA hZ;have HS:=zA hs;have H20:Hid (decide ((e:Int)<0)=false):=zA (by rw[decide_eq_false_iff_not];omega);have H23:Hid (decide ((100:Int)<(e:Int))=false):=zA (by rw[decide_eq_false_iff_not];omega);have hnc:n≤c:=by obtain⟨A',c',q,q1,q2, -, -⟩:=hs;injection q with q3 q4 q5;omega
 clear o1 o2 C1 C2 h1 h2 SG hZ hs f1 f2;obtain⟨FR,hFR⟩: ∃ r,zCM T1 T2 n e Z=r:=⟨_,rfl⟩
 have HFE:Hid (qL n Z≠0→FR=(qL n Z,[])):=zA (fun h=>by rw[←hFR];unfold zCM;rw[if_pos h]);have HFO:Hid (qL n Z=0→FR=zAB T1 T2 n e Z (yG n e) 0 []):=zA (fun h=>by rw[←hFR];unfold zCM;rw[if_neg (by simp[h])]);rw[hFR];clear hFR;go_enter Tryz.func45,Tryz.ntmps45
 go_wp2_with (first
  | ((with_reducible apply gS 20);refine zB rfl (.bool false) (zZ rfl rfl rfl H20.out) ?_)
  | ((with_reducible apply gS 23);refine xA (by rfl) (.bool false) (xU rfl rfl rfl H23.out) ?_)
  | ((with_reducible apply gS 3);refine wBox rfl 44 (.tmp 0) rfl (t1++t2).toArray rfl ?_;intro w1 g hb1 hx1 hg;have hr1:=HRU.out _ _ hb1)
  | ((with_reducible apply gS 26);refine wpList_load_mid rfl 42 (.tmp 25) rfl g 0 rfl t1 _ hr1.1 Tryz.underlying42 rfl (by rw[hl1.out];exact zS) ?_)
  | ((with_reducible apply gS 28);refine wpList_load_mid rfl 42 (.tmp 27) rfl g 17 rfl t2 _ hr1.2 Tryz.underlying42 rfl (by rw[hl2.out];exact zS) ?_)
  | ((with_reducible apply gS 29);refine Go.Great.wpList_buildSliceTo rfl 115 42 2 _ rfl _ rfl (some 29) rfl Tryz.underlying115 _ (by simp[Act.eval];exact HB2.out) ?_))
 have hbn0:=Blk.new w1 42 (t1++t2).toArray;have hb3:=hb1.alloc (.cells (t1++t2).toArray 42);have hx3:=hx1.alloc (.cells (t1++t2).toArray 42);clear hb1 hr1 hx1
 go_loopw [31] (fun i wr=> ∃ k:Nat,k≤2∧i=.int .i64 (k:Int)∧Blk wr g 44 (t1++t2).toArray∧Blk wr w1.heap.size 42 (t1++t2).toArray∧Ext w wr) (fun i _=>2-(intOf i).toNat)
 case atStart=>exact⟨0,by omega,rfl,hb3,hbn0,hx3⟩
 case round =>
  clear hb3 hbn0 hx3;obtain⟨k,hk,rfl,hb,hbn,hx⟩:=hrel;rcases (by omega:k=0∨k=1∨k=2) with rfl | rfl | rfl
  ·have hr:=(HRT.out _ _ hbn).1
   go_wp2_with (first
    | ((with_reducible apply gS 34);refine wpList_load_mid rfl 42 (.tmp 33) rfl _ 0 rfl t1 _ hr Tryz.underlying42 rfl (by rw[hl1.out];exact zS) ?_)
    | ((with_reducible apply gS 9);refine wAlo' rfl (some 9) rfl 42 rfl _ zAN ?_;intro w4 ga hba4 hx4 hga)
    | ((with_reducible apply gT 9 34);refine wStB rfl 42 (.tmp 9) (.tmp 34) rfl _ _ rfl rfl hba4 17 zS hs1.out hz17.out HO1.out ?_;intro w5 hba5 hg5;have hx5:=(hx.trans hx4).grown hg5 (by have:=hx.size;omega))
    | ((with_reducible apply gS 35);refine wLdB rfl 42 (.tmp 9) rfl _ rfl hba5 _ Tryz.underlying42 rfl 17 zS hs1.out ?_)
    | (go_at_call 102;(with_reducible refine (HC1.out _ hx5).mono ?_);rintro e w6 ⟨rfl,hx6⟩))
   go_roundw
   case rel=>exact⟨1,by omega,by go_num,((hb.ext hx4).grown hg5 (by have:=hb.lt;simp;omega)).ext hx6,((hbn.ext hx4).grown hg5 (by have:=hbn.lt;simp;omega)).ext hx6,hx5.trans hx6⟩
   case measure=>simp[intOf]
  ·have hr:=(HRT.out _ _ hbn).2
   go_wp2_with (first
    | ((with_reducible apply gS 34);refine wpList_load_mid rfl 42 (.tmp 33) rfl _ 17 rfl t2 _ hr Tryz.underlying42 rfl (by rw[hl2.out];exact zS) ?_)
    | ((with_reducible apply gS 9);refine wAlo' rfl (some 9) rfl 42 rfl _ zAN ?_;intro w4 ga hba4 hx4 hga)
    | ((with_reducible apply gT 9 34);refine wStB rfl 42 (.tmp 9) (.tmp 34) rfl _ _ rfl rfl hba4 17 zS hs2.out hz17.out HO2.out ?_;intro w5 hba5 hg5;have hx5:=(hx.trans hx4).grown hg5 (by have:=hx.size;omega))
    | ((with_reducible apply gS 35);refine wLdB rfl 42 (.tmp 9) rfl _ rfl hba5 _ Tryz.underlying42 rfl 17 zS hs2.out ?_)
    | (go_at_call 102;(with_reducible refine (HC2.out _ hx5).mono ?_);rintro e w6 ⟨rfl,hx6⟩))
   go_roundw
   case rel=>exact⟨2,by omega,by go_num,((hb.ext hx4).grown hg5 (by have:=hb.lt;simp;omega)).ext hx6,((hbn.ext hx4).grown hg5 (by have:=hbn.lt;simp;omega)).ext hx6,hx5.trans hx6⟩
   case measure=>simp[intOf]
  ·clear HRT HRU HB2 HC1 HC2 hbn hs1 hs2 hz17 HO1 HO2 hl1 hl2;generalize (t1++t2).toArray=tt at *
   by_cases hbe:qL n Z=0
   ·have hn4:=zSA hbe;rw[hbe] at HCO;have HSP:=zA (fun W=>zIf n e (by omega) (by omega) W);have hK:=zDj (n:=n) (e:=e);have hRR: ∃ R,zAB T1 T2 n e Z (yG n e) 0 []=R:=⟨_,rfl⟩
    obtain⟨R,hRR⟩:=hRR;have HR0:Hid (zAB T1 T2 n e Z (yG n e-0) 0 []=R):=zA hRR;have HFR:Hid (FR=R):=zA (by rw[HFO.out hbe,hRR]);have HAT:=zA (fun i (h:i<yG n e)=>zIG h);obtain⟨K,hKK⟩: ∃ K,yG n e=K:=⟨_,rfl⟩
    rw[hKK] at HSP HR0 HAT hK;clear hRR hKK hbe HFE HFO
    go_wp2_with (first
     | (go_at_call 100;(with_reducible refine (HCO.out _ hx).mono ?_);rintro e w2 ⟨u2,v2,rfl,hx2⟩;have hx2':=hx.trans hx2)
     | (go_at_call 99;(with_reducible refine (HSP.out _).mono ?_);rintro e w3 ⟨B3,d3,rfl,hsp,hx3⟩;have hx3':=hx2'.trans hx3))
    have hg3:=(hb.ext hx2).ext hx3;have how:OwnV w3 w3.heap.size 5 1 (.slice none 0 0) 0 (zF []):=by unfold zF;exact OwnV.nil _ _ _ _
    have HSP3:=zA hsp;have HG3:=zA hg3;have HX3:=zA hx3';clear hb hx hx2 hx2' hx3 hx3' hsp hg3
    go_loopw [14,55] (fun x iv wr=> ∃ (i m:Nat) (acc:List Nat),i≤K∧iv=.int .i64 (i:Int)∧Hid (acc.length=m)∧m≤i*1000000002∧OwnV wr w3.heap.size 5 1 x m (zF acc)∧Hid (zAB T1 T2 n e Z (K-i) i acc=R)∧Ext w3 wr) (fun _ i _=>K-(intOf i).toNat)
    case atStart=>exact⟨0,0,[],by omega,rfl,zA rfl,by omega,how,HR0,Ext.refl _⟩
    case round =>
     clear how HR0;obtain⟨i,m,acc,hi,rfl,HM,hm,⟨OA,oc,rfl,hown⟩,HR,hx⟩:=hrel
     by_cases hlt:i<K
     ·obtain⟨td,hB,htb,htc⟩:=(HSP3.out.ext hx).part hlt;subst hB;obtain⟨lo,hlo⟩: ∃ q,i*yE n e=q:=⟨_,rfl⟩
      obtain⟨hh,hhh⟩: ∃ q,min (lo+yE n e) n=q:=⟨_,rfl⟩
      obtain⟨ln,hln⟩: ∃ q,min (n-lo) (yE n e)=q:=⟨_,rfl⟩
      have e2:((ints (jM n e K)).drop (i*2)).take 2=ints [(lo:Int),(hh:Int)]:=by
       have h:=zFy n e K i hlt;rw[hlo,hhh] at h;rw[←h];simp[ints,wH2,wH1]
      rw[e2] at htc;have hlon:lo≤n:=by rw[←hlo];exact HAT.out i hlt
      have hlh:lo≤hh:=by omega
      have hhn:hh≤n:=by omega
      have hd:hh-lo=ln:=by omega
      have HTC:=zA htc;have HBV:=zA (zGN [(lo:Int),(hh:Int)]);have HS2:=zA (show (bv [(lo:Int),(hh:Int)]).size=2 by rw[zK];rfl);have HS20:=zA (show (Value.agg (bv [0,0])).cells.size=2 by rw[show (Value.agg (bv [0,0])).cells=bv [0,0] from rfl,zK];rfl);have HO2:=zA (xE [(lo:Int),(hh:Int)]);have HP:Hid ((yX n e i Z).length=ln*64):=zA (by rw[zEp HZ.out,hlo,hln]);have HPS:=zA (fun W (h:Ext w W)=>(HS.out.ext h).subK hlh hhn)
      have e3:((ints Z).drop (lo*64)).take ((hh-lo)*64)=ints (yX n e i Z):=by
       unfold yX;rw[hlo,hln,hd];simp[ints,wH2,wH1]
      rw[e3,hd] at HPS;have HSR:=zA (fun W (h:Ext w W)=>HSG.out W _ _ _ _ h HP.out (HPS.out W h));have HER:Hid (∀ r,zCo T1 T2 ln (yX n e i Z)=r→r.1≠0→R=(r.1,[])):=zA (fun r h h0=>by rw[←HR.out,show K-i=(K-(i+1))+1 by omega];exact zMF (by rw[hlo,hln];exact h) h0);have HOK:Hid (∀ r,zCo T1 T2 ln (yX n e i Z)=r→r.1=0→zAB T1 T2 n e Z (K-(i+1)) (i+1) (acc++zCk i++r.2)=R):=zA (fun r h h0=>by rw[←HR.out,show K-i=(K-(i+1))+1 by omega];exact (zOB (by rw[hlo,hln];exact h) h0).symm);have hsl:=HSL.out i ln;obtain⟨r,hr⟩: ∃ r,zCo T1 T2 ln (yX n e i Z)=r:=⟨_,rfl⟩
      rw[hr] at HSR hsl;have HER:=zA (HER.out r hr);have HOK:=zA (HOK.out r hr);obtain⟨cl,hcl⟩: ∃ q,c-lo=q:=⟨_,rfl⟩
      rw[hcl] at HSR;have HSUB:=zA (fun (o:Oper) (a:Act) (x lo' hi':Operand) (ho:o.op=.slice 25 x (some lo') (some hi') none) (hx:a.eval x=.slice A n c) (h1:a.eval lo'=.int .i64 (lo:Int)) (h2:a.eval hi'=.int .i64 (hh:Int)) (W:World)=>ex_subK ho hx h1 h2 hlh hhn hnc W);rw[hd,hcl] at HSUB;generalize zCL A c lo=SA at *;generalize yX n e i Z=P at *;generalize bv [(lo:Int),(hh:Int)]=sp at *;have HC0:Hid (sp[0]? =some (.int .i64 (lo:Int))∧sp[1]? =some (.int .i64 (hh:Int))):=zA (by rw[←HBV.out];exact⟨rfl,rfl⟩);clear htc e2 hr e3 hcl hd hln hhh hlo hhn hlh hlon HR HPS HP;obtain⟨r1,r2⟩:=r;dsimp only at hsl HER HOK
      have HRA:Hid (∀ W e W',zFw (r1,r2) W e W'→ ∃ B k d,e=.returned (.tuple #[.slice B k d,.int .i64 r1])∧(r1=0→r2.length=k∧SL W' 1 (.slice B k d) k (zF r2))∧Ext W W'):=zA (fun W e W' h=>by
       obtain⟨hx,h⟩:=h
       by_cases h0:r1=0
       ·subst h0;rw[if_pos rfl] at h;obtain⟨B,k,d,rfl,h1,h2, -⟩:=h;exact⟨B,k,d,rfl,fun _=>⟨h1,h2⟩,hx⟩
       ·rw[if_neg h0] at h
        exact⟨none,0,0,h,fun h=>absurd h h0,hx⟩)
      have htd:td.block<wr.heap.size:=htb;clear htb
      by_cases hp:0<i
      ·have H61:Hid (decide ((0:Int)<(i:Int))=true):=zA (by rw[wL0];omega);obtain⟨i1,hi1⟩: ∃ q,i-1=q:=⟨_,rfl⟩
       have HI1:=zA hi1;obtain⟨q,hq⟩: ∃ q,208+i1%8=q:=⟨_,rfl⟩
       have HMK:=zA (fun W=>zPR i1 (by omega) W);rw[hq] at HMK;have hq2:q<256:=by omega
       have HMZ:Hid (zCk i=[255,q]):=zA (by unfold zCk;rw[if_neg (by omega),hi1,hq]);clear hi1 hq
       by_cases h0:r1=0
       ·subst h0
        go_wp2_with (first
         | ((with_reducible apply gS 59);refine yI (by rfl) 139 (.tmp 58) rfl (td.add (i*2)) rfl (ints [(lo:Int),(hh:Int)]) _ HTC.out Tryz.underlying139 rfl uH ?_;rw[HBV.out])
         | ((with_reducible apply gS 16);refine wAlo' rfl (some 16) rfl 139 rfl _ zCp ?_;intro w4 g16 hb4 hx4 hg4)
         | ((with_reducible apply gT 16 59);refine wStB rfl 139 (.tmp 16) (.tmp 59) rfl _ _ rfl rfl hb4 2 uH HS2.out HS20.out HO2.out ?_;intro w5 hb5 hg5;have hx5:Ext wr w5:=hx4.grown hg5 hg4)
         | ((with_reducible apply gS 61);refine zB rfl (.bool true) (xU rfl rfl rfl H61.out) ?_)
         | ((with_reducible apply gS 64);refine zB rfl (.int .i64 ((i1:Nat):Int)) (by rw[←HI1.out];exact xH (i:=i) (d:=1) rfl rfl rfl (by omega) (by omega)) ?_)
         | (go_at_call 103;(with_reducible refine (HMK.out _).mono ?_);rintro e w6 ⟨rfl,rfl⟩)
         | ((with_reducible apply gS 66);refine zB rfl (.int .u8 ((q:Nat):Int)) (zQL rfl rfl (by omega)) ?_)
         | ((with_reducible apply gS 67);refine zDK rfl _ _ rfl (some 67) rfl 255 q rfl rfl ?_;intro w7 g7 hb7 hx7 hg7;have ho7:=yR hown (hx5.trans hx7))
         | ((with_reducible apply gS 68);at_builtin;refine wApf zCF rfl (.tmp 62) (.tmp 67) rfl w3.heap.size (.slice OA m oc) m (zF acc) rfl ho7 _ 2 (zF [255,q]) rfl (zHO rfl hb7) (zGV _) (by omega) (by omega) (by have:=hx.size;have:=(hx5.trans hx7).size;omega) ?_;intro A8 c8 w8 ho8 hgr8 hor8;have hx8:=((hx.trans hx5).trans hx7).grown' hgr8 (fun b hb=>(ho7.lt b hb).1);have hb8:=(zO hgr8).blk (hb5.ext hx7) (fun e=>zHB (hb5.ext hx7) ho7 spanNe e.symm)))
        have hx8d:Ext w3 w8.drew:=hx8.drew;have hb8d:=hb8.drew;have ho8d:w8.drew.ownsRow w3.heap.size 5 1 (.slice A8 (m+2) c8) (m+2) (zF acc++zF [255,q]):=ho8;clear hb7 hx7 hg7 ho7 ho8 hgr8 hor8 hx8 hb8 hb4 hx4 hg4 hb5 hg5 hx5;have HGX:=zA (fun W (h:Ext w8.drew W)=>((HG3.out.ext hx8d).ext h));have hI:Ext w8.drew w8.drew:=Ext.refl _;refine jA (Ext w8.drew) (by kernel_rfl) ?_;refine xM (k:=0) (by kernel_rfl) rfl (by rfl) (.agg tt) (fun W hW=>zAj rfl rfl (HGX.out W hW) Tryz.underlying44 rfl qP hsz.out) hI ?_;simp only[Act.put,sA,sB,sC];refine zJ (k:=1) (by kernel_rfl) rfl (by rfl) (.slice A n c) (zC rfl rfl) hI ?_;simp only[sP,sB,sC];refine zJ (k:=2) (by kernel_rfl) rfl (by rfl) (.pointer (some ⟨g16,0,none⟩)) (fun w=>by go_simp) hI ?_;simp only[sP,sB,sC];refine xM (k:=3) (by kernel_rfl) rfl (by rfl) (.int .i64 (lo:Int)) (fun W hW=>zV rfl rfl (((hb8d.ext hW).cell 0).trans HC0.out.1)) hI ?_;simp only[Act.put,sA,sB,sC];refine zJ (k:=4) (by kernel_rfl) rfl (by rfl) (.pointer (some ⟨g16,1,none⟩)) (fun w=>by go_simp) hI ?_;simp only[sP,sB,sC];refine xM (k:=5) (by kernel_rfl) rfl (by rfl) (.int .i64 (hh:Int)) (fun W hW=>zV rfl rfl (((hb8d.ext hW).cell 1).trans HC0.out.2)) hI ?_;simp only[Act.put,sA,sB,sC];refine zJ (k:=6) (by kernel_rfl) rfl (by rfl) (.slice SA ln cl) (HSUB.out _ _ _ _ _ rfl rfl rfl rfl) hI ?_;simp only[sP,sB,sC];refine qO (k:=7) (by kernel_rfl) rfl ?_;refine xP (by rfl) (xQ _ _ _ rfl rfl zEo #[.agg tt,.slice SA ln cl] (by simp[Act.eval])) ?_;refine (HSR.out _ (HX3.out.trans hx8d)).mono ?_;intro e9 w9 h9;obtain⟨B9,k9,d9,rfl,hr9,hx9⟩:=HRA.out _ _ _ h9;refine⟨_,rfl,zX ⟨hx9, ?_⟩⟩;simp only[Act.put,sA,sB,sC];refine zJ (k:=8) (by kernel_rfl) rfl (by rfl) (.tuple #[.slice B9 k9 d9,.int .i64 0]) (zC rfl rfl) hx9 ?_;simp only[sP,sB,sC];refine zJ (k:=9) (by kernel_rfl) rfl (by rfl) (.slice B9 k9 d9) (xB rfl rfl rfl) hx9 ?_;simp only[sP,sB,sC];refine zJ (k:=10) (by kernel_rfl) rfl (by rfl) (.int .i64 0) (xB rfl rfl rfl) hx9 ?_;simp only[sP,sB,sC];refine zJ (k:=11) (by kernel_rfl) rfl (by rfl) (.slice B9 k9 d9) (zW rfl rfl) hx9 ?_;simp only[sP,sB,sC];refine zJ (k:=12) (by kernel_rfl) rfl (by rfl) (.int .i64 0) (zW rfl rfl) hx9 ?_;simp only[sP,sB,sC];refine uX (by kernel_rfl) ?_;obtain⟨hk9,hs9⟩:=hr9 (by first | rfl | trivial);have ho9:=yR ho8d hx9
        go_wp2_with (first
         | ((with_reducible apply gS 85);at_builtin;refine wApf zCF rfl (.tmp 83) (.tmp 84) rfl w3.heap.size (.slice A8 (m+2) c8) (m+2) (zF acc++zF [255,q]) rfl ho9 _ k9 (zF r2) rfl hs9 (zGV _) (by omega) (by omega) (by have:=(hx8d.trans hx9).size;omega) ?_;intro A10 c10 w10 ho10 hgr10 hor10;have hx10:=(hx8d.trans hx9).grown' hgr10 (fun b hb=>(ho9.lt b hb).1)))
        go_roundw
        case rel =>
         refine⟨i+1,m+2+k9,acc++zCk i++r2,by omega,by go_num,zA ?_,by omega,⟨A10,c10,rfl, ?_⟩,HOK.out (by first | rfl | trivial),hx10⟩
         ·rw[wF3,wF3,HM.out,hk9,HMZ.out];rfl
         ·rw[zAr,zAr,HMZ.out];exact ho10
        case measure=>simp[intOf];omega
       ·have h0b:(r1 !=0)=true:=by simpa using h0
        have H0N:=zA h0;clear h0
        go_wp2_with (first
         | ((with_reducible apply gS 59);refine yI (by rfl) 139 (.tmp 58) rfl (td.add (i*2)) rfl (ints [(lo:Int),(hh:Int)]) _ HTC.out Tryz.underlying139 rfl uH ?_;rw[HBV.out])
         | ((with_reducible apply gS 16);refine wAlo' rfl (some 16) rfl 139 rfl _ zCp ?_;intro w4 g16 hb4 hx4 hg4)
         | ((with_reducible apply gT 16 59);refine wStB rfl 139 (.tmp 16) (.tmp 59) rfl _ _ rfl rfl hb4 2 uH HS2.out HS20.out HO2.out ?_;intro w5 hb5 hg5;have hx5:Ext wr w5:=hx4.grown hg5 hg4)
         | ((with_reducible apply gS 61);refine zB rfl (.bool true) (xU rfl rfl rfl H61.out) ?_)
         | ((with_reducible apply gS 64);refine zB rfl (.int .i64 ((i1:Nat):Int)) (by rw[←HI1.out];exact xH (i:=i) (d:=1) rfl rfl rfl (by omega) (by omega)) ?_)
         | (go_at_call 103;(with_reducible refine (HMK.out _).mono ?_);rintro e w6 ⟨rfl,rfl⟩)
         | ((with_reducible apply gS 66);refine zB rfl (.int .u8 ((q:Nat):Int)) (zQL rfl rfl (by omega)) ?_)
         | ((with_reducible apply gS 67);refine zDK rfl _ _ rfl (some 67) rfl 255 q rfl rfl ?_;intro w7 g7 hb7 hx7 hg7;have ho7:=yR hown (hx5.trans hx7))
         | ((with_reducible apply gS 68);at_builtin;refine wApf zCF rfl (.tmp 62) (.tmp 67) rfl w3.heap.size (.slice OA m oc) m (zF acc) rfl ho7 _ 2 (zF [255,q]) rfl (zHO rfl hb7) (zGV _) (by omega) (by omega) (by have:=hx.size;have:=(hx5.trans hx7).size;omega) ?_;intro A8 c8 w8 ho8 hgr8 hor8;have hx8:=((hx.trans hx5).trans hx7).grown' hgr8 (fun b hb=>(ho7.lt b hb).1);have hb8:=(zO hgr8).blk (hb5.ext hx7) (fun e=>zHB (hb5.ext hx7) ho7 spanNe e.symm)))
        have hx8d:Ext w3 w8.drew:=hx8.drew;have hb8d:=hb8.drew;have ho8d:w8.drew.ownsRow w3.heap.size 5 1 (.slice A8 (m+2) c8) (m+2) (zF acc++zF [255,q]):=ho8;clear hb7 hx7 hg7 ho7 ho8 hgr8 hor8 hx8 hb8 hb4 hx4 hg4 hb5 hg5 hx5;have HGX:=zA (fun W (h:Ext w8.drew W)=>((HG3.out.ext hx8d).ext h));have hI:Ext w8.drew w8.drew:=Ext.refl _;refine jA (Ext w8.drew) (by kernel_rfl) ?_;refine xM (k:=0) (by kernel_rfl) rfl (by rfl) (.agg tt) (fun W hW=>zAj rfl rfl (HGX.out W hW) Tryz.underlying44 rfl qP hsz.out) hI ?_;simp only[Act.put,sA,sB,sC];refine zJ (k:=1) (by kernel_rfl) rfl (by rfl) (.slice A n c) (zC rfl rfl) hI ?_;simp only[sP,sB,sC];refine zJ (k:=2) (by kernel_rfl) rfl (by rfl) (.pointer (some ⟨g16,0,none⟩)) (fun w=>by go_simp) hI ?_;simp only[sP,sB,sC];refine xM (k:=3) (by kernel_rfl) rfl (by rfl) (.int .i64 (lo:Int)) (fun W hW=>zV rfl rfl (((hb8d.ext hW).cell 0).trans HC0.out.1)) hI ?_;simp only[Act.put,sA,sB,sC];refine zJ (k:=4) (by kernel_rfl) rfl (by rfl) (.pointer (some ⟨g16,1,none⟩)) (fun w=>by go_simp) hI ?_;simp only[sP,sB,sC];refine xM (k:=5) (by kernel_rfl) rfl (by rfl) (.int .i64 (hh:Int)) (fun W hW=>zV rfl rfl (((hb8d.ext hW).cell 1).trans HC0.out.2)) hI ?_;simp only[Act.put,sA,sB,sC];refine zJ (k:=6) (by kernel_rfl) rfl (by rfl) (.slice SA ln cl) (HSUB.out _ _ _ _ _ rfl rfl rfl rfl) hI ?_;simp only[sP,sB,sC];refine qO (k:=7) (by kernel_rfl) rfl ?_;refine xP (by rfl) (xQ _ _ _ rfl rfl zEo #[.agg tt,.slice SA ln cl] (by simp[Act.eval])) ?_;refine (HSR.out _ (HX3.out.trans hx8d)).mono ?_;intro e9 w9 h9;obtain⟨B9,k9,d9,rfl,hr9,hx9⟩:=HRA.out _ _ _ h9;refine⟨_,rfl,zX ⟨hx9, ?_⟩⟩;simp only[Act.put,sA,sB,sC];refine zJ (k:=8) (by kernel_rfl) rfl (by rfl) (.tuple #[.slice B9 k9 d9,.int .i64 r1]) (zC rfl rfl) hx9 ?_;simp only[sP,sB,sC];refine zJ (k:=9) (by kernel_rfl) rfl (by rfl) (.slice B9 k9 d9) (xB rfl rfl rfl) hx9 ?_;simp only[sP,sB,sC];refine zJ (k:=10) (by kernel_rfl) rfl (by rfl) (.int .i64 r1) (xB rfl rfl rfl) hx9 ?_;simp only[sP,sB,sC];refine zJ (k:=11) (by kernel_rfl) rfl (by rfl) (.slice B9 k9 d9) (zW rfl rfl) hx9 ?_;simp only[sP,sB,sC];refine zJ (k:=12) (by kernel_rfl) rfl (by rfl) (.int .i64 r1) (zW rfl rfl) hx9 ?_;simp only[sP,sB,sC];refine uX (by kernel_rfl) ?_;go_wp2_with fail;refine bodyPost_ret (results_tmp2 rfl _ _ _) rfl ?_;rw[HFR.out,HER.out H0N.out];refine⟨HX3.out.trans (hx8d.trans hx9), ?_⟩;rw[if_neg H0N.out];rfl
      ·have H61:Hid (decide ((0:Int)<(i:Int))=false):=zA (by rw[decide_eq_false_iff_not];omega);have HMZ:Hid (zCk i=[]):=zA (by unfold zCk;rw[if_pos (by omega)])
       by_cases h0:r1=0
       ·subst h0
        go_wp2_with (first
         | ((with_reducible apply gS 59);refine yI (by rfl) 139 (.tmp 58) rfl (td.add (i*2)) rfl (ints [(lo:Int),(hh:Int)]) _ HTC.out Tryz.underlying139 rfl uH ?_;rw[HBV.out])
         | ((with_reducible apply gS 16);refine wAlo' rfl (some 16) rfl 139 rfl _ zCp ?_;intro w4 g16 hb4 hx4 hg4)
         | ((with_reducible apply gT 16 59);refine wStB rfl 139 (.tmp 16) (.tmp 59) rfl _ _ rfl rfl hb4 2 uH HS2.out HS20.out HO2.out ?_;intro w5 hb5 hg5;have hx5:Ext wr w5:=hx4.grown hg5 hg4)
         | ((with_reducible apply gS 61);refine zB rfl (.bool false) (xU rfl rfl rfl H61.out) ?_))
        have hx8d:Ext w3 w5.drew:=(hx.trans hx5).drew;have hb8d:=hb5.drew;have ho8d:=yR hown (hx5.drew);clear hb4 hx4 hg4 hb5 hg5 hx5;have HGX:=zA (fun W (h:Ext w5.drew W)=>((HG3.out.ext hx8d).ext h));have hI:Ext w5.drew w5.drew:=Ext.refl _;refine jA (Ext w5.drew) (by kernel_rfl) ?_;refine xM (k:=0) (by kernel_rfl) rfl (by rfl) (.agg tt) (fun W hW=>zAj rfl rfl (HGX.out W hW) Tryz.underlying44 rfl qP hsz.out) hI ?_;simp only[Act.put,sA,sB,sC];refine zJ (k:=1) (by kernel_rfl) rfl (by rfl) (.slice A n c) (zC rfl rfl) hI ?_;simp only[sP,sB,sC];refine zJ (k:=2) (by kernel_rfl) rfl (by rfl) (.pointer (some ⟨g16,0,none⟩)) (fun w=>by go_simp) hI ?_;simp only[sP,sB,sC];refine xM (k:=3) (by kernel_rfl) rfl (by rfl) (.int .i64 (lo:Int)) (fun W hW=>zV rfl rfl (((hb8d.ext hW).cell 0).trans HC0.out.1)) hI ?_;simp only[Act.put,sA,sB,sC];refine zJ (k:=4) (by kernel_rfl) rfl (by rfl) (.pointer (some ⟨g16,1,none⟩)) (fun w=>by go_simp) hI ?_;simp only[sP,sB,sC];refine xM (k:=5) (by kernel_rfl) rfl (by rfl) (.int .i64 (hh:Int)) (fun W hW=>zV rfl rfl (((hb8d.ext hW).cell 1).trans HC0.out.2)) hI ?_;simp only[Act.put,sA,sB,sC];refine zJ (k:=6) (by kernel_rfl) rfl (by rfl) (.slice SA ln cl) (HSUB.out _ _ _ _ _ rfl rfl rfl rfl) hI ?_;simp only[sP,sB,sC];refine qO (k:=7) (by kernel_rfl) rfl ?_;refine xP (by rfl) (xQ _ _ _ rfl rfl zEo #[.agg tt,.slice SA ln cl] (by simp[Act.eval])) ?_;refine (HSR.out _ (HX3.out.trans hx8d)).mono ?_;intro e9 w9 h9;obtain⟨B9,k9,d9,rfl,hr9,hx9⟩:=HRA.out _ _ _ h9;refine⟨_,rfl,zX ⟨hx9, ?_⟩⟩;simp only[Act.put,sA,sB,sC];refine zJ (k:=8) (by kernel_rfl) rfl (by rfl) (.tuple #[.slice B9 k9 d9,.int .i64 0]) (zC rfl rfl) hx9 ?_;simp only[sP,sB,sC];refine zJ (k:=9) (by kernel_rfl) rfl (by rfl) (.slice B9 k9 d9) (xB rfl rfl rfl) hx9 ?_;simp only[sP,sB,sC];refine zJ (k:=10) (by kernel_rfl) rfl (by rfl) (.int .i64 0) (xB rfl rfl rfl) hx9 ?_;simp only[sP,sB,sC];refine zJ (k:=11) (by kernel_rfl) rfl (by rfl) (.slice B9 k9 d9) (zW rfl rfl) hx9 ?_;simp only[sP,sB,sC];refine zJ (k:=12) (by kernel_rfl) rfl (by rfl) (.int .i64 0) (zW rfl rfl) hx9 ?_;simp only[sP,sB,sC];refine uX (by kernel_rfl) ?_;obtain⟨hk9,hs9⟩:=hr9 (by first | rfl | trivial);have ho9:=yR ho8d hx9
        go_wp2_with (first
         | ((with_reducible apply gS 85);at_builtin;refine wApf zCF rfl (.tmp 83) (.tmp 84) rfl w3.heap.size (.slice OA m oc) (m) (zF acc) rfl ho9 _ k9 (zF r2) rfl hs9 (zGV _) (by omega) (by omega) (by have:=(hx8d.trans hx9).size;omega) ?_;intro A10 c10 w10 ho10 hgr10 hor10;have hx10:=(hx8d.trans hx9).grown' hgr10 (fun b hb=>(ho9.lt b hb).1)))
        go_roundw
        case rel =>
         refine⟨i+1,m+k9,acc++zCk i++r2,by omega,by go_num,zA ?_,by omega,⟨A10,c10,rfl, ?_⟩,HOK.out (by first | rfl | trivial),hx10⟩
         ·rw[wF3,wF3,HM.out,hk9,HMZ.out];rfl
         ·rw[zAr,zAr,HMZ.out];rw[show zF []=[] by unfold zF;rfl,wG6];exact ho10
        case measure=>simp[intOf];omega
       ·have h0b:(r1 !=0)=true:=by simpa using h0
        have H0N:=zA h0;clear h0
        go_wp2_with (first
         | ((with_reducible apply gS 59);refine yI (by rfl) 139 (.tmp 58) rfl (td.add (i*2)) rfl (ints [(lo:Int),(hh:Int)]) _ HTC.out Tryz.underlying139 rfl uH ?_;rw[HBV.out])
         | ((with_reducible apply gS 16);refine wAlo' rfl (some 16) rfl 139 rfl _ zCp ?_;intro w4 g16 hb4 hx4 hg4)
         | ((with_reducible apply gT 16 59);refine wStB rfl 139 (.tmp 16) (.tmp 59) rfl _ _ rfl rfl hb4 2 uH HS2.out HS20.out HO2.out ?_;intro w5 hb5 hg5;have hx5:Ext wr w5:=hx4.grown hg5 hg4)
         | ((with_reducible apply gS 61);refine zB rfl (.bool false) (xU rfl rfl rfl H61.out) ?_))
        have hx8d:Ext w3 w5.drew:=(hx.trans hx5).drew;have hb8d:=hb5.drew;have ho8d:=yR hown (hx5.drew);clear hb4 hx4 hg4 hb5 hg5 hx5;have HGX:=zA (fun W (h:Ext w5.drew W)=>((HG3.out.ext hx8d).ext h));have hI:Ext w5.drew w5.drew:=Ext.refl _;refine jA (Ext w5.drew) (by kernel_rfl) ?_;refine xM (k:=0) (by kernel_rfl) rfl (by rfl) (.agg tt) (fun W hW=>zAj rfl rfl (HGX.out W hW) Tryz.underlying44 rfl qP hsz.out) hI ?_;simp only[Act.put,sA,sB,sC];refine zJ (k:=1) (by kernel_rfl) rfl (by rfl) (.slice A n c) (zC rfl rfl) hI ?_;simp only[sP,sB,sC];refine zJ (k:=2) (by kernel_rfl) rfl (by rfl) (.pointer (some ⟨g16,0,none⟩)) (fun w=>by go_simp) hI ?_;simp only[sP,sB,sC];refine xM (k:=3) (by kernel_rfl) rfl (by rfl) (.int .i64 (lo:Int)) (fun W hW=>zV rfl rfl (((hb8d.ext hW).cell 0).trans HC0.out.1)) hI ?_;simp only[Act.put,sA,sB,sC];refine zJ (k:=4) (by kernel_rfl) rfl (by rfl) (.pointer (some ⟨g16,1,none⟩)) (fun w=>by go_simp) hI ?_;simp only[sP,sB,sC];refine xM (k:=5) (by kernel_rfl) rfl (by rfl) (.int .i64 (hh:Int)) (fun W hW=>zV rfl rfl (((hb8d.ext hW).cell 1).trans HC0.out.2)) hI ?_;simp only[Act.put,sA,sB,sC];refine zJ (k:=6) (by kernel_rfl) rfl (by rfl) (.slice SA ln cl) (HSUB.out _ _ _ _ _ rfl rfl rfl rfl) hI ?_;simp only[sP,sB,sC];refine qO (k:=7) (by kernel_rfl) rfl ?_;refine xP (by rfl) (xQ _ _ _ rfl rfl zEo #[.agg tt,.slice SA ln cl] (by simp[Act.eval])) ?_;refine (HSR.out _ (HX3.out.trans hx8d)).mono ?_;intro e9 w9 h9;obtain⟨B9,k9,d9,rfl,hr9,hx9⟩:=HRA.out _ _ _ h9;refine⟨_,rfl,zX ⟨hx9, ?_⟩⟩;simp only[Act.put,sA,sB,sC];refine zJ (k:=8) (by kernel_rfl) rfl (by rfl) (.tuple #[.slice B9 k9 d9,.int .i64 r1]) (zC rfl rfl) hx9 ?_;simp only[sP,sB,sC];refine zJ (k:=9) (by kernel_rfl) rfl (by rfl) (.slice B9 k9 d9) (xB rfl rfl rfl) hx9 ?_;simp only[sP,sB,sC];refine zJ (k:=10) (by kernel_rfl) rfl (by rfl) (.int .i64 r1) (xB rfl rfl rfl) hx9 ?_;simp only[sP,sB,sC];refine zJ (k:=11) (by kernel_rfl) rfl (by rfl) (.slice B9 k9 d9) (zW rfl rfl) hx9 ?_;simp only[sP,sB,sC];refine zJ (k:=12) (by kernel_rfl) rfl (by rfl) (.int .i64 r1) (zW rfl rfl) hx9 ?_;simp only[sP,sB,sC];refine uX (by kernel_rfl) ?_;go_wp2_with fail;refine bodyPost_ret (results_tmp2 rfl _ _ _) rfl ?_;rw[HFR.out,HER.out H0N.out];refine⟨HX3.out.trans (hx8d.trans hx9), ?_⟩;rw[if_neg H0N.out];rfl
     ·have hiK:K-i=0:=by omega
      have HR2:Hid (R=(0,acc)):=zA (by rw[←HR.out,hiK,zAB]);have hnn:=zId hown;clear HR;go_wp2_with fail;refine bodyPost_ret (results_tmp2 rfl _ _ _) rfl ?_;rw[HFR.out,HR2.out];refine⟨HX3.out.trans hx, ?_⟩;rw[if_pos rfl];exact⟨OA,m,oc,rfl,HM.out,(jF hown).1,hnn⟩
   ·have hbb:(qL n Z !=0)=true:=by simpa using hbe
    have HBE:=zA hbe;have HFR:=zA (HFE.out hbe);clear hbe HFE HFO;generalize qL n Z=be at *
    go_wp2_with (first
     | (go_at_call 100;(with_reducible refine (HCO.out _ hx).mono ?_);rintro e w2 ⟨u2,v2,rfl,hx2⟩;have hx2':=hx.trans hx2))
    refine bodyPost_ret (results_tmp2 rfl _ _ _) rfl ?_;rw[HFR.out];refine⟨hx2', ?_⟩;rw[if_neg HBE.out];rfl
end
def twoE (cs1 xs1 cs2 xs2:List Int):Int:=if zT cs1 xs1=0 then zT cs2 xs2 else zT cs1 xs1
def zBN (cs1 xs1 cs2 xs2:List Int) (nn:Int) (n:Nat) (Z:List Int):Int×List Nat :=
 if nn<0∨100<nn then (1,[]) else if twoE cs1 xs1 cs2 xs2≠0 then (twoE cs1 xs1 cs2 xs2,[]) else zCM (zL (zD cs1 16) xs1) (zL (zD cs2 16) xs2) n nn.toNat Z
def scanE_any (cs1 xs1 cs2 xs2:List Int) (s1 s2:Value) (l1:cs1.length=16) (l2:cs2.length=16) (A:Option Addr) (n c:Nat) (Z:List Int) (hZ:Z.length=n*64) (nn:Int) (m0:Int) (w:World) (hm:w.cell? ⟨0,0,none⟩=some (.int .i64 m0))
 (hs1:SL w 1 s1 xs1.length (ints xs1)) (hs2:SL w 1 s2 xs2.length (ints xs2)) (hs:SL w 64 (.slice A n c) n (ints Z)) :
 Calls Tryz.prog 45 #[.agg (zQ cs1 s1++zQ cs2 s2).toArray,.slice A n c,.int .i64 nn] w (zFw (zBN cs1 xs1 cs2 xs2 nn n Z) w):=by
 by_cases hr:nn<0∨100<nn
 ·rw[zBN,if_pos hr];exact zOg _ _ nn w hr
 rw[zBN,if_neg hr];have h1:=zU cs1 s1 l1;have h2:=zU cs2 s2 l2;have C1: ∀ W,Ext w W→Calls Tryz.prog 102 #[.agg (zQ cs1 s1).toArray] W fun e W'=>e=.returned (.int .i64 (zT cs1 xs1))∧Ext W W':=fun W h=>zAs cs1 xs1 s1 W l1 (hs1.ext h)
 have C2: ∀ W,Ext w W→Calls Tryz.prog 102 #[.agg (zQ cs2 s2).toArray] W fun e W'=>e=.returned (.int .i64 (zT cs2 xs2))∧Ext W W':=fun W h=>zAs cs2 xs2 s2 W l2 (hs2.ext h)
 have o1:=zCX cs1 s1 hs1;have o2:=zCX cs2 s2 hs2
 by_cases hE:twoE cs1 xs1 cs2 xs2=0
 ·rw[if_neg (by simpa using hE)];unfold twoE at hE
  have z1:zT cs1 xs1=0:=by
   by_cases h:zT cs1 xs1=0
   ·exact h
   ·rw[if_neg h] at hE;exact hE
  have z2:zT cs2 xs2=0:=by rw[if_pos z1] at hE;exact hE
  rw[z1] at C1;rw[z2] at C2;obtain⟨e,rfl⟩: ∃ e:Nat,nn=(e:Int):=⟨nn.toNat,by omega⟩
  have he:e≤100:=by omega
  have f1:=zFH cs1 xs1 l1 z1;have f2:=zFH cs2 xs2 l2 z2;rw[wF0]
  exact zQE _ _ f1 f2 _ _ A n c Z hZ e he w hs h1 h2 o1 o2 C1 C2
   (fun W' A' m c' P h' hP hp=>zRN _ _ f1 f2 _ _ A' m c' P hP m0 W' hp (zAX hm h') h1 h2 o1 o2 (fun W2 h3=>C1 W2 (h'.trans h3)) (fun W2 h3=>C2 W2 (h'.trans h3))
     (fun W2 h3=>zDR cs1 xs1 s1 W2 l1 ((hs1.ext h').ext h3) z1) (fun W2 h3=>zDR cs2 xs2 s2 W2 l2 ((hs2.ext h').ext h3) z2))
 ·rw[if_pos hE];exact zRC _ _ _ _ _ nn w (by omega) (by omega) h1 h2 o1 o2 C1 C2 hE
def zRl (n d:Int): -2047≤zCN n d∧zCN n d≤2047:=by
 exact zHy _ _ _ (by omega)
def zKC {F:Int→Int→Int}: ∀ (a b:List Int) (z:Int),z∈List.zipWith F a b→ ∃ x y,z=F x y
 | [],_,z,h=>by simp at h
 | _::_,[],z,h=>by simp at h
 | x::a,y::b,z,h=>by
   rw[wM7,wK0] at h;rcases h with h | h
   ·exact⟨x,y,h⟩
   ·exact zKC a b z h
def zSp (b q:List Int) (z:Int) (h:z∈blkF b q): -2047≤z∧z≤2047:=by
 unfold blkF vI at h;have h0: ∀ z∈yO, -2047≤z∧z≤2047:=by decide
 split at h
 ·split at h
  ·obtain⟨x,y,rfl⟩:=zKC _ _ z h;exact zRl x y
  ·exact h0 z h
 ·exact h0 z h
def zLE (q X:List Int): ∀ (k:Nat) (z:Int),z∈zCx q X k→ -2047≤z∧z≤2047
 | 0,z,h=>by simp[zCx] at h
 | k+1,z,h=>by
   rw[zCx,wE6] at h;rcases h with h | h
   ·exact zLE q X k z h
   ·exact zSp _ _ z h
def zPU (wd hi:Int) (L:List (List Int)) (q:List Int):qL (zN wd hi L q).2.1 (zN wd hi L q).2.2=0:=by
 refine zCh.2 ?_;unfold zN;split
 ·rename_i hE;split
  ·dsimp only;refine⟨?_,fun z hz=> ?_⟩
   ·have hT:=zNI tto L (picE_ok hE).1;have:=zIh wd hi (zBy tto L) (zBy tto L).length;rw[wJ3] at this;omega
   ·obtain⟨l, -,h⟩:=wP1.1 hz;exact zLE q _ _ z h
  ·exact⟨by simp,by simp⟩
 ·exact⟨by simp,by simp⟩
def zAl:(Tryz.prog.info? 42).map (·.size)=some 17:=by kernel_rfl
structure FC where
 wd:Int
 hi:Int
 pt:Int
 qs:List Int
 cs1:List Int
 xs1:List Int
 cs2:List Int
 xs2:List Int
 ev:Int
 data:List Nat
def FC.zero:FC:=⟨0,0,0,List.replicate 64 0,List.replicate 16 0,[],List.replicate 16 0,[],0,[]⟩
def FC.cells (F:FC) (s1 s2 sd:Value):Array Value:=(yY F.wd F.hi F.pt F.qs (zQ F.cs1 s1) (zQ F.cs2 s2) F.ev sd).toArray
def FC.at_ (F:FC) (w:World) (s1 s2 sd:Value):Prop:=SL w 1 s1 F.xs1.length (ints F.xs1)∧SL w 1 s2 F.xs2.length (ints F.xs2)∧SL w 1 sd F.data.length (zF F.data)
def FC.shaped (F:FC):Prop:=F.qs.length=64∧F.cs1.length=16∧F.cs2.length=16
def FC.at_.ext {F:FC} {w w':World} {s1 s2 sd:Value} (h:F.at_ w s1 s2 sd) (hx:Ext w w'):F.at_ w' s1 s2 sd:=⟨h.1.ext hx,h.2.1.ext hx,h.2.2.ext hx⟩
def FC.size {F:FC} (h:F.shaped) (s1 s2 sd:Value):(F.cells s1 s2 sd).size=103:=zEJ _ _ _ _ _ _ _ _ h.1 (zU _ _ h.2.1) (zU _ _ h.2.2)
def zKH:FC.zero.shaped:=⟨rfl,rfl,rfl⟩
def zFile:Array Value:=FC.zero.cells (.slice none 0 0) (.slice none 0 0) (.slice none 0 0)
def zero_at (w:World):FC.zero.at_ w (.slice none 0 0) (.slice none 0 0) (.slice none 0 0):=⟨SL.nil w 1,SL.nil w 1,SL.nil w 1⟩
def zBr:(Tryz.prog.info? 47).bind (·.zero)=some (.agg zFile):=by kernel_rfl
def zEy:Tryz.prog.built 47 []=some zFile:=by
 show _=_
 kernel_rfl
def zBM:zFile.size=103:=by unfold zFile;exact FC.size zKH _ _ _
def zJX (wd hi pt ev:Int) (qs:List Int) (t1 t2:List Value) (sd:Value):(yY wd hi pt qs t1 t2 ev sd).toArray=(ints [wd,hi,pt]++(ints qs++(t1++t2++[.int .i64 ev,sd]))).toArray:=by simp[yY]
def cells_1 (wd hi pt ev:Int) (qs:List Int) (t1 t2:List Value) (sd:Value):(yY wd hi pt qs t1 t2 ev sd).toArray=((ints [wd,hi,pt]++ints qs)++(t1++(t2++[.int .i64 ev,sd]))).toArray:=by simp[yY]
def cells_2 (wd hi pt ev:Int) (qs:List Int) (t1 t2:List Value) (sd:Value):(yY wd hi pt qs t1 t2 ev sd).toArray=((ints [wd,hi,pt]++ints qs++t1)++(t2++[.int .i64 ev,sd])).toArray:=by simp[yY]
def cells_d (wd hi pt ev:Int) (qs:List Int) (t1 t2:List Value) (sd u:Value) (hq:qs.length=64) (h1:t1.length=17) (h2:t2.length=17):(yY wd hi pt qs t1 t2 ev sd).toArray.setIfInBounds 102 u=(yY wd hi pt qs t1 t2 ev u).toArray:=by
 have e: ∀ s,(yY wd hi pt qs t1 t2 ev s).toArray=((ints [wd,hi,pt]++ints qs++t1++t2++[Value.int .i64 ev])++([s]++[])).toArray:=fun s=>by simp[yY]
 rw[e sd,e u];exact zPA _ _ _ 102 0 u (by simp[yA,hq,h1,h2]) (by simp)
def q_set (wd hi pt ev:Int) (qs:List Int) (t1 t2:List Value) (sd:Value) (k:Nat) (z:Int) (h:k<qs.length):(yY wd hi pt qs t1 t2 ev sd).toArray.setIfInBounds (3+k) (.int .i64 z)=(yY wd hi pt (qs.set k z) t1 t2 ev sd).toArray:=by
 rw[zJX,zJX,zPA _ _ _ 3 k _ rfl (by rw[yA];exact h)];unfold ints;rw[List.map_set]
def zGo (cs:List Int) (A:Option Addr) (k c:Nat): ∀ v∈zQ cs (.slice A k c),v.oneCell'=true:=by
 intro v hv;unfold zQ at hv;rcases wE6.1 hv with hv | hv
 ·exact qY _ v hv
 ·simp at hv;subst hv;rfl
def zDp (F:FC) (A B C:Option Addr) (a b c d e f:Nat):(F.cells (.slice A a b) (.slice B c d) (.slice C e f)).all (·.oneCell')=true:=by
 unfold FC.cells yY;rw[wR1,wB5];intro v hv;simp only[wE6] at hv;rcases hv with (((hv | hv) | hv) | hv) | hv
 ·exact qY _ v hv
 ·exact qY _ v hv
 ·exact zGo _ _ _ _ v hv
 ·exact zGo _ _ _ _ v hv
 ·simp at hv;rcases hv with rfl | rfl<;>rfl
def zDF:zFile.all (·.oneCell')=true:=zDp _ _ _ _ _ _ _ _ _ _
section
variable {ops:Array Oper} {rest:List Oper} {o:Oper} {ac:Act} {w:World} {Q:Exit→Act→World→Prop}
def store_q (hgd:o.guard=none) (x y:Operand) (ho:o.op=.store 33 x y) (gf:Nat) (F:FC) (hF:F.shaped) (s1 s2 sd:Value) (q:List Int) (hq:q.length=64) (hx:ac.eval x=.pointer (some ⟨gf,3,none⟩)) (hy:ac.eval y=.agg (bv q))
 (hB:Blk w gf 47 (F.cells s1 s2 sd)) (h: ∀ w1,Blk w1 gf 47 (FC.cells { F with qs:=q } s1 s2 sd)→Upd (fun b=>b=gf) w w1→wpList Tryz.prog ops Q rest (ac.put o.dst undef) w1):wpList Tryz.prog ops Q (o::rest) ac w:=by
 unfold FC.cells at hB h;rw[zJX] at hB;refine vT hgd _ x y ho gf 3 (ints q) hx hy hB rfl (by rw[yA,yA,hq,hF.1]) (by rw[yA,hq];exact zH) (qY q) (fun w1 h1 h2=>h w1 ?_ h2);rw[zJX];exact h1
def store_t1 (hgd:o.guard=none) (x y:Operand) (ho:o.op=.store 42 x y) (gf:Nat) (F:FC) (hF:F.shaped) (s1 s2 sd:Value) (cs xs:List Int) (hcs:cs.length=16) (A:Option Addr) (k c:Nat) (hx:ac.eval x=.pointer (some ⟨gf,67,none⟩)) (hy:ac.eval y=.agg (yL cs (.slice A k c)))
 (hB:Blk w gf 47 (F.cells s1 s2 sd)) (h: ∀ w1,Blk w1 gf 47 (FC.cells { F with cs1:=cs,xs1:=xs } (.slice A k c) s2 sd)→Upd (fun b=>b=gf) w w1→wpList Tryz.prog ops Q rest (ac.put o.dst undef) w1):wpList Tryz.prog ops Q (o::rest) ac w:=by
 unfold FC.cells at hB h;rw[cells_1] at hB;refine vT hgd _ x y ho gf 67 (zQ cs (.slice A k c)) hx hy hB (by simp[yA,hF.1]) (by rw[zU _ _ hF.2.1,zU _ _ hcs]) (by rw[zU _ _ hcs];exact zAl) (zGo cs A k c) (fun w1 h1 h2=>h w1 ?_ h2);rw[cells_1];exact h1
def store_t2 (hgd:o.guard=none) (x y:Operand) (ho:o.op=.store 42 x y) (gf:Nat) (F:FC) (hF:F.shaped) (s1 s2 sd:Value) (cs xs:List Int) (hcs:cs.length=16) (A:Option Addr) (k c:Nat) (hx:ac.eval x=.pointer (some ⟨gf,84,none⟩)) (hy:ac.eval y=.agg (yL cs (.slice A k c)))
 (hB:Blk w gf 47 (F.cells s1 s2 sd)) (h: ∀ w1,Blk w1 gf 47 (FC.cells { F with cs2:=cs,xs2:=xs } s1 (.slice A k c) sd)→Upd (fun b=>b=gf) w w1→wpList Tryz.prog ops Q rest (ac.put o.dst undef) w1):wpList Tryz.prog ops Q (o::rest) ac w:=by
 unfold FC.cells at hB h;rw[cells_2] at hB;refine vT hgd _ x y ho gf 84 (zQ cs (.slice A k c)) hx hy hB (by simp[yA,hF.1,zU _ _ hF.2.1]) (by rw[zU _ _ hF.2.2,zU _ _ hcs]) (by rw[zU _ _ hcs];exact zAl) (zGo cs A k c) (fun w1 h1 h2=>h w1 ?_ h2);rw[cells_2];exact h1
def load_q (hgd:o.guard=none) (x:Operand) (ho:o.op=.load 33 x) (gf:Nat) (F:FC) (hF:F.shaped) (s1 s2 sd:Value) (hx:ac.eval x=.pointer (some ⟨gf,3,none⟩))
 (hB:Blk w gf 47 (F.cells s1 s2 sd)) (h:wpList Tryz.prog ops Q rest (ac.put o.dst (.agg (bv F.qs))) w):wpList Tryz.prog ops Q (o::rest) ac w:=by
 unfold FC.cells at hB;exact wpList_load_mid hgd _ x ho gf 3 hx (ints F.qs) _ (zBu hB hF.1 (zU _ _ hF.2.1) (zU _ _ hF.2.2)).q Tryz.underlying33 rfl (by rw[yA,hF.1];exact zH) h
def store_qk (hgd:o.guard=none) (x y:Operand) (ho:o.op=.store 3 x y) (gf:Nat) (F:FC) (hF:F.shaped) (s1 s2 sd:Value) (k:Nat) (hk:k<64) (z:Int) (hx:ac.eval x=.pointer (some ⟨gf,3+k,none⟩)) (hy:ac.eval y=.int .i64 z)
 (hB:Blk w gf 47 (F.cells s1 s2 sd)) (h: ∀ w1,Blk w1 gf 47 (FC.cells { F with qs:=F.qs.set k z } s1 s2 sd)→Upd (fun b=>b=gf) w w1→wpList Tryz.prog ops Q rest (ac.put o.dst undef) w1):wpList Tryz.prog ops Q (o::rest) ac w:=by
 refine uK hgd x y ho gf (3+k) z hx hy hB (by rw[FC.size hF];omega) (h _ ?_ ((Upd.refl (fun b=>b=gf) w).setCell (p:=⟨gf,3+k,none⟩) rfl _));have:=hB.set_ (3+k) (.int .i64 z);unfold FC.cells at this ⊢
 rwa [q_set _ _ _ _ _ _ _ _ _ _ (by rw[hF.1];exact hk)] at this
def wl_storeB {i:Nat} {A:Option Addr} {n c:Nat} (hg:o.guard=none) (x y:Operand) (ho:o.op=.store 45 x y) (g:Nat) (hx:ac.eval x=.pointer (some ⟨g,i,none⟩)) (hy:ac.eval y=.slice A n c)
 {t:TypeId} {cs:Array Value} (hB:Blk w g t cs) (hi:i<cs.size) (h:wpList Tryz.prog ops Q rest (ac.put o.dst undef) (w.setCell ⟨g,i,none⟩ (.slice A n c))):wpList Tryz.prog ops Q (o::rest) ac w :=
 wpList_plain hg fun _ hK=>by
  have hc:=(hB.cell i).trans (wF2 hi);have hf:=hB.frozen i;unfold Oper.wp execOp;simp only[ho,hx,hy];go_simp
  exact hK _ _ h
def zMt (hgd:o.guard=none) (x y:Operand) (ho:o.op=.store 45 x y) (gf:Nat) (F:FC) (hF:F.shaped) (s1 s2 sd:Value) (data:List Nat) (A:Option Addr) (n c:Nat) (hx:ac.eval x=.pointer (some ⟨gf,102,none⟩)) (hy:ac.eval y=.slice A n c)
 (hB:Blk w gf 47 (F.cells s1 s2 sd)) (h: ∀ w1,Blk w1 gf 47 (FC.cells { F with data:=data } s1 s2 (.slice A n c))→Upd (fun b=>b=gf) w w1→wpList Tryz.prog ops Q rest (ac.put o.dst undef) w1):wpList Tryz.prog ops Q (o::rest) ac w:=by
 refine wl_storeB hgd x y ho gf hx hy hB (by rw[FC.size hF];omega) (h _ ?_ ((Upd.refl (fun b=>b=gf) w).setCell (p:=⟨gf,102,none⟩) rfl _));have:=hB.set_ 102 (.slice A n c);unfold FC.cells at this ⊢
 rwa [cells_d _ _ _ _ _ _ _ _ _ hF.1 (zU _ _ hF.2.1) (zU _ _ hF.2.2)] at this
end
def zNE (off:Nat): ∀ (news old a b:List Value) (k:Nat),a.length=off+k→old.length=news.length →
 (news.zipIdx k).foldl (fun cs (x:Value×Nat)=>cs.setIfInBounds (off+x.2) x.1) (a++(old++b)).toArray=(a++(news++b)).toArray
 | [],old,a,b,k,_,h=>by
   have:old=[]:=wP4.1 (by simpa using h);subst this;rfl
 | v::news,[],a,b,k,_,h=>by simp at h
 | v::news,o::old,a,b,k,ha,h=>by
   rw[wD2,List.foldl_cons];dsimp only;rw[wN6,wF8 _ _ (by omega),show off+k-a.length=0 by omega,wL4,wG1];have:=zNE off news old (a++[v]) b (k+1) (by simp;omega) (by simpa using h);rw[show a++v::(old++b)=(a++[v])++(old++b) by simp,this];simp
def zDJ (place:Nat→Option (Nat×Nat)) (i off:Nat) (v:Value) (news:List Value) (rest:List (Nat×Value)) (a old b:List Value) (hp:place i=some (off,news.length)) (hv:v.cells=news.toArray) (ha:a.length=off) (ho:old.length=news.length) :
 Instr.fill place (a++(old++b)).toArray ((i,v)::rest)=Instr.fill place (a++(news++b)).toArray rest:=by
 rw[Instr.fill,hp];dsimp only;rw[hv,if_neg (by simp;omega)];congr 1
 rw[←Array.foldl_toList,Array.toList_zipIdx];exact zNE off news old a b 0 (by omega) ho
def placesF:List (Nat×Nat):=[(0,1),(1,1),(2,1),(3,64),(67,34),(101,1),(102,1)]
def zSK (parts:List (Nat×Value)):Tryz.prog.built 47 parts=Instr.fill (placesF.toArray[·]?) zFile parts:=by
 show _=_
 kernel_rfl
def zMM (wd hi pt ev:Int) (qs:List Int) (hq:qs.length=64) (t1 t2:List Value) (h1:t1.length=17) (h2:t2.length=17) :
 Tryz.prog.built 47 [(0,.int .i64 wd),(1,.int .i64 hi),(2,.int .i64 pt),(3,.agg (bv qs)),(5,.int .i64 ev),(4,.agg (t1++t2).toArray)]=some (yY wd hi pt qs t1 t2 ev (.slice none 0 0)).toArray:=by
 rw[zSK];obtain⟨zq,hzq⟩: ∃ l,l=ints (List.replicate 64 0):=⟨_,rfl⟩
 obtain⟨zt,hzt⟩: ∃ l,l=zQ (List.replicate 16 0) (.slice none 0 0)++zQ (List.replicate 16 0) (.slice none 0 0):=⟨_,rfl⟩
 have l1:zq.length=64:=by rw[hzq];simp[yA]
 have l2:zt.length=34:=by rw[hzt];rfl
 have e:zFile=([]++([Value.int .i64 0]++([Value.int .i64 0,Value.int .i64 0]++(zq++(zt++[Value.int .i64 0,Value.slice none 0 0])))):List Value).toArray:=by
  rw[hzq,hzt];simp[zFile,FC.zero,FC.cells,yY,ints]
 rw[e,zDJ _ 0 0 _ [.int .i64 wd] _ _ _ _ (by rfl) (by rfl) (by rfl) (by rfl)];have e1:([]++([Value.int .i64 wd]++([.int .i64 0,.int .i64 0]++(zq++(zt++[.int .i64 0,.slice none 0 0])))):List Value).toArray=([Value.int .i64 wd]++([.int .i64 0]++([.int .i64 0]++(zq++(zt++[.int .i64 0,.slice none 0 0])))):List Value).toArray:=by simp
 rw[e1];rw[zDJ _ 1 1 _ [.int .i64 hi] _ _ _ _ (by rfl) (by rfl) (by rfl) (by rfl)];have e2:([Value.int .i64 wd]++([.int .i64 hi]++([.int .i64 0]++(zq++(zt++[.int .i64 0,.slice none 0 0])))):List Value).toArray=([Value.int .i64 wd,.int .i64 hi]++([.int .i64 0]++(zq++(zt++[.int .i64 0,.slice none 0 0]))):List Value).toArray:=by simp
 rw[e2];rw[zDJ _ 2 2 _ [.int .i64 pt] _ _ _ _ (by rfl) (by rfl) (by rfl) (by rfl)];have e3:([Value.int .i64 wd,.int .i64 hi]++([.int .i64 pt]++(zq++(zt++[.int .i64 0,.slice none 0 0]))):List Value).toArray=([Value.int .i64 wd,.int .i64 hi,.int .i64 pt]++(zq++(zt++[.int .i64 0,.slice none 0 0])):List Value).toArray:=by simp
 rw[e3];rw[zDJ _ 3 3 (.agg (bv qs)) (ints qs) _ _ _ _ (by rw[yA,hq];rfl) (by rfl) (by rfl) (by rw[yA,l1,hq])];have e4:([Value.int .i64 wd,.int .i64 hi,.int .i64 pt]++(ints qs++(zt++[.int .i64 0,.slice none 0 0])):List Value).toArray=(([Value.int .i64 wd,.int .i64 hi,.int .i64 pt]++ints qs++zt)++([.int .i64 0]++[.slice none 0 0]):List Value).toArray:=by simp
 rw[e4];rw[zDJ _ 5 101 _ [.int .i64 ev] _ _ _ _ (by rfl) (by rfl) (by simp[yA,hq,l2]) (by rfl)];have e5:(([Value.int .i64 wd,.int .i64 hi,.int .i64 pt]++ints qs++zt)++([.int .i64 ev]++[.slice none 0 0]):List Value).toArray=(([Value.int .i64 wd,.int .i64 hi,.int .i64 pt]++ints qs)++(zt++[.int .i64 ev,.slice none 0 0]):List Value).toArray:=by simp
 rw[e5];rw[zDJ _ 4 67 (.agg (t1++t2).toArray) (t1++t2) _ _ _ _ (by rw[wF3,h1,h2];rfl) (by rfl) (by simp[yA,hq]) (by rw[wF3,h1,h2,l2])];simp[Instr.fill,yY,ints]
section
def zDb (wd hi:Int) (L:List (List Int)) (q:List Int) (nn E:Int) (F:FC):Prop :=
 if (zN wd hi L q).1≠0 then E=(zN wd hi L q).1∧F=FC.zero
 else if nn<0∨100<nn then E=1∧F=FC.zero
 else ∃ cs1 xs1 cs2 xs2,zDX (xI (zN wd hi L q).2.1 nn.toNat (zN wd hi L q).2.2 (yG (zN wd hi L q).2.1 nn.toNat)).1 cs1 xs1∧zDX (xI (zN wd hi L q).2.1 nn.toNat (zN wd hi L q).2.2 (yG (zN wd hi L q).2.1 nn.toNat)).2 cs2 xs2∧cs1.length=16∧cs2.length=16 ∧
  E=(zBN cs1 xs1 cs2 xs2 nn (zN wd hi L q).2.1 (zN wd hi L q).2.2).1∧F=if E=0 then ⟨wd,hi,L.length,q,cs1,xs1,cs2,xs2,nn,(zBN cs1 xs1 cs2 xs2 nn (zN wd hi L q).2.1 (zN wd hi L q).2.2).2⟩ else FC.zero
def NewB (w:World) (v:Value):Prop:= ∀ b,v.ownBlock=some b→w.heap.size≤b
def zPw (w:World):NewB w (.slice none 0 0):=fun b h=>by cases h
def EncIs (wd hi:Int) (L:List (List Int)) (q:List Int) (nn:Int) (w:World) (e:Ending) (w':World):Prop :=
 ∃ E F s1 s2 sd,e=.returned (.tuple #[.agg (F.cells s1 s2 sd),.int .i64 E])∧F.shaped∧F.at_ w' s1 s2 sd∧zDb wd hi L q nn E F∧Ext w w'∧NewB w s1∧NewB w s2
def EncIs.zero {wd hi:Int} {L:List (List Int)} {q:List Int} {nn E:Int} {w w':World} (h:zDb wd hi L q nn E FC.zero) (hx:Ext w w'):EncIs wd hi L q nn w (.returned (.tuple #[.agg zFile,.int .i64 E])) w' :=
 ⟨E,FC.zero,_,_,_,rfl,zKH,zero_at w',h,hx,zPw w,zPw w⟩
attribute [local irreducible] bv zN xI yG zBN zFile

def fenc_bad (wd hi:Int) (L:List (List Int)) (A:Option Addr) (n c:Nat) (q:List Int) (hq:q.length=64) (nn:Int) (w:World) (hr:RowsS w A n c L) (hE:(zN wd hi L q).1≠0) :
 Calls Tryz.prog 17 #[.agg (xG wd hi (.slice A n c)),.agg (bv q),.int .i64 nn] w (EncIs wd hi L q nn w):=by
 have H1:=zA (fun W (h:Ext w W)=>zCj wd hi L A n c q hq W (hr.ext h));have HR:=zA (fun W (h:Ext w W)=>EncIs.zero (wd:=wd) (hi:=hi) (L:=L) (q:=q) (nn:=nn) (E:=(zN wd hi L q).1) (w:=w) (w':=W) (by unfold zDb;rw[if_pos hE];exact⟨rfl,rfl⟩) h);have hzb:decide ((zN wd hi L q).1=0)=false:=by simpa using hE
 have hps:=zA (vX wd hi (.slice A n c));have hqs:=zA (show (bv q).size=64 by rw[zK,hq]);have hzs:=zA zBM;have hz0:=zBr;have hbf:=zA zEy;unfold FrmIs at H1;generalize zN wd hi L q=z at *;obtain⟨E,m,Z⟩:=z;dsimp only at H1 HR hzb hE;have HE:=zA hE;generalize xG wd hi (.slice A n c)=pv at *;generalize bv q=qv at *;clear hE hr hq;go_enter Tryz.func17,Tryz.ntmps17
 go_wp2_with (first
  | ((with_reducible apply gS 3);refine wBox rfl 31 (.tmp 0) rfl pv rfl ?_;intro w1 g1 hb1 hx1 hg1)
  | ((with_reducible apply gS 4);refine wBox rfl 33 (.tmp 1) rfl qv rfl ?_;intro w2 g2 hb2 hx2 hg2;have hb12:=hb1.ext hx2;have hx12:=hx1.trans hx2)
  | ((with_reducible apply gS 6);refine wAlo' rfl (some 6) rfl 47 rfl _ hz0 ?_;intro w3 g0 hb0 hx3 hg0;have hb13:=hb12.ext hx3;have hb23:=hb2.ext hx3;have hx13:=hx12.trans hx3)
  | ((with_reducible apply gS 12);refine wLdB rfl 31 (.tmp 3) rfl g1 rfl hb13 _ Tryz.underlying31 rfl 3 jT hps.out ?_)
  | ((with_reducible apply gS 13);refine wLdB rfl 33 (.tmp 4) rfl g2 rfl hb23 _ Tryz.underlying33 rfl 64 zH hqs.out ?_)
  | (go_at_call 13;(with_reducible refine (H1.out _ hx13).mono ?_);rintro e4 w4 ⟨B4,d4,rfl,hs4,hx4⟩)
  | ((with_reducible apply gS 18);refine zB rfl (.bool false) (jQ rfl rfl rfl hzb) ?_)
  | ((with_reducible apply gS 28);refine zB rfl (.bool true) (jZ rfl rfl rfl (by simpa using HE.out)) ?_)
  | ((with_reducible apply gS 29);refine jN (by rfl) 47 rfl _ hbf.out ?_)
  | ((with_reducible apply gT 6 29);refine wStB rfl 47 (.tmp 6) (.tmp 29) rfl g0 zFile rfl rfl (hb0.ext hx4) 103 yQ hzs.out hzs.out zDF ?_;intro w5 hb5 hg5))
 exact yK rfl rfl g0 rfl hb5 _ Tryz.underlying47 rfl 103 yQ hzs.out (HR.out _ ((hx13.trans hx4).grown hg5 (by have:=hx12.size;omega)))

def fenc_low (wd hi:Int) (L:List (List Int)) (A:Option Addr) (n c:Nat) (q:List Int) (hq:q.length=64) (nn:Int) (w:World) (hr:RowsS w A n c L) (hE:(zN wd hi L q).1=0) (hn:nn<0) :
 Calls Tryz.prog 17 #[.agg (xG wd hi (.slice A n c)),.agg (bv q),.int .i64 nn] w (EncIs wd hi L q nn w):=by
 have H1:=zA (fun W (h:Ext w W)=>zCj wd hi L A n c q hq W (hr.ext h));have HR:=zA (fun W (h:Ext w W)=>EncIs.zero (wd:=wd) (hi:=hi) (L:=L) (q:=q) (nn:=nn) (E:=1) (w:=w) (w':=W) (by unfold zDb;rw[if_neg (by simpa using hE),if_pos (by omega)];exact⟨rfl,rfl⟩) h);have hps:=zA (vX wd hi (.slice A n c));have hqs:=zA (show (bv q).size=64 by rw[zK,hq]);have hzs:=zA zBM;have hz0:=zBr;have hbf:=zA zEy;unfold FrmIs at H1;generalize zN wd hi L q=z at *;obtain⟨E,m,Z⟩:=z;dsimp only at H1 HR hE;subst hE;have HN:=zA hn;generalize xG wd hi (.slice A n c)=pv at *;generalize bv q=qv at *;clear hr hq hn;go_enter Tryz.func17,Tryz.ntmps17
 go_wp2_with (first
  | ((with_reducible apply gS 3);refine wBox rfl 31 (.tmp 0) rfl pv rfl ?_;intro w1 g1 hb1 hx1 hg1)
  | ((with_reducible apply gS 4);refine wBox rfl 33 (.tmp 1) rfl qv rfl ?_;intro w2 g2 hb2 hx2 hg2;have hb12:=hb1.ext hx2;have hx12:=hx1.trans hx2)
  | ((with_reducible apply gS 6);refine wAlo' rfl (some 6) rfl 47 rfl _ hz0 ?_;intro w3 g0 hb0 hx3 hg0;have hb13:=hb12.ext hx3;have hb23:=hb2.ext hx3;have hx13:=hx12.trans hx3)
  | ((with_reducible apply gS 12);refine wLdB rfl 31 (.tmp 3) rfl g1 rfl hb13 _ Tryz.underlying31 rfl 3 jT hps.out ?_)
  | ((with_reducible apply gS 13);refine wLdB rfl 33 (.tmp 4) rfl g2 rfl hb23 _ Tryz.underlying33 rfl 64 zH hqs.out ?_)
  | (go_at_call 13;(with_reducible refine (H1.out _ hx13).mono ?_);rintro e4 w4 ⟨B4,d4,rfl,hs4,hx4⟩)
  | ((with_reducible apply gS 21);refine xA (by rfl) (.bool true) (zZ rfl rfl rfl (wL0 HN.out)) ?_)
  | ((with_reducible apply gS 29);refine jN (by rfl) 47 rfl _ hbf.out ?_)
  | ((with_reducible apply gT 6 29);refine wStB rfl 47 (.tmp 6) (.tmp 29) rfl g0 zFile rfl rfl (hb0.ext hx4) 103 yQ hzs.out hzs.out zDF ?_;intro w5 hb5 hg5))
 exact yK rfl rfl g0 rfl hb5 _ Tryz.underlying47 rfl 103 yQ hzs.out (HR.out _ ((hx13.trans hx4).grown hg5 (by have:=hx12.size;omega)))

def fenc_high (wd hi:Int) (L:List (List Int)) (A:Option Addr) (n c:Nat) (q:List Int) (hq:q.length=64) (nn:Int) (w:World) (hr:RowsS w A n c L) (hE:(zN wd hi L q).1=0) (hn: ¬nn<0∧100<nn) :
 Calls Tryz.prog 17 #[.agg (xG wd hi (.slice A n c)),.agg (bv q),.int .i64 nn] w (EncIs wd hi L q nn w):=by
 have H1:=zA (fun W (h:Ext w W)=>zCj wd hi L A n c q hq W (hr.ext h));have HR:=zA (fun W (h:Ext w W)=>EncIs.zero (wd:=wd) (hi:=hi) (L:=L) (q:=q) (nn:=nn) (E:=1) (w:=w) (w':=W) (by unfold zDb;rw[if_neg (by simpa using hE),if_pos (by omega)];exact⟨rfl,rfl⟩) h);have hps:=zA (vX wd hi (.slice A n c));have hqs:=zA (show (bv q).size=64 by rw[zK,hq]);have hzs:=zA zBM;have hz0:=zBr;have hbf:=zA zEy;unfold FrmIs at H1;generalize zN wd hi L q=z at *;obtain⟨E,m,Z⟩:=z;dsimp only at H1 HR hE;subst hE;have H21:Hid (decide (nn<0)=false):=zA (wL1 hn.1);have H24:Hid (decide ((100:Int)<nn)=true):=zA (wL0 hn.2);generalize xG wd hi (.slice A n c)=pv at *;generalize bv q=qv at *;clear hr hq hn;go_enter Tryz.func17,Tryz.ntmps17
 go_wp2_with (first
  | ((with_reducible apply gS 3);refine wBox rfl 31 (.tmp 0) rfl pv rfl ?_;intro w1 g1 hb1 hx1 hg1)
  | ((with_reducible apply gS 4);refine wBox rfl 33 (.tmp 1) rfl qv rfl ?_;intro w2 g2 hb2 hx2 hg2;have hb12:=hb1.ext hx2;have hx12:=hx1.trans hx2)
  | ((with_reducible apply gS 6);refine wAlo' rfl (some 6) rfl 47 rfl _ hz0 ?_;intro w3 g0 hb0 hx3 hg0;have hb13:=hb12.ext hx3;have hb23:=hb2.ext hx3;have hx13:=hx12.trans hx3)
  | ((with_reducible apply gS 12);refine wLdB rfl 31 (.tmp 3) rfl g1 rfl hb13 _ Tryz.underlying31 rfl 3 jT hps.out ?_)
  | ((with_reducible apply gS 13);refine wLdB rfl 33 (.tmp 4) rfl g2 rfl hb23 _ Tryz.underlying33 rfl 64 zH hqs.out ?_)
  | (go_at_call 13;(with_reducible refine (H1.out _ hx13).mono ?_);rintro e4 w4 ⟨B4,d4,rfl,hs4,hx4⟩)
  | ((with_reducible apply gS 21);refine xA (by rfl) (.bool false) (zZ rfl rfl rfl H21.out) ?_)
  | ((with_reducible apply gS 24);refine xA (by rfl) (.bool true) (xU rfl rfl rfl H24.out) ?_)
  | ((with_reducible apply gS 29);refine jN (by rfl) 47 rfl _ hbf.out ?_)
  | ((with_reducible apply gT 6 29);refine wStB rfl 47 (.tmp 6) (.tmp 29) rfl g0 zFile rfl rfl (hb0.ext hx4) 103 yQ hzs.out hzs.out zDF ?_;intro w5 hb5 hg5))
 exact yK rfl rfl g0 rfl hb5 _ Tryz.underlying47 rfl 103 yQ hzs.out (HR.out _ ((hx13.trans hx4).grown hg5 (by have:=hx12.size;omega)))
end
end Go.Proofs.YtkggcjdlpendfaaGreatDoor
namespace Go.Proofs.YtkggcjdlpendfaaGreatDoor.BM
def Good (p:Pack):Prop:=p.1=1∧p.2.count 0=1∧ ∀ s∈p.2,s= -1∨s=0
def zP:Pack:=(0,[-1])
def zKS:Good (1,[0]):=⟨rfl,by decide,fun s h=>by simp at h;exact .inr h⟩
def good_more {p:Pack} (h:Good p):Good (0+p.1,[-1]++p.2):=by
 refine⟨by rw[Nat.zero_add];exact h.1, ?_,fun s hs=> ?_⟩
 ·show ([-1]++p.2).count 0=1
  rw[List.count_append,h.2.1];decide
 ·rcases List.mem_append.1 hs with h1 | h1
  ·simp at h1;exact .inl h1
  ·exact h.2.2 s h1
def zMO {L r:List Pack} (hp:L.Perm (zP::r)) (hs:(L.map (·.1)).Pairwise (· ≤ ·)) (hr: ∀ p∈r,Good p): ∃ l,L=zP::l∧l.Perm r:=by
 cases L with
 | nil=>exact absurd hp.length_eq (by simp)
 | cons x l =>
   have hx:x=zP:=by
    have h1:zP∈x::l:=hp.symm.subset (by simp);rcases List.mem_cons.1 (hp.subset (List.mem_cons_self (a:=x) (l:=l))) with h2 | h2
    ·exact h2
    ·have h3:=(hr x h2).1;rcases List.mem_cons.1 h1 with h4 | h4
     ·exact h4.symm
     ·rw[List.map_cons,List.pairwise_cons] at hs;have h5:=hs.1 zP.1 (List.mem_map.2 ⟨zP,h4,rfl⟩);have h6:zP.1=0:=rfl;omega
   subst hx;exact⟨l,rfl,hp.cons_inv⟩
def zSN {S:List Pack} (hS:S=[zP,(1,[0])]): ∀ {f L},Reach S f L→ ∃ p r,L=zP::p::r∧r.length≤1∧Good p:=by
 intro f L h
 induction h with
 | zero=>exact⟨(1,[0]),[],hS,by simp,zKS⟩
 | step h1 h2 h3 ih =>
   obtain⟨p,r,rfl,hr,hg⟩:=ih
   have hpr:pairP (zP::p::r)=[(0+p.1,[-1]++p.2)]:=by
    cases r with
    | nil=>rfl
    | cons x r=>cases r with
      | nil=>rfl
      | cons y r=>simp at hr
   rw[hpr,hS] at h2;have h4:=h2.trans (show ([(0+p.1,[-1]++p.2)]++[zP,(1,[0])]).Perm (zP::[(0+p.1,[-1]++p.2),(1,[0])]) from List.Perm.swap _ _ _)
   have hgo: ∀ q∈[((0+p.1,[-1]++p.2):Pack),(1,[0])],Good q:=fun q hq=>by
    simp only[List.mem_cons,List.not_mem_nil,or_false] at hq;rcases hq with rfl | rfl
    ·exact good_more hg
    ·exact zKS
   obtain⟨l,rfl,hl⟩:=zMO h4 h3 hgo;have hll:=hl.length_eq
   cases l with
   | nil=>simp at hll
   | cons q l=>exact⟨q,l,rfl,by simp at hll;omega,hgo q (hl.subset List.mem_cons_self)⟩
def filt_same {f g:Int→Nat} {n:Nat} (h: ∀ j,j<n→f (j:Int)=g (j:Int)) (k:Nat):filt f k n=filt g k n:=by
 unfold filt;refine List.filter_congr fun s hs=> ?_
 obtain⟨j,hj,rfl⟩:=List.mem_map.1 hs;rw[show f (Int.ofNat j)=g (Int.ofNat j) from h j (List.mem_range.1 hj)]
def tabs_same {f g:Int→Nat} {n:Nat} (h: ∀ j,j<n→f (j:Int)=g (j:Int)):csN f n 16 0=csN g n 16 0∧xsN f n 16 0=xsN g n 16 0:=by
 have hf:=fun k=>filt_same h k
 refine⟨?_, ?_⟩
 ·unfold csN;refine List.map_congr_left fun j hj=> ?_
  have:=List.mem_range.1 hj;rw[if_pos this,if_pos this,hf]
 ·unfold xsN;rw[show filt f 16 0=filt g 16 0 from rfl,show (fun j=>filt f j n)=(fun j=>filt g j n) from funext hf]
def made_one {counts cs xs:List Int} (hM:Made counts cs xs) (h1:singN counts counts.length=[zP,(1,[0])]) :
 cs=csN (fun s=>if s=0 then 1 else 0) counts.length 16 0∧xs=xsN (fun s=>if s=0 then 1 else 0) counts.length 16 0:=by
 obtain⟨S,L,hS,hso,hR,hcs,hxs⟩:=hM;rw[h1] at hS;obtain⟨l,e,hl⟩:=zMO hS hso (fun p hp=>by simp at hp;subst hp;exact zKS);have hl1:l=[(1,[0])]:=List.perm_singleton.1 hl;rw[hl1] at e;obtain⟨p,r,hL, -,hg⟩:=zSN e hR;have ht:L.take (2*S.length-2)=[zP,p]:=by rw[e,hL];rfl
 rw[ht] at hcs hxs
 have hf: ∀ j,j<counts.length→(cont [zP,p]).count ((j:Nat):Int)=(fun s:Int=>if s=0 then 1 else 0) (j:Int):=fun j _=>by
  have hc:cont [zP,p]=[-1]++p.2:=by simp[cont,zP]
  rw[hc,List.count_append]
  have h0:List.count ((j:Nat):Int) [-1]=0:=by
   rw[List.count_eq_zero];simp
  rw[h0,Nat.zero_add];dsimp only
  by_cases hj:j=0
  ·subst hj;exact hg.2.1
  ·rw[if_neg (by omega),List.count_eq_zero];intro hm;rcases hg.2.2 _ hm with h | h<;>omega
 obtain⟨t1,t2⟩:=tabs_same (f:=fun s=>(cont [zP,p]).count s) (g:=fun s=>if s=0 then 1 else 0) hf;exact⟨hcs.trans t1,hxs.trans t2⟩
end Go.Proofs.YtkggcjdlpendfaaGreatDoor.BM
