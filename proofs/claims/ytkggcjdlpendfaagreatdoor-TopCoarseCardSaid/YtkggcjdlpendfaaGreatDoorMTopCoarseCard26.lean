/- Contracts of the functions that the law reaches, part 26. -/
import Derived.Test.YtkggcjdlpendfaaGreatDoorMTopCoarseCard25
namespace Go.Proofs.YtkggcjdlpendfaaGreatDoor
set_option linter.unusedVariables false
set_option linter.unusedSimpArgs false
set_option maxRecDepth 20000
set_option maxHeartbeats 8000000
open Go.RowKit
section
theorem cnt_okS: ∀ (l:List (Tok×Bool)) (s:List Int×List Int),(jT vE l s).1=0
 | [],_=>rfl
 | (_,_)::r,_=>by rw[zCL rfl];exact cnt_okS r _
theorem each_eS (n:Nat) (Z:List Int) (s:List Int×List Int):(qD vE n Z s).1=qF n Z:=by
 unfold qD qF
 split
 ·rfl
 ·split
  ·rfl
  ·exact cnt_okS _ _
theorem zQY {n:Nat} {Z:List Int} (h:qF n Z=0):n≤400:=by
 unfold qF at h
 by_cases h1:400<n
 ·rw[if_pos h1] at h;cases h
 ·omega
theorem zOu (A:Option Addr) (n c:Nat) (Z:List Int) (hZ:Z.length=n*64) (w:World) (hs:SL w 64 (.slice A n c) n (ints Z)) :
 Calls Tryz.prog 100 #[.slice A n c] w fun e w'=> ∃ u v,e=.returned (.tuple #[u,v,.int .i64 (qF n Z)])∧Ext w w' :=
 (zKR A n c Z hZ w hs).mono fun e w' h=>by
   obtain⟨hx,h⟩:=h
   rw[each_eS] at h
   by_cases h0:qF n Z=0
   ·rw[if_pos h0] at h
    obtain⟨gA,gB,rfl, -⟩:=h
    exact⟨_,_,by rw[h0],hx⟩
   ·rw[if_neg h0] at h
    exact⟨_,_,h,hx⟩
theorem run_convS (n:Nat) (W:World):(convert 3 5 (.int .i64 (n:Int))).run Tryz.prog W=.ok (.int .u8 ((n%256:Nat):Int)) W:=by
 simp[convert,run_underlying Tryz.underlying3,run_underlying Tryz.underlying5,Conv.intToInt,show IntKind.u8.wrap (n:Int)=((n%256:Nat):Int) by simp[IntKind.wrap,IntKind.signed,IntKind.bits]]
theorem zNs {o:Oper} {a:Act} {x:Operand} (ho:o.op=.convert 3 5 x) {n:Nat} (hx:a.eval x=.int .i64 (n:Int)) (h:n<256) (w:World):(execOp a.eval o).run Tryz.prog w=.ok (.value (.int .u8 (n:Int))) w:=by
 simp only[execOp,ho,hx,Sem.run_bind,run_convS,Result.andThen_ok,Sem.run_pure,wK9 h]
theorem zDq:zAP Tryz.prog 104:=⟨_,Tryz.func104,by kernel_rfl,by kernel_rfl⟩
theorem spanNe:139≠5:=by decide
attribute [local irreducible] zD bv zCI uL qS yP yK qF xR qP uS
theorem zPb (t1 t2:List Value) (z1 z2:Int) (v:Value) (nn:Int) (w:World) (h0I: ¬nn<0) (h4I: ¬100<nn) (h1:t1.length=17) (h2:t2.length=17)
 (o1:t1.toArray.all (·.oneCell')=true) (o2:t2.toArray.all (·.oneCell')=true)
 (C1: ∀ W,Ext w W→Calls Tryz.prog 102 #[.agg t1.toArray] W fun e W'=>e=.returned (.int .i64 z1)∧Ext W W')
 (C2: ∀ W,Ext w W→Calls Tryz.prog 102 #[.agg t2.toArray] W fun e W'=>e=.returned (.int .i64 z2)∧Ext W W')
 (hne:(if z1=0 then z2 else z1)≠0) :
 Calls Tryz.prog 45 #[.agg (t1++t2).toArray,v,.int .i64 nn] w (zEe (if z1=0 then z2 else z1,[]) w):=by
 have hl1:=zA h1
 have hl2:=zA h2
 have hsz:=zA (zCY h1 h2)
 have HB2:=zA (zFP t1 t2 h1 h2)
 have HRT:=zA (fun W g (hb:Blk W g 42 (t1++t2).toArray)=>uF h1 hb)
 have HRU:=zA (fun W g (hb:Blk W g 44 (t1++t2).toArray)=>uF h1 hb)
 have hs1:Hid (t1.toArray.size=17):=zA (by simpa using h1)
 have hs2:Hid (t2.toArray.size=17):=zA (by simpa using h2)
 have hz17:Hid ((ints (List.replicate 16 0)++[Value.slice none 0 0]).toArray.size=17):=zA (by simp[ints])
 have HO1:=zA o1
 have HO2:=zA o2
 have HC1:=zA C1
 have HC2:=zA C2
 clear o1 o2 C1 C2 h1 h2
 generalize hR:(if z1=0 then z2 else z1)=R at *
 have HR:=zA hR
 have HNE:=zA hne
 clear hR hne
 go_enter Tryz.func45,Tryz.ntmps45
 go_wp2_with (first
  | ((with_reducible apply gS 3);refine wBox rfl 44 (.tmp 0) rfl (t1++t2).toArray rfl ?_;intro w1 g hb1 hx1 hg;have hr1:=HRU.out _ _ hb1)
  | ((with_reducible apply gS 26);refine wpList_load_mid rfl 42 (.tmp 25) rfl g 0 rfl t1 _ hr1.1 Tryz.underlying42 rfl (by rw[hl1.out];exact zO) ?_)
  | ((with_reducible apply gS 28);refine wpList_load_mid rfl 42 (.tmp 27) rfl g 17 rfl t2 _ hr1.2 Tryz.underlying42 rfl (by rw[hl2.out];exact zO) ?_)
  | ((with_reducible apply gS 29);refine Go.Great.wpList_buildSliceTo rfl 115 42 2 _ rfl _ rfl (some 29) rfl Tryz.underlying115 _ (by simp[Act.eval];exact HB2.out) ?_))
 have hbn0:=Blk.new w1 42 (t1++t2).toArray
 have hb3:=hb1.alloc (.cells (t1++t2).toArray 42)
 have hx3:=hx1.alloc (.cells (t1++t2).toArray 42)
 clear hb1 hr1 hx1
 go_loopw [31] (fun i wr=> ∃ k:Nat,k≤2∧i=.int .i64 (k:Int)∧(1≤k→z1=0)∧(2≤k→z2=0)∧Blk wr g 44 (t1++t2).toArray∧Blk wr w1.heap.size 42 (t1++t2).toArray∧Ext w wr) (fun i _=>2-(intOf i).toNat)
 case atStart=>exact⟨0,by omega,rfl,fun h=>absurd h (by omega),fun h=>absurd h (by omega),hb3,hbn0,hx3⟩
 case round =>
  clear hb3 hbn0 hx3
  obtain⟨k,hk,rfl,e1,e2,hb,hbn,hx⟩:=hrel
  rcases (by omega:k=0∨k=1∨k=2) with rfl | rfl | rfl
  ·have hr:=(HRT.out _ _ hbn).1
   by_cases hz:z1=0
   ·subst hz
    go_wp2_with (first
     | ((with_reducible apply gS 34);refine wpList_load_mid rfl 42 (.tmp 33) rfl _ 0 rfl t1 _ hr Tryz.underlying42 rfl (by rw[hl1.out];exact zO) ?_)
     | ((with_reducible apply gS 9);refine wAlo' rfl (some 9) rfl 42 rfl _ uO ?_;intro w4 ga hba4 hx4 hga)
     | ((with_reducible apply gT 9 34);refine wStB rfl 42 (.tmp 9) (.tmp 34) rfl _ _ rfl rfl hba4 17 zO hs1.out hz17.out HO1.out ?_;intro w5 hba5 hg5;have hx5:=(hx.trans hx4).grown hg5 (by have:=hx.size;omega))
     | ((with_reducible apply gS 35);refine wLdB rfl 42 (.tmp 9) rfl _ rfl hba5 _ Tryz.underlying42 rfl 17 zO hs1.out ?_)
     | (go_at_call 102;(with_reducible refine (HC1.out _ hx5).mono ?_);rintro e w6 ⟨rfl,hx6⟩))
    go_roundw
    case rel=>exact⟨1,by omega,by go_num,by simp,fun h=>absurd h (by omega),((hb.ext hx4).grown hg5 (by have:=hb.lt;simp;omega)).ext hx6,((hbn.ext hx4).grown hg5 (by have:=hbn.lt;simp;omega)).ext hx6,hx5.trans hx6⟩
    case measure=>simp[intOf]
   ·have hz1:(z1 !=0)=true:=by simpa using hz
    have HZ:=zA hz
    clear hz
    go_wp2_with (first
     | ((with_reducible apply gS 34);refine wpList_load_mid rfl 42 (.tmp 33) rfl _ 0 rfl t1 _ hr Tryz.underlying42 rfl (by rw[hl1.out];exact zO) ?_)
     | ((with_reducible apply gS 9);refine wAlo' rfl (some 9) rfl 42 rfl _ uO ?_;intro w4 ga hba4 hx4 hga)
     | ((with_reducible apply gT 9 34);refine wStB rfl 42 (.tmp 9) (.tmp 34) rfl _ _ rfl rfl hba4 17 zO hs1.out hz17.out HO1.out ?_;intro w5 hba5 hg5;have hx5:=(hx.trans hx4).grown hg5 (by have:=hx.size;omega))
     | ((with_reducible apply gS 35);refine wLdB rfl 42 (.tmp 9) rfl _ rfl hba5 _ Tryz.underlying42 rfl 17 zO hs1.out ?_)
     | (go_at_call 102;(with_reducible refine (HC1.out _ hx5).mono ?_);rintro e w6 ⟨rfl,hx6⟩))
    refine bodyPost_ret (results_tmp2 rfl _ _ _) rfl ?_
    refine⟨hx5.trans hx6, ?_⟩
    rw[if_neg HNE.out, ←HR.out,if_neg HZ.out]
    rfl
  ·have hr:=(HRT.out _ _ hbn).2
   have hz0:=e1 (by omega)
   have hz2:z2=R:=by rw[←HR.out,if_pos hz0]
   have hzb:(z2 !=0)=true:=by rw[hz2];simpa using HNE.out
   have HZ2:=zA hz2
   clear hz0 e1 e2 hz2
   go_wp2_with (first
    | ((with_reducible apply gS 34);refine wpList_load_mid rfl 42 (.tmp 33) rfl _ 17 rfl t2 _ hr Tryz.underlying42 rfl (by rw[hl2.out];exact zO) ?_)
    | ((with_reducible apply gS 9);refine wAlo' rfl (some 9) rfl 42 rfl _ uO ?_;intro w4 ga hba4 hx4 hga)
    | ((with_reducible apply gT 9 34);refine wStB rfl 42 (.tmp 9) (.tmp 34) rfl _ _ rfl rfl hba4 17 zO hs2.out hz17.out HO2.out ?_;intro w5 hba5 hg5;have hx5:=(hx.trans hx4).grown hg5 (by have:=hx.size;omega))
    | ((with_reducible apply gS 35);refine wLdB rfl 42 (.tmp 9) rfl _ rfl hba5 _ Tryz.underlying42 rfl 17 zO hs2.out ?_)
    | (go_at_call 102;(with_reducible refine (HC2.out _ hx5).mono ?_);rintro e w6 ⟨rfl,hx6⟩))
   refine bodyPost_ret (results_tmp2 rfl _ _ _) rfl ?_
   refine⟨hx5.trans hx6, ?_⟩
   rw[if_neg HNE.out, ←HZ2.out]
   rfl
  ·exact absurd (by rw[←HR.out,if_pos (e1 (by omega)),e2 (by omega)]) HNE.out
theorem zOI (T1 T2:List Tok) (f1:zBp T1) (f2:zBp T2) (t1 t2:List Value) (A:Option Addr) (n c:Nat) (Z:List Int) (hZ:Z.length=n*64) (e:Nat) (he:e≤100) (w:World) (hs:SL w 64 (.slice A n c) n (ints Z)) (h1:t1.length=17) (h2:t2.length=17)
 (o1:t1.toArray.all (·.oneCell')=true) (o2:t2.toArray.all (·.oneCell')=true)
 (C1: ∀ W,Ext w W→Calls Tryz.prog 102 #[.agg t1.toArray] W fun e W'=>e=.returned (.int .i64 0)∧Ext W W')
 (C2: ∀ W,Ext w W→Calls Tryz.prog 102 #[.agg t2.toArray] W fun e W'=>e=.returned (.int .i64 0)∧Ext W W')
 (SG: ∀ W A' m c' P,Ext w W→P.length=m*64→SL W 64 (.slice A' m c') m (ints P)→Calls Tryz.prog 104 #[.agg (t1++t2).toArray,.slice A' m c'] W (zEe (zCI T1 T2 m P) W)) :
 Calls Tryz.prog 45 #[.agg (t1++t2).toArray,.slice A n c,.int .i64 (e:Int)] w (zEe (zCF T1 T2 n e Z) w):=by
 have hl1:=zA h1
 have hl2:=zA h2
 have hsz:=zA (zCY h1 h2)
 have HB2:=zA (zFP t1 t2 h1 h2)
 have HRT:=zA (fun W g (hb:Blk W g 42 (t1++t2).toArray)=>uF h1 hb)
 have HRU:=zA (fun W g (hb:Blk W g 44 (t1++t2).toArray)=>uF h1 hb)
 have hs1:Hid (t1.toArray.size=17):=zA (by simpa using h1)
 have hs2:Hid (t2.toArray.size=17):=zA (by simpa using h2)
 have hz17:Hid ((ints (List.replicate 16 0)++[Value.slice none 0 0]).toArray.size=17):=zA (by simp[ints])
 have HO1:=zA o1
 have HO2:=zA o2
 have HC1:=zA C1
 have HC2:=zA C2
 have HSG:=zA SG
 have HCO:=zA (fun W (h:Ext w W)=>zOu A n c Z hZ W (hs.ext h))
 have HSL:=zA (fun i m=>segR_len f1 f2 m (xM n e i Z))
 have HZ:=zA hZ
 have HS:=zA hs
 have H20:Hid (decide ((e:Int)<0)=false):=zA (by rw[decide_eq_false_iff_not];omega)
 have H23:Hid (decide ((100:Int)<(e:Int))=false):=zA (by rw[decide_eq_false_iff_not];omega)
 have hnc:n≤c:=by obtain⟨A',c',q,q1,q2, -, -⟩:=hs;injection q with q3 q4 q5;omega
 clear o1 o2 C1 C2 h1 h2 SG hZ hs f1 f2
 obtain⟨FR,hFR⟩: ∃ r,zCF T1 T2 n e Z=r:=⟨_,rfl⟩
 have HFE:Hid (qF n Z≠0→FR=(qF n Z,[])):=zA (fun h=>by rw[←hFR];unfold zCF;rw[if_pos h])
 have HFO:Hid (qF n Z=0→FR=uL T1 T2 n e Z (yK n e) 0 []):=zA (fun h=>by rw[←hFR];unfold zCF;rw[if_neg (by simp[h])])
 rw[hFR]
 clear hFR
 go_enter Tryz.func45,Tryz.ntmps45
 go_wp2_with (first
  | ((with_reducible apply gS 20);refine zB rfl (.bool false) (zR rfl rfl rfl H20.out) ?_)
  | ((with_reducible apply gS 23);refine xC (by rfl) (.bool false) (xP rfl rfl rfl H23.out) ?_)
  | ((with_reducible apply gS 3);refine wBox rfl 44 (.tmp 0) rfl (t1++t2).toArray rfl ?_;intro w1 g hb1 hx1 hg;have hr1:=HRU.out _ _ hb1)
  | ((with_reducible apply gS 26);refine wpList_load_mid rfl 42 (.tmp 25) rfl g 0 rfl t1 _ hr1.1 Tryz.underlying42 rfl (by rw[hl1.out];exact zO) ?_)
  | ((with_reducible apply gS 28);refine wpList_load_mid rfl 42 (.tmp 27) rfl g 17 rfl t2 _ hr1.2 Tryz.underlying42 rfl (by rw[hl2.out];exact zO) ?_)
  | ((with_reducible apply gS 29);refine Go.Great.wpList_buildSliceTo rfl 115 42 2 _ rfl _ rfl (some 29) rfl Tryz.underlying115 _ (by simp[Act.eval];exact HB2.out) ?_))
 have hbn0:=Blk.new w1 42 (t1++t2).toArray
 have hb3:=hb1.alloc (.cells (t1++t2).toArray 42)
 have hx3:=hx1.alloc (.cells (t1++t2).toArray 42)
 clear hb1 hr1 hx1
 go_loopw [31] (fun i wr=> ∃ k:Nat,k≤2∧i=.int .i64 (k:Int)∧Blk wr g 44 (t1++t2).toArray∧Blk wr w1.heap.size 42 (t1++t2).toArray∧Ext w wr) (fun i _=>2-(intOf i).toNat)
 case atStart=>exact⟨0,by omega,rfl,hb3,hbn0,hx3⟩
 case round =>
  clear hb3 hbn0 hx3
  obtain⟨k,hk,rfl,hb,hbn,hx⟩:=hrel
  rcases (by omega:k=0∨k=1∨k=2) with rfl | rfl | rfl
  ·have hr:=(HRT.out _ _ hbn).1
   go_wp2_with (first
    | ((with_reducible apply gS 34);refine wpList_load_mid rfl 42 (.tmp 33) rfl _ 0 rfl t1 _ hr Tryz.underlying42 rfl (by rw[hl1.out];exact zO) ?_)
    | ((with_reducible apply gS 9);refine wAlo' rfl (some 9) rfl 42 rfl _ uO ?_;intro w4 ga hba4 hx4 hga)
    | ((with_reducible apply gT 9 34);refine wStB rfl 42 (.tmp 9) (.tmp 34) rfl _ _ rfl rfl hba4 17 zO hs1.out hz17.out HO1.out ?_;intro w5 hba5 hg5;have hx5:=(hx.trans hx4).grown hg5 (by have:=hx.size;omega))
    | ((with_reducible apply gS 35);refine wLdB rfl 42 (.tmp 9) rfl _ rfl hba5 _ Tryz.underlying42 rfl 17 zO hs1.out ?_)
    | (go_at_call 102;(with_reducible refine (HC1.out _ hx5).mono ?_);rintro e w6 ⟨rfl,hx6⟩))
   go_roundw
   case rel=>exact⟨1,by omega,by go_num,((hb.ext hx4).grown hg5 (by have:=hb.lt;simp;omega)).ext hx6,((hbn.ext hx4).grown hg5 (by have:=hbn.lt;simp;omega)).ext hx6,hx5.trans hx6⟩
   case measure=>simp[intOf]
  ·have hr:=(HRT.out _ _ hbn).2
   go_wp2_with (first
    | ((with_reducible apply gS 34);refine wpList_load_mid rfl 42 (.tmp 33) rfl _ 17 rfl t2 _ hr Tryz.underlying42 rfl (by rw[hl2.out];exact zO) ?_)
    | ((with_reducible apply gS 9);refine wAlo' rfl (some 9) rfl 42 rfl _ uO ?_;intro w4 ga hba4 hx4 hga)
    | ((with_reducible apply gT 9 34);refine wStB rfl 42 (.tmp 9) (.tmp 34) rfl _ _ rfl rfl hba4 17 zO hs2.out hz17.out HO2.out ?_;intro w5 hba5 hg5;have hx5:=(hx.trans hx4).grown hg5 (by have:=hx.size;omega))
    | ((with_reducible apply gS 35);refine wLdB rfl 42 (.tmp 9) rfl _ rfl hba5 _ Tryz.underlying42 rfl 17 zO hs2.out ?_)
    | (go_at_call 102;(with_reducible refine (HC2.out _ hx5).mono ?_);rintro e w6 ⟨rfl,hx6⟩))
   go_roundw
   case rel=>exact⟨2,by omega,by go_num,((hb.ext hx4).grown hg5 (by have:=hb.lt;simp;omega)).ext hx6,((hbn.ext hx4).grown hg5 (by have:=hbn.lt;simp;omega)).ext hx6,hx5.trans hx6⟩
   case measure=>simp[intOf]
  ·clear HRT HRU HB2 HC1 HC2 hbn hs1 hs2 hz17 HO1 HO2 hl1 hl2
   generalize (t1++t2).toArray=tt at *
   by_cases hbe:qF n Z=0
   ·have hn4:=zQY hbe
    rw[hbe] at HCO
    have HSP:=zA (fun W=>zHI n e (by omega) (by omega) W)
    have hK:=zEu (n:=n) (e:=e)
    have hRR: ∃ R,uL T1 T2 n e Z (yK n e) 0 []=R:=⟨_,rfl⟩
    obtain⟨R,hRR⟩:=hRR
    have HR0:Hid (uL T1 T2 n e Z (yK n e-0) 0 []=R):=zA hRR
    have HFR:Hid (FR=R):=zA (by rw[HFO.out hbe,hRR])
    have HAT:=zA (fun i (h:i<yK n e)=>zGv h)
    obtain⟨K,hKK⟩: ∃ K,yK n e=K:=⟨_,rfl⟩
    rw[hKK] at HSP HR0 HAT hK
    clear hRR hKK hbe HFE HFO
    go_wp2_with (first
     | (go_at_call 100;(with_reducible refine (HCO.out _ hx).mono ?_);rintro e w2 ⟨u2,v2,rfl,hx2⟩;have hx2':=hx.trans hx2)
     | (go_at_call 99;(with_reducible refine (HSP.out _).mono ?_);rintro e w3 ⟨B3,d3,rfl,hsp,hx3⟩;have hx3':=hx2'.trans hx3))
    have hg3:=(hb.ext hx2).ext hx3
    have how:OwnV w3 w3.heap.size 5 1 (.slice none 0 0) 0 (zD []):=by unfold zD;exact OwnV.nil _ _ _ _
    have HSP3:=zA hsp
    have HG3:=zA hg3
    have HX3:=zA hx3'
    clear hb hx hx2 hx2' hx3 hx3' hsp hg3
    go_loopw [14,55] (fun x iv wr=> ∃ (i m:Nat) (acc:List Nat),i≤K∧iv=.int .i64 (i:Int)∧Hid (acc.length=m)∧m≤i*1000000002∧OwnV wr w3.heap.size 5 1 x m (zD acc)∧Hid (uL T1 T2 n e Z (K-i) i acc=R)∧Ext w3 wr) (fun _ i _=>K-(intOf i).toNat)
    case atStart=>exact⟨0,0,[],by omega,rfl,zA rfl,by omega,how,HR0,Ext.refl _⟩
    case round =>
     clear how HR0
     obtain⟨i,m,acc,hi,rfl,HM,hm,⟨OA,oc,rfl,hown⟩,HR,hx⟩:=hrel
     by_cases hlt:i<K
     ·obtain⟨td,hB,htb,htc⟩:=(HSP3.out.ext hx).part hlt
      subst hB
      obtain⟨lo,hlo⟩: ∃ q,i*yP n e=q:=⟨_,rfl⟩
      obtain⟨hh,hhh⟩: ∃ q,min (lo+yP n e) n=q:=⟨_,rfl⟩
      obtain⟨ln,hln⟩: ∃ q,min (n-lo) (yP n e)=q:=⟨_,rfl⟩
      have e2:((ints (qS n e K)).drop (i*2)).take 2=ints [(lo:Int),(hh:Int)]:=by
       have h:=zEU n e K i hlt
       rw[hlo,hhh] at h
       rw[←h]
       simp[ints,wG9,wG8]
      rw[e2] at htc
      have hlon:lo≤n:=by rw[←hlo];exact HAT.out i hlt
      have hlh:lo≤hh:=by omega
      have hhn:hh≤n:=by omega
      have hd:hh-lo=ln:=by omega
      have HTC:=zA htc
      have HBV:=zA (zGw [(lo:Int),(hh:Int)])
      have HS2:=zA (show (bv [(lo:Int),(hh:Int)]).size=2 by rw[zJ];rfl)
      have HS20:=zA (show (Value.agg (bv [0,0])).cells.size=2 by rw[show (Value.agg (bv [0,0])).cells=bv [0,0] from rfl,zJ];rfl)
      have HO2:=zA (xB [(lo:Int),(hh:Int)])
      have HP:Hid ((xM n e i Z).length=ln*64):=zA (by rw[zFy HZ.out,hlo,hln])
      have HPS:=zA (fun W (h:Ext w W)=>(HS.out.ext h).subK hlh hhn)
      have e3:((ints Z).drop (lo*64)).take ((hh-lo)*64)=ints (xM n e i Z):=by
       unfold xM
       rw[hlo,hln,hd]
       simp[ints,wG9,wG8]
      rw[e3,hd] at HPS
      have HSR:=zA (fun W (h:Ext w W)=>HSG.out W _ _ _ _ h HP.out (HPS.out W h))
      have HER:Hid (∀ r,zCI T1 T2 ln (xM n e i Z)=r→r.1≠0→R=(r.1,[])):=zA (fun r h h0=>by rw[←HR.out,show K-i=(K-(i+1))+1 by omega];exact zJT (by rw[hlo,hln];exact h) h0)
      have HOK:Hid (∀ r,zCI T1 T2 ln (xM n e i Z)=r→r.1=0→uL T1 T2 n e Z (K-(i+1)) (i+1) (acc++zCE i++r.2)=R):=zA (fun r h h0=>by rw[←HR.out,show K-i=(K-(i+1))+1 by omega];exact (zMd (by rw[hlo,hln];exact h) h0).symm)
      have hsl:=HSL.out i ln
      obtain⟨r,hr⟩: ∃ r,zCI T1 T2 ln (xM n e i Z)=r:=⟨_,rfl⟩
      rw[hr] at HSR hsl
      have HER:=zA (HER.out r hr)
      have HOK:=zA (HOK.out r hr)
      obtain⟨cl,hcl⟩: ∃ q,c-lo=q:=⟨_,rfl⟩
      rw[hcl] at HSR
      have HSUB:=zA (fun (o:Oper) (a:Act) (x lo' hi':Operand) (ho:o.op=.slice 25 x (some lo') (some hi') none) (hx:a.eval x=.slice A n c) (h1:a.eval lo'=.int .i64 (lo:Int)) (h2:a.eval hi'=.int .i64 (hh:Int)) (W:World)=>ex_subK ho hx h1 h2 hlh hhn hnc W)
      rw[hd,hcl] at HSUB
      generalize zCp A c lo=SA at *
      generalize xM n e i Z=P at *
      generalize bv [(lo:Int),(hh:Int)]=sp at *
      have HC0:Hid (sp[0]? =some (.int .i64 (lo:Int))∧sp[1]? =some (.int .i64 (hh:Int))):=zA (by rw[←HBV.out];exact⟨rfl,rfl⟩)
      clear htc e2 hr e3 hcl hd hln hhh hlo hhn hlh hlon HR HPS HP
      obtain⟨r1,r2⟩:=r
      dsimp only at hsl HER HOK
      have HRA:Hid (∀ W e W',zEe (r1,r2) W e W'→ ∃ B k d,e=.returned (.tuple #[.slice B k d,.int .i64 r1])∧(r1=0→r2.length=k∧SL W' 1 (.slice B k d) k (zD r2))∧Ext W W'):=zA (fun W e W' h=>by
       obtain⟨hx,h⟩:=h
       by_cases h0:r1=0
       ·subst h0
        rw[if_pos rfl] at h
        obtain⟨B,k,d,rfl,h1,h2, -⟩:=h
        exact⟨B,k,d,rfl,fun _=>⟨h1,h2⟩,hx⟩
       ·rw[if_neg h0] at h
        exact⟨none,0,0,h,fun h=>absurd h h0,hx⟩)
      have htd:td.block<wr.heap.size:=htb
      clear htb
      by_cases hp:0<i
      ·have H61:Hid (decide ((0:Int)<(i:Int))=true):=zA (by rw[wK3];omega)
       obtain⟨i1,hi1⟩: ∃ q,i-1=q:=⟨_,rfl⟩
       have HI1:=zA hi1
       obtain⟨q,hq⟩: ∃ q,208+i1%8=q:=⟨_,rfl⟩
       have HMK:=zA (fun W=>zNf i1 (by omega) W)
       rw[hq] at HMK
       have hq2:q<256:=by omega
       have HMZ:Hid (zCE i=[255,q]):=zA (by unfold zCE;rw[if_neg (by omega),hi1,hq])
       clear hi1 hq
       by_cases h0:r1=0
       ·subst h0
        go_wp2_with (first
         | ((with_reducible apply gS 59);refine yL (by rfl) 139 (.tmp 58) rfl (td.add (i*2)) rfl (ints [(lo:Int),(hh:Int)]) _ HTC.out Tryz.underlying139 rfl vN ?_;rw[HBV.out])
         | ((with_reducible apply gS 16);refine wAlo' rfl (some 16) rfl 139 rfl _ zCO ?_;intro w4 g16 hb4 hx4 hg4)
         | ((with_reducible apply gT 16 59);refine wStB rfl 139 (.tmp 16) (.tmp 59) rfl _ _ rfl rfl hb4 2 vN HS2.out HS20.out HO2.out ?_;intro w5 hb5 hg5;have hx5:Ext wr w5:=hx4.grown hg5 hg4)
         | ((with_reducible apply gS 61);refine zB rfl (.bool true) (xP rfl rfl rfl H61.out) ?_)
         | ((with_reducible apply gS 64);refine zB rfl (.int .i64 ((i1:Nat):Int)) (by rw[←HI1.out];exact xA (i:=i) (d:=1) rfl rfl rfl (by omega) (by omega)) ?_)
         | (go_at_call 103;(with_reducible refine (HMK.out _).mono ?_);rintro e w6 ⟨rfl,rfl⟩)
         | ((with_reducible apply gS 66);refine zB rfl (.int .u8 ((q:Nat):Int)) (zNs rfl rfl (by omega)) ?_)
         | ((with_reducible apply gS 67);refine zCk rfl _ _ rfl (some 67) rfl 255 q rfl rfl ?_;intro w7 g7 hb7 hx7 hg7;have ho7:=yJ hown (hx5.trans hx7))
         | ((with_reducible apply gS 68);at_builtin;refine wApf zBW rfl (.tmp 62) (.tmp 67) rfl w3.heap.size (.slice OA m oc) m (zD acc) rfl ho7 _ 2 (zD [255,q]) rfl (zFx rfl hb7) (zFE _) (by omega) (by omega) (by have:=hx.size;have:=(hx5.trans hx7).size;omega) ?_;intro A8 c8 w8 ho8 hgr8 hor8;have hx8:=((hx.trans hx5).trans hx7).grown' hgr8 (fun b hb=>(ho7.lt b hb).1);have hb8:=(zL hgr8).blk (hb5.ext hx7) (fun e=>zGI (hb5.ext hx7) ho7 spanNe e.symm)))
        have hx8d:Ext w3 w8.drew:=hx8.drew
        have hb8d:=hb8.drew
        have ho8d:w8.drew.ownsRow w3.heap.size 5 1 (.slice A8 (m+2) c8) (m+2) (zD acc++zD [255,q]):=ho8
        clear hb7 hx7 hg7 ho7 ho8 hgr8 hor8 hx8 hb8 hb4 hx4 hg4 hb5 hg5 hx5
        have HGX:=zA (fun W (h:Ext w8.drew W)=>((HG3.out.ext hx8d).ext h))
        have hI:Ext w8.drew w8.drew:=Ext.refl _
        refine qI (Ext w8.drew) (by kernel_rfl) ?_
        refine xD (k:=0) (by kernel_rfl) rfl (by rfl) (.agg tt) (fun W hW=>zAJ rfl rfl (HGX.out W hW) Tryz.underlying44 rfl qA hsz.out) hI ?_
        simp only[Act.put,sA,sB,sC]
        refine zH (k:=1) (by kernel_rfl) rfl (by rfl) (.slice A n c) (zC rfl rfl) hI ?_
        simp only[Act.put,sA,sB,sC]
        refine zH (k:=2) (by kernel_rfl) rfl (by rfl) (.pointer (some ⟨g16,0,none⟩)) (fun w=>by go_simp) hI ?_
        simp only[Act.put,sA,sB,sC]
        refine xD (k:=3) (by kernel_rfl) rfl (by rfl) (.int .i64 (lo:Int)) (fun W hW=>zQ rfl rfl (((hb8d.ext hW).cell 0).trans HC0.out.1)) hI ?_
        simp only[Act.put,sA,sB,sC]
        refine zH (k:=4) (by kernel_rfl) rfl (by rfl) (.pointer (some ⟨g16,1,none⟩)) (fun w=>by go_simp) hI ?_
        simp only[Act.put,sA,sB,sC]
        refine xD (k:=5) (by kernel_rfl) rfl (by rfl) (.int .i64 (hh:Int)) (fun W hW=>zQ rfl rfl (((hb8d.ext hW).cell 1).trans HC0.out.2)) hI ?_
        simp only[Act.put,sA,sB,sC]
        refine zH (k:=6) (by kernel_rfl) rfl (by rfl) (.slice SA ln cl) (HSUB.out _ _ _ _ _ rfl rfl rfl rfl) hI ?_
        simp only[Act.put,sA,sB,sC]
        refine xY (k:=7) (by kernel_rfl) rfl ?_
        refine xH (by rfl) (xI _ _ _ rfl rfl zDq #[.agg tt,.slice SA ln cl] (by simp[Act.eval])) ?_
        refine (HSR.out _ (HX3.out.trans hx8d)).mono ?_
        intro e9 w9 h9
        obtain⟨B9,k9,d9,rfl,hr9,hx9⟩:=HRA.out _ _ _ h9
        refine⟨_,rfl,zU ⟨hx9, ?_⟩⟩
        simp only[Act.put,sA,sB,sC]
        refine zH (k:=8) (by kernel_rfl) rfl (by rfl) (.tuple #[.slice B9 k9 d9,.int .i64 0]) (zC rfl rfl) hx9 ?_
        simp only[Act.put,sA,sB,sC]
        refine zH (k:=9) (by kernel_rfl) rfl (by rfl) (.slice B9 k9 d9) (yR rfl rfl rfl) hx9 ?_
        simp only[Act.put,sA,sB,sC]
        refine zH (k:=10) (by kernel_rfl) rfl (by rfl) (.int .i64 0) (yR rfl rfl rfl) hx9 ?_
        simp only[Act.put,sA,sB,sC]
        refine zH (k:=11) (by kernel_rfl) rfl (by rfl) (.slice B9 k9 d9) (zW rfl rfl) hx9 ?_
        simp only[Act.put,sA,sB,sC]
        refine zH (k:=12) (by kernel_rfl) rfl (by rfl) (.int .i64 0) (zW rfl rfl) hx9 ?_
        simp only[Act.put,sA,sB,sC]
        refine uE (by kernel_rfl) ?_
        obtain⟨hk9,hs9⟩:=hr9 (by first | rfl | trivial)
        have ho9:=yJ ho8d hx9
        go_wp2_with (first
         | ((with_reducible apply gS 85);at_builtin;refine wApf zBW rfl (.tmp 83) (.tmp 84) rfl w3.heap.size (.slice A8 (m+2) c8) (m+2) (zD acc++zD [255,q]) rfl ho9 _ k9 (zD r2) rfl hs9 (zFE _) (by omega) (by omega) (by have:=(hx8d.trans hx9).size;omega) ?_;intro A10 c10 w10 ho10 hgr10 hor10;have hx10:=(hx8d.trans hx9).grown' hgr10 (fun b hb=>(ho9.lt b hb).1)))
        go_roundw
        case rel =>
         refine⟨i+1,m+2+k9,acc++zCE i++r2,by omega,by go_num,zA ?_,by omega,⟨A10,c10,rfl, ?_⟩,HOK.out (by first | rfl | trivial),hx10⟩
         ·rw[wF1,wF1,HM.out,hk9,HMZ.out];rfl
         ·rw[zAR,zAR,HMZ.out]
          exact ho10
        case measure=>simp[intOf];omega
       ·have h0b:(r1 !=0)=true:=by simpa using h0
        have H0N:=zA h0
        clear h0
        go_wp2_with (first
         | ((with_reducible apply gS 59);refine yL (by rfl) 139 (.tmp 58) rfl (td.add (i*2)) rfl (ints [(lo:Int),(hh:Int)]) _ HTC.out Tryz.underlying139 rfl vN ?_;rw[HBV.out])
         | ((with_reducible apply gS 16);refine wAlo' rfl (some 16) rfl 139 rfl _ zCO ?_;intro w4 g16 hb4 hx4 hg4)
         | ((with_reducible apply gT 16 59);refine wStB rfl 139 (.tmp 16) (.tmp 59) rfl _ _ rfl rfl hb4 2 vN HS2.out HS20.out HO2.out ?_;intro w5 hb5 hg5;have hx5:Ext wr w5:=hx4.grown hg5 hg4)
         | ((with_reducible apply gS 61);refine zB rfl (.bool true) (xP rfl rfl rfl H61.out) ?_)
         | ((with_reducible apply gS 64);refine zB rfl (.int .i64 ((i1:Nat):Int)) (by rw[←HI1.out];exact xA (i:=i) (d:=1) rfl rfl rfl (by omega) (by omega)) ?_)
         | (go_at_call 103;(with_reducible refine (HMK.out _).mono ?_);rintro e w6 ⟨rfl,rfl⟩)
         | ((with_reducible apply gS 66);refine zB rfl (.int .u8 ((q:Nat):Int)) (zNs rfl rfl (by omega)) ?_)
         | ((with_reducible apply gS 67);refine zCk rfl _ _ rfl (some 67) rfl 255 q rfl rfl ?_;intro w7 g7 hb7 hx7 hg7;have ho7:=yJ hown (hx5.trans hx7))
         | ((with_reducible apply gS 68);at_builtin;refine wApf zBW rfl (.tmp 62) (.tmp 67) rfl w3.heap.size (.slice OA m oc) m (zD acc) rfl ho7 _ 2 (zD [255,q]) rfl (zFx rfl hb7) (zFE _) (by omega) (by omega) (by have:=hx.size;have:=(hx5.trans hx7).size;omega) ?_;intro A8 c8 w8 ho8 hgr8 hor8;have hx8:=((hx.trans hx5).trans hx7).grown' hgr8 (fun b hb=>(ho7.lt b hb).1);have hb8:=(zL hgr8).blk (hb5.ext hx7) (fun e=>zGI (hb5.ext hx7) ho7 spanNe e.symm)))
        have hx8d:Ext w3 w8.drew:=hx8.drew
        have hb8d:=hb8.drew
        have ho8d:w8.drew.ownsRow w3.heap.size 5 1 (.slice A8 (m+2) c8) (m+2) (zD acc++zD [255,q]):=ho8
        clear hb7 hx7 hg7 ho7 ho8 hgr8 hor8 hx8 hb8 hb4 hx4 hg4 hb5 hg5 hx5
        have HGX:=zA (fun W (h:Ext w8.drew W)=>((HG3.out.ext hx8d).ext h))
        have hI:Ext w8.drew w8.drew:=Ext.refl _
        refine qI (Ext w8.drew) (by kernel_rfl) ?_
        refine xD (k:=0) (by kernel_rfl) rfl (by rfl) (.agg tt) (fun W hW=>zAJ rfl rfl (HGX.out W hW) Tryz.underlying44 rfl qA hsz.out) hI ?_
        simp only[Act.put,sA,sB,sC]
        refine zH (k:=1) (by kernel_rfl) rfl (by rfl) (.slice A n c) (zC rfl rfl) hI ?_
        simp only[Act.put,sA,sB,sC]
        refine zH (k:=2) (by kernel_rfl) rfl (by rfl) (.pointer (some ⟨g16,0,none⟩)) (fun w=>by go_simp) hI ?_
        simp only[Act.put,sA,sB,sC]
        refine xD (k:=3) (by kernel_rfl) rfl (by rfl) (.int .i64 (lo:Int)) (fun W hW=>zQ rfl rfl (((hb8d.ext hW).cell 0).trans HC0.out.1)) hI ?_
        simp only[Act.put,sA,sB,sC]
        refine zH (k:=4) (by kernel_rfl) rfl (by rfl) (.pointer (some ⟨g16,1,none⟩)) (fun w=>by go_simp) hI ?_
        simp only[Act.put,sA,sB,sC]
        refine xD (k:=5) (by kernel_rfl) rfl (by rfl) (.int .i64 (hh:Int)) (fun W hW=>zQ rfl rfl (((hb8d.ext hW).cell 1).trans HC0.out.2)) hI ?_
        simp only[Act.put,sA,sB,sC]
        refine zH (k:=6) (by kernel_rfl) rfl (by rfl) (.slice SA ln cl) (HSUB.out _ _ _ _ _ rfl rfl rfl rfl) hI ?_
        simp only[Act.put,sA,sB,sC]
        refine xY (k:=7) (by kernel_rfl) rfl ?_
        refine xH (by rfl) (xI _ _ _ rfl rfl zDq #[.agg tt,.slice SA ln cl] (by simp[Act.eval])) ?_
        refine (HSR.out _ (HX3.out.trans hx8d)).mono ?_
        intro e9 w9 h9
        obtain⟨B9,k9,d9,rfl,hr9,hx9⟩:=HRA.out _ _ _ h9
        refine⟨_,rfl,zU ⟨hx9, ?_⟩⟩
        simp only[Act.put,sA,sB,sC]
        refine zH (k:=8) (by kernel_rfl) rfl (by rfl) (.tuple #[.slice B9 k9 d9,.int .i64 r1]) (zC rfl rfl) hx9 ?_
        simp only[Act.put,sA,sB,sC]
        refine zH (k:=9) (by kernel_rfl) rfl (by rfl) (.slice B9 k9 d9) (yR rfl rfl rfl) hx9 ?_
        simp only[Act.put,sA,sB,sC]
        refine zH (k:=10) (by kernel_rfl) rfl (by rfl) (.int .i64 r1) (yR rfl rfl rfl) hx9 ?_
        simp only[Act.put,sA,sB,sC]
        refine zH (k:=11) (by kernel_rfl) rfl (by rfl) (.slice B9 k9 d9) (zW rfl rfl) hx9 ?_
        simp only[Act.put,sA,sB,sC]
        refine zH (k:=12) (by kernel_rfl) rfl (by rfl) (.int .i64 r1) (zW rfl rfl) hx9 ?_
        simp only[Act.put,sA,sB,sC]
        refine uE (by kernel_rfl) ?_
        go_wp2_with fail
        refine bodyPost_ret (results_tmp2 rfl _ _ _) rfl ?_
        rw[HFR.out,HER.out H0N.out]
        refine⟨HX3.out.trans (hx8d.trans hx9), ?_⟩
        rw[if_neg H0N.out]
        rfl
      ·have H61:Hid (decide ((0:Int)<(i:Int))=false):=zA (by rw[decide_eq_false_iff_not];omega)
       have HMZ:Hid (zCE i=[]):=zA (by unfold zCE;rw[if_pos (by omega)])
       by_cases h0:r1=0
       ·subst h0
        go_wp2_with (first
         | ((with_reducible apply gS 59);refine yL (by rfl) 139 (.tmp 58) rfl (td.add (i*2)) rfl (ints [(lo:Int),(hh:Int)]) _ HTC.out Tryz.underlying139 rfl vN ?_;rw[HBV.out])
         | ((with_reducible apply gS 16);refine wAlo' rfl (some 16) rfl 139 rfl _ zCO ?_;intro w4 g16 hb4 hx4 hg4)
         | ((with_reducible apply gT 16 59);refine wStB rfl 139 (.tmp 16) (.tmp 59) rfl _ _ rfl rfl hb4 2 vN HS2.out HS20.out HO2.out ?_;intro w5 hb5 hg5;have hx5:Ext wr w5:=hx4.grown hg5 hg4)
         | ((with_reducible apply gS 61);refine zB rfl (.bool false) (xP rfl rfl rfl H61.out) ?_))
        have hx8d:Ext w3 w5.drew:=(hx.trans hx5).drew
        have hb8d:=hb5.drew
        have ho8d:=yJ hown (hx5.drew)
        clear hb4 hx4 hg4 hb5 hg5 hx5
        have HGX:=zA (fun W (h:Ext w5.drew W)=>((HG3.out.ext hx8d).ext h))
        have hI:Ext w5.drew w5.drew:=Ext.refl _
        refine qI (Ext w5.drew) (by kernel_rfl) ?_
        refine xD (k:=0) (by kernel_rfl) rfl (by rfl) (.agg tt) (fun W hW=>zAJ rfl rfl (HGX.out W hW) Tryz.underlying44 rfl qA hsz.out) hI ?_
        simp only[Act.put,sA,sB,sC]
        refine zH (k:=1) (by kernel_rfl) rfl (by rfl) (.slice A n c) (zC rfl rfl) hI ?_
        simp only[Act.put,sA,sB,sC]
        refine zH (k:=2) (by kernel_rfl) rfl (by rfl) (.pointer (some ⟨g16,0,none⟩)) (fun w=>by go_simp) hI ?_
        simp only[Act.put,sA,sB,sC]
        refine xD (k:=3) (by kernel_rfl) rfl (by rfl) (.int .i64 (lo:Int)) (fun W hW=>zQ rfl rfl (((hb8d.ext hW).cell 0).trans HC0.out.1)) hI ?_
        simp only[Act.put,sA,sB,sC]
        refine zH (k:=4) (by kernel_rfl) rfl (by rfl) (.pointer (some ⟨g16,1,none⟩)) (fun w=>by go_simp) hI ?_
        simp only[Act.put,sA,sB,sC]
        refine xD (k:=5) (by kernel_rfl) rfl (by rfl) (.int .i64 (hh:Int)) (fun W hW=>zQ rfl rfl (((hb8d.ext hW).cell 1).trans HC0.out.2)) hI ?_
        simp only[Act.put,sA,sB,sC]
        refine zH (k:=6) (by kernel_rfl) rfl (by rfl) (.slice SA ln cl) (HSUB.out _ _ _ _ _ rfl rfl rfl rfl) hI ?_
        simp only[Act.put,sA,sB,sC]
        refine xY (k:=7) (by kernel_rfl) rfl ?_
        refine xH (by rfl) (xI _ _ _ rfl rfl zDq #[.agg tt,.slice SA ln cl] (by simp[Act.eval])) ?_
        refine (HSR.out _ (HX3.out.trans hx8d)).mono ?_
        intro e9 w9 h9
        obtain⟨B9,k9,d9,rfl,hr9,hx9⟩:=HRA.out _ _ _ h9
        refine⟨_,rfl,zU ⟨hx9, ?_⟩⟩
        simp only[Act.put,sA,sB,sC]
        refine zH (k:=8) (by kernel_rfl) rfl (by rfl) (.tuple #[.slice B9 k9 d9,.int .i64 0]) (zC rfl rfl) hx9 ?_
        simp only[Act.put,sA,sB,sC]
        refine zH (k:=9) (by kernel_rfl) rfl (by rfl) (.slice B9 k9 d9) (yR rfl rfl rfl) hx9 ?_
        simp only[Act.put,sA,sB,sC]
        refine zH (k:=10) (by kernel_rfl) rfl (by rfl) (.int .i64 0) (yR rfl rfl rfl) hx9 ?_
        simp only[Act.put,sA,sB,sC]
        refine zH (k:=11) (by kernel_rfl) rfl (by rfl) (.slice B9 k9 d9) (zW rfl rfl) hx9 ?_
        simp only[Act.put,sA,sB,sC]
        refine zH (k:=12) (by kernel_rfl) rfl (by rfl) (.int .i64 0) (zW rfl rfl) hx9 ?_
        simp only[Act.put,sA,sB,sC]
        refine uE (by kernel_rfl) ?_
        obtain⟨hk9,hs9⟩:=hr9 (by first | rfl | trivial)
        have ho9:=yJ ho8d hx9
        go_wp2_with (first
         | ((with_reducible apply gS 85);at_builtin;refine wApf zBW rfl (.tmp 83) (.tmp 84) rfl w3.heap.size (.slice OA m oc) (m) (zD acc) rfl ho9 _ k9 (zD r2) rfl hs9 (zFE _) (by omega) (by omega) (by have:=(hx8d.trans hx9).size;omega) ?_;intro A10 c10 w10 ho10 hgr10 hor10;have hx10:=(hx8d.trans hx9).grown' hgr10 (fun b hb=>(ho9.lt b hb).1)))
        go_roundw
        case rel =>
         refine⟨i+1,m+k9,acc++zCE i++r2,by omega,by go_num,zA ?_,by omega,⟨A10,c10,rfl, ?_⟩,HOK.out (by first | rfl | trivial),hx10⟩
         ·rw[wF1,wF1,HM.out,hk9,HMZ.out];rfl
         ·rw[zAR,zAR,HMZ.out]
          rw[show zD []=[] by unfold zD;rfl,wG3];exact ho10
        case measure=>simp[intOf];omega
       ·have h0b:(r1 !=0)=true:=by simpa using h0
        have H0N:=zA h0
        clear h0
        go_wp2_with (first
         | ((with_reducible apply gS 59);refine yL (by rfl) 139 (.tmp 58) rfl (td.add (i*2)) rfl (ints [(lo:Int),(hh:Int)]) _ HTC.out Tryz.underlying139 rfl vN ?_;rw[HBV.out])
         | ((with_reducible apply gS 16);refine wAlo' rfl (some 16) rfl 139 rfl _ zCO ?_;intro w4 g16 hb4 hx4 hg4)
         | ((with_reducible apply gT 16 59);refine wStB rfl 139 (.tmp 16) (.tmp 59) rfl _ _ rfl rfl hb4 2 vN HS2.out HS20.out HO2.out ?_;intro w5 hb5 hg5;have hx5:Ext wr w5:=hx4.grown hg5 hg4)
         | ((with_reducible apply gS 61);refine zB rfl (.bool false) (xP rfl rfl rfl H61.out) ?_))
        have hx8d:Ext w3 w5.drew:=(hx.trans hx5).drew
        have hb8d:=hb5.drew
        have ho8d:=yJ hown (hx5.drew)
        clear hb4 hx4 hg4 hb5 hg5 hx5
        have HGX:=zA (fun W (h:Ext w5.drew W)=>((HG3.out.ext hx8d).ext h))
        have hI:Ext w5.drew w5.drew:=Ext.refl _
        refine qI (Ext w5.drew) (by kernel_rfl) ?_
        refine xD (k:=0) (by kernel_rfl) rfl (by rfl) (.agg tt) (fun W hW=>zAJ rfl rfl (HGX.out W hW) Tryz.underlying44 rfl qA hsz.out) hI ?_
        simp only[Act.put,sA,sB,sC]
        refine zH (k:=1) (by kernel_rfl) rfl (by rfl) (.slice A n c) (zC rfl rfl) hI ?_
        simp only[Act.put,sA,sB,sC]
        refine zH (k:=2) (by kernel_rfl) rfl (by rfl) (.pointer (some ⟨g16,0,none⟩)) (fun w=>by go_simp) hI ?_
        simp only[Act.put,sA,sB,sC]
        refine xD (k:=3) (by kernel_rfl) rfl (by rfl) (.int .i64 (lo:Int)) (fun W hW=>zQ rfl rfl (((hb8d.ext hW).cell 0).trans HC0.out.1)) hI ?_
        simp only[Act.put,sA,sB,sC]
        refine zH (k:=4) (by kernel_rfl) rfl (by rfl) (.pointer (some ⟨g16,1,none⟩)) (fun w=>by go_simp) hI ?_
        simp only[Act.put,sA,sB,sC]
        refine xD (k:=5) (by kernel_rfl) rfl (by rfl) (.int .i64 (hh:Int)) (fun W hW=>zQ rfl rfl (((hb8d.ext hW).cell 1).trans HC0.out.2)) hI ?_
        simp only[Act.put,sA,sB,sC]
        refine zH (k:=6) (by kernel_rfl) rfl (by rfl) (.slice SA ln cl) (HSUB.out _ _ _ _ _ rfl rfl rfl rfl) hI ?_
        simp only[Act.put,sA,sB,sC]
        refine xY (k:=7) (by kernel_rfl) rfl ?_
        refine xH (by rfl) (xI _ _ _ rfl rfl zDq #[.agg tt,.slice SA ln cl] (by simp[Act.eval])) ?_
        refine (HSR.out _ (HX3.out.trans hx8d)).mono ?_
        intro e9 w9 h9
        obtain⟨B9,k9,d9,rfl,hr9,hx9⟩:=HRA.out _ _ _ h9
        refine⟨_,rfl,zU ⟨hx9, ?_⟩⟩
        simp only[Act.put,sA,sB,sC]
        refine zH (k:=8) (by kernel_rfl) rfl (by rfl) (.tuple #[.slice B9 k9 d9,.int .i64 r1]) (zC rfl rfl) hx9 ?_
        simp only[Act.put,sA,sB,sC]
        refine zH (k:=9) (by kernel_rfl) rfl (by rfl) (.slice B9 k9 d9) (yR rfl rfl rfl) hx9 ?_
        simp only[Act.put,sA,sB,sC]
        refine zH (k:=10) (by kernel_rfl) rfl (by rfl) (.int .i64 r1) (yR rfl rfl rfl) hx9 ?_
        simp only[Act.put,sA,sB,sC]
        refine zH (k:=11) (by kernel_rfl) rfl (by rfl) (.slice B9 k9 d9) (zW rfl rfl) hx9 ?_
        simp only[Act.put,sA,sB,sC]
        refine zH (k:=12) (by kernel_rfl) rfl (by rfl) (.int .i64 r1) (zW rfl rfl) hx9 ?_
        simp only[Act.put,sA,sB,sC]
        refine uE (by kernel_rfl) ?_
        go_wp2_with fail
        refine bodyPost_ret (results_tmp2 rfl _ _ _) rfl ?_
        rw[HFR.out,HER.out H0N.out]
        refine⟨HX3.out.trans (hx8d.trans hx9), ?_⟩
        rw[if_neg H0N.out]
        rfl
     ·have hiK:K-i=0:=by omega
      have HR2:Hid (R=(0,acc)):=zA (by rw[←HR.out,hiK,uL])
      have hnn:=zHb hown
      clear HR
      go_wp2_with fail
      refine bodyPost_ret (results_tmp2 rfl _ _ _) rfl ?_
      rw[HFR.out,HR2.out]
      refine⟨HX3.out.trans hx, ?_⟩
      rw[if_pos rfl]
      exact⟨OA,m,oc,rfl,HM.out,(qU hown).1,hnn⟩
   ·have hbb:(qF n Z !=0)=true:=by simpa using hbe
    have HBE:=zA hbe
    have HFR:=zA (HFE.out hbe)
    clear hbe HFE HFO
    generalize qF n Z=be at *
    go_wp2_with (first
     | (go_at_call 100;(with_reducible refine (HCO.out _ hx).mono ?_);rintro e w2 ⟨u2,v2,rfl,hx2⟩;have hx2':=hx.trans hx2))
    refine bodyPost_ret (results_tmp2 rfl _ _ _) rfl ?_
    rw[HFR.out]
    refine⟨hx2', ?_⟩
    rw[if_neg HBE.out]
    rfl
end
def twoE (cs1 xs1 cs2 xs2:List Int):Int:=if yC cs1 xs1=0 then yC cs2 xs2 else yC cs1 xs1
def zBE (cs1 xs1 cs2 xs2:List Int) (nn:Int) (n:Nat) (Z:List Int):Int×List Nat :=
 if nn<0∨100<nn then (1,[]) else if twoE cs1 xs1 cs2 xs2≠0 then (twoE cs1 xs1 cs2 xs2,[]) else zCF (zM (zG cs1 16) xs1) (zM (zG cs2 16) xs2) n nn.toNat Z
theorem scanE_any (cs1 xs1 cs2 xs2:List Int) (s1 s2:Value) (l1:cs1.length=16) (l2:cs2.length=16) (A:Option Addr) (n c:Nat) (Z:List Int) (hZ:Z.length=n*64) (nn:Int) (m0:Int) (w:World) (hm:w.cell? ⟨0,0,none⟩=some (.int .i64 m0))
 (hs1:SL w 1 s1 xs1.length (ints xs1)) (hs2:SL w 1 s2 xs2.length (ints xs2)) (hs:SL w 64 (.slice A n c) n (ints Z)) :
 Calls Tryz.prog 45 #[.agg (zT cs1 s1++zT cs2 s2).toArray,.slice A n c,.int .i64 nn] w (zEe (zBE cs1 xs1 cs2 xs2 nn n Z) w):=by
 by_cases hr:nn<0∨100<nn
 ·rw[zBE,if_pos hr]
  exact zMr _ _ nn w hr
 rw[zBE,if_neg hr]
 have h1:=zS cs1 s1 l1
 have h2:=zS cs2 s2 l2
 have C1: ∀ W,Ext w W→Calls Tryz.prog 102 #[.agg (zT cs1 s1).toArray] W fun e W'=>e=.returned (.int .i64 (yC cs1 xs1))∧Ext W W':=fun W h=>zBK cs1 xs1 s1 W l1 (hs1.ext h)
 have C2: ∀ W,Ext w W→Calls Tryz.prog 102 #[.agg (zT cs2 s2).toArray] W fun e W'=>e=.returned (.int .i64 (yC cs2 xs2))∧Ext W W':=fun W h=>zBK cs2 xs2 s2 W l2 (hs2.ext h)
 have o1:=zBl cs1 s1 hs1
 have o2:=zBl cs2 s2 hs2
 by_cases hE:twoE cs1 xs1 cs2 xs2=0
 ·rw[if_neg (by simpa using hE)]
  unfold twoE at hE
  have z1:yC cs1 xs1=0:=by
   by_cases h:yC cs1 xs1=0
   ·exact h
   ·rw[if_neg h] at hE;exact hE
  have z2:yC cs2 xs2=0:=by rw[if_pos z1] at hE;exact hE
  rw[z1] at C1
  rw[z2] at C2
  obtain⟨e,rfl⟩: ∃ e:Nat,nn=(e:Int):=⟨nn.toNat,by omega⟩
  have he:e≤100:=by omega
  have f1:=zHr cs1 xs1 l1 z1
  have f2:=zHr cs2 xs2 l2 z2
  rw[wE8]
  exact zOI _ _ f1 f2 _ _ A n c Z hZ e he w hs h1 h2 o1 o2 C1 C2
   (fun W' A' m c' P h' hP hp=>zPD _ _ f1 f2 _ _ A' m c' P hP m0 W' hp (zAS hm h') h1 h2 o1 o2 (fun W2 h3=>C1 W2 (h'.trans h3)) (fun W2 h3=>C2 W2 (h'.trans h3))
     (fun W2 h3=>zCj cs1 xs1 s1 W2 l1 ((hs1.ext h').ext h3) z1) (fun W2 h3=>zCj cs2 xs2 s2 W2 l2 ((hs2.ext h').ext h3) z2))
 ·rw[if_pos hE]
  exact zPb _ _ _ _ _ nn w (by omega) (by omega) h1 h2 o1 o2 C1 C2 hE
theorem zPd (n d:Int): -2047≤zAs n d∧zAs n d≤2047:=by
 exact zGS _ _ _ (by omega)
theorem zIS {F:Int→Int→Int}: ∀ (a b:List Int) (z:Int),z∈List.zipWith F a b→ ∃ x y,z=F x y
 | [],_,z,h=>by simp at h
 | _::_,[],z,h=>by simp at h
 | x::a,y::b,z,h=>by
   rw[wL6,wJ3] at h
   rcases h with h | h
   ·exact⟨x,y,h⟩
   ·exact zIS a b z h
theorem zQA (b q:List Int) (z:Int) (h:z∈blkF b q): -2047≤z∧z≤2047:=by
 unfold blkF jF at h
 have h0: ∀ z∈zeros64, -2047≤z∧z≤2047:=by decide
 split at h
 ·split at h
  ·obtain⟨x,y,rfl⟩:=zIS _ _ z h
   exact zPd x y
  ·exact h0 z h
 ·exact h0 z h
theorem zJz (q X:List Int): ∀ (k:Nat) (z:Int),z∈zBk q X k→ -2047≤z∧z≤2047
 | 0,z,h=>by simp[zBk] at h
 | k+1,z,h=>by
   rw[zBk,wE5] at h
   rcases h with h | h
   ·exact zJz q X k z h
   ·exact zQA _ _ z h
theorem frames_e (wd hi:Int) (L:List (List Int)) (q:List Int):qF (zX wd hi L q).2.1 (zX wd hi L q).2.2=0:=by
 refine zDN.2 ?_
 unfold zX
 split
 ·rename_i hE
  split
  ·dsimp only
   refine⟨?_,fun z hz=> ?_⟩
   ·have hT:=zMP tto L (picE_ok hE).1
    have:=zHF wd hi (zBM tto L) (zBM tto L).length
    rw[wI8] at this
    omega
   ·obtain⟨l, -,h⟩:=wN5.1 hz
    exact zJz q _ _ z h
  ·exact⟨by simp,by simp⟩
 ·exact⟨by simp,by simp⟩
end Go.Proofs.YtkggcjdlpendfaaGreatDoor
