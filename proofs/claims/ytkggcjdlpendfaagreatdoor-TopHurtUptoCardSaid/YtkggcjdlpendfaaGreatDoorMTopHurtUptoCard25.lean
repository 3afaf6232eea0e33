import Derived.Test.YtkggcjdlpendfaaGreatDoorRows
import Derived.JoinedCond
import Derived.Test.YtkggcjdlpendfaaGreatDoorCards
import Derived.Test.YtkggcjdlpendfaaGreatDoorTie
import Derived.Deep.DeepHandedRow
import Derived.Lib.LaidTab
import Derived.Shelf.Vars
import Derived.Test.YtkggcjdlpendfaaGreatDoorMTopHurtUptoCard24
set_option linter.all false
set_option maxRecDepth 20000
set_option maxHeartbeats 8000000
namespace Go.Proofs.YtkggcjdlpendfaaGreatDoor.topHurt
open Go.RowKit
def enc_shape {wd hi:Int} {L:List (List Int)} {q:List Int} {nn:Int} {W W':World} {e:Ending} (h:EncIs wd hi L q nn W e W'):∃E F A1 d1 A2 d2 A3 d3,e=.returned (.tuple #[.agg (F.cells (.slice A1 F.xs1.length d1) (.slice A2 F.xs2.length d2) (.slice A3 F.data.length d3)),.int .i64 E])∧F.shaped ∧
 F.at_ W' (.slice A1 F.xs1.length d1) (.slice A2 F.xs2.length d2) (.slice A3 F.data.length d3)∧zDP wd hi L q nn E F∧Ext W W':=by obtain⟨E,F,s1,s2,sd,rfl,hs,hat,hE,hx,-,-⟩:=h;have hat':=hat;obtain⟨⟨A1,d1,rfl,-⟩,⟨A2,d2,rfl,-⟩,⟨A3,d3,rfl,-⟩⟩:=hat';exact⟨E,F,A1,d1,A2,d2,A3,d3,rfl,hs,hat,hE,hx⟩
def rest_e (z:Int):∃e:Nat,z%100+1=(e:Int)∧1≤e∧e≤100:=by have h1:=Int.emod_nonneg z (show (100:Int)≠0 by omega);have h2:=Int.emod_lt_of_pos z (show (0:Int)<100 by omega);exact⟨(z%100+1).toNat,by omega,by omega,by omega⟩
def rest_k (z:Int) (n:Nat) (h:1≤n):∃k:Nat,z%(n:Int)=(k:Int)∧k<n:=by have h1:=Int.emod_nonneg z (show (n:Int)≠0 by omega);have h2:=Int.emod_lt_of_pos z (show (0:Int)<n by omega);exact⟨(z%(n:Int)).toNat,by omega,by omega⟩
def zJL {a b c:World} {g n:Nat} {v:Value} {l:List Value} (h:SL a 1 v n l) (hx:Ext a b) (hg:a.heap.size≤g) (hu:Upd (λx=>x=g) b c):SL c 1 v n l:=by
 obtain⟨A,d,rfl,-⟩:=id h;refine (h.ext hx).upd0 hu λhp ad e q=> ?_
 subst e;obtain⟨ad',u,e2,hlt,-,-⟩:=h.at1 hp;injection e2 with e2
 subst e2;omega
def piece_len {n e:Nat} {x:Nat→List Nat} {D:List Nat} (hD:D=jA x 0 (zL n e)) (hl:∀j,∀y∈x j,y<256) (hb:D.length≤90000):∀j,j<zL n e→(yA (x j)).length≤90000:=λj hj=>by
 have hs:=zMB x n e;rw[←hD] at hs;have hlt:∀y∈D,y<256:=by rw[hD];exact zLx hl _
 have hm:=zHI (B:=90000) D [] [] [] _ hs (λ_ h=>by cases h) (by simpa using hb) (λ_ h=>by cases h) hlt;exact (hm _ (List.mem_map.2 ⟨j,List.mem_range.2 hj,rfl⟩)).1
def data_le {F:FC} (h:F.chk=0):F.data.length≤90000:=by obtain⟨a',b',p',-,-,-,-,-,-,-,-,-,-,-,-,-,hd⟩:=zEj h;exact hd
def zVL (n e:Nat):ints ((zIv n e).map Int.ofNat)=ints ((List.range (zL n e-1)).map λj=>((208+j%8:Nat):Int)):=by
 unfold zIv;rw[List.range'_eq_map_range,List.map_map,List.map_map];congr 1
 refine List.map_congr_left λj _=> ?_
 show Int.ofNat (208+(1+j-1)%8)=_
 rw[Nat.add_sub_cancel_left];rfl
def zUr {x:Nat→List Nat} {n e K:Nat} (hK:zL n e=K) {D:List Nat} (hD:D=jA x 0 (zL n e)) (hl:∀y∈D,y<256) (hb:D.length≤90000) {dn:Nat} (hdn:D.length=dn) (A:Option Addr) (d:Nat) (W:World) (hs:SL W 1 (.slice A dn d) dn (zF D)) :
 Calls Tryz.prog 34 #[.slice A dn d] W λen W'=>∃PA pc PB pd VS,en=.returned (.tuple #[.slice PA K pc,.slice PB (K-1) pd,.int .i64 0])∧SL W' 1 (.slice PA K pc) K VS ∧
  (∀i,i<K→∃SA sc,VS[i]? =some (.slice SA (yA (x i)).length sc)∧SL W' 1 (.slice SA (yA (x i)).length sc) (yA (x i)).length (zF (yA (x i)))) ∧
  SL W' 1 (.slice PB (K-1) pd) (K-1) (ints ((List.range (K-1)).map λj=>((208+j%8:Nat):Int)))∧Ext W W'∧(∀ad,PA=some ad→W.heap.size≤ad.block)∧∀ad,PB=some ad→W.heap.size≤ad.block:=by
 subst hdn;have h:=zMO D (.slice A D.length d) W hs hl (by omega);have hsp:=zMB x n e;rw[←hD] at hsp;rw[hsp] at h;refine h.mono λen W' hh=> ?_
 obtain⟨PA,pc,PB,pd,VS,e1,e2,e3,e4,e5,-,e7,e8⟩:=hh;have hml:(zIv n e).length=K-1:=by rw[←hK];unfold zIv;simp
 have hpl:((List.range (zL n e)).map λj=>yA (x j)).length=K:=by rw[←hK];simp
 rw[zVL,hml,hK] at e4;rw[hpl,hml] at e1;rw[hpl] at e2;refine⟨PA,pc,PB,pd,VS,e1,e2,λi hi=> ?_,e4,e5,e7,e8⟩;obtain⟨SA,sc,h1,h2⟩:=e3.2 i (by rw[hpl];exact hi);have hp:((List.range (zL n e)).map λj=>yA (x j))[i]'(by rw[hpl];exact hi)=yA (x i):=by simp
 rw[hp] at h1 h2;exact⟨SA,sc,h1,h2⟩
def at_list {P:List Int} {N i:Nat} {u:Value} (hP:P.length=N) (hi:i<N) (h:(ints P)[i]? =some u):u=.int .i64 (P.getD i 0):=by unfold ints at h;rw[List.getElem?_map,List.getElem?_eq_getElem (by omega)] at h;rw[List.getD_eq_getElem?_getD,List.getElem?_eq_getElem (by omega)];exact (Option.some.inj h).symm
attribute [local irreducible] zF FC.cells jA yA
def walk (wd hi:Int) (A:Option Addr) (n c:Nat) (L:List (List Int)) (q:List Int) (hq:q.length=64) (every kq:Int) (v:Value) (o:List Nat) (hlt:∀b∈o,b<256) (hub:o.length≤1048576) (hA:∀n c,v=.slice none n c→c=0) (m0:Int) (w:World) (hm:w.cell? ⟨0,0,none⟩=some (.int .i64 m0))
 (hr:RowsS w A n c L) (ho:SL w 1 v o.length (zF o)) :
 Calls Tryz.prog 10 #[.agg (yX wd hi (.slice A n c)),.agg (bv q),.int .i64 every,.int .i64 kq,v] w λe w'=>e=.returned (.bool true)∧Ext w w':=by
 obtain⟨e,he,he1,he100⟩:=rest_e every;obtain⟨on,hon⟩:∃k,o.length=k:=⟨_,rfl⟩
 rw[hon] at hub ho;have hs':=ho;obtain⟨OA,oc,rfl,-,-,-,-⟩:=hs';have hA':OA=none→oc=0:=λe=>hA on oc (by rw[e])
 have HWK:=zA (λW (h:Ext w W)=>works_any m0 W (uG hm h));have HR1:=zA (λW=>zSO every 100 (by omega) (by omega) W);have HA1:Hid (∀W:World,(binOp .add 3 (.int .i64 (every%100)) (.int .i64 1)).run Tryz.prog W=.ok (.int .i64 (e:Int)) W):=zA (λW=>by rw[←he];exact zEW _ _ _ (IntWalk.i64_in _ (by omega)) W);have HENS:=zA (λW (hx:Ext w W)=>(zRP wd hi L A n c q hq (e:Int) m0 W (uG hm hx) (hr.ext hx)).mono λe' w' h=>enc_shape h);have hps:=zA (jB wd hi (.slice A n c));have hqs:=zA (show (bv q).size=64 by rw[zK,hq]);have hzs:=zA zBb;have hz0:=zCH;have HPC:=zA (λW g (h:Blk W g 31 (yX wd hi (.slice A n c)))=>zAM h);generalize yX wd hi (.slice A n c)=pv at *;have hqv:=zA hq;obtain⟨qv,hqv2⟩:∃qv,bv q=qv:=⟨_,rfl⟩
 rw[hqv2] at hqs ⊢;have HQ2:=zA hqv2;clear hqv2
 by_cases hn1:n=1
 ·subst hn1;obtain⟨xs,rfl⟩:∃xs,L=[xs]:=List.length_eq_one_iff.1 hr.len;have HOK:=zA (λF (h:zDP wd hi [xs] q (e:Int) 0 F)=>hurt_ok hqv.out he1 he100 h);have HM:=zA hm;have HE1:=zA he1;have HLT:=zA hlt;have HON:=zA hon;have HUB:=zA hub;have HOA:=zA hA';have HOS:=zA ho;rw[HQ2.out] at HENS;clear hr hlt hub hA hA' ho hm hon he he1 he100;go_enter Tryz.func10,Tryz.ntmps10
  go_upto_region 7 with (first
   | ((with_reducible apply gS 5);refine wBox rfl 31 (.tmp 0) rfl pv rfl ?_;intro w1 g1 hb1 hx1 hg1)
   | ((with_reducible apply gS 6);refine wBox rfl 33 (.tmp 1) rfl qv rfl ?_;intro w2 g2 hb2 hx2 hg2;have hb12:=hb1.ext hx2;have hx12:=hx1.trans hx2)
   | (go_at_call 11;(with_reducible refine (HWK.out _ hx12).mono ?_);rintro e' w4 ⟨rfl,hx4⟩;have hb14:=hb12.ext hx4;have hb24:=hb2.ext hx4;have hx14:=hx12.trans hx4;have hc14:=HPC.out _ _ hb14)
   | ((with_reducible apply gS 30);refine yU rfl (.slice A 1 c) (zCI rfl rfl hc14.2.2) ?_)
   | ((with_reducible apply gS 31);refine zB rfl (.int .i64 ((1:Nat):Int)) (zIJ rfl rfl) ?_)
   | (go_at_call 12;(with_reducible refine (HR1.out _).mono ?_);rintro e' w5 ⟨rfl,rfl⟩)
   | ((with_reducible apply gS 35);refine zB rfl (.int .i64 (e:Int)) (jO rfl rfl rfl HA1.out) ?_)
   | ((with_reducible apply gS 37);refine wLdB rfl 31 (.tmp 5) rfl g1 rfl hb14 _ Tryz.underlying31 rfl 3 qY hps.out ?_)
   | ((with_reducible apply gS 38);refine wLdB rfl 33 (.tmp 6) rfl g2 rfl hb24 _ Tryz.underlying33 rfl 64 zJ hqs.out ?_)
   | (go_at_call 17;(with_reducible refine (HENS.out _ hx14).mono ?_);rintro e' w6 ⟨E,F,A1,d1,A2,d2,A3,d3,rfl,hsh,hat,hEF,hx6⟩;have HSH:=zA hsh;have hb16:=hb14.ext hx6;have hx16:=hx14.trans hx6)
   | ((with_reducible apply gS 11);refine wAlo' rfl (some 11) rfl 47 rfl _ hz0 ?_;intro w7 gf hb7 hx7 hg7)
   | ((with_reducible apply gT 11 41);refine wStB rfl 47 (.tmp 11) (.tmp 41) rfl gf (F.cells (.slice A1 F.xs1.length d1) (.slice A2 F.xs2.length d2) (.slice A3 F.data.length d3)) rfl rfl hb7 103 yO (FC.size HSH.out _ _ _) hzs.out (zEd _ _ _ _ _ _ _ _ _ _) ?_;intro w8 hb8 hg8;have hx68:=hx7.grown hg8 hg7;have hb18:=hb16.ext hx68;have hx18:=hx16.trans hx68;have hat8:=hat.ext hx68))
  by_cases h0:E=0
  ·subst h0;obtain⟨a,b,ea,eb,a1,a2,b1,b2,hxs,Z,x,H⟩:=HOK.out F hEF;subst ea eb;have HKS:=zMq (n:=zT a b) HE1.out (zBx a2 b2);have hdl:=data_le H.thru.chk;have HPL:=zA (piece_len H.data H.lt hdl);obtain⟨K,hK⟩:∃K,zL (zT a b) e=K:=⟨_,rfl⟩
   have hK1:1≤K:=by rw[←hK];exact zHm _ _
   obtain⟨kk,hkk,hkl⟩:=rest_k kq K hK1;rw[hK] at HKS HPL;have HRK:=zA (λW=>zSO kq (K:Int) (by omega) (by omega) W);rw[hkk] at HRK;have HDF:=zA (λW (hx:Ext w W) s1 s2 A' n' c' (hn:F.data.length=n') (ha:F.at_ W s1 s2 (.slice A' n' c'))=>dec_far H.thru hn (uG HM.out hx) ha);have HSPL:=zA (λW dn (hdn:F.data.length=dn) A' d' hs=>zUr hK H.data H.thru.lt hdl hdn A' d' W hs);have HRD:=zA (λW D s1 s2 A' n' c' (hx:Ext w W) (hD:D=jA (zDC x kk o) 0 K) (hn:D.length=n') (ha:FC.at_ { F with data:=D } W s1 s2 (.slice A' n' c'))=>resc_hurt H HE1.out a1 kk (by rw[hK];exact hkl) o HLT.out D (by rw[hK];exact hD) s1 s2 A' n' c' hn m0 W (uG HM.out hx) ha);have HSTU:=zA (λW (hx:Ext w W)=>zOu OA on oc o m0 W (HOS.out.ext hx) HOA.out HLT.out (by have:=HUB.out;omega) (uG HM.out hx));have HX1:Hid (∀i,zDC x kk o i=if i=kk then o else x i):=zA (λi=>rfl);have HP1L:=zA (show (zAB q Z a b 0).length=a*b from zFP _ _ _ _ _);unfold HurtEnd at HRD;clear hK H hEF hxs;generalize zAB q Z a b 0=P1 at *;generalize zDC x kk o=X1 at *;have HPZ:=zA (λv=>jB (a:Int) (b:Int) v);have HP1:=zA (λA n c=>zBQ (a:Int) (b:Int) A n c);have HCC:=zA (λW g v (h:Blk W g 31 (yX a b v))=>(zAM h).2.2);have hzp:=zDc;obtain⟨pic,hpic⟩:∃pic:Value→Array Value,pic=yX a b:=⟨_,rfl⟩
   rw[←hpic] at HDF HPZ HP1 HCC;have HPIC:=zA hpic;have HF:=zA (λW g s1 s2 A n c (h:Blk W g 47 (F.cells s1 s2 (.slice A n c)))=>show W.cell? ⟨g,102,none⟩=some (.slice A n c) by unfold FC.cells at h;exact (zBX h HSH.out.1 (zU _ _ HSH.out.2.1) (zU _ _ HSH.out.2.2)).c102);have HATO:=zA hat;have HG7:=zA hg7;have HX68:=zA hx68;have HX6W:=zA hx16;have HG1:Hid (g1≠gf):=zA (by have h1:=hb16.lt;have h2:=hg7;omega);clear hpic hb1 hx1 hg1 hb2 hx2 hg2 hb12 hx12 hx4 hb14 hb24 hx14 hc14 hx6 hb16 hx16 hat hx7 hg7 hb7 hx68 hg8 hsh
   go_wp2_with (first
    | ((with_reducible apply gS 46);refine wLdB rfl 47 (.tmp 11) rfl gf rfl hb8 _ Tryz.underlying47 rfl 103 yO (FC.size HSH.out _ _ _) ?_)
    | (go_at_call 27;(with_reducible refine (HDF.out _ hx18 _ _ _ _ _ rfl hat8).mono ?_);rintro e' w9 ⟨B,d,rfl,hr9,hx9⟩;have hb89:=hb8.ext hx9;have hb19:=hb18.ext hx9;have hx19:=hx18.trans hx9;have hat9:=hat8.ext hx9)
    | ((with_reducible apply gS 13);refine wAlo' rfl (some 13) rfl 31 rfl _ hzp ?_;intro w10 gw hb10 hx10 hg10)
    | ((with_reducible apply gT 13 48);refine wStB rfl 31 (.tmp 13) (.tmp 48) rfl gw (pic (.slice B 1 d)) rfl rfl hb10 3 qY (HPZ.out _) (by rfl) (HP1.out _ _ _) ?_;intro w11 hb11 hg11;have hx911:=hx10.grown hg11 hg10;have hb811:=hb89.ext hx911;have hb111:=hb19.ext hx911;have hx111:=hx19.trans hx911;have hat11:=hat9.ext hx911;have hsd11:=hat11.2.2;have c102:=HF.out _ _ _ _ _ _ _ hb811)
    | ((with_reducible apply gS 52);refine yU rfl (.slice A3 F.data.length d3) (zAT rfl rfl c102) ?_)
    | (go_at_call 34;(with_reducible refine (HSPL.out _ _ rfl _ _ hsd11).mono ?_);rintro e' w12 ⟨PA,pc,PB,pd,VS,rfl,q1,q2,q3,hx12,qa,qb⟩;have hb812:=hb811.ext hx12;have hb112:=hb111.ext hx12;have hbw:=hb11.ext hx12;have hx112:=hx111.trans hx12)
    | (go_at_call 12;(with_reducible refine (HRK.out _).mono ?_);rintro e' w13 ⟨rfl,rfl⟩)
    | (refine zFf rfl (.tmp 67) (.const (.slice none 0 0)) rfl gf F HSH.out (.slice A1 F.xs1.length d1) (.slice A2 F.xs2.length d2) (.slice A3 F.data.length d3) [] none 0 0 rfl rfl hb812 ?_;intro w14 hb14 hu14))
   have HN8:Hid (∀v∈(F.cells (.slice A1 F.xs1.length d1) (.slice A2 F.xs2.length d2) (.slice A3 F.data.length d3)).toList,no8 v=true):=zA (no8_file F _ _ _ _ _ _ _ _ _);have HBF:=zA hb812;have HQ1:=zA q1;have HQ2:=zA q2;have HQ3:=zA q3;have HQA:=zA (λad (e:PA=some ad)=>show gf<ad.block from Nat.lt_of_lt_of_le hb811.lt (qa ad e));have HQB:=zA (λad (e:PB=some ad)=>show gf<ad.block from Nat.lt_of_lt_of_le hb811.lt (qb ad e));have HU14:=zA hu14;have HX12:=zA hx112;have HX612:=zA (((HX68.out.trans hx9).trans hx911).trans hx12);have HGF:=zA (show w.heap.size≤gf by have h1:=HX6W.out.size;have h2:=HG7.out;omega);have HGW:Hid (gw≠gf):=zA (by have h1:=hb89.lt;have h2:=hg10;omega);have HBW:=zA hbw;have HBP:=zA hb112;have HR9:Hid (RowsF w12 w8.heap.size B 1 d [P1]):=zA (hr9.upd (Upd.of_ext (S:=λx=>x=gf) (hx911.trans hx12)) (λx q=>by rw[q];exact hb8.lt));have HG8:=zA hb8.lt;have HCD:Hid (∀D s1 s2 B m d W g,Blk W g 47 (FC.cells { F with data:=D } s1 s2 (.slice B m d))→W.cell? ⟨g,102,none⟩=some (.slice B m d)):=zA (λD s1 s2 B m d W g h=>by unfold FC.cells at h;exact (zBX h HSH.out.1 (zU _ _ HSH.out.2.1) (zU _ _ HSH.out.2.2)).c102);have hown0:w14.ownsRow w14.heap.size 5 1 (.slice none 0 0) 0 (zF []):=by unfold zF;exact zAm _ _ _ _
   have HD0:Hid ([]=jA X1 0 0):=zA (by unfold jA;rfl);clear q1 q2 q3 qa qb hu14 hx112 hbw hb112 hr9 hx911 hx12 hb8 hb89 hb811 hb812 hb18 hb19 hb111 hx18 hx19 hx111 hat8 hat9 hat11 hx9 hx10 hg10 hb10 hb11 hg11 c102 hkk HDF HSPL;generalize Value.slice A1 F.xs1.length d1=S1 at *;generalize Value.slice A2 F.xs2.length d2=S2 at *
   go_loopw [70] (λiv wr=>∃(i dl:Nat) (B0:Option Addr) (d0:Nat) (D:List Nat),i≤K∧iv=.int .i64 (i:Int)∧Hid (D=jA X1 0 i)∧Hid (D.length=dl)∧Hid (dl≤i*3000002)∧Blk wr gf 47 (FC.cells { F with data:=D } S1 S2 (.slice B0 dl d0))∧wr.ownsRow w14.heap.size 5 1 (.slice B0 dl d0) dl (zF D)∧Upd (λb=>b=gf) w14 wr) (λi _=>K-(intOf i).toNat)
   case atStart=>exact⟨0,0,none,0,[],by omega,rfl,HD0,zA rfl,zA (by omega),hb14,hown0,Upd.refl _ _⟩
   case round =>
    clear hown0 HD0 hb14;obtain⟨i,dl,B0,d0,D,hi,rfl,HD,HDL,HDB,hbf,hown,hu⟩:=hrel;have hu4:=HU14.out.trans hu (λx h=>.inl h);have hq1:=HQ1.out.upd hu4 (λad e q=>by have:=HQA.out ad e;omega);have hq3:=HQ3.out.upd hu4 (λad e q=>by have:=HQB.out ad e;omega)
    by_cases hlt:i<K
    ·obtain⟨pd0,u,hB,hpb,hpk,hpc⟩:=hq1.at1 hlt;subst hB;obtain⟨SA,sc,hv,hsl0⟩:=HQ2.out i hlt;rw[hv] at hpk;obtain rfl:=Option.some.inj hpk;have hcell:=hpc;have hpl8:=HPL.out i hlt;have HPS:Hid (∀W,Upd (λb=>b=gf) w14 W→SL W 1 (.slice SA (yA (x i)).length sc) (yA (x i)).length (zF (yA (x i)))):=zA (λW h=>SL.no8 HBF.out HN8.out hsl0 (HU14.out.trans h (λx h=>.inl h)));have hxi:=HX1.out i;obtain⟨p,hp⟩:∃p,yA (x i)=p:=⟨_,rfl⟩
     obtain⟨pl,hpl⟩:∃q,p.length=q:=⟨_,rfl⟩
     rw[hp,hpl] at hcell HPS;rw[hp,hpl] at hpl8;have HPN:=zA hp;have HPLN:=zA hpl;have HPB:=zA hpl8;have HXI:=zA hxi;have hjs:=zFN X1 i;have HJS:=zA hjs;clear hv hp hpl hpc hpl8 hq1 hsl0 hxi hjs hpk
     go_upto_if 76 with (first
      | ((with_reducible apply gS 76);refine zB rfl (.bool (decide (0<i))) (xY rfl rfl rfl (by simp)) ?_))
     simp only[Act.put,sA,sB,sC]
     go_cut [] from 75 to 87 (λwx=>∃(dl1:Nat) (B1:Option Addr) (d1':Nat) (D1:List Nat),Hid (D1=jA X1 0 i++zAX i)∧Hid (D1.length=dl1)∧Hid (dl1≤i*3000002+2)∧Blk wx gf 47 (FC.cells { F with data:=D1 } S1 S2 (.slice B1 dl1 d1'))∧wx.ownsRow w14.heap.size 5 1 (.slice B1 dl1 d1') dl1 (zF D1)∧Upd (λb=>b=gf) w14 wx)
     case first =>
      by_cases hi0:i=0
      ·rw[decide_eq_false (show ¬0<i by omega)];have HM0:Hid (D=jA X1 0 i++zAX i):=zA (by rw[HD.out,hi0];unfold zAX;simp);go_wp2_with fail;go_meet;exact⟨dl,B0,d0,D,HM0,HDL,zA (Nat.le_trans HDB.out (Nat.le_add_right _ _)),hbf,hown,hu⟩
      obtain⟨j,hj⟩:∃j,i-1=j:=⟨_,rfl⟩
      have R48:Hid (∀W,(binOp .sub 3 (.int .i64 (i:Int)) (.int .i64 1)).run Tryz.prog W=.ok (.int .i64 (j:Int)) W):=zA (λW=>by have h:=zIO i 1 (by omega) (by omega) W;rwa [hj] at h);have hjm:j<K-1:=by omega
      obtain⟨md0,u,hB,hmbr,hmk,hcm⟩:=hq3.at1 hjm;subst hB
      have huu:u=.int .i64 ((208+j%8:Nat):Int):=by
       obtain⟨h1,h2⟩:=zCB _ _ _ hmk;rw[h2,List.getElem_map,List.getElem_range]
      subst huu;have HMK:Hid ([255,(208+j%8)%256]=zAX i):=zA (by unfold zAX;rw[if_neg hi0,hj,Nat.mod_eq_of_lt (show 208+j%8<256 by omega)]);generalize 208+j%8=m8 at *;clear hmk hj hq3;rw[decide_eq_true (show 0<i by omega)];go_upto_region 19 with fail
      have hbD:=hbf.drew;have hownD:=yE hown ((Ext.refl wr).drew);have hI:Blk wr.drew gf 47 (FC.cells { F with data:=D } S1 S2 (.slice B0 dl d0))∧wr.drew.cell? (md0.add j)=some (.int .i64 (m8:Int)):=⟨hbD,hcm⟩
      refine vI (λj=>j ==1 ||j ==6 ||j ==8) (λW=>Blk W gf 47 (FC.cells { F with data:=D } S1 S2 (.slice B0 dl d0))∧W.cell? (md0.add j)=some (.int .i64 (m8:Int))) (by kernel_rfl) ?_;refine zI (k:=0) (by kernel_rfl) rfl (by rfl) (.pointer (some ⟨gf,102,none⟩)) (λW=>by go_simp) ?_;simp only[sP,sB,sC];refine zI (k:=2) (by kernel_rfl) rfl (by rfl) (.slice (some md0) (K-1) pd) (zD rfl rfl) ?_;simp only[sP,sB,sC];refine zI (k:=3) (by kernel_rfl) rfl (by rfl) (.int .i64 (i:Int)) (zD rfl rfl) ?_;simp only[sP,sB,sC];refine zI (k:=4) (by kernel_rfl) rfl (by rfl) (.int .i64 (j:Int)) (zBz rfl rfl rfl R48.out) ?_;simp only[sP,sB,sC];refine zI (k:=5) (by kernel_rfl) rfl (by rfl) (.pointer (some (md0.add j))) (by rw[show md0.add j=md0.add (j*1) by rw[Nat.mul_one]];exact qP Tryz.underlying22 jM rfl rfl rfl hjm) ?_;simp only[sP,sB,sC];refine vR (k:=6) (by kernel_rfl) rfl (by rfl) (.int .i64 (m8:Int)) (λW hW=>zS rfl rfl hW.2) hI ?_;simp only[Act.put,sA,sB,sC];refine zI (k:=7) (by kernel_rfl) rfl (by rfl) (.int .u8 ((m8%256:Nat):Int)) (zPV (n:=m8) rfl rfl) ?_;simp only[sP,sB,sC];refine vR (k:=1) (by kernel_rfl) rfl (by rfl) (.slice B0 dl d0) (λW hW=>zAT rfl rfl (HCD.out _ _ _ _ _ _ W gf hW.1)) hI ?_;simp only[Act.put,sA,sB,sC];refine xZ (k:=8) (by kernel_rfl) rfl ?_;refine zCq rfl _ _ rfl (some 85) rfl 255 (m8%256) rfl rfl ?_;intro w9 g9 hb9 hx9 hg9;have hbf9:=hbD.ext hx9;refine zZ ⟨λ_=>⟨hbf9,(hx9.cell (p:=md0.add j) (by rw[yH];exact hmbr)).trans hcm⟩, ?_⟩;simp only[Act.put,sA,sB,sC];refine xZ (k:=9) (by kernel_rfl) rfl ?_;refine wApf zBd rfl _ _ rfl w14.heap.size _ _ _ rfl (yE hownD hx9) _ 2 (zF [255,m8%256]) rfl (blk_sl hb9) (zDY _) (by have:=HDB.out;omega) (by have:=HDB.out;omega) (by have h1:=hu.size;have h2:=hx9.size;have h3:wr.drew.heap.size=wr.heap.size:=rfl;omega) ?_;intro B10 d10 w10 ho10 hg10 hr10;rw[←zDF] at ho10;have hbf10:=(zM hg10).blk hbf9 (λq=>jS (yE hownD hx9) hbf9 zKR q.symm);refine zZ ⟨λh=>(by cases h), ?_⟩;simp only[Act.put,sA,sB,sC];refine zI (k:=10) (by kernel_rfl) rfl (by rfl) (.pointer (some ⟨gf,102,none⟩)) (λW=>by go_simp) ?_;simp only[sP,sB,sC];refine xZ (k:=11) (by kernel_rfl) rfl ?_;refine zFf rfl (.tmp 87) (.tmp 86) rfl gf { F with data:=D } HSH.out S1 S2 (.slice B0 dl d0) (D++[255,m8%256]) B10 (dl+2) d10 rfl rfl hbf10 ?_;intro w11 hb11 hu11;refine zZ ⟨λh=>(by cases h), ?_⟩;simp only[Act.put,sA,sB,sC];refine zAK (by kernel_rfl) ?_;have ho11:=qV ho10 hu11 (λx hx q=>jS ho10 hbf10 zKR (by rw[hx,q]));have hua:=((hu.drew).trans (Upd.of_ext (S:=λb=>b=gf) hx9) (λx h=>.inl h)).grown hg10 (λb hb=>.inr (own_bs hownD b hb));have hu11':=hua.trans hu11 (λx h=>.inl h);go_wp2_with fail;go_meet;exact⟨dl+2,B10,d10,D++[255,m8%256],zA (by rw[HMK.out,HD.out]),zA (by have h1:=HDL.out;simp only[List.length_append,List.length_cons,List.length_nil];omega),zA (by have:=HDB.out;omega),hb11,ho11,hu11'⟩
     case rest =>
     clear hbf hown hu hu4 hq3;obtain⟨dl1,B1,d1',D1,HD1,HDL1,HDB1,hbf,hown,hu⟩:=hcut;have hxw:=(HU14.out.trans hu (λx h=>.inl h)).ext HX12.out (λx h=>by have:=HGF.out;omega)
     go_upto_if 90 with (first
      | ((with_reducible apply gS 90);refine zB rfl (.bool (decide ((i:Int)=(kk:Int)))) (uZ rfl rfl rfl rfl) ?_))
     simp only[Act.put,sA,sB,sC]
     go_cut [19] from 88 to 92 (λxv wx=>∃(SB:Option Addr) (sb yl:Nat),xv=.slice SB yl sb∧Hid ((yA (X1 i)).length=yl)∧Hid (yl≤3000000)∧SL wx 1 (.slice SB yl sb) yl (zF (yA (X1 i)))∧Ext wc wx)
     case first =>
      by_cases hik:i=kk
      ·rw[decide_eq_true (show (i:Int)=(kk:Int) by omega)];have HXO:Hid (X1 i=o):=zA (by rw[HXI.out,if_pos hik]);clear hik;go_wp2_with (go_at_call 35;(with_reducible refine (HSTU.out _ hxw).mono ?_);rintro e' w15 ⟨SB,yl,sb,rfl,hyl,hys,-,hx15⟩)
       go_meet;exact⟨SB,sb,yl,rfl,zA (by rw[HXO.out];exact hyl),zA (by have h1:=zEr o;have h2:=HON.out;have h3:=HUB.out;omega),by rw[HXO.out];exact hys,hx15⟩
      rw[decide_eq_false (show ¬(i:Int)=(kk:Int) by omega)];have HXO:Hid (yA (X1 i)=p):=zA (by rw[HXI.out,if_neg hik];exact HPN.out);have hps:=HPS.out _ hu;go_wp2_with fail;go_meet;exact⟨SA,sc,pl,rfl,zA (by rw[HXO.out];exact HPLN.out),zA (by have:=HPB.out;omega),by rw[HXO.out];exact hps,Ext.refl _⟩
     case rest =>
     obtain⟨SB,sb,yl,hxv,HYL,HYB,hys,hxc⟩:=hcut;have hbfc:=hbf.ext hxc;have hownc:=yE hown hxc;have huc:=hu.trans (Upd.of_ext (S:=λb=>b=gf) hxc) (λx h=>.inl h);obtain⟨Y,hY⟩:∃Y,yA (X1 i)=Y:=⟨_,rfl⟩
     rw[hY] at hys HYL;have HYN:=zA hY;clear hY hbf hown hu;subst hxv
     go_wp2_with (first
      | ((with_reducible apply gS 94);refine yU rfl (.slice B1 dl1 d1') (zAT rfl rfl (HCD.out _ _ _ _ _ _ _ gf hbfc)) ?_)
      | ((with_reducible apply gS 96);refine wApf zBd rfl _ _ rfl w14.heap.size _ _ _ rfl hownc _ yl (zF Y) rfl hys (zDY _) (by have:=HDB1.out;have:=HYB.out;omega) (by have:=HDB1.out;have:=HYB.out;omega) (by have:=huc.size;omega) ?_;intro B12 d12 w12' ho12 hg12 hr12;rw[←zDF] at ho12;have hbf12:=(zM hg12).blk hbfc (λq=>jS hownc hbfc zKR q.symm))
      | ((with_reducible apply gT 97 96);refine zFf rfl (.tmp 97) (.tmp 96) rfl gf { F with data:=D1 } HSH.out S1 S2 (.slice B1 dl1 d1') (D1++Y) B12 (dl1+yl) d12 rfl rfl hbf12 ?_;intro w13' hb13 hu13))
     have ho13:=qV ho12 hu13 (λx hx q=>jS ho12 hbf12 zKR (by rw[hx,q]));have hu13':=(huc.grown hg12 (λb hb=>.inr (own_bs hownc b hb))).trans hu13 (λx h=>.inl h);go_roundw
     case rel=>exact⟨i+1,dl1+yl,B12,d12,D1++Y,by omega,by go_num,zA (by rw[HJS.out,HD1.out,HYN.out,List.append_assoc]),zA (by have h1:=HDL1.out;have h2:=HYL.out;rw[List.length_append];omega),zA (by have h1:=HDB1.out;have h2:=HYB.out;omega),hb13,ho13,hu13'⟩
     case measure=>simp[intOf];omega
    obtain rfl:i=K:=by omega
    have hxr:=hu4.ext HX12.out (λx h=>by have:=HGF.out;omega);have hat:FC.at_ { F with data:=D } wr S1 S2 (.slice B0 dl d0):=⟨zJL HATO.out.1 HX612.out HG7.out hu4,zJL HATO.out.2.1 HX612.out HG7.out hu4,by show SL wr 1 _ D.length (zF D);rw[HDL.out];exact (jC hown).1⟩
    have hb1r:=hu4.blk HBP.out HG1.out;have hbwr:=hu4.blk HBW.out HGW.out;have hrr:=HR9.out.upd hu4 (λx q=>by rw[q];exact HG8.out);have HATR:=zA hat;clear hat hown hu hu4 hq1 hq3 hlt;obtain⟨G,hG⟩:∃G,FC.cells { F with data:=D } S1 S2 (.slice B0 dl d0)=G:=⟨_,rfl⟩
    have hGS:Hid (G.size=103):=zA (by rw[←hG];exact FC.size (F:={ F with data:=D }) HSH.out _ _ _);have HRD2:=zA (HRD.out wr D _ _ _ _ _ hxr HD.out HDL.out HATR.out);rw[hG] at hbf HRD2;clear HRD hG;have HPZ2:=zA (λwd' hi' v=>jB wd' hi' v);have HP12:=zA (λwd' hi' A n c=>zBQ wd' hi' A n c);have HCC2:=zA (λW g wd' hi' v (h:Blk W g 31 (yX wd' hi' v))=>(zAM h).2.2)
    go_upto_region 25 with (first
     | ((with_reducible apply gS 100);refine wLdB rfl 47 (.tmp 11) rfl gf rfl hbf _ Tryz.underlying47 rfl 103 yO hGS.out ?_)
     | (go_at_call 22;(with_reducible refine HRD2.out.mono ?_);rintro e' w15 ⟨E,wd',hi',B2,n2,c2,C,j,cc,rfl,hx15,hend⟩;have hb115:=hb1r.ext hx15;have hbw15:=hbwr.ext hx15;have hx115:=hxr.trans hx15)
     | ((with_reducible apply gS 20);refine wAlo' rfl (some 20) rfl 31 rfl _ hzp ?_;intro w16 gg hb16 hx16 hg16)
     | ((with_reducible apply gT 20 102);refine wStB rfl 31 (.tmp 20) (.tmp 102) rfl gg (yX wd' hi' (.slice B2 n2 c2)) rfl rfl hb16 3 qY (HPZ2.out _ _ _) (by rfl) (HP12.out _ _ _ _ _) ?_;intro w17 hb17 hg17;have hx1517:=hx15.trans (hx16.grown hg17 hg16);have hx1617:=hx16.grown hg17 hg16;have hb117:=hb115.ext hx1617;have hbw17:=hbw15.ext hx1617;have hx117:=hx115.trans hx1617))
    have hcg:=HCC2.out _ _ _ _ _ hb17;have hbg:=hb17;have hcw:=HCC.out _ _ _ hbw17;have hc1:=HPC.out _ _ hb117;clear hbf hb1r hbwr hb115 hbw15 hx15 hb16 hx16 hg16 hb17 hg17 hxr hx115;have hx17d:Ext w17.drew w17.drew:=Ext.refl _;rcases hend with ⟨hE,h40⟩ | ⟨rfl,rfl,P2,Y,hYj,hr2,hsY,hYk,hPN,hlaw⟩
    ·have G1:Hid (decide (E≠0)=true):=zA (by simpa using hE);have G2:Hid (decide ((40000:Int)<(on:Int))=true):=zA (by have:=HON.out;simp;omega);clear hE h40;refine xU qM (by kernel_rfl) (by kernel_rfl) ?_
     repeat (first
      | (refine uK (by rfl) ?_;simp only[Act.put,sA,sB,sC])
      | (refine zE (by rfl) _ (zD rfl rfl) ?_;simp only[Act.put,sA,sB,sC])
      | (refine zE (by rfl) _ (zCg rfl rfl rfl) ?_;simp only[Act.put,sA,sB,sC])
      | (refine zE (by rfl) _ (jW rfl rfl rfl G1.out) ?_;simp only[Act.put,sA,sB,sC]))
     refine jU ?_;intro w18 hx18;simp only[if_true]
     go_wp2_with (first
      | ((with_reducible apply gS 145);refine zB rfl (.bool true) (xY rfl rfl rfl G2.out) ?_))
     go_ret;exact⟨rfl,hx117.drew.trans hx18⟩
    obtain⟨N,hN⟩:∃N,a*b=N:=⟨_,rfl⟩
    rw[hN] at hPN hlaw HP1L;obtain⟨ad2,R0,r0,hB2,hab2,hcr2,hsr2⟩:=zMx (hr2.ext hx1617);obtain⟨ad1,Q0,q0,hB1,hab1,hcr1,hsr1⟩:=zMx (hrr.rows.ext hx1517);subst hB2 hB1;rw[hPN] at hcr2 hsr2;rw[HP1L.out] at hcr1 hsr1;have HG2:Hid (∀W,Ext w17.drew W→W.cell? ⟨gg,2,none⟩=some (.slice (some ad2) 1 c2)):=zA (λW h=>(h.cell (p:=⟨gg,2,none⟩) hbg.lt).trans hcg);have HW2:Hid (∀W,Ext w17.drew W→W.cell? ⟨gw,2,none⟩=some (.slice (some ad1) 1 d)):=zA (λW h=>(h.cell (p:=⟨gw,2,none⟩) hbw17.lt).trans hcw);have HR2:Hid (∀W,Ext w17.drew W→W.cell? (ad2.add (0*1))=some (.slice R0 N r0)):=zA (λW h=>(h.cell (p:=ad2.add (0*1)) (by rw[yH];exact hab2)).trans (by rw[Nat.zero_mul];exact hcr2));have HR1':Hid (∀W,Ext w17.drew W→W.cell? (ad1.add (0*1))=some (.slice Q0 N q0)):=zA (λW h=>(h.cell (p:=ad1.add (0*1)) (by rw[yH];exact hab1)).trans (by rw[Nat.zero_mul];exact hcr1));have HLW:=zA hlaw;have HPN:=zA hPN;have hsYx:=hsY.ext hx1617
    go_cut [142] from 105 to 142 (λcv wx=>cv=.bool false∧Ext w17.drew wx)
    case first =>
     have HK0:Hid (decide ((kk:Int)≠kk)=false):=zA (by simp);have HN0:Hid (decide ((N:Int)≠(N:Int))=false):=zA (by simp);have H10:Hid (decide (((1:Nat):Int)≠1)=false):=zA (by simp);have H00:Hid (decide ((0:Int)≠0)=false):=zA (by simp)
     have HJJ:(j=0∧Hid (decide ((1:Int)<((j:Nat):Int))=false)∧Hid (decide (((j:Nat):Int)=1)=false))∨(Hid (decide ((1:Int)<((j:Nat):Int))=false)∧Hid (decide (((j:Nat):Int)=1)=true)∧∃bd,C=some bd∧Hid (0<j)∧Hid (∀W,Ext w17.drew W→W.cell? (bd.add (0*1))=some (.int .i64 (kk:Int)))):=by
      rcases hYk with rfl | rfl
      ·obtain rfl:j=0:=hYj.symm;exact .inl ⟨rfl,zA (by simp),zA (by simp)⟩
      obtain rfl:j=1:=hYj.symm;obtain⟨bd,u,hC,hbb,hu,hc⟩:=hsYx.at1 (k:=0) (by omega);obtain rfl:u=.int .i64 (kk:Int):=(zCB _ _ _ hu).2;exact .inr ⟨zA (by simp),zA (by simp),bd,hC,zA (by omega),zA (λW h=>(h.cell (p:=bd.add (0*1)) (by rw[yH];exact hbb)).trans (by rw[Nat.zero_mul];exact hc))⟩
     clear hsYx hsY hYk hYj;rcases HJJ with ⟨-,HJ1,HJ2⟩ | ⟨HJ1,HJ2,bd,rfl,HJP,HBD⟩
     all_goals (
      refine xU qM (by kernel_rfl) (by kernel_rfl) ?_;refine zE (by rfl) (.int .i64 (0)) (zD rfl rfl) ?_;simp only[sP,sB,sC];refine zE (by rfl) (.bool false) (jW (m:=0) (n:=0) rfl rfl rfl H00.out) ?_;simp only[sP,sB,sC];refine zE (by rfl) (.bool false) (zD rfl rfl) ?_;simp only[sP,sB,sC];refine zE (by rfl) (_) (zD rfl rfl) ?_;simp only[sP,sB,sC];refine zE (by rfl) (.int .i64 ((j:Nat):Int)) (zGG rfl rfl) ?_;simp only[sP,sB,sC];refine zE (by rfl) (.bool false) (xY (m:=((j:Nat):Int)) (n:=1) rfl rfl rfl HJ1.out) ?_;simp only[sP,sB,sC];refine zE (by rfl) (.bool false) (zCg (b:=false) rfl rfl rfl) ?_;simp only[sP,sB,sC];refine zE (by rfl) (.bool false) (zD rfl rfl) ?_;simp only[sP,sB,sC];refine zE (by rfl) (_) (zD rfl rfl) ?_;simp only[sP,sB,sC];refine zE (by rfl) (.int .i64 ((j:Nat):Int)) (zGG rfl rfl) ?_
      simp only[sP,sB,sC])
     rotate_left
     refine zE (by rfl) (.bool true) (uZ (m:=((j:Nat):Int)) (n:=1) rfl rfl rfl HJ2.out) ?_;simp only[sP,sB,sC];refine zE (by rfl) (.bool true) (zD rfl rfl) ?_;simp only[sP,sB,sC];refine zE (by rfl) (.slice (some bd) j cc) (zD rfl rfl) ?_;simp only[sP,sB,sC];refine zE (by rfl) (.pointer (some (bd.add (0*1)))) (qP Tryz.underlying22 jM rfl rfl rfl HJP.out) ?_;simp only[sP,sB,sC];refine xA (by rfl) (.int .i64 ((kk:Nat):Int)) (λW hW=>zS rfl rfl (HBD.out W hW)) ?_;simp only[sP,sB,sC];refine zE (by rfl) (.int .i64 ((kk:Nat):Int)) (zD rfl rfl) ?_;simp only[sP,sB,sC];refine zE (by rfl) (.bool false) (jW (m:=((kk:Nat):Int)) (n:=((kk:Nat):Int)) rfl rfl rfl HK0.out) ?_;simp only[sP,sB,sC];refine zE (by rfl) (.bool false) (zCg (b:=true) rfl rfl rfl) ?_;simp only[sP,sB,sC]
     rotate_left
     refine zE (by rfl) (.bool false) (uZ (m:=((j:Nat):Int)) (n:=1) rfl rfl rfl HJ2.out) ?_;simp only[sP,sB,sC];refine zE (by rfl) (.bool false) (zD rfl rfl) ?_;simp only[sP,sB,sC];refine uK (by rfl) ?_;simp only[sP,sB,sC];refine uK (by rfl) ?_;simp only[sP,sB,sC];refine uK (by rfl) ?_;simp only[sP,sB,sC];refine uK (by rfl) ?_;simp only[sP,sB,sC];refine uK (by rfl) ?_;simp only[sP,sB,sC];refine zE (by rfl) (.bool false) (zCg (b:=false) rfl rfl rfl) ?_;simp only[sP,sB,sC]
     all_goals (
      refine zE (by rfl) (.bool false) (zCg (b:=false) rfl rfl rfl) ?_;simp only[sP,sB,sC];refine zE (by rfl) (.bool false) (zD rfl rfl) ?_;simp only[sP,sB,sC];refine zE (by rfl) (.pointer (some ⟨gg,2,none⟩)) (λW=>by go_simp) ?_;simp only[sP,sB,sC];refine xA (by rfl) (.slice (some ad2) 1 c2) (λW hW=>zCI rfl rfl (HG2.out W hW)) ?_;simp only[sP,sB,sC];refine zE (by rfl) (.int .i64 ((1:Nat):Int)) (zIJ rfl rfl) ?_;simp only[sP,sB,sC];refine zE (by rfl) (.bool false) (jW (m:=1) (n:=1) rfl rfl rfl H10.out) ?_;simp only[sP,sB,sC];refine zE (by rfl) (.bool false) (zCg (b:=false) rfl rfl rfl) ?_;simp only[sP,sB,sC];refine zE (by rfl) (.bool false) (zD rfl rfl) ?_;simp only[sP,sB,sC];refine zE (by rfl) (.pointer (some ⟨gg,2,none⟩)) (λW=>by go_simp) ?_;simp only[sP,sB,sC];refine xA (by rfl) (.slice (some ad2) 1 c2) (λW hW=>zCI rfl rfl (HG2.out W hW)) ?_;simp only[sP,sB,sC];refine zE (by rfl) (.pointer (some (ad2.add (0*1)))) (qP Tryz.underlying29 uL rfl rfl rfl (by omega)) ?_;simp only[sP,sB,sC];refine xA (by rfl) (.slice R0 N r0) (λW hW=>jV rfl rfl (HR2.out W hW)) ?_;simp only[sP,sB,sC];refine zE (by rfl) (.int .i64 ((N:Nat):Int)) (zGG rfl rfl) ?_;simp only[sP,sB,sC];refine zE (by rfl) (.pointer (some ⟨gw,2,none⟩)) (λW=>by go_simp) ?_;simp only[sP,sB,sC];refine xA (by rfl) (.slice (some ad1) 1 d) (λW hW=>zCI rfl rfl (HW2.out W hW)) ?_;simp only[sP,sB,sC];refine zE (by rfl) (.pointer (some (ad1.add (0*1)))) (qP Tryz.underlying29 uL rfl rfl rfl (by omega)) ?_;simp only[sP,sB,sC];refine xA (by rfl) (.slice Q0 N q0) (λW hW=>jV rfl rfl (HR1'.out W hW)) ?_;simp only[sP,sB,sC];refine zE (by rfl) (.int .i64 ((N:Nat):Int)) (zGG rfl rfl) ?_;simp only[sP,sB,sC];refine zE (by rfl) (.bool false) (jW (m:=((N:Nat):Int)) (n:=((N:Nat):Int)) rfl rfl rfl HN0.out) ?_;simp only[sP,sB,sC];refine zE (by rfl) (.bool false) (zCg (b:=false) rfl rfl rfl) ?_;simp only[sP,sB,sC];refine jU ?_;intro w18 hx18;go_wp2_with fail;go_meet
      exact⟨rfl,hx18⟩)
    case rest =>
    obtain⟨hcv,hxc⟩:=hcut;subst hcv;have hx1c:=hx117.drew.trans hxc;have hb117c:=hb117.drew.ext hxc;have hc1c:=HPC.out _ _ hb117c;have hbwc:=hbw17.drew.ext hxc;have hgc:=HG2.out _ hxc;have hrc:=HR2.out _ hxc;have hs2c:=(hsr2.ext (Ext.refl _).drew).ext hxc;have hs1c:=(hsr1.ext (Ext.refl _).drew).ext hxc;have HXC:=zA hxc;obtain⟨ac,hac⟩:∃ac,(a+7)/8=ac:=⟨_,rfl⟩
    have HAC:=zA hac;have hac8:ac≤8:=by omega
    have HTE:=HE1.out;have HLW2:Hid (∀t,t<N→(t/a/8*ac+t%a/8)/e≠kk→P2.getD t 0=P1.getD t 0):=zA (by rw[←hac];exact HLW.out);have HTB:Hid (∀t,t<N→t/a<b∧t%a<a):=zA (λt h=>⟨Nat.div_lt_of_lt_mul (by rw[hN];exact h),Nat.mod_lt _ (by omega)⟩);have hN4:N≤4096:=by rw[←hN];exact Nat.le_trans (Nat.mul_le_mul a2 b2) (by omega)
    clear hsr2 hsr1 hcr1 hcr2 hab1 hab2 hcg hcw hbg hbw17 hc1 hb117 hx17d hr2 hrr hx1617 hx1517 hx117 hlaw hac
    go_wp2_with (first
     | ((with_reducible apply gS 147);refine yU rfl (.int .i64 (a:Int)) (zS rfl rfl hc1c.1) ?_)
     | ((with_reducible apply gS 148);refine zB rfl (.int .i64 ((a+7:Nat):Int)) (yL (i:=a) (d:=7) rfl rfl rfl (by omega)) ?_)
     | ((with_reducible apply gS 149);refine zB rfl (.int .i64 (ac:Int)) (by rw[←HAC.out];exact zDf (i:=a+7) (d:=8) rfl rfl rfl (by omega) (by omega)) ?_)
     | ((with_reducible apply gS 151);refine yU rfl (.slice (some ad2) 1 c2) (zCI rfl rfl hgc) ?_)
     | ((with_reducible apply gS 152);refine zB rfl (.pointer (some (ad2.add (0*1)))) (qP Tryz.underlying29 uL rfl rfl rfl (by omega)) ?_)
     | ((with_reducible apply gS 153);refine yU rfl (.slice R0 N r0) (jV rfl rfl hrc) ?_)
     | ((with_reducible apply gS 154);refine zB rfl (.int .i64 (N:Int)) (zGG rfl rfl) ?_))
    go_loopw [155] (λiv wr=>∃t:Nat,t≤N∧iv=.int .i64 (t:Int)∧Ext wc wr) (λi _=>N-(intOf i).toNat)
    case atStart=>exact⟨0,by omega,rfl,Ext.refl wc⟩
    case round =>
     obtain⟨t,ht,rfl,hx⟩:=hrel
     by_cases hlt:t<N
     ·obtain⟨hq1,hq2⟩:=HTB.out t hlt;have hlw2:=HLW2.out t hlt;obtain⟨tq,htq⟩:∃y,t/a=y:=⟨_,rfl⟩
      obtain⟨tr,htr⟩:∃y,t%a=y:=⟨_,rfl⟩
      obtain⟨t8,ht8⟩:∃y,tq/8=y:=⟨_,rfl⟩
      obtain⟨tm,htm⟩:∃y,t8*ac=y:=⟨_,rfl⟩
      obtain⟨bl,hbl⟩:∃y,tm+tr/8=y:=⟨_,rfl⟩
      obtain⟨be,hbe⟩:∃y,bl/e=y:=⟨_,rfl⟩
      rw[htq,htr,ht8,htm,hbl,hbe] at hlw2;rw[htq] at hq1;rw[htr] at hq2;have htm64:tm≤64:=by rw[←htm];exact Nat.le_trans (Nat.mul_le_mul (show t8≤8 by omega) hac8) (by omega)
      have hbl99:bl≤1000:=by omega
      have HTQ:=zA htq;have HTR:=zA htr;have HT8:=zA ht8;have HTM:=zA htm;have HBL:=zA hbl;have HBE:=zA hbe;have HLT2:=zA hlw2;clear htq htr ht8 htm hbl hbe hlw2;obtain⟨ad,u,hAd,hab,hxu,hcu⟩:=(hs2c.ext hx).at1 hlt;have hu:=at_list HPN.out hlt hxu;subst hu hAd;obtain⟨ae,u,hAe,hae,hxv,hcv⟩:=(hs1c.ext hx).at1 hlt;have hu:=at_list HP1L.out hlt hxv;subst hu hAe;generalize P2.getD t 0=z2 at *;generalize P1.getD t 0=z1 at *;have hc1r:=HPC.out _ _ (hb117c.ext hx);have hzl:be≠kk→z2=z1:=HLT2.out;have HA31:Hid (∀W,Ext wr.drew W→W.cell? ⟨g1,0,none⟩=some (.int .i64 (a:Int))):=zA (λW h=>(((Ext.refl wr).drew.trans h).cell (p:=⟨g1,0,none⟩) (hb117c.ext hx).lt).trans hc1r.1)
      go_upto_region 31 with (first
       | ((with_reducible apply gS 158);refine zB rfl (.pointer (some (ad.add (t*1)))) (qP Tryz.underlying22 jM rfl rfl rfl hlt) ?_)
       | ((with_reducible apply gS 159);refine yU rfl (.int .i64 z2) (zS rfl rfl (by rw[Nat.mul_one];exact hcu)) ?_))
      refine xU qM (by kernel_rfl) (by kernel_rfl) ?_;refine zE (by rfl) (.int .i64 ((t:Nat):Int)) (zD rfl rfl) ?_;simp only[sP,sB,sC];refine zE (by rfl) (.pointer (some ⟨g1,0,none⟩)) (λW=>by go_simp) ?_;simp only[sP,sB,sC];refine xA (by rfl) (.int .i64 ((a:Nat):Int)) (λW hW=>zS rfl rfl (HA31.out W hW)) ?_;simp only[sP,sB,sC];refine zE (by rfl) (.int .i64 ((tq:Nat):Int)) (by rw[←HTQ.out];exact zDf (i:=t) (d:=a) rfl rfl rfl (by omega) (by omega)) ?_;simp only[sP,sB,sC];refine zE (by rfl) (.int .i64 ((t8:Nat):Int)) (by rw[←HT8.out];exact zDf (i:=tq) (d:=8) rfl rfl rfl (by omega) (by omega)) ?_;simp only[sP,sB,sC];refine zE (by rfl) (.int .i64 ((ac:Nat):Int)) (zD rfl rfl) ?_;simp only[sP,sB,sC];refine zE (by rfl) (.int .i64 ((tm:Nat):Int)) (jO rfl rfl rfl (zFr t8 ac tm HTM.out (by omega))) ?_;simp only[sP,sB,sC];refine zE (by rfl) (.int .i64 ((t:Nat):Int)) (zD rfl rfl) ?_;simp only[sP,sB,sC];refine zE (by rfl) (.pointer (some ⟨g1,0,none⟩)) (λW=>by go_simp) ?_;simp only[sP,sB,sC];refine xA (by rfl) (.int .i64 ((a:Nat):Int)) (λW hW=>zS rfl rfl (HA31.out W hW)) ?_;simp only[sP,sB,sC];refine zE (by rfl) (.int .i64 ((tr:Nat):Int)) (by rw[←HTR.out];exact zNv (i:=t) (d:=a) rfl rfl rfl (by omega) (by omega)) ?_;simp only[sP,sB,sC];refine zE (by rfl) (.int .i64 ((tr/8:Nat):Int)) (zDf (i:=tr) (d:=8) rfl rfl rfl (by omega) (by omega)) ?_;simp only[sP,sB,sC];refine zE (by rfl) (.int .i64 ((bl:Nat):Int)) (by rw[←HBL.out];exact yL (i:=tm) (d:=tr/8) rfl rfl rfl (by omega)) ?_;simp only[sP,sB,sC];refine zE (by rfl) (.int .i64 ((bl:Nat):Int)) (zW rfl rfl) ?_;simp only[sP,sB,sC];refine jU ?_;intro w8' hx8';have hx9':=hx.trans ((Ext.refl wr).drew.trans hx8');have hc181:=(HCC.out _ _ _ (hbwc.ext hx9'))
      have hc183:w8'.cell? (ad1.add (0*1))=some (.slice (some ae) N q0):=HR1'.out _ (HXC.out.trans hx9')
      have hc186:w8'.cell? (ae.add (t*1))=some (.int .i64 z1):=by
       rw[Nat.mul_one];exact (((Ext.refl wr).drew.trans hx8').cell (p:=ae.add t) (by rw[yH];exact hae)).trans hcv
      clear HLT2 hcu hcv hxu hxv hab hae hc1r hx8'
      by_cases hbk:be=kk
      ·have HKE:Hid (decide ((be:Int)≠(kk:Int))=false):=zA (by simp[hbk]);clear hbk
       go_wp2_with (first
        | ((with_reducible apply gS 175);refine zB rfl (.int .i64 (be:Int)) (by rw[←HBE.out];exact zDf (i:=bl) (d:=e) rfl rfl rfl (by omega) (by omega)) ?_)
        | ((with_reducible apply gS 177);refine zB rfl (.bool false) (jW rfl rfl rfl HKE.out) ?_))
       go_roundw
       case rel=>exact⟨t+1,by omega,by go_num,hx9'⟩
       case measure=>simp[intOf];omega
      have HKE:Hid (decide ((be:Int)≠(kk:Int))=true):=zA (by simp;omega);have HZE:Hid (decide (z2≠z1)=false):=zA (by simp[hzl hbk]);clear hbk
      go_wp2_with (first
       | ((with_reducible apply gS 175);refine zB rfl (.int .i64 (be:Int)) (by rw[←HBE.out];exact zDf (i:=bl) (d:=e) rfl rfl rfl (by omega) (by omega)) ?_)
       | ((with_reducible apply gS 177);refine zB rfl (.bool true) (jW rfl rfl rfl HKE.out) ?_)
       | ((with_reducible apply gS 181);refine zBU (by rfl) (.slice (some ad1) 1 d) (zCI rfl rfl hc181) ?_)
       | ((with_reducible apply gS 182);refine xV (by rfl) (.pointer (some (ad1.add (0*1)))) (qP Tryz.underlying29 uL rfl rfl rfl (by omega)) ?_)
       | ((with_reducible apply gS 183);refine zBU (by rfl) (.slice (some ae) N q0) (jV rfl rfl hc183) ?_)
       | ((with_reducible apply gS 185);refine xV (by rfl) (.pointer (some (ae.add (t*1)))) (qP Tryz.underlying22 jM rfl rfl rfl hlt) ?_)
       | ((with_reducible apply gS 186);refine zBU (by rfl) (.int .i64 z1) (zS rfl rfl hc186) ?_)
       | ((with_reducible apply gS 187);refine xV (by rfl) (.bool false) (jW rfl rfl rfl HZE.out) ?_))
      go_roundw
      case rel=>exact⟨t+1,by omega,by go_num,hx9'⟩
      case measure=>simp[intOf];omega
     have ek:t=N:=by omega
     subst ek;go_wp2_with fail;go_ret;exact⟨rfl,hx1c.trans hx⟩
  have HNE:=zA h0;go_wp2_with ((with_reducible apply gS 44);refine zB rfl (.bool true) (jW rfl rfl rfl (by simpa using HNE.out)) ?_)
  go_ret;exact⟨rfl,hx18⟩
 clear hr hlt hub hA hA' ho hm hon he he1 he100 HENS;obtain⟨nI,hnI⟩:∃z:Int,((n:Nat):Int)=z:=⟨_,rfl⟩
 have HN1:Hid (decide ((n:Int)≠1)=true):=zA (by simp;omega);go_enter Tryz.func10,Tryz.ntmps10
 go_wp2_with (first
  | ((with_reducible apply gS 5);refine wBox rfl 31 (.tmp 0) rfl pv rfl ?_;intro w1 g1 hb1 hx1 hg1)
  | ((with_reducible apply gS 6);refine wBox rfl 33 (.tmp 1) rfl qv rfl ?_;intro w2 g2 hb2 hx2 hg2;have hb12:=hb1.ext hx2;have hx12:=hx1.trans hx2)
  | (go_at_call 11;(with_reducible refine (HWK.out _ hx12).mono ?_);rintro e' w4 ⟨rfl,hx4⟩;have hb14:=hb12.ext hx4;have hx14:=hx12.trans hx4;have hc14:=HPC.out _ _ hb14)
  | ((with_reducible apply gS 30);refine yU rfl (.slice A n c) (zCI rfl rfl hc14.2.2) ?_)
  | ((with_reducible apply gS 31);refine zB rfl (.int .i64 (n:Int)) (zIJ rfl rfl) ?_)
  | ((with_reducible apply gS 32);refine zB rfl (.bool true) (jW rfl rfl rfl HN1.out) ?_))
 go_ret;exact⟨rfl,hx14⟩
end Go.Proofs.YtkggcjdlpendfaaGreatDoor.topHurt
namespace Go.Proofs.YtkggcjdlpendfaaGreatDoor
open Go.RowKit
section
open Go.RowKit Go.ChangeShapes Go.WideShapes Go.ChangeAt
section
variable {H:Type} {enc:TypeId×Value→H} {w:World} {base:Nat} {spare:Nat→Bool} {held:Bool}
def zRM {P:Program} {t:TypeId} {f0 f1 f2:Field} {fuel:Nat} {cs:List Value} {x:DataW H×List MemPlace} (ht:P.underlying t=some (.struct #[f0,f1,f2])) (h:DataW.trod enc P w base spare held fuel t cs=some x) :
 ∃y0 y1 y2 n,cs.length=P.cellsOf t∧DataW.trod enc P w base spare held n f0.type ((cs.drop f0.offset).take (P.cellsOf f0.type))=some y0 ∧
  DataW.trod enc P w base spare held n f1.type ((cs.drop f1.offset).take (P.cellsOf f1.type))=some y1∧DataW.trod enc P w base spare held n f2.type ((cs.drop f2.offset).take (P.cellsOf f2.type))=some y2:=by
 obtain⟨xs,n,_,rfl,hl,hlen,hf⟩:=DataW.trod_struct ht h
 match xs,hlen with
 | [y0,y1,y2],_=>exact⟨y0,y1,y2,n,hl,by simpa using hf 0 f0 rfl,by simpa using hf 1 f1 rfl,by simpa using hf 2 f2 rfl⟩
def cellsRows:Tryz.prog.cellsOf 29=1:=by kernel_rfl
def cellsPic:Tryz.prog.cellsOf 31=3:=by kernel_rfl
def zTj {fuel:Nat} {cs:List Value} {x:DataW H×List MemPlace} (h:DataW.trod enc Tryz.prog w base spare held fuel 29 cs=some x) :
 ∃(A:Option Addr) (n c:Nat) (L:List (List Int)),cs=[.slice A n c]∧RowsS w A n c L∧∀l∈L,∀z∈l,zEf z:=by
 rcases Go.Deep.open_slice1 Tryz.underlying29 cellsSl h with ⟨rfl,-⟩ | ⟨a,len,cap,m,n,V,D,Pl,rfl,-,hl,hm,hmm,-,hx⟩
 ·exact⟨none,0,0,[],rfl,RowsS.nil w,by simp⟩
 have hle:len≤m:=by rw[hmm];split<;>omega
 obtain⟨Z,hZ⟩:=Go.Deep.choose_lt (α:=List Int) (n:=len) (p:=λi zs=>w.cell? (a.add i)=some (V i)∧SL w 1 (V i) zs.length (ints zs)∧∀z∈zs,zEf z) (λi hi=>by
  obtain⟨h1,h2⟩:=hx i (by omega);obtain⟨zs,v,hv,hs,hz⟩:=zVC h2;injection hv with hv
  rw[←hv] at hs
  exact⟨zs,h1,hs,hz⟩)
 refine⟨some a,len,cap,(List.range len).map Z,rfl,⟨(List.range len).map V,⟨some a,cap,rfl,hl,by unfold maxLen at hm;omega,by simp,λh0=>⟨a,rfl, ?_,λj u hu=> ?_⟩⟩,by simp,λk l hl=> ?_⟩,λl hl=> ?_⟩
 ·have h2:=World.block_lt_of_cell? w _ (hZ 0 h0).1
  rwa [yH] at h2
 ·have hj:j<len:=by have:=(wB7.1 hu).1;simpa using this
  rw[wB9,wO7 hj] at hu;rw[(hZ j hj).1];exact hu
 ·have hk:k<len:=by have:=(wB7.1 hl).1;simpa using this
  rw[wB9,wO7 hk] at hl ⊢;have e:Z k=l:=by simpa using hl
  obtain⟨-,hs,-⟩:=hZ k hk;rw[e] at hs;have hs':=hs;obtain⟨B,d,e2,-⟩:=hs;rw[e2] at hs';refine⟨B,d, ?_,hs'⟩;show some (V k)=_
  rw[e2]
 obtain⟨i,hi,rfl⟩:=wD2.1 hl;exact (hZ i (wF2.1 hi)).2.2
def zQv {b0:Nat} {r:Reach} {v:Value} {d:DataW H} {p:List MemPlace} (hv:Value.okWide Tryz.prog w r b0 31 v) (h:DataW.Trod enc Tryz.prog w base spare held 31 v d p) :
 ∃(wd hi:Int) (A:Option Addr) (n c:Nat) (L:List (List Int)),v=.agg (yX wd hi (.slice A n c))∧RowsS w A n c L∧zEf wd∧zEf hi:=by
 obtain⟨cs,rfl,hsz⟩:=okWide_struct Tryz.underlying31 hv;obtain⟨fuel,hf⟩:=h;obtain⟨y0,y1,y2,n,hlen,h0,h1,h2⟩:=zRM Tryz.underlying31 hf;have hL:cs.toList.length=3:=by rw[show cs.toList.length=cs.size by simp,hsz,cellsPic]
 have hcs:(Value.agg cs).cells.toList=cs.toList:=rfl;rw[hcs] at h0 h1 h2;dsimp only at h0 h1 h2;rw[zLt] at h0 h1;rw[cellsRows] at h2;obtain⟨wd,e0,w0⟩:=zFE Tryz.underlying3 h0;obtain⟨hi,e1,w1⟩:=zFE Tryz.underlying3 h1;obtain⟨A,m,c,L,e2,hr,-⟩:=zTj h2;refine⟨wd,hi,A,m,c,L, ?_,hr,w0,w1⟩;congr 1
 apply Array.ext'
 match hq:cs.toList,hL with
 | [a,b,d],_ =>
   rw[hq] at e0 e1 e2;simp at e0 e1 e2;subst e0 e1 e2;rfl
end
end
section
section
open Go.ChangeShapes Go.WideShapes Go.ChangeAt
variable {H:Type} {enc:TypeId×Value→H} {w:World} {base:Nat} {spare:Nat→Bool} {held:Bool}

def zNi {b0:Nat} {r:Reach} {v:Value} {d:DataW H} {p:List MemPlace} (hv:Value.okWide Tryz.prog w r b0 45 v) (h:DataW.Trod enc Tryz.prog w base spare held 45 v d p) :
 ∀n c,v=.slice none n c→c=0:=by
 obtain⟨fuel,hf⟩:=h;rcases open_ints Tryz.underlying45 Tryz.underlying5 (by kernel_rfl) hf with ⟨hcs,-⟩ | ⟨a,len,cap,zs,hcs,-,hlc,hcm,hzl,-,hcell,hwf⟩
 ·obtain rfl:=zEk Tryz.underlying45 hv hcs (by simp);intro n c e;injection e with _ _ e
  exact e.symm
 obtain rfl:=zEk Tryz.underlying45 hv hcs (by simp);intro n c e;injection e with e
 cases e
end
end
section
open Go.RowKit Go.ChangeShapes Go.WideShapes Go.ChangeAt
section
variable {H:Type}
def bulk_pos (d:DataW H):1≤Rows.uptoBulk d:=by
 cases d with
 | lit l=>cases l<;>simp[Rows.uptoBulk]
 | _=>simp[Rows.uptoBulk]
def bulk_many (l:List (DataW H)):l.length≤Rows.uptoBulkAll l:=by
 induction l with
 | nil=>simp[Rows.uptoBulkAll]
 | cons d l ih=>have:=bulk_pos d;simp only[Rows.uptoBulkAll,wA8];omega
def zPe {d:DataW H}:∀{l:List (DataW H)},d∈l→Rows.uptoBulk d≤Rows.uptoBulkAll l
 | x::l,h=>by
   simp only[Rows.uptoBulkAll];rcases wI8.1 h with rfl | h
   ·omega
   have:=zPe h;omega
variable {enc:TypeId×Value→H} {P:Program} {w:World} {base:Nat} {spare:Nat→Bool} {held:Bool}
def zUi {t e:TypeId} {A:Option Addr} {n c:Nat} {d:DataW H} {p:List MemPlace} {l:List (DataW H)} (ht:P.underlying t=some (.slice e)) (h:DataW.Trod enc P w base spare held t (.slice A n c) d p) (hd:d∈l) (hk:Rows.uptoSmall H l=true):n≤1048576:=by
 have hb:Rows.uptoBulkAll l≤1048576:=of_decide_eq_true hk;have h1:=zPe hd;obtain⟨fuel,hf⟩:=h;rcases Go.Deep.open_slice ht hf with ⟨h0,-⟩ | ⟨a,len,cap,m,k,D,Pl,hcs,-,hl,hm,hmm,hx,-⟩
 ·have:n=0:=by simpa [Value.cells] using congrArg (λl=>match l with | [Value.slice _ n _]=>n | _=>0) h0
  omega
 have hn:n=len:=by simpa [Value.cells] using congrArg (λl=>match l with | [Value.slice _ n _]=>n | _=>0) hcs
 have hdd:d=.slice ((List.range len).map D) ((List.range (m-len)).map λj=>D (len+j)):=congrArg Prod.fst hx;rw[hdd] at h1;have h2:=bulk_many ((List.range len).map D);simp only[wQ9,wU1] at h2;simp only[Rows.uptoBulk] at h1;omega
def bulk_sl {t e:TypeId} {v:Value} {sz n:Nat} {xs:List Value} {w0:World} {d:DataW H} {p:List MemPlace} {l:List (DataW H)} (hs:SL w0 sz v n xs) (ht:P.underlying t=some (.slice e)) (h:DataW.Trod enc P w base spare held t v d p) (hd:d∈l) (hk:Rows.uptoSmall H l=true):n≤1048576:=by obtain⟨A,c,rfl,-⟩:=hs;exact zUi ht h hd hk
end
end
section
open Go.RowKit Go.ChangeShapes Go.WideShapes Go.ChangeAt
def own:ownKnob Tryz.prog.godebug=none:=by kernel_rfl
def laidOut:laidOutB Tryz.prog=true:=by kernel_rfl
section
variable {H:Type} {enc:TypeId×Value→H} {P:Program}
def zIU (hl:laidOutB P=true) {W W':World} (hb:Below W.heap.size W W'):∀{ts:List TypeId} {vs:List Value} {ds:List (DataW H)} {ps:List MemPlace},
 (∀t∈ts,P.readableRec t=true∧t<P.types.size)→DataW.TrodAll enc P W 0 (λ_=>true) true ts vs ds ps→(∀x∈ps,x.block<W.heap.size) →
 DataW.TrodAll enc P W' 0 (λb=>decide (b<W.heap.size)) true ts vs ds ps
 | [],_,_,_,_,h,_=>by
   obtain⟨rfl,rfl,rfl⟩:=trodAll_nil h;exact trodAll_mk0
 | t::ts,vs,ds,ps,hr,h,hlt=>by
   obtain⟨v,vs1,d,ds1,a,b,rfl,rfl,rfl,h1,h2⟩:=trodAll_cons h
   exact⟨a,b,Below.trod hl (hr t (by simp)).1 (hr t (by simp)).2 h1 hb (λx hx=>hlt x (by simp[hx])),
    zIU hl hb (λt ht=>hr t (by simp[ht])) h2 (λx hx=>hlt x (by simp[hx])),rfl⟩
def law_post {f:Func} {s:ChangeSpec} {W W':World} {args:Array Value} {ds gs:List (DataW H)} {before:List MemPlace}
 (hl:laidOutB P=true) (tb:TypeId) (htb:P.underlying tb=some .bool) (hft:f.resultTypes= #[tb]) (hvars:s.vars=[])
 (hr:∀t∈f.params.toList,P.readableRec t=true∧t<P.types.size)
 (hW:DataW.Whole enc P f.params.toList s.vars false W args.toList ds gs before)
 (hfn:s.fn H (ds++gs)={ results:=[.lit (.bool true)],args:=ds })
 (hb:Ext W W'):s.post enc P f false true false false W args (.bool true) W':=by
 have hlt:∀p∈before,p.block<W.heap.size:=λp hp=>by simpa using hW.lt p hp
 have hW':=hW;obtain⟨p,q,hA,hV,rfl,hfz,hnd⟩:=hW;rw[hvars] at hV;obtain⟨rfl,rfl⟩:=trodVars_none hV;simp only[wG9] at hlt hW';refine⟨ds,[],p,[],p,[],hW', ?_, ?_, ?_, ?_,λh=>by cases h⟩
 ·rw[hft,hfn];exact trodAll_cons_mk (shut_bool htb _) trodAll_mk0
 ·rw[hfn];exact zIU hl hb hr hA hlt
 ·rw[hfn,hvars];rfl
 exact World.keptBut_mono (λp hp=>⟨hp,Or.inr (Or.inl hp)⟩) (hb.frame (· ∈p))
end
end
section
open Go.ChangeShapes Go.WideShapes Go.ChangeAt Go.RowKit
def zTB {W:World} (h:W.ShapedOpen Tryz.prog):∃m,W.cell? ⟨0,0,none⟩=some (.int .i64 m) :=
 Go.Proofs.cell_of_shapedOpen_int (zero:= #[.int .i64 0]) (t:=3) h (of_decide_eq_true (by kernel_rfl)) (by kernel_rfl) rfl (by kernel_rfl) (by kernel_rfl) Tryz.underlying3
def zQp (cs:Array Value):Obj→Obj
 | .cells _ t frozen=>.cells cs t frozen
 | o=>o
noncomputable def zJG (os:Os):World :=
 { World.holding Tryz.prog os ⟨#[], #[],[]⟩ with
  heap:=((World.holding Tryz.prog os ⟨#[], #[],[]⟩).heap.modify 1 (zQp (Go.Pinned.utf8FirstZ.map λn:Nat=>Value.int .u8 n).toArray)).modify 2
   (zQp (([128,191,160,191,128,159,144,191,128,143,0,0,0,0,0,0,0,0,0,0,0,0,0,0,0,0,0,0,0,0,0,0]:List Nat).map λn:Nat=>Value.int .u8 n).toArray) }
