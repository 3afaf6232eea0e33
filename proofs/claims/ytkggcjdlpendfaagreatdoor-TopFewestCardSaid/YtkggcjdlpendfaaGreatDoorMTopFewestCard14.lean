import Derived.Test.YtkggcjdlpendfaaGreatDoorMTopFewestCard13
set_option linter.all false
set_option maxRecDepth 20000
set_option maxHeartbeats 8000000
namespace Go.Proofs.YtkggcjdlpendfaaGreatDoor
open Go.RowKit
section
open Go.RowKit Go.Maps
def qM (counts:List Int):Int:=if 256<counts.length then 2 else if zR counts 0 9999 then 0 else 1
def zRJ (z:Int) (w:World):Calls Tryz.prog 107 (#[.int .i64 z]++ #[]) w fun e w'=>e=.returned (.bool (!inB z 0 9999))∧w=w':=by
 by_cases h:z<0
 ·have h':decide (z<0)=true:=by simpa using h
  have e:inB z 0 9999=false:=zAI.2 (by omega);rw[e];clear e;go_enter Tryz.func107,Tryz.ntmps107;go_wp2_with fail;go_ret;exact⟨rfl,rfl⟩
 ·have h':decide (z<0)=false:=by simpa using h
  have e:(!inB z 0 9999)=decide (9999<z):=by rw[wE3];simp[inB];omega
  rw[e];clear e;go_enter Tryz.func107,Tryz.ntmps107;go_wp2_with fail;go_ret;exact⟨rfl,rfl⟩
def zMU:uB Tryz.prog 107:=zAW Tryz.func107 (by kernel_rfl) rfl
def zEr (counts:List Int) (v:Value) (w:World) (hv:SL w 1 v counts.length (ints counts)) :
 Calls Tryz.prog 49 #[v] w fun e w'=>e=.returned (.int .i64 (qM counts))∧w=w':=by
 have HCF:=zA (fun W (hs:SL W 1 v counts.length (ints counts))=>jU 107 #[] (fun z=> !inB z 0 9999) zMU v counts W hs (fun z _=>zRJ z W));simp only[zDH] at HCF;have hv':=hv;obtain⟨A,c,rfl,hc1,hc2, -, -⟩:=hv';unfold qM
 by_cases h:256<counts.length
 ·rw[if_pos h];go_enter Tryz.func49,Tryz.ntmps49;go_wp2_with fail;go_ret;exact⟨rfl,rfl⟩
 ·rw[if_neg h]
  cases ha:zR counts 0 9999 with
  | true =>
    rw[ha] at HCF;clear ha;go_enter Tryz.func49,Tryz.ntmps49;go_wp2_with (go_at_call 88;(with_reducible refine (HCF.out _ hv).mono ?_);rintro e w' ⟨rfl,rfl⟩)
    go_ret;exact⟨rfl,rfl⟩
  | false =>
    rw[ha] at HCF;clear ha;go_enter Tryz.func49,Tryz.ntmps49;go_wp2_with (go_at_call 88;(with_reducible refine (HCF.out _ hv).mono ?_);rintro e w' ⟨rfl,rfl⟩)
    go_ret;exact⟨rfl,rfl⟩
def jC (T:List Tok) (s:Int):Nat:=(zBs T s).length
def zBI (T:List Tok) (counts:List Int):Nat→Int
 | 0=>0
 | k+1=>zBI T counts k+counts.getD k 0*(jC T (k:Int):Int)
def zTL (T:List Tok) (counts:List Int) (k:Nat) (h:k<counts.length):zBI T counts (k+1)=zBI T counts k+counts[k]*(jC T (k:Int):Int):=by
 show zBI T counts k+counts.getD k 0*(jC T (k:Int):Int)=_
 rw[show counts.getD k 0=counts[k] by simp[h]]
def zGR (T:List Tok) (counts:List Int):Bool:=(List.range counts.length).all fun k=>decide (counts.getD k 0≤0) ||(qV T (k:Int)).isSome
def jI (cs xs counts:List Int):Int×Int :=
 if zT cs xs=0 then (if qM counts=0 then (if zGR (zL (zD cs 16) xs) counts then (zBI (zL (zD cs 16) xs) counts counts.length,0) else (0,5)) else (0,qM counts)) else (0,zT cs xs)
def zEC {counts:List Int} (h:qM counts=0):counts.length≤256∧zR counts 0 9999=true:=by
 unfold qM at h;split at h
 ·cases h
 ·split at h
  ·next h1 h2=>exact⟨by omega,h2⟩
  ·cases h
def hasAll_no {T:List Tok} {counts:List Int} {k:Nat} (hk:k<counts.length) (h:0<counts[k]) (hf:qV T (k:Int)=none):zGR T counts=false:=by
 rw[←wE1];intro h2;have:=wB5.1 h2 k (wB7.2 hk);simp[hf,hk] at this;omega
def zKw {T:List Tok} {counts:List Int} (h: ∀ k,(hk:k<counts.length)→counts[k]≤0∨(qV T (k:Int)).isSome=true):zGR T counts=true:=by
 refine wB5.2 fun k hk=> ?_
 have hk':=wB7.1 hk;rcases h k hk' with h1 | h1
 ·simp[hk',h1]
 ·simp[h1]
def costL_bd {T:List Tok} (hf:zBe T) {counts:List Int} (ha:zR counts 0 9999=true): ∀ k,k≤counts.length→0≤zBI T counts k∧zBI T counts k≤159984*k:=by
 intro k
 induction k with
 | zero=>intro _;simp[zBI]
 | succ k ih =>
   intro hk;obtain⟨a,b⟩:=ih (by omega);have h1:=yD.1 ha _ (wE2 (show k<counts.length by omega));have h2:=zFs hf (k:Int);have e:counts.getD k 0=counts[k]'(by omega):=by simp[show k<counts.length by omega]
   show 0≤zBI T counts k+counts.getD k 0*(jC T (k:Int):Int)∧zBI T counts k+counts.getD k 0*(jC T (k:Int):Int)≤_
   rw[e];unfold jC;obtain⟨z,hz⟩: ∃ z:Nat,counts[k]'(by omega)=(z:Int):=⟨(counts[k]'(by omega)).toNat,by omega⟩
   rw[hz] at h1 ⊢;generalize (zBs T (k:Int)).length=n at *;have:z*n≤9999*16:=wI6 (by omega) h2;have h5:((z*n:Nat):Int)=(z:Int)*(n:Int):=by push_cast;rfl
   constructor
   ·rw[←h5];omega
   ·rw[←h5];push_cast;omega
def zDS (T:List Tok) (s:Int):Option Value:=(T.find? (fun t=>t.1 ==s)).map (fun t=>Value.int .i64 t.2.1)
def zLK (T:List Tok) (t:Tok) (h: ∀ u∈T,u.1≠t.1):zDS (T++[t]) t.1=some (.int .i64 t.2.1):=by
 have h1:T.find? (fun u=>u.1 ==t.1)=none:=by
  rw[wO4];intro u hu;simpa using h u hu
 unfold zDS;rw[wO5,h1];simp
def zKb (T:List Tok) (t:Tok) (s:Int) (h:s≠t.1):zDS (T++[t]) s=zDS T s:=by
 have h1:[t].find? (fun u=>u.1 ==s)=none:=by
  rw[wO4];intro u hu;have:u=t:=by simpa using hu
  subst this;simpa using fun h2=>h h2.symm
 unfold zDS;rw[wO5,h1,Option.or_none]
def zSj {T:List Tok} (hf:zBe T) (s:Int):(zDS T s).getD (.int .i64 0)=.int .i64 (jC T s:Nat):=by
 unfold zDS jC zBs
 cases h:qV T s with
 | none=>unfold qV at h;rw[h];rfl
 | some t =>
   obtain⟨long,code,rfl,h1,h2,h3⟩:=hf s t h;unfold qV at h;rw[h];simp[qB]
def lenT_zero {T:List Tok} (hf:zBe T) (s:Int):jC T s=0↔qV T s=none:=by
 unfold jC zBs
 cases h:qV T s with
 | none=>simp
 | some t =>
   obtain⟨long,code,rfl,h1,h2,h3⟩:=hf s t h;simp[qB];omega
def zBJ:Keyed Tryz.prog 3:=int_keyed Tryz.underlying3
def zDt (w:World):(zeroValue 3).run Tryz.prog w=.ok (.int .i64 0) w:=by kernel_rfl
def zRU (cs xs:List Int) (hxs:xs.Nodup) (hl:(zD cs 16).length=xs.length) (k:Nat) (hk:k<(zL (zD cs 16) xs).length) :
 ∀ u∈(zL (zD cs 16) xs).take k,u.1≠((zL (zD cs 16) xs)[k]).1:=by
 have hz:(zL (zD cs 16) xs).length=xs.length:=by rw[zBS _ _ (by omega),hl]
 generalize zD cs 16=C at *;intro u hu;obtain⟨j,hj,rfl⟩:=wO0.1 hu;simp at hj;rw[List.getElem_take];rw[zAD C xs j (by omega) (by omega),zAD C xs k (by omega) (by omega)];intro e;have:=(List.getElem_inj hxs).1 e;omega
def zQh (cs xs counts:List Int) (sl sv:Value) (w:World) (hl:cs.length=16) (hs:SL w 1 sl xs.length (ints xs)) (hv:SL w 1 sv counts.length (ints counts)) (h:zT cs xs≠0∨(zT cs xs=0∧qM counts≠0)) :
 Calls Tryz.prog 19 #[.agg (yL cs sl),sv] w fun e w'=>e=.returned (.tuple #[.int .i64 (jI cs xs counts).1,.int .i64 (jI cs xs counts).2])∧Ext w w':=by
 have hts:=zA (vL cs sl hl);rcases h with h | ⟨h,h2⟩
 ·have HW:=zA (fun W h'=>tWords_no cs xs sl W hl h' h);have HE:Hid (jI cs xs counts=(0,zT cs xs)):=zA (by unfold jI;rw[if_neg h]);rw[HE.out];generalize yL cs sl=tv at *;generalize zT cs xs=z at *;have hz:(z ==0)=false:=by simpa using h
  have hz2:(z !=0)=true:=by simpa using h
  clear h;go_enter Tryz.func19,Tryz.ntmps19
  go_wp2_with (first
   | (refine wBox rfl 42 (.tmp 0) rfl tv rfl ?_;intro w1 g hb1 hx1 hg;have hs1:=hs.ext hx1)
   | (refine wLdB rfl 42 (.tmp 2) rfl _ rfl hb1 _ Tryz.underlying42 rfl 17 zS hts.out ?_)
   | (go_at_call 48;(with_reducible refine (HW.out _ hs1).mono ?_);rintro e w2 ⟨rfl,hx2⟩))
  go_ret2;exact⟨rfl,hx1.trans hx2⟩
 ·have HW:=zA (fun W h'=>zLl cs xs sl W hl h' h);have HB:=zA (fun W h'=>zEr counts sv W h');have HE:Hid (jI cs xs counts=(0,qM counts)):=zA (by unfold jI;rw[if_pos h,if_neg h2]);rw[HE.out];generalize yL cs sl=tv at *;generalize qM counts=z at *;have hz2:(z !=0)=true:=by simpa using h2
  clear h h2;go_enter Tryz.func19,Tryz.ntmps19
  go_wp2_with (first
   | (refine wBox rfl 42 (.tmp 0) rfl tv rfl ?_;intro w1 g hb1 hx1 hg;have hs1:=hs.ext hx1)
   | (refine wLdB rfl 42 (.tmp 2) rfl _ rfl hb1 _ Tryz.underlying42 rfl 17 zS hts.out ?_)
   | (go_at_call 48;(with_reducible refine (HW.out _ hs1).mono ?_);rintro e w2 ⟨B,d,rfl,hs2,hf2,hx2⟩;have hv2:=(hv.ext hx1).ext hx2)
   | (go_at_call 49;(with_reducible refine (HB.out _ hv2).mono ?_);rintro e w3 ⟨rfl,rfl⟩))
  go_ret2;exact⟨rfl,hx1.trans hx2⟩
def cost_good (cs xs counts:List Int) (sl sv:Value) (w:World) (hl:cs.length=16) (hs:SL w 1 sl xs.length (ints xs)) (hv:SL w 1 sv counts.length (ints counts)) (h:zT cs xs=0) (h2:qM counts=0) :
 Calls Tryz.prog 19 #[.agg (yL cs sl),sv] w fun e w'=>e=.returned (.tuple #[.int .i64 (jI cs xs counts).1,.int .i64 (jI cs xs counts).2])∧Ext w w':=by
 have hts:=zA (vL cs sl hl);have HW:=zA (fun W h'=>zLl cs xs sl W hl h' h);have HB:=zA (fun W h'=>zEr counts sv W h');rw[h2] at HB;obtain⟨q1,q2,q3,q4,q5,q6⟩:=zAQ h;obtain⟨b1,b2⟩:=zEC h2;have hlen:(zD cs 16).length=xs.length:=by have:=zBw cs (fun z hz=>(yD.1 q1 z hz).1) 16 (by omega);omega
 have HZL:Hid ((zL (zD cs 16) xs).length=xs.length):=zA (by rw[zBS _ _ (by omega),hlen]);have HAP:=zA (zRU cs xs q6 hlen);have HF:=zA (zFH cs xs hl h);have HAT:=zA (fun k (h1:k<(zD cs 16).length) (h2:k<xs.length) hk=>zAD (zD cs 16) xs k h1 h2 hk);have HIN:=zA (yD.1 q5)
 have HBD:Hid (∀ k (hk:k<(zL (zD cs 16) xs).length),0≤((zL (zD cs 16) xs)[k]).1∧((zL (zD cs 16) xs)[k]).1≤255):=zA (fun k hk=>by
  have:=HZL.out;have hk1:k<(zD cs 16).length:=by omega
  have hk2:k<xs.length:=by omega
  rw[HAT.out k hk1 hk2 hk]
  exact HIN.out _ (wE2 hk2))
 have HE:Hid (jI cs xs counts=if zGR (zL (zD cs 16) xs) counts then (zBI (zL (zD cs 16) xs) counts counts.length,0) else (0,5)):=zA (by unfold jI;rw[if_pos h,if_pos h2]);have HCB:=zA (costL_bd HF.out b2);have HALL:=zA (yD.1 b2);have hmm:= @run_makeMap Tryz.prog;generalize jI cs xs counts=ez at *;generalize yL cs sl=tv at *;generalize zL (zD cs 16) xs=T at *;clear h h2 q1 q2 q4 q5 q6 b2 hlen HAT HIN;have hv':=hv;obtain⟨Av,cv,rfl,hcv1,hcv2, -, -⟩:=hv';go_enter Tryz.func19,Tryz.ntmps19
 go_wp2_with (first
  | (refine wBox rfl 42 (.tmp 0) rfl tv rfl ?_;intro w1 g hb1 hx1 hg;have hs1:=hs.ext hx1)
  | (refine wLdB rfl 42 (.tmp 2) rfl _ rfl hb1 _ Tryz.underlying42 rfl 17 zS hts.out ?_)
  | (go_at_call 48;(with_reducible refine (HW.out _ hs1).mono ?_);rintro e w2 ⟨B,d,rfl,hs2,hf2,hx2⟩;have hv2:=(hv.ext hx1).ext hx2)
  | (go_at_call 49;(with_reducible refine (HB.out _ hv2).mono ?_);rintro e w3 ⟨rfl,rfl⟩))
 have hm0:zEV Tryz.prog 3 (w2.alloc (.map #[] 0)) w2.heap.size 0 (zDS []):=MapG.made w2;have hxw:=(hx1.trans hx2).alloc (.map #[] 0);have hzw:=(hx1.trans hx2).size;have hE25:Below w2.heap.size w2 (w2.alloc (.map #[] 0)):=(Ext.refl w2).alloc _;have hd1:xs.length≤d∧d≤9223372036854775807:=by obtain⟨A',c',e,h1,h2, -⟩:=hs2;injection e with e1 e2 e3;subst e3;exact⟨h1,h2⟩
 obtain⟨hd1,hd2⟩:=hd1;generalize hM:w2.heap.size=M at *;have hw2z:w2.heap.size≤M:=by omega
 generalize hw5:w2.alloc (.map #[] 0)=w5 at *;have hw5z:M<w5.heap.size:=by rw[←hw5,World.size_alloc];omega
 clear hw5 hM hmm hs1 hb1 hx1 hx2 hs hv
 go_loopw [29] (fun i wr=> ∃ k:Nat,k≤xs.length∧i=.int .i64 (k:Int)∧zEV Tryz.prog 3 wr M k (zDS (T.take k))∧Upd (fun b=>b=M) w5 wr) (fun i _=>xs.length-(intOf i).toNat)
 case atStart=>exact⟨0,by omega,rfl,hm0,Upd.refl _ _⟩
 case round =>
  clear hm0;obtain⟨k,hk,rfl,hm,hu⟩:=hrel
  by_cases hlt:k<xs.length
  ·have hkT:k<T.length:=by have:=HZL.out;omega
   have hslr:=hs2.below (hE25.trans (hu.below (fun x hx=>by omega) (by omega))) hw2z;obtain⟨ad,rfl,hbl,h1,h2,h3⟩:=hslr.tok hlt HZL.out hkT;have a1:=HAP.out k hkT;obtain⟨b3,b4⟩:=HBD.out k hkT;have HS1:=zA (zLK (T.take k) T[k] a1);have HS2:=zA (fun s=>zKb (T.take k) T[k] s);have HTS:Hid (T.take (k+1)=T.take k++[T[k]]):=zA (wC3 hkT);generalize T[k]=t at *;obtain⟨t1,t2,t3⟩:=t;simp only at b3 b4 h1 h2 h3;have hkey1:=zA (zBo (P:=Tryz.prog) Tryz.underlying3 (a:=t1) (by omega) (by omega));have hma:=hm.alloc (.cells #[.int .i64 t1,.int .i64 t2,.int .i64 t3] 94);have hua:=hu.trans (Upd.of_ext (S:=fun _=>False) ((Ext.refl wr).alloc (.cells #[.int .i64 t1,.int .i64 t2,.int .i64 t3] 94))) (fun x hx=>hx.elim);clear a1 hm hu hslr;go_wp2_with (at_mapUpdate;refine zBk (by rfl) _ _ _ 92 3 rfl zBJ Tryz.underlying92 rfl hma (by omega) _ rfl _ rfl t1 hkey1.out (zDS (T.take k++[(t1,t2,t3)])) HS1.out (fun j _ hj=>HS2.out j (fun e=>hj (by rw[e]))) (fun j _ hj=>by injection hj) ?_;intro w7 hm7 hg7)
   go_roundw
   case rel=>exact⟨k+1,by omega,by go_num,by rw[HTS.out];exact hm7,hua.grown hg7 (fun b hb=>.inl (by injection hb with hb;exact hb.symm))⟩
   case measure=>simp[intOf];omega
  ·have ek:k=xs.length:=by omega
   have HFT:Hid (T.take k=T):=zA (wC4 (by have:=HZL.out;omega));rw[HFT.out] at hm;have hvr:SL wr 1 (.slice Av counts.length cv) counts.length (ints counts):=hv2.below (hE25.trans (hu.below (fun x hx=>by omega) (by omega))) hw2z;have hxr:=hu.ext hxw (by omega);have HLK:=zA (zSj HF.out);have HLZ:=zA (lenT_zero HF.out);have HLB:Hid (∀ s,jC T s≤16):=zA (fun s=>zFs HF.out s);clear hs2 hv2 hu hxw ek;go_wp2_with fail
   go_loop [11,41] (fun v i=> ∃ k:Nat,k≤counts.length∧i=.int .i64 (k:Int)∧v=.int .i64 (zBI T counts k)∧(∀ j,(hj:j<counts.length)→j<k→counts[j]≤0∨(qV T (j:Int)).isSome=true)) (fun _ i=>counts.length-(intOf i).toNat)
   case atStart=>exact⟨0,by omega,rfl,rfl,by intro j _ hj;omega⟩
   case round =>
    obtain⟨m,hmk,rfl,rfl,hall⟩:=hrel;have HALR:=zA hall;clear hall
    by_cases hlt2:m<counts.length
    ·obtain⟨ad,u,hA, -,hxk,hcell⟩:=hvr.at1 hlt2;obtain⟨hkl,rfl⟩:=zBn _ _ _ hxk;subst hA;obtain⟨n0,n1⟩:=HALL.out _ (wE2 hkl);obtain⟨z0,z1⟩:=HCB.out m (by omega);have HCS:=zA (zTL T counts m hkl);have hlk:=HLK.out (m:Int);have hlz:=HLZ.out (m:Int);have hlb:=HLB.out (m:Int);have HNO:=zA (fun h h'=>hasAll_no (T:=T) hkl h h');have hkeym:=zA (zBo (P:=Tryz.prog) Tryz.underlying3 (a:=(m:Int)) (by omega) (by omega));generalize hn:counts[m]=n at *;have HN:=zA hn;clear hxk hn;obtain⟨nn,rfl⟩: ∃ nn:Nat,n=(nn:Int):=⟨n.toNat,by omega⟩
     have hprod:nn*jC T (m:Int)≤9999*16:=wI6 (by omega) hlb;have HLKM:=zA hlk;have HLZM:=zA hlz;clear hlk hlz;generalize jC T (m:Int)=l at *;have hp0:(0:Int)≤(nn:Int)*(l:Int):=by rw[←wD7];omega
     have hp1:(nn:Int)*(l:Int)≤159984:=by rw[←wD7];omega
     by_cases hpos:0<nn
     ·have hd:decide ((0:Int)<(nn:Int))=true:=by simpa using hpos
      by_cases hl0:l=0
      ·have HNO':=zA (HNO.out (by omega) (HLZM.out.1 hl0));have HLK0:Hid ((zDS T (m:Int)).getD (.int .i64 0)=.int .i64 0):=zA (by rw[HLKM.out,hl0];rfl);clear hprod hl0;go_wp2_with (at_lookup;refine zAh (by rfl) _ _ 92 3 rfl zBJ Tryz.underlying92 _ (zDt _) rfl hm _ rfl (m:Int) trivial hkeym.out _ HLK0.out ?_)
       go_ret2;rw[HE.out,HNO'.out];exact⟨rfl,hxr⟩
      ·have hl1:((l:Int) ==0)=false:=by simpa using hl0
       have HSM:Hid ((qV T (m:Int)).isSome=true):=zA (by
        cases hq:qV T (m:Int) with
        | none=>exact absurd (HLZM.out.2 hq) hl0
        | some t=>rfl)
       clear hprod hl0
       go_wp2_with (first
        | (at_lookup;refine zAh (by rfl) _ _ 92 3 rfl zBJ Tryz.underlying92 _ (zDt _) rfl hm _ rfl (m:Int) trivial hkeym.out _ HLKM.out ?_))
       go_round
       case rel =>
        refine⟨m+1,by omega,by go_num,by rw[HCS.out],fun j hj hjm=> ?_⟩
        by_cases hjk:j=m
        ·subst hjk;exact .inr HSM.out
        ·exact HALR.out j hj (by omega)
       case measure=>simp[intOf];omega
     ·have hd:decide ((0:Int)<(nn:Int))=false:=by simpa using hpos
      obtain rfl:nn=0:=by omega
      have hzm:((0:Nat):Int)*(l:Int)=0:=by simp
      clear hprod hpos hd;go_wp2_with (at_lookup;refine zAh (by rfl) _ _ 92 3 rfl zBJ Tryz.underlying92 _ (zDt _) rfl hm _ rfl (m:Int) trivial hkeym.out _ HLKM.out ?_)
      go_round
      case rel =>
       refine⟨m+1,by omega,by go_num,vint (by rw[HCS.out];simp),fun j hj hjm=> ?_⟩
       by_cases hjk:j=m
       ·subst hjk;exact .inl (by have:=HN.out;omega)
       ·exact HALR.out j hj (by omega)
      case measure=>simp[intOf];omega
    ·have emk:m=counts.length:=by omega
     have HYES:=zA (zKw (T:=T) (counts:=counts) (fun j hj=>HALR.out j hj (by omega)));rw[emk];go_wp2_with fail;go_ret2;rw[HE.out,HYES.out];exact⟨rfl,hxr⟩
def zHn (cs xs counts:List Int) (sl sv:Value) (w:World) (hl:cs.length=16) (hs:SL w 1 sl xs.length (ints xs)) (hv:SL w 1 sv counts.length (ints counts)) :
 Calls Tryz.prog 19 #[.agg (yL cs sl),sv] w fun e w'=>e=.returned (.tuple #[.int .i64 (jI cs xs counts).1,.int .i64 (jI cs xs counts).2])∧Ext w w':=by
 by_cases h:zT cs xs=0
 ·by_cases h2:qM counts=0
  ·exact cost_good cs xs counts sl sv w hl hs hv h h2
  ·exact zQh cs xs counts sl sv w hl hs hv (.inr ⟨h,h2⟩)
 ·exact zQh cs xs counts sl sv w hl hs hv (.inl h)
end
end Go.Proofs.YtkggcjdlpendfaaGreatDoor
namespace Go.Proofs.YtkggcjdlpendfaaGreatDoor
open Go.RowKit
def run_headP (A:Option Addr) (n c h:Nat) (hh:h≤n) (hc:n≤c) (w:World) :
 (Instr.slice 189 (.slice A n c) none (some (.int .i64 (h:Int))) none).run Tryz.prog w=.ok (.slice A h c) w:=by
 have e2:((h:Int)≤(c:Int)):=by omega
 go_simp
def ex_headP {o:Oper} {a:Act} {x hi:Operand} (ho:o.op=.slice 189 x none (some hi) none) {A:Option Addr} {n c h:Nat} (hx:a.eval x=.slice A n c) (h1:a.eval hi=.int .i64 (h:Int)) (hh:h≤n) (hc:n≤c) (w:World) :
 (execOp a.eval o).run Tryz.prog w=.ok (.value (.slice A h c)) w:=by
 simp[execOp,ho,hx,h1,Instr.sliceAt,Sem.run_bind,run_underlying Tryz.underlying189,run_headP A n c h hh hc w]
def zeroPkV:(Tryz.prog.info? 188).bind (·.zero)=some (.agg (pkV (0,.slice none 0 0))):=by kernel_rfl
def le_mul32 {x y j k:Nat} (a:x≤y*k) (b:y≤j):x≤j*k:=Nat.le_trans a (Nat.mul_le_mul_right k b)
def pk_one (z:Int) (A:Option Addr) (n c:Nat):(pkV (z,.slice A n c)).all (·.oneCell')=true:=by simp[pkV,Value.oneCell']
def zCf (C:List Int) (s:Int):Option Value:=if C.count s=0 then none else some (.int .i64 ((C.count s:Nat):Int))
def cntF_nil:zCf []=fun _=>none:=by funext s;simp[zCf]
def zNk (C:List Int) (s:Int):(zCf C s).getD (.int .i64 0)=.int .i64 ((C.count s:Nat):Int):=by
 unfold zCf;split
 ·rename_i h;rw[h];rfl
 ·rfl
def cntF_same (C:List Int) (s:Int):zCf (C++[s]) s=some (.int .i64 ((C.count s+1:Nat):Int)):=by
 unfold zCf;rw[List.count_append,List.count_singleton_self,if_neg (by omega)]
def zST (C:List Int) (s t:Int) (h:t≠s):zCf (C++[s]) t=zCf C t:=by
 unfold zCf;rw[List.count_append,List.count_cons,List.count_nil];simp[Ne.symm h]
def MapG.not_cells {ι:Type} {P:Program} {k:TypeId} {kl:ι→Lit} {ok:ι→Prop} {w:World} {b n:Nat} {g:ι→Option Value} (h:MapG P k kl ok w b n g) {T:TypeId} {cs:Array Value}: ¬Blk w b T cs:=by
 obtain⟨D,⟨es,clock,hb, -⟩, -⟩:=h;intro q;unfold Blk at q;rw[hb] at q;cases q
def zSf {ι:Type} {P:Program} {k:TypeId} {kl:ι→Lit} {ok:ι→Prop} {w:World} {b n B s m:Nat} {g:ι→Option Value} {e:TypeId} {v:Value} {xs:List Value} (ho:w.ownsRow B e s v m xs) (h:MapG P k kl ok w b n g):some b≠v.ownBlock:=fun q=>by
 obtain⟨cs,hc⟩:=zDI ho b q.symm;exact h.not_cells (T:=e) (cs:=cs) hc
namespace BM
def cont_take_succ (L:List Pack) (j:Nat) (h:j<L.length):cont (L.take (j+1))=cont (L.take j)++L[j].2:=by
 rw[List.take_succ_eq_append_getElem h,zJt];simp[cont]
def cont_len {L:List Pack} {b:Nat} (h: ∀ p∈L,p.2.length≤b):(cont L).length≤L.length*b:=by
 induction L with
 | nil=>simp[cont]
 | cons p L ih =>
   have h1:=h p (by simp);have h2:=ih (fun q hq=>h q (by simp[hq]));have e:cont (p::L)=p.2++cont L:=by simp[cont]
   rw[e,List.length_append,List.length_cons,Nat.add_mul];omega
def singN_syms (cs:List Int): ∀ i, ∀ p∈singN cs i, ∀ s∈p.2, -1≤s∧s<i
 | 0,p,hp,s,hs=>by simp[singN] at hp;subst hp;simp at hs;omega
 | i+1,p,hp,s,hs=>by
   rw[singN,List.mem_append] at hp;rcases hp with hp | hp
   ·have:=singN_syms cs i p hp s hs;omega
   ·split at hp
    ·have e:p=((cs.getD i 0).toNat,[(i:Int)]):=by simpa using hp
     subst e;simp at hs;omega
    ·cases hp
def Reach.syms {S:List Pack} {R:Int→Prop} (hS: ∀ p∈S, ∀ s∈p.2,R s): ∀ {f L},Reach S f L→ ∀ p∈L, ∀ s∈p.2,R s
 | _,_,.zero,p,hp=>hS p hp
 | _,_,.step h hp _,p,hm=>by
   have h1:=hp.subset hm;rcases List.mem_append.1 h1 with h1 | h1
   ·obtain⟨x,hx,y,hy,e⟩:=zJH _ _ h1;subst e;intro s hs;rcases List.mem_append.1 hs with hs | hs
    ·exact h.syms hS x hx s hs
    ·exact h.syms hS y hy s hs
   ·exact hS p h1
end BM
end Go.Proofs.YtkggcjdlpendfaaGreatDoor
namespace Go.Proofs.YtkggcjdlpendfaaGreatDoor
open Go.RowKit
section
def zeroI1:((Tryz.prog.info? 3).bind (·.zero)).isSome=true:=by kernel_rfl
def zMX:((Tryz.prog.info? 188).bind (·.zero)).isSome=true:=by kernel_rfl
def builtPk (z:Int) (A:Option Addr) (n c:Nat):Tryz.prog.built 188 [(0,.int .i64 z),(1,.slice A n c)]=some (pkV (z,.slice A n c)):=by
 show _=_
 kernel_rfl
def zHJ {o:Oper} {a:Act} {x y:Operand} (ho:o.op=.build 188 #[(0,x),(1,y)]) {z:Int} {A:Option Addr} {n c:Nat} (hx:a.eval x=.int .i64 z) (hy:a.eval y=.slice A n c) (w:World):(execOp a.eval o).run Tryz.prog w=.ok (.value (.agg (pkV (z,.slice A n c)))) w:=by
 simp only[execOp,ho,Sem.run_bind,run_build w 188 (#[(0,x),(1,y)].map fun (i,x)=>(i,a.eval x)) (pkV (z,.slice A n c)) (by simpa [hx,hy] using builtPk z A n c),Result.andThen_ok,Sem.run_pure]
def OwnP.lit {w:World} {B g:Nat} {q:FPk} (h:Blk w g 188 (pkV (zBc q))) (hq:IntsAt w q.2 q.1.2) (hB:B≤g):OwnP w B (some ⟨g,0,none⟩) 1 1 [q] :=
 OwnP.of_ds rfl (tl:=[]) h rfl (wA5 _) (by unfold maxLen;omega) hB (fun p hp=>by rw[wK3.1 hp];exact hq)
def OwnP.far {w:World} {B m k gp:Nat} {C:Option Addr} {Q:List FPk} {cs:Array Value} (h:OwnP w B C m k Q) (hb:Blk w gp 42 cs):(Value.slice C m k).ownBlock≠some gp:=fun e=>by
 obtain⟨ds,k⟩:=h.typed gp e;exact absurd (zNh k hb) (by decide)
def DS.cells {w:World} {g:Nat} {L:List Pk} {tl:List Value} (h:DS w g L tl) (i:Nat) (hi:i<L.length):w.cell? ⟨g,i*2,none⟩=some (.int .i64 L[i].1)∧w.cell? ⟨g,i*2+1,none⟩=some L[i].2:=by
 unfold DS at h;rw[zIH L i hi,wG2,wG2] at h;have hl:(vG (L.take i)).length=i*2:=by rw[zEl,wI8];omega
 constructor
 ·rw[h.cell,wH5,wG8 (by omega),hl,wF9];rfl
 ·rw[h.cell,wH5,wG8 (by omega),hl,show i*2+1-i*2=1 by omega];rfl
def zEf {w w':World} {a:Addr} {v:Value} (hx:Ext w w') (h:w.cell? a=some v):w'.cell? a=some v:=by
 have hlt:a.block<w.heap.size:=by
  rcases wA3 a.block w.heap.size with q | q
  ·exact q
  ·unfold World.cell? at h;rw[wA4 q] at h;cases h
 exact (hx.cell hlt).trans h
def IntsAt.sl {w:World} {A:Option Addr} {a c:Nat} {xs:List Int} (h:IntsAt w (.slice A a c) xs) (hl:xs.length=a):SL w 1 (.slice A a c) a (ints xs):=by
 have:=h.1
 rwa [hl] at this
def OwnP.base {w:World} {B B' m k g:Nat} {Q:List FPk} (h:OwnP w B (some ⟨g,0,none⟩) m k Q) (hB:B'≤B):OwnP w B' (some ⟨g,0,none⟩) m k Q:=by
 obtain⟨tl,hD,h1,h2,h3,h4⟩:=h.ds;exact OwnP.of_ds h.len hD h1 h2 h3 (by omega) h.all
def zSR:zAp Tryz.prog 150:=⟨_,Tryz.func150,rfl,rfl⟩
def zPI {ops:Array Oper} {rest:List Oper} {o:Oper} {a:Act} {w:World} {Q:Exit→Act→World→Prop} (hg:o.guard=none) (x y:Operand) (ho:o.op=.buildSlice 29 2 #[(0,x),(1,y)]) (dst:Option Tmp) (hdst:o.dst=dst)
 (A1 A2:Option Addr) (a1 c1 a2 c2:Nat) (hx:a.eval x=.slice A1 a1 c1) (hy:a.eval y=.slice A2 a2 c2)
 (h: ∀ w1 g,Blk w1 g 22 #[.slice A1 a1 c1,.slice A2 a2 c2]→Ext w w1→w.heap.size≤g→wpList Tryz.prog ops Q rest (a.put dst (.slice (some ⟨g,0,none⟩) 2 2)) w1):wpList Tryz.prog ops Q (o::rest) a w:=by
 refine Go.Great.wpList_buildSliceTo hg 29 22 2 #[(0,x),(1,y)] ho _ rfl dst hdst Tryz.underlying29 #[.slice A1 a1 c1,.slice A2 a2 c2] ?_ (h _ _ (Blk.new w _ _) ((Ext.refl w).alloc _) (wA5 _));simp only[wC7,wC8,wC9,hx,hy];show _=_
 kernel_rfl
attribute [local irreducible] BM.singN vG BM.lenF
def make_good (counts:List Int) (A:Option Addr) (n c:Nat) (hn:counts.length=n) (w:World) (hv:SL w 1 (.slice A n c) n (ints counts)) (hb:qM counts=0) :
 Calls Tryz.prog 101 #[.slice A n c] w fun e w'=> ∃ cs xs B d,e=.returned (.tuple #[.agg (yL cs (.slice B xs.length d)),.int .i64 0])∧BM.Made counts cs xs∧cs.length=16∧w'.ownsRow w.heap.size 3 1 (.slice B xs.length d) xs.length (ints xs)∧Ext w w':=by
 have HB:=zA (fun W (hx:Ext w W)=>zEr counts (.slice A n c) W (by rw[hn];exact hv.ext hx));rw[hb] at HB;obtain⟨b1,b2⟩:=zEC hb;have HIN:=zA (yD.1 b2);rw[hn] at b1;have HN:=zA hn;have hs0:BM.singN counts 0=[(0,[-1])]:=by rw[BM.singN]
 have HSS:=zA (fun i=>(show BM.singN counts (i+1)=BM.singN counts i++(if 0<counts.getD i 0 then [((counts.getD i 0).toNat,[(i:Int)])] else []) by rw[BM.singN]));have HSM:=zA (BM.singN_mem counts (fun z hz=>(HIN.out z hz).2));clear hb b2 hn;go_enter Tryz.func101,Tryz.ntmps101
 go_upto_region 6 with (first
  | ((with_reducible apply gS 2);refine wAlo' rfl (some 2) rfl 42 rfl _ zKa ?_;intro w1 gp hp1 hx1 hgp)
  | (go_at_call 49;(with_reducible refine (HB.out _ hx1).mono ?_);rintro e w2 ⟨rfl,rfl⟩)
  | ((with_reducible apply gS 25);refine wLit1 rfl 22 3 _ rfl (some 25) rfl Tryz.underlying22 1 qW zeroI1 (.int .i64 (-1)) rfl rfl (by omega) (by omega) ?_;intro w3 g3 hb3 hx3 hg3)
  | ((with_reducible apply gS 26);refine zB rfl (.agg (pkV (0,.slice (some ⟨g3,0,none⟩) 1 1))) (zHJ rfl rfl rfl) ?_)
  | ((with_reducible apply gS 27);refine wLit1 rfl 189 188 _ rfl (some 27) rfl Tryz.underlying189 2 zFT zMX (.agg (pkV (0,.slice (some ⟨g3,0,none⟩) 1 1))) rfl rfl (by omega) (by omega) ?_;intro w4 g4 hb4 hx4 hg4))
 have hx24:=hx3.trans hx4;have hx04:=hx1.trans hx24;have hp4:=hp1.ext hx24;have hq0:IntsAt w4 (.slice (some ⟨g3,0,none⟩) 1 1) [-1]:=(IntsAt.lit hb3).ext hx4;have ho0:OwnP w4 w.heap.size (some ⟨g4,0,none⟩) 1 1 [((0,[-1]),.slice (some ⟨g3,0,none⟩) 1 1)]:=OwnP.lit hb4 hq0 (by have:=(hx1.trans hx3).size;omega);clear hb3 hb4 hq0 hx3 hx4
 go_loopw [5,30] (fun sv iv wr=> ∃ (i m k:Nat) (C:Option Addr) (Q:List FPk),i≤n∧iv=.int .i64 (i:Int)∧sv=.slice C m k∧OwnP wr w.heap.size C m k Q∧Hid (Q.map (·.1)=BM.singN counts i)∧m≤i+1∧1≤m∧Blk wr gp 42 (yL (List.replicate 16 0) (.slice none 0 0))∧Ext w wr) (fun _ i _=>n-(intOf i).toNat)
 case atStart=>exact⟨0,1,1,some ⟨g4,0,none⟩,[((0,[-1]),.slice (some ⟨g3,0,none⟩) 1 1)],by omega,rfl,rfl,ho0,zA (by rw[hs0];rfl),by omega,by omega,hp4,hx04⟩
 case round =>
  clear ho0 hp4 hx04 hp1 hx24 hx1;obtain⟨i,m,k,C,Q,hi,rfl,rfl,hQ,HQM,hmi,h1m,hp,hx⟩:=hrel
  by_cases hlt:i<n
  ·obtain⟨ad,u,rfl,hab,hxk,hcell⟩:=(hv.ext hx).at1 hlt;obtain⟨hkl,rfl⟩:=zBn _ _ _ hxk;have hz1:=HIN.out _ (wE2 hkl);have hss:=HSS.out i;rw[show counts.getD i 0=counts[i] by simp[hkl]] at hss;generalize counts[i]=z8 at *;obtain⟨z,rfl⟩: ∃ z:Nat,z8=(z:Int):=⟨z8.toNat,by omega⟩
   clear hxk
   by_cases hp0:0<z
   ·rw[if_pos (by omega),wF0] at hss;have HSU:=zA hss;clear hss
    go_wp2_with (first
     | ((with_reducible apply gS 36);refine zB rfl (.bool true) (xU rfl rfl rfl (by simpa using hp0)) ?_)
     | ((with_reducible apply gS 40);refine wLit1 rfl 22 3 _ rfl (some 40) rfl Tryz.underlying22 1 qW zeroI1 (.int .i64 (i:Int)) rfl rfl (by omega) (by omega) ?_;intro w5 g5 hb5 hx5 hg5)
     | ((with_reducible apply gS 41);refine zB rfl (.agg (pkV ((z:Int),.slice (some ⟨g5,0,none⟩) 1 1))) (zHJ rfl rfl rfl) ?_)
     | ((with_reducible apply gS 42);refine wLit1 rfl 189 188 _ rfl (some 42) rfl Tryz.underlying189 2 zFT zMX (.agg (pkV ((z:Int),.slice (some ⟨g5,0,none⟩) 1 1))) rfl rfl (by omega) (by omega) ?_;intro w6 g6 hb6 hx6 hg6;have hx56:=hx5.trans hx6;have hQ6:=hQ.ext hx56;have hR6:=OwnP.lit (q:=((z,[(i:Int)]),.slice (some ⟨g5,0,none⟩) 1 1)) (B:=0) hb6 ((IntsAt.lit hb5).ext hx6) (wN2 _);have hsz6:=(hx.trans hx56).size)
     | ((with_reducible apply gS 43);refine wApf zLJ rfl _ _ rfl w.heap.size _ _ _ rfl hQ6.own _ 1 _ rfl hR6.sl (zEB hR6.all.ones) (by omega) (by omega) (by omega) ?_;intro C7 k7 w7 ho7 hg7 hr7))
    have hQ7:=hQ6.app hR6.all rfl ho7 hg7;have hp7:=(zO hg7).blk (hp.ext hx56) (hQ6.far (hp.ext hx56));have hx7:=(zO hg7).ext (hx.trans hx56) (fun x h=>(hQ6.own.lt x h).1);go_roundw
    case rel=>exact⟨i+1,m+1,k7,C7,Q++[((z,[(i:Int)]),.slice (some ⟨g5,0,none⟩) 1 1)],by omega,by go_num,rfl,hQ7,zA (by rw[wH4,HQM.out,HSU.out];rfl),by omega,by omega,hp7,hx7⟩
    case measure=>simp[intOf];omega
   ·rw[if_neg (by omega),wG6] at hss;have HSU:=zA hss;clear hss;go_wp2_with ((with_reducible apply gS 36);refine zB rfl (.bool false) (xU rfl rfl rfl (by simpa using hp0)) ?_)
    go_roundw
    case rel=>exact⟨i+1,m,k,C,Q,by omega,by go_num,rfl,hQ,zA (by rw[HQM.out,HSU.out]),by omega,by omega,hp,hx⟩
    case measure=>simp[intOf];omega
  ·obtain rfl:i=n:=by omega
   obtain⟨gs,rfl,hBs⟩:=hQ.addr h1m
   go_upto_region 14 with (first
    | ((with_reducible apply gS 31);refine zB rfl (.bool false) (zZ rfl rfl rfl (by simp)) ?_)
    | (go_at_call 147;(with_reducible refine (zMy hQ (by omega)).mono ?_);rintro e w5 ⟨rfl,S,hS,hSp,hSs,hu5⟩)
    | (go_at_call 149;(with_reducible refine (zRw hS (by omega) (by omega)).mono ?_);rintro e w6 ⟨gr,k6,rfl,hR,hx6⟩))
   have hp6:=(hu5.blk hp (fun e=>hQ.far hp (by rw[e];rfl))).ext hx6;have hxw6:=(hu5.ext hx (fun x h=>by omega)).trans hx6;have hS6:=hS.ext hx6
   --<rows>
   have HPL:Hid ((S.map (·.1)).Perm (BM.singN counts i)):=zA (by rw[←HQM.out];exact hSp.map _);have HSO:Hid (((S.map (·.1)).map (·.1)).Pairwise (· ≤ ·)):=zA (by rw[wM1];exact hSs);have HS1:Hid (∀ p∈S.map (·.1),p.2.length≤1∧p.1≤9999):=zA (fun p hp=>by have:=HSM.out i p (HPL.out.subset hp);omega);have HSL:Hid ((S.map (·.1)).length=m):=zA (by rw[wQ3,hS.len]);have hgs5:gs<w5.heap.size:=by obtain⟨tl,hD, -⟩:=hS.ds;exact Blk.lt hD
   have hgr5:gr≠gs:=by obtain⟨tl,hD,h1,h2,h3,h4⟩:=hR.ds;omega
   have HR0:Hid (BM.Reach (S.map (·.1)) 0 (S.map (·.1))):=zA .zero;clear hQ HQM hSp hSs hu5 hS hx hp hx6
   go_loopw [8,49] (fun rv fv wr=> ∃ (f m1 k1 g:Nat) (Q:List FPk),f≤15∧fv=.int .i64 (f:Int)∧rv=.slice (some ⟨g,0,none⟩) m1 k1∧OwnP wr w5.heap.size (some ⟨g,0,none⟩) m1 k1 Q∧OwnP wr w.heap.size (some ⟨gs,0,none⟩) m k S∧g≠gs∧Hid (BM.Reach (S.map (·.1)) f (Q.map (·.1)))∧Blk wr gp 42 (yL (List.replicate 16 0) (.slice none 0 0))∧Ext w wr) (fun _ f _=>15-(intOf f).toNat)
   case atStart=>exact⟨0,m,k6,gr,S,by omega,rfl,rfl,hR,hS6,hgr5,HR0,hp6,hxw6⟩
   case round =>
    clear hR hS6 hgr5 HR0 hp6 hxw6;obtain⟨f,m1,k1,g,Q,hf,rfl,rfl,hQ,hS,hne,HRC,hp,hx⟩:=hrel;obtain⟨W0,hW0⟩: ∃ W0:World,W0=wr:=⟨_,rfl⟩
    subst hW0
    have hm1:m≤m1∧m1≤2*m:=by
     have h1:=HRC.out.len;have h2:=BM.lenF_bd (S.map (·.1)).length f;rw[wQ3,hQ.len] at h1;rw[HSL.out] at h1 h2;omega
    have hgwr:gs<W0.heap.size:=by obtain⟨tl,hD, -⟩:=hS.ds;exact Blk.lt hD
    have hgwq:g<W0.heap.size∧w5.heap.size≤g:=by obtain⟨tl,hD,h1,h2,h3,h4⟩:=hQ.ds;exact⟨Blk.lt hD,h4⟩
    have hgpr:=hp.lt
    by_cases hlf:f<15
    ·have HBD:Hid (∀ q∈Q,q.1.2.length≤16384∧q.1.1≤9999*16384):=zA (fun q hq=>by
      have h1:=HRC.out.bound HS1.out q.1 (wR0 hq);have h2:2 ^ f≤2 ^ 14:=wI4 (by omega) (by omega)
      omega)
     have hN0:=OwnP.nil W0 W0.heap.size;go_upto_region 17 with ((with_reducible apply gS 50);refine zB rfl (.bool true) (zZ rfl rfl rfl (by simpa using hlf)) ?_)
     go_loopw [9,10] (fun nv iv w2=> ∃ (i j kN:Nat) (CN:Option Addr) (N:List FPk),2*j=i∧i≤m1∧iv=.int .i64 (i:Int)∧nv=.slice CN j kN∧OwnP w2 W0.heap.size CN j kN N∧Hid (N.map (·.1)=(BM.pairP (Q.map (·.1))).take j)∧OwnP w2 w5.heap.size (some ⟨g,0,none⟩) m1 k1 Q∧OwnP w2 w.heap.size (some ⟨gs,0,none⟩) m k S∧Blk w2 gp 42 (yL (List.replicate 16 0) (.slice none 0 0))∧Ext W0 w2) (fun _ i _=>m1-(intOf i).toNat)
     case atStart=>exact⟨0,0,0,none,[],rfl,by omega,rfl,rfl,hN0,zA rfl,hQ,hS,hp,Ext.refl _⟩
     case round =>
     clear hN0 hQ hS hp;obtain⟨i,j,kN,CN,N,hji,him,rfl,rfl,hN,HNM,hQ,hS,hp,hx2⟩:=hrel;obtain⟨i1,hi1⟩: ∃ i1,i+1=i1:=⟨_,rfl⟩
     have hsz2:=hx2.size
     by_cases hl3:i1<m1
     ·have hQl:Q.length=m1:=hQ.len;obtain⟨tl,hDQ, -⟩:=hQ.ds;have d1:=DS.cells hDQ i (by rw[wQ3];omega);have d2:=DS.cells hDQ i1 (by rw[wQ3];omega);rw[wI1] at d1 d2;have hm_1:Q[i]'(by omega)∈Q:=wE2 _;have hm_2:Q[i1]'(by omega)∈Q:=wE2 _;have hbd1:=HBD.out _ hm_1;have hbd2:=HBD.out _ hm_2;have hq1:=hQ.all _ hm_1;have hq2:=hQ.all _ hm_2
      have HTK:Hid ((BM.pairP (Q.map (·.1))).take (j+1)=(BM.pairP (Q.map (·.1))).take j++[((Q[i]'(by omega)).1.1+(Q[i1]'(by omega)).1.1,(Q[i]'(by omega)).1.2++(Q[i1]'(by omega)).1.2)]):=zA (by
       subst hji;subst hi1;have:=BM.pairP_take (L:=Q.map (·.1)) (j:=j) (by rw[wQ3];omega);rw[this]
       simp)
      generalize Q[i]'(by omega)=q1 at *;generalize Q[i1]'(by omega)=q2 at *;obtain⟨⟨x1,y1⟩,v1⟩:=q1;obtain⟨⟨x2,y2⟩,v2⟩:=q2;dsimp only at hq1 hq2;have hq1':=hq1.1;have hq2':=hq2.1;obtain⟨A1,c1,rfl, -⟩:=hq1';obtain⟨A2,c2,rfl, -⟩:=hq2';obtain⟨a1,hl1⟩: ∃ a,y1.length=a:=⟨_,rfl⟩
      obtain⟨a2,hl2⟩: ∃ a,y2.length=a:=⟨_,rfl⟩
      dsimp only at hbd1 hbd2 HTK d1 d2;unfold zBc at d1 d2;dsimp only at d1 d2;rw[hl1] at hbd1 hq1 d1;rw[hl2] at hbd2 hq2 d2;have HKI:Hid (∀ (W W':World),Ext W W'→(W.cell? ⟨g,i*2,none⟩=some (.int .i64 (x1:Int))∧W.cell? ⟨g,i1*2,none⟩=some (.int .i64 (x2:Int))∧W.cell? ⟨g,i*2+1,none⟩=some (.slice A1 a1 c1)∧W.cell? ⟨g,i1*2+1,none⟩=some (.slice A2 a2 c2))→(W'.cell? ⟨g,i*2,none⟩=some (.int .i64 (x1:Int))∧W'.cell? ⟨g,i1*2,none⟩=some (.int .i64 (x2:Int))∧W'.cell? ⟨g,i*2+1,none⟩=some (.slice A1 a1 c1)∧W'.cell? ⟨g,i1*2+1,none⟩=some (.slice A2 a2 c2))):=zA (fun W W' h k=>⟨zEf h k.1,zEf h k.2.1,zEf h k.2.2.1,zEf h k.2.2.2⟩);have hI:wr.drew.cell? ⟨g,i*2,none⟩=some (.int .i64 (x1:Int))∧wr.drew.cell? ⟨g,i1*2,none⟩=some (.int .i64 (x2:Int))∧wr.drew.cell? ⟨g,i*2+1,none⟩=some (.slice A1 a1 c1)∧wr.drew.cell? ⟨g,i1*2+1,none⟩=some (.slice A2 a2 c2):=⟨d1.1,d2.1,d1.2,d2.2⟩
      have hq1D:=hq1.ext (Ext.refl wr).drew;have hq2D:=hq2.ext (Ext.refl wr).drew;clear hm_1 hm_2 d1 d2 hDQ
      go_upto_region 19 with (first
       | ((with_reducible apply gS 52);refine zB rfl (.int .i64 (i1:Int)) (by rw[←hi1];exact yH (i:=i) (d:=1) rfl rfl rfl (by omega)) ?_)
       | ((with_reducible apply gS 55);refine zB rfl (.bool true) (zZ rfl rfl rfl (by simpa using hl3)) ?_))
      refine jB (fun k=>k ==5 ||k ==11 ||k ==17 ||k ==23 ||k ==24 ||k ==25) (fun W=>W.cell? ⟨g,i*2,none⟩=some (.int .i64 (x1:Int))∧W.cell? ⟨g,i1*2,none⟩=some (.int .i64 (x2:Int))∧W.cell? ⟨g,i*2+1,none⟩=some (.slice A1 a1 c1)∧W.cell? ⟨g,i1*2+1,none⟩=some (.slice A2 a2 c2)) (by kernel_rfl) ?_;refine zG (k:=0) (by kernel_rfl) rfl (by rfl) (.slice CN j kN) (zC rfl rfl) ?_;simp only[sP,sB,sC];refine zG (k:=1) (by kernel_rfl) rfl (by rfl) (.slice (some ⟨g,0,none⟩) m1 k1) (zC rfl rfl) ?_;simp only[sP,sB,sC];refine zG (k:=2) (by kernel_rfl) rfl (by rfl) (.int .i64 (i:Int)) (zC rfl rfl) ?_;simp only[sP,sB,sC];refine zG (k:=3) (by kernel_rfl) rfl (by rfl) (.pointer (some ⟨g,i*2,none⟩)) (xJ rfl rfl rfl (by omega)) ?_;simp only[sP,sB,sC];refine zG (k:=4) (by kernel_rfl) rfl (by rfl) (.pointer (some ⟨g,i*2,none⟩)) (fun W=>by go_simp) ?_;simp only[sP,sB,sC];refine zG (k:=6) (by kernel_rfl) rfl (by rfl) (.slice (some ⟨g,0,none⟩) m1 k1) (zC rfl rfl) ?_;simp only[sP,sB,sC];refine zG (k:=7) (by kernel_rfl) rfl (by rfl) (.int .i64 (i:Int)) (zC rfl rfl) ?_;simp only[sP,sB,sC];refine zG (k:=8) (by kernel_rfl) rfl (by rfl) (.int .i64 (i1:Int)) (by rw[←hi1];exact yH (i:=i) (d:=1) rfl rfl rfl (by omega)) ?_;simp only[sP,sB,sC];refine zG (k:=9) (by kernel_rfl) rfl (by rfl) (.pointer (some ⟨g,i1*2,none⟩)) (xJ rfl rfl rfl (by omega)) ?_;simp only[sP,sB,sC];refine zG (k:=10) (by kernel_rfl) rfl (by rfl) (.pointer (some ⟨g,i1*2,none⟩)) (fun W=>by go_simp) ?_;simp only[sP,sB,sC];refine zG (k:=13) (by kernel_rfl) rfl (by rfl) (.slice (some ⟨g,0,none⟩) m1 k1) (zC rfl rfl) ?_;simp only[sP,sB,sC];refine zG (k:=14) (by kernel_rfl) rfl (by rfl) (.int .i64 (i:Int)) (zC rfl rfl) ?_;simp only[sP,sB,sC];refine zG (k:=15) (by kernel_rfl) rfl (by rfl) (.pointer (some ⟨g,i*2,none⟩)) (xJ rfl rfl rfl (by omega)) ?_;simp only[sP,sB,sC];refine zG (k:=16) (by kernel_rfl) rfl (by rfl) (.pointer (some ⟨g,i*2+1,none⟩)) (fun W=>by go_simp) ?_;simp only[sP,sB,sC];refine zG (k:=18) (by kernel_rfl) rfl (by rfl) (.slice (some ⟨g,0,none⟩) m1 k1) (zC rfl rfl) ?_;simp only[sP,sB,sC];refine zG (k:=19) (by kernel_rfl) rfl (by rfl) (.int .i64 (i:Int)) (zC rfl rfl) ?_;simp only[sP,sB,sC];refine zG (k:=20) (by kernel_rfl) rfl (by rfl) (.int .i64 (i1:Int)) (by rw[←hi1];exact yH (i:=i) (d:=1) rfl rfl rfl (by omega)) ?_;simp only[sP,sB,sC];refine zG (k:=21) (by kernel_rfl) rfl (by rfl) (.pointer (some ⟨g,i1*2,none⟩)) (xJ rfl rfl rfl (by omega)) ?_;simp only[sP,sB,sC];refine zG (k:=22) (by kernel_rfl) rfl (by rfl) (.pointer (some ⟨g,i1*2+1,none⟩)) (fun W=>by go_simp) ?_;simp only[sP,sB,sC];refine jR (k:=5) (by kernel_rfl) rfl (by rfl) (.int .i64 (x1:Int)) (fun W hW=>zV rfl rfl hW.1) hI ?_;simp only[Act.put,sA,sB,sC];refine jR (k:=11) (by kernel_rfl) rfl (by rfl) (.int .i64 (x2:Int)) (fun W hW=>zV rfl rfl hW.2.1) hI ?_;simp only[Act.put,sA,sB,sC];refine zG (k:=12) (by kernel_rfl) rfl (by rfl) (.int .i64 ((x1+x2:Nat):Int)) (yH rfl rfl rfl (by omega)) ?_;simp only[sP,sB,sC];refine jR (k:=17) (by kernel_rfl) rfl (by rfl) (.slice A1 a1 c1) (fun W hW=>vU rfl rfl hW.2.2.1) hI ?_;simp only[Act.put,sA,sB,sC];refine jR (k:=23) (by kernel_rfl) rfl (by rfl) (.slice A2 a2 c2) (fun W hW=>vU rfl rfl hW.2.2.2) hI ?_;simp only[Act.put,sA,sB,sC];refine xR (k:=24) (by kernel_rfl) rfl ?_;refine zPI rfl _ _ rfl (some 82) rfl A1 A2 a1 c1 a2 c2 rfl rfl ?_;intro w9 g9 hb9 hx9 hg9;have hq19:=hq1D.ext hx9;have hq29:=hq2D.ext hx9;refine zX ⟨fun _=>HKI.out _ _ hx9 hI, ?_⟩;simp only[Act.put,sA,sB,sC];refine xR (k:=25) (by kernel_rfl) rfl ?_;refine xP (by rfl) (xQ _ _ _ rfl rfl zSR #[.slice (some ⟨g9,0,none⟩) 2 2] (by simp[Act.eval])) ?_;refine (zSG y1 y2 A1 A2 a1 a2 c1 c2 g9 w9 hl1 hl2 (by omega) (by omega) (IntsAt.sl hq19 hl1) (IntsAt.sl hq29 hl2) hb9).mono ?_;rintro e w10 ⟨C10,k10,rfl,ho10,hx10⟩;refine⟨_,rfl,zX ⟨fun _=>HKI.out _ _ hx10 (HKI.out _ _ hx9 hI), ?_⟩⟩;simp only[Act.put,sA,sB,sC];refine zG (k:=26) (by kernel_rfl) rfl (by rfl) (.agg (pkV (((x1+x2:Nat):Int),.slice C10 (a1+a2) k10))) (zHJ rfl rfl rfl) ?_;simp only[sP,sB,sC];refine xR (k:=27) (by kernel_rfl) rfl ?_;refine wLit1 rfl 189 188 _ rfl (some 85) rfl Tryz.underlying189 2 zFT zMX (.agg (pkV (((x1+x2:Nat):Int),.slice C10 (a1+a2) k10))) rfl rfl (by omega) (by omega) ?_;intro w11 g11 hb11 hx11 hg11;have hxD:=((Ext.refl wr).drew.trans (hx9.trans hx10)).trans hx11;have hN11:=hN.ext hxD;have hR11:=OwnP.lit (q:=((x1+x2,y1++y2),.slice C10 (a1+a2) k10)) (B:=0) hb11 ((IntsAt.own ho10 (by rw[wF3,hl1,hl2])).ext hx11) (wN2 _);have hsz11:=hxD.size;refine zX ⟨fun h=>(by cases h), ?_⟩;simp only[Act.put,sA,sB,sC];refine xR (k:=28) (by kernel_rfl) rfl ?_;refine wApf zLJ rfl _ _ rfl W0.heap.size _ _ _ rfl hN11.own _ 1 _ rfl hR11.sl (zEB hR11.all.ones) (by omega) (by omega) (by omega) ?_;intro C12 k12 w12 ho12 hg12 hr12;refine zX ⟨fun h=>(by cases h), ?_⟩;simp only[Act.put,sA,sB,sC];refine zG (k:=29) (by kernel_rfl) rfl (by rfl) (.slice C12 (j+1) k12) (zW rfl rfl) ?_;simp only[sP,sB,sC];refine vP (by kernel_rfl) ?_;have hN12:=hN11.app hR11.all rfl ho12 hg12;have hu12:=zO hg12;have hty: ∀ b cs,(Value.slice CN j kN).ownBlock=some b→ ¬Blk w11 b 3 cs:=fun b cs hb=>by obtain⟨ds,h⟩:=hN11.typed b hb;exact zGb h
      have hge: ∀ b,(Value.slice CN j kN).ownBlock=some b→W0.heap.size≤b:=fun b hb=>(hN11.own.lt b hb).1
      have hQ12:=(hQ.ext hxD).upd hu12 hty (fun ad e h=>by injection e with e;have:=hge _ h;rw[←e] at this;dsimp only at this;omega);have hS12:=(hS.ext hxD).upd hu12 hty (fun ad e h=>by injection e with e;have:=hge _ h;rw[←e] at this;dsimp only at this;omega);have hp12:=hu12.blk (hp.ext hxD) (hN11.far (hp.ext hxD));have hx12:=hu12.ext (hx2.trans hxD) hge;go_wp2_with ((with_reducible apply gS 57);refine zB rfl (.int .i64 ((i+2:Nat):Int)) (yH (i:=i) (d:=2) rfl rfl rfl (by omega)) ?_)
      go_roundw
      case rel=>exact⟨i+2,j+1,k12,C12,N++[((x1+x2,y1++y2),.slice C10 (a1+a2) k10)],by omega,by omega,by go_num,rfl,hN12,zA (by rw[wH4,HNM.out,HTK.out];rfl),hQ12,hS12,hp12,hx12⟩
      case measure=>simp[intOf];omega
     ·have HNA:Hid (N.map (·.1)=BM.pairP (Q.map (·.1))):=zA (by
       rw[HNM.out];refine wC4 ?_;rw[BM.pairP_len,wQ3,hQ.len]
       omega)
      have hge: ∀ b,(Value.slice CN j kN).ownBlock=some b→W0.heap.size≤b:=fun b hb=>(hN.own.lt b hb).1
      go_wp2_with (first
       | ((with_reducible apply gS 52);refine zB rfl (.int .i64 (i1:Int)) (by rw[←hi1];exact yH (i:=i) (d:=1) rfl rfl rfl (by omega)) ?_)
       | ((with_reducible apply gS 55);refine zB rfl (.bool false) (zZ rfl rfl rfl (by simpa using hl3)) ?_)
       | ((with_reducible apply gS 89);refine wApf zLJ rfl _ _ rfl W0.heap.size _ _ _ rfl hN.own _ m _ rfl hS.sl (zEB hS.all.ones) (by omega) (by omega) (by omega) ?_;intro C5 k5 w7 ho5 hg5 hr5;have hN3:=hN.app hS.all hS.len ho5 hg5;obtain⟨g3,rfl,hB3⟩:=hN3.addr (by omega))
       | (go_at_call 147;(with_reducible refine (zMy hN3 (by omega)).mono ?_);rintro e w8 ⟨rfl,Q3,hQ3,hp3,hs3,hu3⟩)
       | ((with_reducible apply gS 92);refine zB rfl (.int .i64 ((f+1:Nat):Int)) (yH (i:=f) (d:=1) rfl rfl rfl (by omega)) ?_))
      have hu5:=zO hg5;have hty: ∀ b cs,(Value.slice CN j kN).ownBlock=some b→ ¬Blk wr b 3 cs:=fun b cs hb=>by obtain⟨ds,h⟩:=hN.typed b hb;exact zGb h
      have hS5:=hS.upd hu5 hty (fun ad e h=>by injection e with e;have:=hge _ h;rw[←e] at this;dsimp only at this;omega);obtain⟨tl3,hD3, -⟩:=hN3.ds;have hS8:=hS5.upd hu3 (fun b cs hb=>by subst hb;exact zGb hD3) (fun ad e h=>by injection e with e;rw[←e] at h;dsimp only at h;omega);have hp5:=hu5.blk hp (hN.far hp);have hp8:=hu3.blk hp5 (fun e=>hN3.far hp5 (by rw[e];rfl));have hx8:=hu3.ext (hu5.ext (hx.trans hx2) (fun x h=>by have:=hge x h;have:=hx.size;omega)) (fun x h=>by have:=hx.size;omega);have HRN:Hid (BM.Reach (S.map (·.1)) (f+1) (Q3.map (·.1))):=zA (.step HRC.out (by rw[←HNA.out, ←wH4];exact hp3.map _) (by rw[wM1];exact hs3));have hQ8:OwnP w8 w5.heap.size (some ⟨g3,0,none⟩) (j+m) k5 Q3:=hQ3.base (by omega);go_roundw
      case rel=>exact⟨f+1,j+m,k5,g3,Q3,by omega,by go_num,rfl,hQ8,hS8,by omega,HRN,hp8,hx8⟩
      case measure=>simp[intOf];omega
    ·obtain rfl:f=15:=by omega
     have HLEN:Hid (2*m-2≤m1):=zA (by
      have h1:=HRC.out.len;rw[wQ3,hQ.len,HSL.out] at h1;rw[h1]
      exact BM.lenF_15 m (by omega))
     have hlen:=HLEN.out
     have HBD:Hid (∀ p∈Q.map (·.1),p.2.length≤32768∧p.1≤9999*32768):=zA (fun p hp=>by
      have h1:=HRC.out.bound HS1.out p hp
      exact h1)
     have HSY:Hid (∀ p∈Q.map (·.1), ∀ s∈p.2, -1≤s∧s<256):=zA (HRC.out.syms (R:=fun s=> -1≤s∧s<256) (fun p hp s hs=>by have:=BM.singN_syms counts i p (HPL.out.subset hp) s hs;omega));obtain⟨h2,hh2⟩: ∃ h2,2*m-2=h2:=⟨_,rfl⟩
     rw[hh2] at hlen;have HMK:Hid (∀ cs xs,cs=BM.csN (fun s=>(BM.cont ((Q.map (·.1)).take h2)).count s) i 16 0→xs=BM.xsN (fun s=>(BM.cont ((Q.map (·.1)).take h2)).count s) i 16 0→BM.Made counts cs xs):=zA (fun cs xs e1 e2=>⟨S.map (·.1),Q.map (·.1),by rw[HN.out];exact HPL.out,HSO.out,HRC.out,by rw[HSL.out,hh2,HN.out];exact e1,by rw[HSL.out,hh2,HN.out];exact e2⟩);have HQL:Hid ((Q.map (·.1)).length=m1):=zA (by rw[wQ3,hQ.len]);have hk1:m1≤k1:=by obtain⟨tl, -,h1,h2,h3,h4⟩:=hQ.ds;exact h2
     clear HRC HSO HPL HS1 hS;have hmm:= @run_makeMap Tryz.prog
     go_upto_region 25 with (first
      | ((with_reducible apply gS 50);refine zB rfl (.bool false) (zZ rfl rfl rfl (by simp)) ?_)
      | ((with_reducible apply gS 97);refine zB rfl (.int .i64 ((2*m:Nat):Int)) (zCI rfl rfl rfl (by omega)) ?_)
      | ((with_reducible apply gS 98);refine zB rfl (.int .i64 (h2:Int)) (by rw[←hh2];exact xH rfl rfl rfl (by omega) (by omega)) ?_)
      | ((with_reducible apply gS 99);refine zB rfl (.slice (some ⟨g,0,none⟩) h2 k1) (ex_headP rfl rfl rfl hlen hk1) ?_))
     have hm0:zEV Tryz.prog 3 (W0.alloc (.map #[] 0)) W0.heap.size 0 (zCf (BM.cont ((Q.map (·.1)).take 0))):=by
      rw[wL2,show BM.cont []=[] from rfl,cntF_nil];exact MapG.made W0
     have hx5:=(Ext.refl W0).alloc (.map #[] 0);have hQ5:=hQ.ext hx5;have hp5:=hp.ext hx5;have hxw:=hx.trans hx5;have hgM:=hgwq.1;have hsM:W0.heap.size<(W0.alloc (.map #[] 0)).heap.size:=by rw[World.size_alloc];omega
     have hxW:=hx.size;generalize hWM:W0.heap.size=M at *;generalize W0.alloc (.map #[] 0)=W5 at *;clear hmm hQ hx5 hp hx hlf hWM
     go_loopw [101] (fun jv wr=> ∃ (j q:Nat),j≤h2∧jv=.int .i64 (j:Int)∧zEV Tryz.prog 3 wr M q (zCf (BM.cont ((Q.map (·.1)).take j)))∧q≤j*32768∧Upd (fun b=>b=M) W5 wr) (fun j _=>h2-(intOf j).toNat)
     case atStart=>exact⟨0,0,by omega,rfl,hm0,by omega,Upd.refl _ _⟩
     case round =>
     have hmap5: ∀ cs, ¬Blk W5 M 3 cs:=fun cs=>hm0.not_cells
     clear hm0;obtain⟨j,q,hj,rfl,hm,hqb,hu⟩:=hrel;have hQr:=hQ5.upd hu (fun b cs hb=>by subst hb;exact hmap5 cs) (fun ad e h=>by injection e with e;rw[←e] at h;dsimp only at h;omega)
     by_cases hlj:j<h2
     ·have hQl:Q.length=m1:=hQr.len;obtain⟨tl,hDQ, -⟩:=hQr.ds;have hmem:Q[j]'(by omega)∈Q:=wE2 _;have hbd:=HBD.out _ (wR0 (f:=(·.1)) hmem);have HSYq:=zA (HSY.out _ (wR0 (f:=(·.1)) hmem));have hq1:=hQr.all _ hmem
      have HTK:Hid (BM.cont ((Q.map (·.1)).take (j+1))=BM.cont ((Q.map (·.1)).take j)++(Q[j]'(by omega)).1.2):=zA (by
       have:=BM.cont_take_succ (Q.map (·.1)) j (by rw[wQ3];omega);rw[this]
       simp)
      have HCB:Hid ((BM.cont ((Q.map (·.1)).take j)).length≤j*32768):=zA (by
       have h1:=BM.cont_len (L:=(Q.map (·.1)).take j) (b:=32768) (fun p hp=>(HBD.out p (wH0 hp)).1);have h2:((Q.map (·.1)).take j).length≤j:=by rw[wI8];exact Nat.min_le_left _ _
       exact le_mul32 h1 h2)
      have HLD:Hid ((Q.map zBc)[j]'(by rw[wQ3];omega)=zBc (Q[j]'(by omega))):=zA (by rw[wI1])
      have HLP:Hid (∀ (o:Oper) (ac:Act),o.op=.load 188 (.tmp 103)→ac.eval (.tmp 103)=.pointer (some ⟨g,j*2,none⟩)→(execOp ac.eval o).run Tryz.prog wr=.ok (.value (.agg (pkV (zBc (Q[j]'(by omega)))))) wr):=zA (fun o ac ho hx=>by
       have h:=qA ho hDQ (i:=j) (by rw[wQ3];omega) hx
       rwa [HLD.out] at h)
      generalize Q[j]'(by omega)=q1 at *;obtain⟨⟨x1,y1⟩,v1⟩:=q1;dsimp only at hq1;have hq1':=hq1.1;obtain⟨A1,c1,rfl, -⟩:=hq1';obtain⟨a1,hl1⟩: ∃ a,y1.length=a:=⟨_,rfl⟩
      have HL1:=zA hl1;dsimp only at hbd HTK HSYq HLP HLD;unfold zBc at HLP;dsimp only at HLP;rw[hl1] at hbd hq1 HLP;have hs1:=hq1.sl hl1;clear hmem hDQ HLD hl1;have hj2:j*32768≤16777216:=by omega
      go_upto_region 28 with (first
       | ((with_reducible apply gS 102);refine zB rfl (.bool true) (zZ rfl rfl rfl (by simpa using hlj)) ?_)
       | ((with_reducible apply gS 103);refine zB rfl (.pointer (some ⟨g,j*2,none⟩)) (xJ rfl rfl rfl hlj) ?_)
       | ((with_reducible apply gS 104);refine xC rfl (.agg (pkV ((x1:Int),.slice A1 a1 c1))) (HLP.out _ _ rfl rfl) ?_)
       | ((with_reducible apply gS 13);refine wAlo' rfl (some 13) rfl 188 rfl _ zeroPkV ?_;intro w7 g7 hb7 hx7 hg7)
       | ((with_reducible apply gT 13 104);refine wStB rfl 188 (.tmp 13) (.tmp 104) rfl g7 (pkV ((x1:Int),.slice A1 a1 c1)) rfl rfl hb7 2 zFT rfl rfl (pk_one _ _ _ _) ?_;intro w8 hb8 hg8;have hx8:=hx7.grown hg8 hg7;have hc8:w8.cell? ⟨g7,1,none⟩=some (.slice A1 a1 c1):=hb8.cell 1)
       | ((with_reducible apply gS 106);refine xC rfl (.slice A1 a1 c1) (vU rfl rfl hc8) ?_))
      have hm8:=hm.ext hx8;have hs8:=hs1.ext hx8;have hu8:=hu.trans (Upd.of_ext (S:=fun b=>b=M) hx8) (fun x h=>.inl h);have hM8:M<w8.heap.size:=hm8.lt;have hm80:zEV Tryz.prog 3 w8 M q (zCf (BM.cont ((Q.map (·.1)).take j)++y1.take 0)):=by rw[wL2,wG6];exact hm8
      have hA1M: ∀ ad,A1=some ad→ ¬(ad.block=M):=fun ad e h=>by
       subst e;obtain⟨cs,hb⟩:=hq1.2 ad.block rfl;exact hm.not_cells (by rw[←h];exact hb)
      clear hx7 hx8 hb7 hb8 hg8 hg7 hm hm8 hu hs1 hq1 hQr hc8
      go_loopw [108] (fun iv wr=> ∃ (e p:Nat),e≤a1∧iv=.int .i64 (e:Int)∧zEV Tryz.prog 3 wr M p (zCf (BM.cont ((Q.map (·.1)).take j)++y1.take e))∧p≤q+e∧Upd (fun b=>b=M) w8 wr) (fun e _=>a1-(intOf e).toNat)
      case atStart=>exact⟨0,q,by omega,rfl,hm80,by omega,Upd.refl _ _⟩
      case round =>
      clear hm80;obtain⟨e,p,he,rfl,hm,hpb,hu⟩:=hrel
      by_cases hle:e<a1
      ·obtain⟨ad,u,rfl,hab,hxk,hcell⟩:=(hs8.upd hu hA1M).at1 hle;obtain⟨hkl,rfl⟩:=zBn _ _ _ hxk;have hsy:=HSYq.out _ (wE2 hkl);have HTE:Hid (y1.take (e+1)=y1.take e++[y1[e]]):=zA (wC3 hkl);generalize y1[e]=s1 at *;have HSA:=zA (cntF_same (BM.cont ((Q.map (·.1)).take j)++y1.take e) s1);have HOT:=zA (fun t=>zST (BM.cont ((Q.map (·.1)).take j)++y1.take e) s1 t);have hlook:=zNk (BM.cont ((Q.map (·.1)).take j)++y1.take e) s1
       have hcb:(BM.cont ((Q.map (·.1)).take j)++y1.take e).count s1≤100000000:=by
        have h1:=List.count_le_length (a:=s1) (l:=BM.cont ((Q.map (·.1)).take j)++y1.take e);rw[wF3,wI8] at h1;have h3:=HCB.out;omega
       have HAA:Hid (BM.cont ((Q.map (·.1)).take j)++y1.take (e+1)=(BM.cont ((Q.map (·.1)).take j)++y1.take e)++[s1]):=zA (by rw[HTE.out,wG2]);generalize BM.cont ((Q.map (·.1)).take j)++y1.take e=CC at *;generalize CC.count s1=ct at *;have hkey:=zA (zBo (P:=Tryz.prog) Tryz.underlying3 (a:=s1) (by omega) (by omega));have HLK:=zA hlook;clear hxk hlook
       go_wp2_with (first
        | ((with_reducible apply gS 109);refine zB rfl (.bool true) (zZ rfl rfl rfl (by simpa using hle)) ?_)
        | ((with_reducible apply gS 114);refine zAh (by rfl) _ _ 92 3 rfl zBJ Tryz.underlying92 (.int .i64 0) (zDt _) rfl hm _ rfl s1 trivial hkey.out _ HLK.out ?_)
        | ((with_reducible apply gS 115);refine zB rfl (.int .i64 ((ct+1:Nat):Int)) (yH (i:=ct) (d:=1) rfl rfl rfl (by omega)) ?_)
        | (at_mapUpdate;refine zBk (by rfl) _ _ _ 92 3 rfl zBJ Tryz.underlying92 rfl hm (by omega) _ rfl _ rfl s1 hkey.out (zCf (CC++[s1])) HSA.out (fun t _ ht=>HOT.out t (fun e=>ht (by rw[e]))) (fun t _ ht=>by injection ht) ?_;intro w9 hm9 hg9))
       go_roundw
       case rel=>exact⟨e+1,p+1,by omega,by go_num,by rw[HAA.out];exact hm9,by omega,hu.grown hg9 (fun b hb=>.inl (by injection hb with hb;exact hb.symm))⟩
       case measure=>simp[intOf];omega
      ·obtain rfl:e=a1:=by omega
       have HTA:Hid (BM.cont ((Q.map (·.1)).take j)++y1.take e=BM.cont ((Q.map (·.1)).take (j+1))):=zA (by rw[HTK.out];congr 1;exact wC4 (by rw[HL1.out];exact wA5 _));rw[HTA.out] at hm
       go_wp2_with (first
        | ((with_reducible apply gS 109);refine zB rfl (.bool false) (zZ rfl rfl rfl (by simp)) ?_)
        | ((with_reducible apply gS 117);refine zB rfl (.int .i64 ((j+1:Nat):Int)) (yH (i:=j) (d:=1) rfl rfl rfl (by omega)) ?_))
       go_roundw
       case rel=>exact⟨j+1,p,by omega,by go_num,hm,by omega,hu8.trans hu (fun x h=>.inl h)⟩
       case measure=>simp[intOf];omega
     ·obtain rfl:j=h2:=by omega
      obtain⟨CC,hCC⟩: ∃ CC,BM.cont ((Q.map (·.1)).take j)=CC:=⟨_,rfl⟩
      rw[hCC] at hm HMK;obtain⟨cf,hcf⟩: ∃ cf:Int→Nat,(fun s=>CC.count s)=cf:=⟨_,rfl⟩
      rw[hcf] at HMK;have HLK:Hid (∀ s,(zCf CC s).getD (.int .i64 0)=.int .i64 ((cf s:Nat):Int)):=zA (fun s=>by rw[zNk, ←hcf]);generalize zCf CC=FF at *;have hpr:=hu.blk hp5 (by omega);have hxr:=hu.ext hxw (fun x h=>by omega);have hvr:=hv.ext hxr;have hMr:=hm.lt;clear hCC hcf HBD HSY hQr hu hp5 hxw hQ5 HQL HLEN;have HX0:Hid ((BM.xsN cf i 0 0).length=0):=zA (by have:=BM.xsN_len cf i 0 0;omega);have HC0:Hid (BM.csN cf i 0 0=List.replicate 16 0):=zA (BM.csN_zero cf i)
      go_upto_region 35 with (first
       | ((with_reducible apply gS 102);refine zB rfl (.bool false) (zZ rfl rfl rfl (by simp)) ?_)
       | ((with_reducible apply gS 16);refine wAlo' rfl (some 16) rfl 42 rfl _ zKa ?_;intro w6 gt ht6 hx6 hgt))
      have hm6:=hm.ext hx6;have hp6:=hpr.ext hx6;have hxw6:=hxr.trans hx6;have hgpt:gp≠gt:=by have:=hpr.lt;omega
      have hMgt:M≠gt:=by omega
      have ho6:w6.ownsRow w.heap.size 3 1 (.slice none 0 0) 0 (ints (BM.xsN cf i 0 0)):=by
       rw[wC6 HX0.out];exact zAt _ _ _ _
      have ht60:Blk w6 gt 42 (yL (BM.csN cf i 0 0) (.slice none 0 0)):=by rw[HC0.out];exact ht6
      clear ht6 hm hpr hxr hx6 hvr
      go_loopw [118] (fun kv wr=> ∃ (k x d:Nat) (B:Option Addr),k≤16∧kv=.int .i64 (k:Int)∧Blk wr gt 42 (yL (BM.csN cf i k 0) (.slice B x d))∧Hid ((BM.xsN cf i k 0).length=x)∧wr.ownsRow w.heap.size 3 1 (.slice B x d) x (ints (BM.xsN cf i k 0))∧zEV Tryz.prog 3 wr M q FF∧Blk wr gp 42 (yL (List.replicate 16 0) (.slice none 0 0))∧Ext w wr) (fun k _=>16-(intOf k).toNat)
      case atStart=>exact⟨0,0,0,none,by omega,rfl,ht60,HX0,ho6,hm6,hp6,hxw6⟩
      case round =>
      clear ht60 HX0 ho6 hm6 hp6 hxw6 HC0;obtain⟨k,x,d,B,hk,rfl,ht,HX,hown,hm,hp,hx⟩:=hrel
      by_cases hlk:k<16
      ·go_upto_region 38 with ((with_reducible apply gS 119);refine zB rfl (.bool true) (zZ rfl rfl rfl (by simpa using hlk)) ?_)
       try rw[show decide ((k:Int)<16)=true by simp;omega]
       go_loopw [123] (fun sv wr=> ∃ (s x d:Nat) (B:Option Addr),s≤i∧sv=.int .i64 (s:Int)∧Blk wr gt 42 (yL (BM.csN cf i k s) (.slice B x d))∧Hid ((BM.xsN cf i k s).length=x)∧wr.ownsRow w.heap.size 3 1 (.slice B x d) x (ints (BM.xsN cf i k s))∧zEV Tryz.prog 3 wr M q FF∧Blk wr gp 42 (yL (List.replicate 16 0) (.slice none 0 0))∧Ext w wr) (fun s _=>i-(intOf s).toNat)
       case atStart=>exact⟨0,x,d,B,by omega,rfl,ht,HX,hown,hm,hp,hx⟩
       case round =>
       clear ht HX hown hm hp hx;obtain⟨s,x,d,B,hs,rfl,ht,HX,hown,hm,hp,hx⟩:=hrel;obtain⟨k1,hkk⟩: ∃ k1,k+1=k1:=⟨_,rfl⟩
       by_cases hls:s<i
       ·have hkey:=zA (zBo (P:=Tryz.prog) Tryz.underlying3 (a:=(s:Int)) (by omega) (by omega));have hlook:=HLK.out (s:Int)
        have hxb:x≤5000:=by
         have h1:=BM.xsN_len cf i k s;have h2:k*i≤16*i:=wJ0 i (by omega);rw[HX.out] at h1;omega
        by_cases he:cf (s:Int)=k+1
        ·have HE:=zA he;have HCS:=zA (BM.csN_set cf i k s he);have HXS:=zA (BM.xsN_snoc cf i k s he);have HCL:=zA (BM.csN_len cf i k s)
         have hck:wr.cell? ⟨gt,k,none⟩=some (.int .i64 (((BM.filt cf k s).length:Nat):Int)):=by
          rw[ht.cell,tblM_get _ _ k (by rw[BM.csN_len];exact hlk),BM.csN_at cf i k s hlk]
         have hfl:=BM.filt_len cf k s;rw[he,hkk] at hlook;generalize (BM.filt cf k s).length=fl at *
         go_wp2_with (first
          | ((with_reducible apply gS 124);refine zB rfl (.bool true) (zZ rfl rfl rfl (by simpa using hls)) ?_)
          | ((with_reducible apply gS 128);refine zAh (by rfl) _ _ 92 3 rfl zBJ Tryz.underlying92 (.int .i64 0) (zDt _) rfl hm _ rfl (s:Int) trivial hkey.out _ hlook ?_)
          | ((with_reducible apply gS 130);refine zB rfl (.int .i64 (k1:Int)) (by rw[←hkk];exact yH (i:=k) (d:=1) rfl rfl rfl (by omega)) ?_)
          | ((with_reducible apply gS 131);refine zB rfl (.bool true) (jQ rfl rfl rfl (by simp)) ?_)
          | ((with_reducible apply gS 134);refine zB rfl (.pointer (some ⟨gt,k,none⟩)) (zIV Tryz.underlying40 qW rfl rfl rfl hlk) ?_)
          | ((with_reducible apply gS 135);refine xC rfl (.int .i64 (fl:Int)) (zV rfl rfl hck) ?_)
          | ((with_reducible apply gS 136);refine zB rfl (.int .i64 ((fl+1:Nat):Int)) (yH (i:=fl) (d:=1) rfl rfl rfl (by omega)) ?_)
          | ((with_reducible apply gS 138);refine zB rfl (.pointer (some ⟨gt,k,none⟩)) (zIV Tryz.underlying40 qW rfl rfl rfl hlk) ?_)
          | ((with_reducible apply gT 138 136);refine uK rfl _ _ rfl gt k _ rfl rfl ht (by rw[vL _ _ HCL.out];omega) ?_;have ht1:=ht.set_ k (.int .i64 ((fl+1:Nat):Int));rw[tblM_set _ _ _ _ (by rw[HCL.out];exact hlk),wD8,Int.natCast_one,HCS.out] at ht1;have hu1:=(Upd.refl (fun b=>b=gt) wr).setCell (p:=⟨gt,k,none⟩) rfl (.int .i64 ((fl+1:Nat):Int));rw[wD8,Int.natCast_one] at hu1;have ho1:=vM hown hu1 (fun y hy e=>zAS hown ht zGM (by rw[hy,e]));have hm1:=hm.setCell (a:=⟨gt,k,none⟩) hMgt (.int .i64 ((fl:Int)+1));have hp1:=hu1.blk hp hgpt;have hx1:=hu1.ext hx (fun y h=>by have:=hx.size;have:=hxW;omega);have hc16:=zEK ht1 (BM.csN_len cf i k (s+1)))
          | ((with_reducible apply gS 140);refine xC rfl (.slice B x d) (vU rfl rfl hc16) ?_)
          | ((with_reducible apply gS 142);refine wLit1 rfl 22 3 _ rfl (some 142) rfl Tryz.underlying22 1 qW zeroI1 (.int .i64 (s:Int)) rfl rfl (by omega) (by omega) ?_;intro w7 g7 hb7 hx7 hg7;have hsz7:=(hx1.trans hx7).size)
          | ((with_reducible apply gS 143);refine wApf zHK rfl _ _ rfl w.heap.size _ _ _ rfl (yR ho1 hx7) _ 1 _ rfl (IntsAt.lit hb7).1 (qY [(s:Int)]) (by omega) (by omega) (by omega) ?_;intro B8 d8 w8 ho8 hg8 hr8;have hu8:=zO hg8;have ht8:=hu8.blk (ht1.ext hx7) (fun e=>zAS (yR ho1 hx7) (ht1.ext hx7) zGM e.symm);have hp8:=hu8.blk (hp1.ext hx7) (fun e=>zAS (yR ho1 hx7) (hp1.ext hx7) zGM e.symm);have hm8:=(hm1.ext hx7).grown hg8 (zSf (yR ho1 hx7) (hm1.ext hx7));have hx8:=hu8.ext (hx1.trans hx7) (fun y h=>((yR ho1 hx7).lt y h).1))
          | ((with_reducible apply gT 144 143);refine zIo rfl _ _ rfl gt 16 B8 (x+1) d8 rfl rfl ht8 (by rw[vL _ _ (BM.csN_len cf i k (s+1))];omega) ?_))
         have ht9:=ht8.set_ 16 (.slice B8 (x+1) d8);rw[zQN _ _ _ (BM.csN_len cf i k (s+1))] at ht9;have hu9:=(Upd.refl (fun b=>b=gt) w8).setCell (p:=⟨gt,16,none⟩) rfl (.slice B8 (x+1) d8);have ho9:=vM ho8 hu9 (fun y hy e=>zAS ho8 ht8 zGM (by rw[hy,e]));have hm9:=hm8.setCell (a:=⟨gt,16,none⟩) hMgt (.slice B8 (x+1) d8);have hp9:=hu9.blk hp8 hgpt;have hx9:=hu9.ext hx8 (fun y h=>by have:=hx.size;have:=hxW;omega);rw[←uR, ←HXS.out] at ho9;go_roundw
         case rel=>exact⟨s+1,x+1,d8,B8,by omega,by go_num,ht9,zA (by rw[HXS.out,wF3,HX.out];rfl),ho9,hm9,hp9,hx9⟩
         case measure=>simp[intOf];omega
        ·have HCK:=zA (BM.csN_keep cf i k s he);have HXK:=zA (BM.xsN_keep cf i k s he);have heI:decide (((cf (s:Int):Nat):Int)=(k1:Int))=false:=by simp;omega
         generalize cf (s:Int)=cv at *
         go_wp2_with (first
          | ((with_reducible apply gS 124);refine zB rfl (.bool true) (zZ rfl rfl rfl (by simpa using hls)) ?_)
          | ((with_reducible apply gS 128);refine zAh (by rfl) _ _ 92 3 rfl zBJ Tryz.underlying92 (.int .i64 0) (zDt _) rfl hm _ rfl (s:Int) trivial hkey.out _ hlook ?_)
          | ((with_reducible apply gS 130);refine zB rfl (.int .i64 (k1:Int)) (by rw[←hkk];exact yH (i:=k) (d:=1) rfl rfl rfl (by omega)) ?_)
          | ((with_reducible apply gS 131);refine zB rfl (.bool false) (jQ rfl rfl rfl heI) ?_))
         go_roundw
         case rel =>
          first
           | exact⟨s+1,by omega,by go_num,x,d,B,by rw[HCK.out];exact ht,zA (by rw[HXK.out,HX.out]),by rw[HXK.out];exact hown,hm,hp,hx⟩
           | exact⟨s+1,x,d,B,by omega,by go_num,by rw[HCK.out];exact ht,zA (by rw[HXK.out,HX.out]),by rw[HXK.out];exact hown,hm,hp,hx⟩
           | ((repeat apply Exists.intro);refine⟨?_,rfl⟩;exact⟨s+1,x,d,B,by omega,by go_num,by rw[HCK.out];exact ht,zA (by rw[HXK.out,HX.out]),by rw[HXK.out];exact hown,hm,hp,hx⟩)
         case measure=>simp[intOf];omega
       ·obtain rfl:s=i:=by omega
        have HCN:=zA (BM.csN_next cf s k);have HXN:=zA (BM.xsN_next cf s k);rw[HCN.out] at ht;rw[HXN.out] at hown HX
        go_wp2_with (first
         | ((with_reducible apply gS 124);refine zB rfl (.bool false) (zZ rfl rfl rfl (by simp)) ?_)
         | ((with_reducible apply gS 146);refine zB rfl (.int .i64 (k1:Int)) (by rw[←hkk];exact yH (i:=k) (d:=1) rfl rfl rfl (by omega)) ?_))
        go_roundw
        case rel=>first
         | exact⟨k1,by omega,rfl,x,d,B,by rw[←hkk];exact ht,by rw[←hkk];exact HX,by rw[←hkk];exact hown,hm,hp,hx⟩
         | exact⟨k1,x,d,B,by omega,rfl,by rw[←hkk];exact ht,by rw[←hkk];exact HX,by rw[←hkk];exact hown,hm,hp,hx⟩
        case measure=>simp[intOf];omega
      ·obtain rfl:k=16:=by omega
       have hHX:=HX.out;subst hHX;have HSZ:=zA (fun v=>vL (BM.csN cf i 16 0) v (BM.csN_len cf i 16 0));have hzs:(Value.agg (yL (List.replicate 16 0) (.slice none 0 0))).cells.size=17:=vL _ _ (by simp);have HM:=zA (HMK.out _ _ rfl rfl);have HCL:=zA (BM.csN_len cf i 16 0);have HON:=zA (zPO (BM.csN cf i 16 0));generalize BM.csN cf i 16 0=cs at *;generalize BM.xsN cf i 16 0=xs at *
       go_wp2_with (first
        | ((with_reducible apply gS 119);refine zB rfl (.bool false) (zZ rfl rfl rfl (by simp)) ?_)
        | ((with_reducible apply gS 147);refine wLdB rfl 42 (.tmp 16) rfl gt rfl ht _ Tryz.underlying42 rfl 17 zS (HSZ.out _) ?_)
        | ((with_reducible apply gT 2 147);refine wStB rfl 42 (.tmp 2) (.tmp 147) rfl gp _ rfl rfl hp 17 zS (HSZ.out _) hzs (HON.out _ _ _) ?_;intro w9 hb9 hg9))
       have hu9:=zO hg9;have ho9:=vM hown hu9 (fun y hy e=>zAS hown hp zGM (by rw[hy];exact e));exact yK rfl rfl gp rfl hb9 _ Tryz.underlying42 rfl 17 zS (HSZ.out _) ⟨cs,xs,B,d,rfl,HM.out,HCL.out,ho9,hu9.ext hx (fun y h=>by injection h with h;omega)⟩
end
def builtT0:Tryz.prog.built 42 []=some (yL (List.replicate 16 0) (.slice none 0 0)):=by
 show _=some (ints (List.replicate 16 0)++[Value.slice none 0 0]).toArray
 kernel_rfl
def make_bad (counts:List Int) (A:Option Addr) (n c:Nat) (hn:counts.length=n) (w:World) (hv:SL w 1 (.slice A n c) n (ints counts)) (hb:qM counts≠0) :
 Calls Tryz.prog 101 #[.slice A n c] w fun e w'=>e=.returned (.tuple #[.agg (yL (List.replicate 16 0) (.slice none 0 0)),.int .i64 (qM counts)])∧Ext w w':=by
 have HB:=zA (fun W (hx:Ext w W)=>zEr counts (.slice A n c) W (by rw[hn];exact hv.ext hx));have hz2:(qM counts !=0)=true:=by simpa using hb
 have HT:=zA builtT0;have HZ:=zKa;have hts:=zA (vL (List.replicate 16 0) (.slice none 0 0) (by simp));have hzs:Hid ((Value.agg (yL (List.replicate 16 0) (.slice none 0 0))).cells.size=17):=zA (vL _ _ (by simp));have HON:=zA (zPO (List.replicate 16 0) none 0 0);generalize qM counts=z at *;generalize yL (List.replicate 16 0) (.slice none 0 0)=tv at *;clear hb;go_enter Tryz.func101,Tryz.ntmps101
 go_wp2_with (first
  | ((with_reducible apply gS 2);refine wAlo' rfl (some 2) rfl 42 rfl _ HZ ?_;intro w1 gp hp1 hx1 hgp)
  | (go_at_call 49;(with_reducible refine (HB.out _ hx1).mono ?_);rintro e w2 ⟨rfl,rfl⟩)
  | ((with_reducible apply gS 23);refine jN (by rfl) 42 rfl _ HT.out ?_)
  | ((with_reducible apply gT 2 23);refine wStB rfl 42 (.tmp 2) (.tmp 23) rfl gp tv rfl rfl hp1 17 zS hts.out hzs.out HON.out ?_;intro w5 hb5 hg5;have hx5:=hx1.grown hg5 hgp))
 exact yK rfl rfl gp rfl hb5 _ Tryz.underlying42 rfl 17 zS hts.out ⟨rfl,hx5⟩
end Go.Proofs.YtkggcjdlpendfaaGreatDoor
namespace Go.Proofs.YtkggcjdlpendfaaGreatDoor.BM
def posN (cs:List Int):Nat→List Nat
 | 0=>[]
 | i+1=>posN cs i++(if 0<cs.getD i 0 then [(cs.getD i 0).toNat] else [])
def zIN (cs:List Int): ∀ i,(singN cs i).map (·.1)=0::posN cs i
 | 0=>rfl
 | i+1=>by
   rw[singN,posN,List.map_append,zIN cs i];split<;>simp
def far:Nat:=1099511627776
def zFn (ws:List Nat):Nat:=if ws.length=1 then 0 else pre ws ws.length+D (pre ws) far 15 ws.length 2
end Go.Proofs.YtkggcjdlpendfaaGreatDoor.BM
namespace Go.Proofs.YtkggcjdlpendfaaGreatDoor
open Go.RowKit
def zCX (cs:List Int) (sl:Value) {w:World} {m:Nat} {xs:List Value} (h:SL w 1 sl m xs):(zQ cs sl).toArray.all (·.oneCell')=true:=by
 obtain⟨A,c,rfl, -⟩:=h;rw[wR1,wB5];intro v hv;unfold zQ at hv;rcases wE6.1 hv with hv | hv
 ·obtain⟨z, -,rfl⟩:=wD6.1 hv;rfl
 ·simp at hv;subst hv;rfl
end Go.Proofs.YtkggcjdlpendfaaGreatDoor
