import Derived.IntWalk
import Derived.WideKeyPair
import Derived.ChangeSlices
import Derived.Test.YtkggcjdlpendfaaGreatDoorMTopFewestCard7
set_option linter.all false
set_option maxRecDepth 20000
set_option maxHeartbeats 8000000
namespace Go.Proofs.YtkggcjdlpendfaaGreatDoor
open Go.RowKit
def zOW (cs xs:List Int) (sl:Value) (w:World) (hl:cs.length=16) (hs:SL w 1 sl xs.length (ints xs)) (hal:zR cs 0 256=true) (hok:okW cs=true) (hsum:zAq cs 16=xs.length) (hx256:xs.length≤256) :
 Calls Tryz.prog 106 #[.agg (yL cs sl)] w fun e w'=> ∃ A c,e=.returned (.slice A xs.length c)∧SL w' 3 (.slice A xs.length c) xs.length (qC (zL (zD cs 16) xs))∧(∀ ad,A=some ad→w.heap.size≤ad.block)∧Ext w w':=by
 have hlast:=zA (fun W g (h:Blk W g 42 (yL cs sl))=>zEK h hl);have HRG:=zA (fun W g (h:Blk W g 42 (yL cs sl))=>zEc h);have hcl:=zA ((yA cs).trans hl);have HIX:=zA (fun k (hk:k<cs.length) (h16:k<16)=>fun W=>zGE (ints cs).toArray k (.int .i64 cs[k]) h16 (qK cs k hk) W);have HAL:=zA (yD.1 hal);have HL:=zA hl;have HLEN:Hid ((zD cs 16).length=xs.length):=zA (by have:=zBw cs (fun z hz=>(HAL.out z hz).1) 16 (by omega);omega);have HOKS:=zA (fun k (hk:k<16)=>by simpa using wB5.1 hok k (wB7.2 hk));have hs':=hs;obtain⟨A,c,rfl,hc1,hc2, -, -⟩:=hs';generalize yL cs (.slice A xs.length c)=tv at *;clear hal hok hsum;go_enter Tryz.func106,Tryz.ntmps106
 go_wp2_with (first
  | (refine wBox rfl 42 (.tmp 0) rfl tv rfl ?_;intro w1 g hb1 hx1 hg)
  | (refine wpList_load_mid rfl 40 (.tmp 7) rfl g 0 rfl (ints cs) _ (HRG.out _ _ hb1) Tryz.underlying40 rfl (by rw[hcl.out];exact zLq) ?_))
 have hs1:=hs.ext hx1;have hgw:=hb1.lt;have hsz1:=hx1.size
 go_loopw [3,4,9] (fun v nx i wr=> ∃ k:Nat,k≤16∧i=.int .i64 (k:Int)∧nx=.int .i64 (vD cs k:Nat)∧vD cs k+1≤2 ^ k∧OwnV wr w1.heap.size 94 3 v (zD cs k).length (qC (zL (zD cs k) xs))∧Ext w1 wr) (fun _ _ i _=>16-(intOf i).toNat)
 case atStart=>exact⟨0,by omega,rfl,rfl,by simp[vD],by rw[zCg];exact OwnV.nil _ _ _ _,Ext.refl _⟩
 case round =>
  obtain⟨k,hk,rfl,rfl,hnx,⟨B0,d0,rfl,hown⟩,hx⟩:=hrel
  by_cases hlt:k<16
  ·have hsd:decide ((k:Int)<16)=true:=by simp;omega
   have hkl:k<cs.length:=by have:=HL.out;omega
   have hix:=HIX.out k hkl hlt;obtain⟨q1,q2⟩:=HAL.out _ (wE2 hkl);obtain⟨n,hn⟩: ∃ n:Nat,cs[k]=(n:Int):=⟨cs[k].toNat,by omega⟩
   have HNW:=zA (zLT cs k n hkl hn);have HCW:=zA (zKD cs k n hkl hn);have HOK:=zA (HOKS.out k hlt);have HMO:=zA (zRO cs (k+1) 16 (by omega));rw[hn] at hix q1 q2;have hp:(2:Nat) ^ k≤65536:=by have:=wI4 (n:=2) (by omega) hk;simpa using this
   have HP:Hid (2 ^ (k+1)=2*2 ^ k):=zA (by rw[wL6];omega);have HRS:=zA (zOF cs k);have HR0:Hid (uD cs k 0=[]):=zA rfl;have HRL:=zA (zGx cs k);have hbound:(zD cs k).length+n≤xs.length:=by have h1:=HMO.out;have h2:=HLEN.out;rw[HCW.out,wF3,HRL.out] at h1;omega
   generalize vD cs k=N at *;generalize (2:Nat) ^ k=Pw at *;clear hn hkl;generalize zD cs k=C at *;have HC0:Hid (zL (C++uD cs k 0) xs=zL C xs):=zA (by rw[HR0.out,wG6]);go_wp2_with fail
   go_loopw [3,4,16] (fun v nx i wr=> ∃ j:Nat,j≤n∧i=.int .i64 (j:Int)∧nx=.int .i64 ((2*N+j:Nat):Int)∧OwnV wr w1.heap.size 94 3 v (C.length+j) (qC (zL (C++uD cs k j) xs))∧Ext w1 wr) (fun _ _ i _=>n-(intOf i).toNat)
   case atStart=>exact⟨0,by omega,rfl,vint (by omega),by rw[HC0.out];exact OwnV.mk hown,hx⟩
   case round =>
    clear hown hx;obtain⟨j,hj,rfl,rfl,⟨B,d,rfl,hown⟩,hx⟩:=hrel;have hclen:(C++uD cs k j).length=C.length+j:=by rw[wF3,HRL.out]
    have hzl:(zL (C++uD cs k j) xs).length=C.length+j:=by rw[zBS _ _ (by omega),hclen]
    have hcz:=zA hclen;have HZL:=zA hzl;clear hclen
    by_cases hlj:j<n
    ·have hix2:C.length+j<xs.length:=by omega
     have HZS:Hid (zL (C++uD cs k (j+1)) xs=zL (C++uD cs k j) xs++[(xs[C.length+j],((k+1:Nat):Int),((2*N+j:Nat):Int))]):=zA (by
      rw[HRS.out j, ←wG2,zipC_snoc _ _ _ (by rw[hcz.out];exact hix2)]
      simp only[hcz.out])
     obtain⟨ad,u,hA, -,hxk,hcell⟩:=(hs1.ext hx).at1 hix2;obtain⟨hkl2,rfl⟩:=zBn _ _ _ hxk;subst hA;have hc16:=hlast.out _ _ (hb1.ext hx);generalize xs[C.length+j]=x at *;generalize zL (C++uD cs k j) xs=T at *;generalize hM:C.length+j=M at *;have hM256:M<256:=by omega
     have HM:=zA hM;clear hxk hM hzl;go_wp2_with (at_builtin;go_must (refine jX elt_word rfl _ _ rfl w1.heap.size _ _ _ rfl (hown.alloc _) _ 1 [.int .i64 _,.int .i64 _,.int .i64 _] rfl (one_sl3' _ _ _ _ _) (int3_one _ _ _) (by omega) (by omega) (by have:=hx.size;simp;omega) ?_);intro v' w7 hown7 hb7)
     go_roundw
     case rel =>
      refine⟨j+1,by omega,by go_num,vint (by omega), ?_,(hx.alloc _).trans' hb7⟩;rw[HZS.out];have:=own_tok3 (T:=T) (by rw[HZL.out];exact hown7);rw[wF3,HZL.out, ←HM.out] at this;simpa [wA0] using OwnV.mk this
     case measure=>simp[intOf];omega
    ·obtain rfl:j=n:=by omega
     clear hzl;go_wp2_with fail;go_roundw
     case rel=>exact⟨k+1,by omega,by go_num,by rw[HNW.out],by rw[HNW.out,HP.out];have:=HOK.out;rw[HNW.out,HP.out] at this;omega,by rw[HCW.out,hcz.out];exact OwnV.mk hown,hx⟩
     case measure=>simp[intOf];omega
  ·have ek:k=16:=by omega
   rw[ek] at hown ⊢;rw[HLEN.out] at hown ⊢;go_wp2_with fail;go_ret;obtain⟨hsl,hfs⟩:=jF hown;exact⟨B0,d0,rfl,hsl,fun ad h=>by have:=hfs ad h;omega,hx1.trans hx⟩
def tWords_no (cs xs:List Int) (sl:Value) (w:World) (hl:cs.length=16) (hs:SL w 1 sl xs.length (ints xs)) (h:zT cs xs≠0) :
 Calls Tryz.prog 48 #[.agg (yL cs sl)] w fun e w'=>e=.returned (.tuple #[.slice none 0 0,.int .i64 (zT cs xs)])∧Ext w w':=by
 have HC:=zA (fun W h=>zAs cs xs sl W hl h);have hts:=zA (vL cs sl hl);generalize yL cs sl=tv at *;generalize zT cs xs=z at *;have hz:(z !=0)=true:=by simpa using h
 clear h;go_enter Tryz.func48,Tryz.ntmps48
 go_wp2_with (first
  | (refine wBox rfl 42 (.tmp 0) rfl tv rfl ?_;intro w1 g hb1 hx1 hg;have hs1:=hs.ext hx1)
  | (refine wLdB rfl 42 (.tmp 1) rfl _ rfl hb1 _ Tryz.underlying42 rfl 17 zS hts.out ?_)
  | (go_at_call 102;(with_reducible refine (HC.out _ hs1).mono ?_);rintro e w2 ⟨rfl,hx2⟩))
 go_ret2;exact⟨rfl,hx1.trans hx2⟩
def zAQ {cs xs:List Int} (h:zT cs xs=0):zR cs 0 256=true∧zAq cs 16=xs.length∧xs.length≤256∧okW cs=true∧zR xs 0 255=true∧xs.Nodup:=by
 unfold zT at h;split at h
 ·next h1 =>
  obtain⟨q1,q2,q3⟩:=zFa.1 h1;split at h
  ·next h2 =>
   split at h
   ·next h3 =>
    simp only[wA9,wB3] at h3;exact⟨q1,q3,by omega,h3.2,h2,h3.1⟩
   ·cases h
  ·cases h
 ·cases h
def zLl (cs xs:List Int) (sl:Value) (w:World) (hl:cs.length=16) (hs:SL w 1 sl xs.length (ints xs)) (h:zT cs xs=0) :
 Calls Tryz.prog 48 #[.agg (yL cs sl)] w fun e w'=> ∃ A c,e=.returned (.tuple #[.slice A xs.length c,.int .i64 0])∧SL w' 3 (.slice A xs.length c) xs.length (qC (zL (zD cs 16) xs))∧(∀ ad,A=some ad→w.heap.size≤ad.block)∧Ext w w':=by
 obtain⟨q1,q2,q3,q4, -, -⟩:=zAQ h;have HC:=zA (fun W h=>zAs cs xs sl W hl h);rw[h] at HC;have HW:=zA (fun W h=>zOW cs xs sl W hl h q1 q4 q2 q3);have hts:=zA (vL cs sl hl);generalize yL cs sl=tv at *;generalize zL (zD cs 16) xs=Z at *;clear h q1 q2 q3 q4;go_enter Tryz.func48,Tryz.ntmps48
 go_wp2_with (first
  | (refine wBox rfl 42 (.tmp 0) rfl tv rfl ?_;intro w1 g hb1 hx1 hg;have hs1:=hs.ext hx1)
  | (refine wLdB rfl 42 (.tmp 1) rfl _ rfl hb1 _ Tryz.underlying42 rfl 17 zS hts.out ?_)
  | (go_at_call 102;(with_reducible refine (HC.out _ hs1).mono ?_);rintro e w2 ⟨rfl,hx2⟩;have hb2:=hb1.ext hx2;have hs2:=hs1.ext hx2)
  | (refine wLdB rfl 42 (.tmp 1) rfl _ rfl hb2 _ Tryz.underlying42 rfl 17 zS hts.out ?_)
  | (go_at_call 106;(with_reducible refine (HW.out _ hs2).mono ?_);rintro e w3 ⟨A,c,rfl,hs3,hf3,hx3⟩))
 go_ret2;have:=hx1.size;have:=hx2.size;exact⟨A,c,rfl,hs3,fun ad h=>by have:=hf3 ad h;omega,(hx1.trans hx2).trans hx3⟩
section
variable {P:Program} {ops:Array Oper} {md:Region.Mode} {R:World→World→Prop} {Q:Exit→Act→World→Prop}
def zEE (P:Program) (md:Region.Mode) (ops:Array Oper) (R:World→World→Prop) (Q:Exit→Act→World→Prop):List Nat→Array Bool→Act→World→Prop
 | [],_,a,wc=> ∀ w,R wc w→Q .normal a w
 | k::rest,listed,a,wc=> ∃ o,ops[k]? =some o ∧
   ((∃ v,YieldsR P ops R o v a wc∧zEE P md ops R Q rest (listed.setIfInBounds k true) (a.put o.dst v) wc) ∨
   (Region.ready md ops listed=[k]∧ ∀ w,R wc w→wpOp P ops Q k (fun a' w'=>R w w'∧zEE P md ops R Q rest (listed.setIfInBounds k true) a' w') a w))
def ordB (md:Region.Mode) (ops:Array Oper) (fin:Array Bool→Bool):List Nat→Array Bool→Bool
 | [],listed=>fin listed
 | k::rest,listed=>(Region.ready md ops listed).contains k&&Region.free md ops listed k&&ordB md ops fin rest (listed.setIfInBounds k true)
def seqO (md:Region.Mode) (ops:Array Oper):List Nat→Array Bool→Bool
 | [],listed=>(Region.ready md ops listed).isEmpty
 | k::rest,listed=>decide (Region.ready md ops listed=[k])&&seqO md ops rest (listed.setIfInBounds k true)
def zJj (md:Region.Mode) (ops:Array Oper) (t0:Nat):List Nat→Bool
 | []=>true
 | i::rest=>(rest++[t0]).any (fun j=>Region.waitsFor md ops j i)&&zJj md ops t0 rest
def zGS (md:Region.Mode) (ops:Array Oper):List Nat→Bool
 | []=>true
 | [_]=>true
 | a::b::rest=>Region.waitsFor md ops b a&&zGS md ops (b::rest)
structure InvO (md:Region.Mode) (ops:Array Oper) (tail:List Nat) (listed:Array Bool):Prop where
 size:listed.size=ops.size
 closed: ∀ j oj,ops[j]? =some oj→listed.getD j false=true→ ∀ e∈oj.after,Region.binds md e=true→listed.getD e.on false=true
 tail: ∀ t∈tail,listed.getD t true=false
def zFl {j i:Nat} {listed:Array Bool} (h:Region.waitsFor md ops j i=true) (hi:listed.getD i false=false):j∉Region.ready md ops listed:=by
 intro hr;obtain⟨_,oj,hj,hall⟩:=mem_ready.1 hr;obtain⟨oj',hj',e,he,hb,hon⟩:=Region.waitsFor_spec h;have:oj'=oj:=Option.some.inj (hj'.symm.trans hj);subst this;have:=hall e he hb;rw[hon,hi] at this;cases this
def zGO {listed:Array Bool}: ∀ (tail:List Nat),zGS md ops tail=true→(∀ t∈tail,listed.getD t true=false)→(∀ t0,tail.head? =some t0→t0∉Region.ready md ops listed)→ ∀ t∈tail,t∉Region.ready md ops listed
 | [],_,_,_,t,ht=>by cases ht
 | [a],_,_,h0,t,ht=>by
   have:t=a:=by simpa using ht
   subst this;exact h0 _ rfl
 | a::b::rest,hc,hu,h0,t,ht=>by
   simp only[zGS,wA9] at hc;rcases wK0.1 ht with rfl | ht
   ·exact h0 _ rfl
   ·exact zGO (b::rest) hc.2 (fun t ht=>hu t (by simp[ht])) (fun t0 h=>by
     have:b=t0:=by simpa using h
     subst this
     exact zFl hc.1 (getD_both (hu a (by simp)))) t ht
def zKB {t0:Nat} {tail:List Nat} {listed:Array Bool} (hc:zGS md ops (t0::tail)=true) (inv:InvO md ops (t0::tail) listed) (his: ∀ i oi,ops[i]? =some oi→i<ops.size) :
 ∀ (is:List Nat),zJj md ops t0 is=true→(∃ i∈is,listed.getD i true=false)→ ∀ t∈t0::tail,t∉Region.ready md ops listed
 | [],_,h,_,_=>by obtain⟨i,hi,_⟩:=h;cases hi
 | i::rest,hs,h,t,ht=>by
   simp only[zJj,wA9] at hs
   by_cases hr: ∃ j∈rest,listed.getD j true=false
   ·exact zKB hc inv his rest hs.2 hr t ht
   ·have hi:listed.getD i true=false:=by
     obtain⟨j,hj,hl⟩:=h;rcases wK0.1 hj with rfl | hj
     ·exact hl
     ·exact absurd ⟨j,hj,hl⟩ hr
    obtain⟨j,hj,hw⟩:=List.any_eq_true.1 hs.1
    have h0:t0∉Region.ready md ops listed:=by
     rcases wE6.1 hj with hj | hj
     · -- j is listed: then i would be
       obtain⟨oj,hoj,e,he,hb,hon⟩:=Region.waitsFor_spec hw
       have hjl:listed.getD j false=true:=by
        have h1: ¬listed.getD j true=false:=fun h=>hr ⟨j,hj,h⟩
        have hlt:j<listed.size:=by rw[inv.size];exact his j oj hoj
        simp[hlt] at h1 ⊢;exact h1
       have:=inv.closed j oj hoj hjl e he hb;rw[hon,getD_both hi] at this;cases this
     ·have:j=t0:=by simpa using hj
      subst this;exact zFl hw (getD_both hi)
    exact zGO (t0::tail) hc inv.tail (fun t1 h1=>by
     have:t0=t1:=by simpa using h1
     subst this
     exact h0) t ht
def InvO.set {tail:List Nat} {i:Nat} {listed:Array Bool} (inv:InvO md ops tail listed) (hi:i∈Region.ready md ops listed) (hin:i∉tail):InvO md ops tail (listed.setIfInBounds i true):=by
 obtain⟨_,oi,hoi,hall⟩:=mem_ready.1 hi;refine⟨by simp[inv.size],fun j oj hj hl e he hb=> ?_,fun t ht=> ?_⟩
 ·by_cases hij:i=j
  ·subst hij;have:oj=oi:=Option.some.inj (hj.symm.trans hoi);subst this;exact getD_set_true (hall e he hb)
  ·rw[getD_set_ne false hij] at hl;exact getD_set_true (inv.closed j oj hj hl e he hb)
 ·have hne:i≠t:=fun h=>hin (by rw[h];exact ht)
  rw[getD_set_ne true hne];exact inv.tail t ht
def zDm (P:Program) (md:Region.Mode) (ops:Array Oper) (R:World→World→Prop) (Q:Exit→Act→World→Prop) (tail:List Nat) (F:Array Bool→Act→World→Prop):Nat→Array Bool→Act→World→Prop
 | 0,listed,a,wc=> ∀ w,R wc w→F listed a w
 | f+1,listed,a,wc=>Region.ready md ops listed≠[]∧ ∀ i∈Region.ready md ops listed,i∉tail∧ ∀ w,R wc w→wpOp P ops Q i (fun a' w'=>R w w'∧zDm P md ops R Q tail F f (listed.setIfInBounds i true) a' w') a w
variable {tail:List Nat} {F:Array Bool→Act→World→Prop}
def zIj (L:zAY R): ∀ (f:Nat) (listed:Array Bool) (a:Act) (wc w:World),R wc w→zDm P md ops R Q tail F f listed a wc→zDm P md ops R Q tail F f listed a w
 | 0,_,_,_,_,hw,h=>fun w' h'=>h w' (L.trans hw h')
 | _+1,_,_,_,_,hw,h=>⟨h.1,fun i hi=>⟨(h.2 i hi).1,fun w' h'=>(h.2 i hi).2 w' (L.trans hw h')⟩⟩
def zJo (L:zAY R) {QN:Act→World→Prop} {Q':Exit→Act→World→Prop} {g:Nat} (hF: ∀ listed a w,F listed a w→wpAny P md ops Q' g listed a w) :
 ∀ (f:Nat) (listed:Array Bool) (a:Act) (wc:World),zDm P md ops R (xO QN) tail F f listed a wc→ ∀ w,R wc w→wpAny P md ops Q' (f+g) listed a w
 | 0,listed,a,wc,h,w,hw=>by rw[wB2];exact hF _ _ _ (h w hw)
 | f+1,listed,a,wc,h,w,hw=>by
   rw[show f+1+g=(f+g)+1 by omega];exact⟨fun h0=>absurd h0 h.1,fun i hi=>zIP (QN:=QN) (wpOp_mono (fun a' w' h'=>zJo L hF f _ a' w' h'.2 w' (L.refl _)) ((h.2 i hi).2 w hw))⟩
def zOs (L:zAY R) {QN:Act→World→Prop} {i:Nat} {oi:Oper} {v:Value} (hi:ops[i]? =some oi) (hsel: ∀ (j:Nat) (o:Oper) cs b,ops[j]? =some o→o.op≠.select cs b)
 (hin:i∉tail) (hw8: ∀ listed,InvO md ops tail listed→listed.getD i true=false→ ∀ t∈tail,t∉Region.ready md ops listed)
 (hdone: ∀ listed a w,F listed a w→ ∀ j∈Region.ready md ops listed,j∈tail) :
 ∀ (f:Nat) (listed:Array Bool) (a:Act) (wc:World),InvO md ops tail listed →
  (∀ j oj,ops[j]? =some oj→j≠i→listed.getD j true=false→(∀ e∈oj.after,Region.binds md e=true→e.on≠i)→oi.apart ops oj=true) →
  i∈Region.ready md ops listed→YieldsR P ops R oi v a wc →
  zDm P md ops R (xO QN) tail F f (listed.setIfInBounds i true) (a.put oi.dst v) wc→zDm P md ops R (xO QN) tail F (f+1) listed a wc:=by
 intro f
 induction f with
 | zero =>
   intro listed a wc inv _ hr hy H;have hun:=(mem_ready.1 hr).1;refine⟨fun h=>(by rw[h] at hr;cases hr),fun j hj=> ?_⟩;have hjn:j∉tail:=fun h=>hw8 listed inv hun j h hj
   refine⟨hjn,fun w hw=> ?_⟩
   by_cases hji:j=i
   ·subst hji;exact hy.wpOp L hi hw fun w' h'=>⟨h',zIj L _ _ _ _ _ (L.trans hw h') H⟩
   ·exact absurd (hdone _ _ _ (H w hw) j (ready_mono hj hji)) hjn
 | succ f ih =>
   intro listed a wc inv hfree hr hy H;have hun:=(mem_ready.1 hr).1;refine⟨fun h=>(by rw[h] at hr;cases hr),fun j hj=> ?_⟩;have hjn:j∉tail:=fun h=>hw8 listed inv hun j h hj
   refine⟨hjn,fun w hw=> ?_⟩
   by_cases hji:j=i
   ·subst hji;exact hy.wpOp L hi hw fun w' h'=>⟨h',zIj L _ _ _ _ _ (L.trans hw h') H⟩
   ·have h1:=(H.2 j (ready_mono hj hji)).2 w hw;obtain⟨hjun,oj,hoj,hall⟩:=mem_ready.1 hj
    have hnot: ∀ e∈oj.after,Region.binds md e=true→e.on≠i:=fun e he hb heq=>by
     have h1:=hall e he hb;rw[heq,getD_both hun] at h1;cases h1
    have h2:=zIK hoj (hfree j oj hoj hji hjun hnot) (fun cs b=>hsel i oi cs b hi) (fun cs b=>hsel j oj cs b hoj) (fun _ _ _ h=>h) hy h1
    have hfree': ∀ k ok,ops[k]? =some ok→k≠i→(listed.setIfInBounds j true).getD k true=false →
     (∀ e∈ok.after,Region.binds md e=true→e.on≠i)→oi.apart ops ok=true:=fun k ok hk hki hun hno=>by
     refine hfree k ok hk hki ?_ hno
     by_cases hjk:j=k
     ·subst hjk;exact hjun
     ·rw[getD_set_ne true hjk] at hun;exact hun
    refine wpOp_mono (fun a' w' h3=>⟨h3.2.1,ih (listed.setIfInBounds j true) a' w' (inv.set hj hjn) hfree' (ready_mono hr (Ne.symm hji)) (h3.1.mono L (L.trans hw h3.2.1)) ?_⟩) h2;rw[wA7 _ _ hji];exact h3.2.2
def zGJ (L:zAY R) {QN:Act→World→Prop} {t0:Nat} {tl:List Nat} (htail:tail=t0::tl) (hsel:Region.noSelect ops=true) (hc:zGS md ops (t0::tl)=true) {fin:Array Bool→Bool}
 (hdone: ∀ listed,fin listed=true→ ∀ j∈Region.ready md ops listed,j∈tail) :
 ∀ (is:List Nat) (listed:Array Bool) (a:Act) (wc:World),InvO md ops tail listed→zJj md ops t0 is=true→(∀ i∈is,i∉tail) →
 ordB md ops fin is listed=true→zEE P md ops R (xO QN) is listed a wc →
 zDm P md ops R (xO QN) tail (fun listed' a' w'=>fin listed'=true∧QN a' w') is.length listed a wc
 | [],listed,a,wc,_,_,_,hB,h=>fun w hw=>⟨by simpa [ordB] using hB,h w hw⟩
 | k::rest,listed,a,wc,inv,hs,hnt,hB,h=>by
   have hs0:=hs;simp only[ordB,wA9] at hB;obtain⟨⟨hr,hf⟩,hB'⟩:=hB;have hr':k∈Region.ready md ops listed:=by simpa using hr
   simp only[zJj,wA9] at hs;have hkt:=hnt k (by simp);obtain⟨o,h0,h⟩:=h;rcases h with ⟨v,hy,hK⟩ | ⟨hone,hK⟩
   ·refine zOs L h0 (Region.noSelect_spec hsel) hkt (fun listed' inv' hun=> ?_) (fun listed' a' w' hL=>hdone listed' hL.1) rest.length listed a wc inv (Region.free_spec h0 hf) hr' hy
     (zGJ L htail hsel hc hdone rest _ _ _ (inv.set hr' hkt) hs.2 (fun i hi=>hnt i (by simp[hi])) hB' hK)
    subst htail;exact zKB hc inv' (fun i oi hoi=>(wB6.1 hoi).1) (k::rest) hs0 ⟨k,by simp,hun⟩
   ·refine⟨fun h0=>(by rw[h0] at hone;cases hone),fun i hi=> ?_⟩;rw[hone] at hi;have hik:i=k:=by simpa using hi
    subst hik;exact⟨hkt,fun w hw=>wpOp_mono (fun a' w' h'=>⟨h'.1,zGJ L htail hsel hc hdone rest _ _ _ (inv.set hr' hkt) hs.2 (fun i hi=>hnt i (by simp[hi])) hB' h'.2⟩) (hK w hw)⟩
def zIA {Q':Exit→Act→World→Prop}: ∀ (tl:List Nat) (l:List Oper) (listed:Array Bool) (a:Act) (w:World),tl.map (fun k=>ops[k]?)=l.map some →
 seqO md ops tl listed=true→wpList P ops Q' l a w→wpAny P md ops Q' tl.length listed a w
 | [],l,_,_,_,hl,hB,h=>by
   obtain rfl:l=[]:=by simpa using hl.symm
   exact⟨by simpa [seqO] using hB,h⟩
 | k::tl,l,listed,a,w,hl,hB,h=>by
   cases l with
   | nil=>simp at hl
   | cons o l =>
     simp only[wC8,List.cons.injEq] at hl;simp only[seqO,wA9,wB3] at hB;refine⟨fun h1=>(by rw[hB.1] at h1;cases h1),fun i hi=> ?_⟩;rw[hB.1] at hi;have hik:i=k:=by simpa using hi
     subst hik;have hw:wpOp P ops Q' i (wpList P ops Q' l) a w:=by unfold wpOp;simp only[hl.1];exact h
     exact wpOp_mono (fun a' w' h'=>zIA tl l _ a' w' hl.2 hB.2 h') hw
def zRq: ∀ {tl:List Nat} {listed:Array Bool},seqO md ops tl listed=true→ ∀ j∈Region.ready md ops listed,j∈tl
 | [],listed,h,j,hj=>by simp only[seqO,List.isEmpty_iff] at h;rw[h] at hj;cases hj
 | k::tl,listed,h,j,hj=>by
   simp only[seqO,wA9,wB3] at h;rw[h.1] at hj;have:j=k:=by simpa using hj
   simp[this]
def zJc (P:Program) (ops:Array Oper) (K:Array Bool→Act→Prop):List Nat→Array Bool→Act→Prop
 | [],listed,a=>K listed a
 | k::rest,listed,a=> ∃ o v,ops[k]? =some o∧Yields P ops o v a∧zJc P ops K rest (listed.setIfInBounds k true) (a.put o.dst v)
def zOY {QN:Act→World→Prop} {w:World} {K:Array Bool→Act→Prop} {fin:Array Bool→Bool} {f:Nat} (hsel:Region.noSelect ops=true) (hK: ∀ listed a,InvO md ops tail listed→fin listed=true→K listed a→wpAny P md ops (xO QN) f listed a w) :
 ∀ (pre:List Nat) (listed:Array Bool) (a:Act),InvO md ops tail listed→(∀ i∈pre,i∉tail)→ordB md ops fin pre listed=true→zJc P ops K pre listed a→wpAny P md ops (xO QN) (pre.length+f) listed a w
 | [],listed,a,inv,_,hB,h=>by rw[wM9,wB2];exact hK _ _ inv (by simpa [ordB] using hB) h
 | k::rest,listed,a,inv,hnt,hB,h=>by
   simp only[ordB,wA9] at hB;obtain⟨⟨hr,hf⟩,hB'⟩:=hB;have hr':k∈Region.ready md ops listed:=by simpa using hr
   obtain⟨o,v,h0,hy,h⟩:=h;rw[show (k::rest).length+f=(rest.length+f)+1 by simp;omega];exact wpAny_take h0 hsel hf hr (fun _ _ _ h=>h) hy (zOY hsel hK rest _ _ (inv.set hr' (hnt k (by simp))) (fun i hi=>hnt i (by simp[hi])) hB' h)
def ordAllP (md:Region.Mode) (ops:Array Oper) (pre is:List Nat) (t0:Nat) (tl:List Nat):Bool :=
 Region.noSelect ops&&zGS md ops (t0::tl)&&zJj md ops t0 is&&is.all (fun i=> !(t0::tl).contains i)&&pre.all (fun i=> !(t0::tl).contains i)&&(t0::tl).all (fun t=>decide (t<ops.size))&&decide (pre.length+(is.length+(tl.length+1))=ops.size) &&
  ordB md ops (fun listed=>ordB md ops (seqO md ops (t0::tl)) is listed) pre (Array.replicate ops.size false)
def zPh (ops:Array Oper): ∀ (tl:List Nat),(∀ t∈tl,t<ops.size)→tl.map (fun k=>ops[k]?)=(tl.filterMap (fun k=>ops[k]?)).map some
 | [],_=>rfl
 | k::tl,h=>by
   have hk:k<ops.size:=h k (by simp);have e:ops[k]? =some ops[k]:=by simp[hk]
   rw[wC8,List.filterMap_cons_some e,wC8,e,zPh ops tl (fun t ht=>h t (by simp[ht]))]
def zMg (L:zAY R) (pre is:List Nat) (t0:Nat) (tl:List Nat) {id:Nat} {a:Act} {w:World} {l:List Oper} (hm:P.follows .mixedOrders=true) (hB:ordAllP .any l.toArray pre is t0 tl=true)
 (h:zJc P l.toArray (fun listed a=>zEE P .any l.toArray R (xO (fun a w=>wpList P l.toArray (xO (fun a w=>Q .normal a w)) ((t0::tl).filterMap fun k=>l.toArray[k]?) a w)) is listed a w.drew) pre (Array.replicate l.length false) a):(Code.region id l.toArray true).wp P Q a w:=by
 simp only[ordAllP,wA9,wB3] at hB;obtain⟨⟨⟨⟨⟨⟨⟨hsel,hc⟩,hs⟩,hnt⟩,hnp⟩,hts⟩,hlen⟩,hord⟩:=hB
 have inv0:InvO .any l.toArray (t0::tl) (Array.replicate l.toArray.size false) :=
  ⟨by simp,fun j oj _ hl=>(by rw[getD_replicate_false] at hl;cases hl),fun t ht=>getD_in (by have:=wB5.1 hts t ht;simpa using this) (getD_replicate_false _ _)⟩
 refine Code.wp_mono (Q:=xO (fun a w=>Q .normal a w)) (fun e a w h=> ?_) (wp_region_any hm ?_)
 ·cases e<;>first | exact h | exact (h:False).elim
 have key:=zOY (md:=.any) (tail:=t0::tl) (QN:=fun a w=>Q .normal a w) (w:=w.drew) (f:=is.length+(t0::tl).length) hsel
  (K:=fun listed a=>zEE P .any l.toArray R (xO (fun a w=>wpList P l.toArray (xO (fun a w=>Q .normal a w)) ((t0::tl).filterMap fun k=>l.toArray[k]?) a w)) is listed a w.drew)
  (fin:=fun listed=>ordB .any l.toArray (seqO .any l.toArray (t0::tl)) is listed) (fun listed a inv hord h=>by
    have H:=zGJ (md:=.any) L (tail:=t0::tl) rfl hsel hc (fun listed hL=>zRq hL) is listed a w.drew inv hs
     (fun i hi=>by have:=wB5.1 hnt i hi;simpa using this) hord h
    exact zJo (Q':=xO (fun a w=>Q .normal a w)) (g:=(t0::tl).length) L (fun listed a' w' hL=>zIA (t0::tl) _ listed a' w' (zPh _ _ (fun t ht=>by have:=wB5.1 hts t ht;simpa using this)) hL.1 hL.2) _ _ _ _ H _ (L.refl _))
  pre (Array.replicate l.toArray.size false) a inv0 (fun i hi=>by have:=wB5.1 hnp i hi;simpa using this) hord (by simpa using h)
 rw[show pre.length+(is.length+(t0::tl).length)=l.toArray.size by simp at hlen ⊢;omega] at key;exact key
def lp_nil {K:Array Bool→Act→Prop} {listed:Array Bool} {a:Act} (h:K listed a):zJc P ops K [] listed a:=h
def lp_ex {K:Array Bool→Act→Prop} {o:Oper} {k:Nat} {rest:List Nat} {listed:Array Bool} {a:Act} (ho:ops[k]? =some o) (hw:Region.wanted o (yielded ops a.tmps)=true)
 (h: ∃ v,(∀ w,(execOp a.eval o).run P w=.ok (.value v) w)∧zJc P ops K rest (listed.setIfInBounds k true) (a.put o.dst v)):zJc P ops K (k::rest) listed a :=
 let ⟨v,h1,h2⟩:=h;⟨o,v,ho,.inl ⟨hw,h1⟩,h2⟩
variable {o:Oper} {rest:List Nat} {k:Nat} {listed:Array Bool} {a:Act} {wc:World}
def lo_nil {QN:Act→World→Prop} (h: ∀ w,R wc w→QN a w):zEE P md ops R (xO QN) [] listed a wc:=h
def lo_ex (ho:ops[k]? =some o) (hw:Region.wanted o (yielded ops a.tmps)=true) (h: ∃ v,(∀ w,R wc w→o.quietAt P a (R w) w v)∧zEE P md ops R Q rest (listed.setIfInBounds k true) (a.put o.dst v) wc):zEE P md ops R Q (k::rest) listed a wc :=
 ⟨o,ho,.inl (let ⟨v,h1,h2⟩:=h;⟨v,.inl ⟨hw,h1⟩,h2⟩)⟩
def lo_alone (ho:ops[k]? =some o) (hone:Region.ready md ops listed=[k]) (hw:Region.wanted o (yielded ops a.tmps)=true)
 (h: ∀ w,R wc w→o.wp P a w (fun a' w'=>R w w'∧zEE P md ops R Q rest (listed.setIfInBounds k true) a' w') Q):zEE P md ops R Q (k::rest) listed a wc :=
 ⟨o,ho,.inr ⟨hone,fun w hR=>by unfold wpOp;simp only[ho,hw,if_true];exact .inl (h w hR)⟩⟩
end
def zF (l:List Nat):List Value:=l.map fun x:Nat=>Value.int .u8 (x:Int)
def uF (l:List Nat):(zF l).length=l.length:=by simp[zF]
def zJv (l:List Nat) (x:Nat):zF (l++[x])=zF l++[.int .u8 (x:Int)]:=by simp[zF]
def elt_u8:Elt Tryz.prog 45 5 1 1:=⟨Tryz.underlying45,by kernel_rfl,by omega⟩
def u8_one (x:Int): ∀ u∈[Value.int .u8 x],u.oneCell'=true:=by
 intro u hu;simp at hu;subst hu;rfl
def WrS (w:World) (gw:Nat) (L:List Bool) (r:Option Nat):Prop :=
 ∃ A c,r=A.map (·.block)∧Blk w gw 203 #[.slice A (L.length/8) c,.int .u64 (yJ (uO L):Nat),.int .i64 ((L.length%8:Nat):Int)] ∧
  w.ownsRow (gw+1) 5 1 (.slice A (L.length/8) c) (L.length/8) (zF (jJ L))
def put_or (R0:List Bool) (value yV:Nat) (h0:R0.length<8) (hw:yV≤24) (hv:value<2 ^ yV) :
 bits .or .u64 (IntKind.u64.wrap ((yJ R0:Int)*2 ^ yV)) (value:Int)=(yJ (R0++qF value yV):Nat):=by
 have h1:=zBj R0;have h2:(2:Nat) ^ R0.length≤2 ^ 7:=wI4 (by omega) (by omega);have h3:(2:Nat) ^ yV≤2 ^ 24:=wI4 (by omega) hw
 have h4:yJ R0*2 ^ yV<2 ^ 7*2 ^ 24:=by
  have h5:yJ R0*2 ^ yV≤yJ R0*2 ^ 24:=wN0 _ h3;have:yJ R0<2 ^ 7:=by omega
  omega
 have e1:IntKind.u64.wrap ((yJ R0:Int)*2 ^ yV)=((yJ R0*2 ^ yV:Nat):Int):=by
  rw[IntKind.wrap_u64]
  push_cast
  have:((yJ R0*2 ^ yV:Nat):Int)<18446744073709551616:=by omega
  push_cast at this
  exact wN1 (by exact_mod_cast wN2 _) this
 rw[e1,u64_or_nat _ _ (by omega) (by omega)];congr 1
 rw[nat_join yV _ _ (by simp) hv,zDu,zBm hv,qB]
def put_and (R:List Bool) (hb:yJ R<4294967296):bits .and .u64 (yJ R:Int) (IntKind.u64.wrap (IntKind.u64.wrap (2 ^ (R.length%8))-1))=(yJ (uO R):Nat):=by
 have hq:R.length%8<8:=by omega
 have h3:(2:Nat) ^ (R.length%8)≤2 ^ 8:=wI4 (by omega) (by omega);have h4:=wI5 (R.length%8)
 have e1:IntKind.u64.wrap (2 ^ (R.length%8))=((2 ^ (R.length%8):Nat):Int):=by
  rw[IntKind.wrap_u64];have:((2:Int) ^ (R.length%8))=((2 ^ (R.length%8):Nat):Int):=by push_cast;rfl
  rw[this];exact wN1 (by omega) (by omega)
 have e2:IntKind.u64.wrap (((2 ^ (R.length%8):Nat):Int)-1)=((2 ^ (R.length%8)-1:Nat):Int):=by
  rw[IntKind.wrap_u64,wN1 (by omega) (by omega)];omega
 rw[e1,e2,u64_and_nat _ _ (by omega) (by omega),wN3];unfold uO;rw[zOA];rw[show R.length-8*(R.length/8)=R.length%8 by omega]
def manyOf (w:World) (gw:Nat):Nat:=match w.cell? ⟨gw,2,none⟩ with | some (.int _ n)=>n.toNat | _=>0
def many_of {w:World} {gw:Nat} {T:TypeId} {x y:Value} {k:IntKind} {n:Int} (h:Blk w gw T #[x,y,.int k n]):manyOf w gw=n.toNat:=by
 unfold manyOf;rw[h.cell 2];rfl
def zGP {w:World} {gw n size:Nat} {e:TypeId} {v:Value} {xs:List Value} (h:w.ownsRow (gw+1) e size v n xs) (i:Nat) (u:Value):(w.setCell ⟨gw,i,none⟩ u).ownsRow (gw+1) e size v n xs:=by
 obtain⟨hl,hh⟩:=h;refine⟨hl, ?_⟩;rcases hh with ⟨rfl,rfl⟩ | ⟨g,cap,cur,rfl,h1,hg,h2⟩
 ·exact .inl ⟨rfl,rfl⟩
 ·exact .inr ⟨g,cap,cur,rfl,h1,(Below.heap_setCell w ⟨gw,i,none⟩ u g (by show g≠gw;omega)).trans hg,h2⟩
def zJd (A:Option Addr) (n c:Nat):(Value.slice A n c).ownBlock=A.map (·.block):=by cases A<;>rfl
def zHA:zAY (fun a b:World=>a=b):=⟨fun _=>rfl,fun h k=>h.trans k⟩
def zSt (R:List Bool) (j:Nat) (h:j<R.length/8):(jJ R).take (j+1)=(jJ R).take j++[yJ ((R.drop (8*j)).take 8)]:=by
 rw[wC3 (by rw[zCz];exact h)];simp[jJ]
def own_ne {w:World} {gw n size:Nat} {e:TypeId} {v:Value} {xs:List Value} (h:w.ownsRow (gw+1) e size v n xs):some gw≠v.ownBlock:=fun hk=>by
 have:=(h.lt gw hk.symm).1;omega
def zNj {w w':World} {base:Nat} {e:TypeId} {size n:Nat} {v:Value} {xs:List Value} (h:w.ownsRow base e size v n xs) (hb:Ext w w'):w'.ownsRow base e size v n xs:=by
 obtain⟨hl,hh⟩:=h;refine⟨hl, ?_⟩;rcases hh with ⟨rfl,rfl⟩ | ⟨g,cap,cur,rfl,h1,hg,h2⟩
 ·exact .inl ⟨rfl,rfl⟩
 ·exact .inr ⟨g,cap,cur,rfl,h1,(hb.block g (Blk.lt (w:=w) (t:=e) (cs:=cur) hg)).trans hg,h2⟩
def put_len (L:List Bool) (value yV:Nat):(L++qF value yV).length=L.length+yV:=by simp[qB]
def zMq (gw:Nat) (L:List Bool) (r:Option Nat) (value yV:Nat) (w:World) (h:WrS w gw L r) (hw:yV≤24) (hv:value<2 ^ yV) (hl:L.length≤1000000000000) :
 Calls Tryz.prog 156 #[.pointer (some ⟨gw,0,none⟩),.int .i64 (yV:Int),.int .i64 (value:Int)] w fun e w'=>e=.returned (.tuple #[]) ∧
  ∃ r',WrS w' gw (L++qF value yV) r'∧(r'=r∨ ∃ b,r'=some b∧w.heap.size≤b)∧Upd (fun b=>b=gw∨r=some b) w w':=by
 obtain⟨A,c,hr,hB,hown⟩:=h;have HOR:=zA (put_or (uO L) value yV (by rw[zFv];omega) hw hv);have hRl:(uO L++qF value yV).length=L.length%8+yV:=by rw[wF3,zFv,qB]
 have HPA:=zA (zPF L (qF value yV));have HRA:=zA (zQT L (qF value yV));have HPL:=zA (put_len L value yV);have HR0:=zA (zBj (uO L));have hv24:value<16777216:=by have:=wI4 (n:=2) (by omega) hw;omega
 have hlt0:yJ (uO L)<256:=by have:=zBj (uO L);rw[zFv] at this;have:=wI4 (n:=2) (by omega) (show L.length%8≤8 by omega);omega
 have hN0:L.length%8<8:=by omega
 have hn0b:L.length/8≤1000000000000:=by omega
 have hRb:yJ (uO L++qF value yV)<4294967296:=by
  have:=zBj (uO L++qF value yV);rw[hRl] at this;have:=wI4 (n:=2) (by omega) (show L.length%8+yV≤32 by omega);omega
 generalize hR:uO L++qF value yV=R at *;generalize hm:L.length%8=m at *;generalize hn:L.length/8=n0 at *;generalize hT:jJ L=T at *;generalize hacc:yJ (uO L)=acc at *;have HR:=zA hR;have Hm:=zA hm;have Hn:=zA hn;have c0:=hB.cell 0;have c1:=hB.cell 1;have c2:=hB.cell 2;have f1:=hB.frozen 1;have f2:=hB.frozen 2;simp at c0 c1 c2;have hgw:=hB.lt;clear hR hm hn hT hacc hl hv;have HRL:=zA hRl;clear hRl;go_enter Tryz.func156,Tryz.ntmps156;go_wp2_with fail;rw[HOR.out];have hBs:=(hB.set_ 1 (.int .u64 (yJ R:Nat))).set_ 2 (.int .i64 ((m:Int)+yV));simp at hBs
 have hun:Upd (fun b=>b=gw∨r=some b) w ((w.setCell ⟨gw,1,none⟩ (.int .u64 (yJ R:Nat))).setCell ⟨gw,2,none⟩ (.int .i64 ((m:Int)+yV))) :=
  ((Upd.refl _ w).setCell (.inl rfl) _).setCell (.inl rfl) _
 have hown2:((w.setCell ⟨gw,1,none⟩ (.int .u64 (yJ R:Nat))).setCell ⟨gw,2,none⟩ (.int .i64 ((m:Int)+yV))).ownsRow (gw+1) 5 1 (.slice A n0 c) n0 (zF T):=zGP (zGP hown 1 _) 2 _;generalize (w.setCell ⟨gw,1,none⟩ (.int .u64 (yJ R:Nat))).setCell ⟨gw,2,none⟩ (.int .i64 ((m:Int)+yV))=w2 at *;clear c0 c1 c2 f1 f2
 go_loopw [29] (fun _ wr=> ∃ (j:Nat) (A':Option Addr) (c':Nat),j≤R.length/8∧Blk wr gw 203 #[.slice A' (n0+j) c',.int .u64 (yJ R:Nat),.int .i64 ((R.length-8*j:Nat):Int)] ∧
  wr.ownsRow (gw+1) 5 1 (.slice A' (n0+j) c') (n0+j) (zF (T++(jJ R).take j))∧(A'.map (·.block)=r∨ ∃ b,A'.map (·.block)=some b∧w.heap.size≤b)∧Upd (fun b=>b=gw∨r=some b) w wr) (fun _ wr=>manyOf wr gw)
 case atStart=>exact⟨0,A,c,by omega,by have:=HRL.out;have e:((R.length-8*0:Nat):Int)=(m:Int)+yV:=by omega
                                       rw[e];exact hBs,by simpa using hown2,.inl hr.symm,hun⟩
 case round =>
  clear hBs hown2 hun hB hown;obtain⟨j,A',c',hj,hB,hown,hrow,hu⟩:=hrel;have c0:=hB.cell 0;have c1:=hB.cell 1;have c2:=hB.cell 2;simp only[wH5,wN4,wN5] at c0 c1 c2
  by_cases hlt:j<R.length/8
  ·obtain⟨k,hk⟩: ∃ k:Nat,R.length-8*j=k+8:=⟨R.length-8*j-8,by omega⟩
   have HK:=zA hk;rw[hk] at c2;have hk8:k≤32:=by have:=HRL.out;omega
   have hj8:j≤4:=by have:=HRL.out;omega
   clear hk;go_wp2_with fail;have HC0:=zA (fun W (hW:Ext wr.drew W)=>by have:=(hB.drew.ext hW).cell 0;simpa using this);have HC1:=zA (fun W (hW:Ext wr.drew W)=>by have:=(hB.drew.ext hW).cell 1;simpa using this);have HC2:=zA (fun W (hW:Ext wr.drew W)=>by have:=(hB.drew.ext hW).cell 2;rw[HK.out] at this;simpa using this);clear c0 c1 c2;have HWR:Hid (IntKind.i64.wrap (k:Int)=k):=zA (IntWalk.i64_in _ (by omega));have HPJ:=zA (zSt R j (by omega))
   have HQ:Hid (yJ ((R.drop (8*j)).take 8)=yJ R/2 ^ k%256):=zA (by
    rw[numB_mid R (8*j) 8 (by omega)];have:=HK.out
    rw[show R.length-(8*j+8)=k by omega])
   rw[HQ.out] at HPJ;have HCV:Hid (IntKind.u8.wrap ((yJ R:Int)/2 ^ k)=((yJ R/2 ^ k%256:Nat):Int)):=zA (by rw[IntKind.wrap_u8'];simp);generalize yJ R/2 ^ k%256=y at *;refine zMg qS [0] [1,2,3,4,5,6,7,8,9,10,11,12,13,14,15,16] 17 [18,19,20] (by kernel_rfl) (by kernel_rfl) ?_
   iterate 1 (refine lp_ex rfl (by rfl) ?_;apply Exists.intro;refine⟨fun w=> ?_, ?_⟩; · (go_simp;with_reducible rfl)
              simp only[Act.put,sA,sB,sC])
   refine lp_nil ?_
   iterate 15 (refine lo_ex rfl (by rfl) ?_;apply Exists.intro;refine⟨fun w hw=> ?_, ?_⟩; · (have h0:=HC0.out w hw;have h1:=HC1.out w hw;have h2:=HC2.out w hw;have h3:=HWR.out;have h5:=HCV.out;go_simp;with_reducible rfl)
               simp only[Act.put,sA,sB,sC])
   refine lo_alone rfl (by kernel_rfl) (by rfl) (fun w3 hw3=> ?_);go_simp
   refine⟨(Ext.refl w3).alloc _, ?_⟩;refine lo_nil ?_;intro w4 hw4;have hx4:Ext wr w4:=((((Ext.refl wr).drew).trans hw3).alloc (.cells #[.int .u8 (y:Int)] 5)).trans hw4;have hB4:=hB.ext hx4;have hown4:=zNj hown hx4;have hone:=zA ((zMQ w3 5 (.int .u8 (y:Int))).ext hw4);have hz4:=hx4.size;have hgw4:=hB4.lt;clear HC0 HC1 HC2 HCV HWR hw3 hw4
   try simp only[List.filterMap_cons,List.filterMap_nil,wN5,wN4,wH5]
   go_wp2_with (at_builtin;go_must (refine wApf elt_u8 rfl _ _ rfl (gw+1) (.slice A' (n0+j) c') _ _ rfl hown4 _ 1 [.int .u8 _] rfl hone.out (u8_one _) (by omega) (by omega) (by omega) ?_);intro A7 c7 w7 hown7 hg7 hrow7;have hB7:=hB4.grown hg7 (own_ne hown4);have c0:=hB7.cell 0;have f0:=hB7.frozen 0;have c2:=hB7.cell 2;have f2:=hB7.frozen 2;rw[HK.out] at c2;simp only[wH5,wN4,wN5] at c0 c2)
   simp only[xO];go_wp2_with fail;go_roundw
   case rel =>
    have hb8:=(hB7.set_ 0 (.slice A7 (n0+j+1) c7)).set_ 2 (.int .i64 (k:Int));simp only[wN6,wG1,wN7] at hb8;refine⟨j+1,A7,c7,by omega, ?_, ?_, ?_, ?_⟩
    ·have e:((R.length-8*(j+1):Nat):Int)=(k:Int):=by have:=HK.out;omega
     rw[e];exact hb8
    ·rw[HPJ.out, ←wG2,zJv];exact zGP (zGP hown7 0 _) 2 _
    ·rw[zJd] at hrow7;rcases hrow7 with h7 | h7
     ·rw[h7];exact hrow
     ·exact .inr ⟨_,h7,by have:=hu.size;omega⟩
    ·have h8:=(hu.trans (Upd.of_ext (S:=fun _=>False) hx4) (fun x hx=>hx.elim)).grown hg7 (fun b hb=>by
      rw[zJd] at hb;rcases hrow with h9 | ⟨b',h9,h10⟩
      ·exact .inl (.inr (h9 ▸ hb))
      ·rw[h9] at hb;injection hb with hb
       subst hb
       exact .inr h10)
     exact (h8.setCell (.inl rfl) _).setCell (.inl rfl) _
   case measure =>
    have hb8:=(hB7.set_ 0 (.slice A7 (n0+j+1) c7)).set_ 2 (.int .i64 (k:Int));simp only[wN6,wG1,wN7] at hb8;rw[many_of hb8,many_of hB];have:=HK.out;omega
  ·have hjj:j=R.length/8:=by omega
   have hk:R.length-8*j=R.length%8:=by omega
   rw[hk] at c2 hB;have hk8:R.length%8<8:=by omega
   have HAN:=zA (put_and R hRb);generalize hq:R.length%8=q at *;clear hk;go_wp2_with fail;refine zAi zHA 11 (by kernel_rfl) (by kernel_rfl) ?_;simp only[wJ9,wL2]
   iterate 11 (refine zBO (by rfl) ?_;apply Exists.intro;refine⟨fun w hw=> ?_, ?_⟩; · (subst hw;go_simp;with_reducible rfl)
               simp only[Act.put,sA,sB,sC])
   refine vH ?_;rintro w3 rfl;rw[HAN.out];have f1:=hB.frozen 1
   try simp only[wN8,wL3]
   go_wp2_with fail;go_end0
   have hb8:=hB.drew.set_ 1 (.int .u64 (yJ (uO R):Nat));simp only[wN6,wG1,wN7] at hb8;refine⟨rfl,A'.map (·.block),⟨A',c',rfl, ?_, ?_⟩,hrow,hu.drew.setCell (.inl rfl) _⟩
   ·have e1:(L++qF value yV).length/8=n0+j:=by have:=HPL.out;have:=Hm.out;have:=Hn.out;have:=HRL.out;omega
    have e2:(L++qF value yV).length%8=q:=by have:=HPL.out;have:=Hm.out;have:=Hn.out;have:=HRL.out;omega
    rw[e1,e2,HRA.out];exact hb8
   ·have e1:(L++qF value yV).length/8=n0+j:=by have:=HPL.out;have:=Hm.out;have:=Hn.out;have:=HRL.out;omega
    rw[e1,HPA.out];have e3:(jJ R).take j=jJ R:=wC4 (by rw[zCz];omega);rw[e3] at hown;exact zGP (w:=wr.drew) hown 1 _
def zQd {w:World} {base:Nat} {e:TypeId} {size n c:Nat} {A:Option Addr} {xs:List Value} (h:w.ownsRow base e size (.slice A n c) n xs):SL w size (.slice A n c) n xs∧ ∀ ad,A=some ad→base≤ad.block:=by
 obtain⟨B,d,e1,h1,h2⟩:=zAG h;injection e1 with e1 e2 e3
 subst e1 e3;exact⟨h1,h2⟩
def WrS.nil (w:World) (gw:Nat) (h:Blk w gw 203 #[.slice none 0 0,.int .u64 0,.int .i64 0]):WrS w gw [] none :=
 ⟨none,0,rfl,h,World.ownsRow_nil _ _ _ _⟩
def WrS.ext {w w':World} {gw:Nat} {L:List Bool} {r:Option Nat} (h:WrS w gw L r) (hx:Ext w w'):WrS w' gw L r:=by
 obtain⟨A,c,h1,h2,h3⟩:=h;exact⟨A,c,h1,h2.ext hx,zNj h3 hx⟩
def WrS.lt {w:World} {gw:Nat} {L:List Bool} {r:Option Nat} (h:WrS w gw L r):gw<w.heap.size:=by
 obtain⟨A,c,h1,h2,h3⟩:=h;exact h2.lt
def WrS.row {w:World} {gw:Nat} {L:List Bool} {r:Option Nat} (h:WrS w gw L r): ∀ b,r=some b→gw<b∧b<w.heap.size:=by
 obtain⟨A,c,h1,h2,h3⟩:=h;intro b hb;subst h1;have:=h3.lt b (by rw[zJd];exact hb);omega
def WrS.drew {w:World} {gw:Nat} {L:List Bool} {r:Option Nat} (h:WrS w gw L r):WrS w.drew gw L r:=h
def zAD (C:List (Nat×Nat)) (xs:List Int) (k:Nat) (h1:k<C.length) (h2:k<xs.length) (h:k<(zL C xs).length):(zL C xs)[k]=(xs[k],((C[k]).1:Int),((C[k]).2:Int)):=by
 simp[zL]
def qV (T:List Tok) (s:Int):Option Tok:=T.find? (fun t=>t.1 ==s)
def zBs (T:List Tok) (s:Int):List Bool:=match qV T s with | some t=>qF t.2.2.toNat t.2.1.toNat | none=>[]
def zBe (T:List Tok):Prop:= ∀ s t,qV T s=some t→ ∃ long code:Nat,t=(s,(long:Int),(code:Int))∧1≤long∧long≤16∧code<2 ^ long
def zFH (cs xs:List Int) (hl:cs.length=16) (h:zT cs xs=0):zBe (zL (zD cs 16) xs):=by
 obtain⟨q1,q2,q3,q4,q5,q6⟩:=zAQ h;have hfit:=zEv cs q4 hl 16 (by omega);intro s t ht;have hm:=wN9 ht;have hs:=List.find?_some ht;simp only[beq_iff_eq] at hs;unfold zL at hm;obtain⟨i,hi,rfl⟩:=wO0.1 hm;simp only[wO1] at hs ⊢;simp only[wO2] at hi;obtain⟨f1,f2,f3⟩:=hfit _ (wE2 (show i<(zD cs 16).length by omega));exact⟨_,_,by rw[hs],f1,f2,by omega⟩
def zEu {T:List Tok} {s:Int} {long code:Nat} (h:qV T s=some (s,(long:Int),(code:Int))):zBs T s=qF code long:=by
 unfold zBs;rw[h];simp
def zFs {T:List Tok} (hf:zBe T) (s:Int):(zBs T s).length≤16:=by
 unfold zBs
 cases h:qV T s with
 | none=>simp
 | some t =>
   obtain⟨long,code,rfl,h1,h2,h3⟩:=hf s t h;simp[qB];omega
def zOM (C:List (Nat×Nat)) (xs:List Int) (h:C.length=xs.length):(zL C xs).map (·.1)=xs:=by
 induction C generalizing xs with
 | nil=>cases xs with | nil=>rfl | cons _ _=>simp at h
 | cons c C ih =>
   cases xs with
   | nil=>simp at h
   | cons x xs =>
     have h':C.length=xs.length:=by simpa using h
     have:=ih xs h';simp only[zL,wM7,wC8] at this ⊢;rw[this]
def findT_at {Z:List Tok} {s:Int} {k:Nat} (hk:k<Z.length) (h:s∉(Z.map (·.1)).take k) (h2:(Z[k]).1=s):qV Z s=some Z[k]:=by
 unfold qV;rw[wO3];refine⟨by simpa using h2,k,hk,rfl,fun j hj=> ?_⟩;simp only[wE4,beq_eq_false_iff_ne];intro h3;apply h;rw[←h3,wE8];exact⟨j,by simp;omega,by simp⟩
section
open Go.RowKit Go.Maps Go.WideMaps
def zDs (T:List Tok) (s:Int):Option Value:=(T.find? (fun t=>t.1 ==s)).map (fun t=>Value.agg #[.int .i64 t.1,.int .i64 t.2.1,.int .i64 t.2.2])
def zDx (T:List Tok) (p:Int×Int):Option Value:=(T.find? (fun t=>t.2.1 ==p.1&&t.2.2 ==p.2)).map (fun t=>Value.int .i64 t.1)
def zMc (T:List Tok) (t:Tok) (h: ∀ u∈T,u.1≠t.1):zDs (T++[t]) t.1=some (.agg #[.int .i64 t.1,.int .i64 t.2.1,.int .i64 t.2.2]):=by
 have h1:T.find? (fun u=>u.1 ==t.1)=none:=by
  rw[wO4];intro u hu;simpa using h u hu
 unfold zDs;rw[wO5,h1];simp
def zLN (T:List Tok) (t:Tok) (s:Int) (h:s≠t.1):zDs (T++[t]) s=zDs T s:=by
 have h1:[t].find? (fun u=>u.1 ==s)=none:=by
  rw[wO4];intro u hu;have:u=t:=by simpa using hu
  subst this;simpa using fun h2=>h h2.symm
 unfold zDs;rw[wO5,h1,Option.or_none]
def zML (T:List Tok) (t:Tok) (h: ∀ u∈T,u.2≠t.2):zDx (T++[t]) (t.2.1,t.2.2)=some (.int .i64 t.1):=by
 have h1:T.find? (fun u=>u.2.1 ==t.2.1&&u.2.2 ==t.2.2)=none:=by
  rw[wO4];intro u hu;have:=h u hu;simp only[wA9,beq_iff_eq];exact fun h2=>this (Prod.ext h2.1 h2.2)
 unfold zDx;rw[wO5,h1];simp
def zKR (T:List Tok) (t:Tok) (p:Int×Int) (h:p≠t.2):zDx (T++[t]) p=zDx T p:=by
 have h1:[t].find? (fun u=>u.2.1 ==p.1&&u.2.2 ==p.2)=none:=by
  rw[wO4];intro u hu;have:u=t:=by simpa using hu
  subst this;simp only[wA9,beq_iff_eq];exact fun h2=>h (Prod.ext h2.1.symm h2.2.symm)
 unfold zDx;rw[wO5,h1,Option.or_none]
def arrKey2:ArrKey Tryz.prog 260 3 2:=⟨Tryz.underlying260,by kernel_rfl,by kernel_rfl,by kernel_rfl⟩
def typesPos: ∃ m,Tryz.prog.types.size=m+1:=⟨Tryz.prog.types.size-1,by have:0<Tryz.prog.types.size:=of_decide_eq_true (by kernel_rfl);omega⟩
def keyed_pair:Keyed Tryz.prog 260:=Keyed.of_law (ArrKey.law arrKey2)
def klP (p:Int×Int):Lit:=.string (keyBytes [.int .i64 p.1,.int .i64 p.2])
def okP (p:Int×Int):Prop:=(-9223372036854775808≤p.1∧p.1≤9223372036854775807)∧(-9223372036854775808≤p.2∧p.2≤9223372036854775807)
def zJg (p:Int×Int) (h:okP p):keyOf Tryz.prog 260 (.agg #[.int .i64 p.1,.int .i64 p.2])=some (klP p) :=
 keyOf_pair arrKey2 Tryz.underlying3 typesPos (WalkArith.wf_i64 h.1) (WalkArith.wf_i64 h.2)
def klP_inj {p q:Int×Int} (hp:okP p) (hq:okP q) (h:klP p=klP q):p=q:=by
 have h1:=zJg p hp;have h2:=zJg q hq;rw[←h] at h2;have:=keyed_pair.inj h1 h2;simp at this;exact Prod.ext this.1 this.2
abbrev MapP (w:World) (b n:Nat) (g:Int×Int→Option Value):Prop:=MapG Tryz.prog 260 klP okP w b n g
def CoderS (w:World) (gc:Nat) (T:List Tok):Prop :=
 ∃ m1 m2 n,Blk w gc 241 #[.map (some m1),.map (some m2)]∧zEV Tryz.prog 3 w m1 n (zDs T)∧MapP w m2 n (zDx T)
def CoderS.ext {w w':World} {gc:Nat} {T:List Tok} (h:CoderS w gc T) (hx:Ext w w'):CoderS w' gc T:=by
 obtain⟨m1,m2,n,a,b,c⟩:=h;exact⟨m1,m2,n,a.ext hx,b.ext hx,c.ext hx⟩
def CoderS.below {B:Nat} {w w':World} {gc:Nat} {T:List Tok} (h:CoderS w gc T) (hB:w.heap.size≤B) (hx:Below B w w'):CoderS w' gc T:=by
 obtain⟨m1,m2,n,a,b,c⟩:=h;exact⟨m1,m2,n,a.below hx (wA1 a.lt hB),b.below hx (wA1 b.lt hB),c.below hx (wA1 c.lt hB)⟩
def zIr (cs:List Int): ∀ k,(zD cs k).Nodup∧ ∀ p∈zD cs k,p.1≤k:=by
 intro k
 induction k with
 | zero=>rw[zCg];simp
 | succ k ih =>
   rw[show zD cs (k+1)=zD cs k++uD cs k (cs.getD k 0).toNat from zED cs k]
   have hrow: ∀ n,(uD cs k n).Nodup:=by
    intro n;unfold uD;refine List.Pairwise.map _ ?_ List.nodup_range;intro a b hab h;have:=(Prod.mk.inj h).2;omega
   refine⟨wM6.2 ⟨ih.1,hrow _, ?_⟩, ?_⟩
   ·intro p hp q hq;have h1:=ih.2 p hp;simp only[uD,wD6,wB7] at hq;obtain⟨i,_,rfl⟩:=hq;rintro rfl;simp at h1;omega
   ·intro p hp;rcases wE6.1 hp with h | h
    ·have:=ih.2 p h;omega
    ·simp only[uD,wD6,wB7] at h;obtain⟨i,_,rfl⟩:=h;simp
def zPZ {α:Type} {l:List α} {k:Nat} {x:α} (h:x∈l.take k): ∃ j, ∃ hj:j<l.length,j<k∧x=l[j]:=by
 obtain⟨j,hj,rfl⟩:=wO0.1 h;simp at hj;exact⟨j,by omega,by omega,by simp⟩
def zQi {α:Type} {l:List α} (h:l.Nodup) {i j:Nat} (hi:i<l.length) (hj:j<l.length) (hij:i≠j):l[i]≠l[j]:=fun e=>hij ((List.getElem_inj h).1 e)
def zSD (cs xs:List Int) (hxs:xs.Nodup) (hl:(zD cs 16).length=xs.length) (k:Nat) (hk:k<(zL (zD cs 16) xs).length) :
 (∀ u∈(zL (zD cs 16) xs).take k,u.1≠((zL (zD cs 16) xs)[k]).1)∧(∀ u∈(zL (zD cs 16) xs).take k,u.2≠((zL (zD cs 16) xs)[k]).2):=by
 have hz:(zL (zD cs 16) xs).length=xs.length:=by rw[zBS _ _ (by omega),hl]
 have hn:=(zIr cs 16).1;generalize zD cs 16=C at *;constructor
 ·intro u hu;obtain⟨j,hj,hjk,rfl⟩:=zPZ hu;rw[zAD C xs j (by omega) (by omega),zAD C xs k (by omega) (by omega)];exact zQi hxs _ _ (by omega)
 ·intro u hu;obtain⟨j,hj,hjk,rfl⟩:=zPZ hu;rw[zAD C xs j (by omega) (by omega),zAD C xs k (by omega) (by omega)];intro h;have h1:=(Prod.mk.inj h).1;have h2:=(Prod.mk.inj h).2;exact zQi hn (i:=j) (j:=k) (by omega) (by omega) (by omega) (Prod.ext (by omega) (by omega))
def zMb (Z:List Tok) (k:Nat) (h:k<Z.length):Z.take (k+1)=Z.take k++[Z[k]]:=wC3 h
end
section
open Go.RowKit Go.Maps Go.WideMaps
def zDR (cs xs:List Int) (sl:Value) (w:World) (hl:cs.length=16) (hs:SL w 1 sl xs.length (ints xs)) (h:zT cs xs=0) :
 Calls Tryz.prog 184 #[.agg (yL cs sl)] w fun e w'=> ∃ gc,e=.returned (.pointer (some ⟨gc,0,none⟩))∧CoderS w' gc (zL (zD cs 16) xs)∧Ext w w':=by
 obtain⟨q1,q2,q3,q4,q5,q6⟩:=zAQ h;have HW:=zA (fun W h=>zOW cs xs sl W hl h q1 q4 q2 q3);have hts:=zA (vL cs sl hl);have hlen:(zD cs 16).length=xs.length:=by have:=zBw cs (fun z hz=>(yD.1 q1 z hz).1) 16 (by omega);omega
 have hZl:(zL (zD cs 16) xs).length=xs.length:=by rw[zBS _ _ (by omega),hlen]
 have HAP:=zA (zSD cs xs q6 hlen);have HFIT:=zA (zEv cs q4 hl 16 (by omega));have HIN:=zA (yD.1 q5);have HAT:=zA (fun k (h1:k<(zD cs 16).length) (h2:k<xs.length) hk=>zAD (zD cs 16) xs k h1 h2 hk);have hmm:= @run_makeMap Tryz.prog;generalize yL cs sl=tv at *
 have HBD:Hid (∀ k (hk:k<(zL (zD cs 16) xs).length),0≤((zL (zD cs 16) xs)[k]).1∧((zL (zD cs 16) xs)[k]).1≤255∧okP ((zL (zD cs 16) xs)[k]).2):=zA (fun k hk=>by
  have hk1:k<(zD cs 16).length:=by omega
  have hk2:k<xs.length:=by omega
  rw[HAT.out k hk1 hk2 hk];have h1:=HIN.out _ (wE2 hk2);obtain⟨f1,f2,f3⟩:=HFIT.out _ (wE2 hk1);have h2:=wI4 (n:=2) (by omega) f2
  refine⟨h1.1,h1.2,⟨by simp only;omega,by simp only;omega⟩,by simp only;omega,by simp only;omega⟩)
 clear HAT HIN HFIT hlen;generalize zL (zD cs 16) xs=Z at *;have HZL:=zA hZl;clear h q1 q2 q4 q5 q6 hZl;go_enter Tryz.func184,Tryz.ntmps184
 go_wp2_with (first
  | (refine wBox rfl 42 (.tmp 0) rfl tv rfl ?_;intro w1 g hb1 hx1 hg;have hs1:=hs.ext hx1)
  | (refine wBox rfl 241 (.tmp 8) rfl _ rfl ?_;intro w3 gc hbc hx3 hgc;have hb3:=((hb1.alloc (.map #[] 0)).alloc (.map #[] 0)).ext hx3;have hs3:=(hs1.ext (((Ext.refl w1).alloc (.map #[] 0)).alloc (.map #[] 0))).ext hx3)
  | (refine wLdB rfl 42 (.tmp 1) rfl _ rfl hb3 _ Tryz.underlying42 rfl 17 zS hts.out ?_)
  | (go_at_call 106;(with_reducible refine (HW.out _ hs3).mono ?_);rintro e w4 ⟨A,c,rfl,hsl,hfr,hx4⟩))
 have hm1:zEV Tryz.prog 3 w4 w1.heap.size 0 (zDs []):=(((MapG.made w1).alloc (.map #[] 0)).ext hx3).ext hx4
 have hm2:MapP w4 (w1.heap.size+1) 0 (zDx []):=by
  have:=(((MapG.made (P:=Tryz.prog) (k:=260) (kl:=klP) (ok:=okP) (w1.alloc (.map #[] 0))).ext hx3).ext hx4)
  rwa [World.size_alloc] at this
 have hbc4:=hbc.ext hx4;have hxw:Ext w w4:=((((hx1.alloc (.map #[] 0)).alloc (.map #[] 0)).trans hx3).trans hx4)
 have hz1:=hx1.size;have hz3:=hx3.size;simp only[World.size_alloc] at hz3 hgc;have hz4:=hx4.size;have hc1:xs.length≤c∧c≤9223372036854775807:=by obtain⟨A',c',e,h1,h2, -⟩:=hsl;injection e with e1 e2 e3;subst e3;exact⟨h1,h2⟩
 obtain⟨hc1,hc2⟩:=hc1;generalize hM:w1.heap.size=M at *;clear hM hmm hb1 hb3 hs1 hs3 hbc hx1 hx3 hx4 hs
 go_loopw [13] (fun i wr=> ∃ k:Nat,k≤xs.length∧i=.int .i64 (k:Int)∧zEV Tryz.prog 3 wr M k (zDs (Z.take k))∧MapP wr (M+1) k (zDx (Z.take k))∧Upd (fun b=>b=M∨b=M+1) w4 wr) (fun i _=>xs.length-(intOf i).toNat)
 case atStart=>exact⟨0,by omega,rfl,hm1,hm2,Upd.refl _ _⟩
 case round =>
  clear hm1 hm2;obtain⟨k,hk,rfl,hm1,hm2,hu⟩:=hrel
  by_cases hlt:k<xs.length
  ·have hkZ:k<Z.length:=by have:=HZL.out;omega
   have hslr:=hsl.upd hu (fun ad h=>by have:=hfr ad h;omega);obtain⟨ad,rfl,hbl,h1,h2,h3⟩:=hslr.tok hlt HZL.out hkZ;have hbcr:=hu.blk hbc4 (by omega);obtain⟨a1,a2⟩:=HAP.out k hkZ;obtain⟨b1,b2,b3⟩:=HBD.out k hkZ;have HS1:=zA (zMc (Z.take k) Z[k] a1);have HS2:=zA (fun s=>zLN (Z.take k) Z[k] s);have HC1:=zA (zML (Z.take k) Z[k] a2);have HC2:=zA (fun p=>zKR (Z.take k) Z[k] p);have HTS:=zA (zMb Z k hkZ);generalize Z[k]=t at *;obtain⟨t1,t2,t3⟩:=t;simp only at b1 b2;clear a1 a2;have hkey1:=zA (zBo (P:=Tryz.prog) Tryz.underlying3 (a:=t1) (by omega) (by omega));have hkey2:=zA (zJg (t2,t3) b3);have HB3:=zA b3;clear b3;simp only at h1 h2 h3;go_wp2_with fail;have hn:=Blk.new wr 94 #[.int .i64 t1,.int .i64 t2,.int .i64 t3];have hxa:=Ext.alloc (Ext.refl wr) (.cells #[.int .i64 t1,.int .i64 t2,.int .i64 t3] 94);have hm1a:=hm1.alloc (.cells #[.int .i64 t1,.int .i64 t2,.int .i64 t3] 94);have hm2a:=hm2.alloc (.cells #[.int .i64 t1,.int .i64 t2,.int .i64 t3] 94);have hbca:=hbcr.ext hxa;have hua:=hu.trans (Upd.of_ext (S:=fun _=>False) hxa) (fun x hx=>hx.elim);have hnz:wr.heap.size≠M∧wr.heap.size≠M+1:=by have:=hm1.lt;have:=hm2.lt;omega
   generalize hw2:wr.alloc (.cells #[.int .i64 t1,.int .i64 t2,.int .i64 t3] 94)=w5 at *;generalize wr.heap.size=gn at *;clear hw2 h1 h2 h3 hxa hm1 hm2 hbcr hu hslr;have hcv: ∀ W,Blk W gn 94 #[.int .i64 t1,.int .i64 t2,.int .i64 t3]→W.cell? ⟨gn,0,none⟩=some (.int .i64 t1)∧W.cell? ⟨gn,1,none⟩=some (.int .i64 t2)∧W.cell? ⟨gn,2,none⟩=some (.int .i64 t3):=fun W h=>⟨h.cell 0,h.cell 1,h.cell 2⟩
   have hcc: ∀ W,Blk W gc 241 #[.map (some M),.map (some (M+1))]→W.cell? ⟨gc,0,none⟩=some (.map (some M))∧W.cell? ⟨gc,1,none⟩=some (.map (some (M+1))):=fun W h=>⟨h.cell 0,h.cell 1⟩
   have HCV:=zA hcv;have HCC:=zA hcc;clear hcv hcc;obtain⟨n1,n2,n3⟩:=HCV.out _ hn;obtain⟨g1,g2⟩:=HCC.out _ hbca;refine zAi zHA 7 (by kernel_rfl) (by kernel_rfl) ?_;simp only[wJ9,wL2]
   iterate 7 (refine zBO (by rfl) ?_;apply Exists.intro;refine⟨fun w hw=> ?_, ?_⟩; · (subst hw;go_simp;with_reducible rfl)
              simp only[Act.put,sA,sB,sC])
   refine vH ?_;rintro w6 rfl
   try simp only[wN8,wL3]
   clear n1 n2 n3 g1 g2;have hm1d:=hm1a.ext (w':=w5.drew) (Ext.refl w5).drew;have hm2d:=hm2a.ext (w':=w5.drew) (Ext.refl w5).drew;go_wp2_with (at_mapUpdate;refine zBk (by rfl) _ _ _ 238 94 rfl zDE Tryz.underlying238 rfl hm1d (by omega) _ rfl _ rfl t1 hkey1.out (zDs (Z.take k++[(t1,t2,t3)])) HS1.out (fun j _ hj=>HS2.out j (fun e=>hj (by rw[e]))) (fun j _ hj=>by injection hj) ?_;intro w7 hm7 hg7)
   have hn7:=hn.drew.grown hg7 (by simp;omega);have hb7:=hbca.drew.grown hg7 (by simp;omega);have hm27:=hm2d.grown hg7 (by simp);have hu7:=hua.drew.grown hg7 (fun b hb=>.inl (by injection hb with hb;exact .inl hb.symm));obtain⟨n1,n2,n3⟩:=HCV.out _ hn7;obtain⟨g1,g2⟩:=HCC.out _ hb7;clear hm1d hm2d hm1a hm2a hua hg7;simp only[Act.put,sA,sB,sC];refine zAi zHA 11 (by kernel_rfl) (by kernel_rfl) ?_;simp only[wJ9,wL2]
   iterate 11 (refine zBO (by rfl) ?_;apply Exists.intro;refine⟨fun w hw=> ?_, ?_⟩; · (subst hw;go_simp;with_reducible rfl)
               simp only[Act.put,sA,sB,sC])
   refine vH ?_;rintro w8 rfl
   try simp only[wN8,wL3]
   clear n1 n2 n3 g1 g2;have hm2e:=hm27.ext (w':=w7.drew) (Ext.refl w7).drew;have hm1e:=hm7.ext (w':=w7.drew) (Ext.refl w7).drew;go_wp2_with (at_mapUpdate;refine zBk (by rfl) _ _ _ 239 3 rfl keyed_pair Tryz.underlying239 rfl hm2e (by omega) _ rfl _ rfl (t2,t3) hkey2.out (zDx (Z.take k++[(t1,t2,t3)])) HC1.out (fun j hj0 hj=>HC2.out j (fun e=>hj (by rw[e]))) (fun j hj0 hj=>klP_inj hj0 HB3.out hj) ?_;intro w9 hm9 hg9)
   go_roundw
   case rel =>
    refine⟨k+1,by omega,by go_num, ?_, ?_, ?_⟩
    ·rw[HTS.out];exact hm1e.grown hg9 (by simp)
    ·rw[HTS.out];exact hm9
    ·exact hu7.drew.grown hg9 (fun b hb=>.inl (by injection hb with hb;exact .inr hb.symm))
   case measure=>simp[intOf];omega
  ·have ek:k=xs.length:=by omega
   have HF:Hid (Z.take k=Z):=zA (wC4 (by have:=HZL.out;omega));rw[HF.out] at hm1 hm2;go_wp2_with fail;go_ret;exact⟨gc,rfl,⟨M,M+1,k,hu.blk hbc4 (by omega),hm1,hm2⟩,hu.ext hxw (by omega)⟩
end
def padB_zero {L:List Bool} (h:L.length%8=0):zAM L=L:=by simp[zAM,h]
def padB_digs {L:List Bool} {k:Nat} (h:L.length%8+k=8) (h2:0<L.length%8):zAM L=L++qF (2 ^ k-1) k:=by
 rw[digs_ones];unfold zAM;congr 2
 omega
def zPT {w:World} {base:Nat} {e:TypeId} {size n d:Nat} {B:Option Addr} {xs:List Value} (h:w.ownsRow base e size (.slice B n d) n xs):B=none→d=0:=by
 rintro rfl;obtain⟨-,hh⟩:=h;rcases hh with ⟨e1, -⟩ | ⟨g,cap,cur,e1, -⟩
 ·injection e1
 ·injection e1 with e2
  cases e2
def zSI (gw:Nat) (L:List Bool) (r:Option Nat) (w:World) (h:WrS w gw L r) (hl:L.length≤1000000000000) :
 Calls Tryz.prog 157 #[.pointer (some ⟨gw,0,none⟩)] w fun e w'=> ∃ A c,e=.returned (.slice A (jJ (zAM L)).length c)∧SL w' 1 (.slice A (jJ (zAM L)).length c) (jJ (zAM L)).length (zF (jJ (zAM L))) ∧
  (∀ ad,A=some ad→gw<ad.block)∧(A=none→c=0)∧Upd (fun b=>b=gw∨r=some b) w w':=by
 by_cases hm0:L.length%8=0
 ·rw[padB_zero hm0];obtain⟨A,c,hr,hB,hown⟩:=h;have HPL:=zA (zCz L);rw[hm0] at hB;generalize jJ L=T at *;generalize L.length/8=n at *;have c0:=hB.cell 0;have c2:=hB.cell 2;simp only[wH5,wN4,wN5] at c0 c2;clear hm0;go_enter Tryz.func157,Tryz.ntmps157;go_wp2_with fail;go_ret;rw[HPL.out];obtain⟨h1,h2⟩:=zQd hown;exact⟨A,c,rfl,h1,(fun ad h=>by have:=h2 ad h;omega),zPT hown,Upd.refl _ _⟩
 ·have hw:=h;obtain⟨A,c,hr,hB,hown⟩:=h;obtain⟨k,hk⟩: ∃ k,L.length%8+k=8:=⟨8-L.length%8,by omega⟩
  rw[padB_digs hk (by omega)];have hPk:=wI5 k;have hP8:(2:Nat) ^ k≤2 ^ 8:=wI4 (by omega) (by omega);have HPUT:=zA (fun W (hW:WrS W gw L r)=>zMq gw L r (2 ^ k-1) k W hW (by omega) (by omega) hl);have HW1:Hid (IntKind.i64.wrap (8-((L.length%8:Nat):Int))=(k:Int)):=zA (by rw[IntWalk.i64_in _ (by omega)];omega)
  have HW2:Hid (IntKind.i64.wrap ((2:Int) ^ k)=((2 ^ k:Nat):Int)):=zA (by
   have:((2:Int) ^ k)=((2 ^ k:Nat):Int):=by push_cast;rfl
   rw[this,IntWalk.i64_in _ (by omega)])
  have HW3:Hid (IntKind.i64.wrap (((2 ^ k:Nat):Int)-1)=((2 ^ k-1:Nat):Int)):=zA (by rw[IntWalk.i64_in _ (by omega)];omega);have c0:=hB.cell 0;have c2:=hB.cell 2;simp only[wH5,wN4,wN5] at c0 c2;have HL8:=zA (zCz (L++qF (2 ^ k-1) k));generalize L++qF (2 ^ k-1) k=L' at *;generalize (2:Nat) ^ k-1=p1 at *;generalize hP:(2:Nat) ^ k=P at *;have hm1:0<L.length%8:=by omega
  generalize L.length%8=m at *;clear hm0 hP hown hB hr;go_enter Tryz.func157,Tryz.ntmps157;go_wp2_with fail;refine zAi zHA 13 (by kernel_rfl) (by kernel_rfl) ?_;simp only[wJ9,wL2]
  iterate 13 (refine zBO (by rfl) ?_;apply Exists.intro;refine⟨fun w hw=> ?_, ?_⟩; · (subst hw;have h1:=HW1.out;have h2:=HW2.out;have h3:=HW3.out;go_simp;with_reducible rfl)
              simp only[Act.put,sA,sB,sC])
  refine vH ?_;rintro w3 rfl
  try simp only[wN8,wL3]
  have hwd:=hw.drew;clear c0 c2 HW1 HW2 HW3;go_wp2_with (go_at_call 156;(with_reducible refine (HPUT.out _ hwd).mono ?_);rintro e w5 ⟨rfl,r',⟨A5,c5,hr5,hB5,hown5⟩,hrr,hu5⟩;have c0:=hB5.cell 0;simp only[wH5,wN4] at c0)
  go_ret;obtain⟨h1,h2⟩:=zQd hown5;rw[HL8.out];exact⟨A5,c5,rfl,h1,(fun ad h=>by have:=h2 ad h;omega),zPT hown5,(Upd.refl _ w).drew.trans hu5 (fun x hx=>.inl hx)⟩
section
open Go.RowKit Go.ChangeShapes Go.WideShapes Go.ChangeAt
section
variable {H:Type} {enc:TypeId×Value→H} {w:World} {base:Nat} {spare:Nat→Bool} {held:Bool}
def zLy {fuel:Nat} {cs:List Value} {x:DataW H×List MemPlace} (h:DataW.trod enc Tryz.prog w base spare held fuel 22 cs=some x) :
 ∃ (zs:List Int) (v:Value),cs=[v]∧SL w 1 v zs.length (ints zs)∧ ∀ z∈zs,zEA z:=by
 rcases open_ints Tryz.underlying22 Tryz.underlying3 zHm h with ⟨rfl, -⟩ | ⟨a,len,cap,zs,rfl, -,hlc,hcm,hzl, -,hcell,hwf⟩
 ·exact⟨[],_,rfl,SL.nil w 1,by simp⟩
 ·have hlen:len≤zs.length:=by rw[hzl];split<;>omega
  refine⟨zs.take len,_,rfl, ?_,fun z hz=>zJp (hwf z (wH0 hz))⟩;have hl:(zs.take len).length=len:=by rw[wI8];omega
  rw[hl];refine⟨some a,cap,rfl,hlc,by unfold maxLen at hcm;omega,by rw[yA,hl];omega,fun h0=>⟨a,rfl, ?_,fun j u hu=> ?_⟩⟩
  ·have:=hcell 0 (by omega);have h2:=World.block_lt_of_cell? w _ this
   rwa [yN] at h2
  ·obtain⟨hj,rfl⟩:=zBn _ _ _ hu;have hj2:j<len:=by omega
   rw[hcell j (by omega)];simp[wF4,show j<zs.length by omega]
def cells16:Tryz.prog.cellsOf 40=16:=by kernel_rfl
def cellsSl:Tryz.prog.cellsOf 22=1:=by kernel_rfl
def zQm:Tryz.prog.cellsOf 42=17:=by kernel_rfl
end
end
section
open Go.RowKit Go.Maps Go.WideMaps
def zNw (w:World):(zeroValue 94).run Tryz.prog w=.ok (.agg #[.int .i64 0,.int .i64 0,.int .i64 0]) w:=by kernel_rfl
def symF_some {T:List Tok} {s:Int} {t:Tok} (h:qV T s=some t):zDs T s=some (.agg #[.int .i64 t.1,.int .i64 t.2.1,.int .i64 t.2.2]):=by
 unfold zDs;unfold qV at h;rw[h];rfl
def symF_none {T:List Tok} {s:Int} (h:qV T s=none):zDs T s=none:=by
 unfold zDs;unfold qV at h;rw[h];rfl
def zRM (gc gw:Nat) (T:List Tok) (s:Int) (w:World) (hc:CoderS w gc T) (hf:qV T s=none) (h0: -9223372036854775808≤s) (h1:s≤9223372036854775807) :
 Calls Tryz.prog 155 #[.pointer (some ⟨gc,0,none⟩),.pointer (some ⟨gw,0,none⟩),.int .i64 s] w fun e w'=>e=.returned (.bool false)∧Ext w w':=by
 obtain⟨m1,m2,n,hB,hm1,hm2⟩:=hc;have c0:=hB.cell 0;simp only[wH5,wN4] at c0;have HS:=zA (symF_none hf);have hkey:=zA (zBo (P:=Tryz.prog) Tryz.underlying3 h0 h1);clear hf;go_enter Tryz.func155,Tryz.ntmps155;go_wp2_with (at_lookup;refine zCC (by rfl) _ _ 238 94 rfl zDE Tryz.underlying238 _ (zNw _) rfl hm1 _ rfl s trivial hkey.out (.agg #[.int .i64 0,.int .i64 0,.int .i64 0]) (by rw[HS.out];rfl) false (by rw[HS.out];rfl) ?_)
 go_ret;exact⟨rfl,(Ext.refl w).alloc _⟩
def zQb (gc gw:Nat) (T:List Tok) (L:List Bool) (r:Option Nat) (s:Int) (long code:Nat) (w:World) (hc:CoderS w gc T) (hw:WrS w gw L r) (hf:qV T s=some (s,(long:Int),(code:Int))) (h0: -9223372036854775808≤s) (h1:s≤9223372036854775807)
 (hlong:long≤24) (hcode:code<2 ^ long) (hl:L.length≤1000000000000) :
 Calls Tryz.prog 155 #[.pointer (some ⟨gc,0,none⟩),.pointer (some ⟨gw,0,none⟩),.int .i64 s] w fun e w'=>e=.returned (.bool true) ∧
  ∃ r',WrS w' gw (L++qF code long) r'∧(r'=r∨ ∃ b,r'=some b∧w.heap.size≤b)∧Upd (fun b=>b=gw∨r=some b) w w':=by
 obtain⟨m1,m2,n,hB,hm1,hm2⟩:=hc;have c0:=hB.cell 0;simp only[wH5,wN4] at c0;have HS:=zA (symF_some hf);simp only at HS;have HP:=zA (fun W (hW:WrS W gw L r)=>zMq gw L r code long W hW hlong hcode hl);have hkey:=zA (zBo (P:=Tryz.prog) Tryz.underlying3 h0 h1);clear hf hcode;generalize qF code long=D at *;go_enter Tryz.func155,Tryz.ntmps155
 go_wp2_with (first
  | (at_lookup;refine zCC (by rfl) _ _ 238 94 rfl zDE Tryz.underlying238 _ (zNw _) rfl hm1 _ rfl s trivial hkey.out (.agg #[.int .i64 s,.int .i64 (long:Int),.int .i64 (code:Int)]) (by rw[HS.out];rfl) true (by rw[HS.out];rfl) ?_)
  | (go_at_call 156;(with_reducible refine (HP.out _ (hw.ext ((Ext.refl w).alloc _))).mono ?_);rintro e w5 ⟨rfl,r',hW5,hrr,hu5⟩))
 go_ret;exact⟨rfl,r',hW5,hrr.imp id (fun ⟨b,h1,h2⟩=>⟨b,h1,by rw[World.size_alloc] at h2;omega⟩),(Upd.of_ext (S:=fun b=>b=gw∨r=some b) ((Ext.refl w).alloc _)).trans hu5 (fun x hx=>.inl hx)⟩
end
end Go.Proofs.YtkggcjdlpendfaaGreatDoor
