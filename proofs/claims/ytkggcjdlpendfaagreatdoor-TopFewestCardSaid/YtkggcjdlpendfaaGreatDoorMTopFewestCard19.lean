import Derived.ArgAppend
import Derived.Lib.SlBytesConst
import Derived.Test.YtkggcjdlpendfaaGreatDoorMTopFewestCard18
set_option linter.all false
set_option maxRecDepth 20000
set_option maxHeartbeats 8000000
namespace Go.Proofs.YtkggcjdlpendfaaGreatDoor
open Go.RowKit
def PR (w:World) (gr:Nat) (rs:List Nat) (sh:Bool):Prop :=
 ∃ (A:Option Addr) (c:Nat),Blk w gr 119 #[.slice A rs.length c,.bool sh]∧SL w 1 (.slice A rs.length c) rs.length (zF rs)∧(0<rs.length→ ∀ ad,A=some ad→ad.block<gr)
def PR.ext {w w':World} {gr:Nat} {rs:List Nat} {sh:Bool} (h:PR w gr rs sh) (hx:Ext w w'):PR w' gr rs sh:=by
 obtain⟨A,c,h1,h2,h3⟩:=h;exact⟨A,c,h1.ext hx,h2.ext hx,h3⟩
def PR.upd {S:Nat→Prop} {w w':World} {gr:Nat} {rs:List Nat} {sh:Bool} (h:PR w gr rs sh) (hu:Upd S w w') (hS: ∀ x,S x→gr<x):PR w' gr rs sh:=by
 obtain⟨A,c,h1,h2,h3⟩:=h;exact⟨A,c,hu.blk h1 (fun e=>by have:=hS _ e;omega),h2.upd0 hu (fun h0 ad e hx=>by have:=hS _ hx;have:=h3 h0 ad e;omega),h3⟩
def PR.flag {w:World} {gr:Nat} {rs:List Nat} {sh:Bool} (h:PR w gr rs sh):w.cell? ⟨gr,1,none⟩=some (.bool sh):=by
 obtain⟨A,c,h1,h2,h3⟩:=h;exact h1.cell 1
def PR.lt {w:World} {gr:Nat} {rs:List Nat} {sh:Bool} (h:PR w gr rs sh):gr<w.heap.size:=by
 obtain⟨A,c,h1,h2,h3⟩:=h;exact h1.lt
def sizeU8:(Tryz.prog.info? 5).map (·.size)=some 1:=by kernel_rfl
def zTE (gr:Nat) (A:Option Addr) (c:Nat) (sh:Bool) (w:World) (hB:Blk w gr 119 #[.slice A 0 c,.bool sh]) :
 Calls Tryz.prog 81 #[.pointer (some ⟨gr,0,none⟩)] w fun e w'=>e=.returned (.int .i64 0)∧Blk w' gr 119 #[.slice A 0 c,.bool true]∧Upd (fun b=>b=gr) w w':=by
 have hc0:w.cell? ⟨gr,0,none⟩=some (.slice A 0 c):=hB.cell 0;have hc1:w.cell? ⟨gr,1,none⟩=some (.bool sh):=hB.cell 1;have hf1:=hB.frozen 1;have hset:=hB.set_ 1 (.bool true);have hu:=(Upd.refl (fun b=>b=gr) w).setCell (p:=⟨gr,1,none⟩) rfl (.bool true);go_enter Tryz.func81,Tryz.ntmps81;go_wp2
 go_ret;exact⟨rfl,hset,hu⟩
def zRH (gr:Nat) (A:Option Addr) (c b:Nat) (rs:List Nat) (sh:Bool) (w:World) (hb:b<256) (hB:Blk w gr 119 #[.slice A (rs.length+1) c,.bool sh]) (hs:SL w 1 (.slice A (rs.length+1) c) (rs.length+1) (zF (b::rs))) (X:Option Addr) (hX:Hid (X=if c=1 then A else A.map (·.add 1))) :
 Calls Tryz.prog 81 #[.pointer (some ⟨gr,0,none⟩)] w fun e w'=>e=.returned (.int .i64 (b:Int))∧Blk w' gr 119 #[.slice X rs.length (c-1),.bool sh]∧Upd (fun b=>b=gr) w w':=by
 obtain⟨ad,u,rfl,hlt,hu0,hcl⟩:=hs.at1 (k:=0) (by omega);have hub:u=.int .u8 (b:Int):=by simpa [zF] using hu0.symm
 subst hub;obtain⟨A',c',he,hcap,hcap2, -, -⟩:=hs;injection he with e1 e2 e3
 subst e1 e3;have hc0:w.cell? ⟨gr,0,none⟩=some (.slice (some ad) (rs.length+1) c):=hB.cell 0;have hc1:w.cell? ⟨gr,1,none⟩=some (.bool sh):=hB.cell 1;have hf0:=hB.frozen 0;have hset:=hB.set_ 0 (.slice X rs.length (c-1));have hu:=(Upd.refl (fun b=>b=gr) w).setCell (p:=⟨gr,0,none⟩) rfl (.slice X rs.length (c-1));have HB:=zA hB;clear hB;generalize rs.length=n at *
 have HSL:Hid (∀ (o:Oper) (a:Act) (x lo:Operand),o.op=.slice 45 x (some lo) none none→a.eval x=.slice (some ad) (n+1) c→a.eval lo=.int .i64 1→ ∀ W,(execOp a.eval o).run Tryz.prog W=.ok (.value (.slice X n (c-1))) W):=zA (fun o a x lo h1 h2 h3 W=>by
  have:=zOR (l:=1) h1 h2 h3 (by omega) hcap W;rw[hX.out]
  exact this)
 clear hX;go_enter Tryz.func81,Tryz.ntmps81
 go_wp2_with (first
  | ((with_reducible apply gS 9);refine zB rfl (.bool false) (jQ rfl rfl rfl (by simp;omega)) ?_)
  | ((with_reducible apply gS 17);refine zB rfl (.pointer (some (ad.add (0*1)))) (vJ (i:=0) Tryz.underlying45 sizeU8 rfl rfl rfl (by omega)) ?_)
  | ((with_reducible apply gS 18);refine xC rfl (.int .u8 (b:Int)) (zKp rfl rfl hcl) ?_)
  | ((with_reducible apply gS 19);refine zB rfl (.int .i64 (b:Int)) (zMk rfl rfl (zIJ b hb)) ?_)
  | ((with_reducible apply gS 25);refine zB rfl (.slice X n (c-1)) (HSL.out _ _ _ _ rfl rfl rfl) ?_))
 go_ret;exact⟨rfl,hset,hu⟩
def zSo (gr:Nat) (rs:List Nat) (sh:Bool) (w:World) (hlt: ∀ b∈rs,b<256) (h:PR w gr rs sh) :
 Calls Tryz.prog 81 #[.pointer (some ⟨gr,0,none⟩)] w fun e w'=>e=.returned (.int .i64 ((rs.headD 0:Nat):Int))∧PR w' gr rs.tail (sh ||rs.isEmpty)∧Upd (fun b=>b=gr) w w':=by
 obtain⟨A,c,hB,hs,hne⟩:=h
 cases rs with
 | nil =>
   refine (zTE gr A c sh w hB).mono ?_;rintro e w' ⟨rfl,h1,h2⟩;obtain⟨A',c',he,hcap,hcap2, -, -⟩:=hs;injection he with e1 e2 e3
   subst e3;refine⟨rfl,⟨A,c,by simpa using h1,⟨A,c,rfl,hcap,hcap2,rfl,fun h=>by simp at h⟩,fun h=>by simp at h⟩,h2⟩
 | cons b rs =>
   refine (zRH gr A c b rs sh w (hlt b (by simp)) hB hs _ (zA rfl)).mono ?_;rintro e w' ⟨rfl,h1,h2⟩;have hs2:=hs.sub (l:=1) (h:=rs.length+1) (by omega) (by simp);have e2:((zF (b::rs)).drop 1).take (rs.length+1-1)=zF rs:=by simp[zF,wC4]
   rw[e2,wJ1] at hs2
   have hblk:0<rs.length→ ∀ ad,(if c=1 then A else A.map (·.add 1))=some ad→ad.block<gr:=fun h0 ad e=>by
    split at e
    ·exact hne (by simp) ad e
    ·cases A with
     | none=>cases e
     | some a0 =>
       injection e with e
       subst e;rw[yN];exact hne (by simp) a0 rfl
   refine⟨rfl,⟨_,_,by simpa using h1,hs2.upd0 h2 (fun h0 ad e=>Nat.ne_of_lt (hblk h0 ad e)),hblk⟩,h2⟩
def tblv_set (xs:List Int) (s:Value) (k:Nat) (z:Int) (h:k<xs.length):(yL xs s).setIfInBounds k (.int .i64 z)=yL (xs.set k z) s:=by
 unfold yL ints;rw[wN6,wP5 _ _ (by simpa using h),List.map_set]
def zeroTblv:(Tryz.prog.info? 42).bind (·.zero)=some (.agg (yL (List.replicate 16 0) (.slice none 0 0))):=zAN
def elt_intP:Elt Tryz.prog 22 3 1 8:=⟨Tryz.underlying22,by kernel_rfl,by omega⟩
def zeroIP:((Tryz.prog.info? 3).bind (·.zero)).isSome=true:=by kernel_rfl
def tblNeI:3≠42:=by decide
def tblv_get (xs:List Int) (s:Value) (k:Nat) (h:k<xs.length):(yL xs s)[k]? =some (.int .i64 xs[k]):=by
 unfold yL ints;simp[wQ9,h]
def tblv_one' (cs:List Int) (A:Option Addr) (k c:Nat):(yL cs (.slice A k c)).all (·.oneCell')=true:=by
 unfold yL ints;simp[Value.oneCell']
def zQI (cs:List Int) (s u:Value) (h:cs.length=16):(yL cs s).setIfInBounds 16 u=yL cs u:=by
 unfold yL;rw[wN6,wF8 _ _ (by rw[yA,h];omega),yA,h];rfl
def cnt (bs:List Nat) (p j:Nat):Nat:=256*bs.getD (p+2*j) 0+bs.getD (p+2*j+1) 0
def qJ (bs:List Nat) (p k:Nat):List Int:=(List.range k).map fun j=>((cnt bs p j:Nat):Int)
def qH (bs:List Nat) (p:Nat):Nat→Nat
 | 0=>0
 | k+1=>qH bs p k+cnt bs p k
def zBi (bs:List Nat) (q k:Nat):List Int:=(List.range k).map fun j=>((bs.getD (q+j) 0:Nat):Int)
def PRk (w:World) (gr:Nat) (bs:List Nat) (p:Nat):Prop:=PR w gr (bs.drop p) (decide (bs.length<p))
def zMm {bs:List Nat} (hlt: ∀ b∈bs,b<256) (p:Nat):bs.getD p 0<256:=by
 rw[wF4]
 cases h:bs[p]? with
 | none=>simp
 | some b=>exact hlt b (wK5 h)
def cnt_lt {bs:List Nat} (hlt: ∀ b∈bs,b<256) (p j:Nat):cnt bs p j≤65535:=by
 have h1:=zMm hlt (p+2*j);have h2:=zMm hlt (p+2*j+1);unfold cnt;omega
def zMs {bs:List Nat} (hlt: ∀ b∈bs,b<256) (p:Nat): ∀ k,qH bs p k≤65535*k
 | 0=>by simp[qH]
 | k+1=>by
   have:=zMs hlt p k;have:=cnt_lt hlt p k;rw[qH];omega
def uP (bs:List Nat) (p k:Nat):(qJ bs p k).length=k:=by simp[qJ]
def cntL_succ (bs:List Nat) (p k:Nat):qJ bs p (k+1)=qJ bs p k++[((cnt bs p k:Nat):Int)]:=by simp[qJ,wH3]
def zPD (bs:List Nat) (q k:Nat):(zBi bs q k).length=k:=by simp[zBi]
def symL_succ (bs:List Nat) (q k:Nat):zBi bs q (k+1)=zBi bs q k++[((bs.getD (q+k) 0:Nat):Int)]:=by simp[zBi,wH3]
def zOH (gr:Nat) (bs:List Nat) (p:Nat) (w:World) (hlt: ∀ b∈bs,b<256) (h:PRk w gr bs p) :
 Calls Tryz.prog 81 #[.pointer (some ⟨gr,0,none⟩)] w fun e w'=>e=.returned (.int .i64 ((bs.getD p 0:Nat):Int))∧PRk w' gr bs (p+1)∧Upd (fun b=>b=gr) w w':=by
 refine (zSo gr (bs.drop p) _ w (fun b hb=>hlt b (wG9 hb)) h).mono ?_;rintro e w' ⟨rfl,h1,h2⟩;refine⟨?_, ?_,h2⟩
 ·congr 3
  rw[List.headD_eq_head?_getD,List.head?_drop,wF4]
 ·unfold PRk;have e1:(bs.drop p).tail=bs.drop (p+1):=by rw[List.tail_drop]
  have e2:(decide (bs.length<p) ||(bs.drop p).isEmpty)=decide (bs.length<p+1):=by
   rw[wE3];simp only[wB9,wB3,List.isEmpty_iff,List.drop_eq_nil_iff];omega
  rw[←e1, ←e2];exact h1
def run_shl8 (m:Nat) (h:m<1000000) (W:World):(binOp .shl 3 (.int .i64 (m:Int)) (.int .u64 8)).run Tryz.prog W=.ok (.int .i64 ((256*m:Nat):Int)) W:=by
 have e:IntKind.i64.wrap ((m:Int)*2 ^ (min 8 IntKind.i64.bits))=((256*m:Nat):Int):=by
  rw[show min 8 IntKind.i64.bits=8 by decide,IntWalk.i64_in _ (by omega)];omega
 simp[binOp,Op.shift,e]
def run_or8 (m b:Nat) (h:m<1000000) (hb:b<256) (W:World):(binOp .or 3 (.int .i64 ((256*m:Nat):Int)) (.int .i64 (b:Int))).run Tryz.prog W=.ok (.int .i64 ((256*m+b:Nat):Int)) W:=by
 have e:bits .or .i64 ((256*m:Nat):Int) (b:Int)=((256*m+b:Nat):Int):=by
  have hx:256*m |||b=256*m+b:=by
   rw[show 256*m=2 ^ 8*m by rfl, ←Nat.two_pow_add_eq_or_of_lt (i:=8) (by omega)]
  show IntKind.i64.wrap ((BitVec.ofInt 64 ((256*m:Nat):Int) |||BitVec.ofInt 64 (b:Int)).toNat:Int)=_
  rw[BitVec.toNat_or,BitVec.ofInt_natCast,BitVec.ofInt_natCast,BitVec.toNat_ofNat,BitVec.toNat_ofNat,wL8 (by omega),wL8 (by omega),hx];exact IntWalk.i64_in _ (by omega)
 have e2:binOp .or 3 (.int .i64 ((256*m:Nat):Int)) (.int .i64 (b:Int))=pure (.int .i64 (bits .or .i64 ((256*m:Nat):Int) (b:Int))):=by rw[binOp_or,intBits_or]
 rw[e2,e];rfl
def cntL_set (bs:List Nat) (p k:Nat) (h:k<16):(qJ bs p k++List.replicate (16-k) 0).set k ((cnt bs p k:Nat):Int)=qJ bs p (k+1)++List.replicate (16-(k+1)) 0:=by
 rw[wF8 _ _ (by rw[uP];omega),uP,wF9,show 16-k=(16-(k+1))+1 by omega,wG0,wG1,cntL_succ,wG2];rfl
def goesNum:zAp Tryz.prog 81:=⟨_,Tryz.func81,rfl,rfl⟩
def table_any (gr:Nat) (bs:List Nat) (p:Nat) (w:World) (hlt: ∀ b∈bs,b<256) (hp:p≤10000000) (h:PRk w gr bs p) :
 Calls Tryz.prog 83 #[.pointer (some ⟨gr,0,none⟩)] w fun e w'=> ∃ (k:Nat) (A:Option Addr) (c:Nat),k≤qH bs p 16∧(k<qH bs p 16→bs.length<p+32+k)∧e=.returned (.agg (yL (qJ bs p 16) (.slice A k c))) ∧
  w'.ownsRow w.heap.size 3 1 (.slice A k c) k (ints (zBi bs (p+32) k))∧PRk w' gr bs (p+32+k)∧Upd (fun b=>b=gr) w w':=by
 have HN:=zA (fun q W (h:PRk W gr bs q)=>zOH gr bs q W hlt h);have HS:=zA (zMs hlt p);have HG:=zA (fun q=>zMm hlt q);have HC:=zA (fun k=>cnt_lt hlt p k);have hgrw:=h.lt;have HP:=zA h;clear h;go_enter Tryz.func83,Tryz.ntmps83
 go_wp2_with (first
  | ((with_reducible apply gS 2);refine wAlo' rfl (some 2) rfl 42 rfl _ zeroTblv ?_;intro w2 gt hbt hx2 hgt))
 have hne:gr<gt:=by omega
 have HP2:=zA (HP.out.ext hx2);have hu2:Upd (fun b=>b=gr∨b=gt) w w2:=Upd.of_ext hx2;clear hx2 HP
 go_loopw [3,5] (fun s i wr=> ∃ k:Nat,k≤16∧i=.int .i64 (k:Int)∧s=.int .i64 ((qH bs p k:Nat):Int)∧PRk wr gr bs (p+2*k)∧Blk wr gt 42 (yL (qJ bs p k++List.replicate (16-k) 0) (.slice none 0 0))∧Upd (fun b=>b=gr∨b=gt) w wr) (fun _ i _=>16-(intOf i).toNat)
 case atStart=>exact⟨0,by omega,rfl,rfl,HP2.out,hbt,hu2⟩
 case round =>
  clear hbt hu2 HP2;obtain⟨k,hk,rfl,rfl,hpr,hbt,hu⟩:=hrel
  by_cases hlt16:k<16
  ·have HCK:=zA (HC.out k);have HSK:=zA (HS.out k);have HE:Hid (qH bs p (k+1)=qH bs p k+cnt bs p k):=zA rfl;have HX:Hid (cnt bs p k=256*bs.getD (p+2*k) 0+bs.getD (p+2*k+1) 0):=zA rfl;have HN1:=zA (HN.out (p+2*k));have HN2:=zA (HN.out (p+2*k+1));have hb1:=HG.out (p+2*k);have hb2:=HG.out (p+2*k+1)
   have hset:Hid ((yL (qJ bs p k++List.replicate (16-k) 0) (.slice none 0 0)).setIfInBounds k (.int .i64 ((cnt bs p k:Nat):Int))=yL (qJ bs p (k+1)++List.replicate (16-(k+1)) 0) (.slice none 0 0)):=zA (by
    rw[tblv_set _ _ _ _ (by rw[wF3,uP,wF5];omega),cntL_set _ _ _ hlt16])
   have hsz:k<(yL (qJ bs p k++List.replicate (16-k) 0) (.slice none 0 0)).size:=by rw[vL _ _ (by rw[wF3,uP,wF5];omega)];omega
   have hget:Hid ((yL (qJ bs p (k+1)++List.replicate (16-(k+1)) 0) (.slice none 0 0))[k]? =some (.int .i64 ((cnt bs p k:Nat):Int))):=zA (by
    rw[tblv_get _ _ _ (by rw[wF3,uP,wF5];omega),wO7 (by rw[uP];omega)]
    simp[qJ])
   generalize hT1:yL (qJ bs p k++List.replicate (16-k) 0) (.slice none 0 0)=T1 at *;generalize hT2:yL (qJ bs p (k+1)++List.replicate (16-(k+1)) 0) (.slice none 0 0)=T2 at *;have HT2:=zA hT2;clear hT1 hT2;generalize bs.getD (p+2*k) 0=x1 at *;generalize bs.getD (p+2*k+1) 0=x2 at *;have hS1:qH bs p k≤1048560:=by have:=HSK.out;omega
   generalize hS:qH bs p k=S at *;generalize hS2:qH bs p (k+1)=S2 at *;have HS2:=zA hS2;clear hS hS2;generalize hK:cnt bs p k=ck at *;clear hK;obtain⟨y1,hy1⟩: ∃ y,256*x1=y:=⟨_,rfl⟩
   have R1:Hid (∀ W,(binOp .shl 3 (.int .i64 (x1:Int)) (.int .u64 8)).run Tryz.prog W=.ok (.int .i64 (y1:Int)) W):=zA (fun W=>by rw[←hy1];exact run_shl8 x1 (by omega) W);have R2:Hid (∀ W,(binOp .or 3 (.int .i64 (y1:Int)) (.int .i64 (x2:Int))).run Tryz.prog W=.ok (.int .i64 (ck:Int)) W):=zA (fun W=>by rw[HX.out, ←hy1];exact run_or8 x1 x2 (by omega) hb2 W);have hck:=HCK.out;clear HX HCK HSK hy1
   go_wp2_with (first
    | (go_at_call 81;(with_reducible refine (HN1.out _ hpr).mono ?_);rintro e w3 ⟨rfl,hpr3,hu3⟩;have hbt3:=hu3.blk hbt (by omega))
    | ((with_reducible apply gS 11);refine zB rfl (.int .i64 (y1:Int)) (zCJ rfl rfl rfl R1.out) ?_)
    | (go_at_call 81;(with_reducible refine (HN2.out _ hpr3).mono ?_);rintro e w4 ⟨rfl,hpr4,hu4⟩;have hbt4:=hu4.blk hbt3 (by omega))
    | ((with_reducible apply gS 14);refine zB rfl (.int .i64 (ck:Int)) (zCJ rfl rfl rfl R2.out) ?_)
    | ((with_reducible apply gT 16 14);refine uK rfl _ _ rfl gt k _ rfl rfl hbt4 hsz ?_;have hbt5:=hbt4.set_ k (.int .i64 (ck:Int));rw[hset.out] at hbt5;have hl5:=(hbt5.cell k).trans hget.out;have hu5:=((hu.trans hu3 (fun x h=>.inl (.inl h))).trans hu4 (fun x h=>.inl (.inl h))).setCell (p:=⟨gt,k,none⟩) (.inr rfl) (.int .i64 (ck:Int));have hpr5:=hpr4.upd ((Upd.refl (fun b=>b=gt) w4).setCell (p:=⟨gt,k,none⟩) rfl (.int .i64 (ck:Int))) (fun x h=>by rw[h];exact hne);clear hpr hu hpr3 hpr4 hu3 hu4 hbt hbt3 hbt4;generalize w4.setCell ⟨gt,k,none⟩ (.int .i64 (ck:Int))=w5 at *)
    | ((with_reducible apply gS 21);refine xC rfl (.int .i64 (ck:Int)) (zV rfl rfl hl5) ?_)
    | ((with_reducible apply gS 22);refine zB rfl (.int .i64 ((S+ck:Nat):Int)) (yH rfl rfl rfl (by omega)) ?_))
   go_roundw
   case rel=>exact⟨k+1,by omega,by go_num,by rw[HS2.out,HE.out];go_num,by rw[show p+2*(k+1)=p+2*k+1+1 by omega];exact hpr5,by rw[HT2.out];exact hbt5,hu5⟩
   case measure=>simp[intOf];omega
  ·obtain rfl:k=16:=by omega
   rw[show 16-16=0 by rfl,wP0,wG6] at hbt;have hall:=HS.out 16;generalize hS:qH bs p 16=S at *;have HS16:=zA hS;clear hS;have HT:Hid (∀ A k c,(yL (qJ bs p 16) (.slice A k c)).size=17):=zA (fun A k c=>vL _ _ (by rw[uP]));have HO:Hid (∀ A k c,(yL (qJ bs p 16) (.slice A k c)).all (·.oneCell')=true):=zA (fun A k c=>tblv_one' _ A k c);have HL:Hid (∀ A k c B m d,(yL (qJ bs p 16) (.slice A k c)).setIfInBounds 16 (.slice B m d)=yL (qJ bs p 16) (.slice B m d)):=zA (fun A k c B m d=>zQI _ _ _ (by rw[uP]))
   have HG16:Hid (∀ A k c,(yL (qJ bs p 16) (.slice A k c))[16]? =some (.slice A k c)):=zA (fun A k c=>by
    have:(yL (qJ bs p 16) (.slice A k c))=(yL (qJ bs p 16) (.slice A k c)):=rfl;unfold yL ints
    simp[wQ9,uP])
   obtain⟨TV,hTV⟩: ∃ TV:Option Addr→Nat→Nat→Array Value,TV=fun A k c=>yL (qJ bs p 16) (.slice A k c):=⟨_,rfl⟩
   have HTV:=zA hTV;have eT: ∀ A k c,yL (qJ bs p 16) (.slice A k c)=TV A k c:=fun A k c=>by rw[hTV]
   simp only[eT] at HT HO HL HG16 hbt;have HeT:=zA eT;clear hTV eT;have hp0:PRk wr gr bs (p+32+0):=hpr;have own0:wr.ownsRow w.heap.size 3 1 (.slice none 0 0) 0 (ints (zBi bs (p+32) 0)):=zAt _ _ _ _;go_wp2_with fail
   go_loopw [25] (fun i w9=> ∃ (k:Nat) (A:Option Addr) (c:Nat),k≤S∧i=.int .i64 (k:Int)∧PRk w9 gr bs (p+32+k)∧Blk w9 gt 42 (TV A k c)∧w9.ownsRow w.heap.size 3 1 (.slice A k c) k (ints (zBi bs (p+32) k))∧Upd (fun b=>b=gr∨b=gt) w w9) (fun i _=>S-(intOf i).toNat)
   case atStart=>exact⟨0,none,0,by omega,rfl,hp0,hbt,own0,hu⟩
   case round =>
    clear hpr hbt hu hp0 own0;obtain⟨k,A,c,hk,rfl,hpr,hbt,hown,hu⟩:=hrel
    have HEND:Hid (∀ W,(k<S→bs.length<p+32+k)→wr.grownBy W (some gt)→ ∃ (k':Nat) (A':Option Addr) (c':Nat),k'≤qH bs p 16∧(k'<qH bs p 16→bs.length<p+32+k')∧Ending.returned (.agg (TV A k c))=.returned (.agg (yL (qJ bs p 16) (.slice A' k' c'))) ∧
     W.ownsRow w.heap.size 3 1 (.slice A' k' c') k' (ints (zBi bs (p+32) k'))∧PRk W gr bs (p+32+k')∧Upd (fun b=>b=gr) w W):=zA (fun W hl hg=>by
     have hug:=zO hg;refine⟨k,A,c,by rw[HS16.out];exact hk,by rw[HS16.out];exact hl,by rw[HeT.out],vM hown hug (fun x hx q=>zAS hown hbt tblNeI (by rw[q,hx])),hpr.upd hug (fun x q=>by injection q with q;omega), ?_⟩;have hu2:=hu.grown hg (fun b hb=>by injection hb with hb;exact .inl (.inr hb.symm))
     exact⟨hu2.os,hu2.tape,hu2.output,hu2.size,fun b hb hn=>hu2.block b hb (fun h=>h.elim hn (fun h=>by omega))⟩)
    have hfl:=hpr.flag
    by_cases hlt2:k<S
    ·by_cases hsh:bs.length<p+32+k
     ·rw[show decide (bs.length<p+32+k)=true by simpa using hsh] at hfl
      go_wp2_with (first
       | ((with_reducible apply gS 39);refine wLdB rfl 42 (.tmp 2) rfl gt rfl hbt _ Tryz.underlying42 rfl 17 zAl (HT.out A k c) ?_)
       | ((with_reducible apply gT 2 39);refine wStB rfl 42 (.tmp 2) (.tmp 39) rfl gt _ rfl rfl hbt 17 zAl (HT.out A k c) (HT.out A k c) (HO.out A k c) ?_;intro w7 hb7 hg7))
      exact zAy rfl rfl gt rfl hb7 _ Tryz.underlying42 rfl 17 zAl (HT.out A k c) (HEND.out _ (fun _=>hsh) hg7)
     ·rw[show decide (bs.length<p+32+k)=false by simpa using hsh] at hfl;go_wp2_with fail;have HNK:=zA (HN.out (p+32+k));have HSY:=zA (symL_succ bs (p+32) k);generalize bs.getD (p+32+k) 0=x at *;have hbD:=hbt.drew;have hprD:=(show PRk wr.drew gr bs (p+32+k) from hpr)
      have hownD:=(show wr.drew.ownsRow w.heap.size 3 1 (.slice A k c) k (ints (zBi bs (p+32) k)) from hown)
      have huD:=hu.drew;clear hpr hbt hown hu HEND hfl;refine jB (fun j=> !(j ==7)) (fun W=>Blk W gt 42 (TV A k c)) (by kernel_rfl) ?_;refine of_run (k:=0) (by kernel_rfl) rfl (by rfl) (.pointer (some ⟨gt,16,none⟩)) (fun W=>by go_simp) hbD ?_;simp only[Act.put,sA,sB,sC];refine of_run (k:=2) (by kernel_rfl) rfl (by rfl) (.pointer (some ⟨gr,0,none⟩)) (zC rfl rfl) hbD ?_;simp only[Act.put,sA,sB,sC];refine of_fix (k:=1) (by kernel_rfl) rfl (by rfl) (.slice A k c) (fun W hW=>vU rfl rfl ((hW.cell 16).trans (HG16.out A k c))) hbD ?_;simp only[Act.put,sA,sB,sC];refine xR (k:=3) (by kernel_rfl) rfl ?_;refine xP (by rfl) (xQ _ _ _ rfl rfl goesNum #[.pointer (some ⟨gr,0,none⟩)] (by simp[Act.eval])) ?_;refine (HNK.out wr.drew hprD).mono ?_;rintro e w3 ⟨rfl,hpr3,hu3⟩;have hb3:=hu3.blk hbD (by omega);have hown3:=zAK hownD hu3 (fun y hy=>by omega);have hu03:=huD.trans hu3 (fun y hy=>.inl (.inl hy));refine⟨_,rfl,zX ⟨fun _=>hb3, ?_⟩⟩;simp only[Act.put,sA,sB,sC];refine xR (k:=4) (by kernel_rfl) rfl ?_;refine wLit1 rfl 22 3 (.tmp 34) rfl (some 35) rfl Tryz.underlying22 1 qW zeroIP _ rfl rfl (by omega) (by omega) ?_;intro w4 g4 hb4 hx4 hg4;refine zX ⟨fun _=>hb3.ext hx4, ?_⟩;simp only[Act.put,sA,sB,sC];refine xR (k:=5) (by kernel_rfl) rfl ?_;refine wApf elt_intP rfl (.tmp 32) (.tmp 35) rfl w.heap.size (.slice A k c) k (ints (zBi bs (p+32) k)) rfl (yR hown3 hx4) _ 1 (ints [(x:Int)]) rfl (zBh hb4) (qY _) (by omega) (by omega) (by have:=hu03.size;have:=hx4.size;omega) ?_;intro A5 c5 w5 ho5 hg5 hr5;have hown4:=yR hown3 hx4;have hug:=zO hg5;have hb5:=hug.blk (hb3.ext hx4) (fun q=>zAS hown4 (hb3.ext hx4) tblNeI q.symm);have hpr5:=(hpr3.ext hx4).upd hug (fun y hy=>by have:=(hown4.lt y hy).1;omega);have hu5:=(hu03.trans (Upd.of_ext (S:=fun _=>False) hx4) (fun _ h=>h.elim)).grown hg5 (fun b hb=>.inr (hown4.lt b hb).1);refine zX ⟨fun _=>hb5, ?_⟩;simp only[Act.put,sA,sB,sC];refine of_run (k:=6) (by kernel_rfl) rfl (by rfl) (.pointer (some ⟨gt,16,none⟩)) (fun W=>by go_simp) hb5 ?_;simp only[Act.put,sA,sB,sC];refine xR (k:=7) (by kernel_rfl) rfl ?_;refine zIo rfl _ _ rfl gt 16 A5 (k+1) c5 rfl rfl hb5 (by rw[HT.out];omega) ?_;have hb6:=hb5.set_ 16 (.slice A5 (k+1) c5);rw[HL.out] at hb6;have hu6s:=(Upd.refl (fun b=>b=gt) w5).setCell (p:=⟨gt,16,none⟩) rfl (.slice A5 (k+1) c5);have hpr6:=hpr5.upd hu6s (fun y hy=>by omega);have hown6:=vM ho5 hu6s (fun y hy q=>zAS ho5 hb5 tblNeI (by rw[hy,q]));have hu6:=hu5.trans hu6s (fun y hy=>.inl (.inr hy));refine zX ⟨fun h=>(by cases h), ?_⟩;simp only[Act.put,sA,sB,sC];refine vP (by kernel_rfl) ?_;go_wp2_with fail;go_roundw
      case rel=>exact⟨k+1,A5,c5,by omega,by go_num,hpr6,hb6,by rw[HSY.out,uR];exact hown6,hu6⟩
      case measure=>simp[intOf];omega
    ·go_wp2_with (first
      | ((with_reducible apply gS 39);refine wLdB rfl 42 (.tmp 2) rfl gt rfl hbt _ Tryz.underlying42 rfl 17 zAl (HT.out A k c) ?_)
      | ((with_reducible apply gT 2 39);refine wStB rfl 42 (.tmp 2) (.tmp 39) rfl gt _ rfl rfl hbt 17 zAl (HT.out A k c) (HT.out A k c) (HO.out A k c) ?_;intro w7 hb7 hg7))
     exact zAy rfl rfl gt rfl hb7 _ Tryz.underlying42 rfl 17 zAl (HT.out A k c) (HEND.out _ (fun h=>absurd h hlt2) hg7)
def xT (n lo hi:Int) (w:World) :
 Calls Tryz.prog 108 #[.int .i64 n,.int .i64 lo,.int .i64 hi] w fun e w'=>e=.returned (.bool (inB n lo hi))∧w=w':=by
 by_cases h:lo≤n
 ·have h':decide (lo≤n)=true:=by simpa using h
  have e:inB n lo hi=decide (n≤hi):=by rw[wE3,jS];simp;omega
  rw[e];clear e;go_enter Tryz.func108,Tryz.ntmps108;go_wp2
  go_ret;exact⟨rfl,rfl⟩
 ·have h':decide (lo≤n)=false:=by simpa using h
  have e:inB n lo hi=false:=zAI.2 (by omega);rw[e];clear e;go_enter Tryz.func108,Tryz.ntmps108;go_wp2
  go_ret;exact⟨rfl,rfl⟩
def fcheck_na (wd hi pt ev:Int) (qs:List Int) (t1 t2:List Value) (sd:Value) (w:World) (hq:qs.length=64) (h1:t1.length=17) (h2:t2.length=17) (k1:inB wd 1 64=false) :
 Calls Tryz.prog 50 #[.agg (yY wd hi pt qs t1 t2 ev sd).toArray] w fun e w'=>e=.returned (.int .i64 1)∧Ext w w':=by
 have HF:=zA (fun W g (hb:Blk W g 47 (yY wd hi pt qs t1 t2 ev sd).toArray)=>zBu hb hq h1 h2);have W1:=zA (fun W=>xT wd 1 64 W);have W2:=zA (fun W=>xT hi 1 64 W);have W3:=zA (fun W=>xT ev 0 100 W);generalize (yY wd hi pt qs t1 t2 ev sd).toArray=fv at *;generalize inB wd 1 64=b1 at *;generalize inB hi 1 64=b2 at *;generalize inB ev 0 100=b3 at *;subst k1;go_enter Tryz.func50,Tryz.ntmps50
 go_wp2_with (first
  | (refine wBox rfl 47 (.tmp 0) rfl fv rfl ?_;intro w1 g hb1 hx1 hg;obtain⟨c0,c1,c2, -, -, -, -,c101, -⟩:=HF.out _ _ hb1)
  | (go_at_call 108;(with_reducible refine (W1.out _).mono ?_);rintro e w2 ⟨rfl,rfl⟩)
  | (go_at_call 108;(with_reducible refine (W2.out _).mono ?_);rintro e w2 ⟨rfl,rfl⟩)
  | (go_at_call 108;(with_reducible refine (W3.out _).mono ?_);rintro e w2 ⟨rfl,rfl⟩))
 go_ret;exact⟨rfl,hx1⟩
def fcheck_nb (wd hi pt ev:Int) (qs:List Int) (t1 t2:List Value) (sd:Value) (w:World) (hq:qs.length=64) (h1:t1.length=17) (h2:t2.length=17) (k1:inB wd 1 64=true) (k2:inB hi 1 64=false) :
 Calls Tryz.prog 50 #[.agg (yY wd hi pt qs t1 t2 ev sd).toArray] w fun e w'=>e=.returned (.int .i64 1)∧Ext w w':=by
 have HF:=zA (fun W g (hb:Blk W g 47 (yY wd hi pt qs t1 t2 ev sd).toArray)=>zBu hb hq h1 h2);have W1:=zA (fun W=>xT wd 1 64 W);have W2:=zA (fun W=>xT hi 1 64 W);have W3:=zA (fun W=>xT ev 0 100 W);generalize (yY wd hi pt qs t1 t2 ev sd).toArray=fv at *;generalize inB wd 1 64=b1 at *;generalize inB hi 1 64=b2 at *;generalize inB ev 0 100=b3 at *;subst k1 k2;go_enter Tryz.func50,Tryz.ntmps50
 go_wp2_with (first
  | (refine wBox rfl 47 (.tmp 0) rfl fv rfl ?_;intro w1 g hb1 hx1 hg;obtain⟨c0,c1,c2, -, -, -, -,c101, -⟩:=HF.out _ _ hb1)
  | (go_at_call 108;(with_reducible refine (W1.out _).mono ?_);rintro e w2 ⟨rfl,rfl⟩)
  | (go_at_call 108;(with_reducible refine (W2.out _).mono ?_);rintro e w2 ⟨rfl,rfl⟩)
  | (go_at_call 108;(with_reducible refine (W3.out _).mono ?_);rintro e w2 ⟨rfl,rfl⟩))
 go_ret;exact⟨rfl,hx1⟩
def fcheck_nc (wd hi pt ev:Int) (qs:List Int) (t1 t2:List Value) (sd:Value) (w:World) (hq:qs.length=64) (h1:t1.length=17) (h2:t2.length=17) (k1:inB wd 1 64=true) (k2:inB hi 1 64=true) (p1:(pt !=1)=true) (p2:(pt !=3)=true) :
 Calls Tryz.prog 50 #[.agg (yY wd hi pt qs t1 t2 ev sd).toArray] w fun e w'=>e=.returned (.int .i64 1)∧Ext w w':=by
 have HF:=zA (fun W g (hb:Blk W g 47 (yY wd hi pt qs t1 t2 ev sd).toArray)=>zBu hb hq h1 h2);have W1:=zA (fun W=>xT wd 1 64 W);have W2:=zA (fun W=>xT hi 1 64 W);have W3:=zA (fun W=>xT ev 0 100 W);generalize (yY wd hi pt qs t1 t2 ev sd).toArray=fv at *;generalize inB wd 1 64=b1 at *;generalize inB hi 1 64=b2 at *;generalize inB ev 0 100=b3 at *;subst k1 k2;go_enter Tryz.func50,Tryz.ntmps50
 go_wp2_with (first
  | (refine wBox rfl 47 (.tmp 0) rfl fv rfl ?_;intro w1 g hb1 hx1 hg;obtain⟨c0,c1,c2, -, -, -, -,c101, -⟩:=HF.out _ _ hb1)
  | (go_at_call 108;(with_reducible refine (W1.out _).mono ?_);rintro e w2 ⟨rfl,rfl⟩)
  | (go_at_call 108;(with_reducible refine (W2.out _).mono ?_);rintro e w2 ⟨rfl,rfl⟩)
  | (go_at_call 108;(with_reducible refine (W3.out _).mono ?_);rintro e w2 ⟨rfl,rfl⟩))
 go_ret;exact⟨rfl,hx1⟩
def fcheck_nd (wd hi ev:Int) (qs:List Int) (t1 t2:List Value) (sd:Value) (w:World) (hq:qs.length=64) (h1:t1.length=17) (h2:t2.length=17) (k1:inB wd 1 64=true) (k2:inB hi 1 64=true) (k3:inB ev 0 100=false) :
 Calls Tryz.prog 50 #[.agg (yY wd hi 1 qs t1 t2 ev sd).toArray] w fun e w'=>e=.returned (.int .i64 1)∧Ext w w':=by
 have HF:=zA (fun W g (hb:Blk W g 47 (yY wd hi 1 qs t1 t2 ev sd).toArray)=>zBu hb hq h1 h2);have W1:=zA (fun W=>xT wd 1 64 W);have W2:=zA (fun W=>xT hi 1 64 W);have W3:=zA (fun W=>xT ev 0 100 W);generalize (yY wd hi 1 qs t1 t2 ev sd).toArray=fv at *;generalize inB wd 1 64=b1 at *;generalize inB hi 1 64=b2 at *;generalize inB ev 0 100=b3 at *;subst k1 k2 k3;go_enter Tryz.func50,Tryz.ntmps50
 go_wp2_with (first
  | (refine wBox rfl 47 (.tmp 0) rfl fv rfl ?_;intro w1 g hb1 hx1 hg;obtain⟨c0,c1,c2, -, -, -, -,c101, -⟩:=HF.out _ _ hb1)
  | (go_at_call 108;(with_reducible refine (W1.out _).mono ?_);rintro e w2 ⟨rfl,rfl⟩)
  | (go_at_call 108;(with_reducible refine (W2.out _).mono ?_);rintro e w2 ⟨rfl,rfl⟩)
  | (go_at_call 108;(with_reducible refine (W3.out _).mono ?_);rintro e w2 ⟨rfl,rfl⟩))
 go_ret;exact⟨rfl,hx1⟩
def fcheck_ne (wd hi ev:Int) (qs:List Int) (t1 t2:List Value) (sd:Value) (w:World) (hq:qs.length=64) (h1:t1.length=17) (h2:t2.length=17) (k1:inB wd 1 64=true) (k2:inB hi 1 64=true) (k3:inB ev 0 100=false) :
 Calls Tryz.prog 50 #[.agg (yY wd hi 3 qs t1 t2 ev sd).toArray] w fun e w'=>e=.returned (.int .i64 1)∧Ext w w':=by
 have HF:=zA (fun W g (hb:Blk W g 47 (yY wd hi 3 qs t1 t2 ev sd).toArray)=>zBu hb hq h1 h2);have W1:=zA (fun W=>xT wd 1 64 W);have W2:=zA (fun W=>xT hi 1 64 W);have W3:=zA (fun W=>xT ev 0 100 W);generalize (yY wd hi 3 qs t1 t2 ev sd).toArray=fv at *;generalize inB wd 1 64=b1 at *;generalize inB hi 1 64=b2 at *;generalize inB ev 0 100=b3 at *;subst k1 k2 k3;go_enter Tryz.func50,Tryz.ntmps50
 go_wp2_with (first
  | (refine wBox rfl 47 (.tmp 0) rfl fv rfl ?_;intro w1 g hb1 hx1 hg;obtain⟨c0,c1,c2, -, -, -, -,c101, -⟩:=HF.out _ _ hb1)
  | (go_at_call 108;(with_reducible refine (W1.out _).mono ?_);rintro e w2 ⟨rfl,rfl⟩)
  | (go_at_call 108;(with_reducible refine (W2.out _).mono ?_);rintro e w2 ⟨rfl,rfl⟩)
  | (go_at_call 108;(with_reducible refine (W3.out _).mono ?_);rintro e w2 ⟨rfl,rfl⟩))
 go_ret;exact⟨rfl,hx1⟩
def fcheck_no (wd hi pt ev:Int) (qs:List Int) (t1 t2:List Value) (sd:Value) (w:World) (hq:qs.length=64) (h1:t1.length=17) (h2:t2.length=17) (h:zDc wd hi pt ev=false) :
 Calls Tryz.prog 50 #[.agg (yY wd hi pt qs t1 t2 ev sd).toArray] w fun e w'=>e=.returned (.int .i64 1)∧Ext w w':=by
 unfold zDc at h
 cases k1:inB wd 1 64 with
 | false=>exact fcheck_na wd hi pt ev qs t1 t2 sd w hq h1 h2 k1
 | true =>
   cases k2:inB hi 1 64 with
   | false=>exact fcheck_nb wd hi pt ev qs t1 t2 sd w hq h1 h2 k1 k2
   | true =>
     by_cases p1:pt=1
     ·subst p1
      cases k3:inB ev 0 100 with
      | false=>exact fcheck_nd wd hi ev qs t1 t2 sd w hq h1 h2 k1 k2 k3
      | true=>rw[k1,k2,k3] at h;cases h
     ·by_cases p3:pt=3
      ·subst p3
       cases k3:inB ev 0 100 with
       | false=>exact fcheck_ne wd hi ev qs t1 t2 sd w hq h1 h2 k1 k2 k3
       | true=>rw[k1,k2,k3] at h;cases h
      ·exact fcheck_nc wd hi pt ev qs t1 t2 sd w hq h1 h2 k1 k2 (by simpa using p1) (by simpa using p3)
def fcheck_yf (pt:Int) (hpt:pt=1∨pt=3) (wd hi ev:Int) (qs:List Int) (t1 t2:List Value) (A:Option Addr) (n c:Nat) (z1 z2:Int) (w:World) (hq:qs.length=64) (h1:t1.length=17) (h2:t2.length=17)
 (k1:inB wd 1 64=true) (k2:inB hi 1 64=true) (k3:inB ev 0 100=true) (kq:zR qs 1 255=false) :
 Calls Tryz.prog 50 #[.agg (yY wd hi pt qs t1 t2 ev (.slice A n c)).toArray] w fun e w'=>e=.returned (.int .i64 (1))∧Ext w w':=by
 have HF:=zA (fun W g (hb:Blk W g 47 (yY wd hi pt qs t1 t2 ev (.slice A n c)).toArray)=>zBu hb hq h1 h2);have W1:=zA (fun W=>xT wd 1 64 W);have W2:=zA (fun W=>xT hi 1 64 W);have W3:=zA (fun W=>xT ev 0 100 W);have HQ:Hid (∀ W,Calls Tryz.prog 15 #[.agg (ints qs).toArray] W fun e w'=>e=.returned (.int .i64 1)∧Ext W w'):=zA (fun W=>by have h:=zCb qs W hq;rw[kq] at h;exact h);clear kq;have hql:=zA ((yA qs).trans hq);have hl1:=zA h1;have hl2:=zA h2;clear hq h1 h2;generalize (yY wd hi pt qs t1 t2 ev (.slice A n c)).toArray=fv at *;generalize inB wd 1 64=b1 at *;generalize inB hi 1 64=b2 at *;generalize inB ev 0 100=b3 at *;subst k1 k2 k3;rcases hpt with rfl | rfl
 all_goals
  go_enter Tryz.func50,Tryz.ntmps50
  go_wp2_with (first
   | (refine wBox rfl 47 (.tmp 0) rfl fv rfl ?_;intro w1 g hb1 hx1 hg;have hf1:=HF.out _ _ hb1;have c0:=hf1.c0;have c1:=hf1.c1;have c2:=hf1.c2;have c101:=hf1.c101)
   | (go_at_call 108;(with_reducible refine (W1.out _).mono ?_);rintro e w2 ⟨rfl,rfl⟩)
   | (go_at_call 108;(with_reducible refine (W2.out _).mono ?_);rintro e w2 ⟨rfl,rfl⟩)
   | (go_at_call 108;(with_reducible refine (W3.out _).mono ?_);rintro e w2 ⟨rfl,rfl⟩)
   | (refine wpList_load_mid rfl 33 (.tmp 33) rfl g 3 rfl (ints qs) _ hf1.q Tryz.underlying33 rfl (by rw[hql.out];exact zH) ?_)
   | (go_at_call 15;(with_reducible refine (HQ.out _).mono ?_);rintro e w2 ⟨rfl,hx2⟩;have hb2:=hb1.ext hx2;have hf2:=HF.out _ _ hb2))
  go_ret;exact⟨rfl,hx1.trans hx2⟩
def fcheck_yt (pt:Int) (hpt:pt=1∨pt=3) (wd hi ev:Int) (qs:List Int) (t1 t2:List Value) (A:Option Addr) (n c:Nat) (z1 z2:Int) (w:World) (hq:qs.length=64) (h1:t1.length=17) (h2:t2.length=17)
 (k1:inB wd 1 64=true) (k2:inB hi 1 64=true) (k3:inB ev 0 100=true) (kq:zR qs 1 255=true) (o1:t1.toArray.all (·.oneCell')=true) (o2:t2.toArray.all (·.oneCell')=true)
 (C1: ∀ W,Ext w W→Calls Tryz.prog 102 #[.agg t1.toArray] W fun e W'=>e=.returned (.int .i64 z1)∧Ext W W')
 (C2: ∀ W,Ext w W→Calls Tryz.prog 102 #[.agg t2.toArray] W fun e W'=>e=.returned (.int .i64 z2)∧Ext W W') :
 Calls Tryz.prog 50 #[.agg (yY wd hi pt qs t1 t2 ev (.slice A n c)).toArray] w fun e w'=>e=.returned (.int .i64 (if z1=0 then (if z2=0 then (if 90000<n then 2 else 0) else z2) else z1))∧Ext w w':=by
 have HF:=zA (fun W g (hb:Blk W g 47 (yY wd hi pt qs t1 t2 ev (.slice A n c)).toArray)=>zBu hb hq h1 h2);have W1:=zA (fun W=>xT wd 1 64 W);have W2:=zA (fun W=>xT hi 1 64 W);have W3:=zA (fun W=>xT ev 0 100 W);have HQ:Hid (∀ W,Calls Tryz.prog 15 #[.agg (ints qs).toArray] W fun e w'=>e=.returned (.int .i64 0)∧Ext W w'):=zA (fun W=>by have h:=zCb qs W hq;rw[kq] at h;exact h);clear kq;have hql:=zA ((yA qs).trans hq);have hl1:=zA h1;have hl2:=zA h2;have HB2:=zA (zGY t1 t2 h1 h2);have HRT:=zA (fun W g (hb:Blk W g 42 (t1++t2).toArray)=>uY h1 hb);have hs1:Hid (t1.toArray.size=17):=zA (by simpa using h1);have hs2:Hid (t2.toArray.size=17):=zA (by simpa using h2);have hz17:Hid ((ints (List.replicate 16 0)++[Value.slice none 0 0]).toArray.size=17):=zA (by simp[ints]);have hl3:Hid ((t1++t2).length=34):=zA (by simp[h1,h2]);have HO1:=zA o1;have HO2:=zA o2;have HC1:=zA C1;have HC2:=zA C2;clear o1 o2 C1 C2;generalize hR:(if z1=0 then (if z2=0 then (if 90000<n then (2:Int) else 0) else z2) else z1)=R;have HR:=zA hR;clear hR;clear hq h1 h2;generalize (yY wd hi pt qs t1 t2 ev (.slice A n c)).toArray=fv at *;generalize inB wd 1 64=b1 at *;generalize inB hi 1 64=b2 at *;generalize inB ev 0 100=b3 at *;subst k1 k2 k3;rcases hpt with rfl | rfl
 all_goals
  go_enter Tryz.func50,Tryz.ntmps50
  go_wp2_with (first
   | (refine wBox rfl 47 (.tmp 0) rfl fv rfl ?_;intro w1 g hb1 hx1 hg;have hf1:=HF.out _ _ hb1;have c0:=hf1.c0;have c1:=hf1.c1;have c2:=hf1.c2;have c101:=hf1.c101)
   | (go_at_call 108;(with_reducible refine (W1.out _).mono ?_);rintro e w2 ⟨rfl,rfl⟩)
   | (go_at_call 108;(with_reducible refine (W2.out _).mono ?_);rintro e w2 ⟨rfl,rfl⟩)
   | (go_at_call 108;(with_reducible refine (W3.out _).mono ?_);rintro e w2 ⟨rfl,rfl⟩)
   | (refine wpList_load_mid rfl 33 (.tmp 33) rfl g 3 rfl (ints qs) _ hf1.q Tryz.underlying33 rfl (by rw[hql.out];exact zH) ?_)
   | (go_at_call 15;(with_reducible refine (HQ.out _).mono ?_);rintro e w2 ⟨rfl,hx2⟩;have hb2:=hb1.ext hx2;have hf2:=HF.out _ _ hb2)
   | (refine wpList_load_mid rfl 42 (.tmp 40) rfl g 67 rfl t1 _ hf2.ta Tryz.underlying42 rfl (by rw[hl1.out];exact zS) ?_)
   | (refine wpList_load_mid rfl 42 (.tmp 43) rfl g 84 rfl t2 _ hf2.tb Tryz.underlying42 rfl (by rw[hl2.out];exact zS) ?_)
   | (refine Go.Great.wpList_buildSliceTo rfl 115 42 2 _ rfl _ rfl (some 45) rfl Tryz.underlying115 _ (by simp[Act.eval];exact HB2.out) ?_))
  have hbn0:=Blk.new w2 42 (t1++t2).toArray;have hb3:=hb2.alloc (.cells (t1++t2).toArray 42);have hx3:=(hx1.trans hx2).alloc (.cells (t1++t2).toArray 42);clear hb1 hb2 hf1 hf2 hx1 hx2 c0 c1 c2 c101
  go_loopw [47] (fun i wr=> ∃ k:Nat,k≤2∧i=.int .i64 (k:Int)∧(1≤k→z1=0)∧(2≤k→z2=0)∧Blk wr g 47 fv∧Blk wr w2.heap.size 42 (t1++t2).toArray∧Ext w wr) (fun i _=>2-(intOf i).toNat)
  case atStart=>exact⟨0,by omega,rfl,fun h=>absurd h (by omega),fun h=>absurd h (by omega),hb3,hbn0,hx3⟩
  case round =>
   clear hb3 hbn0 hx3;obtain⟨k,hk,rfl,e1,e2,hb,hbn,hx⟩:=hrel;rcases (by omega:k=0∨k=1∨k=2) with rfl | rfl | rfl
   ·have hr:=(HRT.out _ _ hbn).1
    by_cases hz:z1=0
    ·subst hz
     go_wp2_with (first
      | (refine wpList_load_mid rfl 42 (.tmp 49) rfl _ 0 rfl t1 _ hr Tryz.underlying42 rfl (by rw[hl1.out];exact zS) ?_)
      | (refine wAlo' rfl (some 5) rfl 42 rfl _ zAN ?_;intro w4 ga hba4 hx4 hga)
      | (refine wStB rfl 42 (.tmp 5) (.tmp 50) rfl _ _ rfl rfl hba4 17 zS hs1.out hz17.out HO1.out ?_;intro w5 hba5 hg5;have hx5:=(hx.trans hx4).grown hg5 (by have:=hx.size;omega))
      | (refine wLdB rfl 42 (.tmp 5) rfl _ rfl hba5 _ Tryz.underlying42 rfl 17 zS hs1.out ?_)
      | (go_at_call 102;(with_reducible refine (HC1.out _ hx5).mono ?_);rintro e w6 ⟨rfl,hx6⟩))
     go_roundw
     case rel=>exact⟨1,by omega,by go_num,by simp,fun h=>absurd h (by omega),((hb.ext hx4).grown hg5 (by have:=hb.lt;simp;omega)).ext hx6,((hbn.ext hx4).grown hg5 (by have:=hbn.lt;simp;omega)).ext hx6,hx5.trans hx6⟩
     case measure=>simp[intOf]
    ·have hz1:(z1 !=0)=true:=by simpa using hz
     have HZ:=zA hz;clear hz
     go_wp2_with (first
      | (refine wpList_load_mid rfl 42 (.tmp 49) rfl _ 0 rfl t1 _ hr Tryz.underlying42 rfl (by rw[hl1.out];exact zS) ?_)
      | (refine wAlo' rfl (some 5) rfl 42 rfl _ zAN ?_;intro w4 ga hba4 hx4 hga)
      | (refine wStB rfl 42 (.tmp 5) (.tmp 50) rfl _ _ rfl rfl hba4 17 zS hs1.out hz17.out HO1.out ?_;intro w5 hba5 hg5;have hx5:=(hx.trans hx4).grown hg5 (by have:=hx.size;omega))
      | (refine wLdB rfl 42 (.tmp 5) rfl _ rfl hba5 _ Tryz.underlying42 rfl 17 zS hs1.out ?_)
      | (go_at_call 102;(with_reducible refine (HC1.out _ hx5).mono ?_);rintro e w6 ⟨rfl,hx6⟩))
     go_ret;exact⟨by rw[←HR.out];simp[HZ.out],hx5.trans hx6⟩
   ·have hr:=(HRT.out _ _ hbn).2
    by_cases hz:z2=0
    ·subst hz
     go_wp2_with (first
      | (refine wpList_load_mid rfl 42 (.tmp 49) rfl _ 17 rfl t2 _ hr Tryz.underlying42 rfl (by rw[hl2.out];exact zS) ?_)
      | (refine wAlo' rfl (some 5) rfl 42 rfl _ zAN ?_;intro w4 ga hba4 hx4 hga)
      | (refine wStB rfl 42 (.tmp 5) (.tmp 50) rfl _ _ rfl rfl hba4 17 zS hs2.out hz17.out HO2.out ?_;intro w5 hba5 hg5;have hx5:=(hx.trans hx4).grown hg5 (by have:=hx.size;omega))
      | (refine wLdB rfl 42 (.tmp 5) rfl _ rfl hba5 _ Tryz.underlying42 rfl 17 zS hs2.out ?_)
      | (go_at_call 102;(with_reducible refine (HC2.out _ hx5).mono ?_);rintro e w6 ⟨rfl,hx6⟩))
     go_roundw
     case rel=>exact⟨2,by omega,by go_num,fun _=>e1 (by omega),by simp,((hb.ext hx4).grown hg5 (by have:=hb.lt;simp;omega)).ext hx6,((hbn.ext hx4).grown hg5 (by have:=hbn.lt;simp;omega)).ext hx6,hx5.trans hx6⟩
     case measure=>simp[intOf]
    ·have hz1:(z2 !=0)=true:=by simpa using hz
     have HZ:=zA hz;clear hz
     go_wp2_with (first
      | (refine wpList_load_mid rfl 42 (.tmp 49) rfl _ 17 rfl t2 _ hr Tryz.underlying42 rfl (by rw[hl2.out];exact zS) ?_)
      | (refine wAlo' rfl (some 5) rfl 42 rfl _ zAN ?_;intro w4 ga hba4 hx4 hga)
      | (refine wStB rfl 42 (.tmp 5) (.tmp 50) rfl _ _ rfl rfl hba4 17 zS hs2.out hz17.out HO2.out ?_;intro w5 hba5 hg5;have hx5:=(hx.trans hx4).grown hg5 (by have:=hx.size;omega))
      | (refine wLdB rfl 42 (.tmp 5) rfl _ rfl hba5 _ Tryz.underlying42 rfl 17 zS hs2.out ?_)
      | (go_at_call 102;(with_reducible refine (HC2.out _ hx5).mono ?_);rintro e w6 ⟨rfl,hx6⟩))
     go_ret;exact⟨by rw[←HR.out];simp[HZ.out,e1 (by omega)],hx5.trans hx6⟩
   ·have c102:=(HF.out _ _ hb).c102;have Z1:=zA (e1 (by omega));have Z2:=zA (e2 (by omega));clear e1 e2
    by_cases hn:90000<n
    ·have hn':decide ((90000:Int)<(n:Int))=true:=by simp;omega
     go_wp2_with fail;go_ret;have h2:R=2:=by rw[←HR.out,if_pos Z1.out,if_pos Z2.out,if_pos hn]
     subst h2;exact⟨rfl,hx⟩
    ·have hn':decide ((90000:Int)<(n:Int))=false:=by simp;omega
     go_wp2_with fail;go_ret;have h2:R=0:=by rw[←HR.out,if_pos Z1.out,if_pos Z2.out,if_neg hn]
     subst h2;exact⟨rfl,hx⟩
def zHk (cs:List Int) (sl:Value) (h: ∃ A n c,sl=.slice A n c):(zQ cs sl).toArray.all (·.oneCell')=true:=by
 obtain⟨A,n,c,rfl⟩:=h;refine all_oneCell_toArray fun v hv=> ?_
 unfold zQ at hv;rcases wE6.1 hv with hv | hv
 ·obtain⟨z, -,rfl⟩:=wD6.1 hv;rfl
 ·rw[wK3.1 hv];rfl
def zHC {wd hi pt ev:Int} (h:zDc wd hi pt ev=true):inB wd 1 64=true∧inB hi 1 64=true∧inB ev 0 100=true∧(pt=1∨pt=3):=by
 unfold zDc at h;simp only[wA9,wB9,beq_iff_eq] at h;exact⟨h.1.1.1,h.1.1.2,h.2,h.1.2⟩
def zLa (wd hi pt ev:Int) (qs cs1 xs1:List Int) (s1:Value) (cs2 xs2:List Int) (s2:Value) (bs:List Nat) (sd:Value) (w:World) (hq:qs.length=64) (h1:cs1.length=16) (h2:cs2.length=16)
 (hs1:SL w 1 s1 xs1.length (ints xs1)) (hs2:SL w 1 s2 xs2.length (ints xs2)) (hsd:SL w 1 sd bs.length (zF bs)) :
 Calls Tryz.prog 50 #[.agg (yY wd hi pt qs (zQ cs1 s1) (zQ cs2 s2) ev sd).toArray] w fun e w'=>e=.returned (.int .i64 (zDl wd hi pt qs (zT cs1 xs1) (zT cs2 xs2) ev bs.length))∧Ext w w':=by
 have o1:=zHk cs1 s1 (let ⟨A,c,h,_⟩:=hs1;⟨A,_,c,h⟩);have o2:=zHk cs2 s2 (let ⟨A,c,h,_⟩:=hs2;⟨A,_,c,h⟩);obtain⟨A,c,rfl, -⟩:=hsd;have l1:=zU cs1 s1 h1;have l2:=zU cs2 s2 h2;unfold zDl
 cases ha:zDc wd hi pt ev with
 | false=>exact fcheck_no wd hi pt ev qs _ _ _ w hq l1 l2 ha
 | true =>
   obtain⟨k1,k2,k3,hp⟩:=zHC ha
   cases kq:zR qs 1 255 with
   | false =>
     exact fcheck_yf pt hp wd hi ev qs _ _ A _ c 0 0 w hq l1 l2 k1 k2 k3 kq
   | true =>
     exact fcheck_yt pt hp wd hi ev qs _ _ A _ c _ _ w hq l1 l2 k1 k2 k3 kq o1 o2 (fun W hW=>zAs cs1 xs1 s1 W h1 (hs1.ext hW)) (fun W hW=>zAs cs2 xs2 s2 W h2 (hs2.ext hW))
def qZ (ns:List Nat):List Int:=ns.map fun n:Nat=>(n:Int)
def zCw (ns:List Nat):(qZ ns).length=ns.length:=by simp[qZ]
def zMn {ns:List Nat} {k:Nat} (h:k<ns.length):(ints (qZ ns))[k]? =some (.int .i64 ((ns[k]:Nat):Int)):=by
 simp[ints,qZ,h]
def zBf (cn xn:List Nat):List Nat:=cn.flatMap (fun n=>[n/256,n%256])++xn
def zFm (wd hi pt ev:Nat) (qn cn1 xn1 cn2 xn2 bs:List Nat):List Nat:=[77,90,wd,hi,pt,ev]++qn++(zBf cn1 xn1++zBf cn2 xn2)++bs
def flat2_len (cn:List Nat):(cn.flatMap (fun n=>[n/256,n%256])).length=2*cn.length:=by
 induction cn with
 | nil=>rfl
 | cons n cn ih=>simp only[wJ6,wF3,ih,wA8,wM9];omega
def zKl (cn xn:List Nat):(zBf cn xn).length=2*cn.length+xn.length:=by rw[zBf,wF3,flat2_len]
def zSw (cn:List Nat) (k:Nat) (h:k<cn.length):(cn.take (k+1)).flatMap (fun n=>[n/256,n%256])=(cn.take k).flatMap (fun n=>[n/256,n%256])++[cn[k]/256,cn[k]%256]:=by
 rw[wC3 h,wJ4];rfl
def u8_wrap (n:Nat):IntKind.u8.wrap (n:Int)=((n%256:Nat):Int):=by
 simp[IntKind.wrap,IntKind.signed,IntKind.bits]
def zLV (n:Nat) (W:World):(convert 3 5 (.int .i64 (n:Int))).run Tryz.prog W=.ok (.int .u8 ((n%256:Nat):Int)) W:=by
 simp[convert,run_underlying Tryz.underlying3,run_underlying Tryz.underlying5,Conv.intToInt,u8_wrap]
section
variable {o:Oper} {a:Act}
def zCq {x:Operand} (ho:o.op=.convert 3 5 x) {n:Nat} (hx:a.eval x=.int .i64 (n:Int)) (h:n<256) (w:World):(execOp a.eval o).run Tryz.prog w=.ok (.value (.int .u8 (n:Int))) w:=by
 simp only[execOp,ho,hx,Sem.run_bind,zLV,Result.andThen_ok,Sem.run_pure,wL8 h]
def ex_conv8m {x:Operand} (ho:o.op=.convert 3 5 x) {n:Nat} (hx:a.eval x=.int .i64 (n:Int)) (w:World):(execOp a.eval o).run Tryz.prog w=.ok (.value (.int .u8 ((n%256:Nat):Int))) w:=by
 simp only[execOp,ho,hx,Sem.run_bind,zLV,Result.andThen_ok,Sem.run_pure]
def ex_shr8 {x y:Operand} {t2:TypeId} (ho:o.op=.binOp .shr 3 x y t2) {n:Nat} (hx:a.eval x=.int .i64 (n:Int)) (hy:a.eval y=.int .u64 8) (w:World):(execOp a.eval o).run Tryz.prog w=.ok (.value (.int .i64 ((n/256:Nat):Int))) w:=by
 have e:(n:Int) >>>(8:Nat)=((n/256:Nat):Int):=by rw[wP8];rfl
 have h8:IntKind.i64.bits=64:=rfl;simp[execOp,ho,hx,hy,eqGuard,binOp,Op.shift,e,h8];exact wP9 _ (by decide)
def ex_idx {t e:TypeId} {m:Nat} (ht:Tryz.prog.underlying t=some (.array m e)) {k:IntKind} (he:Tryz.prog.underlying e=some (.int k)) (hs:(Tryz.prog.info? e).map (·.size)=some 1) {x ix:Operand} (ho:o.op=.index t x ix) {cs:Array Value} {i:Nat} {u:Value} (hx:a.eval x=.agg cs) (hi:a.eval ix=.int .i64 (i:Int)) (h:i<m) (hu:cs[i]? =some u) (w:World) :
 (execOp a.eval o).run Tryz.prog w=.ok (.value u) w:=by
 simp only[execOp,ho,hx,hi,Sem.run_bind,zCH t e m cs i u ht k he hs h hu w,Result.andThen_ok,Sem.run_pure]
end
def zSC (w:World) (T:TypeId) (o:Obj):zAJ ((w.alloc (.cells #[.int .u8 77,.int .u8 90] T (2,3))).alloc o) ⟨w.heap.size,0,none⟩ (zF [77,90]):=by
 intro j u hu;have hj:j=0∨j=1:=by have:=(wC2.1 hu).1;simp[zF] at this;omega
 rw[zBx,((Ext.refl (w.alloc (.cells #[.int .u8 77,.int .u8 90] T (2,3)))).alloc o).cell (p:=⟨w.heap.size,0+j,none⟩) (by simp),World.cell?_alloc_mark];rcases hj with rfl | rfl<;>simpa [zF] using hu
def zHI (w:World) (T:TypeId) (cs:List Value) (n:Nat) (hn:cs.length=n) (h:n≤1000):SL (w.alloc (.cells cs.toArray T)) 1 (.slice (some ⟨w.heap.size,0,none⟩) n n) n cs:=by
 have:=(Blk.new w T cs.toArray).sl (size:=1) (n:=n) (c:=n) (by simp[hn]) (by omega) (by omega);simpa using this
def cells_sl' (w:World) (T:TypeId) (cs:List Value) (n N:Nat) (hN:w.heap.size=N) (hn:cs.length=n) (h:n≤1000):SL (w.alloc (.cells cs.toArray T)) 1 (.slice (some ⟨N,0,none⟩) n n) n cs:=by
 subst hN;exact zHI w T cs n hn h
def zFC {w:World} {g base size n:Nat} {T e:TypeId} {cs:Array Value} {v:Value} {xs:List Value} (h:Blk w g T cs) (ho:w.ownsRow base e size v n xs) (hne:T≠e):some g≠v.ownBlock:=by
 obtain⟨-,hh⟩:=ho;rcases hh with ⟨rfl, -⟩ | ⟨k,cap,cur,rfl, -,hg, -⟩
 ·simp[Value.ownBlock]
 ·intro e1;have:g=k:=by simpa [Value.ownBlock] using e1
  subst this;exact (h.ne_ (g':=g) (cs':=cur) hg hne) rfl
def ext_own {a w w':World} {e size n:Nat} {v:Value} {xs:List Value} (hx:Ext a w) (ho:w.ownsRow a.heap.size e size v n xs) (hg:w.grownBy w' v.ownBlock):Ext a w' :=
 Below.grown hx hg hx.size (fun k hk=>(ho.lt k hk).1)
def zKv {a w w':World} {e size n:Nat} {v:Value} {xs:List Value} {o:Obj} (hx:Ext a w) (ho:w.ownsRow a.heap.size e size v n xs) (hg:(w.alloc o).grownBy w' v.ownBlock):Ext a w' :=
 ext_own (hx.alloc o) (ho.alloc o) hg
def zFU (l:List Nat): ∀ u∈zF l,u.oneCell'=true:=by
 intro u hu;obtain⟨z, -,rfl⟩:=wD6.1 hu;rfl
def zEe (a b:List Nat):zF (a++b)=zF a++zF b:=by simp[zF]
def own_base {w:World} {B B':Nat} {e:TypeId} {size n:Nat} {v:Value} {xs:List Value} (h:w.ownsRow B e size v n xs) (hb:B'≤B):w.ownsRow B' e size v n xs:=by
 obtain⟨hl,hh⟩:=h;refine⟨hl, ?_⟩;rcases hh with ⟨rfl,rfl⟩ | ⟨g,cap,cur,rfl,h1,h2⟩
 ·exact .inl ⟨rfl,rfl⟩
 ·exact .inr ⟨g,cap,cur,rfl,by omega,h2⟩
def elt_info (P:Program) {t e:TypeId} {size bytes:Nat} (h:Elt P t e size bytes): ∃ i z,P.info? e=some i∧i.zero=some z∧i.size=size∧i.bytes=bytes∧z.cells.size=size:=by
 obtain⟨-,hi, -⟩:=h
 cases hq:P.info? e with
 | none=>simp[hq] at hi
 | some i =>
   cases hz:i.zero with
   | none=>simp[hq,hz] at hi
   | some z =>
     simp[hq,hz] at hi;exact⟨i,z,rfl,hz,hi.2.1,hi.2.2,hi.1⟩
def zJn {P:Program} {w:World} {ops:Array Oper} {rest:List Oper} {o:Oper} {a:Act} {Q:Exit→Act→World→Prop} {t e:TypeId} {size bytes:Nat} (he:Elt P t e size bytes) (hg:o.guard=none) (s x:Operand)
 (ho:o.op=.call { callee:=.builtin .append,args:= #[s,x],argTypes:= #[t,t] }) (n:Nat) (b:Addr) (olds:List Value) (hs:a.eval s=.slice (some b) n n) (hlo:olds.length=n*size) (holds:zAJ w b olds)
 (u:Value) (m:Nat) (news:List Value) (hx:a.eval x=u) (hr:SL w size u m news) (h1: ∀ u∈news,u.oneCell'=true) (hm:0<m) (h63:n+m≤9223372036854775807) (hbytes:(n+m)*bytes≤140737488355328)
 (h: ∀ v' w',w'.ownsRow w.heap.size e size v' (n+m) (olds++news)→Ext w w'→wpList P ops Q rest (a.put o.dst v') w'):wpList P ops Q (o::rest) a w:=by
 obtain⟨i,z,hi,hz,hsz,hby,hzs⟩:=elt_info P he;obtain⟨A,c,rfl, -, -,hl,hc⟩:=hr;obtain⟨ad,rfl, -,hcc⟩:=hc hm;refine wpList_append_grows w hg s x t ho e i z size bytes he.ht hi hz hsz hby hzs he.hsz (some b) n n olds hs (fun h=>by cases h) hlo (fun b' hb j u hu=>by injection hb with hb;subst hb;exact holds j u hu) ad m c news hx hl hcc h1 (by omega) (by unfold maxLen;omega) hbytes (fun v' w' h2 h3=>h v' w' h2 ?_);exact (Below.refl _ w).grown h3 (wA5 _) (fun k hk=>by cases hk)
def pack_good (wd hi pt ev:Nat) (qs:List Int) (qn cn1 xn1 cn2 xn2:List Nat) (s1 s2:Value) (bs:List Nat) (A0:Option Addr) (c0:Nat) (w:World) (hq:qs.length=64) (hqn:zto qs=qZ qn) (hq8: ∀ n∈qn,n<256)
 (k1:wd<256) (k2:hi<256) (k3:pt<256) (k4:ev<256) (hl1:cn1.length=16) (hl2:cn2.length=16) (hc1: ∀ n∈cn1,n≤256) (hc2: ∀ n∈cn2,n≤256) (hx1: ∀ n∈xn1,n<256) (hx2: ∀ n∈xn2,n<256) (hy1:xn1.length≤256) (hy2:xn2.length≤256)
 (hs1:SL w 1 s1 xn1.length (ints (qZ xn1))) (hs2:SL w 1 s2 xn2.length (ints (qZ xn2))) (hsd:SL w 1 (.slice A0 bs.length c0) bs.length (zF bs)) (hbl:bs.length≤90000)
 (o1:(zQ (qZ cn1) s1).toArray.all (·.oneCell')=true) (o2:(zQ (qZ cn2) s2).toArray.all (·.oneCell')=true)
 (HCHK: ∀ W,Ext w W→Calls Tryz.prog 50 #[.agg (yY wd hi pt qs (zQ (qZ cn1) s1) (zQ (qZ cn2) s2) ev (.slice A0 bs.length c0)).toArray] W fun e W'=>e=.returned (.int .i64 0)∧Ext W W') :
 Calls Tryz.prog 36 #[.agg (yY wd hi pt qs (zQ (qZ cn1) s1) (zQ (qZ cn2) s2) ev (.slice A0 bs.length c0)).toArray] w fun e w'=> ∃ A n c,e=.returned (.tuple #[.slice A n c,.int .i64 0])∧n=(zFm wd hi pt ev qn cn1 xn1 cn2 xn2 bs).length∧SL w' 1 (.slice A n c) n (zF (zFm wd hi pt ev qn cn1 xn1 cn2 xn2 bs))∧Ext w w':=by
 have t1l:=zU (qZ cn1) s1 ((zCw _).trans hl1);have t2l:=zU (qZ cn2) s2 ((zCw _).trans hl2);have HF:=zA (fun W g (hb:Blk W g 47 (yY wd hi pt qs (zQ (qZ cn1) s1) (zQ (qZ cn2) s2) ev (.slice A0 bs.length c0)).toArray)=>zBu hb hq t1l t2l);have hfs:=zA (zEJ wd hi pt qs (zQ (qZ cn1) s1) (zQ (qZ cn2) s2) ev (.slice A0 bs.length c0) hq t1l t2l);have HCK:=zA HCHK;clear HCHK;have HZT:Hid (∀ W,Calls Tryz.prog 80 #[.agg (ints qs).toArray] W fun e w'=>e=.returned (.agg (bv (qZ qn)))∧Ext W w'):=zA (fun W=>by have h:=zto_any qs W hq;rw[hqn] at h;exact h);have hqn64:qn.length=64:=by have:=jK qs;rw[hqn,zCw] at this;exact this
 have HQA:Hid (∀ k (h:k<qn.length),(bv (qZ qn))[k]? =some (.int .i64 ((qn[k]:Nat):Int))):=zA (fun k h=>by rw[show bv (qZ qn)=(ints (qZ qn)).toArray from rfl,wH5];exact zMn h);have HQ8:=zA hq8;have hbq:=zA (zK (qZ qn));clear hqn hq8;have hql:=zA ((yA qs).trans hq);have HB2:=zA (zGY _ _ t1l t2l);have HRT:=zA (fun W g (hb:Blk W g 42 (zQ (qZ cn1) s1++zQ (qZ cn2) s2).toArray)=>uY t1l hb);have hz17:Hid ((ints (List.replicate 16 0)++[Value.slice none 0 0]).toArray.size=17):=zA (by simp[ints])
 have HTB:Hid (∀ k,k<2→ ∃ (cn xn:List Nat) (sl:Value),Hid (∀ W g,Blk W g 42 (zQ (qZ cn1) s1++zQ (qZ cn2) s2).toArray→W.rangeAt g (0+k*17) (zQ (qZ cn) sl))∧Hid (cn.length=16)∧Hid (∀ n∈cn,n≤256)∧Hid (∀ n∈xn,n<256)∧xn.length≤256∧SL w 1 sl xn.length (ints (qZ xn))∧Hid ((zQ (qZ cn) sl).toArray.all (·.oneCell')=true) ∧
  Hid (([zBf cn1 xn1,zBf cn2 xn2].take (k+1)).flatten=([zBf cn1 xn1,zBf cn2 xn2].take k).flatten++zBf cn xn)∧([zBf cn1 xn1,zBf cn2 xn2].take k).flatten.length≤1000):=zA (fun k hk=>by
  rcases (by omega:k=0∨k=1) with rfl | rfl
  ·exact⟨cn1,xn1,s1,zA (fun W g hb=>(uY t1l hb).1),zA hl1,zA hc1,zA hx1,hy1,hs1,zA o1,zA (by simp),by simp⟩
  ·exact⟨cn2,xn2,s2,zA (fun W g hb=>(uY t1l hb).2),zA hl2,zA hc2,zA hx2,hy2,hs2,zA o2,zA (by simp),by simp[zKl];omega⟩)
 have HLEN:Hid (∀ k,k≤2→([zBf cn1 xn1,zBf cn2 xn2].take k).flatten.length≤1000):=zA (fun k hk=>by
  rcases (by omega:k=0∨k=1∨k=2) with rfl | rfl | rfl<;>simp[zKl]<;>omega)
 have HPK:Hid (zFm wd hi pt ev qn cn1 xn1 cn2 xn2 bs=[77,90,wd,hi,pt,ev]++qn++([zBf cn1 xn1,zBf cn2 xn2].take 2).flatten++bs):=zA (by simp[zFm]);have HBS:=zA hbl;generalize zFm wd hi pt ev qn cn1 xn1 cn2 xn2 bs=PN at *;generalize [zBf cn1 xn1,zBf cn2 xn2]=TT at *;have hl17a:Hid ((zQ (qZ cn1) s1).length=17):=zA t1l;have hl17b:Hid ((zQ (qZ cn2) s2).length=17):=zA t2l;generalize zQ (qZ cn1) s1=t1 at *;generalize zQ (qZ cn2) s2=t2 at *;clear t1l t2l hc1 hc2 hx1 hx2 hl1 hl2 o1 o2;generalize (yY wd hi pt qs t1 t2 ev (.slice A0 bs.length c0)).toArray=fv at *;have kc:=fun (w:World) (C:Array Value) (n c:Nat)=>Lib.run_convert_bytes_const (P:=Tryz.prog) w 45 5 C n c Tryz.underlying45 Tryz.underlying5
 go_enter Tryz.func36,Tryz.ntmps36
 go_wp2_with (first
  | (refine wBox rfl 47 (.tmp 0) rfl fv rfl ?_;intro w1 g hb1 hx1 hg)
  | (refine wLdB rfl 47 (.tmp 1) rfl _ rfl hb1 _ Tryz.underlying47 rfl 103 yQ hfs.out ?_)
  | (go_at_call 50;(with_reducible refine (HCK.out _ hx1).mono ?_);rintro e w2 ⟨rfl,hx2⟩;have hb2:=hb1.ext hx2;have hgl:=hb2.lt;have hf2:=HF.out _ _ hb2;have d0:=hf2.c0;have d1:=hf2.c1;have d2:=hf2.c2;have d101:=hf2.c101;have hx12:=hx1.trans hx2)
  | (refine zB rfl (.int .u8 ((wd:Nat):Int)) (zCq (n:=wd) rfl rfl k1) ?_)
  | (refine zB rfl (.int .u8 ((hi:Nat):Int)) (zCq (n:=hi) rfl rfl k2) ?_)
  | (refine zB rfl (.int .u8 ((pt:Nat):Int)) (zCq (n:=pt) rfl rfl k3) ?_)
  | (refine zB rfl (.int .u8 ((ev:Nat):Int)) (zCq (n:=ev) rfl rfl k4) ?_)
  | (at_builtin;go_must (refine zJn zCF rfl _ _ rfl 2 _ (zF [77,90]) rfl rfl (zSC _ _ _) _ 4 (zF [wd,hi,pt,ev]) rfl (cells_sl' _ _ [.int .u8 (wd:Int),.int .u8 (hi:Int),.int .u8 (pt:Int),.int .u8 (ev:Int)] 4 _ (World.size_alloc _ _) rfl (by omega)) (zFU _) (by omega) (by omega) (by omega) ?_);intro v3 w3 hown3' hx3';have hx23:=(((Ext.refl w2).alloc _).alloc _).trans hx3';have hb3:=hb2.ext hx23;have hf3:=HF.out _ _ hb3;have hx13:=hx12.trans hx23;have hown3:=own_base (B':=w.heap.size) hown3' (by have:=hx12.size;simp;omega))
  | (go_at_call 80;(with_reducible refine (HZT.out _).mono ?_);rintro e w4 ⟨rfl,hx4⟩;have hb4:=hb3.ext hx4;have hown4:=yR hown3 hx4;have hx14:=hx13.trans hx4)
  | (refine wpList_load_mid rfl 33 (.tmp 35) rfl g 3 rfl (ints qs) _ hf3.q Tryz.underlying33 rfl (by rw[hql.out];exact zH) ?_))
 have hgb:w.heap.size≤w.heap.size:=wA5 _;have hB0:=hx14.size;have HHEAD:Hid (([77,90,wd,hi,pt,ev]:List Nat).length=6):=zA rfl;generalize hHD:([77,90,wd,hi,pt,ev]:List Nat)=HD at *
 have hown4a:w4.ownsRow w.heap.size 5 1 v3 (6+0) (zF (HD++qn.take 0)):=by
  have h:=hown4;rw[wL2,wG6, ←hHD]
  first
   | exact h
   | simpa [zF] using h
 clear hHD;clear hown4 hf3 hb3 hf2 hb2 hb1 d0 d1 d2 d101 HCK HZT
 go_loopw [5,38] (fun v i wr=> ∃ k:Nat,k≤64∧i=.int .i64 (k:Int)∧wr.ownsRow w.heap.size 5 1 v (6+k) (zF (HD++qn.take k))∧Blk wr g 47 fv∧Ext w wr) (fun _ i _=>64-(intOf i).toNat)
 case atStart=>exact⟨0,by omega,rfl,hown4a,hb4,hx14⟩
 case round =>
  clear hown4a hb4 hx14 hB0;obtain⟨k,hk,rfl,hown,hb,hx⟩:=hrel
  by_cases hlt:k<64
  ·have hkq:k<qn.length:=by omega
   have hqk:=HQ8.out qn[k] (wE2 hkq);have hqa:=HQA.out k hkq;have HN:Hid (qn.take (k+1)=qn.take k++[qn[k]]):=zA (wC3 hkq);have HQA1:=zA hqa;clear hqa;generalize qn[k]=q at *
   go_wp2_with (first
    | (refine zB rfl (.int .i64 ((q:Nat):Int)) (ex_idx Tryz.underlying33 Tryz.underlying3 qW rfl rfl rfl hlt HQA1.out) ?_)
    | (refine zB rfl (.int .u8 ((q:Nat):Int)) (zCq (n:=q) rfl rfl hqk) ?_)
    | (at_builtin;go_must (refine zAn zCF rfl _ _ rfl w.heap.size _ _ _ rfl (hown.alloc _) _ 1 (zF [q]) rfl (zHI _ _ [.int .u8 ((q:Nat):Int)] 1 rfl (by omega)) (zFU _) (by omega) (by omega) (by have:=hx.size;simp;omega) ?_);intro v' w9 hown9 hg9 ho9))
   go_roundw
   case rel =>
    refine⟨k+1,by omega,by go_num, ?_,(hb.alloc _).grown hg9 (zFC hb hown (by decide)),zKv hx hown hg9⟩;rw[HN.out, ←wG2,zEe, ←wA0];exact hown9
   case measure=>simp[intOf];omega
  ·have ek:k=64:=by omega
   have hown0:wr.ownsRow w.heap.size 5 1 u5 (70+0) (zF (HD++qn++(TT.take 0).flatten)):=by
    have h:=hown;rw[ek,wC4 (by omega)] at h;simpa using h
   have HQL:Hid ((HD++qn).length=70):=zA (by rw[wF3,HHEAD.out,hqn64]);generalize HD++qn=HQ at *;clear hown ek HQA HQ8;have hf:=HF.out _ _ hb
   go_wp2_with (first
    | (refine wpList_load_mid rfl 42 (.tmp 48) rfl g 67 rfl t1 _ hf.ta Tryz.underlying42 rfl (by rw[hl17a.out];exact zS) ?_)
    | (refine wpList_load_mid rfl 42 (.tmp 51) rfl g 84 rfl t2 _ hf.tb Tryz.underlying42 rfl (by rw[hl17b.out];exact zS) ?_)
    | (refine Go.Great.wpList_buildSliceTo rfl 115 42 2 _ rfl _ rfl (some 53) rfl Tryz.underlying115 _ (by simp[Act.eval];exact HB2.out) ?_))
   have hbn:=Blk.new wr 42 (t1++t2).toArray;have hb1:=hb.alloc (.cells (t1++t2).toArray 42);have hx1:=hx.alloc (.cells (t1++t2).toArray 42);have hown1:=hown0.alloc (.cells (t1++t2).toArray 42);clear hf hb hx hown0;generalize wr.alloc (.cells (t1++t2).toArray 42)=wq at *;generalize wr.heap.size=gt at *
   go_loopw [5,55] (fun v i w5=> ∃ k m:Nat,k≤2∧Hid (m=70+(TT.take k).flatten.length)∧m≤2000∧i=.int .i64 (k:Int)∧w5.ownsRow w.heap.size 5 1 v m (zF (HQ++(TT.take k).flatten))∧Blk w5 g 47 fv∧Blk w5 gt 42 (t1++t2).toArray∧Ext w w5) (fun _ i _=>2-(intOf i).toNat)
   case atStart=>exact⟨0,70,by omega,zA (by simp),by omega,rfl,hown1,hb1,hbn,hx1⟩
   case round =>
    clear hb1 hx1 hown1 hbn;obtain⟨k,m,hk,HM,hm2,rfl,hown,hb,hbn,hx⟩:=hrel
    by_cases hlt:k<2
    ·obtain⟨cn,xn,sl,HTV,HCL,HC6,HX6,hxl,hsl,HTVE,HNX,hfl⟩:=HTB.out k hlt;have HFL:Hid (m≤1070):=zA (by rw[HM.out];omega);have hm1:=HFL.out;have hsx:=hsl.ext hx;have hsl':=hsl;obtain⟨B,d,rfl,hd1,hd2, -, -⟩:=hsl';have hr:=HTV.out _ _ hbn
     go_wp2_with (first
      | (refine zB rfl (.pointer (some ⟨gt,0+k*17,none⟩)) (zFW Tryz.underlying115 zS rfl rfl rfl hlt) ?_)
      | (refine wpList_load_mid rfl 42 (.tmp 57) rfl gt (0+k*17) rfl (zQ (qZ cn) (.slice B xn.length d)) _ hr Tryz.underlying42 rfl (by rw[zU _ _ ((zCw _).trans HCL.out)];exact zS) ?_)
      | (refine wAlo' rfl (some 9) rfl 42 rfl _ zAN ?_;intro w4 ga hba4 hx4 hga)
      | (refine wStB rfl 42 (.tmp 9) (.tmp 58) rfl _ _ rfl rfl hba4 17 zS (by simpa using zU (qZ cn) (.slice B xn.length d) ((zCw _).trans HCL.out)) hz17.out HTVE.out ?_;intro w5 hba5 hg5;have hx45:=hx4.grown hg5 hga;have hx5:=hx.trans hx45;have hb5:=hb.ext hx45;have hown5:=yR hown hx45;have hbn5:=hbn.ext hx45)
      | (refine wpList_load_mid rfl 40 (.tmp 59) rfl ga 0 rfl (ints (qZ cn)) _ (zEc hba5) Tryz.underlying40 rfl (by rw[yA,zCw,HCL.out];exact zLq) ?_))
     have hgl5:=hba5.lt;have hown50:w5.ownsRow w.heap.size 5 1 u5 (m+2*0) (zF (HQ++(TT.take k).flatten++(cn.take 0).flatMap (fun n=>[n/256,n%256]))):=by simpa using hown5
     have hclen:=HCL.out;clear hown hb hx hx4 hba4 hg5 hown5 hbn hr;have hbt5:Blk w5 ga 42 (yL (qZ cn) (.slice B xn.length d)):=hba5;clear hba5
     go_loopw [5,61] (fun v i wr=> ∃ j:Nat,j≤16∧i=.int .i64 (j:Int)∧wr.ownsRow w.heap.size 5 1 v (m+2*j) (zF (HQ++(TT.take k).flatten++(cn.take j).flatMap (fun n=>[n/256,n%256])))∧Blk wr g 47 fv∧Blk wr gt 42 (t1++t2).toArray∧Blk wr ga 42 (yL (qZ cn) (.slice B xn.length d))∧Ext w wr) (fun _ i _=>16-(intOf i).toNat)
     case atStart=>exact⟨0,by omega,rfl,hown50,hb5,hbn5,hbt5,hx5⟩
     case round =>
      clear hown50 hb5 hbt5 hx5 hx45 hbn5;obtain⟨j,hj,rfl,hown,hb,hbn,hbt,hx⟩:=hrel
      by_cases hltj:j<16
      ·have hjc:j<cn.length:=by omega
       have hc6:=HC6.out cn[j] (wE2 hjc);have HCA:Hid ((ints (qZ cn)).toArray[j]? =some (.int .i64 ((cn[j]:Nat):Int))):=zA (by rw[wH5];exact zMn hjc);have HN:=zA (zSw cn j hjc);generalize cn[j]=c at *;have hc1:c/256<256:=by omega
       have hc2:c%256<256:=by omega
       go_wp2_with (first
        | (refine zB rfl (.int .i64 ((c:Nat):Int)) (ex_idx Tryz.underlying40 Tryz.underlying3 qW rfl rfl rfl hltj HCA.out) ?_)
        | (refine zB rfl (.int .i64 ((c/256:Nat):Int)) (ex_shr8 (n:=c) rfl rfl rfl) ?_)
        | (refine zB rfl (.int .u8 ((c/256:Nat):Int)) (zCq (n:=c/256) rfl rfl hc1) ?_)
        | (refine zB rfl (.int .u8 ((c%256:Nat):Int)) (ex_conv8m (n:=c) rfl rfl) ?_)
        | (at_builtin;go_must (refine zAn zCF rfl _ _ rfl w.heap.size _ _ _ rfl (hown.alloc _) _ 2 (zF [c/256,c%256]) rfl (zHI _ _ [.int .u8 ((c/256:Nat):Int),.int .u8 ((c%256:Nat):Int)] 2 rfl (by omega)) (zFU _) (by omega) (by omega) (by have:=hx.size;simp;omega) ?_);intro v' w9 hown9 hg9 ho9))
       go_roundw
       case rel =>
        refine⟨j+1,by omega,by go_num, ?_,(hb.alloc _).grown hg9 (zFC hb hown (by decide)),(hbn.alloc _).grown hg9 (zFC hbn hown (by decide)),(hbt.alloc _).grown hg9 (zFC hbt hown (by decide)),zKv hx hown hg9⟩;rw[HN.out, ←wG2,zEe,show m+2*(j+1)=m+2*j+2 by omega];exact hown9
       case measure=>simp[intOf];omega
      ·have ej:j=16:=by omega
       rw[ej,show cn.take 16=cn from wC4 (by omega)] at hown;have hcl:=zEK hbt ((zCw _).trans HCL.out);have hown00:wr.ownsRow w.heap.size 5 1 u5 (m+32+0) (zF (HQ++(TT.take k).flatten++cn.flatMap (fun n=>[n/256,n%256])++xn.take 0)):=by simpa using hown
       clear hown ej;go_wp2_with fail
       go_loopw [5,76] (fun v i wr=> ∃ j:Nat,j≤xn.length∧i=.int .i64 (j:Int)∧wr.ownsRow w.heap.size 5 1 v (m+32+j) (zF (HQ++(TT.take k).flatten++cn.flatMap (fun n=>[n/256,n%256])++xn.take j))∧Blk wr g 47 fv∧Blk wr gt 42 (t1++t2).toArray∧Ext w wr) (fun _ i _=>xn.length-(intOf i).toNat)
       case atStart=>exact⟨0,by omega,rfl,hown00,hb,hbn,hx⟩
       case round =>
        clear hown00 hb hbt hx hcl hbn;obtain⟨j,hj,rfl,hown,hb,hbn,hx⟩:=hrel
        by_cases hltx:j<xn.length
        ·have hsn:SL wr 1 (.slice B xn.length d) xn.length (ints (qZ xn)):=by have:=hsl.ext hx;exact this
         obtain⟨ad,u,had,hab,hux,hcell⟩:=hsn.at1 hltx;rw[zMn hltx] at hux;injection hux with hux
         subst hux;subst had;have hx6:=HX6.out xn[j] (wE2 hltx);have HN:Hid (xn.take (j+1)=xn.take j++[xn[j]]):=zA (wC3 hltx);generalize xn[j]=x at *
         go_wp2_with (first
          | (refine zB rfl (.int .u8 ((x:Nat):Int)) (zCq (n:=x) rfl rfl hx6) ?_)
          | (at_builtin;go_must (refine zAn zCF rfl _ _ rfl w.heap.size _ _ _ rfl (hown.alloc _) _ 1 (zF [x]) rfl (zHI _ _ [.int .u8 ((x:Nat):Int)] 1 rfl (by omega)) (zFU _) (by omega) (by omega) (by have:=hx.size;simp;omega) ?_);intro v' w9 hown9 hg9 ho9))
         go_roundw
         case rel =>
          refine⟨j+1,by omega,by go_num, ?_,(hb.alloc _).grown hg9 (zFC hb hown (by decide)),(hbn.alloc _).grown hg9 (zFC hbn hown (by decide)),zKv hx hown hg9⟩;rw[HN.out, ←wG2,zEe, ←wA0];exact hown9
         case measure=>simp[intOf];omega
        ·have ej:j=xn.length:=by omega
         rw[ej,wJ3] at hown;clear ej;go_wp2_with fail;go_roundw
         case rel =>
          refine⟨k+1,m+32+xn.length,by omega,zA ?_,by omega,by go_num, ?_,hb,hbn,hx⟩
          ·rw[HNX.out,wF3,zKl,HM.out,HCL.out];omega
          ·rw[HNX.out];unfold zBf;rw[←wG2, ←wG2];exact hown
         case measure=>simp[intOf];omega
    ·have ek:k=2:=by omega
     have hf:=HF.out _ _ hb;have c102:=hf.c102;have hsn:=hsd.ext hx;go_wp2_with (at_builtin;go_must (refine zAn zCF rfl _ _ rfl w.heap.size _ _ _ rfl hown _ bs.length (zF bs) rfl hsn (zFU bs) (by omega) (by omega) (by have:=hx.size;omega) ?_);intro v' w9 hown9 hg9 ho9)
     go_ret2;obtain⟨A',c',rfl,hsl,hfs⟩:=zAG hown9;refine⟨A',m+bs.length,c',rfl, ?_, ?_,ext_own hx hown hg9⟩
     ·rw[HPK.out,HM.out,ek];simp only[wF3,HQL.out]
     ·rw[HPK.out,zEe, ←ek];exact hsl
end Go.Proofs.YtkggcjdlpendfaaGreatDoor
