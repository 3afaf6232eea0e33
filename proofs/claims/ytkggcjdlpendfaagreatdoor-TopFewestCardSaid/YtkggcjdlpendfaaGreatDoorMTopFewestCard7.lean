import Derived.ProofKit
import Derived.OpenShut
import Derived.Maps.OwnSet
import Derived.Outline
import Derived.Test.YtkggcjdlpendfaaGreatDoorMTopFewestCard6
set_option linter.all false
set_option maxRecDepth 20000
set_option maxHeartbeats 8000000
namespace Go.Proofs.YtkggcjdlpendfaaGreatDoor
open Go.RowKit
def zNv {w:World} {B B':Nat} {e:TypeId} {size n:Nat} {v:Value} {xs:List Value} (h:w.ownsRow B e size v n xs) (hb:B'≤B):w.ownsRow B' e size v n xs:=by
 obtain⟨hl,hh⟩:=h;refine⟨hl, ?_⟩;rcases hh with ⟨rfl,rfl⟩ | ⟨g,cap,cur,rfl,h1,h2⟩
 ·exact .inl ⟨rfl,rfl⟩
 ·exact .inr ⟨g,cap,cur,rfl,by omega,h2⟩
def zRS (before:Int) (zs:List Int) (w:World) (hz:zs.length=64) (hb1: -2047≤before) (hb2:before≤2047) (hal:zR zs (-2047) 2047=true) (h01: -2047≤(zto zs).getD 0 0) (h02:(zto zs).getD 0 0≤2047) :
 Calls Tryz.prog 105 #[.int .i64 before,.agg (bv zs)] w fun e w'=> ∃ A c,e=.returned (.tuple #[.slice A (yC before (zto zs)).length c,.int .i64 0])∧w'.ownsRow w.heap.size 149 3 (.slice A (yC before (zto zs)).length c) (yC before (zto zs)).length (qC (yC before (zto zs)))∧Ext w w':=by
 have HZT:=zA (fun W=>rzto_any zs W hz);have HOB:=zA (fun W=>zAR before (-2047) 2047 W);rw[jS.2 ⟨hb1,hb2⟩] at HOB;have HBW:=zA (fun W=>zMP zs (-2047) 2047 W hz);rw[hal] at HBW;have hZl:=jK zs;have hsz:=zA ((zK zs).trans hz);have hst:=zA ((zK _).trans hZl);have hot:=zA (xE (zto zs));have hs0:Hid ((Value.agg (bv yO)).cells.size=64):=zA (by rw[show (Value.agg (bv yO)).cells=bv yO from rfl,zK];rfl);have hz0:=qU;have HZ0:=zA hz0;clear hz0;generalize hZ:zto zs=Z at *;clear hZ hal;have h0l:0<Z.length:=by omega
 have e0:Z.getD 0 0=Z[0]:=by simp[h0l]
 rw[e0] at h01 h02;have HAT:=zA (fun k (hk:k<Z.length)=>qK Z k hk);have HF:Hid (yC before Z=if 0<(vS (jH 0 (Z[0]-before)) (Z.drop 1) 63).2 then (vS (jH 0 (Z[0]-before)) (Z.drop 1) 63).1++[(0,0,0)] else (vS (jH 0 (Z[0]-before)) (Z.drop 1) 63).1):=zA (by unfold yC;rw[e0]);have HT0:=zA (fun W=>zLR 0 (Z[0]-before) W (by omega) (by omega));simp only[zCW] at HT0;generalize bv yO=cz0 at *;generalize hcz:bv Z=cz at *;generalize bv zs=c0 at *;clear hcz hz e0;generalize ht:jH 0 (Z[0]-before)=t0 at *;clear ht;have hll:(Z.drop 1).length=63:=by simp;omega
 have HLL:=zA hll;have HLK:Hid (∀ k (h:k<(Z.drop 1).length) (h2:k+1<Z.length),(Z.drop 1)[k]=Z[k+1]):=zA (fun k h h2=>by simp);generalize hl:Z.drop 1=l at *;clear hl hll;go_enter Tryz.func105,Tryz.ntmps105
 go_wp2_with (first
  | (refine wBox rfl 33 (.tmp 1) rfl c0 rfl ?_;intro w1 gb hbb1 hx1 hgb)
  | (go_at_call 54;(with_reducible refine (HOB.out _).mono ?_);rintro e w' ⟨rfl,rfl⟩)
  | (refine zCd (by rfl) 33 (.tmp 3) rfl _ rfl hbb1 _ Tryz.underlying33 rfl 64 zH hsz.out ?_)
  | (go_at_call 67;(with_reducible refine (HBW.out _).mono ?_);rintro e w2 ⟨rfl,hx2⟩;have hbb2:=hbb1.ext hx2)
  | (refine wLdB rfl 33 (.tmp 3) rfl _ rfl hbb2 _ Tryz.underlying33 rfl 64 zH hsz.out ?_)
  | (go_at_call 158;(with_reducible refine (HZT.out _).mono ?_);rintro e w3 ⟨rfl,hx3⟩)
  | (refine wAlo' rfl (some 6) rfl 33 rfl _ HZ0.out ?_;intro w4 g hbb4 hx4 hg)
  | (refine wStB rfl 33 (.tmp 6) (.tmp 19) rfl _ _ rfl rfl hbb4 64 zH hst.out hs0.out hot.out ?_;intro w5 hbb5 hg5;have hc0:w5.cell? ⟨g,0,none⟩=some (.int .i64 Z[0]):=(hbb5.cell 0).trans (HAT.out 0 h0l))
  | (go_at_call 159;(with_reducible refine (HT0.out _).mono ?_);rintro e w6 ⟨rfl,hx6⟩))
 have hown0:=zLU (w:=w6) (base:=w5.heap.size) 149 (.int .i64 t0.1) (.int .i64 t0.2.1) (.int .i64 t0.2.2) hx6.size;have hx7:=hx6.alloc (.cells #[.int .i64 t0.1,.int .i64 t0.2.1,.int .i64 t0.2.2] 149);have hbb7:=hbb5.ext hx7;have hglt:=hbb5.lt;have hxw:Ext w w5:=(((hx1.trans hx2).trans hx3).trans hx4).grown hg5 (by have:=((hx1.trans hx2).trans hx3).size;omega);clear hbb1 hbb2 hbb4 hx1 hx2 hx3 hx4 hg5 hc0 hx6 HZT HT0;generalize hw7:w6.alloc (.cells #[.int .i64 t0.1,.int .i64 t0.2.1,.int .i64 t0.2.2] 149)=w7 at *;clear hw7
 go_loopw [7,8,9] (fun v r i wr=> ∃ (k m:Nat) (la:Int),k≤63∧m=k+1∧i=.int .i64 (m:Int)∧r=.int .i64 la∧la=(k:Int)-((vS t0 l k).2:Nat)∧wr.ownsRow w5.heap.size 149 3 v (vS t0 l k).1.length (qC (vS t0 l k).1)∧Blk wr g 33 cz∧Ext w5 wr) (fun _ _ i _=>64-(intOf i).toNat)
 case atStart=>exact⟨0,1,0,by omega,rfl,rfl,rfl,by simp[zIn],hown0,hbb7,hx7⟩
 case round =>
  clear hown0 hbb7 hx7;obtain⟨k,m,la,hk,hm,rfl,rfl,hla,hown,hbb,hx⟩:=hrel;obtain⟨b1,b2⟩:=zMi t0 l k (by have:=HLL.out;omega) (by omega)
  by_cases hlt:k<63
  ·have hkl:k<l.length:=by have:=HLL.out;omega
   have hkZ:k+1<Z.length:=by omega
   have HS:=zA (zFd t0 l k hkl);have hcell:wr.cell? ⟨g,m,none⟩=some (.int .i64 l[k]):=by rw[hm];exact (hbb.cell (k+1)).trans (by rw[HAT.out (k+1) hkZ,HLK.out k hkl hkZ])
   generalize vS t0 l k=s at *;obtain⟨acc,rn⟩:=s;simp only at b1 b2 hown hla ⊢;have hm1:1≤m:=by omega
   have hm2:m<64:=by omega
   have HM:=zA hm;have HLA:=zA hla;have hgap:(m:Int)-la-1=(rn:Int):=by omega
   have hlb: -64≤la∧la≤64:=by omega
   obtain⟨hlb1,hlb2⟩:=hlb;clear hm hla
   by_cases hz0:l[k]=0
   ·rw[zEd hz0] at HS;generalize hnk:vS t0 l (k+1)=s1 at *;have HS1:=HS.out;have hz0':(l[k] ==0)=true:=by simpa using hz0
    clear hz0 HS;go_wp2_with fail;go_roundw
    case rel =>
     refine⟨k+1,m+1,la,by omega,by rw[HM.out],by go_num,rfl,by rw[hnk,HS1];have:=HLA.out;simp;omega,by rw[hnk,HS1];exact hown,hbb,hx⟩
    case measure=>simp[intOf];omega
   ·rw[zGA hz0] at HS;have hz0':(l[k] ==0)=false:=by simpa using hz0
    have HTK:=zA (fun W=>zLR ((rn:Int)%16) l[k] W (by omega) (by omega));simp only[zCW] at HTK;rw[show ((rn%16:Nat):Int)=(rn:Int)%16 by omega] at HS;generalize jH ((rn:Int)%16) l[k]=tk at *;generalize hnk:vS t0 l (k+1)=s1 at *;have HS1:=zA HS.out;have HNK:=zA hnk;clear hz0 HS hnk;go_wp2_with fail
    go_loopw [7,40] (fun v r wr2=> ∃ j:Nat,j≤rn/16∧r=.int .i64 (j:Int)∧wr2.ownsRow w5.heap.size 149 3 v (acc++List.replicate j long).length (qC (acc++List.replicate j long))∧Blk wr2 g 33 cz∧Ext w5 wr2) (fun _ r _=>rn/16-(intOf r).toNat)
    case atStart=>exact⟨0,by omega,rfl,by simpa using hown,hbb,hx⟩
    case round =>
     clear hown hbb hx hcell;obtain⟨j,hj,rfl,hown,hbb,hx⟩:=hrel;have hlen:(acc++List.replicate j long).length=acc.length+j:=by simp
     by_cases hj2:j<rn/16
     ·have hgt:decide ((j:Int)<(rn:Int)/16)=true:=by simp;omega
      go_wp2_with (at_builtin;go_must (refine jX zDi rfl _ _ rfl w5.heap.size _ _ _ rfl (hown.alloc _) _ 1 [.int .i64 _,.int .i64 _,.int .i64 _] rfl (zFF _ _ _ _ _) (zDg _ _ _) (by omega) (by omega) (by have:=hx.size;simp;omega) ?_);intro v' w8 hown8 hb8)
      go_roundw
      case rel =>
       refine⟨j+1,by omega,by go_num, ?_,(hbb.alloc _).below hb8 hglt,(hx.alloc _).trans' hb8⟩;rw[List.replicate_succ', ←wG2];exact zEx hown8
      case measure=>simp[intOf];omega
     ·obtain rfl:j=rn/16:=by omega
      have hgt:decide (((rn/16:Nat):Int)<(rn:Int)/16)=false:=by simp
      have hcell2:wr.cell? ⟨g,m,none⟩=some (.int .i64 l[k]):=by rw[HM.out];exact (hbb.cell (k+1)).trans (by rw[HAT.out (k+1) hkZ,HLK.out k hkl hkZ])
      go_wp2_with (first
       | (go_at_call 159;(with_reducible refine (HTK.out _).mono ?_);rintro e w8 ⟨rfl,hx8⟩)
       | (at_builtin;go_must (refine jX zDi rfl _ _ rfl w5.heap.size _ _ _ rfl ((own_ext hown hx8).alloc _) _ 1 [.int .i64 _,.int .i64 _,.int .i64 _] rfl (zFF _ _ _ _ _) (zDg _ _ _) (by omega) (by omega) (by have:=hx.size;have:=hx8.size;simp;omega) ?_);intro v' w9 hown9 hb9))
      go_roundw
      case rel =>
       refine⟨k+1,m+1,m,by omega,by rw[HM.out],by go_num,rfl,by rw[HNK.out,HS1.out];have:=HM.out;simp;omega, ?_,((hbb.ext hx8).alloc _).below hb9 hglt,((hx.trans hx8).alloc _).trans' hb9⟩;rw[HNK.out,HS1.out];exact zEx hown9
      case measure=>simp[intOf];omega
  ·have ek:k=63:=by omega
   subst ek;subst hm;generalize vS t0 l 63=s at *;obtain⟨acc,rn⟩:=s;simp only at b1 b2 hown HF hla
   by_cases hr:0<rn
   ·rw[if_pos hr] at HF;have hlt3:decide (la<63)=true:=by simp;omega
    clear hla;go_wp2_with (at_builtin;go_must (refine jX zDi rfl _ _ rfl w5.heap.size _ _ _ rfl (hown.alloc _) _ 1 [.int .i64 _,.int .i64 _,.int .i64 _] rfl (zFF _ _ _ _ _) (zDg _ _ _) (by omega) (by omega) (by have:=hx.size;simp;omega) ?_);intro v' w8 hown8 hb8)
    go_ret2;rw[HF.out];have hown9:=zEx hown8;obtain⟨A,c,rfl, -, -⟩:=zAG hown9;exact⟨A,c,rfl,zNv hown9 hxw.size,hxw.trans ((hx.alloc _).trans' hb8)⟩
   ·rw[if_neg hr] at HF;have hlt3:decide (la<63)=false:=by simp;omega
    clear hla;go_wp2_with fail;go_ret2;rw[HF.out];obtain⟨A,c,rfl, -, -⟩:=zAG hown;exact⟨A,c,rfl,zNv hown hxw.size,hxw.trans hx⟩
def zOe (before:Int) (zs:List Int) (w:World) (hz:zs.length=64) (hb1: -2047≤before) (hb2:before≤2047) (hal:zR zs (-2047) 2047=true) (h01: -2047≤(zto zs).getD 0 0) (h02:(zto zs).getD 0 0≤2047) :
 Calls Tryz.prog 105 #[.int .i64 before,.agg (bv zs)] w fun e w'=> ∃ A c,e=.returned (.tuple #[.slice A (yC before (zto zs)).length c,.int .i64 0])∧SL w' 3 (.slice A (yC before (zto zs)).length c) (yC before (zto zs)).length (qC (yC before (zto zs)))∧(∀ ad,A=some ad→w.heap.size≤ad.block)∧Ext w w' :=
 (zRS before zs w hz hb1 hb2 hal h01 h02).mono fun _ _ ⟨A,c,e,h1,h2⟩=>⟨A,c,e,by
   obtain⟨A',c',e2,h3,h4⟩:=zAG h1;injection e2 with e3 _ e4
   subst e3 e4
   exact⟨h3,h4,h2⟩⟩
section
open Go.RowKit Go.ChangeShapes Go.WideShapes Go.ChangeAt
def zEA (z:Int):Prop:= -9223372036854775808≤z∧z≤9223372036854775807
def zJp {z:Int} (h:(Lit.int .i64 z).wf=true):zEA z:=by
 simp[Lit.wf,IntKind.min,IntKind.max,IntKind.signed,IntKind.bits] at h;exact⟨by omega,by omega⟩
def zHt {Q:Int→Prop}: ∀ (cs:List Value),(∀ i,i<cs.length→ ∃ z,cs[i]? =some (.int .i64 z)∧Q z)→ ∃ zs:List Int,cs=ints zs∧ ∀ z∈zs,Q z
 | [],_=>⟨[],rfl,by simp⟩
 | c::cs,h=>by
   obtain⟨z,hz,hq⟩:=h 0 (by simp);obtain⟨zs,rfl,hqs⟩:=zHt cs (fun i hi=>by have:=h (i+1) (by simpa using hi);simpa using this);refine⟨z::zs, ?_, ?_⟩
   ·simp at hz;subst hz;rfl
   ·intro y hy
    cases hy with
    | head=>exact hq
    | tail _ hy=>exact hqs y hy
section
variable {H:Type} {enc:TypeId×Value→H} {P:Program} {w:World} {base:Nat} {spare:Nat→Bool} {held:Bool}
def zEZ {t:TypeId} {fuel:Nat} {cs:List Value} {x:DataW H×List MemPlace} (ht:P.underlying t=some (.int .i64)) (h:DataW.trod enc P w base spare held fuel t cs=some x) :
 ∃ z,cs=[.int .i64 z]∧zEA z:=by
 obtain⟨z,e, -,hw⟩:=DataW.trod_int ht h;exact⟨z,e,zJp hw⟩
def zIB {n:Nat} {t e:TypeId} {fuel:Nat} {cs:List Value} {x:DataW H×List MemPlace} (ht:P.underlying t=some (.array n e)) (he:P.underlying e=some (.int .i64)) (hce:P.cellsOf e=1) (hct:P.cellsOf t=n)
 (h:DataW.trod enc P w base spare held fuel t cs=some x): ∃ zs:List Int,zs.length=n∧cs=ints zs∧ ∀ z∈zs,zEA z:=by
 obtain⟨xs,m, -, -,hlen,hxl,hi⟩:=DataW.trod_array ht h;rw[hct] at hlen
 have hcells: ∀ i,i<cs.length→ ∃ z,cs[i]? =some (.int .i64 z)∧zEA z:=by
  intro i hlt;have h1:=hi i (by omega);rw[hce,wF1] at h1;have hx:xs[i]? =some (xs[i]'(by omega)):=wA2 (by omega);rw[hx] at h1;obtain⟨z,hz,hq⟩:=zEZ he h1;refine⟨z, ?_,hq⟩;rw[wG3 hlt] at hz;simp only[wJ9,wL2,List.cons.injEq,and_true] at hz;rw[wA2 hlt,hz]
 obtain⟨zs,rfl,hq⟩:=zHt cs hcells;exact⟨zs,by simpa [yA] using hlen,rfl,hq⟩
def zPm {P:Program} {w:World} {r:Reach} {base:Nat} {t e:TypeId} {n:Nat} {v:Value} (ht:P.underlying t=some (.array n e)) (h:Value.okWide P w r base t v): ∃ cs,v=.agg cs∧cs.size=P.cellsOf t:=by
 simp only[Value.okWide,ht] at h;obtain⟨cs,h1,h2,_⟩:=h;exact⟨cs,h1,h2⟩
def cells64:Tryz.prog.cellsOf 33=64:=by kernel_rfl
def zHm:Tryz.prog.cellsOf 3=1:=by kernel_rfl
def zSV {w:World} {base b0:Nat} {r:Reach} {v:Value} {d:DataW H} {p:List MemPlace} (hv:Value.okWide Tryz.prog w r b0 33 v) (h:DataW.Trod enc Tryz.prog w base spare held 33 v d p) :
 ∃ zs:List Int,v=.agg (ints zs).toArray∧zs.length=64∧ ∀ z∈zs,zEA z:=by
 obtain⟨cs,rfl,hsz⟩:=zPm Tryz.underlying33 hv;obtain⟨fuel,hf⟩:=h;obtain⟨zs,hl,hc,hq⟩:=zIB Tryz.underlying33 Tryz.underlying3 zHm cells64 hf;refine⟨zs, ?_,hl,hq⟩;have:cs.toList=ints zs:=hc;rw[←this]
end
end
def zDY (n:Int) (w:World):Calls Tryz.prog 189 #[.int .i64 n] w fun e w'=>e=.returned (.bool (inB n (-2047) 2047))∧w=w':=by
 by_cases h: -2047≤n
 ·have h':decide (-2047≤n)=true:=by simpa using h
  have e:inB n (-2047) 2047=decide (n≤2047):=by simp[inB];omega
  rw[e];clear e;go_enter Tryz.func189,Tryz.ntmps189;go_wp2_with fail;go_ret;exact⟨rfl,rfl⟩
 ·have h':decide (-2047≤n)=false:=by simpa using h
  have e:inB n (-2047) 2047=false:=zAI.2 (by omega);rw[e];clear e;go_enter Tryz.func189,Tryz.ntmps189;go_wp2_with fail;go_ret;exact⟨rfl,rfl⟩
def zKM (n:Int) (w:World):Calls Tryz.prog 205 (#[.int .i64 n]++ #[]) w fun e w'=>e=.returned (.bool (!inB n (-2047) 2047))∧w=w':=by
 have HC:=zA (fun W=>zDY n W);generalize inB n (-2047) 2047=b at *;go_enter Tryz.func205,Tryz.ntmps205;go_wp2_with (go_at_call 189;(with_reducible refine (HC.out _).mono ?_);rintro e w' ⟨rfl,rfl⟩)
 go_ret;exact⟨rfl,rfl⟩
def zGW:uB Tryz.prog 205:=zAW Tryz.func205 (by kernel_rfl) rfl
def rtok_bad (before:Int) (zs:List Int) (w:World) (hz:zs.length=64) (h:inB before (-2047) 2047=false∨(inB before (-2047) 2047=true∧zR zs (-2047) 2047=false)) :
 Calls Tryz.prog 180 #[.int .i64 before,.agg (bv zs)] w fun e w'=>e=.returned (.tuple #[.slice none 0 0,.int .i64 1])∧Ext w w':=by
 have HOB:=zA (fun W=>zDY before W);have HSL:=zA (fun (W:World) g (h:Blk W g 33 (bv zs))=>h.bsl (c:=64) (by omega) (by omega));rw[hz] at HSL;have HCF:=zA (fun W v (hs:SL W 1 v 64 (ints zs))=>jU 205 #[] (fun z=> !inB z (-2047) 2047) zGW v zs W (by rw[hz];exact hs) (fun z _=>zKM z W));simp only[zDH] at HCF;generalize bv zs=c0 at *;rcases h with h | ⟨h,h2⟩
 ·rw[h] at HOB;clear h;go_enter Tryz.func180,Tryz.ntmps180
  go_wp2_with (first
   | (refine wBox rfl 33 (.tmp 1) rfl c0 rfl ?_;intro w1 gb hbb1 hx1 hgb)
   | (go_at_call 189;(with_reducible refine (HOB.out _).mono ?_);rintro e w' ⟨rfl,rfl⟩))
  go_ret2;exact⟨rfl,hx1⟩
 ·rw[h] at HOB;rw[h2] at HCF;clear h h2;go_enter Tryz.func180,Tryz.ntmps180
  go_wp2_with (first
   | (refine wBox rfl 33 (.tmp 1) rfl c0 rfl ?_;intro w1 gb hbb1 hx1 hgb;have hsl:=HSL.out _ _ hbb1)
   | (go_at_call 189;(with_reducible refine (HOB.out _).mono ?_);rintro e w' ⟨rfl,rfl⟩)
   | (go_at_call 88;(with_reducible refine (HCF.out _ _ hsl).mono ?_);rintro e w' ⟨rfl,rfl⟩))
  go_ret2;exact⟨rfl,hx1⟩
def zLF (before:Int) (zs:List Int) (w:World) (hz:zs.length=64) (hb1: -2047≤before) (hb2:before≤2047) (hal:zR zs (-2047) 2047=true) (h01: -2047≤(zto zs).getD 0 0) (h02:(zto zs).getD 0 0≤2047) :
 Calls Tryz.prog 180 #[.int .i64 before,.agg (bv zs)] w fun e w'=> ∃ A c,e=.returned (.tuple #[.slice A (yC before (zto zs)).length c,.int .i64 0])∧SL w' 3 (.slice A (yC before (zto zs)).length c) (yC before (zto zs)).length (qC (yC before (zto zs)))∧(∀ ad,A=some ad→w.heap.size≤ad.block)∧Ext w w':=by
 have HOB:=zA (fun W=>zDY before W);rw[jS.2 ⟨hb1,hb2⟩] at HOB;have HSL:=zA (fun (W:World) g (h:Blk W g 33 (bv zs))=>h.bsl (c:=64) (by omega) (by omega));rw[hz] at HSL;have HCF:=zA (fun W v (hs:SL W 1 v 64 (ints zs))=>jU 205 #[] (fun z=> !inB z (-2047) 2047) zGW v zs W (by rw[hz];exact hs) (fun z _=>zKM z W));simp only[zDH,hal] at HCF;have HT:=zA (fun W=>zHh before zs W hz hb1 hb2 h01 h02);have hsz:=zA ((zK zs).trans hz);generalize yC before (zto zs)=T at *;generalize bv zs=c0 at *;clear hal h01 h02;go_enter Tryz.func180,Tryz.ntmps180
 go_wp2_with (first
  | (refine wBox rfl 33 (.tmp 1) rfl c0 rfl ?_;intro w1 gb hbb1 hx1 hgb;have hsl:=HSL.out _ _ hbb1)
  | (go_at_call 189;(with_reducible refine (HOB.out _).mono ?_);rintro e w' ⟨rfl,rfl⟩)
  | (go_at_call 88;(with_reducible refine (HCF.out _ _ hsl).mono ?_);rintro e w' ⟨rfl,rfl⟩)
  | (refine wLdB rfl 33 (.tmp 3) rfl _ rfl hbb1 _ Tryz.underlying33 rfl 64 zH hsz.out ?_)
  | (go_at_call 191;(with_reducible refine (HT.out _).mono ?_);rintro e w2 ⟨A,c,rfl,hs2,hf2,hx2⟩))
 go_ret2;exact⟨A,c,rfl,hs2,fun ad e=>wD1 hx1.size (hf2 ad e),hx1.trans hx2⟩
def rtok_good (before:Int) (zs:List Int) (w:World) (hz:zs.length=64) (hb1: -2047≤before) (hb2:before≤2047) (hal:zR zs (-2047) 2047=true) (h01: -2047≤(zto zs).getD 0 0) (h02:(zto zs).getD 0 0≤2047) :
 Calls Tryz.prog 180 #[.int .i64 before,.agg (bv zs)] w fun e w'=> ∃ A c,e=.returned (.tuple #[.slice A (yC before (zto zs)).length c,.int .i64 0])∧SL w' 3 (.slice A (yC before (zto zs)).length c) (yC before (zto zs)).length (qC (yC before (zto zs)))∧Ext w w' :=
 (zLF before zs w hz hb1 hb2 hal h01 h02).mono fun _ _ ⟨A,c,e,h1,_,h2⟩=>⟨A,c,e,h1,h2⟩
section
section
variable {σ:Type} {C:σ→Prop}
structure Eat (f:FuncId) (cap:Array Value) (Inv:World→σ→(Nat→Prop)→Prop) (step:σ→Tok→Bool→Int×σ) (C:σ→Prop):Prop where
 goes:zAp Tryz.prog f
 back: ∀ l s,C (xV step l s).2→C s
 ask: ∀ t b s F W,C (step s t b).2→zBW t→Inv W s F→Calls Tryz.prog f (#[.agg (xN t).toArray,.bool b]++cap) W fun e w'=>e=.returned (.int .i64 (step s t b).1)∧Upd F W w'∧ ∃ F',Inv w' (step s t b).2 F'∧ ∀ x,F' x→F x∨W.heap.size≤x
 keep: ∀ s F W W',Inv W s F→Ext W W'→Inv W' s F
 old: ∀ s F W x,Inv W s F→F x→x<W.heap.size
variable {f:FuncId} {cap:Array Value} {Inv:World→σ→(Nat→Prop)→Prop} {step:σ→Tok→Bool→Int×σ}
def Eat.ext (E:Eat f cap Inv step C) {s:σ} {F:Nat→Prop} {W W':World} (h:Inv W s F) (hx:Ext W W'):Inv W' s F:=E.keep s F W W' h hx
def EachIs (Inv:World→σ→(Nat→Prop)→Prop) (F:Nat→Prop) (w:World) (r:Int×σ) (e:Ending) (w':World):Prop :=
 e=.returned (.int .i64 r.1)∧Upd F w w'∧ ∃ F',Inv w' r.2 F'∧ ∀ x,F' x→F x∨w.heap.size≤x
def EachIs.mk {F F':Nat→Prop} {w w':World} {r:Int×σ} {n:Int} {s:σ} (hr:r=(n,s)) (hu:Upd F w w') (hi:Inv w' s F') (hF: ∀ x,F' x→F x∨w.heap.size≤x):EachIs Inv F w r (.returned (.int .i64 n)) w':=by
 subst hr;exact⟨rfl,hu,F',hi,hF⟩
def zGN (zs:List Int):(ints zs).toArray=bv zs:=rfl
def SL.updq {S:Nat→Prop} {w w':World} {size n c:Nat} {A:Option Addr} {xs:List Value} (h:SL w size (.slice A n c) n xs) (hu:Upd S w w') (hS: ∀ ad,A=some ad→0<n→ ¬S ad.block):SL w' size (.slice A n c) n xs:=by
 obtain⟨A',c',e,h1,h2,h3,h4⟩:=h;injection e with e1 e2 e3
 subst e1 e3;refine⟨_,_,rfl,h1,h2,h3,fun h0=> ?_⟩;obtain⟨ad,rfl,hb,hc⟩:=h4 h0;refine⟨ad,rfl,wA1 hb hu.size,fun j u hj=> ?_⟩;rw[←hc j u hj];unfold World.cell?;rw[yN,hu.block _ hb (hS ad rfl h0)]
def zigAt_0:vK 0=0:=by decide
def zKu (zs:List Int):(zto zs).getD 0 0=zs.getD 0 0:=by
 have h:0<(zto zs).length:=by rw[jK];omega
 rw[wF4,wA2 h];simp[zto,zigAt_0]
def zHV {zs:List Int} {lo hi:Int} (h:zR zs lo hi=true) (k:Nat) (h1:lo≤0) (h2:0≤hi):lo≤zs.getD k 0∧zs.getD k 0≤hi:=by
 rw[wF4]
 cases hq:zs[k]? with
 | none=>exact⟨h1,h2⟩
 | some y=>exact yD.1 h y (wK5 hq)
def zQX {Z:List Int} {k:Nat} (h: ∀ j,j<k→zR (yM Z j) (-2047) 2047=true): -2047≤jW Z k∧jW Z k≤2047:=by
 unfold jW;split
 ·omega
 ·exact zHV (h (k-1) (by omega)) 0 (by omega) (by omega)
def befAt_0 (Z:List Int):jW Z 0=0:=if_pos rfl
def zMN (Z:List Int) (k:Nat):jW Z (k+1)=(yM Z k).getD 0 0:=if_neg (by omega)
def zEb (Z:List Int) (k:Nat):uU Z k=yC (jW Z k) (zto (yM Z k)):=rfl
attribute [local irreducible] yC zto bv qC vS xV yW uU jW yM
def zQO (E:Eat f cap Inv step C) (A:Option Addr) (n c:Nat) (Z:List Int) (hZ:Z.length=n*64) (w:World) (hs:SL w 64 (.slice A n c) n (ints Z)) (s:σ) (F:Nat→Prop) (hI:Inv w s F) (hA: ∀ ad,A=some ad→0<n→ ¬F ad.block) (hCR:C (xZ step n Z s).2) :
 Calls Tryz.prog 145 #[.slice A n c,.func (.func f) #[] cap] w (EachIs Inv F w (xZ step n Z s)):=by
 have hs':=hs;obtain⟨A',c',he,hnc,hc2, -, -⟩:=hs';injection he with he1 he2 he3
 subst he1 he3
 by_cases hn:400<n
 ·have hR:xZ step n Z s=(2,s):=if_pos hn;have HR:=zA hR;generalize xZ step n Z s=R at *;clear hR hs;go_enter Tryz.func145,Tryz.ntmps145;go_wp2_with fail;go_ret;exact EachIs.mk HR.out (Upd.refl _ _) hI (fun x h=>.inl h)
 ·have hR:xZ step n Z s=if zR Z (-2047) 2047=false then (1,s) else xV step (yW Z n 0) s:=if_neg hn
  have HR:=zA hR;have HCR:=zA hCR;generalize xZ step n Z s=R at *;clear hR hCR;have hn4:n≤400:=by omega
  have HZ:=zA hZ;clear hn hZ;have HAL:=zA (show (Tryz.prog.info? 33).bind (·.zero)=some (.agg (bv (List.replicate 64 0))) from qU);have hz0:=zA (show (Value.agg (bv (List.replicate 64 0))).cells.size=64 by rw[show (Value.agg (bv (List.replicate 64 0))).cells=bv (List.replicate 64 0) from rfl,zK];rfl);generalize bv (List.replicate 64 0)=cz at *;go_enter Tryz.func145,Tryz.ntmps145;go_wp2_with fail
  go_loopw [22] (fun i wr=> ∃ k:Nat,k≤n∧i=.int .i64 (k:Int)∧Ext w wr∧Hid (∀ j,j<k→zR (yM Z j) (-2047) 2047=true)) (fun i _=>n-(intOf i).toNat)
  case atStart=>exact⟨0,by omega,rfl,Ext.refl w,zA (fun j h=>by omega)⟩
  case round =>
   obtain⟨k,hk,rfl,hx,HP⟩:=hrel
   by_cases hlt:k<n
   ·obtain⟨ad,rfl,hab,hca⟩:=(hs.ext hx).part hlt;have hbl:=zEH Z n k HZ.out hlt;have e:((ints Z).drop (k*64)).take 64=ints (yM Z k):=by simp[ints,yM,wH2,wH1]
    rw[e] at hca;clear e;have HCA:=zA hca;have HB:=zA hbl;have HSZ:=zA (show (bv (yM Z k)).size=64 by rw[zK];exact hbl);have HO1:=zA (xE (yM Z k));have HBV:=zA (zGN (yM Z k));clear hca hbl
    cases hal:zR (yM Z k) (-2047) 2047 with
    | false =>
      have HT:=zA (fun W=>rtok_bad 0 (yM Z k) W HB.out (.inr ⟨by decide,hal⟩))
      have HRE:Hid (R=(1,s)):=zA (by
       rw[HR.out,if_pos]
       cases hq:zR Z (-2047) 2047 with
       | false=>rfl
       | true=>have:=(zKY Z n HZ.out).1 hq k hlt;rw[hal] at this;cases this)
      have HCB:Hid (∀ W,zAJ W (ad.add (k*64)) (ints (yM Z k))→zAJ W (ad.add (k*64)) (bv (yM Z k)).toList):=zA (fun W h=>by rw[←HBV.out];simpa using h);clear hal
      go_wp2_with (first
       | ((with_reducible apply gS 25);refine yI (by rfl) 33 (.tmp 24) rfl (ad.add (k*64)) rfl (ints (yM Z k)) _ HCA.out Tryz.underlying33 rfl (by rw[yA,HB.out];exact zH) ?_;rw[HBV.out])
       | ((with_reducible apply gS 6);refine wAlo' rfl (some 6) rfl 33 rfl _ HAL.out ?_;intro w1 g1 hb1 hx1 hg1)
       | ((with_reducible apply gT 6 25);refine wStB rfl 33 (.tmp 6) (.tmp 25) rfl _ _ rfl rfl hb1 64 zH HSZ.out hz0.out HO1.out ?_;intro w2 hb2 hg2)
       | ((with_reducible apply gS 27);refine wLdB rfl 33 (.tmp 6) rfl g1 rfl hb2 _ Tryz.underlying33 rfl 64 zH HSZ.out ?_)
       | (go_at_call 180;(with_reducible refine (HT.out _).mono ?_);rintro e w3 ⟨rfl,hx3⟩))
      go_ret;have hx4:=(hx.trans (hx1.grown hg2 hg1)).trans hx3;exact EachIs.mk HRE.out (yB hx4) (E.ext hI hx4) (fun x h=>.inl h)
    | true =>
      have hzh:=zHV hal 0 (by omega) (by omega);rw[←zKu] at hzh;have HT:=zA (fun W=>rtok_good 0 (yM Z k) W HB.out (by omega) (by omega) hal hzh.1 hzh.2)
      have HP':Hid (∀ j,j<k+1→zR (yM Z j) (-2047) 2047=true):=zA (fun j hj=>by
       rcases wA3 j k with h1 | h1
       ·exact HP.out j h1
       ·obtain rfl:j=k:=by omega
        exact hal)
      clear hal hzh HP;generalize yC 0 (zto (yM Z k))=T0 at *
      go_wp2_with (first
       | ((with_reducible apply gS 25);refine yI (by rfl) 33 (.tmp 24) rfl (ad.add (k*64)) rfl (ints (yM Z k)) _ HCA.out Tryz.underlying33 rfl (by rw[yA,HB.out];exact zH) ?_;rw[HBV.out])
       | ((with_reducible apply gS 6);refine wAlo' rfl (some 6) rfl 33 rfl _ HAL.out ?_;intro w1 g1 hb1 hx1 hg1)
       | ((with_reducible apply gT 6 25);refine wStB rfl 33 (.tmp 6) (.tmp 25) rfl _ _ rfl rfl hb1 64 zH HSZ.out hz0.out HO1.out ?_;intro w2 hb2 hg2)
       | ((with_reducible apply gS 27);refine wLdB rfl 33 (.tmp 6) rfl g1 rfl hb2 _ Tryz.underlying33 rfl 64 zH HSZ.out ?_)
       | (go_at_call 180;(with_reducible refine (HT.out _).mono ?_);rintro e w3 ⟨D,d,rfl, -,hx3⟩))
      go_roundw
      case rel=>exact⟨k+1,by omega,by go_num,(hx.trans (hx1.grown hg2 hg1)).trans hx3,HP'⟩
      case measure=>simp[intOf];omega
   ·obtain rfl:n=k:=by omega
    have HR2:Hid (xV step (yW Z n 0) s=R):=zA (by rw[HR.out,if_neg];rw[(zKY Z n HZ.out).2 HP.out];simp);have HPA:Hid (∀ j,j<n→zR (yM Z j) (-2047) 2047=true):=zA HP.out;have hI1:=E.ext hI hx;have hs1:=hs.ext hx;have hb0:=befAt_0 Z;have HB0:=zA hb0;clear HR hb0 hlt
    have hA1:Hid (∀ (F':Nat→Prop),(∀ x,F' x→F x∨w.heap.size≤x)→ ∀ ad,A=some ad→0<n→ ¬F' ad.block):=zA (fun F' h ad e h0 k=>by
     rcases h _ k with h1 | h1
     ·exact hA ad e h0 h1
     ·obtain⟨A'',c'',e2, -, -, -,h5⟩:=hs;injection e2 with e3 _ _
      subst e3;obtain⟨ad',e4,h6, -⟩:=h5 h0;rw[e] at e4;injection e4 with e4
      subst e4
      omega)
    have hu0:Upd F w wr:=yB hx;have hsw:=hx.size;clear hx hI hA hs HP;go_wp2_with fail;obtain⟨wo,rfl⟩: ∃ wo:World,wo=wr:=⟨_,rfl⟩
    go_loopw [9,37] (fun b i wr=> ∃ (k:Nat) (q:σ) (G:Nat→Prop),k≤n∧i=.int .i64 (k:Int)∧b=.int .i64 (jW Z k)∧Upd F w wr∧w.heap.size≤wr.heap.size∧Inv wr q G∧Hid (∀ x,G x→F x∨w.heap.size≤x)∧SL wr 64 (.slice A n c) n (ints Z)∧Hid (xV step (yW Z n k) q=R)) (fun _ i _=>n-(intOf i).toNat)
    case atStart=>exact⟨0,s,F,by omega,rfl,by rw[HB0.out],hu0,hsw,hI1,zA (fun x h=>.inl h),hs1,HR2⟩
    case round =>
     clear hu0 hsw hI1 hs1 HR2;obtain⟨k,q,G,hk,rfl,rfl,hu,hsw,hI,HG,hs,HR⟩:=hrel
     by_cases hlt:k<n
     ·have hAG: ∀ ad,A=some ad→0<n→ ¬G ad.block:=hA1.out G HG.out;have HAG:=zA hAG;clear hAG;obtain⟨ad,rfl,hab,hca⟩:=hs.part hlt;have hbl:=zEH Z n k HZ.out hlt;have e:((ints Z).drop (k*64)).take 64=ints (yM Z k):=by simp[ints,yM,wH2,wH1]
      rw[e] at hca;clear e;have HCA:=zA hca;have HB:=zA hbl;have HSZ:=zA (show (bv (yM Z k)).size=64 by rw[zK];exact hbl);have HO1:=zA (xE (yM Z k));have HBV:=zA (zGN (yM Z k));have hal:=HPA.out k hlt;have hzh:=zHV hal 0 (by omega) (by omega);rw[←zKu] at hzh;have hbf:=zQX (Z:=Z) (k:=k) (fun j hj=>HPA.out j (by omega));have HT:=zA (fun W=>zLF (jW Z k) (yM Z k) W HB.out hbf.1 hbf.2 hal hzh.1 hzh.2);rw[←zEb] at HT;have HWF:Hid (∀ t∈uU Z k,zBW t):=zA (by rw[zEb];exact zEg _ _ (jK _));have HR1:Hid (xV step ((vV (uU Z k)).drop 0++yW Z n (k+1)) q=R):=zA (by rw[wL3, ←zDL Z n k hlt];exact HR.out);have HBS:=zA (zMN Z k);have HB1:Hid ((bv (yM Z k))[0]? =some (.int .i64 ((yM Z k).getD 0 0))):=zA (by rw[qK _ 0 (by omega)];simp[wF4,hbl]);obtain⟨T,hT⟩: ∃ T,T=uU Z k:=⟨_,rfl⟩
      rw[←hT] at HT HWF HR1;obtain⟨m,hm⟩: ∃ m,T.length=m:=⟨_,rfl⟩
      have HM:=zA hm;rw[hm] at HT;clear hT hm hca hbl hal hzh hbf HR;generalize jW Z k=bf at *
      go_wp2_with (first
       | ((with_reducible apply gS 40);refine yI (by rfl) 33 (.tmp 39) rfl (ad.add (k*64)) rfl (ints (yM Z k)) _ HCA.out Tryz.underlying33 rfl (by rw[yA,HB.out];exact zH) ?_;rw[HBV.out])
       | ((with_reducible apply gS 11);refine wAlo' rfl (some 11) rfl 33 rfl _ HAL.out ?_;intro w1 g1 hb1 hx1 hg1)
       | ((with_reducible apply gT 11 40);refine wStB rfl 33 (.tmp 11) (.tmp 40) rfl _ _ rfl rfl hb1 64 zH HSZ.out hz0.out HO1.out ?_;intro w2 hb2 hg2;have hx2:=hx1.grown hg2 hg1)
       | ((with_reducible apply gS 43);refine wLdB rfl 33 (.tmp 11) rfl g1 rfl hb2 _ Tryz.underlying33 rfl 64 zH HSZ.out ?_)
       | (go_at_call 180;(with_reducible refine (HT.out _).mono ?_);rintro e w3 ⟨D,d,rfl,hs3,hf3,hx3⟩))
      have hG2: ∀ x,G x→x<wr.heap.size:=fun x h=>E.old q G wr x hI h
      have HG1:Hid (¬G g1):=zA (fun h=>by have:=hG2 g1 h;omega);have hx3':Ext wr w3:=hx2.trans hx3;have hI3:=E.ext hI hx3';have hb3:=hb2.ext hx3;have hu3:Upd F w w3:=hu.trans (yB (S:=fun _=>False) hx3') (fun _ h=>h.elim);have hs3':=hs.ext hx3';have hsw3:w.heap.size≤w3.heap.size:=by have:=hx3'.size;omega
      have HD3:Hid (∀ ad,D=some ad→ ¬G ad.block):=zA (fun ad e h=>by have:=hf3 ad e;have:=hG2 _ h;have:=hx2.size;omega);have hs3c:=hs3;obtain⟨D',d'',he3,hmd,hd2, -, -⟩:=hs3c;injection he3 with q1 q2 q3
      subst q1 q3;have hm1:m≤9223372036854775807:=by omega
      clear hu hsw hI hs hb1 hx1 hg1 hb2 hg2 hx2 hx3 hf3 hG2 hx3';clear q2
      go_loopw [49] (fun i wi=> ∃ (j:Nat) (p:σ) (G':Nat→Prop),j≤m∧i=.int .i64 (j:Int)∧Upd F w wi∧w.heap.size≤wi.heap.size∧Inv wi p G'∧Hid (∀ x,G' x→F x∨w.heap.size≤x)∧Hid (¬G' g1)∧Hid (∀ ad,D=some ad→ ¬G' ad.block)∧SL wi 64 (.slice (some ad) n c) n (ints Z)∧Blk wi g1 33 (bv (yM Z k))∧SL wi 3 (.slice D m d) m (qC T)∧Hid (xV step ((vV T).drop j++yW Z n (k+1)) p=R)) (fun i _=>m-(intOf i).toNat)
      case atStart=>exact⟨0,q,G,by omega,rfl,hu3,hsw3,hI3,HG,HG1,HD3,hs3',hb3,hs3,HR1⟩
      case round =>
       clear hu3 hsw3 hI3 HG HG1 HD3 hs3' hb3 hs3 HR1;obtain⟨wo2,rfl⟩: ∃ wo2:World,wo2=w3:=⟨_,rfl⟩
       obtain⟨j,p,G',hj,rfl,hu,hsw,hI,HG,HG1,HD,hs,hb,hst,HR⟩:=hrel
       by_cases hlj:j<m
       ·obtain⟨td,rfl,htb,htc⟩:=hst.part hlj;have hjT:j<T.length:=by rw[HM.out];exact hlj
        rw[zEO T j hjT] at htc;have HTC:=zA htc;have HRj:Hid (xV step ((T[j],j ==0)::((vV T).drop (j+1)++yW Z n (k+1))) p=R):=zA (by have:=HR.out;rw[zHS T j hjT,wL4] at this;exact this);have hwf:=HWF.out T[j] (wE2 hjT);obtain⟨b,hbq⟩: ∃ b,b=(j ==0):=⟨_,rfl⟩
        rw[←hbq] at HRj;have hjb:((j:Int) ==0)=b:=by rw[hbq];cases j<;>simp<;>omega
        generalize T[j]=t at *
        have hC2:C (step p t b).2:=by
         by_cases h0:(step p t b).1=0
         ·have h:=HRj.out;rw[zAv h0] at h;have h2:=HCR.out;rw[←h] at h2;exact E.back _ _ h2
         ·have h:=HRj.out;rw[zEM h0] at h;rw[h];exact HCR.out
        have HAS:=zA (fun W (h:Inv W p G')=>E.ask t b p G' W hC2 hwf h);have hold: ∀ x,G' x→x<wr.heap.size:=fun x h=>E.old p G' wr x hI h
        have HOLD:=zA hold;have HAD:Hid (¬G' ad.block):=zA (hA1.out G' HG.out ad rfl (by omega));clear hbq hwf hold htc HR hC2;rcases hst2:step p t b with ⟨e2,s2⟩
        have HS2:=zA hst2;rw[hst2] at HAS;clear hst2;dsimp only at HAS
        by_cases he2:e2=0
        ·subst he2;have HRn:Hid (xV step ((vV T).drop (j+1)++yW Z n (k+1)) s2=R):=zA (by have h:=HRj.out;rw[zAv (by rw[HS2.out])] at h;rw[HS2.out] at h;exact h)
         go_wp2_with (first
          | ((with_reducible apply gS 53);refine yI (by rfl) 149 (.tmp 52) rfl (td.add (j*3)) rfl (xN t) _ HTC.out Tryz.underlying149 rfl zEL ?_)
          | ((with_reducible apply gS 15);refine wAlo' rfl (some 15) rfl 149 rfl (.agg (xN (0,0,0)).toArray) (by kernel_rfl) ?_;intro w4 g15 hb4 hx4 hg4)
          | ((with_reducible apply gT 15 53);refine wStB rfl 149 (.tmp 15) (.tmp 53) rfl _ _ rfl rfl hb4 3 yP rfl rfl (jD t) ?_;intro w5 hb5 hg5;have hx5:Ext wr w5:=hx4.grown hg5 hg4;have hI5:=E.ext hI hx5;have hsw5:=hx5.size)
          | ((with_reducible apply gS 55);refine wLdB rfl 149 (.tmp 15) rfl g15 rfl hb5 _ Tryz.underlying149 rfl 3 yP rfl ?_)
          | ((with_reducible apply gS 58);refine xP (by rfl) (xQ (.tmp 54) _ _ rfl rfl E.goes (#[.agg (xN t).toArray,.bool b]++cap) (by simp[Act.eval])) ?_;(with_reducible refine (HAS.out _ hI5).mono ?_);rintro e w6 ⟨rfl,hu6,G2,hI6,hG6⟩;refine⟨_,rfl, ?_⟩;have hsw6:=hu6.size))
         go_roundw
         case rel =>
          refine⟨j+1,s2,G2,by omega,by go_num, ?_,by omega,hI6,zA ?_,zA ?_,zA ?_,(hs.ext hx5).updq hu6 (fun ad' e' _ k=>by injection e' with e';rw[←e'] at k;exact HAD.out k),hu6.blk (hb.ext hx5) HG1.out,(hst.ext hx5).updq hu6 (fun ad' e' _=>HD.out ad' e'),HRn⟩
          ·exact (hu.trans (yB (S:=fun _=>False) hx5) (fun _ h=>h.elim)).trans hu6 (fun x h=>HG.out x h)
          ·exact fun x h=>by
            rcases hG6 x h with h1 | h1
            ·exact HG.out x h1
            ·exact .inr (by omega)
          ·exact fun h=>by
            rcases hG6 _ h with h1 | h1
            ·exact HG1.out h1
            ·have:=(hb.ext hx5).lt;omega
          ·exact fun ad' e' h=>by
            rcases hG6 _ h with h1 | h1
            ·exact HD.out ad' e' h1
            ·injection e' with e';rw[←e'] at h1;have:=hx5.size;omega
         case measure=>simp[intOf];omega
        ·have hxb:(e2 !=0)=true:=by simpa using he2
         have HRE:Hid (R=(e2,s2)):=zA (by rw[←HRj.out,zEM (by rw[HS2.out];exact he2),HS2.out]);clear he2
         go_wp2_with (first
          | ((with_reducible apply gS 53);refine yI (by rfl) 149 (.tmp 52) rfl (td.add (j*3)) rfl (xN t) _ HTC.out Tryz.underlying149 rfl zEL ?_)
          | ((with_reducible apply gS 15);refine wAlo' rfl (some 15) rfl 149 rfl (.agg (xN (0,0,0)).toArray) (by kernel_rfl) ?_;intro w4 g15 hb4 hx4 hg4)
          | ((with_reducible apply gT 15 53);refine wStB rfl 149 (.tmp 15) (.tmp 53) rfl _ _ rfl rfl hb4 3 yP rfl rfl (jD t) ?_;intro w5 hb5 hg5;have hx5:Ext wr w5:=hx4.grown hg5 hg4;have hI5:=E.ext hI hx5;have hsw5:=hx5.size)
          | ((with_reducible apply gS 55);refine wLdB rfl 149 (.tmp 15) rfl g15 rfl hb5 _ Tryz.underlying149 rfl 3 yP rfl ?_)
          | ((with_reducible apply gS 58);refine xP (by rfl) (xQ (.tmp 54) _ _ rfl rfl E.goes (#[.agg (xN t).toArray,.bool b]++cap) (by simp[Act.eval])) ?_;(with_reducible refine (HAS.out _ hI5).mono ?_);rintro e w6 ⟨rfl,hu6,G2,hI6,hG6⟩;refine⟨_,rfl, ?_⟩;have hsw6:=hu6.size))
         go_ret;refine EachIs.mk HRE.out ((hu.trans (yB (S:=fun _=>False) hx5) (fun _ h=>h.elim)).trans hu6 (fun x h=>HG.out x h)) hI6 (fun x h=> ?_);rcases hG6 x h with h1 | h1
         ·exact HG.out x h1
         ·exact .inr (by omega)
       ·have hjm:j=m:=by omega
        have HRn:Hid (xV step (yW Z n (k+1)) p=R):=zA (by have h:=HR.out;rw[wG5 (by rw[zEI,HM.out];omega),wL5] at h;exact h);have hc0:wr.cell? ⟨g1,0,none⟩=some (.int .i64 ((yM Z k).getD 0 0)):=(hb.cell 0).trans HB1.out;go_wp2_with fail;go_roundw
        case rel=>exact⟨k+1,p,G',by omega,by go_num,by rw[HBS.out,wF4],hu,hsw,hI,HG,hs,HRn⟩
        case measure=>simp[intOf];omega
     ·have hkn:k=n:=by omega
      have HRE:Hid (R=(0,q)):=zA (by rw[←HR.out,hkn,zGF];unfold xV;rfl);go_wp2_with fail;go_ret;exact EachIs.mk HRE.out hu hI HG.out
end
end
section
open Go.RowKit Go.Maps
def VR (v:Value):Option (DataW Value×List MemPlace):=some (.held v,[])
def MapG {ι:Type} (P:Program) (k:TypeId) (kl:ι→Lit) (ok:ι→Prop) (w:World) (b n:Nat) (g:ι→Option Value):Prop :=
 ∃ D:DataW Value,w.ownsMap P k VR b n D∧IsMap D∧ ∀ i,ok i→Maps.has D (kl i)=(g i).isSome∧ ∀ z,D.atKey (kl i) (.held z)=.held ((g i).getD z)
section
variable {ι:Type} {P:Program} {k:TypeId} {kl:ι→Lit} {ok:ι→Prop} {w w':World} {b n:Nat} {g:ι→Option Value}
def MapG.made (w:World):MapG P k kl ok (w.alloc (.map #[] 0)) w.heap.size 0 (fun _=>none) :=
 ⟨.map [],World.ownsMap_made _ _ _ _,isMap_empty,fun _ _=>⟨rfl,fun _=>rfl⟩⟩
def MapG.lt (h:MapG P k kl ok w b n g):b<w.heap.size:=by obtain⟨D,h1, -⟩:=h;exact h1.lt
def MapG.alloc (h:MapG P k kl ok w b n g) (o:Obj):MapG P k kl ok (w.alloc o) b n g:=by
 obtain⟨D,h1,h2⟩:=h;exact⟨D,h1.alloc o,h2⟩
def MapG.ext (h:MapG P k kl ok w b n g) (hx:Ext w w'):MapG P k kl ok w' b n g:=by
 obtain⟨D,⟨es,clock,hb,r⟩,h2⟩:=h;refine⟨D,⟨es,clock,(hx.block b ?_).trans hb,r⟩,h2⟩;exact World.ownsMap.lt (R:=VR) ⟨es,clock,hb,r⟩
def MapG.grown {row:Option Nat} (h:MapG P k kl ok w b n g) (hg:w.grownBy w' row) (hne:some b≠row):MapG P k kl ok w' b n g:=by
 obtain⟨D,h1,h2⟩:=h;exact⟨D,h1.kept hg hne,h2⟩
def MapG.below {B:Nat} (h:MapG P k kl ok w b n g) (hx:Below B w w') (hb:b<B):MapG P k kl ok w' b n g:=by
 obtain⟨D,⟨es,clock,h3,r⟩,h2⟩:=h;exact⟨D,⟨es,clock,(hx.block b hb).trans h3,r⟩,h2⟩
def MapG.setCell (h:MapG P k kl ok w b n g) {a:Addr} (ha:b≠a.block) (u:Value):MapG P k kl ok (w.setCell a u) b n g:=by
 obtain⟨D,h1,h2⟩:=h;exact⟨D,h1.setCell ha u,h2⟩
variable {ops:Array Oper} {rest:List Oper} {o:Oper} {a:Act} {Q:Exit→Act→World→Prop}
def zAh (hw:Region.wanted o (yielded ops a.tmps)=true) (m x:Operand) (t e:TypeId) (hop:o.op=Op.lookup t m x false) (K:Keyed P k) (ht:P.underlying t=some (.map k e))
 (z:Value) (hz:(zeroValue e).run P w=.ok z w) (hm:a.eval m=.map (some b)) (h:MapG P k kl ok w b n g) (key:Value) (hx:a.eval x=key)
 (i:ι) (hi:ok i) (hk:keyOf P k key=some (kl i)) (u:Value) (hu:(g i).getD z=u) (hK:wpList P ops Q rest (a.put o.dst u) w):wpList P ops Q (o::rest) a w:=by
 refine uE hw fun K' hK'=> ?_
 obtain⟨D,h1, -,h2⟩:=h;obtain⟨v,ps,hrun,hv⟩:=h1.lookup K ht hz (zd:=.held z) (zp:=[]) rfl hk;rw[(h2 i hi).2 z,hu] at hv;have:v=u:=by unfold VR at hv;injection hv with hv;injection hv with hv _;injection hv
 subst this;unfold Oper.wp;simp[execOp,hop,hm,hx,hrun,Result.andThen];exact hK' _ _ hK
def zCC (hw:Region.wanted o (yielded ops a.tmps)=true) (m x:Operand) (t e:TypeId) (hop:o.op=Op.lookup t m x true) (K:Keyed P k) (ht:P.underlying t=some (.map k e))
 (z:Value) (hz:(zeroValue e).run P w=.ok z w) (hm:a.eval m=.map (some b)) (h:MapG P k kl ok w b n g) (key:Value) (hx:a.eval x=key)
 (i:ι) (hi:ok i) (hk:keyOf P k key=some (kl i)) (u:Value) (hu:(g i).getD z=u) (c:Bool) (hc:(g i).isSome=c) (hK:wpList P ops Q rest (a.put o.dst (.tuple #[u,.bool c])) w):wpList P ops Q (o::rest) a w:=by
 refine uE hw fun K' hK'=> ?_
 obtain⟨D,h1, -,h2⟩:=h;obtain⟨v,ps,hrun,hv⟩:=h1.look_ok K ht hz (zd:=.held z) (zp:=[]) rfl hk;rw[(h2 i hi).2 z,hu] at hv;rw[(h2 i hi).1,hc] at hrun;have:v=u:=by unfold VR at hv;injection hv with hv;injection hv with hv _;injection hv
 subst this;unfold Oper.wp;simp[execOp,hop,hm,hx,hrun,Result.andThen];exact hK' _ _ hK
def zBk (hw:Region.wanted o (yielded ops a.tmps)=true) (m x y:Operand) (t e:TypeId) (hop:o.op=Op.mapUpdate t m x y) (K:Keyed P k) (ht:P.underlying t=some (.map k e))
 (hm:a.eval m=.map (some b)) (h:MapG P k kl ok w b n g) (hn:n<9223372036854775807) (key:Value) (hx:a.eval x=key) (v:Value) (hy:a.eval y=v)
 (i:ι) (hk:keyOf P k key=some (kl i)) (g':ι→Option Value) (h1:g' i=some v) (h2: ∀ j,ok j→kl j≠kl i→g' j=g j) (h3: ∀ j,ok j→kl j=kl i→j=i)
 (hK: ∀ w',MapG P k kl ok w' b (n+1) g'→w.grownBy w' (some b)→wpList P ops Q rest (a.put o.dst undef) w'):wpList P ops Q (o::rest) a w:=by
 refine uE hw fun K' hK'=> ?_
 obtain⟨D,d1,d3,d2⟩:=h;obtain⟨w',hrun,r1,r2⟩:=d1.update K ht (by unfold maxLen;omega) hk (val:=v) (d:=.held v) (ps:=[]) rfl;unfold Oper.wp;simp[execOp,hop,hm,hx,hy,hrun,Result.andThen];refine hK' _ _ (hK w' ⟨_,r1,d3.put _ _,fun j hj=> ?_⟩ r2)
 by_cases e1:kl j=kl i
 ·obtain rfl:=h3 j hj e1;rw[has_put_same d3 (K.key hk),h1];exact⟨rfl,fun z=>atKey_put_same d3 (K.key hk) _ _⟩
 ·rw[has_put_other e1,h2 j hj e1];exact⟨(d2 j hj).1,fun z=>by rw[atKey_put_other e1];exact (d2 j hj).2 z⟩
end
abbrev zEV (P:Program) (k:TypeId) (w:World) (b n:Nat) (g:Int→Option Value):Prop:=MapG P k (fun x:Int=>Lit.int .i64 x) (fun _=>True) w b n g
def zBo {P:Program} {k:TypeId} (hk:P.underlying k=some (.int .i64)) {a:Int} (h0: -9223372036854775808≤a) (h1:a≤9223372036854775807):keyOf P k (.int .i64 a)=some (.int .i64 a) :=
 keyOf_int_mk hk (WalkArith.wf_i64 ⟨by omega,by omega⟩)
def zHv {a w w':World} (h:Ext a w) {g:Nat} (hg:w.grownBy w' (some g)) (hB:a.heap.size≤g):Ext a w':=h.grown hg hB
end
def qF (n:Nat):Nat→List Bool
 | 0=>[]
 | k+1=>(n/2 ^ k%2 ==1)::qF n k
def yJ:List Bool→Nat
 | []=>0
 | b::l=>b.toNat*2 ^ l.length+yJ l
def qB (n k:Nat):(qF n k).length=k:=by
 induction k with
 | zero=>rfl
 | succ k ih=>simp[qF,ih]
def zBj (l:List Bool):yJ l<2 ^ l.length:=by
 induction l with
 | nil=>simp[yJ]
 | cons b l ih =>
   simp only[yJ,wA8,wL6];cases b<;>simp<;>omega
def zDu (a b:List Bool):yJ (a++b)=yJ a*2 ^ b.length+yJ b:=by
 induction a with
 | nil=>simp[yJ]
 | cons x a ih =>
   simp only[wL4,yJ,wF3,ih,Nat.pow_add,wJ8,wL7];omega
def numB_digs (n k:Nat):yJ (qF n k)=n%2 ^ k:=by
 induction k with
 | zero=>simp[qF,yJ,Nat.mod_one]
 | succ k ih =>
   simp only[qF,yJ,qB,ih]
   have e:(n/2 ^ k%2 ==1).toNat=n/2 ^ k%2:=by
    rcases (show n/2 ^ k%2=0∨n/2 ^ k%2=1 by omega) with h | h<;>simp[h]
   rw[e,wL6,Nat.mod_mul,wJ2];omega
def zBm {n k:Nat} (h:n<2 ^ k):yJ (qF n k)=n:=by rw[numB_digs,wL8 h]
def zKX {a b:List Bool} (hl:a.length=b.length) (h:yJ a=yJ b):a=b:=by
 induction a generalizing b with
 | nil=>cases b with | nil=>rfl | cons _ _=>simp at hl
 | cons x a ih =>
   cases b with
   | nil=>simp at hl
   | cons y b =>
     have hl':a.length=b.length:=by simpa using hl
     simp only[yJ,hl'] at h;have h1:=zBj a;have h2:=zBj b;rw[hl'] at h1
     have hxy:x=y:=by
      cases x<;>cases y<;>simp at h ⊢ <;>omega
     subst hxy;rw[ih hl' (by omega)]
def digs_numB (l:List Bool):qF (yJ l) l.length=l:=zKX (qB _ _) (zBm (zBj l))
def zOA (l:List Bool) (k:Nat):yJ (l.drop k)=yJ l%2 ^ (l.length-k):=by
 have h:=zDu (l.take k) (l.drop k);rw[wL9] at h;have h2:=zBj (l.drop k);rw[wK1] at h h2;rw[h,wJ2,Nat.mul_add_mod,wL8 h2]
def zNy (l:List Bool) (k:Nat):yJ (l.take k)=yJ l/2 ^ (l.length-k):=by
 have h:=zDu (l.take k) (l.drop k);rw[wL9] at h;have h2:=zBj (l.drop k);rw[wK1] at h h2;rw[h,wJ2,Nat.mul_add_div (wI5 _),Nat.div_eq_of_lt h2,Nat.add_zero]
def numB_mid (l:List Bool) (i k:Nat) (h:i+k≤l.length):yJ ((l.drop i).take k)=yJ l/2 ^ (l.length-(i+k))%2 ^ k:=by
 have e:(l.drop i).take k=(l.take (i+k)).drop i:=by rw[List.drop_take];congr 1;omega
 rw[e,zOA,zNy l,wI8];congr 2
 omega
def numB_snoc (l:List Bool) (b:Bool):yJ (l++[b])=2*yJ l+b.toNat:=by
 rw[zDu];simp[yJ];omega
def jJ (l:List Bool):List Nat:=(List.range (l.length/8)).map fun i=>yJ ((l.drop (8*i)).take 8)
def uO (l:List Bool):List Bool:=l.drop (8*(l.length/8))
def zCz (l:List Bool):(jJ l).length=l.length/8:=by simp[jJ]
def zFv (l:List Bool):(uO l).length=l.length%8:=by simp[uO];omega
def packB_lt (l:List Bool): ∀ x∈jJ l,x<256:=by
 intro x hx;simp only[jJ,wD6,wB7] at hx;obtain⟨i,hi,rfl⟩:=hx;have h:=zBj ((l.drop (8*i)).take 8);have h2:((l.drop (8*i)).take 8).length≤8:=List.length_take_le _ _;have:=wI4 (n:=2) (by omega) h2;omega
def zPF (l m:List Bool):jJ (l++m)=jJ l++jJ (uO l++m):=by
 have e:(l++m).length/8=l.length/8+(uO l++m).length/8:=by
  rw[wF3,wF3,zFv];omega
 have key:(l++m).drop (8*(l.length/8))=uO l++m:=by
  rw[wM0 (by omega)];rfl
 unfold jJ;rw[e,List.range_add,wH4,wM1];congr 1
 ·apply wI3;intro i hi;have:=wB7.1 hi;rw[wM0 (by omega),wM2 (by rw[wK1];omega)]
 ·apply wI3;intro i _;simp only[Function.comp];rw[wM3, ←wM4,key]
def zQT (l m:List Bool):uO (l++m)=uO (uO l++m):=by
 have key:(l++m).drop (8*(l.length/8))=uO l++m:=by
  rw[wM0 (by omega)];rfl
 rw[uO,uO, ←key,wM4];congr 1
 rw[wK1];rw[wF3];omega
def zAM (l:List Bool):List Bool:=l++List.replicate ((8-l.length%8)%8) true
def padB_len (l:List Bool):(zAM l).length%8=0:=by simp[zAM];omega
def zNB (k:Nat):yJ (List.replicate k true)=2 ^ k-1:=by
 induction k with
 | zero=>rfl
 | succ k ih =>
   rw[wG0,yJ,ih,wL6];have:=wI5 k;simp;omega
def digs_ones (k:Nat):qF (2 ^ k-1) k=List.replicate k true:=by
 apply zKX (by simp[qB]);rw[zNB,zBm (by have:=wI5 k;omega)]
def zM (b:List Nat):List Bool:=b.flatMap fun x=>qF x 8
def zEk (b:List Nat):(zM b).length=8*b.length:=by
 induction b with
 | nil=>rfl
 | cons x b ih=>simp only[zM,wJ6,wF3,qB,wA8] at ih ⊢;omega
def digsOf_at (b:List Nat) (i:Nat) (h2:i<b.length):((zM b).drop (8*i)).take 8=qF b[i] 8:=by
 induction b generalizing i with
 | nil=>simp at h2
 | cons x b ih =>
   have e:zM (x::b)=qF x 8++zM b:=rfl;rw[e]
   cases i with
   | zero=>simp[qB]
   | succ i =>
     rw[List.drop_append,wM5 (by rw[qB];omega),qB,wL5,show 8*(i+1)-8=8*i by omega];have h3:i<b.length:=by simpa using h2
     rw[ih i h3];simp
def zOr (a b:List Nat):zM (a++b)=zM a++zM b:=by simp[zM]
def zQQ (l:List Bool) (h:l.length%8=0):zM (jJ l)=l:=by
 have key: ∀ k,k≤l.length/8→zM ((List.range k).map fun i=>yJ ((l.drop (8*i)).take 8))=l.take (8*k):=by
  intro k
  induction k with
  | zero=>intro _;simp[zM]
  | succ k ih =>
    intro hk;rw[wH3,wH4,zOr,ih (by omega)]
    have e:(l.drop (8*k)).take 8=qF (yJ ((l.drop (8*k)).take 8)) 8:=by
     have h1:((l.drop (8*k)).take 8).length=8:=by simp;omega
     have h2:=digs_numB ((l.drop (8*k)).take 8);rw[h1] at h2;exact h2.symm
    simp only[wC8,wC9,zM,wJ6,List.flatMap_nil,wG6];rw[←e,show 8*(k+1)=8*k+8 by omega,List.take_add]
 unfold jJ;rw[key _ (wA5 _),wC4 (by omega)]
def zGa (l:List Bool) (k:Nat) (h:k<l.length):yJ (l.take (k+1))=2*yJ (l.take k)+l[k].toNat:=by
 rw[wC3 h,numB_snoc]
def numB_le (l:List Bool) (n:Nat) (h:l.length≤n):yJ l<2 ^ n:=by
 have h1:=zBj l;have:=wI4 (n:=2) (by omega) h;omega
def yL (cs:List Int) (sl:Value):Array Value:=(ints cs++[sl]).toArray
def zS:(Tryz.prog.info? 42).map (·.size)=some 17:=by kernel_rfl
def zLq:(Tryz.prog.info? 40).map (·.size)=some 16:=by kernel_rfl
def vL (cs:List Int) (sl:Value) (h:cs.length=16):(yL cs sl).size=17:=by simp[yL,yA,h]
def zEc {w:World} {g:Nat} {T:TypeId} {cs:List Int} {sl:Value} (h:Blk w g T (yL cs sl)):w.rangeAt g 0 (ints cs):=by
 intro j v hv;rw[wB2,h.cell];unfold yL;rw[wH5,wG7 (wC2.1 hv).1];exact hv
def zEK {w:World} {g:Nat} {T:TypeId} {cs:List Int} {sl:Value} (h:Blk w g T (yL cs sl)) (hl:cs.length=16):w.cell? ⟨g,16,none⟩=some sl:=by
 rw[h.cell];simp[yL,yA,hl]
def zGE (cs:Array Value) (i:Nat) (u:Value) (hi:i<16) (hu:cs[i]? =some u) (w:World):(Instr.index 40 (.agg cs) (.int .i64 (i:Int))).run Tryz.prog w=.ok u w :=
 zCH _ _ 16 cs i u Tryz.underlying40 _ Tryz.underlying3 zJa hi hu w
def zAq (cs:List Int) (k:Nat):Int:=(cs.take k).sum
def zIQ (cs:List Int) (k:Nat) (h:k<cs.length):zAq cs (k+1)=zAq cs k+cs[k]:=by
 unfold zAq;rw[wC3 h,wJ5];simp
def zBd (cs:List Int):Int×Bool:=if zR cs 0 256 then (zAq cs 16,decide (zAq cs 16≤256)) else (0,false)
def zNQ (cs:List Int) (sl:Value) (w:World) (hl:cs.length=16) :
 Calls Tryz.prog 151 #[.agg (yL cs sl)] w fun e w'=>e=.returned (.tuple #[.int .i64 (zBd cs).1,.bool (zBd cs).2])∧Ext w w':=by
 have HL:=zA hl;have HRG:=zA (fun W g (h:Blk W g 42 (yL cs sl))=>zEc h);have hcl:=zA ((yA cs).trans hl);have HIX:=zA (fun k (hk:k<cs.length) (h16:k<16)=>fun W=>zGE (bv cs) k (.int .i64 cs[k]) h16 (qK cs k hk) W);generalize yL cs sl=tv at *;have hbv:(ints cs).toArray=bv cs:=rfl;go_enter Tryz.func151,Tryz.ntmps151
 go_wp2_with (first
  | (refine wBox rfl 42 (.tmp 0) rfl tv rfl ?_;intro w1 g hb1 hx1 hg)
  | (refine wpList_load_mid rfl 40 (.tmp 7) rfl g 0 rfl (ints cs) _ (HRG.out _ _ hb1) Tryz.underlying40 rfl (by rw[hcl.out];exact zLq) ?_))
 go_loop [4,9] (fun v i=> ∃ k:Nat,k≤16∧i=.int .i64 (k:Int)∧v=.int .i64 (zAq cs k)∧(∀ z∈cs.take k,0≤z∧z≤256)∧0≤zAq cs k∧zAq cs k≤256*k) (fun _ i=>16-(intOf i).toNat)
 case atStart=>exact⟨0,by omega,rfl,rfl,by simp,by simp[zAq],by simp[zAq]⟩
 case round =>
  obtain⟨k,hk,rfl,rfl,hin,s1,s2⟩:=hrel
  by_cases hlt:k<16
  ·have hkl:k<cs.length:=by have:=HL.out;omega
   have hix:=HIX.out k hkl hlt;have HS:=zA (zIQ cs k hkl);have HIN:=zA hin;clear hin
   cases hq:inB cs[k] 0 256 with
   | true =>
     obtain⟨q1,q2⟩:=jS.1 hq;have HN:=zA (zEq HIN.out hkl ⟨q1,q2⟩);generalize zAq cs k=s at *;go_wp2_with fail;go_round
     case rel=>exact⟨k+1,by omega,by go_num,by rw[HS.out],HN.out,by rw[HS.out];omega,by rw[HS.out];omega⟩
     case measure=>simp[intOf];omega
   | false =>
     have HF:=zA (show zBd cs=(0,false) by unfold zBd;rw[zKn hkl hq];rfl);rcases Int.lt_or_le cs[k] 0 with h0 | h0
     ·have h0':decide (cs[k]<0)=true:=by simpa using h0
      clear hq;go_wp2_with fail;go_ret2;exact⟨by rw[HF.out];rfl,hx1⟩
     ·have h0':decide (cs[k]<0)=false:=by simpa using h0
      have h1':decide (256<cs[k])=true:=by have:=zAI.1 hq;simp;omega
      clear hq;go_wp2_with fail;go_ret2;exact⟨by rw[HF.out];rfl,hx1⟩
  ·have ek:k=16:=by omega
   have HF:=zA (show zBd cs=(zAq cs 16,decide (zAq cs 16≤256)) by
    unfold zBd;rw[yD.2 (fun z hz=>hin z (by rwa [wC4 (by have:=HL.out;omega)]))]
    rfl)
   rw[ek];rw[ek] at s1 s2;clear hin ek hk hlt;go_wp2_with fail;go_ret2;exact⟨by rw[HF.out];rfl,hx1⟩
def vD (cs:List Int):Nat→Nat
 | 0=>0
 | k+1=>2*vD cs k+(cs.getD k 0).toNat
def okW (cs:List Int):Bool:=(List.range 16).all fun k=>decide (vD cs (k+1)+1≤2 ^ (k+1))
def okW_no {cs:List Int} {k:Nat} (hk:k<16) (h:2 ^ (k+1)<vD cs (k+1)+1):okW cs=false:=by
 rw[←wE1];intro h2;have:=wB5.1 h2 k (wB7.2 hk);simp only[wB3] at this;omega
def zCm (cs xs:List Int):Bool:=zR cs 0 256&&decide (zAq cs 16≤256)&&decide (zAq cs 16=xs.length)
def zT (cs xs:List Int):Int:=if zCm cs xs then (if zR xs 0 255 then (if decide xs.Nodup&&okW cs then 0 else 4) else 1) else 4
def zMH {cs xs:List Int} (h:zCm cs xs=false):zT cs xs=4:=by simp[zT,h]
def zLs {cs xs:List Int} (h:zCm cs xs=true) (h2:zR xs 0 255=false):zT cs xs=1:=by simp[zT,h,h2]
def zSb {cs xs:List Int} (h:zCm cs xs=true) (h2:zR xs 0 255=true) (h3: ¬xs.Nodup):zT cs xs=4:=by simp[zT,h,h2,h3]
def zIz {cs xs:List Int} (h:zCm cs xs=true) (h2:zR xs 0 255=true) (h3:xs.Nodup):zT cs xs=if okW cs then 0 else 4:=by simp[zT,h,h2,h3]
def zFa {cs xs:List Int}:zCm cs xs=true↔zR cs 0 256=true∧zAq cs 16≤256∧zAq cs 16=xs.length:=by simp[zCm,and_assoc]
def zLf {xs:List Int} {k:Nat} (hk:k<xs.length):(xs.take (k+1)).Nodup↔(xs.take k).Nodup∧xs[k]∉xs.take k:=by
 rw[wC3 hk,wM6];constructor
 ·rintro⟨a, -,c⟩;exact⟨a,fun h=>c _ h _ (by simp) rfl⟩
 ·rintro⟨a,b⟩;refine⟨a,by simp,fun x hx y hy=> ?_⟩;simp at hy;subst hy;rintro rfl;exact b hx
def okW_yes {cs:List Int} (h: ∀ j,j<16→vD cs (j+1)+1≤2 ^ (j+1)):okW cs=true :=
 wB5.2 fun i hi=>by
  have:=h i (wB7.1 hi);simpa using this
def zLT (cs:List Int) (k n:Nat) (hk:k<cs.length) (h:cs[k]=(n:Int)):vD cs (k+1)=2*vD cs k+n:=by
 show 2*vD cs k+(cs.getD k 0).toNat=_
 simp[hk,h]
def elt_word:Elt Tryz.prog 88 94 3 24:=⟨Tryz.underlying88,by kernel_rfl,by omega⟩
def one_sl3' (w:World) (T:TypeId) (a b c:Value):SL (w.alloc (.cells #[a,b,c] T)) 3 (.slice (some ⟨w.heap.size,0,none⟩) 1 1) 1 [a,b,c]:=by
 have:=(Blk.new w T #[a,b,c]).sl (size:=3) (n:=1) (c:=1) rfl (by omega) (by omega);simpa using this
def int3_one (a b c:Int): ∀ u∈[Value.int .i64 a,.int .i64 b,.int .i64 c],u.oneCell'=true:=by
 intro u hu;simp at hu;rcases hu with rfl | rfl | rfl<;>rfl
def own_tok3 {w:World} {base:Nat} {e:TypeId} {v:Value} {T:List Tok} {a b c:Int} (h:w.ownsRow base e 3 v (T.length+1) (qC T++[.int .i64 a,.int .i64 b,.int .i64 c])):w.ownsRow base e 3 v (T++[(a,b,c)]).length (qC (T++[(a,b,c)])):=by
 simpa [qC,xN] using h
def uD (cs:List Int) (k j:Nat):List (Nat×Nat):=(List.range j).map fun i=>(k+1,2*vD cs k+i)
def zD (cs:List Int):Nat→List (Nat×Nat)
 | 0=>[]
 | k+1=>zD cs k++uD cs k (cs.getD k 0).toNat
def zOF (cs:List Int) (k j:Nat):uD cs k (j+1)=uD cs k j++[(k+1,2*vD cs k+j)]:=by
 unfold uD;rw[wH3,wH4];rfl
def zGx (cs:List Int) (k j:Nat):(uD cs k j).length=j:=by simp[uD]
def zKD (cs:List Int) (k n:Nat) (hk:k<cs.length) (h:cs[k]=(n:Int)):zD cs (k+1)=zD cs k++uD cs k n:=by
 show zD cs k++uD cs k (cs.getD k 0).toNat=_
 simp[hk,h]
def zBw (cs:List Int) (h: ∀ z∈cs,0≤z): ∀ k,k≤cs.length→((zD cs k).length:Int)=zAq cs k:=by
 intro k
 induction k with
 | zero=>intro _;simp[zD,zAq]
 | succ k ih =>
   intro hk;have h0:=h _ (wE2 (show k<cs.length by omega));rw[zKD cs k cs[k].toNat (by omega) (by omega),wF3,zGx,zIQ cs k (by omega), ←ih (by omega)];omega
def zRO (cs:List Int) (j k:Nat) (h:j≤k):(zD cs j).length≤(zD cs k).length:=by
 induction k with
 | zero=>obtain rfl:j=0:=by omega
         exact wA5 _
 | succ k ih =>
   rcases wA3 k j with h2 | h2
   ·obtain rfl:j=k+1:=by omega
    exact wA5 _
   ·have:=ih h2;show _≤(zD cs k++_).length
    rw[wF3];omega
def zL (l:List (Nat×Nat)) (xs:List Int):List Tok:=List.zipWith (fun p x=>((x,(p.1:Int),(p.2:Int)):Tok)) l xs
def zBS (l:List (Nat×Nat)) (xs:List Int) (h:l.length≤xs.length):(zL l xs).length=l.length:=by simp[zL];omega
def zipC_snoc (l:List (Nat×Nat)) (p:Nat×Nat) (xs:List Int) (h:l.length<xs.length):zL (l++[p]) xs=zL l xs++[(xs[l.length],(p.1:Int),(p.2:Int))]:=by
 induction l generalizing xs with
 | nil =>
   cases xs with
   | nil=>simp at h
   | cons x xs=>simp[zL]
 | cons q l ih =>
   cases xs with
   | nil=>simp at h
   | cons x xs =>
     have h':l.length<xs.length:=by simpa using h
     have:=ih xs h';simp only[zL,wL4,wM7] at this ⊢;rw[this];simp
def zEv (cs:List Int) (hok:okW cs=true) (hl:cs.length=16): ∀ k,k≤16→ ∀ p∈zD cs k,1≤p.1∧p.1≤k∧p.2+1<2 ^ p.1+1:=by
 intro k
 induction k with
 | zero=>intro _ p hp;simp[zD] at hp
 | succ k ih =>
   intro hk p hp;rcases wE6.1 (show p∈zD cs k++uD cs k (cs.getD k 0).toNat from hp) with h | h
   ·have:=ih (by omega) p h;omega
   ·simp only[uD,wD6,wB7] at h;obtain⟨i,hi,rfl⟩:=h;have h1:=wB5.1 hok k (wB7.2 (by omega));simp only[wB3] at h1;have h2:vD cs (k+1)=2*vD cs k+(cs.getD k 0).toNat:=rfl;refine⟨by simp,by simp, ?_⟩;simp only;omega
def zCg (cs:List Int):zD cs 0=[]:=rfl
def zED (cs:List Int) (k:Nat):zD cs (k+1)=zD cs k++uD cs k (cs.getD k 0).toNat:=rfl
attribute [irreducible] zD
section
open Go.RowKit Go.Maps
def zDE:Keyed Tryz.prog 3:=int_keyed Tryz.underlying3
def zero_bool (w:World):(zeroValue 4).run Tryz.prog w=.ok (.bool false) w:=by kernel_rfl
def zDv (l:List Int) (x:Int):Option Value:=if x∈l then some (.bool true) else none
def zSX (l:List Int) (x:Int):(zDv l x).getD (.bool false)=.bool (decide (x∈l)):=by
 unfold zDv;by_cases h:x∈l<;>simp[h]
def check_tot (cs xs:List Int) (sl:Value) (w:World) (hl:cs.length=16) (hs:SL w 1 sl xs.length (ints xs)) (h:zCm cs xs=false) :
 Calls Tryz.prog 102 #[.agg (yL cs sl)] w fun e w'=>e=.returned (.int .i64 4)∧Ext w w':=by
 have HT:=zA (fun W=>zNQ cs sl W hl);have hlast:=zA (fun W g (h:Blk W g 42 (yL cs sl))=>zEK h hl);have hts:=zA (vL cs sl hl)
 have hq:(zBd cs).2=false∨((zBd cs).2=true∧((zBd cs).1 !=(xs.length:Int))=true):=by
  unfold zCm at h;unfold zBd
  cases h1:zR cs 0 256 with
  | false=>left;simp
  | true =>
    rw[h1] at h;simp only[if_true]
    by_cases h2:zAq cs 16≤256
    ·right
     simp[h2] at h ⊢;exact h
    ·left;simpa using h2
 generalize zBd cs=tz at *;obtain⟨all,is⟩:=tz;generalize yL cs sl=tv at *;obtain⟨A,c,rfl,hc1,hc2, -, -⟩:=hs;rcases hq with hq | ⟨hq,hq2⟩
 ·simp only at hq;subst hq;go_enter Tryz.func102,Tryz.ntmps102
  go_wp2_with (first
   | (refine wBox rfl 42 (.tmp 0) rfl tv rfl ?_;intro w1 g hb1 hx1 hg)
   | (refine wLdB rfl 42 (.tmp 1) rfl _ rfl hb1 _ Tryz.underlying42 rfl 17 zS hts.out ?_)
   | (go_at_call 151;(with_reducible refine (HT.out _).mono ?_);rintro e w2 ⟨rfl,hx2⟩))
  go_ret;exact⟨rfl,hx1.trans hx2⟩
 ·simp only at hq hq2;subst hq;go_enter Tryz.func102,Tryz.ntmps102
  go_wp2_with (first
   | (refine wBox rfl 42 (.tmp 0) rfl tv rfl ?_;intro w1 g hb1 hx1 hg)
   | (refine wLdB rfl 42 (.tmp 1) rfl _ rfl hb1 _ Tryz.underlying42 rfl 17 zS hts.out ?_)
   | (go_at_call 151;(with_reducible refine (HT.out _).mono ?_);rintro e w2 ⟨rfl,hx2⟩;have hc16:=hlast.out _ _ (hb1.ext hx2)))
  go_ret;exact⟨rfl,hx1.trans hx2⟩
def seenF_upd (xs:List Int) (k:Nat) (hk:k<xs.length):zDv (xs.take (k+1)) xs[k]=some (.bool true):=by
 unfold zDv;rw[if_pos (by rw[wC3 hk];exact wM8 _ (by simp))]
def zQz (xs:List Int) (k:Nat) (hk:k<xs.length) (j:Int) (hj:j≠xs[k]):zDv (xs.take (k+1)) j=zDv (xs.take k) j:=by
 unfold zDv;have:j∈xs.take (k+1)↔j∈xs.take k:=by rw[wC3 hk,wE6];simp[hj]
 by_cases h:j∈xs.take k
 ·rw[if_pos h,if_pos (this.2 h)]
 ·rw[if_neg h,if_neg (fun h2=>h (this.1 h2))]
def check_in (cs xs:List Int) (sl:Value) (w:World) (hl:cs.length=16) (hs:SL w 1 sl xs.length (ints xs)) (h:zCm cs xs=true) :
 Calls Tryz.prog 102 #[.agg (yL cs sl)] w fun e w'=>e=.returned (.int .i64 (zT cs xs))∧Ext w w':=by
 have HT:=zA (fun W=>zNQ cs sl W hl);have hlast:=zA (fun W g (h:Blk W g 42 (yL cs sl))=>zEK h hl);have hts:=zA (vL cs sl hl);have HRG:=zA (fun W g (h:Blk W g 42 (yL cs sl))=>zEc h);have hcl:=zA ((yA cs).trans hl);have HIX:=zA (fun k (hk:k<cs.length) (h16:k<16)=>fun W=>zGE (ints cs).toArray k (.int .i64 cs[k]) h16 (qK cs k hk) W);obtain⟨q1,q2,q3⟩:=zFa.1 h;have HZ1:=zA (fun h2=>zLs h h2);have HZ2:=zA (fun h2 h3=>zSb h h2 h3);have HZ3:=zA (fun h2 h3=>zIz h h2 h3);have HT1:Hid (zBd cs=((xs.length:Int),true)):=zA (by unfold zBd;rw[q1,q3];simp;omega);rw[HT1.out] at HT;have hlen:xs.length≤256:=by omega
 have HAL:=zA (yD.1 q1);have HL:=zA hl;have hneq:((xs.length:Int) !=(xs.length:Int))=false:=by simp
 have hmm:= @run_makeMap Tryz.prog;have hs':=hs;obtain⟨A,c,rfl,hc1,hc2, -, -⟩:=hs';generalize yL cs (.slice A xs.length c)=tv at *;clear h q1 q2 q3;go_enter Tryz.func102,Tryz.ntmps102
 go_wp2_with (first
  | (refine wBox rfl 42 (.tmp 0) rfl tv rfl ?_;intro w1 g hb1 hx1 hg)
  | (refine wLdB rfl 42 (.tmp 1) rfl _ rfl hb1 _ Tryz.underlying42 rfl 17 zS hts.out ?_)
  | (go_at_call 151;(with_reducible refine (HT.out _).mono ?_);rintro e w2 ⟨rfl,hx2⟩;have hc16:=hlast.out _ _ (hb1.ext hx2);have hc16b:=hlast.out _ _ ((hb1.ext hx2).alloc (.map #[] 0))))
 have hb2:=hb1.ext hx2;have hxm:=hx1.trans hx2;have hgm:=hxm.size;have hne:=hb2.lt;clear hmm hb1 hx1 hx2 hc16 hc16b
 go_loopw [6,30] (fun tw i wr=> ∃ (k:Nat) (tb:Bool),k≤xs.length∧i=.int .i64 (k:Int)∧tw=.bool tb∧tb=(!decide (xs.take k).Nodup)∧(∀ z∈xs.take k,0≤z∧z≤255)∧zEV Tryz.prog 3 wr w2.heap.size k (zDv (xs.take k))∧Blk wr g 42 tv∧Ext w wr) (fun _ i _=>xs.length-(intOf i).toNat)
 case atStart=>exact⟨0,false,by omega,rfl,rfl,by simp,by simp,MapG.made _,hb2.alloc _,hxm.alloc _⟩
 case round =>
  clear hb2 hxm;obtain⟨k,tb,hk,rfl,rfl,htb,hin,hm,hb,hx⟩:=hrel;have HTB:=zA htb;have HIN:=zA hin;clear htb hin
  by_cases hlt:k<xs.length
  ·obtain⟨ad,u,rfl, -,hxk,hcell⟩:=(hs.ext hx).at1 hlt;obtain⟨hkl,rfl⟩:=zBn _ _ _ hxk;clear hxk
   cases hq:inB xs[k] 0 255 with
   | true =>
     obtain⟨q1,q2⟩:=jS.1 hq;have h0':decide (xs[k]<0)=false:=by simpa using q1
     have h1':decide (256≤xs[k])=false:=by simp;omega
     have HN:=zA (zEq HIN.out hkl ⟨q1,q2⟩);have HND:=zA (zLf hkl);have HU:=zA (seenF_upd xs k hkl);have HO:=zA (zQz xs k hkl);have HLK:=zA (zSX (xs.take k) xs[k]);have hkey:=zA (zBo (P:=Tryz.prog) Tryz.underlying3 (a:=xs[k]) (by omega) (by omega));generalize xs[k]=x at *;clear hq
     cases tb with
     | true =>
       go_wp2_with (at_mapUpdate;refine zBk (by rfl) _ _ _ 196 4 rfl zDE Tryz.underlying196 rfl hm (by omega) _ rfl _ rfl x hkey.out (zDv (xs.take (k+1))) HU.out (fun j _ hj=>HO.out j (fun e=>hj (by rw[e]))) (fun j _ hj=>by injection hj) ?_;intro w7 hm7 hg7)
       go_roundw
       case rel =>
        exact⟨k+1,true,by omega,by go_num,rfl,by have h1:=HTB.out;have h2:=HND.out;simp at h1 ⊢;rw[h2];simp[h1],HN.out,hm7,hb.grown hg7 (by simp;omega),zHv hx hg7 (by omega)⟩
       case measure=>simp[intOf];omega
     | false =>
       go_wp2_with (first
        | (at_lookup;refine zAh (by rfl) _ _ 196 4 rfl zDE Tryz.underlying196 _ (zero_bool _) rfl hm _ rfl x trivial hkey.out _ HLK.out ?_)
        | (at_mapUpdate;refine zBk (by rfl) _ _ _ 196 4 rfl zDE Tryz.underlying196 rfl hm (by omega) _ rfl _ rfl x hkey.out (zDv (xs.take (k+1))) HU.out (fun j _ hj=>HO.out j (fun e=>hj (by rw[e]))) (fun j _ hj=>by injection hj) ?_;intro w7 hm7 hg7))
       go_roundw
       case rel =>
        exact⟨k+1,decide (x∈xs.take k),by omega,by go_num,rfl,by have h1:=HTB.out;have h2:=HND.out;simp at h1;by_cases hm:x∈xs.take k<;>simp[h2,h1,hm],HN.out,hm7,hb.grown hg7 (by simp;omega),zHv hx hg7 (by omega)⟩
       case measure=>simp[intOf];omega
   | false =>
     have HF:=zA (HZ1.out (zKn hkl hq));rcases Int.lt_or_le xs[k] 0 with h0 | h0
     ·have h0':decide (xs[k]<0)=true:=by simpa using h0
      clear hq;go_wp2_with fail;go_ret;exact⟨by rw[HF.out];rfl,hx⟩
     ·have h0':decide (xs[k]<0)=false:=by simpa using h0
      have h1':decide (256≤xs[k])=true:=by have:=zAI.1 hq;simp;omega
      clear hq;go_wp2_with fail;go_ret;exact⟨by rw[HF.out];rfl,hx⟩
  ·have hkx:k=xs.length:=by omega
   have e1:xs.take k=xs:=wC4 (by omega);rw[e1] at HTB HIN;have HA:=zA (yD.2 HIN.out);clear e1 hm;go_wp2_with (refine wpList_load_mid rfl 40 (.tmp 49) rfl g 0 rfl (ints cs) _ (HRG.out _ _ hb) Tryz.underlying40 rfl (by rw[hcl.out];exact zLq) ?_)
   go_loop [9,51] (fun nx i=> ∃ k:Nat,k≤16∧i=.int .i64 (k:Int)∧nx=.int .i64 (vD cs k:Nat)∧vD cs k+1≤2 ^ k∧(∀ j,j<k→vD cs (j+1)+1≤2 ^ (j+1))∧(0<k→tb=false)) (fun _ i=>16-(intOf i).toNat)
   case atStart=>exact⟨0,by omega,rfl,rfl,by simp[vD],by intro j hj;omega,by omega⟩
   case round =>
    obtain⟨k,hk,rfl,rfl,hnx,hall,htw⟩:=hrel;have HALL:=zA hall;have HTW:=zA htw;clear hall htw
    by_cases hlt2:k<16
    ·have hkl:k<cs.length:=by have:=HL.out;omega
     have hix:=HIX.out k hkl hlt2;obtain⟨q1,q2⟩:=HAL.out _ (wE2 hkl);obtain⟨n,hn⟩: ∃ n:Nat,cs[k]=(n:Int):=⟨cs[k].toNat,by omega⟩
     have HNW:=zA (zLT cs k n hkl hn);have HNO:=zA (fun h=>okW_no (cs:=cs) hlt2 h);rw[hn] at hix q1 q2;have hp:(2:Nat) ^ k≤65536:=by have:=wI4 (n:=2) (by omega) (show k≤16 by omega);simpa using this
     have HP:Hid (2 ^ (k+1)=2*2 ^ k):=zA (by rw[wL6];omega);rw[HNW.out,HP.out] at HNO;have hp1:(1:Int)≤2 ^ (k+1):=zAx (k+1);have hp2:(2:Int) ^ (k+1)≤131072:=by have:=zEQ (k+1) 17 (by omega);simpa using this
     have HPI:Hid ((2:Int) ^ (k+1)=((2*2 ^ k:Nat):Int)):=zA (by rw[←HP.out];simp);clear hn
     cases tb with
     | true =>
       have HF:=zA (HZ2.out HA.out (by have:=HTB.out;simpa using this));go_wp2_with fail;go_ret;exact⟨by rw[HF.out];rfl,hx⟩
     | false =>
       generalize vD cs k=N at *
       by_cases hbad:2*N+n+1≤2*2 ^ k
       ·have hd:decide ((2:Int) ^ (k+1)-1<(N:Int)*2+(n:Int))=false:=by have:=HPI.out;simp;omega
        go_wp2_with fail;go_round
        case rel =>
         refine⟨k+1,by omega,by go_num,by rw[HNW.out];congr 1;omega,by rw[HNW.out,HP.out];omega, ?_,by simp⟩;intro i hi
         by_cases hik:i=k
         ·subst hik;rw[HNW.out,HP.out];omega
         ·exact HALL.out i (by omega)
        case measure=>simp[intOf];omega
       ·have hd:decide ((2:Int) ^ (k+1)-1<(N:Int)*2+(n:Int))=true:=by have:=HPI.out;simp;omega
        have HF:=zA (HZ3.out HA.out (by have:=HTB.out;simpa using this));have HNO':=zA (HNO.out (by omega));go_wp2_with fail;go_ret;exact⟨by rw[HF.out,HNO'.out];rfl,hx⟩
    ·obtain rfl:k=16:=by omega
     obtain rfl:=HTW.out (by omega);have HF:=zA (HZ3.out HA.out (by have:=HTB.out;simpa using this));have HOK:=zA (okW_yes HALL.out);go_wp2_with fail;go_ret;exact⟨by rw[HF.out,HOK.out];rfl,hx⟩
def zAs (cs xs:List Int) (sl:Value) (w:World) (hl:cs.length=16) (hs:SL w 1 sl xs.length (ints xs)) :
 Calls Tryz.prog 102 #[.agg (yL cs sl)] w fun e w'=>e=.returned (.int .i64 (zT cs xs))∧Ext w w':=by
 cases h:zCm cs xs with
 | true=>exact check_in cs xs sl w hl hs h
 | false=>rw[zMH h];exact check_tot cs xs sl w hl hs h
end
end Go.Proofs.YtkggcjdlpendfaaGreatDoor
