import Derived.ProofKit
import Derived.OpenShut
import Derived.ChangeSlices
import Derived.Deep.SlicePairs
import Derived.Laws.BitsAllLaws
import Derived.Maps.OwnSet
import Derived.BigQuiet
import Derived.Maps.AppendAt
import Derived.Outline
import Derived.Test.YtkggcjdlpendfaaGreatDoorMTopHurtUptoCard1
set_option linter.all false
set_option maxRecDepth 20000
set_option maxHeartbeats 8000000
namespace Go.Proofs.YtkggcjdlpendfaaGreatDoor
open Go.RowKit Tryz
def qD (n:Nat):Nat→List Bool
 | 0=>[]
 | k+1=>(n/2 ^ k%2 ==1)::qD n k
def yK:List Bool→Nat
 | []=>0
 | b::l=>b.toNat*2 ^ l.length+yK l
def qH (n k:Nat):(qD n k).length=k:=by
 induction k with
 | zero=>rfl
 | succ k ih=>simp[qD,ih]
def zBs (l:List Bool):yK l<2 ^ l.length:=by
 induction l with
 | nil=>simp[yK]
 | cons b l ih =>
   simp only[yK,wA8,wE0];cases b<;>simp<;>omega
def zEh (a b:List Bool):yK (a++b)=yK a*2 ^ b.length+yK b:=by
 induction a with
 | nil=>simp[yK]
 | cons x a ih =>
   simp only[wE1,yK,wE2,ih,Nat.pow_add,wE3,wE4];omega
def numB_digs (n k:Nat):yK (qD n k)=n%2 ^ k:=by
 induction k with
 | zero=>simp[qD,yK,Nat.mod_one]
 | succ k ih =>
   simp only[qD,yK,qH,ih]
   have e:(n/2 ^ k%2 ==1).toNat=n/2 ^ k%2:=by
    rcases (show n/2 ^ k%2=0∨n/2 ^ k%2=1 by omega) with h | h<;>simp[h]
   rw[e,wE0,Nat.mod_mul,wE5];omega
def zBF {n k:Nat} (h:n<2 ^ k):yK (qD n k)=n:=by rw[numB_digs,wE6 h]
def zLc {a b:List Bool} (hl:a.length=b.length) (h:yK a=yK b):a=b:=by
 induction a generalizing b with
 | nil=>cases b with | nil=>rfl | cons _ _=>simp at hl
 | cons x a ih =>
   cases b with
   | nil=>simp at hl
   | cons y b =>
     have hl':a.length=b.length:=by simpa using hl
     simp only[yK,hl'] at h;have h1:=zBs a;have h2:=zBs b;rw[hl'] at h1
     have hxy:x=y:=by
      cases x<;>cases y<;>simp at h ⊢ <;>omega
     subst hxy;rw[ih hl' (by omega)]
def digs_numB (l:List Bool):qD (yK l) l.length=l:=zLc (qH _ _) (zBF (zBs l))
def zPN (l:List Bool) (k:Nat):yK (l.drop k)=yK l%2 ^ (l.length-k):=by have h:=zEh (l.take k) (l.drop k);rw[wE7] at h;have h2:=zBs (l.drop k);rw[wE8] at h h2;rw[h,wE5,Nat.mul_add_mod,wE6 h2]
def zPp (l:List Bool) (k:Nat):yK (l.take k)=yK l/2 ^ (l.length-k):=by have h:=zEh (l.take k) (l.drop k);rw[wE7] at h;have h2:=zBs (l.drop k);rw[wE8] at h h2;rw[h,wE5,Nat.mul_add_div (wE9 _),wF0 h2,Nat.add_zero]
def numB_mid (l:List Bool) (i k:Nat) (h:i+k≤l.length):yK ((l.drop i).take k)=yK l/2 ^ (l.length-(i+k))%2 ^ k:=by
 have e:(l.drop i).take k=(l.take (i+k)).drop i:=by rw[List.drop_take];congr 1;omega
 rw[e,zPN,zPp l,wF1];congr 2
 omega
def numB_snoc (l:List Bool) (b:Bool):yK (l++[b])=2*yK l+b.toNat:=by rw[zEh];simp[yK];omega
def qU (l:List Bool):List Nat:=(List.range (l.length/8)).map λi=>yK ((l.drop (8*i)).take 8)
def zAC (l:List Bool):List Bool:=l.drop (8*(l.length/8))
def zCo (l:List Bool):(qU l).length=l.length/8:=by simp[qU]
def zGe (l:List Bool):(zAC l).length=l.length%8:=by simp[zAC];omega
def zLs (l:List Bool):∀x∈qU l,x<256:=by intro x hx;simp only[qU,wD2,wF2] at hx;obtain⟨i,hi,rfl⟩:=hx;have h:=zBs ((l.drop (8*i)).take 8);have h2:((l.drop (8*i)).take 8).length≤8:=List.length_take_le _ _;have:=wF3 (n:=2) (by omega) h2;omega
def zRf (l m:List Bool):qU (l++m)=qU l++qU (zAC l++m):=by
 have e:(l++m).length/8=l.length/8+(zAC l++m).length/8:=by
  rw[wE2,wE2,zGe];omega
 have key:(l++m).drop (8*(l.length/8))=zAC l++m:=by
  rw[wF4 (by omega)];rfl
 unfold qU;rw[e,List.range_add,wF5,wF6];congr 1
 ·apply wF7;intro i hi;have:=wF2.1 hi;rw[wF4 (by omega),wF8 (by rw[wE8];omega)]
 apply wF7;intro i _;simp only[Function.comp];rw[wF9, ←wG0,key]
def zRu (l m:List Bool):zAC (l++m)=zAC (zAC l++m):=by
 have key:(l++m).drop (8*(l.length/8))=zAC l++m:=by
  rw[wF4 (by omega)];rfl
 rw[zAC,zAC, ←key,wG0];congr 1
 rw[wE8];rw[wE2];omega
def vU (l:List Bool):List Bool:=l++List.replicate ((8-l.length%8)%8) true
def zRy (l:List Bool):(vU l).length%8=0:=by simp[vU];omega
def zJT (k:Nat):yK (List.replicate k true)=2 ^ k-1:=by
 induction k with
 | zero=>rfl
 | succ k ih =>
   rw[wG1,yK,ih,wE0];have:=wE9 k;simp;omega
def digs_ones (k:Nat):qD (2 ^ k-1) k=List.replicate k true:=by apply zLc (by simp[qH]);rw[zJT,zBF (by have:=wE9 k;omega)]
def zN (b:List Nat):List Bool:=b.flatMap λx=>qD x 8
def zFS (b:List Nat):(zN b).length=8*b.length:=by
 induction b with
 | nil=>rfl
 | cons x b ih=>simp only[zN,wG2,wE2,qH,wA8] at ih ⊢;omega
def digsOf_at (b:List Nat) (i:Nat) (h2:i<b.length):((zN b).drop (8*i)).take 8=qD b[i] 8:=by
 induction b generalizing i with
 | nil=>simp at h2
 | cons x b ih =>
   have e:zN (x::b)=qD x 8++zN b:=rfl;rw[e]
   cases i with
   | zero=>simp[qH]
   | succ i =>
     rw[List.drop_append,wG3 (by rw[qH];omega),qH,wG4,show 8*(i+1)-8=8*i by omega];have h3:i<b.length:=by simpa using h2
     rw[ih i h3];simp
def zQV (a b:List Nat):zN (a++b)=zN a++zN b:=by simp[zN]
def zRa (l:List Bool) (h:l.length%8=0):zN (qU l)=l:=by
 have key:∀k,k≤l.length/8→zN ((List.range k).map λi=>yK ((l.drop (8*i)).take 8))=l.take (8*k):=by
  intro k
  induction k with
  | zero=>intro _;simp[zN]
  | succ k ih =>
    intro hk;rw[wG5,wF5,zQV,ih (by omega)]
    have e:(l.drop (8*k)).take 8=qD (yK ((l.drop (8*k)).take 8)) 8:=by
     have h1:((l.drop (8*k)).take 8).length=8:=by simp;omega
     have h2:=digs_numB ((l.drop (8*k)).take 8);rw[h1] at h2;exact h2.symm
    simp only[wG6,wG7,zN,wG2,wG8,wG9];rw[←e,show 8*(k+1)=8*k+8 by omega,List.take_add]
 unfold qU;rw[key _ (wA5 _),wC2 (by omega)]
def zHL (l:List Bool) (k:Nat) (h:k<l.length):yK (l.take (k+1))=2*yK (l.take k)+l[k].toNat:=by rw[wC1 h,numB_snoc]
def numB_le (l:List Bool) (n:Nat) (h:l.length≤n):yK l<2 ^ n:=by have h1:=zBs l;have:=wF3 (n:=2) (by omega) h;omega
def zF (l:List Nat):List Value:=l.map λx:Nat=>Value.int .u8 (x:Int)
def vZ (l:List Nat):(zF l).length=l.length:=by simp[zF]
def zLK (l:List Nat) (x:Nat):zF (l++[x])=zF l++[.int .u8 (x:Int)]:=by simp[zF]
section
open Go.RowKit Go.ChangeShapes Go.WideShapes Go.ChangeAt
def zEf (z:Int):Prop:= -9223372036854775808≤z∧z≤9223372036854775807
def zKl {z:Int} (h:(Lit.int .i64 z).wf=true):zEf z:=by simp[Lit.wf,IntKind.min,IntKind.max,IntKind.signed,IntKind.bits] at h;exact⟨by omega,by omega⟩
def zIY {Q:Int→Prop}:∀(cs:List Value),(∀i,i<cs.length→∃z,cs[i]? =some (.int .i64 z)∧Q z)→∃zs:List Int,cs=ints zs∧∀z∈zs,Q z
 | [],_=>⟨[],rfl,by simp⟩
 | c::cs,h=>by
   obtain⟨z,hz,hq⟩:=h 0 (by simp);obtain⟨zs,rfl,hqs⟩:=zIY cs (λi hi=>by have:=h (i+1) (by simpa using hi);simpa using this);refine⟨z::zs, ?_, ?_⟩
   ·simp at hz;subst hz;rfl
   intro y hy
   cases hy with
   | head=>exact hq
   | tail _ hy=>exact hqs y hy
section
variable {H:Type} {enc:TypeId×Value→H} {P:Program} {w:World} {base:Nat} {spare:Nat→Bool} {held:Bool}
def zFE {t:TypeId} {fuel:Nat} {cs:List Value} {x:DataW H×List MemPlace} (ht:P.underlying t=some (.int .i64)) (h:DataW.trod enc P w base spare held fuel t cs=some x) :
 ∃z,cs=[.int .i64 z]∧zEf z:=by obtain⟨z,e,-,hw⟩:=DataW.trod_int ht h;exact⟨z,e,zKl hw⟩
def zQN {n:Nat} {t e:TypeId} {fuel:Nat} {cs:List Value} {x:DataW H×List MemPlace} (ht:P.underlying t=some (.array n e)) (he:P.underlying e=some (.int .i64)) (hce:P.cellsOf e=1) (hct:P.cellsOf t=n)
 (h:DataW.trod enc P w base spare held fuel t cs=some x):∃zs:List Int,zs.length=n∧cs=ints zs∧∀z∈zs,zEf z:=by
 obtain⟨xs,m,-,-,hlen,hxl,hi⟩:=DataW.trod_array ht h;rw[hct] at hlen
 have hcells:∀i,i<cs.length→∃z,cs[i]? =some (.int .i64 z)∧zEf z:=by
  intro i hlt;have h1:=hi i (by omega);rw[hce,wD8] at h1;have hx:xs[i]? =some (xs[i]'(by omega)):=wA2 (by omega);rw[hx] at h1;obtain⟨z,hz,hq⟩:=zFE he h1;refine⟨z, ?_,hq⟩;rw[wH0 hlt] at hz;simp only[wH1,wH2,List.cons.injEq,and_true] at hz;rw[wA2 hlt,hz]
 obtain⟨zs,rfl,hq⟩:=zIY cs hcells;exact⟨zs,by simpa [yI] using hlen,rfl,hq⟩
def zQj {P:Program} {w:World} {r:Reach} {base:Nat} {t e:TypeId} {n:Nat} {v:Value} (ht:P.underlying t=some (.array n e)) (h:Value.okWide P w r base t v):∃cs,v=.agg cs∧cs.size=P.cellsOf t:=by simp only[Value.okWide,ht] at h;obtain⟨cs,h1,h2,_⟩:=h;exact⟨cs,h1,h2⟩
def cells64:prog.cellsOf 33=64:=by kernel_rfl
def zLt:prog.cellsOf 3=1:=by kernel_rfl
def zUD {w:World} {base b0:Nat} {r:Reach} {v:Value} {d:DataW H} {p:List MemPlace} (hv:Value.okWide prog w r b0 33 v) (h:DataW.Trod enc prog w base spare held 33 v d p) :
 ∃zs:List Int,v=.agg (ints zs).toArray∧zs.length=64∧∀z∈zs,zEf z:=by obtain⟨cs,rfl,hsz⟩:=zQj underlying33 hv;obtain⟨fuel,hf⟩:=h;obtain⟨zs,hl,hc,hq⟩:=zQN underlying33 underlying3 zLt cells64 hf;refine⟨zs, ?_,hl,hq⟩;have:cs.toList=ints zs:=hc;rw[←this]
end
end
def yY (cs:List Int) (sl:Value):Array Value:=(ints cs++[sl]).toArray
def zX:(prog.info? 42).map (·.size)=some 17:=by kernel_rfl
def zNc:(prog.info? 40).map (·.size)=some 16:=by kernel_rfl
def zAb (cs:List Int) (sl:Value) (h:cs.length=16):(yY cs sl).size=17:=by simp[yY,yI,h]
def zFT {w:World} {g:Nat} {T:TypeId} {cs:List Int} {sl:Value} (h:Blk w g T (yY cs sl)):w.rangeAt g 0 (ints cs):=by intro j v hv;rw[wB2,h.cell];unfold yY;rw[wH3,wH4 (wB7.1 hv).1];exact hv
def zEw {w:World} {g:Nat} {T:TypeId} {cs:List Int} {sl:Value} (h:Blk w g T (yY cs sl)) (hl:cs.length=16):w.cell? ⟨g,16,none⟩=some sl:=by rw[h.cell];simp[yY,yI,hl]
def zGo (cs:Array Value) (i:Nat) (u:Value) (hi:i<16) (hu:cs[i]? =some u) (w:World):(Instr.index 40 (.agg cs) (.int .i64 (i:Int))).run prog w=.ok u w :=
 zCb _ _ 16 cs i u underlying40 _ underlying3 zKO hi hu w
def zAx (cs:List Int) (k:Nat):Int:=(cs.take k).sum
def zJH (cs:List Int) (k:Nat) (h:k<cs.length):zAx cs (k+1)=zAx cs k+cs[k]:=by unfold zAx;rw[wC1 h,wH5];simp
def zBw (cs:List Int):Int×Bool:=if zR cs 0 256 then (zAx cs 16,decide (zAx cs 16≤256)) else (0,false)
def zOf (cs:List Int) (sl:Value) (w:World) (hl:cs.length=16) :
 Calls prog 151 #[.agg (yY cs sl)] w λe w'=>e=.returned (.tuple #[.int .i64 (zBw cs).1,.bool (zBw cs).2])∧Ext w w':=by
 have HL:=zA hl;have HRG:=zA (λW g (h:Blk W g 42 (yY cs sl))=>zFT h);have hcl:=zA ((yI cs).trans hl);have HIX:=zA (λk (hk:k<cs.length) (h16:k<16)=>λW=>zGo (bv cs) k (.int .i64 cs[k]) h16 (jQ cs k hk) W);generalize yY cs sl=tv at *;have hbv:(ints cs).toArray=bv cs:=rfl;go_enter func151,ntmps151
 go_wp2_with (first
  | (refine wBox rfl 42 (.tmp 0) rfl tv rfl ?_;intro w1 g hb1 hx1 hg)
  | (refine wpList_load_mid rfl 40 (.tmp 7) rfl g 0 rfl (ints cs) _ (HRG.out _ _ hb1) underlying40 rfl (by rw[hcl.out];exact zNc) ?_))
 go_loop [4,9] (λv i=>∃k:Nat,k≤16∧i=.int .i64 (k:Int)∧v=.int .i64 (zAx cs k)∧(∀z∈cs.take k,0≤z∧z≤256)∧0≤zAx cs k∧zAx cs k≤256*k) (λ_ i=>16-(intOf i).toNat)
 case atStart=>exact⟨0,by omega,rfl,rfl,by simp,by simp[zAx],by simp[zAx]⟩
 case round =>
  obtain⟨k,hk,rfl,rfl,hin,s1,s2⟩:=hrel
  by_cases hlt:k<16
  ·have hkl:k<cs.length:=by have:=HL.out;omega
   have hix:=HIX.out k hkl hlt;have HS:=zA (zJH cs k hkl);have HIN:=zA hin;clear hin
   cases hq:inB cs[k] 0 256 with
   | true =>
     obtain⟨q1,q2⟩:=uJ.1 hq;have HN:=zA (zHW HIN.out hkl ⟨q1,q2⟩);generalize zAx cs k=s at *;go_wp2_with fail;go_round
     case rel=>exact⟨k+1,by omega,by go_num,by rw[HS.out],HN.out,by rw[HS.out];omega,by rw[HS.out];omega⟩
     case measure=>simp[intOf];omega
   | false =>
     have HF:=zA (show zBw cs=(0,false) by unfold zBw;rw[zRs hkl hq];rfl);rcases Int.lt_or_le cs[k] 0 with h0 | h0
     ·have h0':decide (cs[k]<0)=true:=by simpa using h0
      clear hq;go_wp2_with fail;go_ret2;exact⟨by rw[HF.out];rfl,hx1⟩
     have h0':decide (cs[k]<0)=false:=by simpa using h0
     have h1':decide (256<cs[k])=true:=by have:=zCe.1 hq;simp;omega
     clear hq;go_wp2_with fail;go_ret2;exact⟨by rw[HF.out];rfl,hx1⟩
  have ek:k=16:=by omega
  have HF:=zA (show zBw cs=(zAx cs 16,decide (zAx cs 16≤256)) by
   unfold zBw;rw[yJ.2 (λz hz=>hin z (by rwa [wC2 (by have:=HL.out;omega)]))]
   rfl)
  rw[ek];rw[ek] at s1 s2;clear hin ek hk hlt;go_wp2_with fail;go_ret2;exact⟨by rw[HF.out];rfl,hx1⟩
section
open Go.RowKit Go.ChangeShapes Go.WideShapes Go.ChangeAt
section
variable {H:Type} {enc:TypeId×Value→H} {w:World} {base:Nat} {spare:Nat→Bool} {held:Bool}
def zVC {fuel:Nat} {cs:List Value} {x:DataW H×List MemPlace} (h:DataW.trod enc prog w base spare held fuel 22 cs=some x) :
 ∃(zs:List Int) (v:Value),cs=[v]∧SL w 1 v zs.length (ints zs)∧∀z∈zs,zEf z:=by
 rcases open_ints underlying22 underlying3 zLt h with ⟨rfl,-⟩ | ⟨a,len,cap,zs,rfl,-,hlc,hcm,hzl,-,hcell,hwf⟩
 ·exact⟨[],_,rfl,SL.nil w 1,by simp⟩
 have hlen:len≤zs.length:=by rw[hzl];split<;>omega
 refine⟨zs.take len,_,rfl, ?_,λz hz=>zKl (hwf z (wH6 hz))⟩;have hl:(zs.take len).length=len:=by rw[wF1];omega
 rw[hl];refine⟨some a,cap,rfl,hlc,by unfold maxLen at hcm;omega,by rw[yI,hl];omega,λh0=>⟨a,rfl, ?_,λj u hu=> ?_⟩⟩
 ·have:=hcell 0 (by omega);have h2:=World.block_lt_of_cell? w _ this
  rwa [yH] at h2
 obtain⟨hj,rfl⟩:=zCB _ _ _ hu;have hj2:j<len:=by omega
 rw[hcell j (by omega)];simp[wH7,show j<zs.length by omega]
def cellsSl:prog.cellsOf 22=1:=by kernel_rfl
end
end
section
open Go.RowKit Go.ChangeShapes Go.WideShapes Go.ChangeAt
section
variable {H:Type} {enc:TypeId×Value→H} {w:World} {base:Nat} {spare:Nat→Bool} {held:Bool}
def zEk {P:Program} {r:Reach} {b0:Nat} {t e:TypeId} {v:Value} {u:Value} (ht:P.underlying t=some (.slice e)) (hv:Value.okWide P w r b0 t v) (hc:v.cells.toList=[u]) (hu:∀cs,u≠.agg cs):v=u:=by
 cases v with
 | agg cs =>
   simp[Value.okWide,ht,Cell.okWide,Cell.ok] at hv
 | _=>simpa [Value.cells] using hc
def bytes_of (zs:List Int) (h:∀n∈zs,(Lit.int .u8 n).wf=true):∃bs:List Nat,zs.map (Value.int .u8)=zF bs∧∀b∈bs,b<256:=by
 refine⟨zs.map Int.toNat, ?_, ?_⟩
 ·unfold zF;rw[wF6];apply wF7;intro z hz;have:=h z hz;simp[Lit.wf,IntKind.min,IntKind.max,IntKind.signed,IntKind.bits] at this;simp;omega
 intro b hb;obtain⟨z,hz,rfl⟩:=wD2.1 hb;have:=h z hz;simp[Lit.wf,IntKind.min,IntKind.max,IntKind.signed,IntKind.bits] at this;omega
def zSR {b0:Nat} {r:Reach} {v:Value} {d:DataW H} {p:List MemPlace} (hv:Value.okWide prog w r b0 45 v) (h:DataW.Trod enc prog w base spare held 45 v d p) :
 ∃bs:List Nat,SL w 1 v bs.length (zF bs)∧∀b∈bs,b<256:=by
 obtain⟨fuel,hf⟩:=h;rcases open_ints underlying45 underlying5 (by kernel_rfl) hf with ⟨hcs,-⟩ | ⟨a,len,cap,zs,hcs,-,hlc,hcm,hzl,-,hcell,hwf⟩
 ·obtain rfl:=zEk underlying45 hv hcs (by simp);exact⟨[],SL.nil w 1,by simp⟩
 obtain rfl:=zEk underlying45 hv hcs (by simp);have hlen:len≤zs.length:=by rw[hzl];split<;>omega
 obtain⟨bs,hbs,hlt⟩:=bytes_of (zs.take len) (λn hn=>hwf n (wH6 hn))
 have hl:bs.length=len:=by
  have:=congrArg List.length hbs;simp[zF] at this;omega
 refine⟨bs, ?_,hlt⟩;rw[hl];refine⟨some a,cap,rfl,hlc,by unfold maxLen at hcm;omega,by rw[vZ,hl];omega,λh0=>⟨a,rfl, ?_,λj u hu=> ?_⟩⟩
 ·have:=hcell 0 (by omega);have h2:=World.block_lt_of_cell? w _ this
  rwa [yH] at h2
 rw[←hbs,wB9] at hu;obtain⟨z,hz,rfl⟩:=wC0.1 hu;have hj:j<len:=by have:=(wB7.1 hz).1;simp at this;omega
 rw[wB8 hj] at hz;rw[hcell j (by omega)];simp[wH7,hz]
end
end
def zRo (n:Nat):∀(k j:Nat) (h:j<(qD n k).length),((qD n k)[j]).toNat=n/2 ^ (k-1-j)%2
 | 0,j,h=>by simp[qD] at h
 | k+1,0,_=>by
   simp only[qD,List.getElem_cons_zero,wH8,Nat.sub_zero];rcases (show n/2 ^ k%2=0∨n/2 ^ k%2=1 by omega) with h | h<;>simp[h]
 | k+1,j+1,h=>by
   have:=zRo n k j (by simpa [qD] using h);simp only[qD,List.getElem_cons_succ];rw[this];congr 3
   omega
def zUT (b:List Nat) (p:Nat) (h:p<(zN b).length) (h2:p/8<b.length):((zN b)[p]).toNat=b[p/8]/2 ^ (7-p%8)%2:=by
 have e:=digsOf_at b (p/8) h2;have hl:p%8<(qD b[p/8] 8).length:=by rw[qH];omega
 have e2:(zN b)[p]=(qD b[p/8] 8)[p%8]:=by
  have h3:(((zN b).drop (8*(p/8))).take 8)[p%8]? =(zN b)[p]? :=by
   rw[wB8 (by omega),wB4];congr 1
   omega
  rw[e,wA2 hl,wA2 h] at h3;exact (wU4 h3).symm
 rw[e2,zRo]
def numB_next (b:List Nat) (at' i:Nat) (h:at'+i<(zN b).length) (h2:(at'+i)/8<b.length) :
 yK (((zN b).drop at').take (i+1))=2*yK (((zN b).drop at').take i)+b[(at'+i)/8]/2 ^ (7-(at'+i)%8)%2:=by
 rw[zHL _ _ (by simp;omega)];congr 1
 rw[←zUT b (at'+i) h h2];congr 1
 simp
def zEG (l:List Bool) (i k:Nat) (h:i≤k):yK (l.take i)<2 ^ k:=numB_le _ _ (by rw[wF1];omega)
section
variable {o:Oper} {a:Act} {P:Program}
def zJA {x:Operand} (ho:o.op=.nilCheck x) {p:Addr} (hx:a.eval x=.pointer (some p)) (w:World):(execOp a.eval o).run P w=.ok (.value (.pointer (some p))) w:=by simp[execOp,ho,hx]
def zBz {op:BinOp} {t:TypeId} {x y:Operand} {t2:TypeId} (ho:o.op=.binOp op t x y t2) {k k':IntKind} {m n:Int} (hx:a.eval x=.int k m) (hy:a.eval y=.int k' n) {v:Value}
 (hr:∀w,(binOp op t (.int k m) (.int k' n)).run P w=.ok v w) (w:World):(execOp a.eval o).run P w=.ok (.value v) w:=by simp[execOp,ho,hx,hy,guardG,hr]
end
def zLE (m:Nat) (h:m<1099511627776) (W:World):(binOp .shl 3 (.int .i64 (m:Int)) (.int .u64 1)).run prog W=.ok (.int .i64 ((2*m:Nat):Int)) W:=by
 have e:IntKind.i64.wrap ((m:Int)*2 ^ (min 1 IntKind.i64.bits))=((2*m:Nat):Int):=by
  rw[show min 1 IntKind.i64.bits=1 by decide,IntWalk.i64_in _ (by omega)];omega
 have e3:(2*(m:Int))=((2*m:Nat):Int):=by omega
 simp[binOp,Op.shift,e]
def run_shr8 (x s:Nat) (hx:x<256) (hs:s<8) (W:World):(binOp .shr 5 (.int .u8 (x:Int)) (.int .i64 (s:Int))).run prog W=.ok (.int .u8 ((x/2 ^ s:Nat):Int)) W:=by
 have e2:¬((s:Int)<0):=by omega
 have hs':s=0∨s=1∨s=2∨s=3∨s=4∨s=5∨s=6∨s=7:=by omega
 rcases hs' with rfl | rfl | rfl | rfl | rfl | rfl | rfl | rfl<;>simp[binOp,Op.shift]
def run_and8 (y:Nat) (h:y<256) (W:World):(binOp .and 5 (.int .u8 (y:Int)) (.int .u8 1)).run prog W=.ok (.int .u8 ((y%2:Nat):Int)) W:=by
 have e:bits .and .u8 (y:Int) 1=((y%2:Nat):Int):=by
  have:∀y:Fin 256,bits .and .u8 ((y.val:Nat):Int) 1=((y.val%2:Nat):Int):=by decide+kernel
  exact this ⟨y,h⟩
 simp[binOp,intBits_and,e]
def run_or2 (m b:Nat) (h:m<1099511627776) (hb:b<2) (W:World):(binOp .or 3 (.int .i64 ((2*m:Nat):Int)) (.int .i64 (b:Int))).run prog W=.ok (.int .i64 ((2*m+b:Nat):Int)) W:=by
 have e:bits .or .i64 ((2*m:Nat):Int) (b:Int)=((2*m+b:Nat):Int):=by
  have hx:2*m |||b=2*m+b:=nat_join1 _ _ (by omega) hb
  show IntKind.i64.wrap ((BitVec.ofInt 64 ((2*m:Nat):Int) |||BitVec.ofInt 64 (b:Int)).toNat:Int)=_
  rw[BitVec.toNat_or,BitVec.ofInt_natCast,BitVec.ofInt_natCast,BitVec.toNat_ofNat,BitVec.toNat_ofNat,wE6 (by omega),wE6 (by omega),hx];exact IntWalk.i64_in _ (by omega)
 have e2:binOp .or 3 (.int .i64 ((2*m:Nat):Int)) (.int .i64 (b:Int))=pure (.int .i64 (bits .or .i64 ((2*m:Nat):Int) (b:Int))):=by rw[binOp_or,intBits_or]
 rw[e2,e];rfl
def zKc:(prog.info? 5).map (·.size)=some 1:=by kernel_rfl
section
open Go.RowKit Go.Maps
def VR (v:Value):Option (DataW Value×List MemPlace):=some (.held v,[])
def MapG {ι:Type} (P:Program) (k:TypeId) (kl:ι→Lit) (ok:ι→Prop) (w:World) (b n:Nat) (g:ι→Option Value):Prop :=
 ∃D:DataW Value,w.ownsMap P k VR b n D∧IsMap D∧∀i,ok i→Maps.has D (kl i)=(g i).isSome∧∀z,D.atKey (kl i) (.held z)=.held ((g i).getD z)
section
variable {ι:Type} {P:Program} {k:TypeId} {kl:ι→Lit} {ok:ι→Prop} {w w':World} {b n:Nat} {g:ι→Option Value}
def MapG.made (w:World):MapG P k kl ok (w.alloc (.map #[] 0)) w.heap.size 0 (λ_=>none) :=
 ⟨.map [],World.ownsMap_made _ _ _ _,isMap_empty,λ_ _=>⟨rfl,λ_=>rfl⟩⟩
def MapG.lt (h:MapG P k kl ok w b n g):b<w.heap.size:=by obtain⟨D,h1,-⟩:=h;exact h1.lt
def MapG.alloc (h:MapG P k kl ok w b n g) (o:Obj):MapG P k kl ok (w.alloc o) b n g:=by obtain⟨D,h1,h2⟩:=h;exact⟨D,h1.alloc o,h2⟩
def MapG.ext (h:MapG P k kl ok w b n g) (hx:Ext w w'):MapG P k kl ok w' b n g:=by obtain⟨D,⟨es,clock,hb,r⟩,h2⟩:=h;refine⟨D,⟨es,clock,(hx.block b ?_).trans hb,r⟩,h2⟩;exact World.ownsMap.lt (R:=VR) ⟨es,clock,hb,r⟩
def MapG.grown {row:Option Nat} (h:MapG P k kl ok w b n g) (hg:w.grownBy w' row) (hne:some b≠row):MapG P k kl ok w' b n g:=by obtain⟨D,h1,h2⟩:=h;exact⟨D,h1.kept hg hne,h2⟩
def MapG.below {B:Nat} (h:MapG P k kl ok w b n g) (hx:Below B w w') (hb:b<B):MapG P k kl ok w' b n g:=by obtain⟨D,⟨es,clock,h3,r⟩,h2⟩:=h;exact⟨D,⟨es,clock,(hx.block b hb).trans h3,r⟩,h2⟩
def MapG.setCell (h:MapG P k kl ok w b n g) {a:Addr} (ha:b≠a.block) (u:Value):MapG P k kl ok (w.setCell a u) b n g:=by obtain⟨D,h1,h2⟩:=h;exact⟨D,h1.setCell ha u,h2⟩
variable {ops:Array Oper} {rest:List Oper} {o:Oper} {a:Act} {Q:Exit→Act→World→Prop}
def zDV (hw:Region.wanted o (yielded ops a.tmps)=true) (m x:Operand) (t e:TypeId) (hop:o.op=Op.lookup t m x false) (K:Keyed P k) (ht:P.underlying t=some (.map k e))
 (z:Value) (hz:(zeroValue e).run P w=.ok z w) (hm:a.eval m=.map (some b)) (h:MapG P k kl ok w b n g) (key:Value) (hx:a.eval x=key)
 (i:ι) (hi:ok i) (hk:keyOf P k key=some (kl i)) (u:Value) (hu:(g i).getD z=u) (hK:wpList P ops Q rest (a.put o.dst u) w):wpList P ops Q (o::rest) a w:=by
 refine uS hw λK' hK'=> ?_
 obtain⟨D,h1,-,h2⟩:=h;obtain⟨v,ps,hrun,hv⟩:=h1.lookup K ht hz (zd:=.held z) (zp:=[]) rfl hk;rw[(h2 i hi).2 z,hu] at hv;have:v=u:=by unfold VR at hv;injection hv with hv;injection hv with hv _;injection hv
 subst this;unfold Oper.wp;simp[execOp,hop,hm,hx,hrun,Result.andThen];exact hK' _ _ hK
def zCP (hw:Region.wanted o (yielded ops a.tmps)=true) (m x:Operand) (t e:TypeId) (hop:o.op=Op.lookup t m x true) (K:Keyed P k) (ht:P.underlying t=some (.map k e))
 (z:Value) (hz:(zeroValue e).run P w=.ok z w) (hm:a.eval m=.map (some b)) (h:MapG P k kl ok w b n g) (key:Value) (hx:a.eval x=key)
 (i:ι) (hi:ok i) (hk:keyOf P k key=some (kl i)) (u:Value) (hu:(g i).getD z=u) (c:Bool) (hc:(g i).isSome=c) (hK:wpList P ops Q rest (a.put o.dst (.tuple #[u,.bool c])) w):wpList P ops Q (o::rest) a w:=by
 refine uS hw λK' hK'=> ?_
 obtain⟨D,h1,-,h2⟩:=h;obtain⟨v,ps,hrun,hv⟩:=h1.look_ok K ht hz (zd:=.held z) (zp:=[]) rfl hk;rw[(h2 i hi).2 z,hu] at hv;rw[(h2 i hi).1,hc] at hrun;have:v=u:=by unfold VR at hv;injection hv with hv;injection hv with hv _;injection hv
 subst this;unfold Oper.wp;simp[execOp,hop,hm,hx,hrun,Result.andThen];exact hK' _ _ hK
def zCs (hw:Region.wanted o (yielded ops a.tmps)=true) (m x y:Operand) (t e:TypeId) (hop:o.op=Op.mapUpdate t m x y) (K:Keyed P k) (ht:P.underlying t=some (.map k e))
 (hm:a.eval m=.map (some b)) (h:MapG P k kl ok w b n g) (hn:n<9223372036854775807) (key:Value) (hx:a.eval x=key) (v:Value) (hy:a.eval y=v)
 (i:ι) (hk:keyOf P k key=some (kl i)) (g':ι→Option Value) (h1:g' i=some v) (h2:∀j,ok j→kl j≠kl i→g' j=g j) (h3:∀j,ok j→kl j=kl i→j=i)
 (hK:∀w',MapG P k kl ok w' b (n+1) g'→w.grownBy w' (some b)→wpList P ops Q rest (a.put o.dst undef) w'):wpList P ops Q (o::rest) a w:=by
 refine uS hw λK' hK'=> ?_
 obtain⟨D,d1,d3,d2⟩:=h;obtain⟨w',hrun,r1,r2⟩:=d1.update K ht (by unfold maxLen;omega) hk (val:=v) (d:=.held v) (ps:=[]) rfl;unfold Oper.wp;simp[execOp,hop,hm,hx,hy,hrun,Result.andThen];refine hK' _ _ (hK w' ⟨_,r1,d3.put _ _,λj hj=> ?_⟩ r2)
 by_cases e1:kl j=kl i
 ·obtain rfl:=h3 j hj e1;rw[has_put_same d3 (K.key hk),h1];exact⟨rfl,λz=>atKey_put_same d3 (K.key hk) _ _⟩
 rw[has_put_other e1,h2 j hj e1];exact⟨(d2 j hj).1,λz=>by rw[atKey_put_other e1];exact (d2 j hj).2 z⟩
end
abbrev MapI (P:Program) (k:TypeId) (w:World) (b n:Nat) (g:Int→Option Value):Prop:=MapG P k (λx:Int=>Lit.int .i64 x) (λ_=>True) w b n g
def zDq {P:Program} {k:TypeId} (hk:P.underlying k=some (.int .i64)) {a:Int} (h0: -9223372036854775808≤a) (h1:a≤9223372036854775807):keyOf P k (.int .i64 a)=some (.int .i64 a) :=
 keyOf_int_mk hk (WalkArith.wf_i64 ⟨by omega,by omega⟩)
def zIX {a w w':World} (h:Ext a w) {g:Nat} (hg:w.grownBy w' (some g)) (hB:a.heap.size≤g):Ext a w':=h.grown hg hB
end
abbrev Tok:=Int×Int×Int
def qN (t:Tok):List Value:=[.int .i64 t.1,.int .i64 t.2.1,.int .i64 t.2.2]
def qW (T:List Tok):List Value:=T.flatMap qN
def zLW (T:List Tok):(qW T).length=T.length*3:=by
 induction T with
 | nil=>rfl
 | cons t T ih=>simp only[qW,wG2,wE2] at ih ⊢;rw[ih];simp[qN];omega
def toks_at (T:List Tok) (k:Nat) (h:k<T.length) :
 (qW T)[k*3]? =some (.int .i64 T[k].1)∧(qW T)[k*3+1]? =some (.int .i64 T[k].2.1)∧(qW T)[k*3+2]? =some (.int .i64 T[k].2.2):=by
 induction T generalizing k with
 | nil=>simp at h
 | cons t T ih =>
   have e:qW (t::T)=qN t++qW T:=by simp[qW]
   rw[e]
   cases k with
   | zero=>simp[qN]
   | succ k =>
     have h2:k<T.length:=by simpa using h
     obtain⟨a,b,c⟩:=ih k h2;refine⟨?_, ?_, ?_⟩
     ·rw[wH9 (by simp[qN];omega),show (k+1)*3-(qN t).length=k*3 by simp[qN];omega,a];simp
     ·rw[wH9 (by simp[qN];omega),show (k+1)*3+1-(qN t).length=k*3+1 by simp[qN];omega,b];simp
     rw[wH9 (by simp[qN];omega),show (k+1)*3+2-(qN t).length=k*3+2 by simp[qN];omega,c];simp
def zPU (ad:Addr) (i j:Nat) (hj:0<j):(⟨(ad.add i).block,(ad.add i).off+j,none⟩:Addr)=ad.add (i+j):=by
 unfold Addr.add;rw[if_neg (show ¬i+j=0 by omega)];split
 ·next h=>subst h;simp
 simp;omega
def SL.tok {w:World} {A:Option Addr} {n c:Nat} {T:List Tok} {k:Nat} (h:SL w 3 (.slice A n c) n (qW T)) (hk:k<n) (hn:T.length=n) (hkl:k<T.length) :
 ∃ad,A=some ad∧ad.block<w.heap.size∧w.cell? (ad.add (k*3))=some (.int .i64 T[k].1)∧w.cell? ⟨(ad.add (k*3)).block,(ad.add (k*3)).off+1,none⟩=some (.int .i64 T[k].2.1)∧w.cell? ⟨(ad.add (k*3)).block,(ad.add (k*3)).off+2,none⟩=some (.int .i64 T[k].2.2):=by
 obtain⟨A',c',e,_,_,h2,h3⟩:=h;injection e with e1 e2 e3
 subst e1;obtain⟨ad,ea,hb,hc⟩:=h3 (by omega);obtain⟨a,b,d⟩:=toks_at T k hkl;exact⟨ad,ea,hb,hc _ _ a,by rw[zPU _ _ 1 (by omega)];exact hc _ _ b,by rw[zPU _ _ 2 (by omega)];exact hc _ _ d⟩
section
variable {P:Program} (w:World)
def zKi (base:Nat) (t ty e:TypeId) (i:TypeInfo) (size:Nat) (ht:P.underlying t=some (.slice e)) (hi:P.info? e=some i)
 (v:Value) (n:Nat) (xs:List Value) (hown:w.ownsRow base e size v n xs) (c:Nat):(Builtin.append_ #[t,t] ty #[v,.slice none 0 c]).run P w=.ok v w:=by
 rcases hown.2 with ⟨rfl,rfl⟩ | ⟨g,cap,cur,rfl,_,_,hnc,_⟩
 ·simp[Builtin.append_,run_underlying ht,sizeOf,typeInfo,hi,Builtin.lenOf,Builtin.firstCells]
 simp[Builtin.append_,run_underlying ht,sizeOf,typeInfo,hi,Builtin.lenOf,Builtin.firstCells,hnc,storeCells]
def zQH (base:Nat) (t ty e:TypeId) (i:TypeInfo) (z:Value) (size bytes:Nat) (ht:P.underlying t=some (.slice e)) (hi:P.info? e=some i) (hz:i.zero=some z)
 (hsize:i.size=size) (hby:i.bytes=bytes) (hzs:z.cells.size=size) (hsz:0<size)
 (v:Value) (n:Nat) (xs:List Value) (hown:w.ownsRow base e size v n xs)
 (x:Value) (m:Nat) (news:List Value) (hr:SL w size x m news) (h1:∀u∈news,u.oneCell'=true)
 (h63:n+m≤maxLen) (hbytes:(n+m)*bytes≤140737488355328) (hbase:base≤w.heap.size) :
 ∃v' w',(Builtin.append_ #[t,t] ty #[v,x]).run P w=.ok v' w'∧w'.ownsRow base e size v' (n+m) (xs++news)∧w.grownBy w' v.ownBlock ∧
  (v'.ownBlock=v.ownBlock∨v'.ownBlock=some w.heap.size):=by
 obtain⟨A,c,rfl,-,-,hl,hc⟩:=hr;rcases A with _ | ad
 ·have hm:m=0:=by
   rcases wI0 m with h0 | h0
   ·exact h0
   obtain⟨ad,h,_⟩:=hc h0;cases h
  subst hm;have hn:news=[]:=wI1 (by simpa using hl);subst hn;exact⟨v,w,zKi w base t ty e i size ht hi v n xs hown c,by simpa using hown,World.grownBy.refl w _,.inl rfl⟩
 have hcells:∀j u,news[j]? =some u→w.cell? (ad.add j)=some u:=by
  intro j u hu;rcases wI0 m with h0 | h0
  ·subst h0;have hn:news=[]:=wI1 (by simpa using hl);subst hn;simp at hu
  obtain⟨ad',h,_,hcc⟩:=hc h0;injection h with h
  subst h;exact hcc j u hu
 obtain⟨v',w',hrun,h2,h3,_,h5⟩:=run_append_own_at (P:=P) w base t ty e i z size bytes ht hi hz hsize hby hzs hsz v n xs hown ad m c news hl hcells h1 h63 hbytes hbase;exact⟨v',w',hrun,h2,h3,h5⟩
def zJm {o:Oper} {a:Act} {K:Act→World→Prop} {Q:Exit→Act→World→Prop} (s x:Operand) (t:TypeId)
 (ho:o.op=.call { callee:=.builtin .append,args:= #[s,x],argTypes:= #[t,t] })
 (base:Nat) (e:TypeId) (i:TypeInfo) (z:Value) (size bytes:Nat) (ht:P.underlying t=some (.slice e)) (hi:P.info? e=some i) (hz:i.zero=some z)
 (hsize:i.size=size) (hby:i.bytes=bytes) (hzs:z.cells.size=size) (hsz:0<size)
 (v:Value) (n:Nat) (xs:List Value) (hs:a.eval s=v) (hown:w.ownsRow base e size v n xs)
 (u:Value) (m:Nat) (news:List Value) (hx:a.eval x=u) (hr:SL w size u m news) (h1:∀u∈news,u.oneCell'=true)
 (h63:n+m≤maxLen) (hbytes:(n+m)*bytes≤140737488355328) (hbase:base≤w.heap.size)
 (h:∀v' w',w'.ownsRow base e size v' (n+m) (xs++news)→w.grownBy w' v.ownBlock→(v'.ownBlock=v.ownBlock∨v'.ownBlock=some w.heap.size)→K (a.put o.dst v') w'):o.wp P a w K Q:=by obtain⟨v',w',hrun,h2,h3,h4⟩:=zQH (P:=P) w base t o.type e i z size bytes ht hi hz hsize hby hzs hsz v n xs hown u m news hr h1 h63 hbytes hbase;unfold Oper.wp execOp;simp only[ho,resolve,invoke,builtin,Sem.run_bind,Sem.run_pure,Result.andThen_ok,wI2,wG6,wG7,hs,hx,hrun];exact h v' w' h2 h3 h4
structure Elt (P:Program) (t e:TypeId) (size bytes:Nat):Prop where
 ht:P.underlying t=some (.slice e)
 hi:(P.info? e).map (λi=>(i.zero.map λz=>z.cells.size,i.size,i.bytes))=some (some size,size,bytes)
 hsz:0<size
variable {w}
def zCQ {ops:Array Oper} {rest:List Oper} {o:Oper} {a:Act} {Q:Exit→Act→World→Prop} {t e:TypeId} {size bytes:Nat} (he:Elt P t e size bytes) (hgd:o.guard=none) (s x:Operand)
 (ho:o.op=.call { callee:=.builtin .append,args:= #[s,x],argTypes:= #[t,t] })
 (base:Nat) (v:Value) (n:Nat) (xs:List Value) (hs:a.eval s=v) (hown:w.ownsRow base e size v n xs)
 (u:Value) (m:Nat) (news:List Value) (hx:a.eval x=u) (hr:SL w size u m news) (h1:∀u∈news,u.oneCell'=true)
 (h63:n+m≤9223372036854775807) (hbytes:(n+m)*bytes≤140737488355328) (hbase:base≤w.heap.size)
 (h:∀v' w',w'.ownsRow base e size v' (n+m) (xs++news)→Below base w w'→wpList P ops Q rest (a.put o.dst v') w'):wpList P ops Q (o::rest) a w:=by
 obtain⟨ht,hi,hsz⟩:=he
 cases hq:P.info? e with
 | none=>simp[hq] at hi
 | some i =>
   cases hzq:i.zero with
   | none=>simp[hq,hzq] at hi
   | some z =>
     have hi':z.cells.size=size∧i.size=size∧i.bytes=bytes:=by simpa [hq,hzq] using hi
     refine wpList_plain hgd λ_ hK=>zJm w s x t ho base e i z size bytes ht hq hzq hi'.2.1 hi'.2.2 hi'.1 hsz v n xs hs hown u m news hx hr h1 (by unfold maxLen;omega) hbytes hbase λv' w' h2 h3 h4=>hK _ _ (h v' w' h2 ?_)
     exact (Below.refl base w).grown h3 hbase (λk hk=>((hown.lt k hk).1))
def zAu {ops:Array Oper} {rest:List Oper} {o:Oper} {a:Act} {Q:Exit→Act→World→Prop} {t e:TypeId} {size bytes:Nat} (he:Elt P t e size bytes) (hgd:o.guard=none) (s x:Operand)
 (ho:o.op=.call { callee:=.builtin .append,args:= #[s,x],argTypes:= #[t,t] })
 (base:Nat) (v:Value) (n:Nat) (xs:List Value) (hs:a.eval s=v) (hown:w.ownsRow base e size v n xs)
 (u:Value) (m:Nat) (news:List Value) (hx:a.eval x=u) (hr:SL w size u m news) (h1:∀u∈news,u.oneCell'=true)
 (h63:n+m≤9223372036854775807) (hbytes:(n+m)*bytes≤140737488355328) (hbase:base≤w.heap.size)
 (h:∀v' w',w'.ownsRow base e size v' (n+m) (xs++news)→w.grownBy w' v.ownBlock→(v'.ownBlock=v.ownBlock∨v'.ownBlock=some w.heap.size)→wpList P ops Q rest (a.put o.dst v') w'):wpList P ops Q (o::rest) a w:=by
 obtain⟨ht,hi,hsz⟩:=he
 cases hq:P.info? e with
 | none=>simp[hq] at hi
 | some i =>
   cases hzq:i.zero with
   | none=>simp[hq,hzq] at hi
   | some z =>
     have hi':z.cells.size=size∧i.size=size∧i.bytes=bytes:=by simpa [hq,hzq] using hi
     refine wpList_plain hgd λ_ hK=>zJm w s x t ho base e i z size bytes ht hq hzq hi'.2.1 hi'.2.2 hi'.1 hsz v n xs hs hown u m news hx hr h1 (by unfold maxLen;omega) hbytes hbase λv' w' h2 h3 h4=>hK _ _ (h v' w' h2 h3 h4)
def wApf {ops:Array Oper} {rest:List Oper} {o:Oper} {a:Act} {Q:Exit→Act→World→Prop} {t e:TypeId} {size bytes:Nat} (he:Elt P t e size bytes) (hgd:o.guard=none) (s x:Operand)
 (ho:o.op=.call { callee:=.builtin .append,args:= #[s,x],argTypes:= #[t,t] })
 (base:Nat) (v:Value) (n:Nat) (xs:List Value) (hs:a.eval s=v) (hown:w.ownsRow base e size v n xs)
 (u:Value) (m:Nat) (news:List Value) (hx:a.eval x=u) (hr:SL w size u m news) (h1:∀u∈news,u.oneCell'=true)
 (h63:n+m≤9223372036854775807) (hbytes:(n+m)*bytes≤140737488355328) (hbase:base≤w.heap.size)
 (h:∀A c w',w'.ownsRow base e size (.slice A (n+m) c) (n+m) (xs++news)→w.grownBy w' v.ownBlock→(A.map (·.block)=v.ownBlock∨A.map (·.block)=some w.heap.size)→wpList P ops Q rest (a.put o.dst (.slice A (n+m) c)) w'):wpList P ops Q (o::rest) a w :=
 zAu he hgd s x ho base v n xs hs hown u m news hx hr h1 h63 hbytes hbase λv' w' h2 h3 h4=>by
  have h2':=h2.2;rcases h2' with ⟨rfl,h0⟩ | ⟨g,cap,cur,rfl,_⟩
  ·have hz:n+m=0∨¬n+m=0:=by omega
   have hl:=h2.1;rw[h0] at hl
   have h5:n+m=0:=by
    have:=he.hsz;rcases wI0 (n+m) with h6 | h6
    ·exact h6
    have:=Nat.mul_pos h6 this;simp at hl;omega
   have key:=h none 0 w';rw[h5] at key;rw[h5] at h2;exact key h2 h3 (by simpa [Value.ownBlock] using h4)
  exact h _ _ w' h2 h3 (by simpa [Value.ownBlock] using h4)
end
def zHC {w:World} {base:Nat} {e:TypeId} {size n:Nat} {v:Value} {xs:List Value} (h:w.ownsRow base e size v n xs):SL w size v n xs:=by
 obtain⟨hl,hh⟩:=h;rcases hh with ⟨rfl,rfl⟩ | ⟨g,cap,cur,rfl,hb,hg,hn,hm,hc,hx⟩
 ·have:xs=[]:=wI1 (by simpa using hl);subst this;exact SL.nil w size
 refine⟨_,_,rfl,hn,by unfold maxLen at hm;omega,hl,λ_=>⟨_,rfl,Blk.lt (w:=w) (t:=e) (cs:=cur) hg,λj u hu=> ?_⟩⟩;have hj:j<xs.length:=(wB7.1 hu).1
 have e1:(⟨g,0,none⟩:Addr).add j=⟨g,j,none⟩:=by
  unfold Addr.add
  by_cases h0:j=0
  ·subst h0;rfl
  rw[if_neg h0];simp
 rw[e1,cell_of_row w g j cur e (0,0) hg, ←hu, ←hx,wB8 (by omega)];simp
def Ext.trans' {a w w':World} (h:Ext a w) (k:Below a.heap.size w w'):Ext a w':=Below.trans h k
def zNz (z:Int):∀u∈[Value.int .i64 z],u.oneCell'=true:=by intro u hu;simp at hu;subst hu;rfl
def one_sl (w:World) (T:TypeId) (v:Value):SL (w.alloc (.cells #[v] T)) 1 (.slice (some ⟨w.heap.size,0,none⟩) 1 1) 1 [v]:=by have:=(Blk.new w T #[v]).sl (size:=1) (n:=1) (c:=1) rfl (by omega) (by omega);simpa using this
def zCN {w:World} {base:Nat} {e:TypeId} {size n:Nat} {v:Value} {xs:List Value} (h:w.ownsRow base e size v n xs):∃A c,v=.slice A n c∧SL w size (.slice A n c) n xs∧∀ad,A=some ad→base≤ad.block:=by
 have hs:=zHC h;obtain⟨hl,hh⟩:=h;rcases hh with ⟨rfl,rfl⟩ | ⟨g,cap,cur,rfl,hb,hg,hn,hm,hc,hx⟩
 ·exact⟨none,0,rfl,hs,by intro ad h;cases h⟩
 exact⟨some ⟨g,0,none⟩,cap,rfl,hs,by intro ad h;injection h with h;subst h;exact hb⟩
def zHD (k m:Nat) (h:k≤m):(2:Int) ^ k≤2 ^ m:=by
 have:=wF3 (n:=2) (by omega) h
 exact_mod_cast this
def zCU (k:Nat):(1:Int)≤2 ^ k:=by
 have:=wE9 k
 exact_mod_cast this
def jT (cs:List Int):Nat→Nat
 | 0=>0
 | k+1=>2*jT cs k+(cs.getD k 0).toNat
def okW (cs:List Int):Bool:=(List.range 16).all λk=>decide (jT cs (k+1)+1≤2 ^ (k+1))
def okW_no {cs:List Int} {k:Nat} (hk:k<16) (h:2 ^ (k+1)<jT cs (k+1)+1):okW cs=false:=by rw[←wC6];intro h2;have:=wI3.1 h2 k (wF2.2 hk);simp only[wB3] at this;omega
def zDU (cs xs:List Int):Bool:=zR cs 0 256&&decide (zAx cs 16≤256)&&decide (zAx cs 16=xs.length)
def zQ (cs xs:List Int):Int:=if zDU cs xs then (if zR xs 0 255 then (if decide xs.Nodup&&okW cs then 0 else 4) else 1) else 4
def zNC {cs xs:List Int} (h:zDU cs xs=false):zQ cs xs=4:=by simp[zQ,h]
def zNY {cs xs:List Int} (h:zDU cs xs=true) (h2:zR xs 0 255=false):zQ cs xs=1:=by simp[zQ,h,h2]
def zUU {cs xs:List Int} (h:zDU cs xs=true) (h2:zR xs 0 255=true) (h3:¬xs.Nodup):zQ cs xs=4:=by simp[zQ,h,h2,h3]
def zKF {cs xs:List Int} (h:zDU cs xs=true) (h2:zR xs 0 255=true) (h3:xs.Nodup):zQ cs xs=if okW cs then 0 else 4:=by simp[zQ,h,h2,h3]
def zGb {cs xs:List Int}:zDU cs xs=true↔zR cs 0 256=true∧zAx cs 16≤256∧zAx cs 16=xs.length:=by simp[zDU,and_assoc]
def zMi {xs:List Int} {k:Nat} (hk:k<xs.length):(xs.take (k+1)).Nodup↔(xs.take k).Nodup∧xs[k]∉xs.take k:=by
 rw[wC1 hk,wI4];constructor
 ·rintro⟨a,-,c⟩;exact⟨a,λh=>c _ h _ (by simp) rfl⟩
 rintro⟨a,b⟩;refine⟨a,by simp,λx hx y hy=> ?_⟩;simp at hy;subst hy;rintro rfl;exact b hx
def okW_yes {cs:List Int} (h:∀j,j<16→jT cs (j+1)+1≤2 ^ (j+1)):okW cs=true :=
 wI3.2 λi hi=>by
  have:=h i (wF2.1 hi);simpa using this
def zMH (cs:List Int) (k n:Nat) (hk:k<cs.length) (h:cs[k]=(n:Int)):jT cs (k+1)=2*jT cs k+n:=by
 show 2*jT cs k+(cs.getD k 0).toNat=_
 simp[hk,h]
def elt_word:Elt prog 88 94 3 24:=⟨underlying88,by kernel_rfl,by omega⟩
def one_sl3' (w:World) (T:TypeId) (a b c:Value):SL (w.alloc (.cells #[a,b,c] T)) 3 (.slice (some ⟨w.heap.size,0,none⟩) 1 1) 1 [a,b,c]:=by have:=(Blk.new w T #[a,b,c]).sl (size:=3) (n:=1) (c:=1) rfl (by omega) (by omega);simpa using this
def int3_one (a b c:Int):∀u∈[Value.int .i64 a,.int .i64 b,.int .i64 c],u.oneCell'=true:=by intro u hu;simp at hu;rcases hu with rfl | rfl | rfl<;>rfl
def own_tok3 {w:World} {base:Nat} {e:TypeId} {v:Value} {T:List Tok} {a b c:Int} (h:w.ownsRow base e 3 v (T.length+1) (qW T++[.int .i64 a,.int .i64 b,.int .i64 c])):w.ownsRow base e 3 v (T++[(a,b,c)]).length (qW (T++[(a,b,c)])):=by simpa [qW,qN] using h
def uF (cs:List Int) (k j:Nat):List (Nat×Nat):=(List.range j).map λi=>(k+1,2*jT cs k+i)
def zC (cs:List Int):Nat→List (Nat×Nat)
 | 0=>[]
 | k+1=>zC cs k++uF cs k (cs.getD k 0).toNat
def zOV (cs:List Int) (k j:Nat):uF cs k (j+1)=uF cs k j++[(k+1,2*jT cs k+j)]:=by unfold uF;rw[wG5,wF5];rfl
def zIG (cs:List Int) (k j:Nat):(uF cs k j).length=j:=by simp[uF]
def zLL (cs:List Int) (k n:Nat) (hk:k<cs.length) (h:cs[k]=(n:Int)):zC cs (k+1)=zC cs k++uF cs k n:=by
 show zC cs k++uF cs k (cs.getD k 0).toNat=_
 simp[hk,h]
def zDG (cs:List Int) (h:∀z∈cs,0≤z):∀k,k≤cs.length→((zC cs k).length:Int)=zAx cs k:=by
 intro k
 induction k with
 | zero=>intro _;simp[zC,zAx]
 | succ k ih =>
   intro hk;have h0:=h _ (wC7 (show k<cs.length by omega));rw[zLL cs k cs[k].toNat (by omega) (by omega),wE2,zIG,zJH cs k (by omega), ←ih (by omega)];omega
def zTG (cs:List Int) (j k:Nat) (h:j≤k):(zC cs j).length≤(zC cs k).length:=by
 induction k with
 | zero=>obtain rfl:j=0:=by omega
         exact wA5 _
 | succ k ih =>
   rcases wA3 k j with h2 | h2
   ·obtain rfl:j=k+1:=by omega
    exact wA5 _
   have:=ih h2;show _≤(zC cs k++_).length
   rw[wE2];omega
def zH (l:List (Nat×Nat)) (xs:List Int):List Tok:=List.zipWith (λp x=>((x,(p.1:Int),(p.2:Int)):Tok)) l xs
def zDB (l:List (Nat×Nat)) (xs:List Int) (h:l.length≤xs.length):(zH l xs).length=l.length:=by simp[zH];omega
def zipC_snoc (l:List (Nat×Nat)) (p:Nat×Nat) (xs:List Int) (h:l.length<xs.length):zH (l++[p]) xs=zH l xs++[(xs[l.length],(p.1:Int),(p.2:Int))]:=by
 induction l generalizing xs with
 | nil =>
   cases xs with
   | nil=>simp at h
   | cons x xs=>simp[zH]
 | cons q l ih =>
   cases xs with
   | nil=>simp at h
   | cons x xs =>
     have h':l.length<xs.length:=by simpa using h
     have:=ih xs h';simp only[zH,wE1,wI5] at this ⊢;rw[this];simp
def zFR (cs:List Int) (hok:okW cs=true) (hl:cs.length=16):∀k,k≤16→∀p∈zC cs k,1≤p.1∧p.1≤k∧p.2+1<2 ^ p.1+1:=by
 intro k
 induction k with
 | zero=>intro _ p hp;simp[zC] at hp
 | succ k ih =>
   intro hk p hp;rcases wD3.1 (show p∈zC cs k++uF cs k (cs.getD k 0).toNat from hp) with h | h
   ·have:=ih (by omega) p h;omega
   simp only[uF,wD2,wF2] at h;obtain⟨i,hi,rfl⟩:=h;have h1:=wI3.1 hok k (wF2.2 (by omega));simp only[wB3] at h1;have h2:jT cs (k+1)=2*jT cs k+(cs.getD k 0).toNat:=rfl;refine⟨by simp,by simp, ?_⟩;simp only;omega
def zDS (cs:List Int):zC cs 0=[]:=rfl
def zEi (cs:List Int) (k:Nat):zC cs (k+1)=zC cs k++uF cs k (cs.getD k 0).toNat:=rfl
attribute [irreducible] zC
def OwnV (w:World) (base:Nat) (e:TypeId) (size:Nat) (v:Value) (n:Nat) (xs:List Value):Prop:=∃A c,v=.slice A n c∧w.ownsRow base e size (.slice A n c) n xs
def OwnV.mk {w:World} {base:Nat} {e:TypeId} {size n:Nat} {v:Value} {xs:List Value} (h:w.ownsRow base e size v n xs):OwnV w base e size v n xs:=by obtain⟨A,c,rfl,-,-⟩:=zCN h;exact⟨A,c,rfl,h⟩
def OwnV.nil (w:World) (base:Nat) (e:TypeId) (size:Nat):OwnV w base e size (.slice none 0 0) 0 []:=⟨none,0,rfl,World.ownsRow_nil _ _ _ _⟩
def jC {w:World} {base:Nat} {e:TypeId} {size n c:Nat} {A:Option Addr} {xs:List Value} (h:w.ownsRow base e size (.slice A n c) n xs):SL w size (.slice A n c) n xs∧∀ad,A=some ad→base≤ad.block:=by
 obtain⟨B,d,e1,h1,h2⟩:=zCN h;injection e1 with e1 e2 e3
 subst e1 e3;exact⟨h1,h2⟩
section
open Go.RowKit Go.Maps
def zDi:Keyed prog 3:=int_keyed underlying3
def zero_bool (w:World):(zeroValue 4).run prog w=.ok (.bool false) w:=by kernel_rfl
def zEn (l:List Int) (x:Int):Option Value:=if x∈l then some (.bool true) else none
def zUX (l:List Int) (x:Int):(zEn l x).getD (.bool false)=.bool (decide (x∈l)):=by unfold zEn;by_cases h:x∈l<;>simp[h]
def check_tot (cs xs:List Int) (sl:Value) (w:World) (hl:cs.length=16) (hs:SL w 1 sl xs.length (ints xs)) (h:zDU cs xs=false) :
 Calls prog 102 #[.agg (yY cs sl)] w λe w'=>e=.returned (.int .i64 4)∧Ext w w':=by
 have HT:=zA (λW=>zOf cs sl W hl);have hlast:=zA (λW g (h:Blk W g 42 (yY cs sl))=>zEw h hl);have hts:=zA (zAb cs sl hl)
 have hq:(zBw cs).2=false∨((zBw cs).2=true∧((zBw cs).1 !=(xs.length:Int))=true):=by
  unfold zDU at h;unfold zBw
  cases h1:zR cs 0 256 with
  | false=>left;simp
  | true =>
    rw[h1] at h;simp only[if_true]
    by_cases h2:zAx cs 16≤256
    ·right
     simp[h2] at h ⊢;exact h
    left;simpa using h2
 generalize zBw cs=tz at *;obtain⟨all,is⟩:=tz;generalize yY cs sl=tv at *;obtain⟨A,c,rfl,hc1,hc2,-,-⟩:=hs;rcases hq with hq | ⟨hq,hq2⟩
 ·simp only at hq;subst hq;go_enter func102,ntmps102
  go_wp2_with (first
   | (refine wBox rfl 42 (.tmp 0) rfl tv rfl ?_;intro w1 g hb1 hx1 hg)
   | (refine wLdB rfl 42 (.tmp 1) rfl _ rfl hb1 _ underlying42 rfl 17 zX hts.out ?_)
   | (go_at_call 151;(with_reducible refine (HT.out _).mono ?_);rintro e w2 ⟨rfl,hx2⟩))
  go_ret;exact⟨rfl,hx1.trans hx2⟩
 simp only at hq hq2;subst hq;go_enter func102,ntmps102
 go_wp2_with (first
  | (refine wBox rfl 42 (.tmp 0) rfl tv rfl ?_;intro w1 g hb1 hx1 hg)
  | (refine wLdB rfl 42 (.tmp 1) rfl _ rfl hb1 _ underlying42 rfl 17 zX hts.out ?_)
  | (go_at_call 151;(with_reducible refine (HT.out _).mono ?_);rintro e w2 ⟨rfl,hx2⟩;have hc16:=hlast.out _ _ (hb1.ext hx2)))
 go_ret;exact⟨rfl,hx1.trans hx2⟩
def seenF_upd (xs:List Int) (k:Nat) (hk:k<xs.length):zEn (xs.take (k+1)) xs[k]=some (.bool true):=by unfold zEn;rw[if_pos (by rw[wC1 hk];exact wI6 _ (by simp))]
def zSo (xs:List Int) (k:Nat) (hk:k<xs.length) (j:Int) (hj:j≠xs[k]):zEn (xs.take (k+1)) j=zEn (xs.take k) j:=by
 unfold zEn;have:j∈xs.take (k+1)↔j∈xs.take k:=by rw[wC1 hk,wD3];simp[hj]
 by_cases h:j∈xs.take k
 ·rw[if_pos h,if_pos (this.2 h)]
 rw[if_neg h,if_neg (λh2=>h (this.1 h2))]
def check_in (cs xs:List Int) (sl:Value) (w:World) (hl:cs.length=16) (hs:SL w 1 sl xs.length (ints xs)) (h:zDU cs xs=true) :
 Calls prog 102 #[.agg (yY cs sl)] w λe w'=>e=.returned (.int .i64 (zQ cs xs))∧Ext w w':=by
 have HT:=zA (λW=>zOf cs sl W hl);have hlast:=zA (λW g (h:Blk W g 42 (yY cs sl))=>zEw h hl);have hts:=zA (zAb cs sl hl);have HRG:=zA (λW g (h:Blk W g 42 (yY cs sl))=>zFT h);have hcl:=zA ((yI cs).trans hl);have HIX:=zA (λk (hk:k<cs.length) (h16:k<16)=>λW=>zGo (ints cs).toArray k (.int .i64 cs[k]) h16 (jQ cs k hk) W);obtain⟨q1,q2,q3⟩:=zGb.1 h;have HZ1:=zA (λh2=>zNY h h2);have HZ2:=zA (λh2 h3=>zUU h h2 h3);have HZ3:=zA (λh2 h3=>zKF h h2 h3);have HT1:Hid (zBw cs=((xs.length:Int),true)):=zA (by unfold zBw;rw[q1,q3];simp;omega);rw[HT1.out] at HT;have hlen:xs.length≤256:=by omega
 have HAL:=zA (yJ.1 q1);have HL:=zA hl;have hneq:((xs.length:Int) !=(xs.length:Int))=false:=by simp
 have hmm:= @run_makeMap prog;have hs':=hs;obtain⟨A,c,rfl,hc1,hc2,-,-⟩:=hs';generalize yY cs (.slice A xs.length c)=tv at *;clear h q1 q2 q3;go_enter func102,ntmps102
 go_wp2_with (first
  | (refine wBox rfl 42 (.tmp 0) rfl tv rfl ?_;intro w1 g hb1 hx1 hg)
  | (refine wLdB rfl 42 (.tmp 1) rfl _ rfl hb1 _ underlying42 rfl 17 zX hts.out ?_)
  | (go_at_call 151;(with_reducible refine (HT.out _).mono ?_);rintro e w2 ⟨rfl,hx2⟩;have hc16:=hlast.out _ _ (hb1.ext hx2);have hc16b:=hlast.out _ _ ((hb1.ext hx2).alloc (.map #[] 0))))
 have hb2:=hb1.ext hx2;have hxm:=hx1.trans hx2;have hgm:=hxm.size;have hne:=hb2.lt;clear hmm hb1 hx1 hx2 hc16 hc16b
 go_loopw [6,30] (λtw i wr=>∃(k:Nat) (tb:Bool),k≤xs.length∧i=.int .i64 (k:Int)∧tw=.bool tb∧tb=(!decide (xs.take k).Nodup)∧(∀z∈xs.take k,0≤z∧z≤255)∧MapI prog 3 wr w2.heap.size k (zEn (xs.take k))∧Blk wr g 42 tv∧Ext w wr) (λ_ i _=>xs.length-(intOf i).toNat)
 case atStart=>exact⟨0,false,by omega,rfl,rfl,by simp,by simp,MapG.made _,hb2.alloc _,hxm.alloc _⟩
 case round =>
  clear hb2 hxm;obtain⟨k,tb,hk,rfl,rfl,htb,hin,hm,hb,hx⟩:=hrel;have HTB:=zA htb;have HIN:=zA hin;clear htb hin
  by_cases hlt:k<xs.length
  ·obtain⟨ad,u,rfl,-,hxk,hcell⟩:=(hs.ext hx).at1 hlt;obtain⟨hkl,rfl⟩:=zCB _ _ _ hxk;clear hxk
   cases hq:inB xs[k] 0 255 with
   | true =>
     obtain⟨q1,q2⟩:=uJ.1 hq;have h0':decide (xs[k]<0)=false:=by simpa using q1
     have h1':decide (256≤xs[k])=false:=by simp;omega
     have HN:=zA (zHW HIN.out hkl ⟨q1,q2⟩);have HND:=zA (zMi hkl);have HU:=zA (seenF_upd xs k hkl);have HO:=zA (zSo xs k hkl);have HLK:=zA (zUX (xs.take k) xs[k]);have hkey:=zA (zDq (P:=prog) underlying3 (a:=xs[k]) (by omega) (by omega));generalize xs[k]=x at *;clear hq
     cases tb with
     | true =>
       go_wp2_with (at_mapUpdate;refine zCs (by rfl) _ _ _ 196 4 rfl zDi underlying196 rfl hm (by omega) _ rfl _ rfl x hkey.out (zEn (xs.take (k+1))) HU.out (λj _ hj=>HO.out j (λe=>hj (by rw[e]))) (λj _ hj=>by injection hj) ?_;intro w7 hm7 hg7)
       go_roundw
       case rel =>
        exact⟨k+1,true,by omega,by go_num,rfl,by have h1:=HTB.out;have h2:=HND.out;simp at h1 ⊢;rw[h2];simp[h1],HN.out,hm7,hb.grown hg7 (by simp;omega),zIX hx hg7 (by omega)⟩
       case measure=>simp[intOf];omega
     | false =>
       go_wp2_with (first
        | (at_lookup;refine zDV (by rfl) _ _ 196 4 rfl zDi underlying196 _ (zero_bool _) rfl hm _ rfl x trivial hkey.out _ HLK.out ?_)
        | (at_mapUpdate;refine zCs (by rfl) _ _ _ 196 4 rfl zDi underlying196 rfl hm (by omega) _ rfl _ rfl x hkey.out (zEn (xs.take (k+1))) HU.out (λj _ hj=>HO.out j (λe=>hj (by rw[e]))) (λj _ hj=>by injection hj) ?_;intro w7 hm7 hg7))
       go_roundw
       case rel =>
        exact⟨k+1,decide (x∈xs.take k),by omega,by go_num,rfl,by have h1:=HTB.out;have h2:=HND.out;simp at h1;by_cases hm:x∈xs.take k<;>simp[h2,h1,hm],HN.out,hm7,hb.grown hg7 (by simp;omega),zIX hx hg7 (by omega)⟩
       case measure=>simp[intOf];omega
   | false =>
     have HF:=zA (HZ1.out (zRs hkl hq));rcases Int.lt_or_le xs[k] 0 with h0 | h0
     ·have h0':decide (xs[k]<0)=true:=by simpa using h0
      clear hq;go_wp2_with fail;go_ret;exact⟨by rw[HF.out];rfl,hx⟩
     have h0':decide (xs[k]<0)=false:=by simpa using h0
     have h1':decide (256≤xs[k])=true:=by have:=zCe.1 hq;simp;omega
     clear hq;go_wp2_with fail;go_ret;exact⟨by rw[HF.out];rfl,hx⟩
  have hkx:k=xs.length:=by omega
  have e1:xs.take k=xs:=wC2 (by omega);rw[e1] at HTB HIN;have HA:=zA (yJ.2 HIN.out);clear e1 hm;go_wp2_with (refine wpList_load_mid rfl 40 (.tmp 49) rfl g 0 rfl (ints cs) _ (HRG.out _ _ hb) underlying40 rfl (by rw[hcl.out];exact zNc) ?_)
  go_loop [9,51] (λnx i=>∃k:Nat,k≤16∧i=.int .i64 (k:Int)∧nx=.int .i64 (jT cs k:Nat)∧jT cs k+1≤2 ^ k∧(∀j,j<k→jT cs (j+1)+1≤2 ^ (j+1))∧(0<k→tb=false)) (λ_ i=>16-(intOf i).toNat)
  case atStart=>exact⟨0,by omega,rfl,rfl,by simp[jT],by intro j hj;omega,by omega⟩
  case round =>
   obtain⟨k,hk,rfl,rfl,hnx,hall,htw⟩:=hrel;have HALL:=zA hall;have HTW:=zA htw;clear hall htw
   by_cases hlt2:k<16
   ·have hkl:k<cs.length:=by have:=HL.out;omega
    have hix:=HIX.out k hkl hlt2;obtain⟨q1,q2⟩:=HAL.out _ (wC7 hkl);obtain⟨n,hn⟩:∃n:Nat,cs[k]=(n:Int):=⟨cs[k].toNat,by omega⟩
    have HNW:=zA (zMH cs k n hkl hn);have HNO:=zA (λh=>okW_no (cs:=cs) hlt2 h);rw[hn] at hix q1 q2;have hp:(2:Nat) ^ k≤65536:=by have:=wF3 (n:=2) (by omega) (show k≤16 by omega);simpa using this
    have HP:Hid (2 ^ (k+1)=2*2 ^ k):=zA (by rw[wE0];omega);rw[HNW.out,HP.out] at HNO;have hp1:(1:Int)≤2 ^ (k+1):=zCU (k+1);have hp2:(2:Int) ^ (k+1)≤131072:=by have:=zHD (k+1) 17 (by omega);simpa using this
    have HPI:Hid ((2:Int) ^ (k+1)=((2*2 ^ k:Nat):Int)):=zA (by rw[←HP.out];simp);clear hn
    cases tb with
    | true =>
      have HF:=zA (HZ2.out HA.out (by have:=HTB.out;simpa using this));go_wp2_with fail;go_ret;exact⟨by rw[HF.out];rfl,hx⟩
    | false =>
      generalize jT cs k=N at *
      by_cases hbad:2*N+n+1≤2*2 ^ k
      ·have hd:decide ((2:Int) ^ (k+1)-1<(N:Int)*2+(n:Int))=false:=by have:=HPI.out;simp;omega
       go_wp2_with fail;go_round
       case rel =>
        refine⟨k+1,by omega,by go_num,by rw[HNW.out];congr 1;omega,by rw[HNW.out,HP.out];omega, ?_,by simp⟩;intro i hi
        by_cases hik:i=k
        ·subst hik;rw[HNW.out,HP.out];omega
        exact HALL.out i (by omega)
       case measure=>simp[intOf];omega
      have hd:decide ((2:Int) ^ (k+1)-1<(N:Int)*2+(n:Int))=true:=by have:=HPI.out;simp;omega
      have HF:=zA (HZ3.out HA.out (by have:=HTB.out;simpa using this));have HNO':=zA (HNO.out (by omega));go_wp2_with fail;go_ret;exact⟨by rw[HF.out,HNO'.out];rfl,hx⟩
   obtain rfl:k=16:=by omega
   obtain rfl:=HTW.out (by omega);have HF:=zA (HZ3.out HA.out (by have:=HTB.out;simpa using this));have HOK:=zA (okW_yes HALL.out);go_wp2_with fail;go_ret;exact⟨by rw[HF.out,HOK.out];rfl,hx⟩
def zCJ (cs xs:List Int) (sl:Value) (w:World) (hl:cs.length=16) (hs:SL w 1 sl xs.length (ints xs)) :
 Calls prog 102 #[.agg (yY cs sl)] w λe w'=>e=.returned (.int .i64 (zQ cs xs))∧Ext w w':=by
 cases h:zDU cs xs with
 | true=>exact check_in cs xs sl w hl hs h
 | false=>rw[zNC h];exact check_tot cs xs sl w hl hs h
end
def words_any (cs xs:List Int) (sl:Value) (w:World) (hl:cs.length=16) (hs:SL w 1 sl xs.length (ints xs)) (hal:zR cs 0 256=true) (hok:okW cs=true) (hsum:zAx cs 16=xs.length) (hx256:xs.length≤256) :
 Calls prog 106 #[.agg (yY cs sl)] w λe w'=>∃A c,e=.returned (.slice A xs.length c)∧SL w' 3 (.slice A xs.length c) xs.length (qW (zH (zC cs 16) xs))∧(∀ad,A=some ad→w.heap.size≤ad.block)∧Ext w w':=by
 have hlast:=zA (λW g (h:Blk W g 42 (yY cs sl))=>zEw h hl);have HRG:=zA (λW g (h:Blk W g 42 (yY cs sl))=>zFT h);have hcl:=zA ((yI cs).trans hl);have HIX:=zA (λk (hk:k<cs.length) (h16:k<16)=>λW=>zGo (ints cs).toArray k (.int .i64 cs[k]) h16 (jQ cs k hk) W);have HAL:=zA (yJ.1 hal);have HL:=zA hl;have HLEN:Hid ((zC cs 16).length=xs.length):=zA (by have:=zDG cs (λz hz=>(HAL.out z hz).1) 16 (by omega);omega);have HOKS:=zA (λk (hk:k<16)=>by simpa using wI3.1 hok k (wF2.2 hk));have hs':=hs;obtain⟨A,c,rfl,hc1,hc2,-,-⟩:=hs';generalize yY cs (.slice A xs.length c)=tv at *;clear hal hok hsum;go_enter func106,ntmps106
 go_wp2_with (first
  | (refine wBox rfl 42 (.tmp 0) rfl tv rfl ?_;intro w1 g hb1 hx1 hg)
  | (refine wpList_load_mid rfl 40 (.tmp 7) rfl g 0 rfl (ints cs) _ (HRG.out _ _ hb1) underlying40 rfl (by rw[hcl.out];exact zNc) ?_))
 have hs1:=hs.ext hx1;have hgw:=hb1.lt;have hsz1:=hx1.size
 go_loopw [3,4,9] (λv nx i wr=>∃k:Nat,k≤16∧i=.int .i64 (k:Int)∧nx=.int .i64 (jT cs k:Nat)∧jT cs k+1≤2 ^ k∧OwnV wr w1.heap.size 94 3 v (zC cs k).length (qW (zH (zC cs k) xs))∧Ext w1 wr) (λ_ _ i _=>16-(intOf i).toNat)
 case atStart=>exact⟨0,by omega,rfl,rfl,by simp[jT],by rw[zDS];exact OwnV.nil _ _ _ _,Ext.refl _⟩
 case round =>
  obtain⟨k,hk,rfl,rfl,hnx,⟨B0,d0,rfl,hown⟩,hx⟩:=hrel
  by_cases hlt:k<16
  ·have hsd:decide ((k:Int)<16)=true:=by simp;omega
   have hkl:k<cs.length:=by have:=HL.out;omega
   have hix:=HIX.out k hkl hlt;obtain⟨q1,q2⟩:=HAL.out _ (wC7 hkl);obtain⟨n,hn⟩:∃n:Nat,cs[k]=(n:Int):=⟨cs[k].toNat,by omega⟩
   have HNW:=zA (zMH cs k n hkl hn);have HCW:=zA (zLL cs k n hkl hn);have HOK:=zA (HOKS.out k hlt);have HMO:=zA (zTG cs (k+1) 16 (by omega));rw[hn] at hix q1 q2;have hp:(2:Nat) ^ k≤65536:=by have:=wF3 (n:=2) (by omega) hk;simpa using this
   have HP:Hid (2 ^ (k+1)=2*2 ^ k):=zA (by rw[wE0];omega);have HRS:=zA (zOV cs k);have HR0:Hid (uF cs k 0=[]):=zA rfl;have HRL:=zA (zIG cs k);have hbound:(zC cs k).length+n≤xs.length:=by have h1:=HMO.out;have h2:=HLEN.out;rw[HCW.out,wE2,HRL.out] at h1;omega
   generalize jT cs k=N at *;generalize (2:Nat) ^ k=Pw at *;clear hn hkl;generalize zC cs k=C at *;have HC0:Hid (zH (C++uF cs k 0) xs=zH C xs):=zA (by rw[HR0.out,wG9]);go_wp2_with fail
   go_loopw [3,4,16] (λv nx i wr=>∃j:Nat,j≤n∧i=.int .i64 (j:Int)∧nx=.int .i64 ((2*N+j:Nat):Int)∧OwnV wr w1.heap.size 94 3 v (C.length+j) (qW (zH (C++uF cs k j) xs))∧Ext w1 wr) (λ_ _ i _=>n-(intOf i).toNat)
   case atStart=>exact⟨0,by omega,rfl,vint (by omega),by rw[HC0.out];exact OwnV.mk hown,hx⟩
   case round =>
    clear hown hx;obtain⟨j,hj,rfl,rfl,⟨B,d,rfl,hown⟩,hx⟩:=hrel;have hclen:(C++uF cs k j).length=C.length+j:=by rw[wE2,HRL.out]
    have hzl:(zH (C++uF cs k j) xs).length=C.length+j:=by rw[zDB _ _ (by omega),hclen]
    have hcz:=zA hclen;have HZL:=zA hzl;clear hclen
    by_cases hlj:j<n
    ·have hix2:C.length+j<xs.length:=by omega
     have HZS:Hid (zH (C++uF cs k (j+1)) xs=zH (C++uF cs k j) xs++[(xs[C.length+j],((k+1:Nat):Int),((2*N+j:Nat):Int))]):=zA (by
      rw[HRS.out j, ←wI7,zipC_snoc _ _ _ (by rw[hcz.out];exact hix2)]
      simp only[hcz.out])
     obtain⟨ad,u,hA,-,hxk,hcell⟩:=(hs1.ext hx).at1 hix2;obtain⟨hkl2,rfl⟩:=zCB _ _ _ hxk;subst hA;have hc16:=hlast.out _ _ (hb1.ext hx);generalize xs[C.length+j]=x at *;generalize zH (C++uF cs k j) xs=T at *;generalize hM:C.length+j=M at *;have hM256:M<256:=by omega
     have HM:=zA hM;clear hxk hM hzl;go_wp2_with (at_builtin;go_must (refine zCQ elt_word rfl _ _ rfl w1.heap.size _ _ _ rfl (hown.alloc _) _ 1 [.int .i64 _,.int .i64 _,.int .i64 _] rfl (one_sl3' _ _ _ _ _) (int3_one _ _ _) (by omega) (by omega) (by have:=hx.size;simp;omega) ?_);intro v' w7 hown7 hb7)
     go_roundw
     case rel =>
      refine⟨j+1,by omega,by go_num,vint (by omega), ?_,(hx.alloc _).trans' hb7⟩;rw[HZS.out];have:=own_tok3 (T:=T) (by rw[HZL.out];exact hown7);rw[wE2,HZL.out, ←HM.out] at this;simpa [wA0] using OwnV.mk this
     case measure=>simp[intOf];omega
    obtain rfl:j=n:=by omega
    clear hzl;go_wp2_with fail;go_roundw
    case rel=>exact⟨k+1,by omega,by go_num,by rw[HNW.out],by rw[HNW.out,HP.out];have:=HOK.out;rw[HNW.out,HP.out] at this;omega,by rw[HCW.out,hcz.out];exact OwnV.mk hown,hx⟩
    case measure=>simp[intOf];omega
  have ek:k=16:=by omega
  rw[ek] at hown ⊢;rw[HLEN.out] at hown ⊢;go_wp2_with fail;go_ret;obtain⟨hsl,hfs⟩:=jC hown;exact⟨B0,d0,rfl,hsl,λad h=>by have:=hfs ad h;omega,hx1.trans hx⟩
def zAy {cs xs:List Int} (h:zQ cs xs=0):zR cs 0 256=true∧zAx cs 16=xs.length∧xs.length≤256∧okW cs=true∧zR xs 0 255=true∧xs.Nodup:=by
 unfold zQ at h;split at h
 ·next h1 =>
  obtain⟨q1,q2,q3⟩:=zGb.1 h1;split at h
  ·next h2 =>
   split at h
   ·next h3 =>
    simp only[wA9,wB3] at h3;exact⟨q1,q3,by omega,h3.2,h2,h3.1⟩
   cases h
  cases h
 cases h
