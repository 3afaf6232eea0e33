/- Contracts of the functions that the law reaches, part 5. -/
import Derived.BigQuiet
import Derived.Test.YtkggcjdlpendfaaGreatDoorMTopCoarseCard4
namespace Go.Proofs.YtkggcjdlpendfaaGreatDoor
set_option linter.unusedVariables false
set_option linter.unusedSimpArgs false
set_option maxRecDepth 20000
set_option maxHeartbeats 8000000
open Go.RowKit
set_option maxRecDepth 20000
theorem size65:(Tryz.prog.info? 125).map (·.size)=some 12:=by kernel_rfl
theorem zHn:(Tryz.prog.info? 124).map (·.size)=some 4:=by kernel_rfl
theorem size66:(Tryz.prog.info? 126).map (·.size)=some 3:=by kernel_rfl
theorem zero66:(Tryz.prog.info? 126).bind (·.zero)=some (.agg (bv [0,0,0])):=by kernel_rfl
theorem zero64_:(Tryz.prog.info? 124).bind (·.zero)=some (.agg (bv [0,0,0,0])):=by kernel_rfl
theorem zBh {fn:Func} {t u v x:Tmp} (h:fn.results= #[.tmp t,.tmp u,.tmp v,.tmp x]) (tmps:Array Value) (P:Program) (w:World) :
 (results fn tmps).run P w=.ok (.tuple #[tmps.getD t undef,tmps.getD u undef,tmps.getD v undef,tmps.getD x undef]) w:=by
 simp[results,h]
def jH (m:List Int) (i:Nat):List Int:=(m.drop (i*4)).take 4
def zAo (m l:List Int) (i:Nat) (k:Nat):Int:=(jH m i).getD 3 0+(List.zipWith (· * ·) ((jH m i).take k) (l.take k)).sum
def zBC (m l:List Int) (i:Nat):Int:=qZ (rnd (zAo m l i 3) 65536) 0 255
theorem zIl (m:List Int) (hm:m.length=12) (i:Nat) (hi:i<3):(jH m i).length=4:=by simp[jH];omega
theorem zHw (m:List Int) (M:Int) (hb: ∀ z∈m, -M≤z∧z≤M) (i:Nat): ∀ z∈jH m i, -M≤z∧z≤M :=
 fun z hz=>hb z (wG6 (wG7 hz))
theorem zLp (m l:List Int) (i k:Nat) (h1:k<(jH m i).length) (h2:k<l.length):zAo m l i (k+1)=zAo m l i k+(jH m i)[k]*l[k]:=by
 unfold zAo
 rw[wC3 h1,wC3 h2,List.zipWith_append (by simp;omega)]
 simp;omega
theorem msum_bd (m l:List Int) (M:Int) (hM:0≤M) (hb: ∀ z∈m, -M≤z∧z≤M) (hm:m.length=12) (hl:l.length=3) (hlb:zN l 0 255=true) (i:Nat) (hi:i<3) :
 ∀ k,k≤3→ -(M+k*(M*255))≤zAo m l i k∧zAo m l i k≤M+k*(M*255):=by
 intro k
 have hrl:=zIl m hm i hi
 induction k with
 | zero =>
   intro _
   have h3:3<(jH m i).length:=by omega
   have:zAo m l i 0=(jH m i)[3]:=by simp[zAo,h3]
   have:=zHw m M hb i _ (wE1 h3)
   omega
 | succ k ih =>
   intro hk
   have h1:k<(jH m i).length:=by omega
   have h2:k<l.length:=by omega
   have:=ih (by omega)
   rw[zLp m l i k h1 h2]
   obtain⟨a1,a2⟩:=zHw m M hb i _ (wE1 h1)
   obtain⟨b1,b2⟩:=yD.1 hlb _ (wE1 h2)
   generalize (jH m i)[k]=x at *
   generalize l[k]=y at *
   have e1:x*y≤M*y:=wD8 a2 b1
   have e2:M*y≤M*255:=wD9 b2 hM
   have e3: -M*y≤x*y:=wD8 a1 b1
   rw[Int.neg_mul] at e3
   have e4:((k+1:Nat):Int)*(M*255)=k*(M*255)+M*255:=by rw[Int.natCast_succ,Int.add_mul,Int.one_mul]
   omega
theorem zGX (m:List Int) (i:Nat) (hi:i<3) (w:World):(Instr.index 125 (.agg (bv m)) (.int .i64 (i:Int))).run Tryz.prog w=.ok (.agg (bv (jH m i))) w:=by
 have hc:((0:Int)≤(i:Int)∧(i:Int)<((3:Nat):Int))=True:=by simp;omega
 have hso:(sizeOf 124).run Tryz.prog w=.ok 4 w:=by
  cases hq:Tryz.prog.info? 124 with
  | none=>have:=zHn;simp[hq] at this
  | some inf =>
    have:inf.size=4:=by have:=zHn;simpa [hq] using this
    simp[sizeOf,typeInfo,hq,this]
 have e:(bv m).extract (i*4) (i*4+4)=bv (jH m i):=by
  simp[bv,ints,jH,List.extract_toArray,List.extract_eq_take_drop,wG8,wG9]
 simp only[Instr.index,asIntOf,Sem.run_bind,Sem.run_pure,Result.andThen_ok,run_underlying Tryz.underlying125,hc,if_true]
 simp[part,hso,e]
theorem mvals_set (m l:List Int) (i:Nat) (hi:i<3):((List.range i).map (zBC m l)++List.replicate (3-i) 0).set i (zBC m l i)=(List.range (i+1)).map (zBC m l)++List.replicate (3-(i+1)) 0:=by
 have hl:((List.range i).map (zBC m l)).length=i:=by simp
 rw[wF6 _ _ (by omega),hl,wF7]
 obtain⟨j,hj⟩: ∃ j,3-i=j+1:=⟨3-i-1,by omega⟩
 have hj2:3-(i+1)=j:=by omega
 rw[hj,hj2,wF8,wF9,wH0,wH1]
 simp
theorem zIR (cs:Array Value) (i:Nat) (u:Value) (hi:i<3) (hu:cs[i]? =some u) (w:World):(Instr.index 126 (.agg cs) (.int .i64 (i:Int))).run Tryz.prog w=.ok u w :=
 zBZ _ _ 3 cs i u Tryz.underlying126 _ Tryz.underlying3 zFB hi hu w
theorem three_in (m l:List Int) (w:World) (hm:m.length=12) (hl:l.length=3) (hmb: ∀ z∈m, -20000000≤z∧z≤20000000) (hlb:zN l 0 255=true) :
 Calls Tryz.prog 86 #[.agg (bv m),.agg (bv l)] w fun e w'=>e=.returned (.tuple #[.int .i64 (zBC m l 0),.int .i64 (zBC m l 1),.int .i64 (zBC m l 2),.int .i64 0])∧Ext w w':=by
 have HL:=zA hl
 have HLB:=zA (yD.1 hlb)
 have hsm:=zA ((zJ m).trans hm)
 have hsl:=zA ((zJ l).trans hl)
 have HRL:=zA (fun i hi=>zIl m hm i hi)
 have HRB:=zA (zHw m 20000000 hmb)
 have HSB:=zA (msum_bd m l 20000000 (by omega) hmb hm hl hlb)
 have HIR:=zA (fun i hi W=>zGX m i hi W)
 generalize hcm:bv m=cm at *
 generalize hcl:bv l=cl at *
 have HCL:=zA hcl
 clear hcm hcl hm hl hmb hlb
 go_enter Tryz.func86,Tryz.ntmps86
 go_wp2_with (first
  | (refine wBox rfl 125 (.tmp 0) rfl cm rfl ?_;intro w1 gm hbm1 hx1 hgm)
  | (refine wBox rfl 126 (.tmp 1) rfl cl rfl ?_;intro w2 gl hbl2 hx2 hgl;have hbm2:=hbm1.ext hx2)
  | (refine wAlo' rfl (some 8) rfl 126 rfl _ zero66 ?_;intro w3 go hbo3 hx3 hgo;have hbm3:=hbm2.ext hx3;have hbl3:=hbl2.ext hx3)
  | (refine wLdB rfl 125 (.tmp 2) rfl _ rfl hbm3 _ Tryz.underlying125 rfl 12 size65 hsm.out ?_))
 have hne:go≠gl:=by have:=hbl2.lt;omega
 have hgo':w.heap.size≤go:=by have:=hx1.size;have:=hx2.size;omega
 have hxx:=(hx1.trans hx2).trans hx3
 clear hbm1 hbm2 hbm3 hbl2 hx1 hx2 hx3
 go_loopw [15] (fun i wr=> ∃ k:Nat,k≤3∧i=.int .i64 k∧Blk wr gl 126 cl∧Blk wr go 126 (bv ((List.range k).map (zBC m l)++List.replicate (3-k) 0))∧Ext w wr) (fun i _=>3-(intOf i).toNat)
 case atStart=>exact⟨0,by omega,rfl,hbl3,hbo3,hxx⟩
 case round =>
  obtain⟨k,hk,rfl,hb1,hb2,hx⟩:=hrel
  by_cases hlt:k<3
  ·have hix:=HIR.out k hlt
   have hrl:=HRL.out k hlt
   have hrs:=zA ((zJ (jH m k)).trans hrl)
   have hro:=zA (xB (jH m k))
   have hz4:Hid ((Value.agg (bv [0,0,0,0])).cells.size=4):=zA rfl
   have hrz:=zero64_
   have HRZ:=zA hrz
   have h3:3<(jH m k).length:=by omega
   have hr3:=zA (qG (jH m k) 3 h3)
   have HRK:=zA (fun j (hj:j<(jH m k).length)=>qG (jH m k) j hj)
   clear hrz
   generalize bv (jH m k)=cr at *
   go_wp2_with (first
    | (refine wAlo' rfl (some 10) rfl 124 rfl _ HRZ.out ?_;intro w4 gr hbr4 hx4 hgr)
    | (refine wStB rfl 124 (.tmp 10) (.tmp 18) rfl _ _ rfl rfl hbr4 4 zHn hrs.out hz4.out hro.out ?_;intro w5 hbr5 hg5;have hl3:w5.cell? ⟨gr,3,none⟩=some (.int .i64 (jH m k)[3]):=(hbr5.cell 3).trans hr3.out;have hbl5:=(hb1.ext hx4).grown hg5 (by have:=hb1.lt;simp;omega);have hbo5:=(hb2.ext hx4).grown hg5 (by have:=hb2.lt;simp;omega))
    | (refine wLdB rfl 126 (.tmp 3) rfl _ rfl hbl5 _ Tryz.underlying126 rfl 3 size66 hsl.out ?_))
   have hgr':w.heap.size≤gr:=by have:=hx.size;omega
   have hx5:=(hx.trans hx4).grown hg5 hgr'
   clear hb1 hb2 hx hx4 hg5 hbr4
   have hs0:zAo m l k 0=(jH m k)[3]:=by simp[zAo,h3]
   have HS0:=zA hs0
   clear hs0
   go_loop [11,22] (fun s j=> ∃ n:Nat,n≤3∧j=.int .i64 n∧s=.int .i64 (zAo m l k n)) (fun _ j=>3-(intOf j).toNat)
   case atStart=>exact⟨0,by omega,rfl,by rw[HS0.out]⟩
   case round =>
    obtain⟨n,hn,rfl,rfl⟩:=hrel
    by_cases hlt2:n<3
    ·have hnl:n<l.length:=by have:=HL.out;omega
     have hnr:n<(jH m k).length:=by omega
     have hix2:=zIR cl n (.int .i64 l[n]) hlt2 (by rw[←HCL.out];exact qG l n hnl)
     have hrn:w5.cell? ⟨gr,n,none⟩=some (.int .i64 (jH m k)[n]):=(hbr5.cell n).trans (HRK.out n hnr)
     obtain⟨l1,l2⟩:=HLB.out _ (wE1 hnl)
     obtain⟨r1,r2⟩:=HRB.out k _ (wE1 hnr)
     obtain⟨s1,s2⟩:=HSB.out k hlt n hn
     have HN:=zA (zLp m l k n hnr hnl)
     generalize (jH m k)[n]=x at *
     generalize l[n]=y at *
     have e1:x*y≤20000000*y:=wD8 r2 l1
     have e3: -20000000*y≤x*y:=wD8 r1 l1
     generalize zAo m l k n=s at *
     go_wp2_with fail
     go_round
     case rel=>exact⟨n+1,by omega,by go_num,by rw[HN.out]⟩
     case measure=>simp[intOf];omega
    ·obtain rfl:n=3:=by omega
     obtain⟨s1,s2⟩:=HSB.out k hlt 3 hn
     obtain⟨q1,q2⟩:=zQa (zAo m l k 3) 65536 (by omega)
     have HR:=zA (fun W=>zHD (zAo m l k 3) 65536 W (by omega) (by omega) (by omega) (by omega))
     have HM2:Hid (min (max (rnd (zAo m l k 3) 65536) 0) 255=zBC m l k):=zA (by unfold zBC qZ;(repeat' split)<;>omega)
     have HM:Hid ((if 255<(if rnd (zAo m l k 3) 65536<0 then 0 else rnd (zAo m l k 3) 65536) then 255 else (if rnd (zAo m l k 3) 65536<0 then 0 else rnd (zAo m l k 3) 65536))=zBC m l k):=zA (by unfold zBC qZ;(repeat' split)<;>omega)
     obtain⟨old,hold⟩: ∃ u,w5.cell? ⟨go,k,none⟩=some u:=by
      rw[hbo5.cell k]
      have hl:((List.range k).map (zBC m l)++List.replicate (3-k) 0).length=3:=by simp;omega
      exact⟨_,qG _ k (by omega)⟩
     have hfr:=hbo5.frozen k
     generalize rnd (zAo m l k 3) 65536=r at *
     generalize zAo m l k 3=s at *
     go_wp2_with (go_at_call 97;(with_reducible refine (HR.out _).mono ?_);rintro e w' ⟨rfl,rfl⟩)
     first
      | rw[HM.out]
      | rw[HM2.out]
     go_roundw
     case rel =>
      refine⟨k+1,by omega,by go_num,hbl5.far (p:=⟨go,k,none⟩) (by simpa using hne.symm) _, ?_,hx5.setCell (by omega) _⟩
      have:=hbo5.set_ k (.int .i64 (zBC m l k))
      rw[vH,mvals_set m l k hlt] at this
      exact this
     case measure=>simp[intOf];omega
  ·have ek:k=3:=by omega
   rw[ek] at hb2
   have hc0:wr.cell? ⟨go,0,none⟩=some (.int .i64 (zBC m l 0)):=(hb2.cell 0).trans (by rfl)
   have hc1:wr.cell? ⟨go,1,none⟩=some (.int .i64 (zBC m l 1)):=(hb2.cell 1).trans (by rfl)
   have hc2:wr.cell? ⟨go,2,none⟩=some (.int .i64 (zBC m l 2)):=(hb2.cell 2).trans (by rfl)
   go_wp2_with fail
   go_quiet (fail)
   go_wp2_with fail
   (try simp only[Exit.inBlock,Exit.then]);refine bodyPost_ret (zBh rfl _ _ _) rfl ?_;exact⟨rfl,hx.trans (zIY (Ext.refl wr) nq)⟩
theorem three_out (m l:List Int) (w:World) (hm:m.length=12) (hl:l.length=3) (hmb: ∀ z∈m, -20000000≤z∧z≤20000000) (hlb:zN l 0 255=false) :
 Calls Tryz.prog 86 #[.agg (bv m),.agg (bv l)] w fun e w'=>e=.returned (.tuple #[.int .i64 0,.int .i64 0,.int .i64 0,.int .i64 1])∧Ext w w':=by
 have HL:=zA hl
 have HLB:=zA hlb
 have hsm:=zA ((zJ m).trans hm)
 have hsl:=zA ((zJ l).trans hl)
 have hrl:=zIl m hm 0 (by omega)
 have HRB:=zA (zHw m 20000000 hmb 0)
 have HIR:=fun W=>zGX m 0 (by omega) W
 generalize hcm:bv m=cm at *
 generalize hcl:bv l=cl at *
 have HCL:=zA hcl
 clear hcm hcl hm hl hmb hlb
 have hrs:=zA ((zJ (jH m 0)).trans hrl)
 have hro:=zA (xB (jH m 0))
 have hz4:Hid ((Value.agg (bv [0,0,0,0])).cells.size=4):=zA rfl
 have hrz:=zero64_
 have HRZ:=zA hrz
 have h3:3<(jH m 0).length:=by omega
 have hr3:=zA (qG (jH m 0) 3 h3)
 have HRK:=zA (fun j (hj:j<(jH m 0).length)=>qG (jH m 0) j hj)
 clear hrz
 generalize bv (jH m 0)=cr at *
 go_enter Tryz.func86,Tryz.ntmps86
 go_wp2_with (first
  | (refine wBox rfl 125 (.tmp 0) rfl cm rfl ?_;intro w1 gm hbm1 hx1 hgm)
  | (refine wBox rfl 126 (.tmp 1) rfl cl rfl ?_;intro w2 gl hbl2 hx2 hgl;have hbm2:=hbm1.ext hx2)
  | (refine wAlo' rfl (some 8) rfl 126 rfl _ zero66 ?_;intro w3 go hbo3 hx3 hgo;have hbm3:=hbm2.ext hx3;have hbl3:=hbl2.ext hx3)
  | (refine wLdB rfl 125 (.tmp 2) rfl _ rfl hbm3 _ Tryz.underlying125 rfl 12 size65 hsm.out ?_))
 have hxx:=(hx1.trans hx2).trans hx3
 clear hbm1 hbm2 hbm3 hbl2 hx1 hx2 hx3
 go_loopw [15] (fun i wr=>i=.int .i64 0∧Blk wr gl 126 cl∧Ext w wr) (fun i _=>3-(intOf i).toNat)
 case atStart=>exact⟨rfl,hbl3,hxx⟩
 case round =>
  obtain⟨rfl,hb1,hx⟩:=hrel
  have hix: ∀ W,(Instr.index 125 (.agg cm) (.int .i64 0)).run Tryz.prog W=.ok (.agg cr) W:=HIR
  go_wp2_with (first
   | (refine wAlo' rfl (some 10) rfl 124 rfl _ HRZ.out ?_;intro w4 gr hbr4 hx4 hgr)
   | (refine wStB rfl 124 (.tmp 10) (.tmp 18) rfl _ _ rfl rfl hbr4 4 zHn hrs.out hz4.out hro.out ?_;intro w5 hbr5 hg5;have hl3:w5.cell? ⟨gr,3,none⟩=some (.int .i64 (jH m 0)[3]):=(hbr5.cell 3).trans hr3.out;have hbl5:=(hb1.ext hx4).grown hg5 (by have:=hb1.lt;simp;omega))
   | (refine wLdB rfl 126 (.tmp 3) rfl _ rfl hbl5 _ Tryz.underlying126 rfl 3 size66 hsl.out ?_))
  have hgr':w.heap.size≤gr:=by have:=hx.size;omega
  have hx5:=(hx.trans hx4).grown hg5 hgr'
  clear hb1 hx hx4 hg5 hbr4
  obtain⟨b1,b2⟩:=HRB.out _ (wE1 h3)
  go_loop [11,22] (fun s j=> ∃ n:Nat,n≤3∧j=.int .i64 n∧(∃ z:Int,s=.int .i64 z∧ -(20000000+n*(20000000*255))≤z∧z≤20000000+n*(20000000*255))∧ ∀ z∈l.take n,0≤z∧z≤255) (fun _ j=>3-(intOf j).toNat)
  case atStart=>exact⟨0,by omega,rfl,⟨_,rfl,by omega,by omega⟩,by simp⟩
  case round =>
   obtain⟨n,hn,rfl,⟨s,rfl,s1,s2⟩,hin⟩:=hrel
   by_cases hlt2:n<3
   ·have hnl:n<l.length:=by have:=HL.out;omega
    have hnr:n<(jH m 0).length:=by omega
    have hix2:=zIR cl n (.int .i64 l[n]) hlt2 (by rw[←HCL.out];exact qG l n hnl)
    have hrn:w5.cell? ⟨gr,n,none⟩=some (.int .i64 (jH m 0)[n]):=(hbr5.cell n).trans (HRK.out n hnr)
    obtain⟨r1,r2⟩:=HRB.out _ (wE1 hnr)
    have HIN:=zA hin
    clear hin
    by_cases h0:l[n]<0
    ·clear s1 s2
     go_wp2_with fail
     (try simp only[Exit.inBlock,Exit.then]);refine bodyPost_ret (zBh rfl _ _ _) rfl ?_;exact⟨rfl,hx5⟩
    ·by_cases h1:255<l[n]
     ·clear s1 s2
      go_wp2_with fail
      (try simp only[Exit.inBlock,Exit.then]);refine bodyPost_ret (zBh rfl _ _ _) rfl ?_;exact⟨rfl,hx5⟩
     ·have HN:=zA (zFh HIN.out hnl (lo:=0) (hi:=255) ⟨by omega,by omega⟩)
      generalize (jH m 0)[n]=x at *
      generalize l[n]=y at *
      have e1:x*y≤20000000*y:=wD8 r2 (by omega)
      have e3: -20000000*y≤x*y:=wD8 r1 (by omega)
      go_wp2_with fail
      go_round
      case rel=>exact⟨n+1,by omega,by go_num,⟨_,rfl,by omega,by omega⟩,HN.out⟩
      case measure=>simp[intOf];omega
   ·exfalso
    have:=HLB.out
    rw[←wE0,yD] at this
    refine this fun z hz=>hin z ?_
    rwa [wC4 (by have:=HL.out;omega)]
def uX (m l:List Int):Int×Int×Int×Int:=if zN l 0 255 then (zBC m l 0,zBC m l 1,zBC m l 2,0) else (0,0,0,1)
theorem zMC (m l:List Int) (w:World) (hm:m.length=12) (hl:l.length=3) (hmb: ∀ z∈m, -20000000≤z∧z≤20000000) :
 Calls Tryz.prog 86 #[.agg (bv m),.agg (bv l)] w fun e w'=>e=.returned (.tuple #[.int .i64 (uX m l).1,.int .i64 (uX m l).2.1,.int .i64 (uX m l).2.2.1,.int .i64 (uX m l).2.2.2])∧Ext w w':=by
 unfold uX
 cases h1:zN l 0 255 with
 | false=>simpa using three_out m l w hm hl hmb h1
 | true=>simpa using three_in m l w hm hl hmb h1
set_option maxRecDepth 20000
def toM:List Int:=[19595,38470,7471,0, -11059, -21709,32768,8388608,32768, -27439, -5329,8388608]
theorem zPw (r g b:Int) (w:World):Calls Tryz.prog 39 #[.int .i64 r,.int .i64 g,.int .i64 b] w fun e w'=>e=.returned (.tuple #[.int .i64 (uX toM [r,g,b]).1,.int .i64 (uX toM [r,g,b]).2.1,.int .i64 (uX toM [r,g,b]).2.2.1,.int .i64 (uX toM [r,g,b]).2.2.2])∧Ext w w':=by
 have HT:=zA (fun W=>zMC toM [r,g,b] W rfl rfl (by decide))
 have e1:bv toM= #[.int .i64 19595,.int .i64 38470,.int .i64 7471,.int .i64 0,.int .i64 (-11059),.int .i64 (-21709),.int .i64 32768,.int .i64 8388608,.int .i64 32768,.int .i64 (-27439),.int .i64 (-5329),.int .i64 8388608]:=rfl
 have e2:bv [r,g,b]= #[.int .i64 r,.int .i64 g,.int .i64 b]:=rfl
 rw[e1,e2] at HT
 clear e1 e2
 generalize uX toM [r,g,b]=t at *
 go_enter Tryz.func39,Tryz.ntmps39
 go_wp2_with (first
  | (go_at_call 86;(with_reducible refine (HT.out _).mono ?_);rintro e w1 ⟨rfl,hx1⟩))
 (try simp only[Exit.inBlock,Exit.then]);refine bodyPost_ret (zBh rfl _ _ _) rfl ?_;exact⟨rfl,hx1⟩
def frM:List Int:=[65536,0,91881, -11760768,65536, -22554, -46802,8877568,65536,116130,0, -14864640]
theorem zOh (y u v:Int) (w:World):Calls Tryz.prog 115 #[.int .i64 y,.int .i64 u,.int .i64 v] w fun e w'=>e=.returned (.tuple #[.int .i64 (uX frM [y,u,v]).1,.int .i64 (uX frM [y,u,v]).2.1,.int .i64 (uX frM [y,u,v]).2.2.1,.int .i64 (uX frM [y,u,v]).2.2.2])∧Ext w w':=by
 have HT:=zA (fun W=>zMC frM [y,u,v] W rfl rfl (by decide))
 have e1:bv frM= #[.int .i64 65536,.int .i64 0,.int .i64 91881,.int .i64 (-11760768),.int .i64 65536,.int .i64 (-22554),.int .i64 (-46802),.int .i64 8877568,.int .i64 65536,.int .i64 116130,.int .i64 0,.int .i64 (-14864640)]:=rfl
 have e2:bv [y,u,v]= #[.int .i64 y,.int .i64 u,.int .i64 v]:=rfl
 rw[e1,e2] at HT
 clear e1 e2
 generalize uX frM [y,u,v]=t at *
 go_enter Tryz.func115,Tryz.ntmps115
 go_wp2_with (first
  | (go_at_call 86;(with_reducible refine (HT.out _).mono ?_);rintro e w1 ⟨rfl,hx1⟩))
 (try simp only[Exit.inBlock,Exit.then]);refine bodyPost_ret (zBh rfl _ _ _) rfl ?_;exact⟨rfl,hx1⟩
section
variable {P:Program} {ops:Array Oper} {C:World→Prop} {Q:Act→Prop} {a:Act} {o:Oper} {rest:List Oper}
theorem q_at (hw:Region.wanted o (yielded ops a.tmps)=true) (v:Value) (hq: ∀ w,C w→o.quietAt P a C w v) (h:wpQuiet P ops C Q rest (a.put o.dst v)):wpQuiet P ops C Q (o::rest) a:=by
 refine wpQuiet_step fun K hK=> ?_
 rw[if_pos hw]
 exact⟨v,hq,hK _ h⟩
theorem q_run (hw:Region.wanted o (yielded ops a.tmps)=true) (v:Value) (hq: ∀ w,(execOp a.eval o).run P w=.ok (.value v) w) (h:wpQuiet P ops C Q rest (a.put o.dst v)):wpQuiet P ops C Q (o::rest) a :=
 q_at hw v (fun w _=>by unfold Oper.quietAt;rw[hq];exact⟨rfl,rfl⟩) h
theorem zDW (hw:Region.wanted o (yielded ops a.tmps)=true) (x:Operand) (ho:o.op=.move x) (v:Value) (hx:a.eval x=v) (h:wpQuiet P ops C Q rest (a.put o.dst v)):wpQuiet P ops C Q (o::rest) a :=
 q_run hw _ (fun w=>by simp[execOp,ho,hx]) h
theorem q_call (hw:Region.wanted o (yielded ops a.tmps)=true) (f:FuncId) (args:Array Value) (he: ∀ w,(execOp a.eval o).run P w=.ok (.enter f args) w) (v:Value)
 (hc: ∀ w,C w→Calls P f args w fun e w'=>e=.returned v∧C w') (h:wpQuiet P ops C Q rest (a.put o.dst v)):wpQuiet P ops C Q (o::rest) a:=by
 refine q_at hw v (fun w hC=> ?_) h
 unfold Oper.quietAt
 rw[he]
 exact⟨rfl,hc w hC⟩
theorem zED (hw:Region.wanted o (yielded ops a.tmps)=true) (op:BinOp) (t:TypeId) (x y:Operand) (t2:TypeId) (ho:o.op=.binOp op t x y t2) (vx vy:Value) (hx:a.eval x=vx) (hy:a.eval y=vy) (v:Value)
 (hg: ∀ w,(eqGuard op t x y vx vy).run P w=.ok () w) (hr: ∀ w,(binOp op t vx vy).run P w=.ok v w) (h:wpQuiet P ops C Q rest (a.put o.dst v)):wpQuiet P ops C Q (o::rest) a :=
 q_run hw v (fun w=>by simp[execOp,ho,hx,hy,hg,hr]) h
end
def uR (s:Oper):Oper:={ s with op:=.move (.const undef) }
def fwdB (md:Region.Mode) (ops:Array Oper):Bool :=
 (List.range ops.size).all fun j=>match ops[j]? with | some o=>o.after.all fun e=> !Region.binds md e ||decide (e.on<j) | none=>true
section
variable {P:Program} {C:World→Prop} {head:List Oper} {s:Oper}
theorem zDy (x:Oper):((head++[x]).toArray)[head.length]? =some x:=by simp
theorem zKj (x y:Oper) (j:Nat) (h:j≠head.length):((head++[x]).toArray)[j]? =((head++[y]).toArray)[j]? :=by
 simp only[wH2]
 rcases wA3 j head.length with h1 | h1
 ·rw[wG4 h1,wG4 h1]
 ·rw[wG5 h1,wG5 h1,wH3 (by simp;omega),wH3 (by simp;omega)]
theorem zKC (md:Region.Mode) (listed:Array Bool) (j:Nat):j∈Region.ready md (head++[uR s]).toArray listed↔j∈Region.ready md (head++[s]).toArray listed:=by
 rw[mem_ready,mem_ready]
 by_cases hj:j=head.length
 ·subst hj
  rw[zDy,zDy]
  constructor
  ·rintro⟨h1,o,ho,h2⟩
   injection ho with ho
   subst ho
   exact⟨h1,s,rfl,h2⟩
  ·rintro⟨h1,o,ho,h2⟩
   injection ho with ho
   subst ho
   exact⟨h1,uR s,rfl,h2⟩
 ·rw[zKj (uR s) s j hj]
theorem zNW (hs:s.dst=none) (tmps:Array Value):yielded (head++[uR s]).toArray tmps=yielded (head++[s]).toArray tmps:=by
 funext j
 unfold yielded
 by_cases hj:j=head.length
 ·subst hj
  rw[zDy,zDy]
  simp[uR,hs]
 ·rw[zKj (uR s) s j hj]
theorem zQb {md:Region.Mode} {ops:Array Oper} {listed:Array Bool} (hf:fwdB md ops=true) (hr: ∀ j,j∉Region.ready md ops listed) (hsz:listed.size=ops.size): ∀ j,j<ops.size→listed.getD j true=true:=by
 intro j
 induction j using Nat.strongRecOn with
 | _ j ih =>
   intro hj
   cases hl:listed.getD j true with
   | true=>rfl
   | false =>
     refine absurd (mem_ready.2 ⟨hl,ops[j],by simp[hj],fun e he hb=> ?_⟩) (hr j)
     have h1:=wB5.1 hf j (wB7.2 hj)
     simp only[hj,wF0] at h1
     have h2:=wH4.1 h1 e he
     simp only[hb,Bool.not_true,wB8,wB3] at h2
     have h3:=ih e.on h2 (by omega)
     have h4:e.on<listed.size:=by omega
     simpa [h4] using h3
theorem bridge {Q:Exit→Act→World→Prop} (hs:s.dst=none) (hgd:s.guard=none) (hS:Region.sinkB .any (head++[s]).toArray head.length=true) (hF:fwdB .any (head++[s]).toArray=true) :
 ∀ (f:Nat) (listed:Array Bool) (a:Act) (w:World),HeadInv .any (head++[s]).toArray head.length listed→C w →
  wpAnyQ P .any (head++[uR s]).toArray C (fun a'=> ∀ w',C w'→s.wp P a' w' (fun a'' w''=>Q .normal a'' w'') Q) f listed a→wpAny P .any (head++[s]).toArray Q f listed a w:=by
 have hsz:(head++[s]).toArray.size=head.length+1:=by simp
 have hC:Region.chainB .any (head++[s]).toArray head.length=true:=by
  unfold Region.chainB
  rw[wB5]
  intro t ht
  have:=wB7.1 ht
  simp only[wB9,wB3]
  left;omega
 have hno: ∀ listed:Array Bool,HeadInv .any (head++[s]).toArray head.length listed→Region.ready .any (head++[s]).toArray listed=[]→False:=by
  intro listed inv h0
  have:=zQb hF (fun j=>by rw[h0];simp) inv.size head.length (by omega)
  rw[inv.tail head.length (wA5 _) (by omega)] at this
  cases this
 intro f
 induction f with
 | zero =>
   intro listed a w inv _ h
   refine (hno listed inv ?_).elim
   refine wH5.2 fun j hj=> ?_
   have:=(zKC (s:=s) .any listed j).2 hj
   rw[h.1] at this
   cases this
 | succ f ih =>
   intro listed a w inv hw h
   refine⟨fun h0=>(hno listed inv h0).elim,fun i hi=> ?_⟩
   have hq:=h.2 i ((zKC (s:=s) .any listed i).2 hi)
   have hlt:i<head.length+1:=by
    obtain⟨-,o,ho, -⟩:=mem_ready.1 hi
    have:=(wB6.1 ho).1
    omega
   by_cases hin:i<head.length
   ·have hq':qOp P (head++[s]).toArray C i (wpAnyQ P .any (head++[uR s]).toArray C (fun a'=> ∀ w',C w'→s.wp P a' w' (fun a'' w''=>Q .normal a'' w'') Q) f (listed.setIfInBounds i true)) a:=by
     unfold qOp at hq ⊢
     rw[zKj (uR s) s i (by omega),zNW hs] at hq
     exact hq
    exact wpOp_of_qOp hw (fun a' w' hw' hk=>ih _ a' w' (inv.set hi hin) hw' hk) hq'
   ·obtain rfl:i=head.length:=by omega
    -- all others are listed
    have hall: ∀ j,j<head.length→listed.getD j true=true:=by
     intro j hj
     cases hl:listed.getD j true with
     | true=>rfl
     | false=>exact absurd hi (tail_waits hS hC (by omega) inv _ j rfl hj hl head.length (wA5 _))
    have hdone: ∀ md ops,ops.size=head.length+1→Region.ready md ops (listed.setIfInBounds head.length true)=[]:=by
     intro md ops ho
     refine wH5.2 fun j hj=> ?_
     obtain⟨h1,o,h2, -⟩:=mem_ready.1 hj
     have h3:j<ops.size:=(wB6.1 h2).1
     by_cases hjn:j=head.length
     ·rw[hjn] at h1
      have h4:head.length<listed.size:=by rw[inv.size];omega
      simp[h4] at h1
     ·rw[getD_set_ne true (by omega),hall j (by omega)] at h1
      cases h1
    have hQ: ∀ w',C w'→s.wp P a w' (fun a'' w''=>Q .normal a'' w'') Q:=by
     unfold qOp at hq
     rw[zDy] at hq
     have hwn:Region.wanted (uR s) (yielded (head++[uR s]).toArray a.tmps)=true:=by simp[Region.wanted,uR,hgd]
     simp only[hwn,if_true] at hq
     obtain⟨v, -,hk⟩:=hq
     have hput:a.put (uR s).dst v=a:=by simp[uR,hs,Act.put]
     rw[hput] at hk
     cases f with
     | zero=>exact hk.2
     | succ f=>exact hk.1 (hdone _ _ (by simp))
    have hwp:=Oper.wp_mono (K':=wpAny P .any (head++[s]).toArray Q f (listed.setIfInBounds head.length true)) (fun a' w' hk=>by
     cases f with
     | zero=>exact⟨hdone _ _ hsz,hk⟩
     | succ f=>exact⟨fun _=>hk,fun i hi=>by rw[hdone _ _ hsz] at hi;cases hi⟩) (hQ w hw)
    unfold wpOp
    rw[zDy]
    have hwn:Region.wanted s (yielded (head++[s]).toArray a.tmps)=true:=by simp[Region.wanted,hgd]
    simp only[hwn,if_true]
    exact .inl hwp
theorem zKX {ops:Array Oper} {Q:Act→Prop} (m:List Oper): ∀ (l:List Oper) (a:Act),wpQuiet P ops C (fun a'=>wpQuiet P ops C Q m a') l a→wpQuiet P ops C Q (l++m) a:=by
 intro l
 induction l with
 | nil=>intro a h;exact h
 | cons o l ih =>
   intro a h
   show wpQuiet P ops C Q (o::(l++m)) a
   unfold wpQuiet at h ⊢
   split
   ·next hw=>rw[if_pos hw] at h;exact Oper.quiet_mono (fun a' h'=>ih a' h') h
   ·next hw=>rw[if_neg hw] at h;exact ih _ h
theorem zMt {ops:Array Oper} {Q Q':Act→Prop} (hQ: ∀ a,Q a→Q' a): ∀ (l:List Oper) (a:Act),wpQuiet P ops C Q l a→wpQuiet P ops C Q' l a:=by
 intro l
 induction l with
 | nil=>intro a h;exact hQ a h
 | cons o l ih =>
   intro a h
   unfold wpQuiet at h ⊢
   split
   ·next hw=>rw[if_pos hw] at h;exact Oper.quiet_mono (fun a' h'=>ih a' h') h
   ·next hw=>rw[if_neg hw] at h;exact ih _ h
theorem zFI {id:Nat} {Q:Exit→Act→World→Prop} {a:Act} {w:World} (hm:P.follows .mixedOrders=true) (hs:s.dst=none) (hgd:s.guard=none)
 (hB:Region.lexB .any (head++[uR s]).toArray=true) (hS:Region.sinkB .any (head++[s]).toArray head.length=true) (hF:fwdB .any (head++[s]).toArray=true) (hC:C { w with drawn:=w.drawn+1 })
 (h:wpQuiet P (head++[uR s]).toArray C (fun a'=> ∀ w',C w'→s.wp P a' w' (fun a'' w''=>Q .normal a'' w'') Q) head a):(Code.region id (head++[s]).toArray true).wp P Q a w:=by
 simp only[Region.lexB,wA9] at hB
 refine wp_region_any hm ?_
 have hq:wpQuiet P (head++[uR s]).toArray C (fun a'=> ∀ w',C w'→s.wp P a' w' (fun a'' w''=>Q .normal a'' w'') Q) (head++[uR s]) a:=by
  refine zKX [uR s] head a ?_
  refine zMt ?_ head a h
  intro a' ha'
  refine zDW (by simp[Region.wanted,uR,hgd]) (.const undef) rfl undef rfl ?_
  have hput:a'.put (uR s).dst undef=a':=by simp[uR,hs,Act.put]
  rw[hput]
  exact ha'
 have H:=wpAnyQ_lex (C:=C) (md:=.any) hB.1 (head++[uR s]) 0 (Array.replicate (head++[uR s]).toArray.size false) a (by simp) (by simpa using hB.2) hq
 have e:(head++[uR s]).length=(head++[s]).toArray.size:=by simp
 have e2:(head++[uR s]).toArray.size=(head++[s]).toArray.size:=by simp
 rw[e,e2] at H
 exact bridge hs hgd hS hF _ _ a _ ⟨by simp,fun j oj _ hl=>(by rw[getD_replicate_false] at hl;cases hl),fun t _ ht=>getD_in (by simpa using ht) (getD_replicate_false _ _)⟩ hC H
theorem zFr {l:List Oper} {id:Nat} {Q:Exit→Act→World→Prop} {a:Act} {w:World} (hl:l.dropLast++[s]=l) (hm:P.follows .mixedOrders=true) (hs:s.dst=none) (hgd:s.guard=none)
 (hB:Region.lexB .any (l.dropLast++[uR s]).toArray=true) (hS:Region.sinkB .any l.toArray l.dropLast.length=true) (hF:fwdB .any l.toArray=true) (hC:C { w with drawn:=w.drawn+1 })
 (h: ∀ ops:Array Oper,wpQuiet P ops C (fun a'=> ∀ w',C w'→s.wp P a' w' (fun a'' w''=>Q .normal a'' w'') Q) l.dropLast a):(Code.region id l.toArray true).wp P Q a w:=by
 have:=zFI (head:=l.dropLast) (s:=s) (id:=id) (Q:=Q) (a:=a) (w:=w) (C:=C) hm hs hgd hB (by rw[hl];exact hS) (by rw[hl];exact hF) hC (h _)
 rwa [hl] at this
end
section
variable {P:Program} {ops:Array Oper} {C:World→Prop} {Q:Act→Prop} {a:Act} {o:Oper} {rest:List Oper}
theorem q_addr (hw:Region.wanted o (yielded ops a.tmps)=true) (t:TypeId) (x ix:Operand) (ho:o.op=.indexAddr t x ix) (vx vi:Value) (hx:a.eval x=vx) (hi:a.eval ix=vi) (v:Value) (hr: ∀ w,(Instr.indexAt t vx vi).run P w=.ok v w) (h:wpQuiet P ops C Q rest (a.put o.dst v)):wpQuiet P ops C Q (o::rest) a :=
 q_run hw v (fun w=>by simp[execOp,ho,hx,hi,hr]) h
theorem q_load (hw:Region.wanted o (yielded ops a.tmps)=true) (t:TypeId) (x:Operand) (ho:o.op=.load t x) (vx:Value) (hx:a.eval x=vx) (v:Value) (hr: ∀ w,C w→(Instr.loadAt t vx).run P w=.ok v w) (h:wpQuiet P ops C Q rest (a.put o.dst v)):wpQuiet P ops C Q (o::rest) a :=
 q_at hw v (fun w hC=>by unfold Oper.quietAt;simp[execOp,ho,hx,hr w hC,Oper.quietUpon]) h
theorem q_callV (hw:Region.wanted o (yielded ops a.tmps)=true) (f:FuncId) (x:Operand) (xs:Array Operand) (ts:Array TypeId)
 (ho:o.op=.call { callee:=.value x,args:=xs,argTypes:=ts }) (hf:a.eval x=.func (.func f) #[] #[]) (he: ∀ (args:Array Value) (w:World),(callFunc f args).run P w=.ok (.enter f args) w) (args:Array Value) (hx:xs.map a.eval=args) (v:Value)
 (hc: ∀ w,C w→Calls P f (args++ #[]) w fun e w'=>e=.returned v∧C w') (h:wpQuiet P ops C Q rest (a.put o.dst v)):wpQuiet P ops C Q (o::rest) a:=by
 refine q_call hw f (args++ #[]) (fun w=> ?_) v hc h
 simp[execOp,ho,resolve,hx,hf,Deferred.ofValue,invoke,he]
end
def zAC:Nat→(Nat→Int)→Int
 | 0,_=>0
 | n+1,f=>zAC n f+f n
theorem zAg (n:Nat) (f:Nat→Int):zAC (n+1) f=zAC n f+f n:=rfl
theorem zIP (n:Nat) (f g:Nat→Int) (h: ∀ k,k<n→f k=g k):zAC n f=zAC n g:=by
 induction n with
 | zero=>rfl
 | succ n ih=>rw[zAg,zAg,ih fun k hk=>h k (by omega),h n (by omega)]
theorem sumTo_add (m n:Nat) (f:Nat→Int):zAC (m+n) f=zAC m f+zAC n (fun k=>f (m+k)):=by
 induction n with
 | zero=>simp[zAC]
 | succ n ih=>rw[←wA0,zAg,ih,zAg];omega
theorem zQH (n:Nat) (f:Nat→Int):zAC (8*n) f=zAC n (fun r=>zAC 8 (fun k=>f (8*r+k))):=by
 induction n with
 | zero=>rfl
 | succ n ih=>rw[show 8*(n+1)=8*n+8 by omega,sumTo_add,ih,zAg n]
theorem zRK (n:Nat) (f:Nat→Int) (c:Int):zAC n f*c=zAC n (fun k=>f k*c):=by
 induction n with
 | zero=>simp[zAC]
 | succ n ih=>rw[zAg,zAg,Int.add_mul,ih]
theorem zMy (n:Nat) (f:Nat→Int) (M:Int) (h: ∀ k,k<n→ -M≤f k∧f k≤M): -(n*M)≤zAC n f∧zAC n f≤n*M:=by
 induction n with
 | zero=>simp[zAC]
 | succ n ih =>
   have a:=ih fun k hk=>h k (by omega)
   have b:=h n (by omega)
   rw[zAg,Int.natCast_succ,Int.add_mul,Int.one_mul]
   omega
def vT (C:Nat→Nat→Int) (b:List Int) (i row k:Nat):Int:=zAC k (fun k=>b.getD (8*row+k) 0*C i k)
def qQ (C:Nat→Nat→Int) (b:List Int):List Int:=(List.range 64).map fun m=>vT C b (m/8) (m%8) 8
theorem zDi (C:Nat→Nat→Int) (b:List Int):(qQ C b).length=64:=by simp[qQ]
theorem zME (C:Nat→Nat→Int) (b:List Int) (m:Nat) (h:m<64):(qQ C b).getD m 0=vT C b (m/8) (m%8) 8:=by
 simp[qQ,h]
def zGL (C:Nat→Nat→Int) (b:List Int) (i k:Nat):Int:=b.getD k 0*C (i%8) (k%8)*C (i/8) (k/8)
def zEz (C:Nat→Nat→Int) (b:List Int) (i:Nat):Int:=zAC 64 (zGL C b i)
theorem zRJ (C:Nat→Nat→Int) (b:List Int) (i:Nat) (h:i<64):(qQ C (qQ C b)).getD i 0=zEz C b i:=by
 rw[zME _ _ _ h]
 unfold zEz
 rw[show 64=8*8 from rfl,zQH]
 unfold vT
 refine zIP _ _ _ fun r hr=> ?_
 rw[zME _ _ _ (by omega),show (8*(i%8)+r)/8=i%8 by omega,show (8*(i%8)+r)%8=r by omega]
 unfold vT
 rw[zRK]
 refine zIP _ _ _ fun k hk=> ?_
 unfold zGL
 rw[show (8*r+k)%8=k by omega,show (8*r+k)/8=r by omega]
theorem zPg (C:Nat→Nat→Int) (b:List Int):qQ C (qQ C b)=(List.range 64).map (zEz C b):=by
 refine wH6 (by simp[qQ]) fun i h1 h2=> ?_
 have hi:i<64:=by simpa [qQ] using h1
 have:=zRJ C b i hi
 rw[wF2,wA2 h1] at this
 simpa using this
theorem zHx (x y M K:Int) (hM:0≤M) (h1: -M≤x) (h2:x≤M) (h3: -K≤y) (h4:y≤K): -(M*K)≤x*y∧x*y≤M*K:=by
 have hK:0≤K:=by omega
 rcases Int.le_total 0 y with hy | hy
 ·have e1:x*y≤M*y:=wD8 h2 hy
  have e2:M*y≤M*K:=wD9 h4 hM
  have e3: -M*y≤x*y:=wD8 h1 hy
  rw[Int.neg_mul] at e3
  omega
 ·have e1:x*(-y)≤M*(-y):=wD8 h2 (by omega)
  have e2:M*(-y)≤M*K:=wD9 (by omega) hM
  have e3: -M*(-y)≤x*(-y):=wD8 h1 (by omega)
  simp only[Int.mul_neg,Int.neg_mul,Int.neg_neg] at e1 e2 e3
  omega
theorem zJe (C:Nat→Nat→Int) (b:List Int) (M:Int) (hM:0≤M) (hb: ∀ z∈b, -M≤z∧z≤M) (hC: ∀ i k,i<8→k<8→ -4096≤C i k∧C i k≤4096) (i row k:Nat) (hi:i<8) (hk:k≤8) :
 -(8*(M*4096))≤vT C b i row k∧vT C b i row k≤8*(M*4096):=by
 have:=zMy k (fun k=>b.getD (8*row+k) 0*C i k) (M*4096) (fun j hj=>by
  have hz: -M≤b.getD (8*row+j) 0∧b.getD (8*row+j) 0≤M:=by
   rw[wF2]
   rcases wA3 (8*row+j) b.length with h | h
   ·rw[wA2 h];exact hb _ (wE1 h)
   ·rw[wH3 h];simp;omega
  have hc:=hC i j hi (by omega)
  exact zHx _ _ M 4096 hM hz.1 hz.2 hc.1 hc.2)
 have h0:0≤M*4096:=Int.mul_nonneg hM (by omega)
 have h1:(k:Int)*(M*4096)≤8*(M*4096):=wD8 (by omega) h0
 unfold vT
 omega
theorem zLf (C:Nat→Nat→Int) (b:List Int) (M:Int) (hM:0≤M) (hb: ∀ z∈b, -M≤z∧z≤M) (hC: ∀ i k,i<8→k<8→ -4096≤C i k∧C i k≤4096) :
 ∀ z∈qQ C b, -(8*(M*4096))≤z∧z≤8*(M*4096):=by
 intro z hz
 unfold qQ at hz
 obtain⟨m,hm,rfl⟩:=wD6.1 hz
 have:m<64:=by simpa using hm
 exact zJe C b M hM hb hC _ _ 8 (by omega) (by omega)
def zEh (C:Nat→Nat→Int) (b:List Int) (row i k m:Nat):Int :=
 if m%8<row then vT C b (m/8) (m%8) 8
 else if m%8=row then (if m/8<i then vT C b (m/8) (m%8) 8 else if m/8=i then vT C b (m/8) (m%8) k else 0) else 0
def uC (C:Nat→Nat→Int) (b:List Int) (row i k:Nat):List Int:=(List.range 64).map (zEh C b row i k)
theorem range_set (f g:Nat→Int) (m0:Nat) (v:Int) (_:m0<64) (h1:g m0=v) (h2: ∀ m,m≠m0→g m=f m):((List.range 64).map f).set m0 v=(List.range 64).map g:=by
 refine wH6 (by simp) fun m h3 h4=> ?_
 rw[wH7]
 split
 ·next h=>subst h;simp[h1]
 ·next h=>simp[h2 m (fun e=>h e.symm)]
theorem partL_len (C:Nat→Nat→Int) (b:List Int) (row i k:Nat):(uC C b row i k).length=64:=by simp[uC]
theorem zPS (C:Nat→Nat→Int) (b:List Int):uC C b 0 0 0=List.replicate 64 0:=by
 refine wH6 (by simp[uC]) fun m h1 h2=> ?_
 simp only[uC,wH8,wH9,List.getElem_replicate]
 unfold zEh vT
 split
 ·omega
 ·split
  ·split
   ·omega
   ·split<;>rfl
  ·rfl
theorem partL_end (C:Nat→Nat→Int) (b:List Int):uC C b 8 0 0=qQ C b:=by
 refine wI0 fun m hm=> ?_
 have:m<64:=by simpa using hm
 unfold zEh
 rw[if_pos (by omega)]
theorem partL_row (C:Nat→Nat→Int) (b:List Int) (row:Nat):uC C b row 8 0=uC C b (row+1) 0 0:=by
 refine wI0 fun m hm=> ?_
 have:m<64:=by simpa using hm
 unfold zEh
 by_cases h1:m%8<row
 ·rw[if_pos h1,if_pos (by omega)]
 ·rw[if_neg h1]
  by_cases h2:m%8=row
  ·rw[if_pos h2,if_pos (by omega),if_pos (by omega)]
  ·rw[if_neg h2,if_neg (by omega)]
   split
   ·rw[if_neg (by omega)];split<;>rfl
   ·rfl
theorem zPB (C:Nat→Nat→Int) (b:List Int) (row i:Nat):uC C b row i 8=uC C b row (i+1) 0:=by
 refine wI0 fun m hm=> ?_
 have:m<64:=by simpa using hm
 unfold zEh
 by_cases h1:m%8<row
 ·rw[if_pos h1,if_pos h1]
 ·rw[if_neg h1,if_neg h1]
  by_cases h2:m%8=row
  ·rw[if_pos h2,if_pos h2]
   by_cases h3:m/8<i
   ·rw[if_pos h3,if_pos (by omega)]
   ·rw[if_neg h3]
    by_cases h4:m/8=i
    ·rw[if_pos h4,if_pos (by omega)]
    ·rw[if_neg h4,if_neg (by omega)]
     split<;>rfl
  ·rw[if_neg h2,if_neg h2]
theorem partL_at (C:Nat→Nat→Int) (b:List Int) (row i k:Nat) (hr:row<8) (_:i<8) (h:8*i+row<(uC C b row i k).length):(uC C b row i k)[8*i+row]=vT C b i row k:=by
 simp only[uC,wH8,wH9]
 unfold zEh
 rw[if_neg (by omega),if_pos (by omega),if_neg (by omega),if_pos (by omega),show (8*i+row)/8=i by omega,show (8*i+row)%8=row by omega]
theorem partL_set (C:Nat→Nat→Int) (b:List Int) (row i k:Nat) (hr:row<8) (_:i<8):(uC C b row i k).set (8*i+row) (vT C b i row (k+1))=uC C b row i (k+1):=by
 refine range_set _ _ _ _ (by omega) ?_ ?_
 ·unfold zEh
  rw[if_neg (by omega),if_pos (by omega),if_neg (by omega),if_pos (by omega),show (8*i+row)/8=i by omega,show (8*i+row)%8=row by omega]
 ·intro m hm
  unfold zEh
  by_cases h1:m%8<row
  ·rw[if_pos h1,if_pos h1]
  ·rw[if_neg h1,if_neg h1]
   by_cases h2:m%8=row
   ·rw[if_pos h2,if_pos h2]
    by_cases h3:m/8<i
    ·rw[if_pos h3,if_pos h3]
    ·rw[if_neg h3,if_neg h3,if_neg (by omega),if_neg (by omega)]
   ·rw[if_neg h2,if_neg h2]
theorem zNg (C:Nat→Nat→Int) (b:List Int) (i row k:Nat):vT C b i row (k+1)=vT C b i row k+b.getD (8*row+k) 0*C i k:=rfl
end Go.Proofs.YtkggcjdlpendfaaGreatDoor
