/- Contracts of the functions that the law reaches, part 28. -/
import Derived.ArgAppend
import Derived.Lib.SlBytesConst
import Derived.Test.YtkggcjdlpendfaaGreatDoorMTopCoarseCard27
namespace Go.Proofs.YtkggcjdlpendfaaGreatDoor
set_option linter.unusedVariables false
set_option linter.unusedSimpArgs false
set_option maxRecDepth 20000
set_option maxHeartbeats 8000000
open Go.RowKit
def cnt (bs:List Nat) (p j:Nat):Nat:=256*bs.getD (p+2*j) 0+bs.getD (p+2*j+1) 0
def vK (bs:List Nat) (p k:Nat):List Int:=(List.range k).map fun j=>((cnt bs p j:Nat):Int)
def xT (bs:List Nat) (p:Nat):Nat→Nat
 | 0=>0
 | k+1=>xT bs p k+cnt bs p k
def zBI (bs:List Nat) (q k:Nat):List Int:=(List.range k).map fun j=>((bs.getD (q+j) 0:Nat):Int)
def PRk (w:World) (gr:Nat) (bs:List Nat) (p:Nat):Prop:=PR w gr (bs.drop p) (decide (bs.length<p))
theorem zLC {bs:List Nat} (hlt: ∀ b∈bs,b<256) (p:Nat):bs.getD p 0<256:=by
 rw[wF2]
 cases h:bs[p]? with
 | none=>simp
 | some b=>exact hlt b (wJ8 h)
theorem cnt_lt {bs:List Nat} (hlt: ∀ b∈bs,b<256) (p j:Nat):cnt bs p j≤65535:=by
 have h1:=zLC hlt (p+2*j)
 have h2:=zLC hlt (p+2*j+1)
 unfold cnt
 omega
theorem zKd {bs:List Nat} (hlt: ∀ b∈bs,b<256) (p:Nat): ∀ k,xT bs p k≤65535*k
 | 0=>by simp[xT]
 | k+1=>by
   have:=zKd hlt p k
   have:=cnt_lt hlt p k
   rw[xT]
   omega
theorem vX (bs:List Nat) (p k:Nat):(vK bs p k).length=k:=by simp[vK]
theorem cntL_succ (bs:List Nat) (p k:Nat):vK bs p (k+1)=vK bs p k++[((cnt bs p k:Nat):Int)]:=by simp[vK,wH0]
theorem zOK (bs:List Nat) (q k:Nat):(zBI bs q k).length=k:=by simp[zBI]
theorem symL_succ (bs:List Nat) (q k:Nat):zBI bs q (k+1)=zBI bs q k++[((bs.getD (q+k) 0:Nat):Int)]:=by simp[zBI,wH0]
theorem zMX (gr:Nat) (bs:List Nat) (p:Nat) (w:World) (hlt: ∀ b∈bs,b<256) (h:PRk w gr bs p) :
 Calls Tryz.prog 81 #[.pointer (some ⟨gr,0,none⟩)] w fun e w'=>e=.returned (.int .i64 ((bs.getD p 0:Nat):Int))∧PRk w' gr bs (p+1)∧Upd (fun b=>b=gr) w w':=by
 refine (zQr gr (bs.drop p) _ w (fun b hb=>hlt b (wG6 hb)) h).mono ?_
 rintro e w' ⟨rfl,h1,h2⟩
 refine⟨?_, ?_,h2⟩
 ·congr 3
  rw[List.headD_eq_head?_getD,List.head?_drop,wF2]
 ·unfold PRk
  have e1:(bs.drop p).tail=bs.drop (p+1):=by rw[List.tail_drop]
  have e2:(decide (bs.length<p) ||(bs.drop p).isEmpty)=decide (bs.length<p+1):=by
   rw[wE2]
   simp only[wB9,wB3,List.isEmpty_iff,List.drop_eq_nil_iff]
   omega
  rw[←e1, ←e2]
  exact h1
theorem run_shl8 (m:Nat) (h:m<1000000) (W:World):(binOp .shl 3 (.int .i64 (m:Int)) (.int .u64 8)).run Tryz.prog W=.ok (.int .i64 ((256*m:Nat):Int)) W:=by
 have e:IntKind.i64.wrap ((m:Int)*2 ^ (min 8 IntKind.i64.bits))=((256*m:Nat):Int):=by
  rw[show min 8 IntKind.i64.bits=8 by decide,IntWalk.i64_in _ (by omega)];omega
 simp[binOp,Op.shift,e]
theorem run_or8 (m b:Nat) (h:m<1000000) (hb:b<256) (W:World):(binOp .or 3 (.int .i64 ((256*m:Nat):Int)) (.int .i64 (b:Int))).run Tryz.prog W=.ok (.int .i64 ((256*m+b:Nat):Int)) W:=by
 have e:bits .or .i64 ((256*m:Nat):Int) (b:Int)=((256*m+b:Nat):Int):=by
  have hx:256*m |||b=256*m+b:=by
   rw[show 256*m=2 ^ 8*m by rfl, ←Nat.two_pow_add_eq_or_of_lt (i:=8) (by omega)]
  show IntKind.i64.wrap ((BitVec.ofInt 64 ((256*m:Nat):Int) |||BitVec.ofInt 64 (b:Int)).toNat:Int)=_
  rw[BitVec.toNat_or,BitVec.ofInt_natCast,BitVec.ofInt_natCast,BitVec.toNat_ofNat,BitVec.toNat_ofNat,wK9 (by omega),wK9 (by omega),hx]
  exact IntWalk.i64_in _ (by omega)
 have e2:binOp .or 3 (.int .i64 ((256*m:Nat):Int)) (.int .i64 (b:Int))=pure (.int .i64 (bits .or .i64 ((256*m:Nat):Int) (b:Int))):=by rw[binOp_or,intBits_or]
 rw[e2,e]
 rfl
theorem cntL_set (bs:List Nat) (p k:Nat) (h:k<16):(vK bs p k++List.replicate (16-k) 0).set k ((cnt bs p k:Nat):Int)=vK bs p (k+1)++List.replicate (16-(k+1)) 0:=by
 rw[wF6 _ _ (by rw[vX];omega),vX,wF7,show 16-k=(16-(k+1))+1 by omega,wF8,wF9,cntL_succ,wG0]
 rfl
theorem goesNum:zAP Tryz.prog 81:=⟨_,Tryz.func81,rfl,rfl⟩
theorem table_any (gr:Nat) (bs:List Nat) (p:Nat) (w:World) (hlt: ∀ b∈bs,b<256) (hp:p≤10000000) (h:PRk w gr bs p) :
 Calls Tryz.prog 83 #[.pointer (some ⟨gr,0,none⟩)] w fun e w'=> ∃ (k:Nat) (A:Option Addr) (c:Nat),k≤xT bs p 16∧(k<xT bs p 16→bs.length<p+32+k)∧e=.returned (.agg (yG (vK bs p 16) (.slice A k c))) ∧
  w'.ownsRow w.heap.size 3 1 (.slice A k c) k (ints (zBI bs (p+32) k))∧PRk w' gr bs (p+32+k)∧Upd (fun b=>b=gr) w w':=by
 have HN:=zA (fun q W (h:PRk W gr bs q)=>zMX gr bs q W hlt h)
 have HS:=zA (zKd hlt p)
 have HG:=zA (fun q=>zLC hlt q)
 have HC:=zA (fun k=>cnt_lt hlt p k)
 have hgrw:=h.lt
 have HP:=zA h
 clear h
 go_enter Tryz.func83,Tryz.ntmps83
 go_wp2_with (first
  | ((with_reducible apply gS 2);refine wAlo' rfl (some 2) rfl 42 rfl _ zeroTblv ?_;intro w2 gt hbt hx2 hgt))
 have hne:gr<gt:=by omega
 have HP2:=zA (HP.out.ext hx2)
 have hu2:Upd (fun b=>b=gr∨b=gt) w w2:=Upd.of_ext hx2
 clear hx2 HP
 go_loopw [3,5] (fun s i wr=> ∃ k:Nat,k≤16∧i=.int .i64 (k:Int)∧s=.int .i64 ((xT bs p k:Nat):Int)∧PRk wr gr bs (p+2*k)∧Blk wr gt 42 (yG (vK bs p k++List.replicate (16-k) 0) (.slice none 0 0))∧Upd (fun b=>b=gr∨b=gt) w wr) (fun _ i _=>16-(intOf i).toNat)
 case atStart=>exact⟨0,by omega,rfl,rfl,HP2.out,hbt,hu2⟩
 case round =>
  clear hbt hu2 HP2
  obtain⟨k,hk,rfl,rfl,hpr,hbt,hu⟩:=hrel
  by_cases hlt16:k<16
  ·have HCK:=zA (HC.out k)
   have HSK:=zA (HS.out k)
   have HE:Hid (xT bs p (k+1)=xT bs p k+cnt bs p k):=zA rfl
   have HX:Hid (cnt bs p k=256*bs.getD (p+2*k) 0+bs.getD (p+2*k+1) 0):=zA rfl
   have HN1:=zA (HN.out (p+2*k))
   have HN2:=zA (HN.out (p+2*k+1))
   have hb1:=HG.out (p+2*k)
   have hb2:=HG.out (p+2*k+1)
   have hset:Hid ((yG (vK bs p k++List.replicate (16-k) 0) (.slice none 0 0)).setIfInBounds k (.int .i64 ((cnt bs p k:Nat):Int))=yG (vK bs p (k+1)++List.replicate (16-(k+1)) 0) (.slice none 0 0)):=zA (by
    rw[tblv_set _ _ _ _ (by rw[wF1,vX,wF3];omega),cntL_set _ _ _ hlt16])
   have hsz:k<(yG (vK bs p k++List.replicate (16-k) 0) (.slice none 0 0)).size:=by rw[uY _ _ (by rw[wF1,vX,wF3];omega)];omega
   have hget:Hid ((yG (vK bs p (k+1)++List.replicate (16-(k+1)) 0) (.slice none 0 0))[k]? =some (.int .i64 ((cnt bs p k:Nat):Int))):=zA (by
    rw[tblv_get _ _ _ (by rw[wF1,vX,wF3];omega),wN1 (by rw[vX];omega)]
    simp[vK])
   generalize hT1:yG (vK bs p k++List.replicate (16-k) 0) (.slice none 0 0)=T1 at *
   generalize hT2:yG (vK bs p (k+1)++List.replicate (16-(k+1)) 0) (.slice none 0 0)=T2 at *
   have HT2:=zA hT2
   clear hT1 hT2
   generalize bs.getD (p+2*k) 0=x1 at *
   generalize bs.getD (p+2*k+1) 0=x2 at *
   have hS1:xT bs p k≤1048560:=by have:=HSK.out;omega
   generalize hS:xT bs p k=S at *
   generalize hS2:xT bs p (k+1)=S2 at *
   have HS2:=zA hS2
   clear hS hS2
   generalize hK:cnt bs p k=ck at *
   clear hK
   obtain⟨y1,hy1⟩: ∃ y,256*x1=y:=⟨_,rfl⟩
   have R1:Hid (∀ W,(binOp .shl 3 (.int .i64 (x1:Int)) (.int .u64 8)).run Tryz.prog W=.ok (.int .i64 (y1:Int)) W):=zA (fun W=>by rw[←hy1];exact run_shl8 x1 (by omega) W)
   have R2:Hid (∀ W,(binOp .or 3 (.int .i64 (y1:Int)) (.int .i64 (x2:Int))).run Tryz.prog W=.ok (.int .i64 (ck:Int)) W):=zA (fun W=>by rw[HX.out, ←hy1];exact run_or8 x1 x2 (by omega) hb2 W)
   have hck:=HCK.out
   clear HX HCK HSK hy1
   go_wp2_with (first
    | (go_at_call 81;(with_reducible refine (HN1.out _ hpr).mono ?_);rintro e w3 ⟨rfl,hpr3,hu3⟩;have hbt3:=hu3.blk hbt (by omega))
    | ((with_reducible apply gS 11);refine zB rfl (.int .i64 (y1:Int)) (zBe rfl rfl rfl R1.out) ?_)
    | (go_at_call 81;(with_reducible refine (HN2.out _ hpr3).mono ?_);rintro e w4 ⟨rfl,hpr4,hu4⟩;have hbt4:=hu4.blk hbt3 (by omega))
    | ((with_reducible apply gS 14);refine zB rfl (.int .i64 (ck:Int)) (zBe rfl rfl rfl R2.out) ?_)
    | ((with_reducible apply gT 16 14);refine uI rfl _ _ rfl gt k _ rfl rfl hbt4 hsz ?_;have hbt5:=hbt4.set_ k (.int .i64 (ck:Int));rw[hset.out] at hbt5;have hl5:=(hbt5.cell k).trans hget.out;have hu5:=((hu.trans hu3 (fun x h=>.inl (.inl h))).trans hu4 (fun x h=>.inl (.inl h))).setCell (p:=⟨gt,k,none⟩) (.inr rfl) (.int .i64 (ck:Int));have hpr5:=hpr4.upd ((Upd.refl (fun b=>b=gt) w4).setCell (p:=⟨gt,k,none⟩) rfl (.int .i64 (ck:Int))) (fun x h=>by rw[h];exact hne);clear hpr hu hpr3 hpr4 hu3 hu4 hbt hbt3 hbt4;generalize w4.setCell ⟨gt,k,none⟩ (.int .i64 (ck:Int))=w5 at *)
    | ((with_reducible apply gS 21);refine yW rfl (.int .i64 (ck:Int)) (zQ rfl rfl hl5) ?_)
    | ((with_reducible apply gS 22);refine zB rfl (.int .i64 ((S+ck:Nat):Int)) (zZ rfl rfl rfl (by omega)) ?_))
   go_roundw
   case rel=>exact⟨k+1,by omega,by go_num,by rw[HS2.out,HE.out];go_num,by rw[show p+2*(k+1)=p+2*k+1+1 by omega];exact hpr5,by rw[HT2.out];exact hbt5,hu5⟩
   case measure=>simp[intOf];omega
  ·obtain rfl:k=16:=by omega
   rw[show 16-16=0 by rfl,wN4,wG3] at hbt
   have hall:=HS.out 16
   generalize hS:xT bs p 16=S at *
   have HS16:=zA hS
   clear hS
   have HT:Hid (∀ A k c,(yG (vK bs p 16) (.slice A k c)).size=17):=zA (fun A k c=>uY _ _ (by rw[vX]))
   have HO:Hid (∀ A k c,(yG (vK bs p 16) (.slice A k c)).all (·.oneCell')=true):=zA (fun A k c=>tblv_one' _ A k c)
   have HL:Hid (∀ A k c B m d,(yG (vK bs p 16) (.slice A k c)).setIfInBounds 16 (.slice B m d)=yG (vK bs p 16) (.slice B m d)):=zA (fun A k c B m d=>zOL _ _ _ (by rw[vX]))
   have HG16:Hid (∀ A k c,(yG (vK bs p 16) (.slice A k c))[16]? =some (.slice A k c)):=zA (fun A k c=>by
    have:(yG (vK bs p 16) (.slice A k c))=(yG (vK bs p 16) (.slice A k c)):=rfl
    unfold yG ints
    simp[wO6,vX])
   obtain⟨TV,hTV⟩: ∃ TV:Option Addr→Nat→Nat→Array Value,TV=fun A k c=>yG (vK bs p 16) (.slice A k c):=⟨_,rfl⟩
   have HTV:=zA hTV
   have eT: ∀ A k c,yG (vK bs p 16) (.slice A k c)=TV A k c:=fun A k c=>by rw[hTV]
   simp only[eT] at HT HO HL HG16 hbt
   have HeT:=zA eT
   clear hTV eT
   have hp0:PRk wr gr bs (p+32+0):=hpr
   have own0:wr.ownsRow w.heap.size 3 1 (.slice none 0 0) 0 (ints (zBI bs (p+32) 0)):=zAT _ _ _ _
   go_wp2_with fail
   go_loopw [25] (fun i w9=> ∃ (k:Nat) (A:Option Addr) (c:Nat),k≤S∧i=.int .i64 (k:Int)∧PRk w9 gr bs (p+32+k)∧Blk w9 gt 42 (TV A k c)∧w9.ownsRow w.heap.size 3 1 (.slice A k c) k (ints (zBI bs (p+32) k))∧Upd (fun b=>b=gr∨b=gt) w w9) (fun i _=>S-(intOf i).toNat)
   case atStart=>exact⟨0,none,0,by omega,rfl,hp0,hbt,own0,hu⟩
   case round =>
    clear hpr hbt hu hp0 own0
    obtain⟨k,A,c,hk,rfl,hpr,hbt,hown,hu⟩:=hrel
    have HEND:Hid (∀ W,(k<S→bs.length<p+32+k)→wr.grownBy W (some gt)→ ∃ (k':Nat) (A':Option Addr) (c':Nat),k'≤xT bs p 16∧(k'<xT bs p 16→bs.length<p+32+k')∧Ending.returned (.agg (TV A k c))=.returned (.agg (yG (vK bs p 16) (.slice A' k' c'))) ∧
     W.ownsRow w.heap.size 3 1 (.slice A' k' c') k' (ints (zBI bs (p+32) k'))∧PRk W gr bs (p+32+k')∧Upd (fun b=>b=gr) w W):=zA (fun W hl hg=>by
     have hug:=zL hg
     refine⟨k,A,c,by rw[HS16.out];exact hk,by rw[HS16.out];exact hl,by rw[HeT.out],jP hown hug (fun x hx q=>uV hown hbt tblNeI (by rw[q,hx])),hpr.upd hug (fun x q=>by injection q with q;omega), ?_⟩
     have hu2:=hu.grown hg (fun b hb=>by injection hb with hb;exact .inl (.inr hb.symm))
     exact⟨hu2.os,hu2.tape,hu2.output,hu2.size,fun b hb hn=>hu2.block b hb (fun h=>h.elim hn (fun h=>by omega))⟩)
    have hfl:=hpr.flag
    by_cases hlt2:k<S
    ·by_cases hsh:bs.length<p+32+k
     ·rw[show decide (bs.length<p+32+k)=true by simpa using hsh] at hfl
      go_wp2_with (first
       | ((with_reducible apply gS 39);refine wLdB rfl 42 (.tmp 2) rfl gt rfl hbt _ Tryz.underlying42 rfl 17 zBq (HT.out A k c) ?_)
       | ((with_reducible apply gT 2 39);refine wStB rfl 42 (.tmp 2) (.tmp 39) rfl gt _ rfl rfl hbt 17 zBq (HT.out A k c) (HT.out A k c) (HO.out A k c) ?_;intro w7 hb7 hg7))
      exact zBL rfl rfl gt rfl hb7 _ Tryz.underlying42 rfl 17 zBq (HT.out A k c) (HEND.out _ (fun _=>hsh) hg7)
     ·rw[show decide (bs.length<p+32+k)=false by simpa using hsh] at hfl
      go_wp2_with fail
      have HNK:=zA (HN.out (p+32+k))
      have HSY:=zA (symL_succ bs (p+32) k)
      generalize bs.getD (p+32+k) 0=x at *
      have hbD:=hbt.drew
      have hprD:=(show PRk wr.drew gr bs (p+32+k) from hpr)
      have hownD:=(show wr.drew.ownsRow w.heap.size 3 1 (.slice A k c) k (ints (zBI bs (p+32) k)) from hown)
      have huD:=hu.drew
      clear hpr hbt hown hu HEND hfl
      refine jQ (fun j=> !(j ==7)) (fun W=>Blk W gt 42 (TV A k c)) (by kernel_rfl) ?_
      refine of_run (k:=0) (by kernel_rfl) rfl (by rfl) (.pointer (some ⟨gt,16,none⟩)) (fun W=>by go_simp) hbD ?_
      simp only[Act.put,sA,sB,sC]
      refine of_run (k:=2) (by kernel_rfl) rfl (by rfl) (.pointer (some ⟨gr,0,none⟩)) (zC rfl rfl) hbD ?_
      simp only[Act.put,sA,sB,sC]
      refine of_fix (k:=1) (by kernel_rfl) rfl (by rfl) (.slice A k c) (fun W hW=>jZ rfl rfl ((hW.cell 16).trans (HG16.out A k c))) hbD ?_
      simp only[Act.put,sA,sB,sC]
      refine xQ (k:=3) (by kernel_rfl) rfl ?_
      refine xH (by rfl) (xI _ _ _ rfl rfl goesNum #[.pointer (some ⟨gr,0,none⟩)] (by simp[Act.eval])) ?_
      refine (HNK.out wr.drew hprD).mono ?_
      rintro e w3 ⟨rfl,hpr3,hu3⟩
      have hb3:=hu3.blk hbD (by omega)
      have hown3:=uM hownD hu3 (fun y hy=>by omega)
      have hu03:=huD.trans hu3 (fun y hy=>.inl (.inl hy))
      refine⟨_,rfl,zU ⟨fun _=>hb3, ?_⟩⟩
      simp only[Act.put,sA,sB,sC]
      refine xQ (k:=4) (by kernel_rfl) rfl ?_
      refine wLit1 rfl 22 3 (.tmp 34) rfl (some 35) rfl Tryz.underlying22 1 qV zeroIP _ rfl rfl (by omega) (by omega) ?_
      intro w4 g4 hb4 hx4 hg4
      refine zU ⟨fun _=>hb3.ext hx4, ?_⟩
      simp only[Act.put,sA,sB,sC]
      refine xQ (k:=5) (by kernel_rfl) rfl ?_
      refine wApf elt_intP rfl (.tmp 32) (.tmp 35) rfl w.heap.size (.slice A k c) k (ints (zBI bs (p+32) k)) rfl (yJ hown3 hx4) _ 1 (ints [(x:Int)]) rfl (zCf hb4) (qR _) (by omega) (by omega) (by have:=hu03.size;have:=hx4.size;omega) ?_
      intro A5 c5 w5 ho5 hg5 hr5
      have hown4:=yJ hown3 hx4
      have hug:=zL hg5
      have hb5:=hug.blk (hb3.ext hx4) (fun q=>uV hown4 (hb3.ext hx4) tblNeI q.symm)
      have hpr5:=(hpr3.ext hx4).upd hug (fun y hy=>by have:=(hown4.lt y hy).1;omega)
      have hu5:=(hu03.trans (Upd.of_ext (S:=fun _=>False) hx4) (fun _ h=>h.elim)).grown hg5 (fun b hb=>.inr (hown4.lt b hb).1)
      refine zU ⟨fun _=>hb5, ?_⟩
      simp only[Act.put,sA,sB,sC]
      refine of_run (k:=6) (by kernel_rfl) rfl (by rfl) (.pointer (some ⟨gt,16,none⟩)) (fun W=>by go_simp) hb5 ?_
      simp only[Act.put,sA,sB,sC]
      refine xQ (k:=7) (by kernel_rfl) rfl ?_
      refine zHM rfl _ _ rfl gt 16 A5 (k+1) c5 rfl rfl hb5 (by rw[HT.out];omega) ?_
      have hb6:=hb5.set_ 16 (.slice A5 (k+1) c5)
      rw[HL.out] at hb6
      have hu6s:=(Upd.refl (fun b=>b=gt) w5).setCell (p:=⟨gt,16,none⟩) rfl (.slice A5 (k+1) c5)
      have hpr6:=hpr5.upd hu6s (fun y hy=>by omega)
      have hown6:=jP ho5 hu6s (fun y hy q=>uV ho5 hb5 tblNeI (by rw[hy,q]))
      have hu6:=hu5.trans hu6s (fun y hy=>.inl (.inr hy))
      refine zU ⟨fun h=>(by cases h), ?_⟩
      simp only[Act.put,sA,sB,sC]
      refine uP (by kernel_rfl) ?_
      go_wp2_with fail
      go_roundw
      case rel=>exact⟨k+1,A5,c5,by omega,by go_num,hpr6,hb6,by rw[HSY.out,uQ];exact hown6,hu6⟩
      case measure=>simp[intOf];omega
    ·go_wp2_with (first
      | ((with_reducible apply gS 39);refine wLdB rfl 42 (.tmp 2) rfl gt rfl hbt _ Tryz.underlying42 rfl 17 zBq (HT.out A k c) ?_)
      | ((with_reducible apply gT 2 39);refine wStB rfl 42 (.tmp 2) (.tmp 39) rfl gt _ rfl rfl hbt 17 zBq (HT.out A k c) (HT.out A k c) (HO.out A k c) ?_;intro w7 hb7 hg7))
     exact zBL rfl rfl gt rfl hb7 _ Tryz.underlying42 rfl 17 zBq (HT.out A k c) (HEND.out _ (fun h=>absurd h hlt2) hg7)
theorem xK (n lo hi:Int) (w:World) :
 Calls Tryz.prog 108 #[.int .i64 n,.int .i64 lo,.int .i64 hi] w fun e w'=>e=.returned (.bool (inB n lo hi))∧w=w':=by
 by_cases h:lo≤n
 ·have h':decide (lo≤n)=true:=by simpa using h
  have e:inB n lo hi=decide (n≤hi):=by rw[wE2,vF];simp;omega
  rw[e];clear e
  go_enter Tryz.func108,Tryz.ntmps108
  go_wp2
  go_ret
  exact⟨rfl,rfl⟩
 ·have h':decide (lo≤n)=false:=by simpa using h
  have e:inB n lo hi=false:=zBa.2 (by omega)
  rw[e];clear e
  go_enter Tryz.func108,Tryz.ntmps108
  go_wp2
  go_ret
  exact⟨rfl,rfl⟩
theorem fcheck_na (wd hi pt ev:Int) (qs:List Int) (t1 t2:List Value) (sd:Value) (w:World) (hq:qs.length=64) (h1:t1.length=17) (h2:t2.length=17) (k1:inB wd 1 64=false) :
 Calls Tryz.prog 50 #[.agg (yN wd hi pt qs t1 t2 ev sd).toArray] w fun e w'=>e=.returned (.int .i64 1)∧Ext w w':=by
 have HF:=zA (fun W g (hb:Blk W g 47 (yN wd hi pt qs t1 t2 ev sd).toArray)=>zBg hb hq h1 h2)
 have W1:=zA (fun W=>xK wd 1 64 W)
 have W2:=zA (fun W=>xK hi 1 64 W)
 have W3:=zA (fun W=>xK ev 0 100 W)
 generalize (yN wd hi pt qs t1 t2 ev sd).toArray=fv at *
 generalize inB wd 1 64=b1 at *
 generalize inB hi 1 64=b2 at *
 generalize inB ev 0 100=b3 at *
 subst k1
 go_enter Tryz.func50,Tryz.ntmps50
 go_wp2_with (first
  | (refine wBox rfl 47 (.tmp 0) rfl fv rfl ?_;intro w1 g hb1 hx1 hg;obtain⟨c0,c1,c2, -, -, -, -,c101, -⟩:=HF.out _ _ hb1)
  | (go_at_call 108;(with_reducible refine (W1.out _).mono ?_);rintro e w2 ⟨rfl,rfl⟩)
  | (go_at_call 108;(with_reducible refine (W2.out _).mono ?_);rintro e w2 ⟨rfl,rfl⟩)
  | (go_at_call 108;(with_reducible refine (W3.out _).mono ?_);rintro e w2 ⟨rfl,rfl⟩))
 go_ret
 exact⟨rfl,hx1⟩
theorem fcheck_nb (wd hi pt ev:Int) (qs:List Int) (t1 t2:List Value) (sd:Value) (w:World) (hq:qs.length=64) (h1:t1.length=17) (h2:t2.length=17) (k1:inB wd 1 64=true) (k2:inB hi 1 64=false) :
 Calls Tryz.prog 50 #[.agg (yN wd hi pt qs t1 t2 ev sd).toArray] w fun e w'=>e=.returned (.int .i64 1)∧Ext w w':=by
 have HF:=zA (fun W g (hb:Blk W g 47 (yN wd hi pt qs t1 t2 ev sd).toArray)=>zBg hb hq h1 h2)
 have W1:=zA (fun W=>xK wd 1 64 W)
 have W2:=zA (fun W=>xK hi 1 64 W)
 have W3:=zA (fun W=>xK ev 0 100 W)
 generalize (yN wd hi pt qs t1 t2 ev sd).toArray=fv at *
 generalize inB wd 1 64=b1 at *
 generalize inB hi 1 64=b2 at *
 generalize inB ev 0 100=b3 at *
 subst k1 k2
 go_enter Tryz.func50,Tryz.ntmps50
 go_wp2_with (first
  | (refine wBox rfl 47 (.tmp 0) rfl fv rfl ?_;intro w1 g hb1 hx1 hg;obtain⟨c0,c1,c2, -, -, -, -,c101, -⟩:=HF.out _ _ hb1)
  | (go_at_call 108;(with_reducible refine (W1.out _).mono ?_);rintro e w2 ⟨rfl,rfl⟩)
  | (go_at_call 108;(with_reducible refine (W2.out _).mono ?_);rintro e w2 ⟨rfl,rfl⟩)
  | (go_at_call 108;(with_reducible refine (W3.out _).mono ?_);rintro e w2 ⟨rfl,rfl⟩))
 go_ret
 exact⟨rfl,hx1⟩
theorem fcheck_nc (wd hi pt ev:Int) (qs:List Int) (t1 t2:List Value) (sd:Value) (w:World) (hq:qs.length=64) (h1:t1.length=17) (h2:t2.length=17) (k1:inB wd 1 64=true) (k2:inB hi 1 64=true) (p1:(pt !=1)=true) (p2:(pt !=3)=true) :
 Calls Tryz.prog 50 #[.agg (yN wd hi pt qs t1 t2 ev sd).toArray] w fun e w'=>e=.returned (.int .i64 1)∧Ext w w':=by
 have HF:=zA (fun W g (hb:Blk W g 47 (yN wd hi pt qs t1 t2 ev sd).toArray)=>zBg hb hq h1 h2)
 have W1:=zA (fun W=>xK wd 1 64 W)
 have W2:=zA (fun W=>xK hi 1 64 W)
 have W3:=zA (fun W=>xK ev 0 100 W)
 generalize (yN wd hi pt qs t1 t2 ev sd).toArray=fv at *
 generalize inB wd 1 64=b1 at *
 generalize inB hi 1 64=b2 at *
 generalize inB ev 0 100=b3 at *
 subst k1 k2
 go_enter Tryz.func50,Tryz.ntmps50
 go_wp2_with (first
  | (refine wBox rfl 47 (.tmp 0) rfl fv rfl ?_;intro w1 g hb1 hx1 hg;obtain⟨c0,c1,c2, -, -, -, -,c101, -⟩:=HF.out _ _ hb1)
  | (go_at_call 108;(with_reducible refine (W1.out _).mono ?_);rintro e w2 ⟨rfl,rfl⟩)
  | (go_at_call 108;(with_reducible refine (W2.out _).mono ?_);rintro e w2 ⟨rfl,rfl⟩)
  | (go_at_call 108;(with_reducible refine (W3.out _).mono ?_);rintro e w2 ⟨rfl,rfl⟩))
 go_ret
 exact⟨rfl,hx1⟩
theorem fcheck_nd (wd hi ev:Int) (qs:List Int) (t1 t2:List Value) (sd:Value) (w:World) (hq:qs.length=64) (h1:t1.length=17) (h2:t2.length=17) (k1:inB wd 1 64=true) (k2:inB hi 1 64=true) (k3:inB ev 0 100=false) :
 Calls Tryz.prog 50 #[.agg (yN wd hi 1 qs t1 t2 ev sd).toArray] w fun e w'=>e=.returned (.int .i64 1)∧Ext w w':=by
 have HF:=zA (fun W g (hb:Blk W g 47 (yN wd hi 1 qs t1 t2 ev sd).toArray)=>zBg hb hq h1 h2)
 have W1:=zA (fun W=>xK wd 1 64 W)
 have W2:=zA (fun W=>xK hi 1 64 W)
 have W3:=zA (fun W=>xK ev 0 100 W)
 generalize (yN wd hi 1 qs t1 t2 ev sd).toArray=fv at *
 generalize inB wd 1 64=b1 at *
 generalize inB hi 1 64=b2 at *
 generalize inB ev 0 100=b3 at *
 subst k1 k2 k3
 go_enter Tryz.func50,Tryz.ntmps50
 go_wp2_with (first
  | (refine wBox rfl 47 (.tmp 0) rfl fv rfl ?_;intro w1 g hb1 hx1 hg;obtain⟨c0,c1,c2, -, -, -, -,c101, -⟩:=HF.out _ _ hb1)
  | (go_at_call 108;(with_reducible refine (W1.out _).mono ?_);rintro e w2 ⟨rfl,rfl⟩)
  | (go_at_call 108;(with_reducible refine (W2.out _).mono ?_);rintro e w2 ⟨rfl,rfl⟩)
  | (go_at_call 108;(with_reducible refine (W3.out _).mono ?_);rintro e w2 ⟨rfl,rfl⟩))
 go_ret
 exact⟨rfl,hx1⟩
theorem fcheck_ne (wd hi ev:Int) (qs:List Int) (t1 t2:List Value) (sd:Value) (w:World) (hq:qs.length=64) (h1:t1.length=17) (h2:t2.length=17) (k1:inB wd 1 64=true) (k2:inB hi 1 64=true) (k3:inB ev 0 100=false) :
 Calls Tryz.prog 50 #[.agg (yN wd hi 3 qs t1 t2 ev sd).toArray] w fun e w'=>e=.returned (.int .i64 1)∧Ext w w':=by
 have HF:=zA (fun W g (hb:Blk W g 47 (yN wd hi 3 qs t1 t2 ev sd).toArray)=>zBg hb hq h1 h2)
 have W1:=zA (fun W=>xK wd 1 64 W)
 have W2:=zA (fun W=>xK hi 1 64 W)
 have W3:=zA (fun W=>xK ev 0 100 W)
 generalize (yN wd hi 3 qs t1 t2 ev sd).toArray=fv at *
 generalize inB wd 1 64=b1 at *
 generalize inB hi 1 64=b2 at *
 generalize inB ev 0 100=b3 at *
 subst k1 k2 k3
 go_enter Tryz.func50,Tryz.ntmps50
 go_wp2_with (first
  | (refine wBox rfl 47 (.tmp 0) rfl fv rfl ?_;intro w1 g hb1 hx1 hg;obtain⟨c0,c1,c2, -, -, -, -,c101, -⟩:=HF.out _ _ hb1)
  | (go_at_call 108;(with_reducible refine (W1.out _).mono ?_);rintro e w2 ⟨rfl,rfl⟩)
  | (go_at_call 108;(with_reducible refine (W2.out _).mono ?_);rintro e w2 ⟨rfl,rfl⟩)
  | (go_at_call 108;(with_reducible refine (W3.out _).mono ?_);rintro e w2 ⟨rfl,rfl⟩))
 go_ret
 exact⟨rfl,hx1⟩
theorem fcheck_no (wd hi pt ev:Int) (qs:List Int) (t1 t2:List Value) (sd:Value) (w:World) (hq:qs.length=64) (h1:t1.length=17) (h2:t2.length=17) (h:zCs wd hi pt ev=false) :
 Calls Tryz.prog 50 #[.agg (yN wd hi pt qs t1 t2 ev sd).toArray] w fun e w'=>e=.returned (.int .i64 1)∧Ext w w':=by
 unfold zCs at h
 cases k1:inB wd 1 64 with
 | false=>exact fcheck_na wd hi pt ev qs t1 t2 sd w hq h1 h2 k1
 | true =>
   cases k2:inB hi 1 64 with
   | false=>exact fcheck_nb wd hi pt ev qs t1 t2 sd w hq h1 h2 k1 k2
   | true =>
     by_cases p1:pt=1
     ·subst p1
      cases k3:inB ev 0 100 with
      | false=>exact fcheck_nd wd hi ev qs t1 t2 sd w hq h1 h2 k1 k2 k3
      | true=>rw[k1,k2,k3] at h;cases h
     ·by_cases p3:pt=3
      ·subst p3
       cases k3:inB ev 0 100 with
       | false=>exact fcheck_ne wd hi ev qs t1 t2 sd w hq h1 h2 k1 k2 k3
       | true=>rw[k1,k2,k3] at h;cases h
      ·exact fcheck_nc wd hi pt ev qs t1 t2 sd w hq h1 h2 k1 k2 (by simpa using p1) (by simpa using p3)
theorem fcheck_yf (pt:Int) (hpt:pt=1∨pt=3) (wd hi ev:Int) (qs:List Int) (t1 t2:List Value) (A:Option Addr) (n c:Nat) (z1 z2:Int) (w:World) (hq:qs.length=64) (h1:t1.length=17) (h2:t2.length=17)
 (k1:inB wd 1 64=true) (k2:inB hi 1 64=true) (k3:inB ev 0 100=true) (kq:zN qs 1 255=false) :
 Calls Tryz.prog 50 #[.agg (yN wd hi pt qs t1 t2 ev (.slice A n c)).toArray] w fun e w'=>e=.returned (.int .i64 (1))∧Ext w w':=by
 have HF:=zA (fun W g (hb:Blk W g 47 (yN wd hi pt qs t1 t2 ev (.slice A n c)).toArray)=>zBg hb hq h1 h2)
 have W1:=zA (fun W=>xK wd 1 64 W)
 have W2:=zA (fun W=>xK hi 1 64 W)
 have W3:=zA (fun W=>xK ev 0 100 W)
 have HQ:Hid (∀ W,Calls Tryz.prog 15 #[.agg (ints qs).toArray] W fun e w'=>e=.returned (.int .i64 1)∧Ext W w'):=zA (fun W=>by have h:=zBv qs W hq;rw[kq] at h;exact h)
 clear kq
 have hql:=zA ((zY qs).trans hq)
 have hl1:=zA h1
 have hl2:=zA h2
 clear hq h1 h2
 generalize (yN wd hi pt qs t1 t2 ev (.slice A n c)).toArray=fv at *
 generalize inB wd 1 64=b1 at *
 generalize inB hi 1 64=b2 at *
 generalize inB ev 0 100=b3 at *
 subst k1 k2 k3
 rcases hpt with rfl | rfl
 all_goals
  go_enter Tryz.func50,Tryz.ntmps50
  go_wp2_with (first
   | (refine wBox rfl 47 (.tmp 0) rfl fv rfl ?_;intro w1 g hb1 hx1 hg;have hf1:=HF.out _ _ hb1;have c0:=hf1.c0;have c1:=hf1.c1;have c2:=hf1.c2;have c101:=hf1.c101)
   | (go_at_call 108;(with_reducible refine (W1.out _).mono ?_);rintro e w2 ⟨rfl,rfl⟩)
   | (go_at_call 108;(with_reducible refine (W2.out _).mono ?_);rintro e w2 ⟨rfl,rfl⟩)
   | (go_at_call 108;(with_reducible refine (W3.out _).mono ?_);rintro e w2 ⟨rfl,rfl⟩)
   | (refine wpList_load_mid rfl 33 (.tmp 33) rfl g 3 rfl (ints qs) _ hf1.q Tryz.underlying33 rfl (by rw[hql.out];exact zF) ?_)
   | (go_at_call 15;(with_reducible refine (HQ.out _).mono ?_);rintro e w2 ⟨rfl,hx2⟩;have hb2:=hb1.ext hx2;have hf2:=HF.out _ _ hb2))
  go_ret
  exact⟨rfl,hx1.trans hx2⟩
theorem fcheck_yt (pt:Int) (hpt:pt=1∨pt=3) (wd hi ev:Int) (qs:List Int) (t1 t2:List Value) (A:Option Addr) (n c:Nat) (z1 z2:Int) (w:World) (hq:qs.length=64) (h1:t1.length=17) (h2:t2.length=17)
 (k1:inB wd 1 64=true) (k2:inB hi 1 64=true) (k3:inB ev 0 100=true) (kq:zN qs 1 255=true) (o1:t1.toArray.all (·.oneCell')=true) (o2:t2.toArray.all (·.oneCell')=true)
 (C1: ∀ W,Ext w W→Calls Tryz.prog 102 #[.agg t1.toArray] W fun e W'=>e=.returned (.int .i64 z1)∧Ext W W')
 (C2: ∀ W,Ext w W→Calls Tryz.prog 102 #[.agg t2.toArray] W fun e W'=>e=.returned (.int .i64 z2)∧Ext W W') :
 Calls Tryz.prog 50 #[.agg (yN wd hi pt qs t1 t2 ev (.slice A n c)).toArray] w fun e w'=>e=.returned (.int .i64 (if z1=0 then (if z2=0 then (if 90000<n then 2 else 0) else z2) else z1))∧Ext w w':=by
 have HF:=zA (fun W g (hb:Blk W g 47 (yN wd hi pt qs t1 t2 ev (.slice A n c)).toArray)=>zBg hb hq h1 h2)
 have W1:=zA (fun W=>xK wd 1 64 W)
 have W2:=zA (fun W=>xK hi 1 64 W)
 have W3:=zA (fun W=>xK ev 0 100 W)
 have HQ:Hid (∀ W,Calls Tryz.prog 15 #[.agg (ints qs).toArray] W fun e w'=>e=.returned (.int .i64 0)∧Ext W w'):=zA (fun W=>by have h:=zBv qs W hq;rw[kq] at h;exact h)
 clear kq
 have hql:=zA ((zY qs).trans hq)
 have hl1:=zA h1
 have hl2:=zA h2
 have HB2:=zA (zFP t1 t2 h1 h2)
 have HRT:=zA (fun W g (hb:Blk W g 42 (t1++t2).toArray)=>uF h1 hb)
 have hs1:Hid (t1.toArray.size=17):=zA (by simpa using h1)
 have hs2:Hid (t2.toArray.size=17):=zA (by simpa using h2)
 have hz17:Hid ((ints (List.replicate 16 0)++[Value.slice none 0 0]).toArray.size=17):=zA (by simp[ints])
 have hl3:Hid ((t1++t2).length=34):=zA (by simp[h1,h2])
 have HO1:=zA o1
 have HO2:=zA o2
 have HC1:=zA C1
 have HC2:=zA C2
 clear o1 o2 C1 C2
 generalize hR:(if z1=0 then (if z2=0 then (if 90000<n then (2:Int) else 0) else z2) else z1)=R
 have HR:=zA hR
 clear hR
 clear hq h1 h2
 generalize (yN wd hi pt qs t1 t2 ev (.slice A n c)).toArray=fv at *
 generalize inB wd 1 64=b1 at *
 generalize inB hi 1 64=b2 at *
 generalize inB ev 0 100=b3 at *
 subst k1 k2 k3
 rcases hpt with rfl | rfl
 all_goals
  go_enter Tryz.func50,Tryz.ntmps50
  go_wp2_with (first
   | (refine wBox rfl 47 (.tmp 0) rfl fv rfl ?_;intro w1 g hb1 hx1 hg;have hf1:=HF.out _ _ hb1;have c0:=hf1.c0;have c1:=hf1.c1;have c2:=hf1.c2;have c101:=hf1.c101)
   | (go_at_call 108;(with_reducible refine (W1.out _).mono ?_);rintro e w2 ⟨rfl,rfl⟩)
   | (go_at_call 108;(with_reducible refine (W2.out _).mono ?_);rintro e w2 ⟨rfl,rfl⟩)
   | (go_at_call 108;(with_reducible refine (W3.out _).mono ?_);rintro e w2 ⟨rfl,rfl⟩)
   | (refine wpList_load_mid rfl 33 (.tmp 33) rfl g 3 rfl (ints qs) _ hf1.q Tryz.underlying33 rfl (by rw[hql.out];exact zF) ?_)
   | (go_at_call 15;(with_reducible refine (HQ.out _).mono ?_);rintro e w2 ⟨rfl,hx2⟩;have hb2:=hb1.ext hx2;have hf2:=HF.out _ _ hb2)
   | (refine wpList_load_mid rfl 42 (.tmp 40) rfl g 67 rfl t1 _ hf2.ta Tryz.underlying42 rfl (by rw[hl1.out];exact zO) ?_)
   | (refine wpList_load_mid rfl 42 (.tmp 43) rfl g 84 rfl t2 _ hf2.tb Tryz.underlying42 rfl (by rw[hl2.out];exact zO) ?_)
   | (refine Go.Great.wpList_buildSliceTo rfl 115 42 2 _ rfl _ rfl (some 45) rfl Tryz.underlying115 _ (by simp[Act.eval];exact HB2.out) ?_))
  have hbn0:=Blk.new w2 42 (t1++t2).toArray
  have hb3:=hb2.alloc (.cells (t1++t2).toArray 42)
  have hx3:=(hx1.trans hx2).alloc (.cells (t1++t2).toArray 42)
  clear hb1 hb2 hf1 hf2 hx1 hx2 c0 c1 c2 c101
  go_loopw [47] (fun i wr=> ∃ k:Nat,k≤2∧i=.int .i64 (k:Int)∧(1≤k→z1=0)∧(2≤k→z2=0)∧Blk wr g 47 fv∧Blk wr w2.heap.size 42 (t1++t2).toArray∧Ext w wr) (fun i _=>2-(intOf i).toNat)
  case atStart=>exact⟨0,by omega,rfl,fun h=>absurd h (by omega),fun h=>absurd h (by omega),hb3,hbn0,hx3⟩
  case round =>
   clear hb3 hbn0 hx3
   obtain⟨k,hk,rfl,e1,e2,hb,hbn,hx⟩:=hrel
   rcases (by omega:k=0∨k=1∨k=2) with rfl | rfl | rfl
   ·have hr:=(HRT.out _ _ hbn).1
    by_cases hz:z1=0
    ·subst hz
     go_wp2_with (first
      | (refine wpList_load_mid rfl 42 (.tmp 49) rfl _ 0 rfl t1 _ hr Tryz.underlying42 rfl (by rw[hl1.out];exact zO) ?_)
      | (refine wAlo' rfl (some 5) rfl 42 rfl _ uO ?_;intro w4 ga hba4 hx4 hga)
      | (refine wStB rfl 42 (.tmp 5) (.tmp 50) rfl _ _ rfl rfl hba4 17 zO hs1.out hz17.out HO1.out ?_;intro w5 hba5 hg5;have hx5:=(hx.trans hx4).grown hg5 (by have:=hx.size;omega))
      | (refine wLdB rfl 42 (.tmp 5) rfl _ rfl hba5 _ Tryz.underlying42 rfl 17 zO hs1.out ?_)
      | (go_at_call 102;(with_reducible refine (HC1.out _ hx5).mono ?_);rintro e w6 ⟨rfl,hx6⟩))
     go_roundw
     case rel=>exact⟨1,by omega,by go_num,by simp,fun h=>absurd h (by omega),((hb.ext hx4).grown hg5 (by have:=hb.lt;simp;omega)).ext hx6,((hbn.ext hx4).grown hg5 (by have:=hbn.lt;simp;omega)).ext hx6,hx5.trans hx6⟩
     case measure=>simp[intOf]
    ·have hz1:(z1 !=0)=true:=by simpa using hz
     have HZ:=zA hz
     clear hz
     go_wp2_with (first
      | (refine wpList_load_mid rfl 42 (.tmp 49) rfl _ 0 rfl t1 _ hr Tryz.underlying42 rfl (by rw[hl1.out];exact zO) ?_)
      | (refine wAlo' rfl (some 5) rfl 42 rfl _ uO ?_;intro w4 ga hba4 hx4 hga)
      | (refine wStB rfl 42 (.tmp 5) (.tmp 50) rfl _ _ rfl rfl hba4 17 zO hs1.out hz17.out HO1.out ?_;intro w5 hba5 hg5;have hx5:=(hx.trans hx4).grown hg5 (by have:=hx.size;omega))
      | (refine wLdB rfl 42 (.tmp 5) rfl _ rfl hba5 _ Tryz.underlying42 rfl 17 zO hs1.out ?_)
      | (go_at_call 102;(with_reducible refine (HC1.out _ hx5).mono ?_);rintro e w6 ⟨rfl,hx6⟩))
     go_ret
     exact⟨by rw[←HR.out];simp[HZ.out],hx5.trans hx6⟩
   ·have hr:=(HRT.out _ _ hbn).2
    by_cases hz:z2=0
    ·subst hz
     go_wp2_with (first
      | (refine wpList_load_mid rfl 42 (.tmp 49) rfl _ 17 rfl t2 _ hr Tryz.underlying42 rfl (by rw[hl2.out];exact zO) ?_)
      | (refine wAlo' rfl (some 5) rfl 42 rfl _ uO ?_;intro w4 ga hba4 hx4 hga)
      | (refine wStB rfl 42 (.tmp 5) (.tmp 50) rfl _ _ rfl rfl hba4 17 zO hs2.out hz17.out HO2.out ?_;intro w5 hba5 hg5;have hx5:=(hx.trans hx4).grown hg5 (by have:=hx.size;omega))
      | (refine wLdB rfl 42 (.tmp 5) rfl _ rfl hba5 _ Tryz.underlying42 rfl 17 zO hs2.out ?_)
      | (go_at_call 102;(with_reducible refine (HC2.out _ hx5).mono ?_);rintro e w6 ⟨rfl,hx6⟩))
     go_roundw
     case rel=>exact⟨2,by omega,by go_num,fun _=>e1 (by omega),by simp,((hb.ext hx4).grown hg5 (by have:=hb.lt;simp;omega)).ext hx6,((hbn.ext hx4).grown hg5 (by have:=hbn.lt;simp;omega)).ext hx6,hx5.trans hx6⟩
     case measure=>simp[intOf]
    ·have hz1:(z2 !=0)=true:=by simpa using hz
     have HZ:=zA hz
     clear hz
     go_wp2_with (first
      | (refine wpList_load_mid rfl 42 (.tmp 49) rfl _ 17 rfl t2 _ hr Tryz.underlying42 rfl (by rw[hl2.out];exact zO) ?_)
      | (refine wAlo' rfl (some 5) rfl 42 rfl _ uO ?_;intro w4 ga hba4 hx4 hga)
      | (refine wStB rfl 42 (.tmp 5) (.tmp 50) rfl _ _ rfl rfl hba4 17 zO hs2.out hz17.out HO2.out ?_;intro w5 hba5 hg5;have hx5:=(hx.trans hx4).grown hg5 (by have:=hx.size;omega))
      | (refine wLdB rfl 42 (.tmp 5) rfl _ rfl hba5 _ Tryz.underlying42 rfl 17 zO hs2.out ?_)
      | (go_at_call 102;(with_reducible refine (HC2.out _ hx5).mono ?_);rintro e w6 ⟨rfl,hx6⟩))
     go_ret
     exact⟨by rw[←HR.out];simp[HZ.out,e1 (by omega)],hx5.trans hx6⟩
   ·have c102:=(HF.out _ _ hb).c102
    have Z1:=zA (e1 (by omega))
    have Z2:=zA (e2 (by omega))
    clear e1 e2
    by_cases hn:90000<n
    ·have hn':decide ((90000:Int)<(n:Int))=true:=by simp;omega
     go_wp2_with fail
     go_ret
     have h2:R=2:=by rw[←HR.out,if_pos Z1.out,if_pos Z2.out,if_pos hn]
     subst h2
     exact⟨rfl,hx⟩
    ·have hn':decide ((90000:Int)<(n:Int))=false:=by simp;omega
     go_wp2_with fail
     go_ret
     have h2:R=0:=by rw[←HR.out,if_pos Z1.out,if_pos Z2.out,if_neg hn]
     subst h2
     exact⟨rfl,hx⟩
theorem zFn (cs:List Int) (sl:Value) (h: ∃ A n c,sl=.slice A n c):(zT cs sl).toArray.all (·.oneCell')=true:=by
 obtain⟨A,n,c,rfl⟩:=h
 refine all_oneCell_toArray fun v hv=> ?_
 unfold zT at hv
 rcases wE5.1 hv with hv | hv
 ·obtain⟨z, -,rfl⟩:=wD6.1 hv
  rfl
 ·rw[wJ6.1 hv]
  rfl
theorem zFf {wd hi pt ev:Int} (h:zCs wd hi pt ev=true):inB wd 1 64=true∧inB hi 1 64=true∧inB ev 0 100=true∧(pt=1∨pt=3):=by
 unfold zCs at h
 simp only[wA9,wB9,beq_iff_eq] at h
 exact⟨h.1.1.1,h.1.1.2,h.2,h.1.2⟩
theorem zKH (wd hi pt ev:Int) (qs cs1 xs1:List Int) (s1:Value) (cs2 xs2:List Int) (s2:Value) (bs:List Nat) (sd:Value) (w:World) (hq:qs.length=64) (h1:cs1.length=16) (h2:cs2.length=16)
 (hs1:SL w 1 s1 xs1.length (ints xs1)) (hs2:SL w 1 s2 xs2.length (ints xs2)) (hsd:SL w 1 sd bs.length (zD bs)) :
 Calls Tryz.prog 50 #[.agg (yN wd hi pt qs (zT cs1 s1) (zT cs2 s2) ev sd).toArray] w fun e w'=>e=.returned (.int .i64 (zDI wd hi pt qs (yC cs1 xs1) (yC cs2 xs2) ev bs.length))∧Ext w w':=by
 have o1:=zFn cs1 s1 (let ⟨A,c,h,_⟩:=hs1;⟨A,_,c,h⟩)
 have o2:=zFn cs2 s2 (let ⟨A,c,h,_⟩:=hs2;⟨A,_,c,h⟩)
 obtain⟨A,c,rfl, -⟩:=hsd
 have l1:=zS cs1 s1 h1
 have l2:=zS cs2 s2 h2
 unfold zDI
 cases ha:zCs wd hi pt ev with
 | false=>exact fcheck_no wd hi pt ev qs _ _ _ w hq l1 l2 ha
 | true =>
   obtain⟨k1,k2,k3,hp⟩:=zFf ha
   cases kq:zN qs 1 255 with
   | false =>
     exact fcheck_yf pt hp wd hi ev qs _ _ A _ c 0 0 w hq l1 l2 k1 k2 k3 kq
   | true =>
     exact fcheck_yt pt hp wd hi ev qs _ _ A _ c _ _ w hq l1 l2 k1 k2 k3 kq o1 o2 (fun W hW=>zBK cs1 xs1 s1 W h1 (hs1.ext hW)) (fun W hW=>zBK cs2 xs2 s2 W h2 (hs2.ext hW))
def qK (ns:List Nat):List Int:=ns.map fun n:Nat=>(n:Int)
theorem zCK (ns:List Nat):(qK ns).length=ns.length:=by simp[qK]
theorem zKp {ns:List Nat} {k:Nat} (h:k<ns.length):(ints (qK ns))[k]? =some (.int .i64 ((ns[k]:Nat):Int)):=by
 simp[ints,qK,h]
def zBG (cn xn:List Nat):List Nat:=cn.flatMap (fun n=>[n/256,n%256])++xn
def zEX (wd hi pt ev:Nat) (qn cn1 xn1 cn2 xn2 bs:List Nat):List Nat:=[77,90,wd,hi,pt,ev]++qn++(zBG cn1 xn1++zBG cn2 xn2)++bs
theorem flat2_len (cn:List Nat):(cn.flatMap (fun n=>[n/256,n%256])).length=2*cn.length:=by
 induction cn with
 | nil=>rfl
 | cons n cn ih=>simp only[wJ0,wF1,ih,wA8,wL7];omega
theorem zIw (cn xn:List Nat):(zBG cn xn).length=2*cn.length+xn.length:=by rw[zBG,wF1,flat2_len]
theorem zRD (cn:List Nat) (k:Nat) (h:k<cn.length):(cn.take (k+1)).flatMap (fun n=>[n/256,n%256])=(cn.take k).flatMap (fun n=>[n/256,n%256])++[cn[k]/256,cn[k]%256]:=by
 rw[wC3 h,wI9];rfl
theorem u8_wrap (n:Nat):IntKind.u8.wrap (n:Int)=((n%256:Nat):Int):=by
 simp[IntKind.wrap,IntKind.signed,IntKind.bits]
theorem zJo (n:Nat) (W:World):(convert 3 5 (.int .i64 (n:Int))).run Tryz.prog W=.ok (.int .u8 ((n%256:Nat):Int)) W:=by
 simp[convert,run_underlying Tryz.underlying3,run_underlying Tryz.underlying5,Conv.intToInt,u8_wrap]
section
variable {o:Oper} {a:Act}
theorem zCT {x:Operand} (ho:o.op=.convert 3 5 x) {n:Nat} (hx:a.eval x=.int .i64 (n:Int)) (h:n<256) (w:World):(execOp a.eval o).run Tryz.prog w=.ok (.value (.int .u8 (n:Int))) w:=by
 simp only[execOp,ho,hx,Sem.run_bind,zJo,Result.andThen_ok,Sem.run_pure,wK9 h]
theorem ex_conv8m {x:Operand} (ho:o.op=.convert 3 5 x) {n:Nat} (hx:a.eval x=.int .i64 (n:Int)) (w:World):(execOp a.eval o).run Tryz.prog w=.ok (.value (.int .u8 ((n%256:Nat):Int))) w:=by
 simp only[execOp,ho,hx,Sem.run_bind,zJo,Result.andThen_ok,Sem.run_pure]
theorem ex_shr8 {x y:Operand} {t2:TypeId} (ho:o.op=.binOp .shr 3 x y t2) {n:Nat} (hx:a.eval x=.int .i64 (n:Int)) (hy:a.eval y=.int .u64 8) (w:World):(execOp a.eval o).run Tryz.prog w=.ok (.value (.int .i64 ((n/256:Nat):Int))) w:=by
 have e:(n:Int) >>>(8:Nat)=((n/256:Nat):Int):=by rw[wO1];rfl
 have h8:IntKind.i64.bits=64:=rfl
 simp[execOp,ho,hx,hy,eqGuard,binOp,Op.shift,e,h8]
 exact wO2 _ (by decide)
theorem ex_idx {t e:TypeId} {m:Nat} (ht:Tryz.prog.underlying t=some (.array m e)) {k:IntKind} (he:Tryz.prog.underlying e=some (.int k)) (hs:(Tryz.prog.info? e).map (·.size)=some 1) {x ix:Operand} (ho:o.op=.index t x ix) {cs:Array Value} {i:Nat} {u:Value} (hx:a.eval x=.agg cs) (hi:a.eval ix=.int .i64 (i:Int)) (h:i<m) (hu:cs[i]? =some u) (w:World) :
 (execOp a.eval o).run Tryz.prog w=.ok (.value u) w:=by
 simp only[execOp,ho,hx,hi,Sem.run_bind,zBZ t e m cs i u ht k he hs h hu w,Result.andThen_ok,Sem.run_pure]
end
theorem zQq (w:World) (T:TypeId) (o:Obj):zAD ((w.alloc (.cells #[.int .u8 77,.int .u8 90] T (2,3))).alloc o) ⟨w.heap.size,0,none⟩ (zD [77,90]):=by
 intro j u hu
 have hj:j=0∨j=1:=by have:=(wC2.1 hu).1;simp[zD] at this;omega
 rw[zBU,((Ext.refl (w.alloc (.cells #[.int .u8 77,.int .u8 90] T (2,3)))).alloc o).cell (p:=⟨w.heap.size,0+j,none⟩) (by simp),World.cell?_alloc_mark]
 rcases hj with rfl | rfl<;>simpa [zD] using hu
theorem zGP (w:World) (T:TypeId) (cs:List Value) (n:Nat) (hn:cs.length=n) (h:n≤1000):SL (w.alloc (.cells cs.toArray T)) 1 (.slice (some ⟨w.heap.size,0,none⟩) n n) n cs:=by
 have:=(Blk.new w T cs.toArray).sl (size:=1) (n:=n) (c:=n) (by simp[hn]) (by omega) (by omega)
 simpa using this
theorem cells_sl' (w:World) (T:TypeId) (cs:List Value) (n N:Nat) (hN:w.heap.size=N) (hn:cs.length=n) (h:n≤1000):SL (w.alloc (.cells cs.toArray T)) 1 (.slice (some ⟨N,0,none⟩) n n) n cs:=by
 subst hN
 exact zGP w T cs n hn h
theorem zDz {w:World} {g base size n:Nat} {T e:TypeId} {cs:Array Value} {v:Value} {xs:List Value} (h:Blk w g T cs) (ho:w.ownsRow base e size v n xs) (hne:T≠e):some g≠v.ownBlock:=by
 obtain⟨-,hh⟩:=ho
 rcases hh with ⟨rfl, -⟩ | ⟨k,cap,cur,rfl, -,hg, -⟩
 ·simp[Value.ownBlock]
 ·intro e1
  have:g=k:=by simpa [Value.ownBlock] using e1
  subst this
  exact (h.ne_ (g':=g) (cs':=cur) hg hne) rfl
theorem ext_own {a w w':World} {e size n:Nat} {v:Value} {xs:List Value} (hx:Ext a w) (ho:w.ownsRow a.heap.size e size v n xs) (hg:w.grownBy w' v.ownBlock):Ext a w' :=
 Below.grown hx hg hx.size (fun k hk=>(ho.lt k hk).1)
theorem zJL {a w w':World} {e size n:Nat} {v:Value} {xs:List Value} {o:Obj} (hx:Ext a w) (ho:w.ownsRow a.heap.size e size v n xs) (hg:(w.alloc o).grownBy w' v.ownBlock):Ext a w' :=
 ext_own (hx.alloc o) (ho.alloc o) hg
theorem zEM (l:List Nat): ∀ u∈zD l,u.oneCell'=true:=by
 intro u hu
 obtain⟨z, -,rfl⟩:=wD6.1 hu
 rfl
theorem zDt (a b:List Nat):zD (a++b)=zD a++zD b:=by simp[zD]
theorem own_base {w:World} {B B':Nat} {e:TypeId} {size n:Nat} {v:Value} {xs:List Value} (h:w.ownsRow B e size v n xs) (hb:B'≤B):w.ownsRow B' e size v n xs:=by
 obtain⟨hl,hh⟩:=h
 refine⟨hl, ?_⟩
 rcases hh with ⟨rfl,rfl⟩ | ⟨g,cap,cur,rfl,h1,h2⟩
 ·exact .inl ⟨rfl,rfl⟩
 ·exact .inr ⟨g,cap,cur,rfl,by omega,h2⟩
theorem elt_info (P:Program) {t e:TypeId} {size bytes:Nat} (h:Elt P t e size bytes): ∃ i z,P.info? e=some i∧i.zero=some z∧i.size=size∧i.bytes=bytes∧z.cells.size=size:=by
 obtain⟨-,hi, -⟩:=h
 cases hq:P.info? e with
 | none=>simp[hq] at hi
 | some i =>
   cases hz:i.zero with
   | none=>simp[hq,hz] at hi
   | some z =>
     simp[hq,hz] at hi
     exact⟨i,z,rfl,hz,hi.2.1,hi.2.2,hi.1⟩
theorem zIK {P:Program} {w:World} {ops:Array Oper} {rest:List Oper} {o:Oper} {a:Act} {Q:Exit→Act→World→Prop} {t e:TypeId} {size bytes:Nat} (he:Elt P t e size bytes) (hg:o.guard=none) (s x:Operand)
 (ho:o.op=.call { callee:=.builtin .append,args:= #[s,x],argTypes:= #[t,t] }) (n:Nat) (b:Addr) (olds:List Value) (hs:a.eval s=.slice (some b) n n) (hlo:olds.length=n*size) (holds:zAD w b olds)
 (u:Value) (m:Nat) (news:List Value) (hx:a.eval x=u) (hr:SL w size u m news) (h1: ∀ u∈news,u.oneCell'=true) (hm:0<m) (h63:n+m≤9223372036854775807) (hbytes:(n+m)*bytes≤140737488355328)
 (h: ∀ v' w',w'.ownsRow w.heap.size e size v' (n+m) (olds++news)→Ext w w'→wpList P ops Q rest (a.put o.dst v') w'):wpList P ops Q (o::rest) a w:=by
 obtain⟨i,z,hi,hz,hsz,hby,hzs⟩:=elt_info P he
 obtain⟨A,c,rfl, -, -,hl,hc⟩:=hr
 obtain⟨ad,rfl, -,hcc⟩:=hc hm
 refine wpList_append_grows w hg s x t ho e i z size bytes he.ht hi hz hsz hby hzs he.hsz (some b) n n olds hs (fun h=>by cases h) hlo (fun b' hb j u hu=>by injection hb with hb;subst hb;exact holds j u hu) ad m c news hx hl hcc h1 (by omega) (by unfold maxLen;omega) hbytes (fun v' w' h2 h3=>h v' w' h2 ?_)
 exact (Below.refl _ w).grown h3 (wA5 _) (fun k hk=>by cases hk)
end Go.Proofs.YtkggcjdlpendfaaGreatDoor
