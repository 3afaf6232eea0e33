/- Contracts of the functions that the law reaches, part 10. -/
import Derived.ProofKit
import Derived.OpenShut
import Derived.Maps.OwnSet
import Derived.Test.YtkggcjdlpendfaaGreatDoorMTopCoarseCard9
namespace Go.Proofs.YtkggcjdlpendfaaGreatDoor
set_option linter.unusedVariables false
set_option linter.unusedSimpArgs false
set_option maxRecDepth 20000
set_option maxHeartbeats 8000000
open Go.RowKit
theorem zIL {fn:Func} {p u v:Tmp} {ty:TypeId} (h:fn.results= #[.cell p ty,.tmp u,.tmp v]) (tmps:Array Value) (P:Program) (w:World) :
 (results fn tmps).run P w =
   ((asAddr (tmps.getD p undef)).run P w).andThen fun a w₁=>((loadVar ty a).run P w₁).andThen fun x w₂=>.ok (.tuple #[x,tmps.getD u undef,tmps.getD v undef]) w₂:=by
 simp only[results,h]
 simp[Sem.run_bind,Result.andThen]
theorem jB {P:Program} {a:Act} {w:World} {fn:Func} {R:Ending→World→Prop} {p u v:Tmp} {ty:TypeId} (h:fn.results= #[.cell p ty,.tmp u,.tmp v]) (hdf:a.defers=[]) (g:Nat) {t:TypeId} {cs:Array Value}
 (hp:a.tmps.getD p undef=.pointer (some ⟨g,0,none⟩)) (hB:Blk w g t cs) (d:TypeDesc) (hu:P.underlying ty=some d) (hd:(match d with | .struct _ | .array _ _=>true | _=>false)=true)
 (n:Nat) (hs:(P.info? ty).map (·.size)=some n) (hn:cs.size=n) (hR:R (.returned (.tuple #[.agg cs,a.tmps.getD u undef,a.tmps.getD v undef])) w):bodyPost P fn R .ret a w:=by
 refine bodyPost_ret ?_ hdf hR
 rw[zIL h]
 have e:=run_loadVar_row (P:=P) w g t ty cs (0,0) d hB hu hd (by rw[hn];exact hs)
 simp[hp,asAddr,e,Result.andThen]
def I64 (x:Int):Prop:= -9223372036854775808≤x∧x≤9223372036854775807
section
variable {σ:Type}
structure Src (f:FuncId) (pre post:Array Value) (B:Nat) (S:Nat→Prop) (Inv:World→σ→Prop) (next:Bool→σ→Tok×Int×σ):Prop where
 low: ∀ b,S b→b<B
 ask: ∀ first s W,Inv W s→B≤W.heap.size→Calls Tryz.prog f (pre++ #[.bool first]++post) W fun e w'=>e=.returned (.tuple #[.agg (xV (next first s).1).toArray,.int .i64 (next first s).2.1])∧Inv w' (next first s).2.2∧Upd S W w'
 keep: ∀ s W W',Inv W s→Upd (fun b=>B≤b) W W'→Inv W' s
 wf: ∀ first s W,Inv W s→(next first s).2.1=0→I64 (next first s).1.1∧I64 (next first s).1.2.1∧I64 (next first s).1.2.2
theorem vQ {S S':Nat→Prop} {w w':World} (h:Upd S w w') (hs: ∀ b,S b→S' b):Upd S' w w':=⟨h.os,h.tape,h.output,h.size,fun b hb hn=>h.block b hb (fun k=>hn (hs b k))⟩
theorem zV {S:Nat→Prop} {w w':World} (h:Ext w w'):Upd S w w':=Upd.of_ext h
structure From (B:Nat) (S:Nat→Prop) (Inv:World→σ→Prop) (w0 w:World) (gb gr:Nat) (T24:TypeId) (z:List Int) (A:Option Addr) (c:Nat) (L:List Tok) (s:σ):Prop where
 b:Blk w gb T24 (bv z)
 r:Blk w gr T24 (bv (List.replicate 64 0))
 hb:B≤gb
 hr:B≤gr
 ne:gb≠gr
 row:w.ownsRow B 149 3 (.slice A L.length c) L.length (qC L)
 inv:Inv w s
 upd:Upd (fun x=>S x∨B≤x) w0 w
 size:B≤w.heap.size
variable {f:FuncId} {pre post:Array Value} {B:Nat} {S:Nat→Prop} {Inv:World→σ→Prop} {next:Bool→σ→Tok×Int×σ} {w0 w w':World} {gb gr:Nat} {z:List Int} {A:Option Addr} {c:Nat} {L:List Tok} {s s':σ} {T24:TypeId}
theorem zLH {e:TypeId} {size n:Nat} {xs:List Value} {v:Value} (h:w.ownsRow B e size v n xs): ∀ x,v.ownBlock=some x→B≤x:=fun x hx=>(h.lt x hx).1
theorem From.ext (h:From B S Inv w0 w gb gr T24 z A c L s) (C:Src f pre post B S Inv next) (hx:Ext w w'):From B S Inv w0 w' gb gr T24 z A c L s :=
 ⟨h.b.ext hx,h.r.ext hx,h.hb,h.hr,h.ne,yJ h.row hx,C.keep _ _ _ h.inv (zV hx),h.upd.trans (zV (S:=fun _=>False) hx) (fun x k=>k.elim),wD1 h.size hx.size⟩
theorem From.asked (h:From B S Inv w0 w gb gr T24 z A c L s) (C:Src f pre post B S Inv next) (hu:Upd S w w') (hi:Inv w' s'):From B S Inv w0 w' gb gr T24 z A c L s' :=
 ⟨hu.blk h.b (fun k=>by have:=C.low _ k;have:=h.hb;omega),hu.blk h.r (fun k=>by have:=C.low _ k;have:=h.hr;omega),h.hb,h.hr,h.ne,
  jP h.row hu (fun x hx k=>by have:=zLH h.row x hx;have:=C.low _ k;omega),hi,h.upd.trans hu (fun x k=>.inl (.inl k)),wD1 h.size hu.size⟩
theorem From.wrote (h:From B S Inv w0 w gb gr T24 z A c L s) (C:Src f pre post B S Inv next) {g:Nat} (hg:w.grownBy w' (some g)) (hB:B≤g) (h1:gb≠g) (h2:gr≠g) (h3: ∀ x,(Value.slice A L.length c).ownBlock=some x→x≠g):From B S Inv w0 w' gb gr T24 z A c L s:=by
 have hu:=zL hg
 exact⟨hu.blk h.b (fun k=>h1 (Option.some.inj k).symm),hu.blk h.r (fun k=>h2 (Option.some.inj k).symm),h.hb,h.hr,h.ne,jP h.row hu (fun x hx k=>h3 x hx (Option.some.inj k).symm),
  C.keep _ _ _ h.inv (vQ hu (fun b k=>by have:=Option.some.inj k;omega)),h.upd.trans hu (fun x k=>.inl (.inr (by have:=Option.some.inj k;omega))),wD1 h.size hu.size⟩
theorem From.apart (h:From B S Inv w0 w gb gr T24 z A c L s) (hT:T24≠149): ∀ x,(Value.slice A L.length c).ownBlock=some x→gb≠x∧gr≠x:=by
 intro x hx
 obtain⟨-,hh⟩:=h.row
 rcases hh with ⟨e, -⟩ | ⟨g,cap,cur,e, -,hg, -⟩
 ·rw[e] at hx;cases hx
 ·rw[e] at hx
  have hx:g=x:=Option.some.inj hx
  subst hx
  exact⟨Blk.ne_ h.b (w:=w) (g':=g) (t':=149) (cs':=cur) hg hT,Blk.ne_ h.r (w:=w) (g':=g) (t':=149) (cs':=cur) hg hT⟩
theorem From.app (h:From B S Inv w0 w gb gr T24 z A c L s) (C:Src f pre post B S Inv next) (hT:T24≠149) {A':Option Addr} {c':Nat} {t:Tok}
 (ho:w'.ownsRow B 149 3 (.slice A' (L.length+1) c') (L.length+1) (qC L++xV t)) (hg:w.grownBy w' (Value.slice A L.length c).ownBlock):From B S Inv w0 w' gb gr T24 z A' c' (L++[t]) s:=by
 have hu:=zL hg
 have ha:=h.apart hT
 have hlo:=zLH h.row
 refine⟨hu.blk h.b (fun k=>(ha _ k).1 rfl),hu.blk h.r (fun k=>(ha _ k).2 rfl),h.hb,h.hr,h.ne, ?_,C.keep _ _ _ h.inv (vQ hu (fun b k=>hlo _ k)),h.upd.trans hu (fun x k=>.inl (.inr (hlo _ k))),wD1 h.size hu.size⟩
 have e1:(L++[t]).length=L.length+1:=by simp
 have e2:qC (L++[t])=qC L++xV t:=by simp[qC]
 rw[e1,e2]
 exact ho
theorem From.set (h:From B S Inv w0 w gb gr T24 z A c L s) (C:Src f pre post B S Inv next) (hT:T24≠149) (k:Nat) (x:Int):From B S Inv w0 (w.setCell ⟨gb,k,none⟩ (.int .i64 x)) gb gr T24 (z.set k x) A c L s:=by
 have hu:Upd (fun b=>b=gb) w (w.setCell ⟨gb,k,none⟩ (.int .i64 x)):=Upd.setCell (S:=fun b=>b=gb) (Upd.refl _ w) (p:=⟨gb,k,none⟩) rfl _
 refine⟨?_,hu.blk h.r (fun k=>h.ne k.symm),h.hb,h.hr,h.ne,jP h.row hu (fun y hy k=>(h.apart hT y hy).1 k.symm),C.keep _ _ _ h.inv (vQ hu (fun b k=>by rw[k];exact h.hb)),h.upd.trans hu (fun x k=>.inl (.inr (by rw[k];exact h.hb))),wD1 h.size hu.size⟩
 have:=h.b.set_ k (.int .i64 x)
 rwa [vH] at this
theorem From.fresh (h:From B S Inv w0 w gb gr T24 z A c L s) {g:Nat} (hg:w.heap.size≤g):B≤g∧gb≠g∧gr≠g∧ ∀ x,(Value.slice A L.length c).ownBlock=some x→x≠g :=
 ⟨wD1 h.size hg,by have:=h.b.lt;omega,by have:=h.r.lt;omega,fun x hx=>by have:=(h.row.lt x hx).2;omega⟩
theorem From.made (h:From B S Inv w0 w gb gr T24 z A c L s) (C:Src f pre post B S Inv next) {g:Nat} {w3:World} (hx:Ext w w3) (hg:w.heap.size≤g) (hw:w3.grownBy w' (some g)):From B S Inv w0 w' gb gr T24 z A c L s:=by
 obtain⟨h1,h2,h3,h4⟩:=h.fresh hg
 exact (h.ext C hx).wrote C hw h1 h2 h3 h4
theorem From.putb (h:From B S Inv w0 w gb gr T24 z A c L s) (C:Src f pre post B S Inv next) (hT:T24≠149) {z':List Int} (hg:w.grownBy w' (some gb)) (hb:Blk w' gb T24 (bv z')):From B S Inv w0 w' gb gr T24 z' A c L s:=by
 have hu:=zL hg
 exact⟨hb,hu.blk h.r (fun k=>h.ne (Option.some.inj k)),h.hb,h.hr,h.ne,jP h.row hu (fun x hx k=>(h.apart hT x hx).1 (Option.some.inj k)),
  C.keep _ _ _ h.inv (vQ hu (fun b k=>by have:=Option.some.inj k;have:=h.hb;omega)),h.upd.trans hu (fun x k=>.inl (.inr (by have:=Option.some.inj k;have:=h.hb;omega))),wD1 h.size hu.size⟩
theorem From.fin (h:From B S Inv w0 w gb gr T24 z A c L s) (C:Src f pre post B S Inv next) (hT:T24≠149) (hg:w.grownBy w' (some gr)) (hB:B=w0.heap.size):Inv w' s∧Upd S w0 w'∧SL w' 3 (.slice A L.length c) L.length (qC L):=by
 have hu:=zL hg
 have hq:=h.upd.trans hu (S':=fun b=>some gr=some b) (fun x k=>.inl (.inr (by have:=Option.some.inj k;have:=h.hr;omega)))
 refine⟨C.keep _ _ _ h.inv (vQ hu (fun b k=>by have:=Option.some.inj k;have:=h.hr;omega)), ?_,zFM (jP h.row hu (fun x hx k=>(h.apart hT x hx).2 (Option.some.inj k)))⟩
 exact⟨hq.os,hq.tape,hq.output,hq.size,fun b hb hn=>hq.block b hb (fun k=>k.elim hn (fun k=>by omega))⟩
end
section
open Go.RowKit Go.ChangeShapes Go.WideShapes Go.ChangeAt
def inI64 (z:Int):Prop:= -9223372036854775808≤z∧z≤9223372036854775807
theorem zPk {z:Int} (h:(Lit.int .i64 z).wf=true):inI64 z:=by
 simp[Lit.wf,IntKind.min,IntKind.max,IntKind.signed,IntKind.bits] at h
 exact⟨by omega,by omega⟩
section
variable {H:Type} {enc:TypeId×Value→H} {P:Program} {w:World} {base:Nat} {spare:Nat→Bool} {held:Bool}
theorem cellsInt:Tryz.prog.cellsOf 3=1:=by kernel_rfl
end
end
theorem zCx (n:Int) (w:World):Calls Tryz.prog 189 #[.int .i64 n] w fun e w'=>e=.returned (.bool (inB n (-2047) 2047))∧w=w':=by
 by_cases h: -2047≤n
 ·have h':decide (-2047≤n)=true:=by simpa using h
  have e:inB n (-2047) 2047=decide (n≤2047):=by simp[inB];omega
  rw[e];clear e
  go_enter Tryz.func189,Tryz.ntmps189
  go_wp2_with fail
  go_ret
  exact⟨rfl,rfl⟩
 ·have h':decide (-2047≤n)=false:=by simpa using h
  have e:inB n (-2047) 2047=false:=zBa.2 (by omega)
  rw[e];clear e
  go_enter Tryz.func189,Tryz.ntmps189
  go_wp2_with fail
  go_ret
  exact⟨rfl,rfl⟩
theorem zIX (n:Int) (w:World):Calls Tryz.prog 205 (#[.int .i64 n]++ #[]) w fun e w'=>e=.returned (.bool (!inB n (-2047) 2047))∧w=w':=by
 have HC:=zA (fun W=>zCx n W)
 generalize inB n (-2047) 2047=b at *
 go_enter Tryz.func205,Tryz.ntmps205
 go_wp2_with (go_at_call 189;(with_reducible refine (HC.out _).mono ?_);rintro e w' ⟨rfl,rfl⟩)
 go_ret
 exact⟨rfl,rfl⟩
theorem zFO:vJ Tryz.prog 205:=uZ Tryz.func205 (by kernel_rfl) rfl
theorem rtok_bad (before:Int) (zs:List Int) (w:World) (hz:zs.length=64) (h:inB before (-2047) 2047=false∨(inB before (-2047) 2047=true∧zN zs (-2047) 2047=false)) :
 Calls Tryz.prog 180 #[.int .i64 before,.agg (bv zs)] w fun e w'=>e=.returned (.tuple #[.slice none 0 0,.int .i64 1])∧Ext w w':=by
 have HOB:=zA (fun W=>zCx before W)
 have HSL:=zA (fun (W:World) g (h:Blk W g 33 (bv zs))=>h.bsl (c:=64) (by omega) (by omega))
 rw[hz] at HSL
 have HCF:=zA (fun W v (hs:SL W 1 v 64 (ints zs))=>qY 205 #[] (fun z=> !inB z (-2047) 2047) zFO v zs W (by rw[hz];exact hs) (fun z _=>zIX z W))
 simp only[zCb] at HCF
 generalize bv zs=c0 at *
 rcases h with h | ⟨h,h2⟩
 ·rw[h] at HOB
  clear h
  go_enter Tryz.func180,Tryz.ntmps180
  go_wp2_with (first
   | (refine wBox rfl 33 (.tmp 1) rfl c0 rfl ?_;intro w1 gb hbb1 hx1 hgb)
   | (go_at_call 189;(with_reducible refine (HOB.out _).mono ?_);rintro e w' ⟨rfl,rfl⟩))
  go_ret2
  exact⟨rfl,hx1⟩
 ·rw[h] at HOB
  rw[h2] at HCF
  clear h h2
  go_enter Tryz.func180,Tryz.ntmps180
  go_wp2_with (first
   | (refine wBox rfl 33 (.tmp 1) rfl c0 rfl ?_;intro w1 gb hbb1 hx1 hgb;have hsl:=HSL.out _ _ hbb1)
   | (go_at_call 189;(with_reducible refine (HOB.out _).mono ?_);rintro e w' ⟨rfl,rfl⟩)
   | (go_at_call 88;(with_reducible refine (HCF.out _ _ hsl).mono ?_);rintro e w' ⟨rfl,rfl⟩))
  go_ret2
  exact⟨rfl,hx1⟩
theorem zJx (before:Int) (zs:List Int) (w:World) (hz:zs.length=64) (hb1: -2047≤before) (hb2:before≤2047) (hal:zN zs (-2047) 2047=true) (h01: -2047≤(zto zs).getD 0 0) (h02:(zto zs).getD 0 0≤2047) :
 Calls Tryz.prog 180 #[.int .i64 before,.agg (bv zs)] w fun e w'=> ∃ A c,e=.returned (.tuple #[.slice A (yE before (zto zs)).length c,.int .i64 0])∧SL w' 3 (.slice A (yE before (zto zs)).length c) (yE before (zto zs)).length (qC (yE before (zto zs)))∧(∀ ad,A=some ad→w.heap.size≤ad.block)∧Ext w w':=by
 have HOB:=zA (fun W=>zCx before W)
 rw[vF.2 ⟨hb1,hb2⟩] at HOB
 have HSL:=zA (fun (W:World) g (h:Blk W g 33 (bv zs))=>h.bsl (c:=64) (by omega) (by omega))
 rw[hz] at HSL
 have HCF:=zA (fun W v (hs:SL W 1 v 64 (ints zs))=>qY 205 #[] (fun z=> !inB z (-2047) 2047) zFO v zs W (by rw[hz];exact hs) (fun z _=>zIX z W))
 simp only[zCb,hal] at HCF
 have HT:=zA (fun W=>zGK before zs W hz hb1 hb2 h01 h02)
 have hsz:=zA ((zJ zs).trans hz)
 generalize yE before (zto zs)=T at *
 generalize bv zs=c0 at *
 clear hal h01 h02
 go_enter Tryz.func180,Tryz.ntmps180
 go_wp2_with (first
  | (refine wBox rfl 33 (.tmp 1) rfl c0 rfl ?_;intro w1 gb hbb1 hx1 hgb;have hsl:=HSL.out _ _ hbb1)
  | (go_at_call 189;(with_reducible refine (HOB.out _).mono ?_);rintro e w' ⟨rfl,rfl⟩)
  | (go_at_call 88;(with_reducible refine (HCF.out _ _ hsl).mono ?_);rintro e w' ⟨rfl,rfl⟩)
  | (refine wLdB rfl 33 (.tmp 3) rfl _ rfl hbb1 _ Tryz.underlying33 rfl 64 zF hsz.out ?_)
  | (go_at_call 191;(with_reducible refine (HT.out _).mono ?_);rintro e w2 ⟨A,c,rfl,hs2,hf2,hx2⟩))
 go_ret2
 exact⟨A,c,rfl,hs2,fun ad e=>wD1 hx1.size (hf2 ad e),hx1.trans hx2⟩
theorem rtok_good (before:Int) (zs:List Int) (w:World) (hz:zs.length=64) (hb1: -2047≤before) (hb2:before≤2047) (hal:zN zs (-2047) 2047=true) (h01: -2047≤(zto zs).getD 0 0) (h02:(zto zs).getD 0 0≤2047) :
 Calls Tryz.prog 180 #[.int .i64 before,.agg (bv zs)] w fun e w'=> ∃ A c,e=.returned (.tuple #[.slice A (yE before (zto zs)).length c,.int .i64 0])∧SL w' 3 (.slice A (yE before (zto zs)).length c) (yE before (zto zs)).length (qC (yE before (zto zs)))∧Ext w w' :=
 (zJx before zs w hz hb1 hb2 hal h01 h02).mono fun _ _ ⟨A,c,e,h1,_,h2⟩=>⟨A,c,e,h1,h2⟩
section
section
variable {σ:Type} {C:σ→Prop}
structure Eat (f:FuncId) (cap:Array Value) (Inv:World→σ→(Nat→Prop)→Prop) (step:σ→Tok→Bool→Int×σ) (C:σ→Prop):Prop where
 goes:zAP Tryz.prog f
 back: ∀ l s,C (jT step l s).2→C s
 ask: ∀ t b s F W,C (step s t b).2→zBP t→Inv W s F→Calls Tryz.prog f (#[.agg (xV t).toArray,.bool b]++cap) W fun e w'=>e=.returned (.int .i64 (step s t b).1)∧Upd F W w'∧ ∃ F',Inv w' (step s t b).2 F'∧ ∀ x,F' x→F x∨W.heap.size≤x
 keep: ∀ s F W W',Inv W s F→Ext W W'→Inv W' s F
 old: ∀ s F W x,Inv W s F→F x→x<W.heap.size
variable {f:FuncId} {cap:Array Value} {Inv:World→σ→(Nat→Prop)→Prop} {step:σ→Tok→Bool→Int×σ}
theorem Eat.ext (E:Eat f cap Inv step C) {s:σ} {F:Nat→Prop} {W W':World} (h:Inv W s F) (hx:Ext W W'):Inv W' s F:=E.keep s F W W' h hx
def EachIs (Inv:World→σ→(Nat→Prop)→Prop) (F:Nat→Prop) (w:World) (r:Int×σ) (e:Ending) (w':World):Prop :=
 e=.returned (.int .i64 r.1)∧Upd F w w'∧ ∃ F',Inv w' r.2 F'∧ ∀ x,F' x→F x∨w.heap.size≤x
theorem EachIs.mk {F F':Nat→Prop} {w w':World} {r:Int×σ} {n:Int} {s:σ} (hr:r=(n,s)) (hu:Upd F w w') (hi:Inv w' s F') (hF: ∀ x,F' x→F x∨w.heap.size≤x):EachIs Inv F w r (.returned (.int .i64 n)) w':=by
 subst hr
 exact⟨rfl,hu,F',hi,hF⟩
theorem zGw (zs:List Int):(ints zs).toArray=bv zs:=rfl
theorem SL.updq {S:Nat→Prop} {w w':World} {size n c:Nat} {A:Option Addr} {xs:List Value} (h:SL w size (.slice A n c) n xs) (hu:Upd S w w') (hS: ∀ ad,A=some ad→0<n→ ¬S ad.block):SL w' size (.slice A n c) n xs:=by
 obtain⟨A',c',e,h1,h2,h3,h4⟩:=h
 injection e with e1 e2 e3
 subst e1 e3
 refine⟨_,_,rfl,h1,h2,h3,fun h0=> ?_⟩
 obtain⟨ad,rfl,hb,hc⟩:=h4 h0
 refine⟨ad,rfl,wA1 hb hu.size,fun j u hj=> ?_⟩
 rw[←hc j u hj]
 unfold World.cell?
 rw[yH,hu.block _ hb (hS ad rfl h0)]
theorem zigAt_0:jM 0=0:=by decide
theorem zNe (zs:List Int):(zto zs).getD 0 0=zs.getD 0 0:=by
 have h:0<(zto zs).length:=by rw[uD];omega
 rw[wF2,wA2 h]
 simp[zto,zigAt_0]
theorem zJM {zs:List Int} {lo hi:Int} (h:zN zs lo hi=true) (k:Nat) (h1:lo≤0) (h2:0≤hi):lo≤zs.getD k 0∧zs.getD k 0≤hi:=by
 rw[wF2]
 cases hq:zs[k]? with
 | none=>exact⟨h1,h2⟩
 | some y=>exact yD.1 h y (wJ8 hq)
theorem befAt_in {Z:List Int} {k:Nat} (h: ∀ j,j<k→zN (yT Z j) (-2047) 2047=true): -2047≤uA Z k∧uA Z k≤2047:=by
 unfold uA
 split
 ·omega
 ·exact zJM (h (k-1) (by omega)) 0 (by omega) (by omega)
theorem befAt_0 (Z:List Int):uA Z 0=0:=if_pos rfl
theorem zQS (Z:List Int) (k:Nat):uA Z (k+1)=(yT Z k).getD 0 0:=if_neg (by omega)
theorem zKB (Z:List Int) (k:Nat):zBD Z k=yE (uA Z k) (zto (yT Z k)):=rfl
attribute [local irreducible] yE zto bv qC zAV jT qL zBD uA yT
theorem zNJ (E:Eat f cap Inv step C) (A:Option Addr) (n c:Nat) (Z:List Int) (hZ:Z.length=n*64) (w:World) (hs:SL w 64 (.slice A n c) n (ints Z)) (s:σ) (F:Nat→Prop) (hI:Inv w s F) (hA: ∀ ad,A=some ad→0<n→ ¬F ad.block) (hCR:C (qD step n Z s).2) :
 Calls Tryz.prog 145 #[.slice A n c,.func (.func f) #[] cap] w (EachIs Inv F w (qD step n Z s)):=by
 have hs':=hs
 obtain⟨A',c',he,hnc,hc2, -, -⟩:=hs'
 injection he with he1 he2 he3
 subst he1 he3
 by_cases hn:400<n
 ·have hR:qD step n Z s=(2,s):=if_pos hn
  have HR:=zA hR
  generalize qD step n Z s=R at *
  clear hR hs
  go_enter Tryz.func145,Tryz.ntmps145
  go_wp2_with fail
  go_ret
  exact EachIs.mk HR.out (Upd.refl _ _) hI (fun x h=>.inl h)
 ·have hR:qD step n Z s=if zN Z (-2047) 2047=false then (1,s) else jT step (qL Z n 0) s:=if_neg hn
  have HR:=zA hR
  have HCR:=zA hCR
  generalize qD step n Z s=R at *
  clear hR hCR
  have hn4:n≤400:=by omega
  have HZ:=zA hZ
  clear hn hZ
  have HAL:=zA (show (Tryz.prog.info? 33).bind (·.zero)=some (.agg (bv (List.replicate 64 0))) from qN)
  have hz0:=zA (show (Value.agg (bv (List.replicate 64 0))).cells.size=64 by rw[show (Value.agg (bv (List.replicate 64 0))).cells=bv (List.replicate 64 0) from rfl,zJ];rfl)
  generalize bv (List.replicate 64 0)=cz at *
  go_enter Tryz.func145,Tryz.ntmps145
  go_wp2_with fail
  go_loopw [22] (fun i wr=> ∃ k:Nat,k≤n∧i=.int .i64 (k:Int)∧Ext w wr∧Hid (∀ j,j<k→zN (yT Z j) (-2047) 2047=true)) (fun i _=>n-(intOf i).toNat)
  case atStart=>exact⟨0,by omega,rfl,Ext.refl w,zA (fun j h=>by omega)⟩
  case round =>
   obtain⟨k,hk,rfl,hx,HP⟩:=hrel
   by_cases hlt:k<n
   ·obtain⟨ad,rfl,hab,hca⟩:=(hs.ext hx).part hlt
    have hbl:=zHA Z n k HZ.out hlt
    have e:((ints Z).drop (k*64)).take 64=ints (yT Z k):=by simp[ints,yT,wG9,wG8]
    rw[e] at hca
    clear e
    have HCA:=zA hca
    have HB:=zA hbl
    have HSZ:=zA (show (bv (yT Z k)).size=64 by rw[zJ];exact hbl)
    have HO1:=zA (xB (yT Z k))
    have HBV:=zA (zGw (yT Z k))
    clear hca hbl
    cases hal:zN (yT Z k) (-2047) 2047 with
    | false =>
      have HT:=zA (fun W=>rtok_bad 0 (yT Z k) W HB.out (.inr ⟨by decide,hal⟩))
      have HRE:Hid (R=(1,s)):=zA (by
       rw[HR.out,if_pos]
       cases hq:zN Z (-2047) 2047 with
       | false=>rfl
       | true=>have:=(zNZ Z n HZ.out).1 hq k hlt;rw[hal] at this;cases this)
      have HCB:Hid (∀ W,zAD W (ad.add (k*64)) (ints (yT Z k))→zAD W (ad.add (k*64)) (bv (yT Z k)).toList):=zA (fun W h=>by rw[←HBV.out];simpa using h)
      clear hal
      go_wp2_with (first
       | ((with_reducible apply gS 25);refine yL (by rfl) 33 (.tmp 24) rfl (ad.add (k*64)) rfl (ints (yT Z k)) _ HCA.out Tryz.underlying33 rfl (by rw[zY,HB.out];exact zF) ?_;rw[HBV.out])
       | ((with_reducible apply gS 6);refine wAlo' rfl (some 6) rfl 33 rfl _ HAL.out ?_;intro w1 g1 hb1 hx1 hg1)
       | ((with_reducible apply gT 6 25);refine wStB rfl 33 (.tmp 6) (.tmp 25) rfl _ _ rfl rfl hb1 64 zF HSZ.out hz0.out HO1.out ?_;intro w2 hb2 hg2)
       | ((with_reducible apply gS 27);refine wLdB rfl 33 (.tmp 6) rfl g1 rfl hb2 _ Tryz.underlying33 rfl 64 zF HSZ.out ?_)
       | (go_at_call 180;(with_reducible refine (HT.out _).mono ?_);rintro e w3 ⟨rfl,hx3⟩))
      go_ret
      have hx4:=(hx.trans (hx1.grown hg2 hg1)).trans hx3
      exact EachIs.mk HRE.out (zV hx4) (E.ext hI hx4) (fun x h=>.inl h)
    | true =>
      have hzh:=zJM hal 0 (by omega) (by omega)
      rw[←zNe] at hzh
      have HT:=zA (fun W=>rtok_good 0 (yT Z k) W HB.out (by omega) (by omega) hal hzh.1 hzh.2)
      have HP':Hid (∀ j,j<k+1→zN (yT Z j) (-2047) 2047=true):=zA (fun j hj=>by
       rcases wA3 j k with h1 | h1
       ·exact HP.out j h1
       ·obtain rfl:j=k:=by omega
        exact hal)
      clear hal hzh HP
      generalize yE 0 (zto (yT Z k))=T0 at *
      go_wp2_with (first
       | ((with_reducible apply gS 25);refine yL (by rfl) 33 (.tmp 24) rfl (ad.add (k*64)) rfl (ints (yT Z k)) _ HCA.out Tryz.underlying33 rfl (by rw[zY,HB.out];exact zF) ?_;rw[HBV.out])
       | ((with_reducible apply gS 6);refine wAlo' rfl (some 6) rfl 33 rfl _ HAL.out ?_;intro w1 g1 hb1 hx1 hg1)
       | ((with_reducible apply gT 6 25);refine wStB rfl 33 (.tmp 6) (.tmp 25) rfl _ _ rfl rfl hb1 64 zF HSZ.out hz0.out HO1.out ?_;intro w2 hb2 hg2)
       | ((with_reducible apply gS 27);refine wLdB rfl 33 (.tmp 6) rfl g1 rfl hb2 _ Tryz.underlying33 rfl 64 zF HSZ.out ?_)
       | (go_at_call 180;(with_reducible refine (HT.out _).mono ?_);rintro e w3 ⟨D,d,rfl, -,hx3⟩))
      go_roundw
      case rel=>exact⟨k+1,by omega,by go_num,(hx.trans (hx1.grown hg2 hg1)).trans hx3,HP'⟩
      case measure=>simp[intOf];omega
   ·obtain rfl:n=k:=by omega
    have HR2:Hid (jT step (qL Z n 0) s=R):=zA (by rw[HR.out,if_neg];rw[(zNZ Z n HZ.out).2 HP.out];simp)
    have HPA:Hid (∀ j,j<n→zN (yT Z j) (-2047) 2047=true):=zA HP.out
    have hI1:=E.ext hI hx
    have hs1:=hs.ext hx
    have hb0:=befAt_0 Z
    have HB0:=zA hb0
    clear HR hb0 hlt
    have hA1:Hid (∀ (F':Nat→Prop),(∀ x,F' x→F x∨w.heap.size≤x)→ ∀ ad,A=some ad→0<n→ ¬F' ad.block):=zA (fun F' h ad e h0 k=>by
     rcases h _ k with h1 | h1
     ·exact hA ad e h0 h1
     ·obtain⟨A'',c'',e2, -, -, -,h5⟩:=hs
      injection e2 with e3 _ _
      subst e3
      obtain⟨ad',e4,h6, -⟩:=h5 h0
      rw[e] at e4
      injection e4 with e4
      subst e4
      omega)
    have hu0:Upd F w wr:=zV hx
    have hsw:=hx.size
    clear hx hI hA hs HP
    go_wp2_with fail
    obtain⟨wo,rfl⟩: ∃ wo:World,wo=wr:=⟨_,rfl⟩
    go_loopw [9,37] (fun b i wr=> ∃ (k:Nat) (q:σ) (G:Nat→Prop),k≤n∧i=.int .i64 (k:Int)∧b=.int .i64 (uA Z k)∧Upd F w wr∧w.heap.size≤wr.heap.size∧Inv wr q G∧Hid (∀ x,G x→F x∨w.heap.size≤x)∧SL wr 64 (.slice A n c) n (ints Z)∧Hid (jT step (qL Z n k) q=R)) (fun _ i _=>n-(intOf i).toNat)
    case atStart=>exact⟨0,s,F,by omega,rfl,by rw[HB0.out],hu0,hsw,hI1,zA (fun x h=>.inl h),hs1,HR2⟩
    case round =>
     clear hu0 hsw hI1 hs1 HR2
     obtain⟨k,q,G,hk,rfl,rfl,hu,hsw,hI,HG,hs,HR⟩:=hrel
     by_cases hlt:k<n
     ·have hAG: ∀ ad,A=some ad→0<n→ ¬G ad.block:=hA1.out G HG.out
      have HAG:=zA hAG
      clear hAG
      obtain⟨ad,rfl,hab,hca⟩:=hs.part hlt
      have hbl:=zHA Z n k HZ.out hlt
      have e:((ints Z).drop (k*64)).take 64=ints (yT Z k):=by simp[ints,yT,wG9,wG8]
      rw[e] at hca
      clear e
      have HCA:=zA hca
      have HB:=zA hbl
      have HSZ:=zA (show (bv (yT Z k)).size=64 by rw[zJ];exact hbl)
      have HO1:=zA (xB (yT Z k))
      have HBV:=zA (zGw (yT Z k))
      have hal:=HPA.out k hlt
      have hzh:=zJM hal 0 (by omega) (by omega)
      rw[←zNe] at hzh
      have hbf:=befAt_in (Z:=Z) (k:=k) (fun j hj=>HPA.out j (by omega))
      have HT:=zA (fun W=>zJx (uA Z k) (yT Z k) W HB.out hbf.1 hbf.2 hal hzh.1 hzh.2)
      rw[←zKB] at HT
      have HWF:Hid (∀ t∈zBD Z k,zBP t):=zA (by rw[zKB];exact zFY _ _ (uD _))
      have HR1:Hid (jT step ((zAq (zBD Z k)).drop 0++qL Z n (k+1)) q=R):=zA (by rw[wK5, ←zHE Z n k hlt];exact HR.out)
      have HBS:=zA (zQS Z k)
      have HB1:Hid ((bv (yT Z k))[0]? =some (.int .i64 ((yT Z k).getD 0 0))):=zA (by rw[qG _ 0 (by omega)];simp[wF2,hbl])
      obtain⟨T,hT⟩: ∃ T,T=zBD Z k:=⟨_,rfl⟩
      rw[←hT] at HT HWF HR1
      obtain⟨m,hm⟩: ∃ m,T.length=m:=⟨_,rfl⟩
      have HM:=zA hm
      rw[hm] at HT
      clear hT hm hca hbl hal hzh hbf HR
      generalize uA Z k=bf at *
      go_wp2_with (first
       | ((with_reducible apply gS 40);refine yL (by rfl) 33 (.tmp 39) rfl (ad.add (k*64)) rfl (ints (yT Z k)) _ HCA.out Tryz.underlying33 rfl (by rw[zY,HB.out];exact zF) ?_;rw[HBV.out])
       | ((with_reducible apply gS 11);refine wAlo' rfl (some 11) rfl 33 rfl _ HAL.out ?_;intro w1 g1 hb1 hx1 hg1)
       | ((with_reducible apply gT 11 40);refine wStB rfl 33 (.tmp 11) (.tmp 40) rfl _ _ rfl rfl hb1 64 zF HSZ.out hz0.out HO1.out ?_;intro w2 hb2 hg2;have hx2:=hx1.grown hg2 hg1)
       | ((with_reducible apply gS 43);refine wLdB rfl 33 (.tmp 11) rfl g1 rfl hb2 _ Tryz.underlying33 rfl 64 zF HSZ.out ?_)
       | (go_at_call 180;(with_reducible refine (HT.out _).mono ?_);rintro e w3 ⟨D,d,rfl,hs3,hf3,hx3⟩))
      have hG2: ∀ x,G x→x<wr.heap.size:=fun x h=>E.old q G wr x hI h
      have HG1:Hid (¬G g1):=zA (fun h=>by have:=hG2 g1 h;omega)
      have hx3':Ext wr w3:=hx2.trans hx3
      have hI3:=E.ext hI hx3'
      have hb3:=hb2.ext hx3
      have hu3:Upd F w w3:=hu.trans (zV (S:=fun _=>False) hx3') (fun _ h=>h.elim)
      have hs3':=hs.ext hx3'
      have hsw3:w.heap.size≤w3.heap.size:=by have:=hx3'.size;omega
      have HD3:Hid (∀ ad,D=some ad→ ¬G ad.block):=zA (fun ad e h=>by have:=hf3 ad e;have:=hG2 _ h;have:=hx2.size;omega)
      have hs3c:=hs3
      obtain⟨D',d'',he3,hmd,hd2, -, -⟩:=hs3c
      injection he3 with q1 q2 q3
      subst q1 q3
      have hm1:m≤9223372036854775807:=by omega
      clear hu hsw hI hs hb1 hx1 hg1 hb2 hg2 hx2 hx3 hf3 hG2 hx3'
      clear q2
      go_loopw [49] (fun i wi=> ∃ (j:Nat) (p:σ) (G':Nat→Prop),j≤m∧i=.int .i64 (j:Int)∧Upd F w wi∧w.heap.size≤wi.heap.size∧Inv wi p G'∧Hid (∀ x,G' x→F x∨w.heap.size≤x)∧Hid (¬G' g1)∧Hid (∀ ad,D=some ad→ ¬G' ad.block)∧SL wi 64 (.slice (some ad) n c) n (ints Z)∧Blk wi g1 33 (bv (yT Z k))∧SL wi 3 (.slice D m d) m (qC T)∧Hid (jT step ((zAq T).drop j++qL Z n (k+1)) p=R)) (fun i _=>m-(intOf i).toNat)
      case atStart=>exact⟨0,q,G,by omega,rfl,hu3,hsw3,hI3,HG,HG1,HD3,hs3',hb3,hs3,HR1⟩
      case round =>
       clear hu3 hsw3 hI3 HG HG1 HD3 hs3' hb3 hs3 HR1
       obtain⟨wo2,rfl⟩: ∃ wo2:World,wo2=w3:=⟨_,rfl⟩
       obtain⟨j,p,G',hj,rfl,hu,hsw,hI,HG,HG1,HD,hs,hb,hst,HR⟩:=hrel
       by_cases hlj:j<m
       ·obtain⟨td,rfl,htb,htc⟩:=hst.part hlj
        have hjT:j<T.length:=by rw[HM.out];exact hlj
        rw[zHi T j hjT] at htc
        have HTC:=zA htc
        have HRj:Hid (jT step ((T[j],j ==0)::((zAq T).drop (j+1)++qL Z n (k+1))) p=R):=zA (by have:=HR.out;rw[zQx T j hjT,wK6] at this;exact this)
        have hwf:=HWF.out T[j] (wE1 hjT)
        obtain⟨b,hbq⟩: ∃ b,b=(j ==0):=⟨_,rfl⟩
        rw[←hbq] at HRj
        have hjb:((j:Int) ==0)=b:=by rw[hbq];cases j<;>simp<;>omega
        generalize T[j]=t at *
        have hC2:C (step p t b).2:=by
         by_cases h0:(step p t b).1=0
         ·have h:=HRj.out
          rw[zCL h0] at h
          have h2:=HCR.out
          rw[←h] at h2
          exact E.back _ _ h2
         ·have h:=HRj.out
          rw[zDU h0] at h
          rw[h]
          exact HCR.out
        have HAS:=zA (fun W (h:Inv W p G')=>E.ask t b p G' W hC2 hwf h)
        have hold: ∀ x,G' x→x<wr.heap.size:=fun x h=>E.old p G' wr x hI h
        have HOLD:=zA hold
        have HAD:Hid (¬G' ad.block):=zA (hA1.out G' HG.out ad rfl (by omega))
        clear hbq hwf hold htc HR hC2
        rcases hst2:step p t b with ⟨e2,s2⟩
        have HS2:=zA hst2
        rw[hst2] at HAS
        clear hst2
        dsimp only at HAS
        by_cases he2:e2=0
        ·subst he2
         have HRn:Hid (jT step ((zAq T).drop (j+1)++qL Z n (k+1)) s2=R):=zA (by have h:=HRj.out;rw[zCL (by rw[HS2.out])] at h;rw[HS2.out] at h;exact h)
         go_wp2_with (first
          | ((with_reducible apply gS 53);refine yL (by rfl) 149 (.tmp 52) rfl (td.add (j*3)) rfl (xV t) _ HTC.out Tryz.underlying149 rfl zJU ?_)
          | ((with_reducible apply gS 15);refine wAlo' rfl (some 15) rfl 149 rfl (.agg (xV (0,0,0)).toArray) (by kernel_rfl) ?_;intro w4 g15 hb4 hx4 hg4)
          | ((with_reducible apply gT 15 53);refine wStB rfl 149 (.tmp 15) (.tmp 53) rfl _ _ rfl rfl hb4 3 yQ rfl rfl (jO t) ?_;intro w5 hb5 hg5;have hx5:Ext wr w5:=hx4.grown hg5 hg4;have hI5:=E.ext hI hx5;have hsw5:=hx5.size)
          | ((with_reducible apply gS 55);refine wLdB rfl 149 (.tmp 15) rfl g15 rfl hb5 _ Tryz.underlying149 rfl 3 yQ rfl ?_)
          | ((with_reducible apply gS 58);refine xH (by rfl) (xI (.tmp 54) _ _ rfl rfl E.goes (#[.agg (xV t).toArray,.bool b]++cap) (by simp[Act.eval])) ?_;(with_reducible refine (HAS.out _ hI5).mono ?_);rintro e w6 ⟨rfl,hu6,G2,hI6,hG6⟩;refine⟨_,rfl, ?_⟩;have hsw6:=hu6.size))
         go_roundw
         case rel =>
          refine⟨j+1,s2,G2,by omega,by go_num, ?_,by omega,hI6,zA ?_,zA ?_,zA ?_,(hs.ext hx5).updq hu6 (fun ad' e' _ k=>by injection e' with e';rw[←e'] at k;exact HAD.out k),hu6.blk (hb.ext hx5) HG1.out,(hst.ext hx5).updq hu6 (fun ad' e' _=>HD.out ad' e'),HRn⟩
          ·exact (hu.trans (zV (S:=fun _=>False) hx5) (fun _ h=>h.elim)).trans hu6 (fun x h=>HG.out x h)
          ·exact fun x h=>by
            rcases hG6 x h with h1 | h1
            ·exact HG.out x h1
            ·exact .inr (by omega)
          ·exact fun h=>by
            rcases hG6 _ h with h1 | h1
            ·exact HG1.out h1
            ·have:=(hb.ext hx5).lt;omega
          ·exact fun ad' e' h=>by
            rcases hG6 _ h with h1 | h1
            ·exact HD.out ad' e' h1
            ·injection e' with e';rw[←e'] at h1;have:=hx5.size;omega
         case measure=>simp[intOf];omega
        ·have hxb:(e2 !=0)=true:=by simpa using he2
         have HRE:Hid (R=(e2,s2)):=zA (by rw[←HRj.out,zDU (by rw[HS2.out];exact he2),HS2.out])
         clear he2
         go_wp2_with (first
          | ((with_reducible apply gS 53);refine yL (by rfl) 149 (.tmp 52) rfl (td.add (j*3)) rfl (xV t) _ HTC.out Tryz.underlying149 rfl zJU ?_)
          | ((with_reducible apply gS 15);refine wAlo' rfl (some 15) rfl 149 rfl (.agg (xV (0,0,0)).toArray) (by kernel_rfl) ?_;intro w4 g15 hb4 hx4 hg4)
          | ((with_reducible apply gT 15 53);refine wStB rfl 149 (.tmp 15) (.tmp 53) rfl _ _ rfl rfl hb4 3 yQ rfl rfl (jO t) ?_;intro w5 hb5 hg5;have hx5:Ext wr w5:=hx4.grown hg5 hg4;have hI5:=E.ext hI hx5;have hsw5:=hx5.size)
          | ((with_reducible apply gS 55);refine wLdB rfl 149 (.tmp 15) rfl g15 rfl hb5 _ Tryz.underlying149 rfl 3 yQ rfl ?_)
          | ((with_reducible apply gS 58);refine xH (by rfl) (xI (.tmp 54) _ _ rfl rfl E.goes (#[.agg (xV t).toArray,.bool b]++cap) (by simp[Act.eval])) ?_;(with_reducible refine (HAS.out _ hI5).mono ?_);rintro e w6 ⟨rfl,hu6,G2,hI6,hG6⟩;refine⟨_,rfl, ?_⟩;have hsw6:=hu6.size))
         go_ret
         refine EachIs.mk HRE.out ((hu.trans (zV (S:=fun _=>False) hx5) (fun _ h=>h.elim)).trans hu6 (fun x h=>HG.out x h)) hI6 (fun x h=> ?_)
         rcases hG6 x h with h1 | h1
         ·exact HG.out x h1
         ·exact .inr (by omega)
       ·have hjm:j=m:=by omega
        have HRn:Hid (jT step (qL Z n (k+1)) p=R):=zA (by have h:=HR.out;rw[wG2 (by rw[zHQ,HM.out];omega),wK7] at h;exact h)
        have hc0:wr.cell? ⟨g1,0,none⟩=some (.int .i64 ((yT Z k).getD 0 0)):=(hb.cell 0).trans HB1.out
        go_wp2_with fail
        go_roundw
        case rel=>exact⟨k+1,p,G',by omega,by go_num,by rw[HBS.out,wF2],hu,hsw,hI,HG,hs,HRn⟩
        case measure=>simp[intOf];omega
     ·have hkn:k=n:=by omega
      have HRE:Hid (R=(0,q)):=zA (by rw[←HR.out,hkn,zId];unfold jT;rfl)
      go_wp2_with fail
      go_ret
      exact EachIs.mk HRE.out hu hI HG.out
end
end
section
open Go.RowKit Go.Maps
def VR (v:Value):Option (DataW Value×List MemPlace):=some (.held v,[])
def MapG {ι:Type} (P:Program) (k:TypeId) (kl:ι→Lit) (ok:ι→Prop) (w:World) (b n:Nat) (g:ι→Option Value):Prop :=
 ∃ D:DataW Value,w.ownsMap P k VR b n D∧IsMap D∧ ∀ i,ok i→Maps.has D (kl i)=(g i).isSome∧ ∀ z,D.atKey (kl i) (.held z)=.held ((g i).getD z)
section
variable {ι:Type} {P:Program} {k:TypeId} {kl:ι→Lit} {ok:ι→Prop} {w w':World} {b n:Nat} {g:ι→Option Value}
theorem MapG.made (w:World):MapG P k kl ok (w.alloc (.map #[] 0)) w.heap.size 0 (fun _=>none) :=
 ⟨.map [],World.ownsMap_made _ _ _ _,isMap_empty,fun _ _=>⟨rfl,fun _=>rfl⟩⟩
theorem MapG.lt (h:MapG P k kl ok w b n g):b<w.heap.size:=by obtain⟨D,h1, -⟩:=h;exact h1.lt
theorem MapG.alloc (h:MapG P k kl ok w b n g) (o:Obj):MapG P k kl ok (w.alloc o) b n g:=by
 obtain⟨D,h1,h2⟩:=h;exact⟨D,h1.alloc o,h2⟩
theorem MapG.ext (h:MapG P k kl ok w b n g) (hx:Ext w w'):MapG P k kl ok w' b n g:=by
 obtain⟨D,⟨es,clock,hb,r⟩,h2⟩:=h
 refine⟨D,⟨es,clock,(hx.block b ?_).trans hb,r⟩,h2⟩
 exact World.ownsMap.lt (R:=VR) ⟨es,clock,hb,r⟩
theorem MapG.grown {row:Option Nat} (h:MapG P k kl ok w b n g) (hg:w.grownBy w' row) (hne:some b≠row):MapG P k kl ok w' b n g:=by
 obtain⟨D,h1,h2⟩:=h;exact⟨D,h1.kept hg hne,h2⟩
theorem MapG.below {B:Nat} (h:MapG P k kl ok w b n g) (hx:Below B w w') (hb:b<B):MapG P k kl ok w' b n g:=by
 obtain⟨D,⟨es,clock,h3,r⟩,h2⟩:=h
 exact⟨D,⟨es,clock,(hx.block b hb).trans h3,r⟩,h2⟩
theorem MapG.setCell (h:MapG P k kl ok w b n g) {a:Addr} (ha:b≠a.block) (u:Value):MapG P k kl ok (w.setCell a u) b n g:=by
 obtain⟨D,h1,h2⟩:=h;exact⟨D,h1.setCell ha u,h2⟩
variable {ops:Array Oper} {rest:List Oper} {o:Oper} {a:Act} {Q:Exit→Act→World→Prop}
theorem zCC (hw:Region.wanted o (yielded ops a.tmps)=true) (m x:Operand) (t e:TypeId) (hop:o.op=Op.lookup t m x false) (K:Keyed P k) (ht:P.underlying t=some (.map k e))
 (z:Value) (hz:(zeroValue e).run P w=.ok z w) (hm:a.eval m=.map (some b)) (h:MapG P k kl ok w b n g) (key:Value) (hx:a.eval x=key)
 (i:ι) (hi:ok i) (hk:keyOf P k key=some (kl i)) (u:Value) (hu:(g i).getD z=u) (hK:wpList P ops Q rest (a.put o.dst u) w):wpList P ops Q (o::rest) a w:=by
 refine vM hw fun K' hK'=> ?_
 obtain⟨D,h1, -,h2⟩:=h
 obtain⟨v,ps,hrun,hv⟩:=h1.lookup K ht hz (zd:=.held z) (zp:=[]) rfl hk
 rw[(h2 i hi).2 z,hu] at hv
 have:v=u:=by unfold VR at hv;injection hv with hv;injection hv with hv _;injection hv
 subst this
 unfold Oper.wp
 simp[execOp,hop,hm,hx,hrun,Result.andThen]
 exact hK' _ _ hK
theorem zBV (hw:Region.wanted o (yielded ops a.tmps)=true) (m x:Operand) (t e:TypeId) (hop:o.op=Op.lookup t m x true) (K:Keyed P k) (ht:P.underlying t=some (.map k e))
 (z:Value) (hz:(zeroValue e).run P w=.ok z w) (hm:a.eval m=.map (some b)) (h:MapG P k kl ok w b n g) (key:Value) (hx:a.eval x=key)
 (i:ι) (hi:ok i) (hk:keyOf P k key=some (kl i)) (u:Value) (hu:(g i).getD z=u) (c:Bool) (hc:(g i).isSome=c) (hK:wpList P ops Q rest (a.put o.dst (.tuple #[u,.bool c])) w):wpList P ops Q (o::rest) a w:=by
 refine vM hw fun K' hK'=> ?_
 obtain⟨D,h1, -,h2⟩:=h
 obtain⟨v,ps,hrun,hv⟩:=h1.look_ok K ht hz (zd:=.held z) (zp:=[]) rfl hk
 rw[(h2 i hi).2 z,hu] at hv
 rw[(h2 i hi).1,hc] at hrun
 have:v=u:=by unfold VR at hv;injection hv with hv;injection hv with hv _;injection hv
 subst this
 unfold Oper.wp
 simp[execOp,hop,hm,hx,hrun,Result.andThen]
 exact hK' _ _ hK
theorem zBs (hw:Region.wanted o (yielded ops a.tmps)=true) (m x y:Operand) (t e:TypeId) (hop:o.op=Op.mapUpdate t m x y) (K:Keyed P k) (ht:P.underlying t=some (.map k e))
 (hm:a.eval m=.map (some b)) (h:MapG P k kl ok w b n g) (hn:n<9223372036854775807) (key:Value) (hx:a.eval x=key) (v:Value) (hy:a.eval y=v)
 (i:ι) (hk:keyOf P k key=some (kl i)) (g':ι→Option Value) (h1:g' i=some v) (h2: ∀ j,ok j→kl j≠kl i→g' j=g j) (h3: ∀ j,ok j→kl j=kl i→j=i)
 (hK: ∀ w',MapG P k kl ok w' b (n+1) g'→w.grownBy w' (some b)→wpList P ops Q rest (a.put o.dst undef) w'):wpList P ops Q (o::rest) a w:=by
 refine vM hw fun K' hK'=> ?_
 obtain⟨D,d1,d3,d2⟩:=h
 obtain⟨w',hrun,r1,r2⟩:=d1.update K ht (by unfold maxLen;omega) hk (val:=v) (d:=.held v) (ps:=[]) rfl
 unfold Oper.wp
 simp[execOp,hop,hm,hx,hy,hrun,Result.andThen]
 refine hK' _ _ (hK w' ⟨_,r1,d3.put _ _,fun j hj=> ?_⟩ r2)
 by_cases e1:kl j=kl i
 ·obtain rfl:=h3 j hj e1
  rw[has_put_same d3 (K.key hk),h1]
  exact⟨rfl,fun z=>atKey_put_same d3 (K.key hk) _ _⟩
 ·rw[has_put_other e1,h2 j hj e1]
  exact⟨(d2 j hj).1,fun z=>by rw[atKey_put_other e1];exact (d2 j hj).2 z⟩
end
abbrev MapI (P:Program) (k:TypeId) (w:World) (b n:Nat) (g:Int→Option Value):Prop:=MapG P k (fun x:Int=>Lit.int .i64 x) (fun _=>True) w b n g
theorem zCV {P:Program} {k:TypeId} (hk:P.underlying k=some (.int .i64)) {a:Int} (h0: -9223372036854775808≤a) (h1:a≤9223372036854775807):keyOf P k (.int .i64 a)=some (.int .i64 a) :=
 keyOf_int_mk hk (WalkArith.wf_i64 ⟨by omega,by omega⟩)
theorem zGR {a w w':World} (h:Ext a w) {g:Nat} (hg:w.grownBy w' (some g)) (hB:a.heap.size≤g):Ext a w':=h.grown hg hB
end
def xU (n:Nat):Nat→List Bool
 | 0=>[]
 | k+1=>(n/2 ^ k%2 ==1)::xU n k
def yA:List Bool→Nat
 | []=>0
 | b::l=>b.toNat*2 ^ l.length+yA l
theorem qB (n k:Nat):(xU n k).length=k:=by
 induction k with
 | zero=>rfl
 | succ k ih=>simp[xU,ih]
theorem zAz (l:List Bool):yA l<2 ^ l.length:=by
 induction l with
 | nil=>simp[yA]
 | cons b l ih =>
   simp only[yA,wA8,wK8]
   cases b<;>simp<;>omega
theorem zDR (a b:List Bool):yA (a++b)=yA a*2 ^ b.length+yA b:=by
 induction a with
 | nil=>simp[yA]
 | cons x a ih =>
   simp only[wK6,yA,wF1,ih,Nat.pow_add,wJ1,Nat.mul_assoc]
   omega
theorem numB_digs (n k:Nat):yA (xU n k)=n%2 ^ k:=by
 induction k with
 | zero=>simp[xU,yA,Nat.mod_one]
 | succ k ih =>
   simp only[xU,yA,qB,ih]
   have e:(n/2 ^ k%2 ==1).toNat=n/2 ^ k%2:=by
    rcases (show n/2 ^ k%2=0∨n/2 ^ k%2=1 by omega) with h | h<;>simp[h]
   rw[e,wK8,Nat.mod_mul,wI7]
   omega
theorem zBA {n k:Nat} (h:n<2 ^ k):yA (xU n k)=n:=by rw[numB_digs,wK9 h]
theorem zIy {a b:List Bool} (hl:a.length=b.length) (h:yA a=yA b):a=b:=by
 induction a generalizing b with
 | nil=>cases b with | nil=>rfl | cons _ _=>simp at hl
 | cons x a ih =>
   cases b with
   | nil=>simp at hl
   | cons y b =>
     have hl':a.length=b.length:=by simpa using hl
     simp only[yA,hl'] at h
     have h1:=zAz a
     have h2:=zAz b
     rw[hl'] at h1
     have hxy:x=y:=by
      cases x<;>cases y<;>simp at h ⊢ <;>omega
     subst hxy
     rw[ih hl' (by omega)]
theorem digs_numB (l:List Bool):xU (yA l) l.length=l:=zIy (qB _ _) (zBA (zAz l))
theorem zMK (l:List Bool) (k:Nat):yA (l.drop k)=yA l%2 ^ (l.length-k):=by
 have h:=zDR (l.take k) (l.drop k)
 rw[wL0] at h
 have h2:=zAz (l.drop k)
 rw[wJ4] at h h2
 rw[h,wI7,Nat.mul_add_mod,wK9 h2]
theorem zLI (l:List Bool) (k:Nat):yA (l.take k)=yA l/2 ^ (l.length-k):=by
 have h:=zDR (l.take k) (l.drop k)
 rw[wL0] at h
 have h2:=zAz (l.drop k)
 rw[wJ4] at h h2
 rw[h,wI7,Nat.mul_add_div (wI2 _),Nat.div_eq_of_lt h2,Nat.add_zero]
theorem numB_mid (l:List Bool) (i k:Nat) (h:i+k≤l.length):yA ((l.drop i).take k)=yA l/2 ^ (l.length-(i+k))%2 ^ k:=by
 have e:(l.drop i).take k=(l.take (i+k)).drop i:=by rw[List.drop_take];congr 1;omega
 rw[e,zMK,zLI l,wI4]
 congr 2
 omega
theorem numB_snoc (l:List Bool) (b:Bool):yA (l++[b])=2*yA l+b.toNat:=by
 rw[zDR];simp[yA];omega
def qP (l:List Bool):List Nat:=(List.range (l.length/8)).map fun i=>yA ((l.drop (8*i)).take 8)
def vU (l:List Bool):List Bool:=l.drop (8*(l.length/8))
theorem zCc (l:List Bool):(qP l).length=l.length/8:=by simp[qP]
theorem zEd (l:List Bool):(vU l).length=l.length%8:=by simp[vU];omega
theorem packB_lt (l:List Bool): ∀ x∈qP l,x<256:=by
 intro x hx
 simp only[qP,wD6,wB7] at hx
 obtain⟨i,hi,rfl⟩:=hx
 have h:=zAz ((l.drop (8*i)).take 8)
 have h2:((l.drop (8*i)).take 8).length≤8:=List.length_take_le _ _
 have:=wI1 (n:=2) (by omega) h2
 omega
theorem zOc (l m:List Bool):qP (l++m)=qP l++qP (vU l++m):=by
 have e:(l++m).length/8=l.length/8+(vU l++m).length/8:=by
  rw[wF1,wF1,zEd];omega
 have key:(l++m).drop (8*(l.length/8))=vU l++m:=by
  rw[wL1 (by omega)];rfl
 unfold qP
 rw[e,List.range_add,wH1,wL2]
 congr 1
 ·apply wI0
  intro i hi
  have:=wB7.1 hi
  rw[wL1 (by omega),wL3 (by rw[wJ4];omega)]
 ·apply wI0
  intro i _
  simp only[Function.comp]
  rw[Nat.mul_add, ←wL4,key]
theorem zNv (l m:List Bool):vU (l++m)=vU (vU l++m):=by
 have key:(l++m).drop (8*(l.length/8))=vU l++m:=by
  rw[wL1 (by omega)];rfl
 rw[vU,vU, ←key,wL4]
 congr 1
 rw[wJ4]
 rw[wF1]
 omega
def uS (l:List Bool):List Bool:=l++List.replicate ((8-l.length%8)%8) true
theorem padB_len (l:List Bool):(uS l).length%8=0:=by simp[uS];omega
theorem zLS (k:Nat):yA (List.replicate k true)=2 ^ k-1:=by
 induction k with
 | zero=>rfl
 | succ k ih =>
   rw[wF8,yA,ih,wK8]
   have:=wI2 k
   simp
   omega
theorem digs_ones (k:Nat):xU (2 ^ k-1) k=List.replicate k true:=by
 apply zIy (by simp[qB])
 rw[zLS,zBA (by have:=wI2 k;omega)]
def zK (b:List Nat):List Bool:=b.flatMap fun x=>xU x 8
theorem zDp (b:List Nat):(zK b).length=8*b.length:=by
 induction b with
 | nil=>rfl
 | cons x b ih=>simp only[zK,wJ0,wF1,qB,wA8] at ih ⊢;omega
theorem digsOf_at (b:List Nat) (i:Nat) (h2:i<b.length):((zK b).drop (8*i)).take 8=xU b[i] 8:=by
 induction b generalizing i with
 | nil=>simp at h2
 | cons x b ih =>
   have e:zK (x::b)=xU x 8++zK b:=rfl
   rw[e]
   cases i with
   | zero=>simp[qB]
   | succ i =>
     rw[List.drop_append,wL5 (by rw[qB];omega),qB,wK7,show 8*(i+1)-8=8*i by omega]
     have h3:i<b.length:=by simpa using h2
     rw[ih i h3]
     simp
theorem zMl (a b:List Nat):zK (a++b)=zK a++zK b:=by simp[zK]
theorem zNd (l:List Bool) (h:l.length%8=0):zK (qP l)=l:=by
 have key: ∀ k,k≤l.length/8→zK ((List.range k).map fun i=>yA ((l.drop (8*i)).take 8))=l.take (8*k):=by
  intro k
  induction k with
  | zero=>intro _;simp[zK]
  | succ k ih =>
    intro hk
    rw[wH0,wH1,zMl,ih (by omega)]
    have e:(l.drop (8*k)).take 8=xU (yA ((l.drop (8*k)).take 8)) 8:=by
     have h1:((l.drop (8*k)).take 8).length=8:=by simp;omega
     have h2:=digs_numB ((l.drop (8*k)).take 8)
     rw[h1] at h2
     exact h2.symm
    simp only[wC8,wC9,zK,wJ0,List.flatMap_nil,wG3]
    rw[←e,show 8*(k+1)=8*k+8 by omega,List.take_add]
 unfold qP
 rw[key _ (wA5 _),wC4 (by omega)]
theorem zFL (l:List Bool) (k:Nat) (h:k<l.length):yA (l.take (k+1))=2*yA (l.take k)+l[k].toNat:=by
 rw[wC3 h,numB_snoc]
theorem numB_le (l:List Bool) (n:Nat) (h:l.length≤n):yA l<2 ^ n:=by
 have h1:=zAz l
 have:=wI1 (n:=2) (by omega) h
 omega
end Go.Proofs.YtkggcjdlpendfaaGreatDoor
