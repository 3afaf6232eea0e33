import Derived.Test.YtkggcjdlpendfaaGreatDoorMTopHurtUptoCard9
set_option linter.all false
set_option maxRecDepth 20000
set_option maxHeartbeats 8000000
namespace Go.Proofs.YtkggcjdlpendfaaGreatDoor
open Go.RowKit Tryz
def zKj {fn:Func} {p u v:Tmp} {ty:TypeId} (h:fn.results= #[.cell p ty,.tmp u,.tmp v]) (tmps:Array Value) (P:Program) (w:World) :
 (results fn tmps).run P w =
   ((asAddr (tmps.getD p undef)).run P w).andThen λa w₁=>((loadVar ty a).run P w₁).andThen λx w₂=>.ok (.tuple #[x,tmps.getD u undef,tmps.getD v undef]) w₂:=by simp only[results,h];simp[Sem.run_bind,Result.andThen]
def jE {P:Program} {a:Act} {w:World} {fn:Func} {R:Ending→World→Prop} {p u v:Tmp} {ty:TypeId} (h:fn.results= #[.cell p ty,.tmp u,.tmp v]) (hdf:a.defers=[]) (g:Nat) {t:TypeId} {cs:Array Value}
 (hp:a.tmps.getD p undef=.pointer (some ⟨g,0,none⟩)) (hB:Blk w g t cs) (d:TypeDesc) (hu:P.underlying ty=some d) (hd:(match d with | .struct _ | .array _ _=>true | _=>false)=true)
 (n:Nat) (hs:(P.info? ty).map (·.size)=some n) (hn:cs.size=n) (hR:R (.returned (.tuple #[.agg cs,a.tmps.getD u undef,a.tmps.getD v undef])) w):bodyPost P fn R .ret a w:=by refine bodyPost_ret ?_ hdf hR;rw[zKj h];have e:=run_loadVar_row (P:=P) w g t ty cs (0,0) d hB hu hd (by rw[hn];exact hs);simp[hp,asAddr,e,Result.andThen]
def I64 (x:Int):Prop:= -9223372036854775808≤x∧x≤9223372036854775807
section
variable {σ:Type}
structure Src (f:FuncId) (pre post:Array Value) (B:Nat) (S:Nat→Prop) (Inv:World→σ→Prop) (next:Bool→σ→Tok×Int×σ):Prop where
 low:∀b,S b→b<B
 ask:∀first s W,Inv W s→B≤W.heap.size→Calls prog f (pre++ #[.bool first]++post) W λe w'=>e=.returned (.tuple #[.agg (qN (next first s).1).toArray,.int .i64 (next first s).2.1])∧Inv w' (next first s).2.2∧Upd S W w'
 keep:∀s W W',Inv W s→Upd (λb=>B≤b) W W'→Inv W' s
 wf:∀first s W,Inv W s→(next first s).2.1=0→I64 (next first s).1.1∧I64 (next first s).1.2.1∧I64 (next first s).1.2.2
def zAA {S S':Nat→Prop} {w w':World} (h:Upd S w w') (hs:∀b,S b→S' b):Upd S' w w':=⟨h.os,h.tape,h.output,h.size,λb hb hn=>h.block b hb (λk=>hn (hs b k))⟩
def yG {S:Nat→Prop} {w w':World} (h:Ext w w'):Upd S w w':=Upd.of_ext h
structure From (B:Nat) (S:Nat→Prop) (Inv:World→σ→Prop) (w0 w:World) (gb gr:Nat) (T24:TypeId) (z:List Int) (A:Option Addr) (c:Nat) (L:List Tok) (s:σ):Prop where
 b:Blk w gb T24 (bv z)
 r:Blk w gr T24 (bv (List.replicate 64 0))
 hb:B≤gb
 hr:B≤gr
 ne:gb≠gr
 row:w.ownsRow B 149 3 (.slice A L.length c) L.length (qW L)
 inv:Inv w s
 upd:Upd (λx=>S x∨B≤x) w0 w
 size:B≤w.heap.size
variable {f:FuncId} {pre post:Array Value} {B:Nat} {S:Nat→Prop} {Inv:World→σ→Prop} {next:Bool→σ→Tok×Int×σ} {w0 w w':World} {gb gr:Nat} {z:List Int} {A:Option Addr} {c:Nat} {L:List Tok} {s s':σ} {T24:TypeId}
def zPc {e:TypeId} {size n:Nat} {xs:List Value} {v:Value} (h:w.ownsRow B e size v n xs):∀x,v.ownBlock=some x→B≤x:=λx hx=>(h.lt x hx).1
def From.ext (h:From B S Inv w0 w gb gr T24 z A c L s) (C:Src f pre post B S Inv next) (hx:Ext w w'):From B S Inv w0 w' gb gr T24 z A c L s :=
 ⟨h.b.ext hx,h.r.ext hx,h.hb,h.hr,h.ne,yE h.row hx,C.keep _ _ _ h.inv (yG hx),h.upd.trans (yG (S:=λ_=>False) hx) (λx k=>k.elim),wJ1 h.size hx.size⟩
def From.asked (h:From B S Inv w0 w gb gr T24 z A c L s) (C:Src f pre post B S Inv next) (hu:Upd S w w') (hi:Inv w' s'):From B S Inv w0 w' gb gr T24 z A c L s' :=
 ⟨hu.blk h.b (λk=>by have:=C.low _ k;have:=h.hb;omega),hu.blk h.r (λk=>by have:=C.low _ k;have:=h.hr;omega),h.hb,h.hr,h.ne,
  qV h.row hu (λx hx k=>by have:=zPc h.row x hx;have:=C.low _ k;omega),hi,h.upd.trans hu (λx k=>.inl (.inl k)),wJ1 h.size hu.size⟩
def From.wrote (h:From B S Inv w0 w gb gr T24 z A c L s) (C:Src f pre post B S Inv next) {g:Nat} (hg:w.grownBy w' (some g)) (hB:B≤g) (h1:gb≠g) (h2:gr≠g) (h3:∀x,(Value.slice A L.length c).ownBlock=some x→x≠g):From B S Inv w0 w' gb gr T24 z A c L s:=by
 have hu:=zM hg
 exact⟨hu.blk h.b (λk=>h1 (wU4 k).symm),hu.blk h.r (λk=>h2 (wU4 k).symm),h.hb,h.hr,h.ne,qV h.row hu (λx hx k=>h3 x hx (wU4 k).symm),
  C.keep _ _ _ h.inv (zAA hu (λb k=>by have:=wU4 k;omega)),h.upd.trans hu (λx k=>.inl (.inr (by have:=wU4 k;omega))),wJ1 h.size hu.size⟩
def From.apart (h:From B S Inv w0 w gb gr T24 z A c L s) (hT:T24≠149):∀x,(Value.slice A L.length c).ownBlock=some x→gb≠x∧gr≠x:=by
 intro x hx;obtain⟨-,hh⟩:=h.row;rcases hh with ⟨e,-⟩ | ⟨g,cap,cur,e,-,hg,-⟩
 ·rw[e] at hx;cases hx
 rw[e] at hx;have hx:g=x:=wU4 hx;subst hx;exact⟨Blk.ne_ h.b (w:=w) (g':=g) (t':=149) (cs':=cur) hg hT,Blk.ne_ h.r (w:=w) (g':=g) (t':=149) (cs':=cur) hg hT⟩
def From.app (h:From B S Inv w0 w gb gr T24 z A c L s) (C:Src f pre post B S Inv next) (hT:T24≠149) {A':Option Addr} {c':Nat} {t:Tok}
 (ho:w'.ownsRow B 149 3 (.slice A' (L.length+1) c') (L.length+1) (qW L++qN t)) (hg:w.grownBy w' (Value.slice A L.length c).ownBlock):From B S Inv w0 w' gb gr T24 z A' c' (L++[t]) s:=by
 have hu:=zM hg;have ha:=h.apart hT;have hlo:=zPc h.row;refine⟨hu.blk h.b (λk=>(ha _ k).1 rfl),hu.blk h.r (λk=>(ha _ k).2 rfl),h.hb,h.hr,h.ne, ?_,C.keep _ _ _ h.inv (zAA hu (λb k=>hlo _ k)),h.upd.trans hu (λx k=>.inl (.inr (hlo _ k))),wJ1 h.size hu.size⟩;have e1:(L++[t]).length=L.length+1:=by simp
 have e2:qW (L++[t])=qW L++qN t:=by simp[qW]
 rw[e1,e2];exact ho
def From.set (h:From B S Inv w0 w gb gr T24 z A c L s) (C:Src f pre post B S Inv next) (hT:T24≠149) (k:Nat) (x:Int):From B S Inv w0 (w.setCell ⟨gb,k,none⟩ (.int .i64 x)) gb gr T24 (z.set k x) A c L s:=by
 have hu:Upd (λb=>b=gb) w (w.setCell ⟨gb,k,none⟩ (.int .i64 x)):=Upd.setCell (S:=λb=>b=gb) (Upd.refl _ w) (p:=⟨gb,k,none⟩) rfl _;refine⟨?_,hu.blk h.r (λk=>h.ne k.symm),h.hb,h.hr,h.ne,qV h.row hu (λy hy k=>(h.apart hT y hy).1 k.symm),C.keep _ _ _ h.inv (zAA hu (λb k=>by rw[k];exact h.hb)),h.upd.trans hu (λx k=>.inl (.inr (by rw[k];exact h.hb))),wJ1 h.size hu.size⟩;have:=h.b.set_ k (.int .i64 x)
 rwa [zAE] at this
def From.fresh (h:From B S Inv w0 w gb gr T24 z A c L s) {g:Nat} (hg:w.heap.size≤g):B≤g∧gb≠g∧gr≠g∧∀x,(Value.slice A L.length c).ownBlock=some x→x≠g :=
 ⟨wJ1 h.size hg,by have:=h.b.lt;omega,by have:=h.r.lt;omega,λx hx=>by have:=(h.row.lt x hx).2;omega⟩
def From.made (h:From B S Inv w0 w gb gr T24 z A c L s) (C:Src f pre post B S Inv next) {g:Nat} {w3:World} (hx:Ext w w3) (hg:w.heap.size≤g) (hw:w3.grownBy w' (some g)):From B S Inv w0 w' gb gr T24 z A c L s:=by obtain⟨h1,h2,h3,h4⟩:=h.fresh hg;exact (h.ext C hx).wrote C hw h1 h2 h3 h4
def From.putb (h:From B S Inv w0 w gb gr T24 z A c L s) (C:Src f pre post B S Inv next) (hT:T24≠149) {z':List Int} (hg:w.grownBy w' (some gb)) (hb:Blk w' gb T24 (bv z')):From B S Inv w0 w' gb gr T24 z' A c L s:=by
 have hu:=zM hg
 exact⟨hb,hu.blk h.r (λk=>h.ne (wU4 k)),h.hb,h.hr,h.ne,qV h.row hu (λx hx k=>(h.apart hT x hx).1 (wU4 k)),
  C.keep _ _ _ h.inv (zAA hu (λb k=>by have:=wU4 k;have:=h.hb;omega)),h.upd.trans hu (λx k=>.inl (.inr (by have:=wU4 k;have:=h.hb;omega))),wJ1 h.size hu.size⟩
def From.fin (h:From B S Inv w0 w gb gr T24 z A c L s) (C:Src f pre post B S Inv next) (hT:T24≠149) (hg:w.grownBy w' (some gr)) (hB:B=w0.heap.size):Inv w' s∧Upd S w0 w'∧SL w' 3 (.slice A L.length c) L.length (qW L):=by have hu:=zM hg;have hq:=h.upd.trans hu (S':=λb=>some gr=some b) (λx k=>.inl (.inr (by have:=wU4 k;have:=h.hr;omega)));refine⟨C.keep _ _ _ h.inv (zAA hu (λb k=>by have:=wU4 k;have:=h.hr;omega)), ?_,zHC (qV h.row hu (λx hx k=>(h.apart hT x hx).2 (wU4 k)))⟩;exact⟨hq.os,hq.tape,hq.output,hq.size,λb hb hn=>hq.block b hb (λk=>k.elim hn (λk=>by omega))⟩
end
def zEH (n:Int) (w:World):Calls prog 189 #[.int .i64 n] w λe w'=>e=.returned (.bool (inB n (-2047) 2047))∧w=w':=by
 by_cases h: -2047≤n
 ·have h':decide (-2047≤n)=true:=by simpa using h
  have e:inB n (-2047) 2047=decide (n≤2047):=by simp[inB];omega
  rw[e];clear e;go_enter func189,ntmps189;go_wp2_with fail;go_ret;exact⟨rfl,rfl⟩
 have h':decide (-2047≤n)=false:=by simpa using h
 have e:inB n (-2047) 2047=false:=zCe.2 (by omega);rw[e];clear e;go_enter func189,ntmps189;go_wp2_with fail;go_ret;exact⟨rfl,rfl⟩
def zKr (n:Int) (w:World):Calls prog 205 (#[.int .i64 n]++ #[]) w λe w'=>e=.returned (.bool (!inB n (-2047) 2047))∧w=w':=by
 have HC:=zA (λW=>zEH n W);generalize inB n (-2047) 2047=b at *;go_enter func205,ntmps205;go_wp2_with (go_at_call 189;(with_reducible refine (HC.out _).mono ?_);rintro e w' ⟨rfl,rfl⟩)
 go_ret;exact⟨rfl,rfl⟩
def zHE:uN prog 205:=zAd func205 (by kernel_rfl) rfl
def rtok_bad (before:Int) (zs:List Int) (w:World) (hz:zs.length=64) (h:inB before (-2047) 2047=false∨(inB before (-2047) 2047=true∧zR zs (-2047) 2047=false)) :
 Calls prog 180 #[.int .i64 before,.agg (bv zs)] w λe w'=>e=.returned (.tuple #[.slice none 0 0,.int .i64 1])∧Ext w w':=by
 have HOB:=zA (λW=>zEH before W);have HSL:=zA (λ(W:World) g (h:Blk W g 33 (bv zs))=>h.bsl (c:=64) (by omega) (by omega));rw[hz] at HSL;have HCF:=zA (λW v (hs:SL W 1 v 64 (ints zs))=>vH 205 #[] (λz=> !inB z (-2047) 2047) zHE v zs W (by rw[hz];exact hs) (λz _=>zKr z W));simp only[zDk] at HCF;generalize bv zs=c0 at *;rcases h with h | ⟨h,h2⟩
 ·rw[h] at HOB;clear h;go_enter func180,ntmps180
  go_wp2_with (first
   | (refine wBox rfl 33 (.tmp 1) rfl c0 rfl ?_;intro w1 gb hbb1 hx1 hgb)
   | (go_at_call 189;(with_reducible refine (HOB.out _).mono ?_);rintro e w' ⟨rfl,rfl⟩))
  go_ret2;exact⟨rfl,hx1⟩
 rw[h] at HOB;rw[h2] at HCF;clear h h2;go_enter func180,ntmps180
 go_wp2_with (first
  | (refine wBox rfl 33 (.tmp 1) rfl c0 rfl ?_;intro w1 gb hbb1 hx1 hgb;have hsl:=HSL.out _ _ hbb1)
  | (go_at_call 189;(with_reducible refine (HOB.out _).mono ?_);rintro e w' ⟨rfl,rfl⟩)
  | (go_at_call 88;(with_reducible refine (HCF.out _ _ hsl).mono ?_);rintro e w' ⟨rfl,rfl⟩))
 go_ret2;exact⟨rfl,hx1⟩
def zMv (before:Int) (zs:List Int) (w:World) (hz:zs.length=64) (hb1: -2047≤before) (hb2:before≤2047) (hal:zR zs (-2047) 2047=true) (h01: -2047≤(zto zs).getD 0 0) (h02:(zto zs).getD 0 0≤2047) :
 Calls prog 180 #[.int .i64 before,.agg (bv zs)] w λe w'=>∃A c,e=.returned (.tuple #[.slice A (yW before (zto zs)).length c,.int .i64 0])∧SL w' 3 (.slice A (yW before (zto zs)).length c) (yW before (zto zs)).length (qW (yW before (zto zs)))∧(∀ad,A=some ad→w.heap.size≤ad.block)∧Ext w w':=by
 have HOB:=zA (λW=>zEH before W);rw[uJ.2 ⟨hb1,hb2⟩] at HOB;have HSL:=zA (λ(W:World) g (h:Blk W g 33 (bv zs))=>h.bsl (c:=64) (by omega) (by omega));rw[hz] at HSL;have HCF:=zA (λW v (hs:SL W 1 v 64 (ints zs))=>vH 205 #[] (λz=> !inB z (-2047) 2047) zHE v zs W (by rw[hz];exact hs) (λz _=>zKr z W));simp only[zDk,hal] at HCF;have HT:=zA (λW=>zIQ before zs W hz hb1 hb2 h01 h02);have hsz:=zA ((zK zs).trans hz);generalize yW before (zto zs)=T at *;generalize bv zs=c0 at *;clear hal h01 h02;go_enter func180,ntmps180
 go_wp2_with (first
  | (refine wBox rfl 33 (.tmp 1) rfl c0 rfl ?_;intro w1 gb hbb1 hx1 hgb;have hsl:=HSL.out _ _ hbb1)
  | (go_at_call 189;(with_reducible refine (HOB.out _).mono ?_);rintro e w' ⟨rfl,rfl⟩)
  | (go_at_call 88;(with_reducible refine (HCF.out _ _ hsl).mono ?_);rintro e w' ⟨rfl,rfl⟩)
  | (refine wLdB rfl 33 (.tmp 3) rfl _ rfl hbb1 _ underlying33 rfl 64 zJ hsz.out ?_)
  | (go_at_call 191;(with_reducible refine (HT.out _).mono ?_);rintro e w2 ⟨A,c,rfl,hs2,hf2,hx2⟩))
 go_ret2;exact⟨A,c,rfl,hs2,λad e=>wJ1 hx1.size (hf2 ad e),hx1.trans hx2⟩
def rtok_good (before:Int) (zs:List Int) (w:World) (hz:zs.length=64) (hb1: -2047≤before) (hb2:before≤2047) (hal:zR zs (-2047) 2047=true) (h01: -2047≤(zto zs).getD 0 0) (h02:(zto zs).getD 0 0≤2047) :
 Calls prog 180 #[.int .i64 before,.agg (bv zs)] w λe w'=>∃A c,e=.returned (.tuple #[.slice A (yW before (zto zs)).length c,.int .i64 0])∧SL w' 3 (.slice A (yW before (zto zs)).length c) (yW before (zto zs)).length (qW (yW before (zto zs)))∧Ext w w' :=
 (zMv before zs w hz hb1 hb2 hal h01 h02).mono λ_ _ ⟨A,c,e,h1,_,h2⟩=>⟨A,c,e,h1,h2⟩
section
section
variable {σ:Type} {C:σ→Prop}
structure Eat (f:FuncId) (cap:Array Value) (Inv:World→σ→(Nat→Prop)→Prop) (step:σ→Tok→Bool→Int×σ) (C:σ→Prop):Prop where
 goes:zAn prog f
 back:∀l s,C (qB step l s).2→C s
 ask:∀t b s F W,C (step s t b).2→zBJ t→Inv W s F→Calls prog f (#[.agg (qN t).toArray,.bool b]++cap) W λe w'=>e=.returned (.int .i64 (step s t b).1)∧Upd F W w'∧∃F',Inv w' (step s t b).2 F'∧∀x,F' x→F x∨W.heap.size≤x
 keep:∀s F W W',Inv W s F→Ext W W'→Inv W' s F
 old:∀s F W x,Inv W s F→F x→x<W.heap.size
variable {f:FuncId} {cap:Array Value} {Inv:World→σ→(Nat→Prop)→Prop} {step:σ→Tok→Bool→Int×σ}
def Eat.ext (E:Eat f cap Inv step C) {s:σ} {F:Nat→Prop} {W W':World} (h:Inv W s F) (hx:Ext W W'):Inv W' s F:=E.keep s F W W' h hx
def EachIs (Inv:World→σ→(Nat→Prop)→Prop) (F:Nat→Prop) (w:World) (r:Int×σ) (e:Ending) (w':World):Prop :=
 e=.returned (.int .i64 r.1)∧Upd F w w'∧∃F',Inv w' r.2 F'∧∀x,F' x→F x∨w.heap.size≤x
def EachIs.mk {F F':Nat→Prop} {w w':World} {r:Int×σ} {n:Int} {s:σ} (hr:r=(n,s)) (hu:Upd F w w') (hi:Inv w' s F') (hF:∀x,F' x→F x∨w.heap.size≤x):EachIs Inv F w r (.returned (.int .i64 n)) w':=by subst hr;exact⟨rfl,hu,F',hi,hF⟩
def zHB (zs:List Int):(ints zs).toArray=bv zs:=rfl
def SL.updq {S:Nat→Prop} {w w':World} {size n c:Nat} {A:Option Addr} {xs:List Value} (h:SL w size (.slice A n c) n xs) (hu:Upd S w w') (hS:∀ad,A=some ad→0<n→¬S ad.block):SL w' size (.slice A n c) n xs:=by
 obtain⟨A',c',e,h1,h2,h3,h4⟩:=h;injection e with e1 e2 e3
 subst e1 e3;refine⟨_,_,rfl,h1,h2,h3,λh0=> ?_⟩;obtain⟨ad,rfl,hb,hc⟩:=h4 h0;refine⟨ad,rfl,wA1 hb hu.size,λj u hj=> ?_⟩;rw[←hc j u hj];unfold World.cell?;rw[yH,hu.block _ hb (hS ad rfl h0)]
def zigAt_0:vB 0=0:=by decide
def zQz (zs:List Int):(zto zs).getD 0 0=zs.getD 0 0:=by
 have h:0<(zto zs).length:=by rw[vA];omega
 rw[wH7,wA2 h];simp[zto,zigAt_0]
def zLr {zs:List Int} {lo hi:Int} (h:zR zs lo hi=true) (k:Nat) (h1:lo≤0) (h2:0≤hi):lo≤zs.getD k 0∧zs.getD k 0≤hi:=by
 rw[wH7]
 cases hq:zs[k]? with
 | none=>exact⟨h1,h2⟩
 | some y=>exact yJ.1 h y (wM8 hq)
def befAt_in {Z:List Int} {k:Nat} (h:∀j,j<k→zR (yP Z j) (-2047) 2047=true): -2047≤vW Z k∧vW Z k≤2047:=by
 unfold vW;split
 ·omega
 exact zLr (h (k-1) (by omega)) 0 (by omega) (by omega)
def befAt_0 (Z:List Int):vW Z 0=0:=if_pos rfl
def zUB (Z:List Int) (k:Nat):vW Z (k+1)=(yP Z k).getD 0 0:=if_neg (by omega)
def zMr (Z:List Int) (k:Nat):uM Z k=yW (vW Z k) (zto (yP Z k)):=rfl
attribute [local irreducible] yW zto bv qW zBH qB xM uM vW yP
def zSa (E:Eat f cap Inv step C) (A:Option Addr) (n c:Nat) (Z:List Int) (hZ:Z.length=n*64) (w:World) (hs:SL w 64 (.slice A n c) n (ints Z)) (s:σ) (F:Nat→Prop) (hI:Inv w s F) (hA:∀ad,A=some ad→0<n→¬F ad.block) (hCR:C (xN step n Z s).2) :
 Calls prog 145 #[.slice A n c,.func (.func f) #[] cap] w (EachIs Inv F w (xN step n Z s)):=by
 have hs':=hs;obtain⟨A',c',he,hnc,hc2,-,-⟩:=hs';injection he with he1 he2 he3
 subst he1 he3
 by_cases hn:400<n
 ·have hR:xN step n Z s=(2,s):=if_pos hn;have HR:=zA hR;generalize xN step n Z s=R at *;clear hR hs;go_enter func145,ntmps145;go_wp2_with fail;go_ret;exact EachIs.mk HR.out (Upd.refl _ _) hI (λx h=>.inl h)
 have hR:xN step n Z s=if zR Z (-2047) 2047=false then (1,s) else qB step (xM Z n 0) s:=if_neg hn
 have HR:=zA hR;have HCR:=zA hCR;generalize xN step n Z s=R at *;clear hR hCR;have hn4:n≤400:=by omega
 have HZ:=zA hZ;clear hn hZ;have HAL:=zA (show (prog.info? 33).bind (·.zero)=some (.agg (bv (List.replicate 64 0))) from jX);have hz0:=zA (show (Value.agg (bv (List.replicate 64 0))).cells.size=64 by rw[show (Value.agg (bv (List.replicate 64 0))).cells=bv (List.replicate 64 0) from rfl,zK];rfl);generalize bv (List.replicate 64 0)=cz at *;go_enter func145,ntmps145;go_wp2_with fail
 go_loopw [22] (λi wr=>∃k:Nat,k≤n∧i=.int .i64 (k:Int)∧Ext w wr∧Hid (∀j,j<k→zR (yP Z j) (-2047) 2047=true)) (λi _=>n-(intOf i).toNat)
 case atStart=>exact⟨0,by omega,rfl,Ext.refl w,zA (λj h=>by omega)⟩
 case round =>
  obtain⟨k,hk,rfl,hx,HP⟩:=hrel
  by_cases hlt:k<n
  ·obtain⟨ad,rfl,hab,hca⟩:=(hs.ext hx).part hlt;have hbl:=zGL Z n k HZ.out hlt;have e:((ints Z).drop (k*64)).take 64=ints (yP Z k):=by simp[ints,yP,wO1,wO0]
   rw[e] at hca;clear e;have HCA:=zA hca;have HB:=zA hbl;have HSZ:=zA (show (bv (yP Z k)).size=64 by rw[zK];exact hbl);have HO1:=zA (xR (yP Z k));have HBV:=zA (zHB (yP Z k));clear hca hbl
   cases hal:zR (yP Z k) (-2047) 2047 with
   | false =>
     have HT:=zA (λW=>rtok_bad 0 (yP Z k) W HB.out (.inr ⟨by decide,hal⟩))
     have HRE:Hid (R=(1,s)):=zA (by
      rw[HR.out,if_pos]
      cases hq:zR Z (-2047) 2047 with
      | false=>rfl
      | true=>have:=(zSH Z n HZ.out).1 hq k hlt;rw[hal] at this;cases this)
     have HCB:Hid (∀W,zAg W (ad.add (k*64)) (ints (yP Z k))→zAg W (ad.add (k*64)) (bv (yP Z k)).toList):=zA (λW h=>by rw[←HBV.out];simpa using h);clear hal
     go_wp2_with (first
      | ((with_reducible apply gS 25);refine yZ (by rfl) 33 (.tmp 24) rfl (ad.add (k*64)) rfl (ints (yP Z k)) _ HCA.out underlying33 rfl (by rw[yI,HB.out];exact zJ) ?_;rw[HBV.out])
      | ((with_reducible apply gS 6);refine wAlo' rfl (some 6) rfl 33 rfl _ HAL.out ?_;intro w1 g1 hb1 hx1 hg1)
      | ((with_reducible apply gT 6 25);refine wStB rfl 33 (.tmp 6) (.tmp 25) rfl _ _ rfl rfl hb1 64 zJ HSZ.out hz0.out HO1.out ?_;intro w2 hb2 hg2)
      | ((with_reducible apply gS 27);refine wLdB rfl 33 (.tmp 6) rfl g1 rfl hb2 _ underlying33 rfl 64 zJ HSZ.out ?_)
      | (go_at_call 180;(with_reducible refine (HT.out _).mono ?_);rintro e w3 ⟨rfl,hx3⟩))
     go_ret;have hx4:=(hx.trans (hx1.grown hg2 hg1)).trans hx3;exact EachIs.mk HRE.out (yG hx4) (E.ext hI hx4) (λx h=>.inl h)
   | true =>
     have hzh:=zLr hal 0 (by omega) (by omega);rw[←zQz] at hzh;have HT:=zA (λW=>rtok_good 0 (yP Z k) W HB.out (by omega) (by omega) hal hzh.1 hzh.2)
     have HP':Hid (∀j,j<k+1→zR (yP Z j) (-2047) 2047=true):=zA (λj hj=>by
      rcases wA3 j k with h1 | h1
      ·exact HP.out j h1
      ·obtain rfl:j=k:=by omega
       exact hal)
     clear hal hzh HP;generalize yW 0 (zto (yP Z k))=T0 at *
     go_wp2_with (first
      | ((with_reducible apply gS 25);refine yZ (by rfl) 33 (.tmp 24) rfl (ad.add (k*64)) rfl (ints (yP Z k)) _ HCA.out underlying33 rfl (by rw[yI,HB.out];exact zJ) ?_;rw[HBV.out])
      | ((with_reducible apply gS 6);refine wAlo' rfl (some 6) rfl 33 rfl _ HAL.out ?_;intro w1 g1 hb1 hx1 hg1)
      | ((with_reducible apply gT 6 25);refine wStB rfl 33 (.tmp 6) (.tmp 25) rfl _ _ rfl rfl hb1 64 zJ HSZ.out hz0.out HO1.out ?_;intro w2 hb2 hg2)
      | ((with_reducible apply gS 27);refine wLdB rfl 33 (.tmp 6) rfl g1 rfl hb2 _ underlying33 rfl 64 zJ HSZ.out ?_)
      | (go_at_call 180;(with_reducible refine (HT.out _).mono ?_);rintro e w3 ⟨D,d,rfl,-,hx3⟩))
     go_roundw
     case rel=>exact⟨k+1,by omega,by go_num,(hx.trans (hx1.grown hg2 hg1)).trans hx3,HP'⟩
     case measure=>simp[intOf];omega
  obtain rfl:n=k:=by omega
  have HR2:Hid (qB step (xM Z n 0) s=R):=zA (by rw[HR.out,if_neg];rw[(zSH Z n HZ.out).2 HP.out];simp);have HPA:Hid (∀j,j<n→zR (yP Z j) (-2047) 2047=true):=zA HP.out;have hI1:=E.ext hI hx;have hs1:=hs.ext hx;have hb0:=befAt_0 Z;have HB0:=zA hb0;clear HR hb0 hlt
  have hA1:Hid (∀(F':Nat→Prop),(∀x,F' x→F x∨w.heap.size≤x)→∀ad,A=some ad→0<n→¬F' ad.block):=zA (λF' h ad e h0 k=>by
   rcases h _ k with h1 | h1
   ·exact hA ad e h0 h1
   ·obtain⟨A'',c'',e2,-,-,-,h5⟩:=hs;injection e2 with e3 _ _
    subst e3;obtain⟨ad',e4,h6,-⟩:=h5 h0;rw[e] at e4;injection e4 with e4
    subst e4
    omega)
  have hu0:Upd F w wr:=yG hx;have hsw:=hx.size;clear hx hI hA hs HP;go_wp2_with fail;obtain⟨wo,rfl⟩:∃wo:World,wo=wr:=⟨_,rfl⟩
  go_loopw [9,37] (λb i wr=>∃(k:Nat) (q:σ) (G:Nat→Prop),k≤n∧i=.int .i64 (k:Int)∧b=.int .i64 (vW Z k)∧Upd F w wr∧w.heap.size≤wr.heap.size∧Inv wr q G∧Hid (∀x,G x→F x∨w.heap.size≤x)∧SL wr 64 (.slice A n c) n (ints Z)∧Hid (qB step (xM Z n k) q=R)) (λ_ i _=>n-(intOf i).toNat)
  case atStart=>exact⟨0,s,F,by omega,rfl,by rw[HB0.out],hu0,hsw,hI1,zA (λx h=>.inl h),hs1,HR2⟩
  case round =>
   clear hu0 hsw hI1 hs1 HR2;obtain⟨k,q,G,hk,rfl,rfl,hu,hsw,hI,HG,hs,HR⟩:=hrel
   by_cases hlt:k<n
   ·have hAG:∀ad,A=some ad→0<n→¬G ad.block:=hA1.out G HG.out;have HAG:=zA hAG;clear hAG;obtain⟨ad,rfl,hab,hca⟩:=hs.part hlt;have hbl:=zGL Z n k HZ.out hlt;have e:((ints Z).drop (k*64)).take 64=ints (yP Z k):=by simp[ints,yP,wO1,wO0]
    rw[e] at hca;clear e;have HCA:=zA hca;have HB:=zA hbl;have HSZ:=zA (show (bv (yP Z k)).size=64 by rw[zK];exact hbl);have HO1:=zA (xR (yP Z k));have HBV:=zA (zHB (yP Z k));have hal:=HPA.out k hlt;have hzh:=zLr hal 0 (by omega) (by omega);rw[←zQz] at hzh;have hbf:=befAt_in (Z:=Z) (k:=k) (λj hj=>HPA.out j (by omega));have HT:=zA (λW=>zMv (vW Z k) (yP Z k) W HB.out hbf.1 hbf.2 hal hzh.1 hzh.2);rw[←zMr] at HT;have HWF:Hid (∀t∈uM Z k,zBJ t):=zA (by rw[zMr];exact zEB _ _ (vA _));have HR1:Hid (qB step ((zAP (uM Z k)).drop 0++xM Z n (k+1)) q=R):=zA (by rw[wK2, ←zCn Z n k hlt];exact HR.out);have HBS:=zA (zUB Z k);have HB1:Hid ((bv (yP Z k))[0]? =some (.int .i64 ((yP Z k).getD 0 0))):=zA (by rw[jQ _ 0 (by omega)];simp[wH7,hbl]);obtain⟨T,hT⟩:∃T,T=uM Z k:=⟨_,rfl⟩
    rw[←hT] at HT HWF HR1;obtain⟨m,hm⟩:∃m,T.length=m:=⟨_,rfl⟩
    have HM:=zA hm;rw[hm] at HT;clear hT hm hca hbl hal hzh hbf HR;generalize vW Z k=bf at *
    go_wp2_with (first
     | ((with_reducible apply gS 40);refine yZ (by rfl) 33 (.tmp 39) rfl (ad.add (k*64)) rfl (ints (yP Z k)) _ HCA.out underlying33 rfl (by rw[yI,HB.out];exact zJ) ?_;rw[HBV.out])
     | ((with_reducible apply gS 11);refine wAlo' rfl (some 11) rfl 33 rfl _ HAL.out ?_;intro w1 g1 hb1 hx1 hg1)
     | ((with_reducible apply gT 11 40);refine wStB rfl 33 (.tmp 11) (.tmp 40) rfl _ _ rfl rfl hb1 64 zJ HSZ.out hz0.out HO1.out ?_;intro w2 hb2 hg2;have hx2:=hx1.grown hg2 hg1)
     | ((with_reducible apply gS 43);refine wLdB rfl 33 (.tmp 11) rfl g1 rfl hb2 _ underlying33 rfl 64 zJ HSZ.out ?_)
     | (go_at_call 180;(with_reducible refine (HT.out _).mono ?_);rintro e w3 ⟨D,d,rfl,hs3,hf3,hx3⟩))
    have hG2:∀x,G x→x<wr.heap.size:=λx h=>E.old q G wr x hI h
    have HG1:Hid (¬G g1):=zA (λh=>by have:=hG2 g1 h;omega);have hx3':Ext wr w3:=hx2.trans hx3;have hI3:=E.ext hI hx3';have hb3:=hb2.ext hx3;have hu3:Upd F w w3:=hu.trans (yG (S:=λ_=>False) hx3') (λ_ h=>h.elim);have hs3':=hs.ext hx3';have hsw3:w.heap.size≤w3.heap.size:=by have:=hx3'.size;omega
    have HD3:Hid (∀ad,D=some ad→¬G ad.block):=zA (λad e h=>by have:=hf3 ad e;have:=hG2 _ h;have:=hx2.size;omega);have hs3c:=hs3;obtain⟨D',d'',he3,hmd,hd2,-,-⟩:=hs3c;injection he3 with q1 q2 q3
    subst q1 q3;have hm1:m≤9223372036854775807:=by omega
    clear hu hsw hI hs hb1 hx1 hg1 hb2 hg2 hx2 hx3 hf3 hG2 hx3';clear q2
    go_loopw [49] (λi wi=>∃(j:Nat) (p:σ) (G':Nat→Prop),j≤m∧i=.int .i64 (j:Int)∧Upd F w wi∧w.heap.size≤wi.heap.size∧Inv wi p G'∧Hid (∀x,G' x→F x∨w.heap.size≤x)∧Hid (¬G' g1)∧Hid (∀ad,D=some ad→¬G' ad.block)∧SL wi 64 (.slice (some ad) n c) n (ints Z)∧Blk wi g1 33 (bv (yP Z k))∧SL wi 3 (.slice D m d) m (qW T)∧Hid (qB step ((zAP T).drop j++xM Z n (k+1)) p=R)) (λi _=>m-(intOf i).toNat)
    case atStart=>exact⟨0,q,G,by omega,rfl,hu3,hsw3,hI3,HG,HG1,HD3,hs3',hb3,hs3,HR1⟩
    case round =>
     clear hu3 hsw3 hI3 HG HG1 HD3 hs3' hb3 hs3 HR1;obtain⟨wo2,rfl⟩:∃wo2:World,wo2=w3:=⟨_,rfl⟩
     obtain⟨j,p,G',hj,rfl,hu,hsw,hI,HG,HG1,HD,hs,hb,hst,HR⟩:=hrel
     by_cases hlj:j<m
     ·obtain⟨td,rfl,htb,htc⟩:=hst.part hlj;have hjT:j<T.length:=by rw[HM.out];exact hlj
      rw[zJr T j hjT] at htc;have HTC:=zA htc;have HRj:Hid (qB step ((T[j],j ==0)::((zAP T).drop (j+1)++xM Z n (k+1))) p=R):=zA (by have:=HR.out;rw[zTv T j hjT,wE1] at this;exact this);have hwf:=HWF.out T[j] (wC7 hjT);obtain⟨b,hbq⟩:∃b,b=(j ==0):=⟨_,rfl⟩
      rw[←hbq] at HRj;have hjb:((j:Int) ==0)=b:=by rw[hbq];cases j<;>simp<;>omega
      generalize T[j]=t at *
      have hC2:C (step p t b).2:=by
       by_cases h0:(step p t b).1=0
       ·have h:=HRj.out;rw[zBC h0] at h;have h2:=HCR.out;rw[←h] at h2;exact E.back _ _ h2
       have h:=HRj.out;rw[zDh h0] at h;rw[h];exact HCR.out
      have HAS:=zA (λW (h:Inv W p G')=>E.ask t b p G' W hC2 hwf h);have hold:∀x,G' x→x<wr.heap.size:=λx h=>E.old p G' wr x hI h
      have HOLD:=zA hold;have HAD:Hid (¬G' ad.block):=zA (hA1.out G' HG.out ad rfl (by omega));clear hbq hwf hold htc HR hC2;rcases hst2:step p t b with ⟨e2,s2⟩
      have HS2:=zA hst2;rw[hst2] at HAS;clear hst2;dsimp only at HAS
      by_cases he2:e2=0
      ·subst he2;have HRn:Hid (qB step ((zAP T).drop (j+1)++xM Z n (k+1)) s2=R):=zA (by have h:=HRj.out;rw[zBC (by rw[HS2.out])] at h;rw[HS2.out] at h;exact h)
       go_wp2_with (first
        | ((with_reducible apply gS 53);refine yZ (by rfl) 149 (.tmp 52) rfl (td.add (j*3)) rfl (qN t) _ HTC.out underlying149 rfl zMg ?_)
        | ((with_reducible apply gS 15);refine wAlo' rfl (some 15) rfl 149 rfl (.agg (qN (0,0,0)).toArray) (by kernel_rfl) ?_;intro w4 g15 hb4 hx4 hg4)
        | ((with_reducible apply gT 15 53);refine wStB rfl 149 (.tmp 15) (.tmp 53) rfl _ _ rfl rfl hb4 3 xI rfl rfl (vX t) ?_;intro w5 hb5 hg5;have hx5:Ext wr w5:=hx4.grown hg5 hg4;have hI5:=E.ext hI hx5;have hsw5:=hx5.size)
        | ((with_reducible apply gS 55);refine wLdB rfl 149 (.tmp 15) rfl g15 rfl hb5 _ underlying149 rfl 3 xI rfl ?_)
        | ((with_reducible apply gS 58);refine xK (by rfl) (xL (.tmp 54) _ _ rfl rfl E.goes (#[.agg (qN t).toArray,.bool b]++cap) (by simp[Act.eval])) ?_;(with_reducible refine (HAS.out _ hI5).mono ?_);rintro e w6 ⟨rfl,hu6,G2,hI6,hG6⟩;refine⟨_,rfl, ?_⟩;have hsw6:=hu6.size))
       go_roundw
       case rel =>
        refine⟨j+1,s2,G2,by omega,by go_num, ?_,by omega,hI6,zA ?_,zA ?_,zA ?_,(hs.ext hx5).updq hu6 (λad' e' _ k=>by injection e' with e';rw[←e'] at k;exact HAD.out k),hu6.blk (hb.ext hx5) HG1.out,(hst.ext hx5).updq hu6 (λad' e' _=>HD.out ad' e'),HRn⟩
        ·exact (hu.trans (yG (S:=λ_=>False) hx5) (λ_ h=>h.elim)).trans hu6 (λx h=>HG.out x h)
        ·exact λx h=>by
          rcases hG6 x h with h1 | h1
          ·exact HG.out x h1
          exact .inr (by omega)
        ·exact λh=>by
          rcases hG6 _ h with h1 | h1
          ·exact HG1.out h1
          have:=(hb.ext hx5).lt;omega
        exact λad' e' h=>by
         rcases hG6 _ h with h1 | h1
         ·exact HD.out ad' e' h1
         injection e' with e';rw[←e'] at h1;have:=hx5.size;omega
       case measure=>simp[intOf];omega
      have hxb:(e2 !=0)=true:=by simpa using he2
      have HRE:Hid (R=(e2,s2)):=zA (by rw[←HRj.out,zDh (by rw[HS2.out];exact he2),HS2.out]);clear he2
      go_wp2_with (first
       | ((with_reducible apply gS 53);refine yZ (by rfl) 149 (.tmp 52) rfl (td.add (j*3)) rfl (qN t) _ HTC.out underlying149 rfl zMg ?_)
       | ((with_reducible apply gS 15);refine wAlo' rfl (some 15) rfl 149 rfl (.agg (qN (0,0,0)).toArray) (by kernel_rfl) ?_;intro w4 g15 hb4 hx4 hg4)
       | ((with_reducible apply gT 15 53);refine wStB rfl 149 (.tmp 15) (.tmp 53) rfl _ _ rfl rfl hb4 3 xI rfl rfl (vX t) ?_;intro w5 hb5 hg5;have hx5:Ext wr w5:=hx4.grown hg5 hg4;have hI5:=E.ext hI hx5;have hsw5:=hx5.size)
       | ((with_reducible apply gS 55);refine wLdB rfl 149 (.tmp 15) rfl g15 rfl hb5 _ underlying149 rfl 3 xI rfl ?_)
       | ((with_reducible apply gS 58);refine xK (by rfl) (xL (.tmp 54) _ _ rfl rfl E.goes (#[.agg (qN t).toArray,.bool b]++cap) (by simp[Act.eval])) ?_;(with_reducible refine (HAS.out _ hI5).mono ?_);rintro e w6 ⟨rfl,hu6,G2,hI6,hG6⟩;refine⟨_,rfl, ?_⟩;have hsw6:=hu6.size))
      go_ret;refine EachIs.mk HRE.out ((hu.trans (yG (S:=λ_=>False) hx5) (λ_ h=>h.elim)).trans hu6 (λx h=>HG.out x h)) hI6 (λx h=> ?_);rcases hG6 x h with h1 | h1
      ·exact HG.out x h1
      exact .inr (by omega)
     have hjm:j=m:=by omega
     have HRn:Hid (qB step (xM Z n (k+1)) p=R):=zA (by have h:=HR.out;rw[wN9 (by rw[zGP,HM.out];omega),wG4] at h;exact h);have hc0:wr.cell? ⟨g1,0,none⟩=some (.int .i64 ((yP Z k).getD 0 0)):=(hb.cell 0).trans HB1.out;go_wp2_with fail;go_roundw
     case rel=>exact⟨k+1,p,G',by omega,by go_num,by rw[HBS.out,wH7],hu,hsw,hI,HG,hs,HRn⟩
     case measure=>simp[intOf];omega
   have hkn:k=n:=by omega
   have HRE:Hid (R=(0,q)):=zA (by rw[←HR.out,hkn,zEe];unfold qB;rfl);go_wp2_with fail;go_ret;exact EachIs.mk HRE.out hu hI HG.out
end
end
section
open Go.RowKit Go.Maps Go.WideMaps
def zDr (cs xs:List Int) (sl:Value) (w:World) (hl:cs.length=16) (hs:SL w 1 sl xs.length (ints xs)) (h:zQ cs xs=0) :
 Calls prog 184 #[.agg (yY cs sl)] w λe w'=>∃gc,e=.returned (.pointer (some ⟨gc,0,none⟩))∧CoderS w' gc (zH (zC cs 16) xs)∧Ext w w':=by
 obtain⟨q1,q2,q3,q4,q5,q6⟩:=zAy h;have HW:=zA (λW h=>words_any cs xs sl W hl h q1 q4 q2 q3);have hts:=zA (zAb cs sl hl);have hlen:(zC cs 16).length=xs.length:=by have:=zDG cs (λz hz=>(yJ.1 q1 z hz).1) 16 (by omega);omega
 have hZl:(zH (zC cs 16) xs).length=xs.length:=by rw[zDB _ _ (by omega),hlen]
 have HAP:=zA (zVH cs xs q6 hlen);have HFIT:=zA (zFR cs q4 hl 16 (by omega));have HIN:=zA (yJ.1 q5);have HAT:=zA (λk (h1:k<(zC cs 16).length) (h2:k<xs.length) hk=>zBT (zC cs 16) xs k h1 h2 hk);have hmm:= @run_makeMap prog;generalize yY cs sl=tv at *
 have HBD:Hid (∀k (hk:k<(zH (zC cs 16) xs).length),0≤((zH (zC cs 16) xs)[k]).1∧((zH (zC cs 16) xs)[k]).1≤255∧okP ((zH (zC cs 16) xs)[k]).2):=zA (λk hk=>by
  have hk1:k<(zC cs 16).length:=by omega
  have hk2:k<xs.length:=by omega
  rw[HAT.out k hk1 hk2 hk];have h1:=HIN.out _ (wC7 hk2);obtain⟨f1,f2,f3⟩:=HFIT.out _ (wC7 hk1);have h2:=wF3 (n:=2) (by omega) f2
  refine⟨h1.1,h1.2,⟨by simp only;omega,by simp only;omega⟩,by simp only;omega,by simp only;omega⟩)
 clear HAT HIN HFIT hlen;generalize zH (zC cs 16) xs=Z at *;have HZL:=zA hZl;clear h q1 q2 q4 q5 q6 hZl;go_enter func184,ntmps184
 go_wp2_with (first
  | (refine wBox rfl 42 (.tmp 0) rfl tv rfl ?_;intro w1 g hb1 hx1 hg;have hs1:=hs.ext hx1)
  | (refine wBox rfl 241 (.tmp 8) rfl _ rfl ?_;intro w3 gc hbc hx3 hgc;have hb3:=((hb1.alloc (.map #[] 0)).alloc (.map #[] 0)).ext hx3;have hs3:=(hs1.ext (((Ext.refl w1).alloc (.map #[] 0)).alloc (.map #[] 0))).ext hx3)
  | (refine wLdB rfl 42 (.tmp 1) rfl _ rfl hb3 _ underlying42 rfl 17 zX hts.out ?_)
  | (go_at_call 106;(with_reducible refine (HW.out _ hs3).mono ?_);rintro e w4 ⟨A,c,rfl,hsl,hfr,hx4⟩))
 have hm1:MapI prog 3 w4 w1.heap.size 0 (zEX []):=(((MapG.made w1).alloc (.map #[] 0)).ext hx3).ext hx4
 have hm2:MapP w4 (w1.heap.size+1) 0 (zEp []):=by
  have:=(((MapG.made (P:=prog) (k:=260) (kl:=klP) (ok:=okP) (w1.alloc (.map #[] 0))).ext hx3).ext hx4)
  rwa [World.size_alloc] at this
 have hbc4:=hbc.ext hx4;have hxw:Ext w w4:=((((hx1.alloc (.map #[] 0)).alloc (.map #[] 0)).trans hx3).trans hx4)
 have hz1:=hx1.size;have hz3:=hx3.size;simp only[World.size_alloc] at hz3 hgc;have hz4:=hx4.size;have hc1:xs.length≤c∧c≤9223372036854775807:=by obtain⟨A',c',e,h1,h2,-⟩:=hsl;injection e with e1 e2 e3;subst e3;exact⟨h1,h2⟩
 obtain⟨hc1,hc2⟩:=hc1;generalize hM:w1.heap.size=M at *;clear hM hmm hb1 hb3 hs1 hs3 hbc hx1 hx3 hx4 hs
 go_loopw [13] (λi wr=>∃k:Nat,k≤xs.length∧i=.int .i64 (k:Int)∧MapI prog 3 wr M k (zEX (Z.take k))∧MapP wr (M+1) k (zEp (Z.take k))∧Upd (λb=>b=M∨b=M+1) w4 wr) (λi _=>xs.length-(intOf i).toNat)
 case atStart=>exact⟨0,by omega,rfl,hm1,hm2,Upd.refl _ _⟩
 case round =>
  clear hm1 hm2;obtain⟨k,hk,rfl,hm1,hm2,hu⟩:=hrel
  by_cases hlt:k<xs.length
  ·have hkZ:k<Z.length:=by have:=HZL.out;omega
   have hslr:=hsl.upd hu (λad h=>by have:=hfr ad h;omega);obtain⟨ad,rfl,hbl,h1,h2,h3⟩:=hslr.tok hlt HZL.out hkZ;have hbcr:=hu.blk hbc4 (by omega);obtain⟨a1,a2⟩:=HAP.out k hkZ;obtain⟨b1,b2,b3⟩:=HBD.out k hkZ;have HS1:=zA (zNq (Z.take k) Z[k] a1);have HS2:=zA (λs=>zMF (Z.take k) Z[k] s);have HC1:=zA (zNN (Z.take k) Z[k] a2);have HC2:=zA (λp=>zLe (Z.take k) Z[k] p);have HTS:=zA (zNr Z k hkZ);generalize Z[k]=t at *;obtain⟨t1,t2,t3⟩:=t;simp only at b1 b2;clear a1 a2;have hkey1:=zA (zDq (P:=prog) underlying3 (a:=t1) (by omega) (by omega));have hkey2:=zA (zKW (t2,t3) b3);have HB3:=zA b3;clear b3;simp only at h1 h2 h3;go_wp2_with fail;have hn:=Blk.new wr 94 #[.int .i64 t1,.int .i64 t2,.int .i64 t3];have hxa:=Ext.alloc (Ext.refl wr) (.cells #[.int .i64 t1,.int .i64 t2,.int .i64 t3] 94);have hm1a:=hm1.alloc (.cells #[.int .i64 t1,.int .i64 t2,.int .i64 t3] 94);have hm2a:=hm2.alloc (.cells #[.int .i64 t1,.int .i64 t2,.int .i64 t3] 94);have hbca:=hbcr.ext hxa;have hua:=hu.trans (Upd.of_ext (S:=λ_=>False) hxa) (λx hx=>hx.elim);have hnz:wr.heap.size≠M∧wr.heap.size≠M+1:=by have:=hm1.lt;have:=hm2.lt;omega
   generalize hw2:wr.alloc (.cells #[.int .i64 t1,.int .i64 t2,.int .i64 t3] 94)=w5 at *;generalize wr.heap.size=gn at *;clear hw2 h1 h2 h3 hxa hm1 hm2 hbcr hu hslr;have hcv:∀W,Blk W gn 94 #[.int .i64 t1,.int .i64 t2,.int .i64 t3]→W.cell? ⟨gn,0,none⟩=some (.int .i64 t1)∧W.cell? ⟨gn,1,none⟩=some (.int .i64 t2)∧W.cell? ⟨gn,2,none⟩=some (.int .i64 t3):=λW h=>⟨h.cell 0,h.cell 1,h.cell 2⟩
   have hcc:∀W,Blk W gc 241 #[.map (some M),.map (some (M+1))]→W.cell? ⟨gc,0,none⟩=some (.map (some M))∧W.cell? ⟨gc,1,none⟩=some (.map (some (M+1))):=λW h=>⟨h.cell 0,h.cell 1⟩
   have HCV:=zA hcv;have HCC:=zA hcc;clear hcv hcc;obtain⟨n1,n2,n3⟩:=HCV.out _ hn;obtain⟨g1,g2⟩:=HCC.out _ hbca;refine zAo zHR 7 (by kernel_rfl) (by kernel_rfl) ?_;simp only[wH1,wH2]
   iterate 7 (refine zBZ (by rfl) ?_;apply Exists.intro;refine⟨λw hw=> ?_, ?_⟩; · (subst hw;go_simp;with_reducible rfl)
              simp only[Act.put,sA,sB,sC])
   refine jU ?_;rintro w6 rfl
   try simp only[wK1,wK2]
   clear n1 n2 n3 g1 g2;have hm1d:=hm1a.ext (w':=w5.drew) (Ext.refl w5).drew;have hm2d:=hm2a.ext (w':=w5.drew) (Ext.refl w5).drew;go_wp2_with (at_mapUpdate;refine zCs (by rfl) _ _ _ 238 94 rfl zDi underlying238 rfl hm1d (by omega) _ rfl _ rfl t1 hkey1.out (zEX (Z.take k++[(t1,t2,t3)])) HS1.out (λj _ hj=>HS2.out j (λe=>hj (by rw[e]))) (λj _ hj=>by injection hj) ?_;intro w7 hm7 hg7)
   have hn7:=hn.drew.grown hg7 (by simp;omega);have hb7:=hbca.drew.grown hg7 (by simp;omega);have hm27:=hm2d.grown hg7 (by simp);have hu7:=hua.drew.grown hg7 (λb hb=>.inl (by injection hb with hb;exact .inl hb.symm));obtain⟨n1,n2,n3⟩:=HCV.out _ hn7;obtain⟨g1,g2⟩:=HCC.out _ hb7;clear hm1d hm2d hm1a hm2a hua hg7;simp only[Act.put,sA,sB,sC];refine zAo zHR 11 (by kernel_rfl) (by kernel_rfl) ?_;simp only[wH1,wH2]
   iterate 11 (refine zBZ (by rfl) ?_;apply Exists.intro;refine⟨λw hw=> ?_, ?_⟩; · (subst hw;go_simp;with_reducible rfl)
               simp only[Act.put,sA,sB,sC])
   refine jU ?_;rintro w8 rfl
   try simp only[wK1,wK2]
   clear n1 n2 n3 g1 g2;have hm2e:=hm27.ext (w':=w7.drew) (Ext.refl w7).drew;have hm1e:=hm7.ext (w':=w7.drew) (Ext.refl w7).drew;go_wp2_with (at_mapUpdate;refine zCs (by rfl) _ _ _ 239 3 rfl keyed_pair underlying239 rfl hm2e (by omega) _ rfl _ rfl (t2,t3) hkey2.out (zEp (Z.take k++[(t1,t2,t3)])) HC1.out (λj hj0 hj=>HC2.out j (λe=>hj (by rw[e]))) (λj hj0 hj=>klP_inj hj0 HB3.out hj) ?_;intro w9 hm9 hg9)
   go_roundw
   case rel =>
    refine⟨k+1,by omega,by go_num, ?_, ?_, ?_⟩
    ·rw[HTS.out];exact hm1e.grown hg9 (by simp)
    ·rw[HTS.out];exact hm9
    exact hu7.drew.grown hg9 (λb hb=>.inl (by injection hb with hb;exact .inr hb.symm))
   case measure=>simp[intOf];omega
  have ek:k=xs.length:=by omega
  have HF:Hid (Z.take k=Z):=zA (wC2 (by have:=HZL.out;omega));rw[HF.out] at hm1 hm2;go_wp2_with fail;go_ret;exact⟨gc,rfl,⟨M,M+1,k,hu.blk hbc4 (by omega),hm1,hm2⟩,hu.ext hxw (by omega)⟩
end
def padB_zero {L:List Bool} (h:L.length%8=0):vU L=L:=by simp[vU,h]
def padB_digs {L:List Bool} {k:Nat} (h:L.length%8+k=8) (h2:0<L.length%8):vU L=L++qD (2 ^ k-1) k:=by
 rw[digs_ones];unfold vU;congr 2
 omega
def zSi {w:World} {base:Nat} {e:TypeId} {size n d:Nat} {B:Option Addr} {xs:List Value} (h:w.ownsRow base e size (.slice B n d) n xs):B=none→d=0:=by
 rintro rfl;obtain⟨-,hh⟩:=h;rcases hh with ⟨e1,-⟩ | ⟨g,cap,cur,e1,-⟩
 ·injection e1
 injection e1 with e2
 cases e2
def zUK (gw:Nat) (L:List Bool) (r:Option Nat) (w:World) (h:WrS w gw L r) (hl:L.length≤1000000000000) :
 Calls prog 157 #[.pointer (some ⟨gw,0,none⟩)] w λe w'=>∃A c,e=.returned (.slice A (qU (vU L)).length c)∧SL w' 1 (.slice A (qU (vU L)).length c) (qU (vU L)).length (zF (qU (vU L))) ∧
  (∀ad,A=some ad→gw<ad.block)∧(A=none→c=0)∧Upd (λb=>b=gw∨r=some b) w w':=by
 by_cases hm0:L.length%8=0
 ·rw[padB_zero hm0];obtain⟨A,c,hr,hB,hown⟩:=h;have HPL:=zA (zCo L);rw[hm0] at hB;generalize qU L=T at *;generalize L.length/8=n at *;have c0:=hB.cell 0;have c2:=hB.cell 2;simp only[wH3,wJ6,wJ7] at c0 c2;clear hm0;go_enter func157,ntmps157;go_wp2_with fail;go_ret;rw[HPL.out];obtain⟨h1,h2⟩:=zSf hown;exact⟨A,c,rfl,h1,(λad h=>by have:=h2 ad h;omega),zSi hown,Upd.refl _ _⟩
 have hw:=h;obtain⟨A,c,hr,hB,hown⟩:=h;obtain⟨k,hk⟩:∃k,L.length%8+k=8:=⟨8-L.length%8,by omega⟩
 rw[padB_digs hk (by omega)];have hPk:=wE9 k;have hP8:(2:Nat) ^ k≤2 ^ 8:=wF3 (by omega) (by omega);have HPUT:=zA (λW (hW:WrS W gw L r)=>zNf gw L r (2 ^ k-1) k W hW (by omega) (by omega) hl);have HW1:Hid (IntKind.i64.wrap (8-((L.length%8:Nat):Int))=(k:Int)):=zA (by rw[IntWalk.i64_in _ (by omega)];omega)
 have HW2:Hid (IntKind.i64.wrap ((2:Int) ^ k)=((2 ^ k:Nat):Int)):=zA (by
  have:((2:Int) ^ k)=((2 ^ k:Nat):Int):=by push_cast;rfl
  rw[this,IntWalk.i64_in _ (by omega)])
 have HW3:Hid (IntKind.i64.wrap (((2 ^ k:Nat):Int)-1)=((2 ^ k-1:Nat):Int)):=zA (by rw[IntWalk.i64_in _ (by omega)];omega);have c0:=hB.cell 0;have c2:=hB.cell 2;simp only[wH3,wJ6,wJ7] at c0 c2;have HL8:=zA (zCo (L++qD (2 ^ k-1) k));generalize L++qD (2 ^ k-1) k=L' at *;generalize (2:Nat) ^ k-1=p1 at *;generalize hP:(2:Nat) ^ k=P at *;have hm1:0<L.length%8:=by omega
 generalize L.length%8=m at *;clear hm0 hP hown hB hr;go_enter func157,ntmps157;go_wp2_with fail;refine zAo zHR 13 (by kernel_rfl) (by kernel_rfl) ?_;simp only[wH1,wH2]
 iterate 13 (refine zBZ (by rfl) ?_;apply Exists.intro;refine⟨λw hw=> ?_, ?_⟩; · (subst hw;have h1:=HW1.out;have h2:=HW2.out;have h3:=HW3.out;go_simp;with_reducible rfl)
             simp only[Act.put,sA,sB,sC])
 refine jU ?_;rintro w3 rfl
 try simp only[wK1,wK2]
 have hwd:=hw.drew;clear c0 c2 HW1 HW2 HW3;go_wp2_with (go_at_call 156;(with_reducible refine (HPUT.out _ hwd).mono ?_);rintro e w5 ⟨rfl,r',⟨A5,c5,hr5,hB5,hown5⟩,hrr,hu5⟩;have c0:=hB5.cell 0;simp only[wH3,wJ6] at c0)
 go_ret;obtain⟨h1,h2⟩:=zSf hown5;rw[HL8.out];exact⟨A5,c5,rfl,h1,(λad h=>by have:=h2 ad h;omega),zSi hown5,(Upd.refl _ w).drew.trans hu5 (λx hx=>.inl hx)⟩
section
open Go.RowKit Go.Maps Go.WideMaps
def zPS (w:World):(zeroValue 94).run prog w=.ok (.agg #[.int .i64 0,.int .i64 0,.int .i64 0]) w:=by kernel_rfl
def symF_some {T:List Tok} {s:Int} {t:Tok} (h:qL T s=some t):zEX T s=some (.agg #[.int .i64 t.1,.int .i64 t.2.1,.int .i64 t.2.2]):=by unfold zEX;unfold qL at h;rw[h];rfl
def symF_none {T:List Tok} {s:Int} (h:qL T s=none):zEX T s=none:=by unfold zEX;unfold qL at h;rw[h];rfl
def zTO (gc gw:Nat) (T:List Tok) (s:Int) (w:World) (hc:CoderS w gc T) (hf:qL T s=none) (h0: -9223372036854775808≤s) (h1:s≤9223372036854775807) :
 Calls prog 155 #[.pointer (some ⟨gc,0,none⟩),.pointer (some ⟨gw,0,none⟩),.int .i64 s] w λe w'=>e=.returned (.bool false)∧Ext w w':=by
 obtain⟨m1,m2,n,hB,hm1,hm2⟩:=hc;have c0:=hB.cell 0;simp only[wH3,wJ6] at c0;have HS:=zA (symF_none hf);have hkey:=zA (zDq (P:=prog) underlying3 h0 h1);clear hf;go_enter func155,ntmps155;go_wp2_with (at_lookup;refine zCP (by rfl) _ _ 238 94 rfl zDi underlying238 _ (zPS _) rfl hm1 _ rfl s trivial hkey.out (.agg #[.int .i64 0,.int .i64 0,.int .i64 0]) (by rw[HS.out];rfl) false (by rw[HS.out];rfl) ?_)
 go_ret;exact⟨rfl,(Ext.refl w).alloc _⟩
def zST (gc gw:Nat) (T:List Tok) (L:List Bool) (r:Option Nat) (s:Int) (long code:Nat) (w:World) (hc:CoderS w gc T) (hw:WrS w gw L r) (hf:qL T s=some (s,(long:Int),(code:Int))) (h0: -9223372036854775808≤s) (h1:s≤9223372036854775807)
 (hlong:long≤24) (hcode:code<2 ^ long) (hl:L.length≤1000000000000) :
 Calls prog 155 #[.pointer (some ⟨gc,0,none⟩),.pointer (some ⟨gw,0,none⟩),.int .i64 s] w λe w'=>e=.returned (.bool true) ∧
  ∃r',WrS w' gw (L++qD code long) r'∧(r'=r∨∃b,r'=some b∧w.heap.size≤b)∧Upd (λb=>b=gw∨r=some b) w w':=by
 obtain⟨m1,m2,n,hB,hm1,hm2⟩:=hc;have c0:=hB.cell 0;simp only[wH3,wJ6] at c0;have HS:=zA (symF_some hf);simp only at HS;have HP:=zA (λW (hW:WrS W gw L r)=>zNf gw L r code long W hW hlong hcode hl);have hkey:=zA (zDq (P:=prog) underlying3 h0 h1);clear hf hcode;generalize qD code long=D at *;go_enter func155,ntmps155
 go_wp2_with (first
  | (at_lookup;refine zCP (by rfl) _ _ 238 94 rfl zDi underlying238 _ (zPS _) rfl hm1 _ rfl s trivial hkey.out (.agg #[.int .i64 s,.int .i64 (long:Int),.int .i64 (code:Int)]) (by rw[HS.out];rfl) true (by rw[HS.out];rfl) ?_)
  | (go_at_call 156;(with_reducible refine (HP.out _ (hw.ext ((Ext.refl w).alloc _))).mono ?_);rintro e w5 ⟨rfl,r',hW5,hrr,hu5⟩))
 go_ret;exact⟨rfl,r',hW5,hrr.imp id (λ⟨b,h1,h2⟩=>⟨b,h1,by rw[World.size_alloc] at h2;omega⟩),(Upd.of_ext (S:=λb=>b=gw∨r=some b) ((Ext.refl w).alloc _)).trans hu5 (λx hx=>.inl hx)⟩
end
section
def yV (T1 T2:List Tok) (L:List Bool) (t:Tok) (b:Bool):Int×List Bool :=
 match qL (if b then T1 else T2) t.1 with
 | none=>(5,L)
 | some _=>(0,L++zBm (if b then T1 else T2) t.1++qD t.2.2.toNat t.2.1.toNat)
def zSs (T1 T2:List Tok) (L:List Bool) (t:Tok) (b:Bool):L.length≤(yV T1 T2 L t b).2.length:=by
 unfold yV;split
 ·exact wA5 _
 simp only[wE2];omega
def zPY (T1 T2:List Tok):∀(l:List (Tok×Bool)) (L:List Bool),L.length≤(qB (yV T1 T2) l L).2.length
 | [],L=>wA5 _
 | (t,b)::r,L=>by
   have h1:=zSs T1 T2 L t b
   by_cases h0:(yV T1 T2 L t b).1=0
   ·rw[zBC h0];exact wJ1 h1 (zPY T1 T2 r _)
   rw[zDh h0];exact h1
def zLk {T1 T2:List Tok} (f1:zBg T1) (f2:zBg T2):∀(l:List (Tok×Bool)) (L:List Bool),(∀t∈l,zBJ t.1)→(qB (yV T1 T2) l L).2.length≤L.length+28*l.length
 | [],L,_=>by simp[qB]
 | (t,b)::r,L,h=>by
   have hw:=h (t,b) (by simp);obtain⟨-,-,w1,w2,-,-⟩:=hw;dsimp only at w1 w2
   have h1:(yV T1 T2 L t b).2.length≤L.length+28:=by
    unfold yV;split
    ·simp
    have h2:(zBm (if b then T1 else T2) t.1).length≤16:=by
     cases b with
     | true=>exact zOO f1 _
     | false=>exact zOO f2 _
    simp only[wE2,qH];omega
   by_cases h0:(yV T1 T2 L t b).1=0
   ·rw[zBC h0];have:=zLk f1 f2 r (yV T1 T2 L t b).2 (λu hu=>h u (by simp[hu]));simp only[wA8];omega
   rw[zDh h0];simp only[wA8];omega
structure EncIn (pc pw gk gw gc1 gc2:Nat) (T1 T2:List Tok) (W0 W:World) (L:List Bool) (F:Nat→Prop):Prop where
 p:Blk W0 pc 197 #[.pointer (some ⟨gk,0,none⟩)]
 k:Blk W0 gk 236 #[.pointer (some ⟨gc1,0,none⟩),.pointer (some ⟨gc2,0,none⟩)]
 c1:CoderS W0 gc1 T1
 c2:CoderS W0 gc2 T2
 old:W0.heap.size≤gw
 b:Ext W0 W
 q:Blk W pw 200 #[.pointer (some ⟨gw,0,none⟩)]
 r:∃r,WrS W gw L r∧∀x,F x↔x=gw∨r=some x
def EncIn.ext {pc pw gk gw gc1 gc2:Nat} {T1 T2:List Tok} {W0 W W':World} {L:List Bool} {F:Nat→Prop} (h:EncIn pc pw gk gw gc1 gc2 T1 T2 W0 W L F) (hx:Ext W W'):EncIn pc pw gk gw gc1 gc2 T1 T2 W0 W' L F:=by obtain⟨r,hr,hF⟩:=h.r;exact⟨h.p,h.k,h.c1,h.c2,h.old,h.b.trans hx,h.q.ext hx,r,hr.ext hx,hF⟩
def zIS {w:World} {g base size n:Nat} {T e:TypeId} {cs:Array Value} {v:Value} {xs:List Value} (h:Blk w g T cs) (ho:w.ownsRow base e size v n xs) (hne:T≠e):some g≠v.ownBlock:=by
 obtain⟨-,hh⟩:=ho;rcases hh with ⟨rfl,-⟩ | ⟨k,cap,cur,rfl,-,hg,-⟩
 ·simp[Value.ownBlock]
 intro e1;have:g=k:=by simpa [Value.ownBlock] using e1
 subst this;exact (h.ne_ (g':=g) (cs':=cur) hg hne) rfl
def wrs_ne {w:World} {g gw:Nat} {T:TypeId} {cs:Array Value} {L:List Bool} {r:Option Nat} (h:Blk w g T cs) (hw:WrS w gw L r) (h1:T≠203) (h2:T≠5):g≠gw∧r≠some g:=by obtain⟨A,c,e1,hB,ho⟩:=hw;refine⟨h.ne_ (g':=gw) hB h1,λe=> ?_⟩;have:=zIS h ho h2;rw[zKe, ←e1] at this;exact this e.symm
def ptrW_ne:200≠203∧200≠5:=by decide
def tokT_ne:149≠203∧149≠5:=by decide
def EncIn.put {pc pw gk gw gc1 gc2:Nat} {T1 T2:List Tok} {W0 W W':World} {L L':List Bool} {F:Nat→Prop} {r r':Option Nat} (h:EncIn pc pw gk gw gc1 gc2 T1 T2 W0 W L F) (hr:WrS W gw L r) (hF:∀x,F x↔x=gw∨r=some x) (hW:WrS W' gw L' r') (hu:Upd (λb=>b=gw∨r=some b) W W') :
 EncIn pc pw gk gw gc1 gc2 T1 T2 W0 W' L' (λx=>x=gw∨r'=some x):=by
 have hn:=wrs_ne h.q hr ptrW_ne.1 ptrW_ne.2;refine⟨h.p,h.k,h.c1,h.c2,h.old,hu.ext h.b (λy hy=> ?_),hu.blk h.q (λe=> ?_),r',hW,λx=>Iff.rfl⟩
 ·have:=h.old;rcases hy with rfl | e
  ·exact this
  have:=(hr.row y e).1;omega
 rcases e with e | e
 ·exact hn.1 e
 exact hn.2 e
def run_loadK (W:World) (p q:Addr) (h:W.cell? p=some (.pointer (some q))):(Instr.loadAt 197 (.pointer (some p))).run prog W=.ok (.pointer (some q)) W:=by go_simp
def run_loadW (W:World) (p q:Addr) (h:W.cell? p=some (.pointer (some q))):(Instr.loadAt 200 (.pointer (some p))).run prog W=.ok (.pointer (some q)) W:=by go_simp
section
variable {o:Oper} {a:Act}
def zLf {x:Operand} (ho:o.op=.load 197 x) {p q:Addr} (hx:a.eval x=.pointer (some p)) {w:World} (h:w.cell? p=some (.pointer (some q))):(execOp a.eval o).run prog w=.ok (.value (.pointer (some q))) w:=by simp[execOp,ho,hx,run_loadK w p q h]
def zRj {x:Operand} (ho:o.op=.load 200 x) {p q:Addr} (hx:a.eval x=.pointer (some p)) {w:World} (h:w.cell? p=some (.pointer (some q))):(execOp a.eval o).run prog w=.ok (.value (.pointer (some q))) w:=by simp[execOp,ho,hx,run_loadW w p q h]
end
def of_any (gk gc1 gc2:Nat) (b:Bool) (w:World) (h:Blk w gk 236 #[.pointer (some ⟨gc1,0,none⟩),.pointer (some ⟨gc2,0,none⟩)]) :
 Calls prog 154 #[.pointer (some ⟨gk,0,none⟩),.bool b] w λe w'=>e=.returned (.pointer (some ⟨if b then gc1 else gc2,0,none⟩))∧w=w':=by
 have c0:w.cell? ⟨gk,0,none⟩=some (.pointer (some ⟨gc1,0,none⟩)):=h.cell 0;have c1:w.cell? ⟨gk,1,none⟩=some (.pointer (some ⟨gc2,0,none⟩)):=h.cell 1
 cases b with
 | true =>
   go_enter func154,ntmps154;go_wp2_with fail;go_ret;exact⟨rfl,rfl⟩
 | false =>
   go_enter func154,ntmps154;go_wp2_with fail;go_ret;exact⟨rfl,rfl⟩
attribute [local irreducible] zBm qD
def encFn_any (pc pw gk gw gc1 gc2:Nat) (T1 T2:List Tok) (f1:zBg T1) (f2:zBg T2) (W0:World) (t:Tok) (b:Bool) (L:List Bool) (F:Nat→Prop) (w:World) (hC:(yV T1 T2 L t b).2.length≤1000000000) (hw:zBJ t) (h:EncIn pc pw gk gw gc1 gc2 T1 T2 W0 w L F) :
 Calls prog 153 #[.agg (qN t).toArray,.bool b,.pointer (some ⟨pc,0,none⟩),.pointer (some ⟨pw,0,none⟩)] w λe w'=>e=.returned (.int .i64 (yV T1 T2 L t b).1)∧Upd F w w'∧∃F',EncIn pc pw gk gw gc1 gc2 T1 T2 W0 w' (yV T1 T2 L t b).2 F'∧∀x,F' x→F x∨w.heap.size≤x:=by
 obtain⟨t1,t2,t3⟩:=t;obtain⟨h1,h2,h3,h4,h5,h6⟩:=hw;dsimp only at h1 h2 h3 h4 h5 h6;obtain⟨wd,hwd⟩:∃m:Nat,t2=(m:Int):=⟨t2.toNat,by omega⟩
 obtain⟨vl,hvl⟩:∃m:Nat,t3=(m:Int):=⟨t3.toNat,by omega⟩
 subst hwd hvl;have hv2:vl<2 ^ wd:=by rw[wD7] at h6;exact_mod_cast h6
 have hHC:Hid ((yV T1 T2 L (t1,(wd:Int),(vl:Int)) b).2.length≤1000000000):=zA hC;obtain⟨r,hr,hF⟩:=h.r;obtain⟨T,hT⟩:∃T,T=if b then T1 else T2:=⟨_,rfl⟩
 obtain⟨gc,hgc⟩:∃g,g=if b then gc1 else gc2:=⟨_,rfl⟩
 have hfit:zBg T:=by rw[hT];cases b<;>assumption
 have hcs:CoderS W0 gc T:=by
  rw[hT,hgc]
  cases b with
  | true=>exact h.c1
  | false=>exact h.c2
 have HE:Hid (yV T1 T2 L (t1,(wd:Int),(vl:Int)) b=match qL T t1 with | none=>(5,L) | some _=>(0,L++zBm T t1++qD vl wd)):=zA (by unfold yV;rw[hT];rfl);generalize yV T1 T2 L (t1,(wd:Int),(vl:Int)) b=R at *
 cases hf:qL T t1 with
 | none =>
   rw[hf] at HE;have HPUT:=zA (λW (hc:CoderS W gc T)=>zTO gc gw T t1 W hc hf (by omega) (by omega));have HX:=zA (λW (hx:Ext w W)=>h.ext hx);have HCX:=zA (λW (hx:Ext w W)=>hcs.ext (h.b.trans hx));have HOF0:=zA (λW (hx:Ext w W)=>of_any gk gc1 gc2 b W (h.k.ext (h.b.trans hx)));rw[←hgc] at HOF0;have HPC0:=zA (λW (hx:Ext w W)=>(h.p.ext (h.b.trans hx)).cell 0);have HPW0:=zA (λW (hx:Ext w W)=>(h.q.ext hx).cell 0);clear hC hT hgc hfit hcs hf h hr hF;go_enter func153,ntmps153;go_wp2_with ((with_reducible apply gS 4);refine wBox rfl 149 (.tmp 0) rfl #[.int .i64 t1,.int .i64 (wd:Int),.int .i64 (vl:Int)] rfl ?_;intro w1 g1 hb1 hx1 hg1)
   have HOF:=zA (λW (hx:Ext w1.drew W)=>((HOF0.out W ((hx1.drew).trans hx)).mono (λe w' ⟨e1,e2⟩=>⟨e1,e2 ▸ Ext.refl _⟩):Calls prog 154 #[.pointer (some ⟨gk,0,none⟩),.bool b] W λe w'=>e=.returned (.pointer (some ⟨gc,0,none⟩))∧Ext W w'));have HPC:=zA (λW (hx:Ext w1.drew W)=>HPC0.out W ((hx1.drew).trans hx));have HPW:=zA (λW (hx:Ext w1.drew W)=>HPW0.out W ((hx1.drew).trans hx));refine zAo qM 6 (by kernel_rfl) (by kernel_rfl) ?_;simp only[wH1,wH2];refine xA (by rfl) (.pointer (some ⟨gk,0,none⟩)) (λW hW=>zLf rfl rfl (HPC.out W hW)) ?_;simp only[sP,sB,sC];refine zE (by rfl) (.bool b) (zD rfl rfl) ?_;simp only[sP,sB,sC];refine zEY (by rfl) 154 func154 rfl rfl _ _ rfl #[.pointer (some ⟨gk,0,none⟩),.bool b] (by simp[Act.eval]) (.pointer (some ⟨gc,0,none⟩)) (λW hW=>HOF.out W hW) ?_;simp only[sP,sB,sC];refine xA (by rfl) (.pointer (some ⟨gw,0,none⟩)) (λW hW=>zRj rfl rfl (HPW.out W hW)) ?_;simp only[sP,sB,sC];refine zBZ (by rfl) ?_;apply Exists.intro;refine⟨λw hw=> ?_, ?_⟩; · (go_simp;with_reducible rfl)
   simp only[Act.put,sA,sB,sC];refine xA (by rfl) (.int .i64 t1) (λW hW=>zS rfl rfl ((hb1.ext (Ext.trans (Ext.refl w1).drew hW)).cell 0)) ?_;simp only[sP,sB,sC];refine jU ?_;intro w2 hx2
   try simp only[wK1,wK2]
   have hx2':=(hx1.drew).trans hx2;go_wp2_with (go_at_call 155;(with_reducible refine (HPUT.out _ (HCX.out _ hx2')).mono ?_);rintro e w3 ⟨rfl,hx3⟩)
   go_ret;rw[HE.out];have hx3':=hx2'.trans hx3;exact⟨rfl,yG hx3',F,HX.out _ hx3',λx k=>.inl k⟩
 | some u =>
   rw[hf] at HE;obtain⟨long,code,rfl,l1,l2,l3⟩:=hfit t1 u hf
   have hLb:(L++qD code long++qD vl wd).length≤1000000000:=by
    have h0:=hHC.out;rw[HE.out,zFZ hf] at h0;exact h0
   have hL1:(L++qD code long).length≤1000000000:=by rw[wE2] at hLb;omega
   have hL0:L.length≤1000000000:=by rw[wE2] at hL1;omega
   have HPUT:=zA (λW (hc:CoderS W gc T) (hW:WrS W gw L r)=>zST gc gw T L r t1 long code W hc hW hf (by omega) (by omega) (by omega) l3 (by omega));have HPU2:=zA (λW r' (hW:WrS W gw (L++qD code long) r')=>zNf gw (L++qD code long) r' vl wd W hW (by omega) hv2 (by omega));have HX:=zA (λW (hx:Ext w W)=>h.ext hx);have HCX:=zA (λW (hx:Ext w W)=>hcs.ext (h.b.trans hx));have HWX:=zA (λW (hx:Ext w W)=>hr.ext hx);have HOF0:=zA (λW (hx:Ext w W)=>of_any gk gc1 gc2 b W (h.k.ext (h.b.trans hx)));rw[←hgc] at HOF0;have HPC0:=zA (λW (hx:Ext w W)=>(h.p.ext (h.b.trans hx)).cell 0);have HPW0:=zA (λW (hx:Ext w W)=>(h.q.ext hx).cell 0);have HR1:Hid (R=(0,L++qD code long++qD vl wd)):=zA (by rw[HE.out,zFZ hf]);have HFF:=zA hF;have hgwlt:=hr.lt;clear hC hT hgc hfit hcs hf hF hLb hL1 hL0 HE hHC;go_enter func153,ntmps153;go_wp2_with ((with_reducible apply gS 4);refine wBox rfl 149 (.tmp 0) rfl #[.int .i64 t1,.int .i64 (wd:Int),.int .i64 (vl:Int)] rfl ?_;intro w1 g1 hb1 hx1 hg1)
   have HOF:=zA (λW (hx:Ext w1.drew W)=>((HOF0.out W ((hx1.drew).trans hx)).mono (λe w' ⟨e1,e2⟩=>⟨e1,e2 ▸ Ext.refl _⟩):Calls prog 154 #[.pointer (some ⟨gk,0,none⟩),.bool b] W λe w'=>e=.returned (.pointer (some ⟨gc,0,none⟩))∧Ext W w'));have HPC:=zA (λW (hx:Ext w1.drew W)=>HPC0.out W ((hx1.drew).trans hx));have HPW:=zA (λW (hx:Ext w1.drew W)=>HPW0.out W ((hx1.drew).trans hx));refine zAo qM 6 (by kernel_rfl) (by kernel_rfl) ?_;simp only[wH1,wH2];refine xA (by rfl) (.pointer (some ⟨gk,0,none⟩)) (λW hW=>zLf rfl rfl (HPC.out W hW)) ?_;simp only[sP,sB,sC];refine zE (by rfl) (.bool b) (zD rfl rfl) ?_;simp only[sP,sB,sC];refine zEY (by rfl) 154 func154 rfl rfl _ _ rfl #[.pointer (some ⟨gk,0,none⟩),.bool b] (by simp[Act.eval]) (.pointer (some ⟨gc,0,none⟩)) (λW hW=>HOF.out W hW) ?_;simp only[sP,sB,sC];refine xA (by rfl) (.pointer (some ⟨gw,0,none⟩)) (λW hW=>zRj rfl rfl (HPW.out W hW)) ?_;simp only[sP,sB,sC];refine zBZ (by rfl) ?_;apply Exists.intro;refine⟨λw hw=> ?_, ?_⟩; · (go_simp;with_reducible rfl)
   simp only[Act.put,sA,sB,sC];refine xA (by rfl) (.int .i64 t1) (λW hW=>zS rfl rfl ((hb1.ext (Ext.trans (Ext.refl w1).drew hW)).cell 0)) ?_;simp only[sP,sB,sC];refine jU ?_;intro w2 hx2
   try simp only[wK1,wK2]
   have hx2':=(hx1.drew).trans hx2;have hb2:=hb1.drew.ext hx2;have hI2:=HX.out _ hx2';have hW2:=HWX.out _ hx2';have hn2:=wrs_ne hb2 hW2 tokT_ne.1 tokT_ne.2
   go_wp2_with (first
    | (go_at_call 155;(with_reducible refine (HPUT.out _ (HCX.out _ hx2') hW2).mono ?_);rintro e w3 ⟨rfl,r3,hW3,hrr3,hu3⟩;have hI3:=hI2.put hW2 HFF.out hW3 hu3;have hb3:=hu3.blk hb2 (λe=>e.elim hn2.1 hn2.2);have q1:w3.cell? ⟨g1,1,none⟩=some (.int .i64 (wd:Int)):=hb3.cell 1;have q2:w3.cell? ⟨g1,2,none⟩=some (.int .i64 (vl:Int)):=hb3.cell 2;have q3:w3.cell? ⟨pw,0,none⟩=some (.pointer (some ⟨gw,0,none⟩)):=hI3.q.cell 0)
    | (go_at_call 156;(with_reducible refine (HPU2.out _ _ hW3).mono ?_);rintro e w4 ⟨rfl,r4,hW4,hrr4,hu4⟩))
   go_ret;rw[HR1.out];have hI4:=hI3.put hW3 (λx=>Iff.rfl) hW4 hu4;have hs2:=hx2'.size;have hs3:=hu3.size;refine⟨rfl, ?_,_,hI4, ?_⟩
   ·refine ((yG (S:=F) hx2').trans hu3 (λx hx=>.inl ((HFF.out x).2 hx))).trans hu4 (λx hx=> ?_);rcases hx with e | e
    ·exact .inl ((HFF.out x).2 (.inl e))
    rcases hrr3 with e3 | ⟨y,e3,hy⟩
    ·exact .inl ((HFF.out x).2 (.inr (e3 ▸ e)))
    rw[e3] at e;have:=wU4 e;exact .inr (by omega)
   intro x hx;rcases hx with e | e
   ·exact .inl ((HFF.out x).2 (.inl e))
   rcases hrr4 with e4 | ⟨y,e4,hy⟩
   ·rw[e4] at e;rcases hrr3 with e3 | ⟨y,e3,hy⟩
    ·exact .inl ((HFF.out x).2 (.inr (e3 ▸ e)))
    rw[e3] at e;have:=wU4 e;exact .inr (by omega)
   rw[e4] at e;have:=wU4 e;exact .inr (by omega)
def goesEnc:zAn prog 153:=⟨_,func153,by kernel_rfl,by kernel_rfl⟩
def encEat (pc pw gk gw gc1 gc2:Nat) (T1 T2:List Tok) (f1:zBg T1) (f2:zBg T2) (W0:World):Eat 153 #[.pointer (some ⟨pc,0,none⟩),.pointer (some ⟨pw,0,none⟩)] (EncIn pc pw gk gw gc1 gc2 T1 T2 W0) (yV T1 T2) (λL=>L.length≤1000000000) :=
 ⟨goesEnc,λl s h=>wJ1 (zPY T1 T2 l s) h,λt b s F W hC hw h=>by simpa using encFn_any pc pw gk gw gc1 gc2 T1 T2 f1 f2 W0 t b s F W hC hw h,λs F W W' h hx=>h.ext hx,λs F W x h hx=>by
  obtain⟨r,hr,hF⟩:=h.r;rcases (hF x).1 hx with rfl | e
  ·exact hr.lt
  ·exact (hr.row x e).2⟩
end
section
variable {P:Program} {o:Oper} {a:Act}
def zAN {t:TypeId} {x y:Operand} (ho:o.op=.build t #[(0,x),(1,y)]) {vx vy:Value} (hx:a.eval x=vx) (hy:a.eval y=vy) {cs:Array Value} (hf:P.built t [(0,vx),(1,vy)]=some cs) (w:World):(execOp a.eval o).run P w=.ok (.value (.agg cs)) w:=by simp only[execOp,ho,Sem.run_bind,run_build w t (#[(0,x),(1,y)].map λ(i,x)=>(i,a.eval x)) cs (by simpa [hx,hy] using hf),Result.andThen_ok,Sem.run_pure]
end
def zTc (p q:Addr):prog.built 236 [(0,.pointer (some p)),(1,.pointer (some q))]=some #[.pointer (some p),.pointer (some q)]:=by
 show _=_
 kernel_rfl
def goesNew:zAn prog 184:=⟨_,func184,by kernel_rfl,by kernel_rfl⟩
section
variable {P:Program} {o:Oper} {a:Act}
def zDH {ty:TypeId} {x:Operand} (ho:o.op=.load ty x) {b off:Nat} (hx:a.eval x=.pointer (some ⟨b,off,none⟩)) {cs:List Value} {w:World} (hc:w.rangeAt b off cs) {d:TypeDesc} (hu:P.underlying ty=some d) (hd:d.isRow=true) (hi:(P.info? ty).map (·.size)=some cs.length) :
 (execOp a.eval o).run P w=.ok (.value (.agg cs.toArray)) w:=by simp only[execOp,ho,hx,Sem.run_bind,run_loadAt_mid w b off ty cs d hc hu hd hi,Result.andThen_ok,Sem.run_pure]
end
def zGK (T1 T2:List Tok) (t1 t2:List Value) (w:World) (h1:t1.length=17) (h2:t2.length=17)
 (o1:t1.toArray.all (·.oneCell')=true) (o2:t2.toArray.all (·.oneCell')=true)
 (C1:∀W,Ext w W→Calls prog 102 #[.agg t1.toArray] W λe W'=>e=.returned (.int .i64 0)∧Ext W W')
 (C2:∀W,Ext w W→Calls prog 102 #[.agg t2.toArray] W λe W'=>e=.returned (.int .i64 0)∧Ext W W')
 (N1:∀W,Ext w W→Calls prog 184 #[.agg t1.toArray] W λe W'=>∃gc,e=.returned (.pointer (some ⟨gc,0,none⟩))∧CoderS W' gc T1∧Ext W W')
 (N2:∀W,Ext w W→Calls prog 184 #[.agg t2.toArray] W λe W'=>∃gc,e=.returned (.pointer (some ⟨gc,0,none⟩))∧CoderS W' gc T2∧Ext W W') :
 Calls prog 152 #[.agg (t1++t2).toArray] w λe w'=>∃gk gc1 gc2,e=.returned (.tuple #[.pointer (some ⟨gk,0,none⟩),.int .i64 0])∧Blk w' gk 236 #[.pointer (some ⟨gc1,0,none⟩),.pointer (some ⟨gc2,0,none⟩)]∧CoderS w' gc1 T1∧CoderS w' gc2 T2∧Ext w w':=by
 have HN1:=zA N1;have HN2:=zA N2;clear N1 N2;have hl1:=zA h1;have hl2:=zA h2;have HB2:=zA (zHJ t1 t2 h1 h2);have HRT:=zA (λW g (hb:Blk W g 42 (t1++t2).toArray)=>zAL h1 hb);have HRU:=zA (λW g (hb:Blk W g 44 (t1++t2).toArray)=>zAL h1 hb);have hs1:Hid (t1.toArray.size=17):=zA (by simpa using h1);have hs2:Hid (t2.toArray.size=17):=zA (by simpa using h2);have hz17:Hid ((ints (List.replicate 16 0)++[Value.slice none 0 0]).toArray.size=17):=zA (by simp[ints]);have hl3:Hid ((t1++t2).toArray.size=34):=zA (by simp[h1,h2]);have HO1:=zA o1;have HO2:=zA o2;have HC1:=zA C1;have HC2:=zA C2;clear o1 o2 C1 C2 h1 h2;go_enter func152,ntmps152
 go_wp2_with (first
  | ((with_reducible apply gS 1);refine wBox rfl 44 (.tmp 0) rfl (t1++t2).toArray rfl ?_;intro w1 g hb1 hx1 hg;have hr1:=HRU.out _ _ hb1)
  | ((with_reducible apply gS 8);refine wpList_load_mid rfl 42 (.tmp 7) rfl g 0 rfl t1 _ hr1.1 underlying42 rfl (by rw[hl1.out];exact zX) ?_)
  | ((with_reducible apply gS 10);refine wpList_load_mid rfl 42 (.tmp 9) rfl g 17 rfl t2 _ hr1.2 underlying42 rfl (by rw[hl2.out];exact zX) ?_)
  | ((with_reducible apply gS 11);refine Go.Great.wpList_buildSliceTo rfl 115 42 2 _ rfl _ rfl (some 11) rfl underlying115 _ (by simp[Act.eval];exact HB2.out) ?_))
 have hbn0:=Blk.new w1 42 (t1++t2).toArray;have hb3:=hb1.alloc (.cells (t1++t2).toArray 42);have hx3:=hx1.alloc (.cells (t1++t2).toArray 42);clear hb1 hr1 hx1
 go_loopw [13] (λi wr=>∃k:Nat,k≤2∧i=.int .i64 (k:Int)∧Blk wr g 44 (t1++t2).toArray∧Blk wr w1.heap.size 42 (t1++t2).toArray∧Ext w wr) (λi _=>2-(intOf i).toNat)
 case atStart=>exact⟨0,by omega,rfl,hb3,hbn0,hx3⟩
 case round =>
  clear hb3 hbn0 hx3;obtain⟨k,hk,rfl,hb,hbn,hx⟩:=hrel;rcases (by omega:k=0∨k=1∨k=2) with rfl | rfl | rfl
  ·have hr:=(HRT.out _ _ hbn).1
   go_wp2_with (first
    | ((with_reducible apply gS 16);refine wpList_load_mid rfl 42 (.tmp 15) rfl _ 0 rfl t1 _ hr underlying42 rfl (by rw[hl1.out];exact zX) ?_)
    | ((with_reducible apply gS 5);refine wAlo' rfl (some 5) rfl 42 rfl _ zAW ?_;intro w4 ga hba4 hx4 hga)
    | ((with_reducible apply gT 5 16);refine wStB rfl 42 (.tmp 5) (.tmp 16) rfl _ _ rfl rfl hba4 17 zX hs1.out hz17.out HO1.out ?_;intro w5 hba5 hg5;have hx5:=(hx.trans hx4).grown hg5 (by have:=hx.size;omega))
    | ((with_reducible apply gS 17);refine wLdB rfl 42 (.tmp 5) rfl _ rfl hba5 _ underlying42 rfl 17 zX hs1.out ?_)
    | (go_at_call 102;(with_reducible refine (HC1.out _ hx5).mono ?_);rintro e w6 ⟨rfl,hx6⟩))
   go_roundw
   case rel=>exact⟨1,by omega,by go_num,((hb.ext hx4).grown hg5 (by have:=hb.lt;simp;omega)).ext hx6,((hbn.ext hx4).grown hg5 (by have:=hbn.lt;simp;omega)).ext hx6,hx5.trans hx6⟩
   case measure=>simp[intOf]
  ·have hr:=(HRT.out _ _ hbn).2
   go_wp2_with (first
    | ((with_reducible apply gS 16);refine wpList_load_mid rfl 42 (.tmp 15) rfl _ 17 rfl t2 _ hr underlying42 rfl (by rw[hl2.out];exact zX) ?_)
    | ((with_reducible apply gS 5);refine wAlo' rfl (some 5) rfl 42 rfl _ zAW ?_;intro w4 ga hba4 hx4 hga)
    | ((with_reducible apply gT 5 16);refine wStB rfl 42 (.tmp 5) (.tmp 16) rfl _ _ rfl rfl hba4 17 zX hs2.out hz17.out HO2.out ?_;intro w5 hba5 hg5;have hx5:=(hx.trans hx4).grown hg5 (by have:=hx.size;omega))
    | ((with_reducible apply gS 17);refine wLdB rfl 42 (.tmp 5) rfl _ rfl hba5 _ underlying42 rfl 17 zX hs2.out ?_)
    | (go_at_call 102;(with_reducible refine (HC2.out _ hx5).mono ?_);rintro e w6 ⟨rfl,hx6⟩))
   go_roundw
   case rel=>exact⟨2,by omega,by go_num,((hb.ext hx4).grown hg5 (by have:=hb.lt;simp;omega)).ext hx6,((hbn.ext hx4).grown hg5 (by have:=hbn.lt;simp;omega)).ext hx6,hx5.trans hx6⟩
   case measure=>simp[intOf]
  have HRD:=zA (λW (h:Ext wr W)=>HRU.out W g (hb.ext h));clear hb hbn;go_wp2_with fail;have hI:Ext wr wr.drew:=(Ext.refl wr).drew;refine qR (Ext wr) (by kernel_rfl) ?_;refine zG (k:=0) (by kernel_rfl) rfl (by rfl) (.pointer (some ⟨g,0,none⟩)) (λw=>by go_simp) hI ?_;simp only[sP,sB,sC];refine xE (k:=1) (by kernel_rfl) rfl (by rfl) (.agg t1.toArray) (λW hW=>zDH rfl rfl (HRD.out W hW).1 underlying42 rfl (by rw[hl1.out];exact zX)) hI ?_;simp only[Act.put,sA,sB,sC];refine zG (k:=3) (by kernel_rfl) rfl (by rfl) (.pointer (some ⟨g,17,none⟩)) (λw=>by go_simp) hI ?_;simp only[sP,sB,sC];refine xE (k:=4) (by kernel_rfl) rfl (by rfl) (.agg t2.toArray) (λW hW=>zDH rfl rfl (HRD.out W hW).2 underlying42 rfl (by rw[hl2.out];exact zX)) hI ?_;simp only[Act.put,sA,sB,sC];refine qI (k:=2) (by kernel_rfl) rfl ?_;refine xK (by rfl) (xL _ _ _ rfl rfl goesNew #[.agg t1.toArray] (by simp[Act.eval])) ?_;refine (HN1.out _ (hx.trans hI)).mono ?_;rintro e w5 ⟨gc1,rfl,hc1,hx5⟩;have hI5:=hI.trans hx5;refine⟨_,rfl,zZ ⟨hI5, ?_⟩⟩;simp only[Act.put,sA,sB,sC];refine qI (k:=5) (by kernel_rfl) rfl ?_;refine xK (by rfl) (xL _ _ _ rfl rfl goesNew #[.agg t2.toArray] (by simp[Act.eval])) ?_;refine (HN2.out _ (hx.trans hI5)).mono ?_;rintro e w6 ⟨gc2,rfl,hc2,hx6⟩;have hI6:=hI5.trans hx6;refine⟨_,rfl,zZ ⟨hI6, ?_⟩⟩;simp only[Act.put,sA,sB,sC];refine zG (k:=6) (by kernel_rfl) rfl (by rfl) (.agg #[.pointer (some ⟨gc1,0,none⟩),.pointer (some ⟨gc2,0,none⟩)]) (zAN rfl rfl rfl (zTc _ _)) hI6 ?_;simp only[sP,sB,sC];refine qI (k:=7) (by kernel_rfl) rfl ?_;refine wBox rfl 236 (.tmp 29) rfl #[.pointer (some ⟨gc1,0,none⟩),.pointer (some ⟨gc2,0,none⟩)] rfl ?_;intro w7 gk hb7 hx7 hg7;have hI7:=hI6.trans hx7;refine zZ ⟨hI7, ?_⟩;simp only[Act.put,sA,sB,sC];refine zG (k:=8) (by kernel_rfl) rfl (by rfl) (.pointer (some ⟨gk,0,none⟩)) (zW rfl rfl) hI7 ?_;simp only[sP,sB,sC];refine zG (k:=9) (by kernel_rfl) rfl (by rfl) (.int .i64 0) (zW rfl rfl) hI7 ?_;simp only[sP,sB,sC];refine uA (by kernel_rfl) ?_;go_wp2_with fail;refine bodyPost_ret (results_tmp2 rfl _ _ _) rfl ?_;exact⟨gk,gc1,gc2,rfl,hb7,(hc1.ext hx6).ext hx7,hc2.ext hx7,hx.trans hI7⟩
