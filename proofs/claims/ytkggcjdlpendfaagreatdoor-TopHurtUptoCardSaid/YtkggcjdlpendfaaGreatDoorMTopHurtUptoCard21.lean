import Derived.ArgAppend
import Derived.Lib.SlBytesConst
import Derived.Test.YtkggcjdlpendfaaGreatDoorMTopHurtUptoCard20
set_option linter.all false
set_option maxRecDepth 20000
set_option maxHeartbeats 8000000
namespace Go.Proofs.YtkggcjdlpendfaaGreatDoor
open Go.RowKit Tryz
section
open Go.RowKit Go.Shelf
def range_one {α:Type} {P:Program} {n:Nat} {g:Operand} {assign body:Code} {p q:Tmp} {Q:Exit→Act→World→Prop} {a:Act} {w:World} {gf:Nat} {lb:Array Value} (hg:a.eval g=.func (.func gf) #[] lb) (eg:∀args w,(callFunc gf args).run P w=.ok (.enter gf args) w)
 {enc:α→Value} {Kp:World→World→Prop} {S:List α→Prop} {N:Nat} {w0:World} (hseq:SeqStopsK Fence.wide (n-1) P gf lb (λx=> #[enc x]) Kp S (λ_=>True) N w0) (h1:1≤n)
 (hKt:∀{A B C:World},Kp A B→Kp B C→Kp A C) (hKb:∀(W:World) (l:Nat) (o o':Obj),w.heap.size≤l→W.heap[l]? =some o→o.isCells=false→o.isWalk=false→Kp W (W.putObj l o')) (hb0:Below w0.heap.size w0 w)
 (I:List α→World→Prop) (hI:OwnFrom w.heap.size I) (h0:I [] w)
 (hassign:∀(l:Nat) (x:α) (W:World) (K:Act→World→Prop),K { tmps:=(a.tmps.setIfInBounds p (enc x)).setIfInBounds q (enc x),defers:=[] } W→assign.wpIn (Fence.wide.inRound l) (n-1-1) P (Exit.then K (λ_ _ _=>False)) { tmps:=a.tmps.setIfInBounds p (enc x),defers:=[] } W)
 (hbody:∀(l:Nat) (pre:List α) (x:α) (W:World),I pre W→pre.length<N→body.wpIn (Fence.wide.inRound l) (n-1-1) P (ownPostG w.heap.size Kp I (λ_ _ _=>False) (pre++[x]) W) { tmps:=(a.tmps.setIfInBounds p (enc x)).setIfInBounds q (enc x),defers:=[] } W)
 (hdone:∀(D:Nat) (xs:List α) (W:World),w.heap.size≤D→S xs→I xs W→W.heap[D]? =some (.deferred (some []))→Q .normal { a with defers:={ target:=.collected D,args:= #[] }::a.defers } W) :
 (Code.rangeFunc g #[p] assign body).wp P Q a w :=
 (wpIn_wide (n:=n)).1 (wpIn_rangeFunc_ownG (ps:= #[p]) (assign:=assign) rfl h1 hg trivial eg hseq hKt hKb hb0 (λ_=>rfl) I (λ_ _ _=>False) hI (λ_ _ _ _ _ hs _ _=>hs) h0
   (λx=>{ tmps:=(a.tmps.setIfInBounds p (enc x)).setIfInBounds q (enc x),defers:=[] })
   (λl x W K hK=>by have:=hassign l x W K hK;simpa using this) hbody hdone (λ_ _ _ _ _ _ h _=>h.elim))
section
variable {X Y:World} {row:Option Nat}
def zEQ {g:Nat} {T:TypeId} {cs:Array Value} (h:Blk X g T cs) (hg:X.grownBy Y row) (hr:∀r,row=some r→∃o:Obj,X.heap[r]? =some o∧o.isCells=false):Blk Y g T cs :=
 (hg.block g h.lt (λe=>by
   obtain⟨o,h1,h2⟩:=hr g e.symm;unfold Blk at h;rw[h] at h1;injection h1 with h1
   subst h1
   cases h2)).trans h
def zNs {size n c:Nat} {A:Option Addr} {xs:List Value} (h:SL X size (.slice A n c) n xs) (hg:X.grownBy Y row) (hr:∀r,row=some r→∃o:Obj,X.heap[r]? =some o∧o.isCells=false):SL Y size (.slice A n c) n xs:=by
 obtain⟨A',c',e,h1,h1',h2,h3⟩:=h;injection e with e1 e2 e3
 subst e1 e3;refine⟨A,c,rfl,h1,h1',h2,λhn=> ?_⟩;obtain⟨ad,ea,hlt,hc⟩:=h3 hn;exact⟨ad,ea,wA1 hlt hg.size,λj u hj=>cell_kept (hc j u hj) hg hr⟩
def zUo {B:Nat} {v:Value} {L:List (List Int)} (h:PartsAt X B v L) (hg:X.grownBy Y row) (hr:∀r,row=some r→∃o:Obj,X.heap[r]? =some o∧o.isCells=false):PartsAt Y B v L:=by
 obtain⟨A,c,vs,rfl,ho,hp⟩:=h;refine⟨A,c,vs,rfl,qV ho (zM hg) (λb hb e=> ?_),λk l hl=> ?_⟩
 ·obtain⟨cs,h1⟩:=zCG ho b hb;obtain⟨o,h2,h3⟩:=hr b e;rw[h1] at h2;injection h2 with h2
  subst h2;cases h3
 obtain⟨D,d,e,hs,hd⟩:=hp k l hl;exact⟨D,d,e,zNs hs hg hr,λad ea=>by obtain⟨h1,h2,h3⟩:=hd ad ea;exact⟨h1,wA1 h2 hg.size,h3⟩⟩
end
def zQG {S:Nat→Prop} {B:Nat} {W W':World} (hu:Upd S W W') (hS:∀x,S x→∃cs T r,W.heap[x]? =some (.cells cs T r)):KeepsFrom B W W' :=
 ⟨hu.size,λk o _ hk ho=>by
  refine (hu.block k (wI9.1 hk).1 (λh=> ?_)).trans hk;obtain⟨cs,T,r,h1⟩:=hS k h;rw[h1] at hk;injection hk with hk
  subst hk
  cases ho⟩
end
def qA (n lo hi:Int) (w:World) :
 Calls prog 108 #[.int .i64 n,.int .i64 lo,.int .i64 hi] w λe w'=>e=.returned (.bool (inB n lo hi))∧w=w':=by
 by_cases h:lo≤n
 ·have h':decide (lo≤n)=true:=by simpa using h
  have e:inB n lo hi=decide (n≤hi):=by rw[wC8,uJ];simp;omega
  rw[e];clear e;go_enter func108,ntmps108;go_wp2
  go_ret;exact⟨rfl,rfl⟩
 have h':decide (lo≤n)=false:=by simpa using h
 have e:inB n lo hi=false:=zCe.2 (by omega);rw[e];clear e;go_enter func108,ntmps108;go_wp2
 go_ret;exact⟨rfl,rfl⟩
def fcheck_na (wd hi pt ev:Int) (qs:List Int) (t1 t2:List Value) (sd:Value) (w:World) (hq:qs.length=64) (h1:t1.length=17) (h2:t2.length=17) (k1:inB wd 1 64=false) :
 Calls prog 50 #[.agg (xG wd hi pt qs t1 t2 ev sd).toArray] w λe w'=>e=.returned (.int .i64 1)∧Ext w w':=by
 have HF:=zA (λW g (hb:Blk W g 47 (xG wd hi pt qs t1 t2 ev sd).toArray)=>zBX hb hq h1 h2);have W1:=zA (λW=>qA wd 1 64 W);have W2:=zA (λW=>qA hi 1 64 W);have W3:=zA (λW=>qA ev 0 100 W);generalize (xG wd hi pt qs t1 t2 ev sd).toArray=fv at *;generalize inB wd 1 64=b1 at *;generalize inB hi 1 64=b2 at *;generalize inB ev 0 100=b3 at *;subst k1;go_enter func50,ntmps50
 go_wp2_with (first
  | (refine wBox rfl 47 (.tmp 0) rfl fv rfl ?_;intro w1 g hb1 hx1 hg;obtain⟨c0,c1,c2,-,-,-,-,c101,-⟩:=HF.out _ _ hb1)
  | (go_at_call 108;(with_reducible refine (W1.out _).mono ?_);rintro e w2 ⟨rfl,rfl⟩)
  | (go_at_call 108;(with_reducible refine (W2.out _).mono ?_);rintro e w2 ⟨rfl,rfl⟩)
  | (go_at_call 108;(with_reducible refine (W3.out _).mono ?_);rintro e w2 ⟨rfl,rfl⟩))
 go_ret;exact⟨rfl,hx1⟩
def fcheck_nb (wd hi pt ev:Int) (qs:List Int) (t1 t2:List Value) (sd:Value) (w:World) (hq:qs.length=64) (h1:t1.length=17) (h2:t2.length=17) (k1:inB wd 1 64=true) (k2:inB hi 1 64=false) :
 Calls prog 50 #[.agg (xG wd hi pt qs t1 t2 ev sd).toArray] w λe w'=>e=.returned (.int .i64 1)∧Ext w w':=by
 have HF:=zA (λW g (hb:Blk W g 47 (xG wd hi pt qs t1 t2 ev sd).toArray)=>zBX hb hq h1 h2);have W1:=zA (λW=>qA wd 1 64 W);have W2:=zA (λW=>qA hi 1 64 W);have W3:=zA (λW=>qA ev 0 100 W);generalize (xG wd hi pt qs t1 t2 ev sd).toArray=fv at *;generalize inB wd 1 64=b1 at *;generalize inB hi 1 64=b2 at *;generalize inB ev 0 100=b3 at *;subst k1 k2;go_enter func50,ntmps50
 go_wp2_with (first
  | (refine wBox rfl 47 (.tmp 0) rfl fv rfl ?_;intro w1 g hb1 hx1 hg;obtain⟨c0,c1,c2,-,-,-,-,c101,-⟩:=HF.out _ _ hb1)
  | (go_at_call 108;(with_reducible refine (W1.out _).mono ?_);rintro e w2 ⟨rfl,rfl⟩)
  | (go_at_call 108;(with_reducible refine (W2.out _).mono ?_);rintro e w2 ⟨rfl,rfl⟩)
  | (go_at_call 108;(with_reducible refine (W3.out _).mono ?_);rintro e w2 ⟨rfl,rfl⟩))
 go_ret;exact⟨rfl,hx1⟩
def fcheck_nc (wd hi pt ev:Int) (qs:List Int) (t1 t2:List Value) (sd:Value) (w:World) (hq:qs.length=64) (h1:t1.length=17) (h2:t2.length=17) (k1:inB wd 1 64=true) (k2:inB hi 1 64=true) (p1:(pt !=1)=true) (p2:(pt !=3)=true) :
 Calls prog 50 #[.agg (xG wd hi pt qs t1 t2 ev sd).toArray] w λe w'=>e=.returned (.int .i64 1)∧Ext w w':=by
 have HF:=zA (λW g (hb:Blk W g 47 (xG wd hi pt qs t1 t2 ev sd).toArray)=>zBX hb hq h1 h2);have W1:=zA (λW=>qA wd 1 64 W);have W2:=zA (λW=>qA hi 1 64 W);have W3:=zA (λW=>qA ev 0 100 W);generalize (xG wd hi pt qs t1 t2 ev sd).toArray=fv at *;generalize inB wd 1 64=b1 at *;generalize inB hi 1 64=b2 at *;generalize inB ev 0 100=b3 at *;subst k1 k2;go_enter func50,ntmps50
 go_wp2_with (first
  | (refine wBox rfl 47 (.tmp 0) rfl fv rfl ?_;intro w1 g hb1 hx1 hg;obtain⟨c0,c1,c2,-,-,-,-,c101,-⟩:=HF.out _ _ hb1)
  | (go_at_call 108;(with_reducible refine (W1.out _).mono ?_);rintro e w2 ⟨rfl,rfl⟩)
  | (go_at_call 108;(with_reducible refine (W2.out _).mono ?_);rintro e w2 ⟨rfl,rfl⟩)
  | (go_at_call 108;(with_reducible refine (W3.out _).mono ?_);rintro e w2 ⟨rfl,rfl⟩))
 go_ret;exact⟨rfl,hx1⟩
def fcheck_nd (wd hi ev:Int) (qs:List Int) (t1 t2:List Value) (sd:Value) (w:World) (hq:qs.length=64) (h1:t1.length=17) (h2:t2.length=17) (k1:inB wd 1 64=true) (k2:inB hi 1 64=true) (k3:inB ev 0 100=false) :
 Calls prog 50 #[.agg (xG wd hi 1 qs t1 t2 ev sd).toArray] w λe w'=>e=.returned (.int .i64 1)∧Ext w w':=by
 have HF:=zA (λW g (hb:Blk W g 47 (xG wd hi 1 qs t1 t2 ev sd).toArray)=>zBX hb hq h1 h2);have W1:=zA (λW=>qA wd 1 64 W);have W2:=zA (λW=>qA hi 1 64 W);have W3:=zA (λW=>qA ev 0 100 W);generalize (xG wd hi 1 qs t1 t2 ev sd).toArray=fv at *;generalize inB wd 1 64=b1 at *;generalize inB hi 1 64=b2 at *;generalize inB ev 0 100=b3 at *;subst k1 k2 k3;go_enter func50,ntmps50
 go_wp2_with (first
  | (refine wBox rfl 47 (.tmp 0) rfl fv rfl ?_;intro w1 g hb1 hx1 hg;obtain⟨c0,c1,c2,-,-,-,-,c101,-⟩:=HF.out _ _ hb1)
  | (go_at_call 108;(with_reducible refine (W1.out _).mono ?_);rintro e w2 ⟨rfl,rfl⟩)
  | (go_at_call 108;(with_reducible refine (W2.out _).mono ?_);rintro e w2 ⟨rfl,rfl⟩)
  | (go_at_call 108;(with_reducible refine (W3.out _).mono ?_);rintro e w2 ⟨rfl,rfl⟩))
 go_ret;exact⟨rfl,hx1⟩
def fcheck_ne (wd hi ev:Int) (qs:List Int) (t1 t2:List Value) (sd:Value) (w:World) (hq:qs.length=64) (h1:t1.length=17) (h2:t2.length=17) (k1:inB wd 1 64=true) (k2:inB hi 1 64=true) (k3:inB ev 0 100=false) :
 Calls prog 50 #[.agg (xG wd hi 3 qs t1 t2 ev sd).toArray] w λe w'=>e=.returned (.int .i64 1)∧Ext w w':=by
 have HF:=zA (λW g (hb:Blk W g 47 (xG wd hi 3 qs t1 t2 ev sd).toArray)=>zBX hb hq h1 h2);have W1:=zA (λW=>qA wd 1 64 W);have W2:=zA (λW=>qA hi 1 64 W);have W3:=zA (λW=>qA ev 0 100 W);generalize (xG wd hi 3 qs t1 t2 ev sd).toArray=fv at *;generalize inB wd 1 64=b1 at *;generalize inB hi 1 64=b2 at *;generalize inB ev 0 100=b3 at *;subst k1 k2 k3;go_enter func50,ntmps50
 go_wp2_with (first
  | (refine wBox rfl 47 (.tmp 0) rfl fv rfl ?_;intro w1 g hb1 hx1 hg;obtain⟨c0,c1,c2,-,-,-,-,c101,-⟩:=HF.out _ _ hb1)
  | (go_at_call 108;(with_reducible refine (W1.out _).mono ?_);rintro e w2 ⟨rfl,rfl⟩)
  | (go_at_call 108;(with_reducible refine (W2.out _).mono ?_);rintro e w2 ⟨rfl,rfl⟩)
  | (go_at_call 108;(with_reducible refine (W3.out _).mono ?_);rintro e w2 ⟨rfl,rfl⟩))
 go_ret;exact⟨rfl,hx1⟩
def fcheck_no (wd hi pt ev:Int) (qs:List Int) (t1 t2:List Value) (sd:Value) (w:World) (hq:qs.length=64) (h1:t1.length=17) (h2:t2.length=17) (h:zCa wd hi pt ev=false) :
 Calls prog 50 #[.agg (xG wd hi pt qs t1 t2 ev sd).toArray] w λe w'=>e=.returned (.int .i64 1)∧Ext w w':=by
 unfold zCa at h
 cases k1:inB wd 1 64 with
 | false=>exact fcheck_na wd hi pt ev qs t1 t2 sd w hq h1 h2 k1
 | true =>
   cases k2:inB hi 1 64 with
   | false=>exact fcheck_nb wd hi pt ev qs t1 t2 sd w hq h1 h2 k1 k2
   | true =>
     by_cases p1:pt=1
     ·subst p1
      cases k3:inB ev 0 100 with
      | false=>exact fcheck_nd wd hi ev qs t1 t2 sd w hq h1 h2 k1 k2 k3
      | true=>rw[k1,k2,k3] at h;cases h
     by_cases p3:pt=3
     ·subst p3
      cases k3:inB ev 0 100 with
      | false=>exact fcheck_ne wd hi ev qs t1 t2 sd w hq h1 h2 k1 k2 k3
      | true=>rw[k1,k2,k3] at h;cases h
     exact fcheck_nc wd hi pt ev qs t1 t2 sd w hq h1 h2 k1 k2 (by simpa using p1) (by simpa using p3)
def fcheck_yf (pt:Int) (hpt:pt=1∨pt=3) (wd hi ev:Int) (qs:List Int) (t1 t2:List Value) (A:Option Addr) (n c:Nat) (z1 z2:Int) (w:World) (hq:qs.length=64) (h1:t1.length=17) (h2:t2.length=17)
 (k1:inB wd 1 64=true) (k2:inB hi 1 64=true) (k3:inB ev 0 100=true) (kq:zR qs 1 255=false) :
 Calls prog 50 #[.agg (xG wd hi pt qs t1 t2 ev (.slice A n c)).toArray] w λe w'=>e=.returned (.int .i64 (1))∧Ext w w':=by
 have HF:=zA (λW g (hb:Blk W g 47 (xG wd hi pt qs t1 t2 ev (.slice A n c)).toArray)=>zBX hb hq h1 h2);have W1:=zA (λW=>qA wd 1 64 W);have W2:=zA (λW=>qA hi 1 64 W);have W3:=zA (λW=>qA ev 0 100 W);have HQ:Hid (∀W,Calls prog 15 #[.agg (ints qs).toArray] W λe w'=>e=.returned (.int .i64 1)∧Ext W w'):=zA (λW=>by have h:=zDK qs W hq;rw[kq] at h;exact h);clear kq;have hql:=zA ((yI qs).trans hq);have hl1:=zA h1;have hl2:=zA h2;clear hq h1 h2;generalize (xG wd hi pt qs t1 t2 ev (.slice A n c)).toArray=fv at *;generalize inB wd 1 64=b1 at *;generalize inB hi 1 64=b2 at *;generalize inB ev 0 100=b3 at *;subst k1 k2 k3;rcases hpt with rfl | rfl
 all_goals
  go_enter func50,ntmps50
  go_wp2_with (first
   | (refine wBox rfl 47 (.tmp 0) rfl fv rfl ?_;intro w1 g hb1 hx1 hg;have hf1:=HF.out _ _ hb1;have c0:=hf1.c0;have c1:=hf1.c1;have c2:=hf1.c2;have c101:=hf1.c101)
   | (go_at_call 108;(with_reducible refine (W1.out _).mono ?_);rintro e w2 ⟨rfl,rfl⟩)
   | (go_at_call 108;(with_reducible refine (W2.out _).mono ?_);rintro e w2 ⟨rfl,rfl⟩)
   | (go_at_call 108;(with_reducible refine (W3.out _).mono ?_);rintro e w2 ⟨rfl,rfl⟩)
   | (refine wpList_load_mid rfl 33 (.tmp 33) rfl g 3 rfl (ints qs) _ hf1.q underlying33 rfl (by rw[hql.out];exact zJ) ?_)
   | (go_at_call 15;(with_reducible refine (HQ.out _).mono ?_);rintro e w2 ⟨rfl,hx2⟩;have hb2:=hb1.ext hx2;have hf2:=HF.out _ _ hb2))
  go_ret;exact⟨rfl,hx1.trans hx2⟩
def fcheck_yt (pt:Int) (hpt:pt=1∨pt=3) (wd hi ev:Int) (qs:List Int) (t1 t2:List Value) (A:Option Addr) (n c:Nat) (z1 z2:Int) (w:World) (hq:qs.length=64) (h1:t1.length=17) (h2:t2.length=17)
 (k1:inB wd 1 64=true) (k2:inB hi 1 64=true) (k3:inB ev 0 100=true) (kq:zR qs 1 255=true) (o1:t1.toArray.all (·.oneCell')=true) (o2:t2.toArray.all (·.oneCell')=true)
 (C1:∀W,Ext w W→Calls prog 102 #[.agg t1.toArray] W λe W'=>e=.returned (.int .i64 z1)∧Ext W W')
 (C2:∀W,Ext w W→Calls prog 102 #[.agg t2.toArray] W λe W'=>e=.returned (.int .i64 z2)∧Ext W W') :
 Calls prog 50 #[.agg (xG wd hi pt qs t1 t2 ev (.slice A n c)).toArray] w λe w'=>e=.returned (.int .i64 (if z1=0 then (if z2=0 then (if 90000<n then 2 else 0) else z2) else z1))∧Ext w w':=by
 have HF:=zA (λW g (hb:Blk W g 47 (xG wd hi pt qs t1 t2 ev (.slice A n c)).toArray)=>zBX hb hq h1 h2);have W1:=zA (λW=>qA wd 1 64 W);have W2:=zA (λW=>qA hi 1 64 W);have W3:=zA (λW=>qA ev 0 100 W);have HQ:Hid (∀W,Calls prog 15 #[.agg (ints qs).toArray] W λe w'=>e=.returned (.int .i64 0)∧Ext W w'):=zA (λW=>by have h:=zDK qs W hq;rw[kq] at h;exact h);clear kq;have hql:=zA ((yI qs).trans hq);have hl1:=zA h1;have hl2:=zA h2;have HB2:=zA (zHJ t1 t2 h1 h2);have HRT:=zA (λW g (hb:Blk W g 42 (t1++t2).toArray)=>zAL h1 hb);have hs1:Hid (t1.toArray.size=17):=zA (by simpa using h1);have hs2:Hid (t2.toArray.size=17):=zA (by simpa using h2);have hz17:Hid ((ints (List.replicate 16 0)++[Value.slice none 0 0]).toArray.size=17):=zA (by simp[ints]);have hl3:Hid ((t1++t2).length=34):=zA (by simp[h1,h2]);have HO1:=zA o1;have HO2:=zA o2;have HC1:=zA C1;have HC2:=zA C2;clear o1 o2 C1 C2;generalize hR:(if z1=0 then (if z2=0 then (if 90000<n then (2:Int) else 0) else z2) else z1)=R;have HR:=zA hR;clear hR;clear hq h1 h2;generalize (xG wd hi pt qs t1 t2 ev (.slice A n c)).toArray=fv at *;generalize inB wd 1 64=b1 at *;generalize inB hi 1 64=b2 at *;generalize inB ev 0 100=b3 at *;subst k1 k2 k3;rcases hpt with rfl | rfl
 all_goals
  go_enter func50,ntmps50
  go_wp2_with (first
   | (refine wBox rfl 47 (.tmp 0) rfl fv rfl ?_;intro w1 g hb1 hx1 hg;have hf1:=HF.out _ _ hb1;have c0:=hf1.c0;have c1:=hf1.c1;have c2:=hf1.c2;have c101:=hf1.c101)
   | (go_at_call 108;(with_reducible refine (W1.out _).mono ?_);rintro e w2 ⟨rfl,rfl⟩)
   | (go_at_call 108;(with_reducible refine (W2.out _).mono ?_);rintro e w2 ⟨rfl,rfl⟩)
   | (go_at_call 108;(with_reducible refine (W3.out _).mono ?_);rintro e w2 ⟨rfl,rfl⟩)
   | (refine wpList_load_mid rfl 33 (.tmp 33) rfl g 3 rfl (ints qs) _ hf1.q underlying33 rfl (by rw[hql.out];exact zJ) ?_)
   | (go_at_call 15;(with_reducible refine (HQ.out _).mono ?_);rintro e w2 ⟨rfl,hx2⟩;have hb2:=hb1.ext hx2;have hf2:=HF.out _ _ hb2)
   | (refine wpList_load_mid rfl 42 (.tmp 40) rfl g 67 rfl t1 _ hf2.ta underlying42 rfl (by rw[hl1.out];exact zX) ?_)
   | (refine wpList_load_mid rfl 42 (.tmp 43) rfl g 84 rfl t2 _ hf2.tb underlying42 rfl (by rw[hl2.out];exact zX) ?_)
   | (refine Go.Great.wpList_buildSliceTo rfl 115 42 2 _ rfl _ rfl (some 45) rfl underlying115 _ (by simp[Act.eval];exact HB2.out) ?_))
  have hbn0:=Blk.new w2 42 (t1++t2).toArray;have hb3:=hb2.alloc (.cells (t1++t2).toArray 42);have hx3:=(hx1.trans hx2).alloc (.cells (t1++t2).toArray 42);clear hb1 hb2 hf1 hf2 hx1 hx2 c0 c1 c2 c101
  go_loopw [47] (λi wr=>∃k:Nat,k≤2∧i=.int .i64 (k:Int)∧(1≤k→z1=0)∧(2≤k→z2=0)∧Blk wr g 47 fv∧Blk wr w2.heap.size 42 (t1++t2).toArray∧Ext w wr) (λi _=>2-(intOf i).toNat)
  case atStart=>exact⟨0,by omega,rfl,λh=>absurd h (by omega),λh=>absurd h (by omega),hb3,hbn0,hx3⟩
  case round =>
   clear hb3 hbn0 hx3;obtain⟨k,hk,rfl,e1,e2,hb,hbn,hx⟩:=hrel;rcases (by omega:k=0∨k=1∨k=2) with rfl | rfl | rfl
   ·have hr:=(HRT.out _ _ hbn).1
    by_cases hz:z1=0
    ·subst hz
     go_wp2_with (first
      | (refine wpList_load_mid rfl 42 (.tmp 49) rfl _ 0 rfl t1 _ hr underlying42 rfl (by rw[hl1.out];exact zX) ?_)
      | (refine wAlo' rfl (some 5) rfl 42 rfl _ zAW ?_;intro w4 ga hba4 hx4 hga)
      | (refine wStB rfl 42 (.tmp 5) (.tmp 50) rfl _ _ rfl rfl hba4 17 zX hs1.out hz17.out HO1.out ?_;intro w5 hba5 hg5;have hx5:=(hx.trans hx4).grown hg5 (by have:=hx.size;omega))
      | (refine wLdB rfl 42 (.tmp 5) rfl _ rfl hba5 _ underlying42 rfl 17 zX hs1.out ?_)
      | (go_at_call 102;(with_reducible refine (HC1.out _ hx5).mono ?_);rintro e w6 ⟨rfl,hx6⟩))
     go_roundw
     case rel=>exact⟨1,by omega,by go_num,by simp,λh=>absurd h (by omega),((hb.ext hx4).grown hg5 (by have:=hb.lt;simp;omega)).ext hx6,((hbn.ext hx4).grown hg5 (by have:=hbn.lt;simp;omega)).ext hx6,hx5.trans hx6⟩
     case measure=>simp[intOf]
    have hz1:(z1 !=0)=true:=by simpa using hz
    have HZ:=zA hz;clear hz
    go_wp2_with (first
     | (refine wpList_load_mid rfl 42 (.tmp 49) rfl _ 0 rfl t1 _ hr underlying42 rfl (by rw[hl1.out];exact zX) ?_)
     | (refine wAlo' rfl (some 5) rfl 42 rfl _ zAW ?_;intro w4 ga hba4 hx4 hga)
     | (refine wStB rfl 42 (.tmp 5) (.tmp 50) rfl _ _ rfl rfl hba4 17 zX hs1.out hz17.out HO1.out ?_;intro w5 hba5 hg5;have hx5:=(hx.trans hx4).grown hg5 (by have:=hx.size;omega))
     | (refine wLdB rfl 42 (.tmp 5) rfl _ rfl hba5 _ underlying42 rfl 17 zX hs1.out ?_)
     | (go_at_call 102;(with_reducible refine (HC1.out _ hx5).mono ?_);rintro e w6 ⟨rfl,hx6⟩))
    go_ret;exact⟨by rw[←HR.out];simp[HZ.out],hx5.trans hx6⟩
   ·have hr:=(HRT.out _ _ hbn).2
    by_cases hz:z2=0
    ·subst hz
     go_wp2_with (first
      | (refine wpList_load_mid rfl 42 (.tmp 49) rfl _ 17 rfl t2 _ hr underlying42 rfl (by rw[hl2.out];exact zX) ?_)
      | (refine wAlo' rfl (some 5) rfl 42 rfl _ zAW ?_;intro w4 ga hba4 hx4 hga)
      | (refine wStB rfl 42 (.tmp 5) (.tmp 50) rfl _ _ rfl rfl hba4 17 zX hs2.out hz17.out HO2.out ?_;intro w5 hba5 hg5;have hx5:=(hx.trans hx4).grown hg5 (by have:=hx.size;omega))
      | (refine wLdB rfl 42 (.tmp 5) rfl _ rfl hba5 _ underlying42 rfl 17 zX hs2.out ?_)
      | (go_at_call 102;(with_reducible refine (HC2.out _ hx5).mono ?_);rintro e w6 ⟨rfl,hx6⟩))
     go_roundw
     case rel=>exact⟨2,by omega,by go_num,λ_=>e1 (by omega),by simp,((hb.ext hx4).grown hg5 (by have:=hb.lt;simp;omega)).ext hx6,((hbn.ext hx4).grown hg5 (by have:=hbn.lt;simp;omega)).ext hx6,hx5.trans hx6⟩
     case measure=>simp[intOf]
    have hz1:(z2 !=0)=true:=by simpa using hz
    have HZ:=zA hz;clear hz
    go_wp2_with (first
     | (refine wpList_load_mid rfl 42 (.tmp 49) rfl _ 17 rfl t2 _ hr underlying42 rfl (by rw[hl2.out];exact zX) ?_)
     | (refine wAlo' rfl (some 5) rfl 42 rfl _ zAW ?_;intro w4 ga hba4 hx4 hga)
     | (refine wStB rfl 42 (.tmp 5) (.tmp 50) rfl _ _ rfl rfl hba4 17 zX hs2.out hz17.out HO2.out ?_;intro w5 hba5 hg5;have hx5:=(hx.trans hx4).grown hg5 (by have:=hx.size;omega))
     | (refine wLdB rfl 42 (.tmp 5) rfl _ rfl hba5 _ underlying42 rfl 17 zX hs2.out ?_)
     | (go_at_call 102;(with_reducible refine (HC2.out _ hx5).mono ?_);rintro e w6 ⟨rfl,hx6⟩))
    go_ret;exact⟨by rw[←HR.out];simp[HZ.out,e1 (by omega)],hx5.trans hx6⟩
   have c102:=(HF.out _ _ hb).c102;have Z1:=zA (e1 (by omega));have Z2:=zA (e2 (by omega));clear e1 e2
   by_cases hn:90000<n
   ·have hn':decide ((90000:Int)<(n:Int))=true:=by simp;omega
    go_wp2_with fail;go_ret;have h2:R=2:=by rw[←HR.out,if_pos Z1.out,if_pos Z2.out,if_pos hn]
    subst h2;exact⟨rfl,hx⟩
   have hn':decide ((90000:Int)<(n:Int))=false:=by simp;omega
   go_wp2_with fail;go_ret;have h2:R=0:=by rw[←HR.out,if_pos Z1.out,if_pos Z2.out,if_neg hn]
   subst h2;exact⟨rfl,hx⟩
def zHy (cs:List Int) (sl:Value) (h:∃A n c,sl=.slice A n c):(zV cs sl).toArray.all (·.oneCell')=true:=by
 obtain⟨A,n,c,rfl⟩:=h;refine all_oneCell_toArray λv hv=> ?_
 unfold zV at hv;rcases wD3.1 hv with hv | hv
 ·obtain⟨z,-,rfl⟩:=wD2.1 hv;rfl
 rw[wM5.1 hv];rfl
def zHu {wd hi pt ev:Int} (h:zCa wd hi pt ev=true):inB wd 1 64=true∧inB hi 1 64=true∧inB ev 0 100=true∧(pt=1∨pt=3):=by unfold zCa at h;simp only[wA9,wD0,beq_iff_eq] at h;exact⟨h.1.1.1,h.1.1.2,h.2,h.1.2⟩
def zMa (wd hi pt ev:Int) (qs cs1 xs1:List Int) (s1:Value) (cs2 xs2:List Int) (s2:Value) (bs:List Nat) (sd:Value) (w:World) (hq:qs.length=64) (h1:cs1.length=16) (h2:cs2.length=16)
 (hs1:SL w 1 s1 xs1.length (ints xs1)) (hs2:SL w 1 s2 xs2.length (ints xs2)) (hsd:SL w 1 sd bs.length (zF bs)) :
 Calls prog 50 #[.agg (xG wd hi pt qs (zV cs1 s1) (zV cs2 s2) ev sd).toArray] w λe w'=>e=.returned (.int .i64 (zDI wd hi pt qs (zQ cs1 xs1) (zQ cs2 xs2) ev bs.length))∧Ext w w':=by
 have o1:=zHy cs1 s1 (let ⟨A,c,h,_⟩:=hs1;⟨A,_,c,h⟩);have o2:=zHy cs2 s2 (let ⟨A,c,h,_⟩:=hs2;⟨A,_,c,h⟩);obtain⟨A,c,rfl,-⟩:=hsd;have l1:=zU cs1 s1 h1;have l2:=zU cs2 s2 h2;unfold zDI
 cases ha:zCa wd hi pt ev with
 | false=>exact fcheck_no wd hi pt ev qs _ _ _ w hq l1 l2 ha
 | true =>
   obtain⟨k1,k2,k3,hp⟩:=zHu ha
   cases kq:zR qs 1 255 with
   | false =>
     exact fcheck_yf pt hp wd hi ev qs _ _ A _ c 0 0 w hq l1 l2 k1 k2 k3 kq
   | true =>
     exact fcheck_yt pt hp wd hi ev qs _ _ A _ c _ _ w hq l1 l2 k1 k2 k3 kq o1 o2 (λW hW=>zCJ cs1 xs1 s1 W h1 (hs1.ext hW)) (λW hW=>zCJ cs2 xs2 s2 W h2 (hs2.ext hW))
def jK (ns:List Nat):List Int:=ns.map λn:Nat=>(n:Int)
def zDb (ns:List Nat):(jK ns).length=ns.length:=by simp[jK]
def zNt {ns:List Nat} {k:Nat} (h:k<ns.length):(ints (jK ns))[k]? =some (.int .i64 ((ns[k]:Nat):Int)):=by simp[ints,jK,h]
def zCD (cn xn:List Nat):List Nat:=cn.flatMap (λn=>[n/256,n%256])++xn
def zGj (wd hi pt ev:Nat) (qn cn1 xn1 cn2 xn2 bs:List Nat):List Nat:=[77,90,wd,hi,pt,ev]++qn++(zCD cn1 xn1++zCD cn2 xn2)++bs
def flat2_len (cn:List Nat):(cn.flatMap (λn=>[n/256,n%256])).length=2*cn.length:=by
 induction cn with
 | nil=>rfl
 | cons n cn ih=>simp only[wG2,wE2,ih,wA8,wJ0];omega
def zLv (cn xn:List Nat):(zCD cn xn).length=2*cn.length+xn.length:=by rw[zCD,wE2,flat2_len]
def zUO (cn:List Nat) (k:Nat) (h:k<cn.length):(cn.take (k+1)).flatMap (λn=>[n/256,n%256])=(cn.take k).flatMap (λn=>[n/256,n%256])++[cn[k]/256,cn[k]%256]:=by rw[wC1 h,wP1];rfl
def u8_wrap (n:Nat):IntKind.u8.wrap (n:Int)=((n%256:Nat):Int):=by simp[IntKind.wrap,IntKind.signed,IntKind.bits]
def zMp (n:Nat) (W:World):(convert 3 5 (.int .i64 (n:Int))).run prog W=.ok (.int .u8 ((n%256:Nat):Int)) W:=by simp[convert,run_underlying underlying3,run_underlying underlying5,Conv.intToInt,u8_wrap]
section
variable {o:Oper} {a:Act}
def zDe {x:Operand} (ho:o.op=.convert 3 5 x) {n:Nat} (hx:a.eval x=.int .i64 (n:Int)) (h:n<256) (w:World):(execOp a.eval o).run prog w=.ok (.value (.int .u8 (n:Int))) w:=by simp only[execOp,ho,hx,Sem.run_bind,zMp,Result.andThen_ok,Sem.run_pure,wE6 h]
def zPV {x:Operand} (ho:o.op=.convert 3 5 x) {n:Nat} (hx:a.eval x=.int .i64 (n:Int)) (w:World):(execOp a.eval o).run prog w=.ok (.value (.int .u8 ((n%256:Nat):Int))) w:=by simp only[execOp,ho,hx,Sem.run_bind,zMp,Result.andThen_ok,Sem.run_pure]
def ex_shr8 {x y:Operand} {t2:TypeId} (ho:o.op=.binOp .shr 3 x y t2) {n:Nat} (hx:a.eval x=.int .i64 (n:Int)) (hy:a.eval y=.int .u64 8) (w:World):(execOp a.eval o).run prog w=.ok (.value (.int .i64 ((n/256:Nat):Int))) w:=by
 have e:(n:Int) >>>(8:Nat)=((n/256:Nat):Int):=by rw[wT0];rfl
 have h8:IntKind.i64.bits=64:=rfl;simp[execOp,ho,hx,hy,eqGuard,binOp,Op.shift,e,h8];exact wT1 _ (by decide)
def ex_idx {t e:TypeId} {m:Nat} (ht:prog.underlying t=some (.array m e)) {k:IntKind} (he:prog.underlying e=some (.int k)) (hs:(prog.info? e).map (·.size)=some 1) {x ix:Operand} (ho:o.op=.index t x ix) {cs:Array Value} {i:Nat} {u:Value} (hx:a.eval x=.agg cs) (hi:a.eval ix=.int .i64 (i:Int)) (h:i<m) (hu:cs[i]? =some u) (w:World) :
 (execOp a.eval o).run prog w=.ok (.value u) w:=by simp only[execOp,ho,hx,hi,Sem.run_bind,zCb t e m cs i u ht k he hs h hu w,Result.andThen_ok,Sem.run_pure]
end
def zUE (w:World) (T:TypeId) (o:Obj):zAg ((w.alloc (.cells #[.int .u8 77,.int .u8 90] T (2,3))).alloc o) ⟨w.heap.size,0,none⟩ (zF [77,90]):=by
 intro j u hu;have hj:j=0∨j=1:=by have:=(wB7.1 hu).1;simp[zF] at this;omega
 rw[zBe,((Ext.refl (w.alloc (.cells #[.int .u8 77,.int .u8 90] T (2,3)))).alloc o).cell (p:=⟨w.heap.size,0+j,none⟩) (by simp),World.cell?_alloc_mark];rcases hj with rfl | rfl<;>simpa [zF] using hu
def zHT (w:World) (T:TypeId) (cs:List Value) (n:Nat) (hn:cs.length=n) (h:n≤1000):SL (w.alloc (.cells cs.toArray T)) 1 (.slice (some ⟨w.heap.size,0,none⟩) n n) n cs:=by have:=(Blk.new w T cs.toArray).sl (size:=1) (n:=n) (c:=n) (by simp[hn]) (by omega) (by omega);simpa using this
def cells_sl' (w:World) (T:TypeId) (cs:List Value) (n N:Nat) (hN:w.heap.size=N) (hn:cs.length=n) (h:n≤1000):SL (w.alloc (.cells cs.toArray T)) 1 (.slice (some ⟨N,0,none⟩) n n) n cs:=by subst hN;exact zHT w T cs n hn h
def zFk {w:World} {g base size n:Nat} {T e:TypeId} {cs:Array Value} {v:Value} {xs:List Value} (h:Blk w g T cs) (ho:w.ownsRow base e size v n xs) (hne:T≠e):some g≠v.ownBlock:=by
 obtain⟨-,hh⟩:=ho;rcases hh with ⟨rfl,-⟩ | ⟨k,cap,cur,rfl,-,hg,-⟩
 ·simp[Value.ownBlock]
 intro e1;have:g=k:=by simpa [Value.ownBlock] using e1
 subst this;exact (h.ne_ (g':=g) (cs':=cur) hg hne) rfl
def ext_own {a w w':World} {e size n:Nat} {v:Value} {xs:List Value} (hx:Ext a w) (ho:w.ownsRow a.heap.size e size v n xs) (hg:w.grownBy w' v.ownBlock):Ext a w' :=
 Below.grown hx hg hx.size (λk hk=>(ho.lt k hk).1)
def zLm {a w w':World} {e size n:Nat} {v:Value} {xs:List Value} {o:Obj} (hx:Ext a w) (ho:w.ownsRow a.heap.size e size v n xs) (hg:(w.alloc o).grownBy w' v.ownBlock):Ext a w' :=
 ext_own (hx.alloc o) (ho.alloc o) hg
def zDY (l:List Nat):∀u∈zF l,u.oneCell'=true:=by intro u hu;obtain⟨z,-,rfl⟩:=wD2.1 hu;rfl
def zDF (a b:List Nat):zF (a++b)=zF a++zF b:=by simp[zF]
def own_base {w:World} {B B':Nat} {e:TypeId} {size n:Nat} {v:Value} {xs:List Value} (h:w.ownsRow B e size v n xs) (hb:B'≤B):w.ownsRow B' e size v n xs:=by
 obtain⟨hl,hh⟩:=h;refine⟨hl, ?_⟩;rcases hh with ⟨rfl,rfl⟩ | ⟨g,cap,cur,rfl,h1,h2⟩
 ·exact .inl ⟨rfl,rfl⟩
 exact .inr ⟨g,cap,cur,rfl,by omega,h2⟩
def elt_info (P:Program) {t e:TypeId} {size bytes:Nat} (h:Elt P t e size bytes):∃i z,P.info? e=some i∧i.zero=some z∧i.size=size∧i.bytes=bytes∧z.cells.size=size:=by
 obtain⟨-,hi,-⟩:=h
 cases hq:P.info? e with
 | none=>simp[hq] at hi
 | some i =>
   cases hz:i.zero with
   | none=>simp[hq,hz] at hi
   | some z =>
     simp[hq,hz] at hi;exact⟨i,z,rfl,hz,hi.2.1,hi.2.2,hi.1⟩
def zKh {P:Program} {w:World} {ops:Array Oper} {rest:List Oper} {o:Oper} {a:Act} {Q:Exit→Act→World→Prop} {t e:TypeId} {size bytes:Nat} (he:Elt P t e size bytes) (hg:o.guard=none) (s x:Operand)
 (ho:o.op=.call { callee:=.builtin .append,args:= #[s,x],argTypes:= #[t,t] }) (n:Nat) (b:Addr) (olds:List Value) (hs:a.eval s=.slice (some b) n n) (hlo:olds.length=n*size) (holds:zAg w b olds)
 (u:Value) (m:Nat) (news:List Value) (hx:a.eval x=u) (hr:SL w size u m news) (h1:∀u∈news,u.oneCell'=true) (hm:0<m) (h63:n+m≤9223372036854775807) (hbytes:(n+m)*bytes≤140737488355328)
 (h:∀v' w',w'.ownsRow w.heap.size e size v' (n+m) (olds++news)→Ext w w'→wpList P ops Q rest (a.put o.dst v') w'):wpList P ops Q (o::rest) a w:=by obtain⟨i,z,hi,hz,hsz,hby,hzs⟩:=elt_info P he;obtain⟨A,c,rfl,-,-,hl,hc⟩:=hr;obtain⟨ad,rfl,-,hcc⟩:=hc hm;refine wpList_append_grows w hg s x t ho e i z size bytes he.ht hi hz hsz hby hzs he.hsz (some b) n n olds hs (λh=>by cases h) hlo (λb' hb j u hu=>by injection hb with hb;subst hb;exact holds j u hu) ad m c news hx hl hcc h1 (by omega) (by unfold maxLen;omega) hbytes (λv' w' h2 h3=>h v' w' h2 ?_);exact (Below.refl _ w).grown h3 (wA5 _) (λk hk=>by cases hk)
section
open Go.RowKit Go.Shelf
def finPlanes (q X:List Int) (a b p:Nat):(List.finRange p).map (λx:Fin p=>zAB q X a b x.1)=zBS q X a b p:=by
 unfold zBS;apply wL7
 ·simp
 intro i h1 h2;simp
def SL.recap {w:World} {sz n c c':Nat} {A:Option Addr} {xs:List Value} (h:SL w sz (.slice A n c) n xs) (h1:n≤c') (h2:c'≤9223372036854775807):SL w sz (.slice A n c') n xs:=by
 obtain⟨A',d,e,-,-,h5,h6⟩:=h;injection e with e1 e2 e3
 subst e1;exact⟨A,c',rfl,h1,h2,h5,h6⟩
def part_sl {w:World} {ad:Addr} {m c n p k:Nat} {X:List Int} (hs:SL w 64 (.slice (some ad) m c) m (ints X)) (hm:m=p*n) (hk:k<p) (hn:1≤n) (hn2:n≤100000) (hcm:m≤c) (hX:X.length=m*64) :
 SL w 64 (.slice (some (ad.add (k*n*64))) n n) n (ints (sect X n k))∧(sect X n k).length=n*64:=by
 have hlm:k*n+n≤m:=by
  rw[hm];have:=wO9 n (show k+1≤p by omega);rw[wE3] at this;omega
 have:=hs.sect rfl hlm;unfold zDt at this;rw[if_neg (by omega)] at this;exact⟨this.recap (wA5 _) (by omega),sect_len hX rfl hlm⟩
def ex_ixB {o:Oper} {a:Act} {x ix:Operand} (ho:o.op=.indexAddr 25 x ix) {g n c i:Nat} (hx:a.eval x=.slice (some ⟨g,0,none⟩) n c) (hi:a.eval ix=.int .i64 (i:Int)) (h:i<n) (w:World) :
 (execOp a.eval o).run prog w=.ok (.value (.pointer (some ⟨g,i*64,none⟩))) w:=by
 have:=zFs (m:=0) underlying25 zJ ho hx hi h w
 rwa [wB2] at this
def Upd.mono_ {S S':Nat→Prop} {w w':World} (h:Upd S w w') (hS:∀x,S x→S' x):Upd S' w w':=⟨h.os,h.tape,h.output,h.size,λb hb hn=>h.block b hb (λq=>hn (hS b q))⟩
def rows_kept {X Y:World} {row:Option Nat} {A:Option Addr} {n c B:Nat} {L:List (List Int)} (h:RowsF X B A n c L) (hg:X.grownBy Y row) (hr:∀r,row=some r→∃o:Obj,X.heap[r]? =some o∧o.isCells=false):RowsF Y B A n c L:=by obtain⟨vs,h1,h2,h4,h3⟩:=h;refine⟨vs,zNs h1 hg hr,h2,h4,λk l hl=> ?_⟩;obtain⟨D,d,e,hs,hd⟩:=h3 k l hl;exact⟨D,d,e,zNs hs hg hr,hd⟩
def zeroLL:(prog.info? 29).bind (·.zero)=some (.slice none 0 0):=by kernel_rfl
def zQL:uN prog 165:=zAd func165 (by kernel_rfl) rfl
attribute [local irreducible] zAp sect shB zAB zBS zAh
attribute [local go_sem] Oper.semAt_some
set_option maxRecDepth 100000 in
def zPD (F:FC) (hF:F.shaped) (s1 s2 sd:Value) (a b p:Nat) (hw:F.wd=a) (hh:F.hi=b) (hp:F.pt=p) (a1:1≤a) (a2:a≤64) (b1:1≤b) (b2:b≤64) (hp13:p=1∨p=3) (A:Option Addr) (m c:Nat) (X:List Int) (hm:m=p*zT a b) (w:World) (hs:SL w 64 (.slice A m c) m (ints X)) :
 Calls prog 57 #[.agg (F.cells s1 s2 sd),.slice A m c] w (PicIs a b (zAh F.qs X a b p) w):=by
 have HF:=zA (λW g (h:Blk W g 47 (F.cells s1 s2 sd))=>zBX h hF.1 (zU _ _ hF.2.1) (zU _ _ hF.2.2));have hts:=zA (FC.size hF s1 s2 sd);have hq:=hF.1;rw[hw,hh,hp] at HF;generalize F.qs=q at *;generalize F.cells s1 s2 sd=fv at *;have hcm:m≤c:=by obtain⟨_,_,e,h1,_⟩:=hs;injection e with _ e2 e3;omega
 have hXl:X.length=m*64:=by obtain⟨_,_,_,_,_,h1,_⟩:=hs;simpa [ints] using h1
 have HJ:=zA (λk v W h=>join_show q X a b a1 a2 b1 b2 k v W h);have HT:=zA (λW B hB A n c h=>turn_show q X a b p a2 b2 hp13 W B hB A n c h);unfold TurnF at HT;have HU:Hid (∀(P:List Int) W,P.length=64→Calls prog 112 #[.agg (bv P),.agg (ints q).toArray] W λe w'=>e=.returned (.tuple #[.agg (bv (vN upF P q 2047).1),.int .i64 (vN upF P q 2047).2])∧Ext W w'):=zA (λP W h=>up_any P q W h hq);have HWV:=zA (λ(P:List Int) W (h:P.length=64)=>zRA P W h);have HPF:Hid (∀PL:Nat→List Int,zAB q X a b=PL→(List.finRange p).map (λx:Fin p=>PL x.1)=zBS q X a b p):=zA (λPL h=>by rw[←h];exact finPlanes q X a b p);have HL:=zA (λk=>zFP q X a b k);have hab:a*b≤4096:=wO6 a2 b2;have hn1:1≤zT a b:=cutN_pos a1 b1;have hn64:=zBx a2 b2;have hp3:p≤3:=by omega
 have HQ64:=zA hq;have hqs:(ints q).length=64:=by rw[yI,hq]
 generalize zAh q X a b p=SZ at *;generalize hPZ:zBS q X a b p=PZ at *;have HPF:=zA (HPF.out _ rfl);generalize hPl:zAB q X a b=PL at *;generalize zT a b=n at *;have hpn:p*n≤192:=wJ1 (wO6 hp3 hn64) (by omega);have HMN:=zA hm;have hm192:m≤192:=by omega
 clear hm;have hpn0:(yX a b (.slice none 0 0)).size=3:=rfl;have HPB:=zA (builtPicS a b);have HP1:=zA (λA n c=>zBQ a b A n c);have HPC:=zA (λ(W:World) g v (h:Blk W g 31 (yX a b v))=>zAM h);have HPSZ:=zA (λv=>jB a b v);have HPSET:=zA (λu v=>picV_set a b u v);have HZP:=zDc;have hz0s:Hid ((Value.agg (yX 0 0 (.slice none 0 0))).cells.size=3):=zA rfl;obtain⟨pz,hpz⟩:∃pz,yX 0 0 (.slice none 0 0)=pz:=⟨_,rfl⟩
 rw[hpz] at HZP hz0s;obtain⟨pic,hpic⟩:∃pic:Value→Array Value,pic=yX a b:=⟨_,rfl⟩
 have HRET:Hid (∀W B k d,RowsF W w.heap.size B k d SZ→Ext w W→PicIs a b SZ w (.returned (.agg (pic (.slice B k d)))) W):=zA (λW B k d h hx=>⟨B,k,d,by rw[hpic],h,hx⟩);rw[←hpic] at hpn0 HPB HP1 HPC HPSZ HPSET;clear hw hh hp hF hpz hpic hPZ hPl;have hm1:1≤m:=by rw[HMN.out];exact wO6 (show 1≤p by omega) hn1
 have hsub0:=hs
 obtain⟨ad,hA,hadb⟩:∃ad,A=some ad∧ad.block<w.heap.size:=by
  obtain⟨A',c',e,_,_,_,h4⟩:=hs;injection e with e1 e2 e3
  subst e1;obtain⟨ad,ea,hb,-⟩:=h4 (by omega);exact⟨ad,ea,hb⟩
 subst hA;clear hsub0;have HDV:Hid (m/p=n):=zA (by rw[HMN.out];exact Nat.mul_div_cancel_left n (by omega));have HCH:=zA (λW=>chunk_any (some ad) m c n hn1 W);refine (callsIn_wide (n:=8)).1 ?_;refine callsIn_of_wp_marks func57 rfl trivial ?_ rfl;simp only[ntmps57,List.size_toArray,wA8,wJ0,Nat.reduceAdd,Nat.reduceSub,Array.replicate_succ,Array.replicate_zero,List.push_toArray,wT5,wG4,wE1];refine wpIn_wide.2 ?_
 go_wp2_with (first
  | ((with_reducible apply gS 2);refine wBox rfl 47 (.tmp 0) rfl fv rfl ?_;intro w1 gf hb1 hx1 hgf;have hf1:=HF.out _ _ hb1)
  | ((with_reducible apply gS 4);refine wAlo' rfl (some 4) rfl 31 rfl _ HZP ?_;intro w2 gr hr2 hx2 hgr;have hb2:=hb1.ext hx2;have hf2:=HF.out _ _ hb2;have hx12:=hx1.trans hx2)
  | ((with_reducible apply gS 16);refine yU rfl (.int .i64 (a:Int)) (zS rfl rfl hf2.c0) ?_)
  | ((with_reducible apply gS 18);refine yU rfl (.int .i64 (b:Int)) (zS rfl rfl hf2.c1) ?_)
  | ((with_reducible apply gS 19);refine wpList_buildTo rfl 31 _ rfl (some 19) rfl (pic (.slice none 0 0)) (by simp only[wI2,wG6,wG7];exact HPB.out) ?_)
  | ((with_reducible apply gS 5);refine wAlo' rfl (some 5) rfl 31 rfl _ HZP ?_;intro w3 gp hp3' hx3 hgp)
  | ((with_reducible apply gT 5 19);refine wStB rfl 31 (.tmp 5) (.tmp 19) rfl gp (pic (.slice none 0 0)) rfl rfl hp3' 3 qY hpn0 hz0s.out (HP1.out _ _ _) ?_;intro w4 hp4 hg4;have hx24:=hx3.grown hg4 hgp;have hb4:=hb2.ext hx24;have hr4:=hr2.ext hx24;have hx14:=hx12.trans hx24)
  | ((with_reducible apply gS 6);refine wAlo' rfl (some 6) rfl 29 rfl _ zeroLL ?_;intro w5 g6 hb65 hx5 hg6;have hb5:=hb4.ext hx5;have hr5:=hr4.ext hx5;have hp5:=hp4.ext hx5;have hf5:=HF.out _ _ hb5;have hx15:=hx14.trans hx5)
  | ((with_reducible apply gS 24);refine yU rfl (.int .i64 (p:Int)) (zS rfl rfl hf5.c2) ?_)
  | ((with_reducible apply gS 25);refine zB rfl (.int .i64 (n:Int)) (by rw[←HDV.out];exact zDf (i:=m) (d:=p) rfl rfl rfl (by omega) (by omega)) ?_)
  | (go_at_call 111;(with_reducible refine (HCH.out _).mono ?_);rintro e w6 ⟨g1,g2,rfl,hc16,hc26,hg1,hg2,hx6⟩;have hb6:=hb5.ext hx6;have hr6:=hr5.ext hx6;have hp6:=hp5.ext hx6;have hb66:=hb65.ext hx6;have hx16:=hx15.trans hx6))
 have hgp0:w.heap.size≤gp:=by have:=hx12.size;omega
 have hgr0:w.heap.size≤gr:=by have:=hx1.size;omega
 have hg60:w.heap.size≤g6:=by have:=hx14.size;omega
 have hgpB:gp<w5.heap.size:=hp5.lt;have hgfB:gf<w5.heap.size:=hb5.lt;have hgrB:gr<w5.heap.size:=hr5.lt;have hg6B:g6<w5.heap.size:=hb65.lt;have hgfp:gf≠gp:=by have:=hb2.lt;omega
 have hgrp:gr≠gp:=by have:=hr2.lt;omega
 have hgf6:gf≠g6:=by have:=hb4.lt;omega
 have hgr6:gr≠g6:=by have:=hr4.lt;omega
 have hgp6:gp≠g6:=by have:=hp4.lt;omega
 have h56:w5.heap.size≤w6.heap.size:=hx6.size;have hgf0:w.heap.size≤gf:=hgf;obtain⟨I,hIe⟩:∃I:List (Fin p)→World→Prop,I=λpre W=>∃v,PartsAt W w5.heap.size v (pre.map λx=>PL x.1)∧Blk W g6 29 #[v]∧Blk W gf 47 fv∧Blk W gp 31 (pic (.slice none 0 0))∧Blk W gr 31 pz∧Blk W g1 25 #[.slice (some ad) m c]∧Blk W g2 3 #[.int .i64 (n:Int)]∧Ext w W∧w6.heap.size≤W.heap.size:=⟨_,rfl⟩
 have HIe:=zA hIe;clear hIe
 have hI:OwnFrom w6.heap.size I:=by
  rw[HIe.out];rintro s U V row ⟨v,q1,q2,q3,q4,q5,q6,q7,q8,q9⟩ hg hr;have hr':∀r,row=some r→∃o:Obj,U.heap[r]? =some o∧o.isCells=false:=λr e=>(hr r e).2
  exact⟨v,zUo q1 hg hr',zEQ q2 hg hr',zEQ q3 hg hr',zEQ q4 hg hr',zEQ q5 hg hr',zEQ q6 hg hr',zEQ q7 hg hr',Below.grown q8 hg q8.size (λy hy=>by have:=(hr y hy).1;have:=hx16.size;omega),wJ1 q9 hg.size⟩
 have hI0:I [] w6:=by
  rw[HIe.out];exact⟨.slice none 0 0,PartsAt.nil _ _,hb66,hb6,hp6,hr6,hc16,hc26,hx16,wA5 _⟩
 have hKb:∀(W:World) (l:Nat) (o o':Obj),w6.heap.size≤l→W.heap[l]? =some o→o.isCells=false→o.isWalk=false→KpC w.heap.size g1 g2 W (W.putObj l o'):=λW l o o' hl ho hc hw =>
  ⟨belowK_b hx16.size W l o o' hl ho hc hw,World.putObj_heap_other (by have:=hc16.lt;omega),World.putObj_heap_other (by have:=hc26.lt;omega)⟩
 refine range_one (n:=8) (p:=27) (q:=7) rfl zQL (enc:=λx:Fin p=>zGX ad n x.1) (zTD 7 g1 g2 w.heap.size ad m c n p hn1 HMN.out hcm (by omega) w6 hc16 hc26) (by omega) KpC.trans hKb (Below.refl _ _) I hI hI0 ?assign ?body ?done
 case assign =>
  intro l x W K hK;simp only[wJ8,wK0,wJ9] at hK ⊢
  gi_wp2
  exact hK
 case done =>
  intro D xs W hD hS hi hdef;subst hS;rw[HIe.out] at hi;obtain⟨v,hpa,hb6w,hbw,hpw,hrw,-,-,hxw,hszw⟩:=hi;rw[HPF.out] at hpa;obtain⟨PA,pc,rfl⟩:=hpa.form;generalize hnp:PZ.length=np at *;have hc6:W.cell? ⟨g6,0,none⟩=some (.slice PA np pc):=hb6w.cell 0;have HTZ:=zA (HT.out W w5.heap.size (by omega) PA np pc hpa);have hDlt:D<W.heap.size:=(wI9.1 hdef).1
  go_wp2_with (first
   | ((with_reducible apply gS 78);refine yU rfl (.slice PA np pc) (zFB rfl rfl hc6) ?_)
   | (go_at_call 38;(with_reducible refine HTZ.out.mono ?_);rintro e w16 ⟨TB,tk,td,rfl,hrows,hx16'⟩;have hp16:=hpw.ext hx16';have hr16:=hrw.ext hx16';have hdef16:=(hx16'.block D hDlt).trans hdef)
   | ((with_reducible apply gT 80 79);refine zMc rfl (.tmp 80) (.tmp 79) rfl gp 2 TB tk td rfl rfl hp16 (by rw[HPSZ.out];omega) ?_;have hU:=(Upd.refl (λx=>x=gp) w16).setCell (p:=⟨gp,2,none⟩) rfl (.slice TB tk td);have hpbz:=hp16.set_ 2 (.slice TB tk td);rw[HPSET.out] at hpbz;have hrz:=hU.blk hr16 (λe=>hgrp e);have hrows7:=hrows.upd hU (λx e=>by omega);have hx7:=(hxw.trans hx16').setCell (p:=⟨gp,2,none⟩) hgp0 (.slice TB tk td);have hdef17:=(hU.block D (by have:=hx16'.size;omega) (λe=>by omega)).trans hdef16;generalize w16.setCell ⟨gp,2,none⟩ (.slice TB tk td)=w7 at *)
   | ((with_reducible apply gS 81);refine wLdB rfl 31 (.tmp 5) rfl gp rfl hpbz _ underlying31 rfl 3 qY (HPSZ.out _) ?_)
   | ((with_reducible apply gT 4 81);refine wStB rfl 31 (.tmp 4) (.tmp 81) rfl gr (pic (.slice TB tk td)) rfl rfl hrz 3 qY (HPSZ.out _) hz0s.out (HP1.out _ _ _) ?_;intro w8 hb8 hg8;have hU8:=zM hg8;have hrows8:=hrows7.upd hU8 (λx e=>by injection e with e;omega);have hx8:=hx7.grown hg8 hgr0;have hdef18:=(hU8.block D (wI9.1 hdef17).1 (λe=>by injection e with e;omega)).trans hdef17))
  refine⟨by simp,.inl ⟨_,_,rfl,run_takeDeferred hdef18, ?_⟩⟩;have hUd:Upd (λx=>x=D) w8 (w8.putObj D (.deferred none)):=(zM (grownBy_putObj' w8 D (.deferred none))).mono_ (λx e=>by injection e with e;exact e.symm);have hb9:=hUd.blk hb8 (λe=>by omega);have hgd:∀r,some D=some r→∃o:Obj,w8.heap[r]? =some o∧o.isCells=false:=λr e=>by cases e;exact⟨_,hdef18,rfl⟩
  have hrows9:=rows_kept (hrows8.mono (show w.heap.size≤w5.heap.size by omega)) (grownBy_putObj' w8 D (.deferred none)) hgd;have hx9:=hUd.ext hx8 (λx e=>by rw[e];have:=hx16.size;omega);exact⟨_,results_cell_row rfl _ _ gr _ _ (0,0) _ rfl hb9 underlying31 rfl (by rw[HPSZ.out];exact qY),HRET.out _ _ _ _ hrows9 hx9⟩
 case body =>
  intro l pre x W hi hlt;simp only[wJ8,wK0,wJ9];rw[HIe.out] at hi;obtain⟨v,hpa,hb6w,hbw,hpw,hrw,hc1w,hc2w,hxw,hszw⟩:=hi;obtain⟨k,hkp⟩:=x;obtain⟨hsub,hYl⟩:=part_sl hs HMN.out hkp hn1 (by omega) hcm hXl;have HJk:=zA (HJ.out k);obtain⟨cd,hcd⟩:∃cd,ad.add (k*n*64)=cd:=⟨_,rfl⟩
  have hpv:zGX ad n k=.slice (some cd) n n:=by unfold zGX;rw[hcd]
  dsimp only;rw[hpv];rw[hcd] at hsub;have hsubH:=zA (hsub.ext hxw);generalize sect X n k=Y at *;clear hcd hpv hsub;refine wpIn_block ?_;refine wpIn_seq_k λK0 hK0=> ?_
  refine jZ (λ⟨_,_,h⟩=>h) (by rfl) ?_
  go_wp2_with (first
   | ((with_reducible apply gS 30);refine zBq rfl (some 30) rfl _ _ rfl n (by omega) rfl rfl ?_;intro w7 gB hbB hx7 hgB))
  have hbB0:Blk w7 gB 33 (bv (zAp q Y 0++List.replicate ((n-0)*64) 0)):=by unfold zAp;simpa using hbB
  refine wpIn_seq_k λK1 hK1=> ?_
  refine wpIn_seq_k λK2 hK2=> ?_
  refine jZ (λ⟨_,_,h⟩=>h) (by rfl) ?_;go_wp2_with fail;refine wpIn_block ?_
  gi_loopw [33] (λiv wr=>∃j:Nat,j≤n∧iv=.int .i64 (j:Int)∧Blk wr gB 33 (bv (zAp q Y j++List.replicate ((n-j)*64) 0))∧Ext W wr) (λiv _=>n-(intOf iv).toNat)
  case atStart=>exact⟨0,by omega,rfl,hbB0,hx7⟩
  case round =>
   clear hbB hbB0;obtain⟨j,hj,rfl,hbj,hxj⟩:=hrel;obtain⟨w0,rfl⟩:∃w0,w0=wr:=⟨_,rfl⟩
   by_cases hjn:j<n
   ·obtain⟨bd,hbd,hbb,hca⟩:=(hsubH.out.ext hxj).part hjn;have hca':=zSU hca;injection hbd with hbd
    subst hbd;have hpl:(qF Y j).length=64:=by unfold qF;rw[wF1,wE8,hYl];omega
    have HMS:Hid (zAp q Y (j+1)=zAp q Y j++shB (qF Y j) q):=zA (by rw[zAp]);have HSB:Hid (shB (qF Y j) q=zCZ (uB frC (vN upF (qF Y j) q 2047).1).1):=zA (by unfold shB;rfl);generalize qF Y j=P at *;have HUP:=zA (λW=>HU.out P W hpl);have hul:=zGY upF P q 2047 hpl HQ64.out;have HWP:=zA (λW=>HWV.out (vN upF P q 2047).1 W hul);have hwl:=zCl frC (vN upF P q 2047).1;generalize (uB frC (vN upF P q 2047).1).2=ew at *;generalize (uB frC (vN upF P q 2047).1).1=P3 at *;generalize (vN upF P q 2047).2=eu at *;generalize (vN upF P q 2047).1=P2 at *;rw[HSB.out] at HMS;clear hca HSB;have s1:=zA ((zK P).trans hpl);have s2:=zA ((zK P2).trans hul);have s3:=zA ((zK P3).trans hwl);have o1:=zA (xR P);have o2:=zA (xR P2);have o3:=zA (xR P3);have hipl:(ints P).length=64:=by rw[yI,hpl]
    have hzs:Hid ((Value.agg (bv xC)).cells.size=64):=zA zero48c;have hbz:=hbw.ext hxj;have hltj:decide ((j:Int)<(n:Int))=true:=by rw[wB3];omega
    refine wpIn_seq_k λK3 hK3=> ?_
    refine jZ (λ⟨_,_,h⟩=>h) (by rfl) ?_
    go_wp2_with (first
     | ((with_reducible apply gS 34);refine zB rfl (.bool true) (yB rfl rfl rfl hltj) ?_))
    refine wpIn_seq_k λK4 hK4=> ?_
    refine wpIn_cond_true rfl (wpIn_skip (hK4 _ _ ?_));refine wpIn_seq_k λK5 hK5=> ?_
    refine wpIn_block ?_;refine wpIn_seq_k λK6 hK6=> ?_
    refine jZ (λ⟨_,_,h⟩=>h) (by rfl) ?_
    go_wp2_with (first
     | ((with_reducible apply gS 36);refine zB rfl (.pointer (some (cd.add (j*64)))) (qP (i:=j) underlying25 zJ rfl rfl rfl hjn) ?_)
     | ((with_reducible apply gS 37);refine yZ (by rfl) 33 (.tmp 36) rfl (cd.add (j*64)) rfl (ints P) _ hca' underlying33 rfl (by rw[hipl];exact zJ) ?_)
     | ((with_reducible apply gS 10);refine wAlo' rfl (some 10) rfl 33 rfl _ jX ?_;intro w8 g8 hb8 hx8 hg8)
     | ((with_reducible apply gT 10 37);refine wStB rfl 33 (.tmp 10) (.tmp 37) rfl g8 (bv P) rfl rfl hb8 64 zJ s1.out hzs.out o1.out ?_;intro w9 hb9 hg9;have hx9:=hx8.grown hg9 hg8;have hbz9:=hbz.ext hx9;have hf9:=HF.out _ _ hbz9))
    refine wpIn_seq_k λK7 hK7=> ?_
    refine jZ (λ⟨_,_,h⟩=>h) (by rfl) ?_
    go_wp2_with (first
     | ((with_reducible apply gS 39);refine wLdB rfl 33 (.tmp 10) rfl g8 rfl hb9 _ underlying33 rfl 64 zJ s1.out ?_)
     | ((with_reducible apply gS 41);refine wpList_load_mid rfl 33 (.tmp 40) rfl gf 3 rfl (ints q) _ hf9.q underlying33 rfl (by rw[hqs];exact zJ) ?_)
     | (go_at_call 112;(with_reducible refine (HUP.out _).mono ?_);rintro e w10 ⟨rfl,hx10⟩;have hxa:=hx9.trans hx10;have hb10:=hb9.ext hx10)
     | ((with_reducible apply gT 10 43);refine wStB rfl 33 (.tmp 10) (.tmp 43) rfl g8 (bv P2) rfl rfl hb10 64 zJ s2.out s1.out o2.out ?_;intro w11 hb11 hg11;have hxb:=hxa.grown hg11 hg8))
    refine wpIn_seq_k λK8 hK8=> ?_
    refine jZ (λ⟨_,_,h⟩=>h) (by rfl) ?_
    go_wp2_with (first
     | ((with_reducible apply gS 46);refine wLdB rfl 33 (.tmp 10) rfl g8 rfl hb11 _ underlying33 rfl 64 zJ s2.out ?_)
     | (go_at_call 113;(with_reducible refine (HWP.out _).mono ?_);rintro e w12 ⟨rfl,hx12'⟩;have hxc:=hxb.trans hx12';have hb12:=hb11.ext hx12')
     | ((with_reducible apply gT 10 48);refine wStB rfl 33 (.tmp 10) (.tmp 48) rfl g8 (bv P3) rfl rfl hb12 64 zJ s3.out s2.out o3.out ?_;intro w13 hb13 hg13;have hxd:=hxc.grown hg13 hg8))
    refine wpIn_seq_k λK9 hK9=> ?_
    refine wpIn_seq_k λK10 hK10=> ?_
    refine jZ (λ⟨_,_,h⟩=>h) (by rfl) ?_
    go_wp2_with (first
     | ((with_reducible apply gS 50);refine wLdB rfl 33 (.tmp 10) rfl g8 rfl hb13 _ underlying33 rfl 64 zJ s3.out ?_))
    refine wpIn_block ?_;have hc0:Blk w13 g8 33 (bv (zAq P3 0)):=by rw[clampM_0];exact hb13
    clear hb8 hx8 hb9 hx9 hg9 hbz9 hf9 hx10 hxa hb10 hb11 hg11 hxb hx12' hxc hb12 hb13 hg13 hca'
    gi_loopw [51] (λiv wi=>∃i:Nat,i≤64∧iv=.int .i64 (i:Int)∧Blk wi g8 33 (bv (zAq P3 i))∧Ext w0 wi) (λiv _=>64-(intOf iv).toNat)
    case atStart=>exact⟨0,by omega,rfl,hc0,hxd⟩
    case round =>
     clear hc0 hxd;obtain⟨i,hi,rfl,hbi,hxi⟩:=hrel;obtain⟨wi,rfl⟩:∃wi,wi=wr:=⟨_,rfl⟩
     by_cases hi64:i<64
     ·have hlti:decide ((i:Int)<64)=true:=by rw[wB3];omega
      refine wpIn_seq_k λK11 hK11=> ?_
      refine jZ (λ⟨_,_,h⟩=>h) (by rfl) ?_
      go_wp2_with (first
       | ((with_reducible apply gS 52);refine zB rfl (.bool true) (yB rfl rfl rfl hlti) ?_))
      refine wpIn_seq_k λK12 hK12=> ?_
      refine wpIn_cond_true rfl (wpIn_skip (hK12 _ _ ?_));obtain⟨z,hz⟩:∃z,P3[i]? =some z:=⟨P3[i]'(by omega),wA2 (by omega)⟩
      have hz3:=bv_get hz;have hsz:i<(bv (zAq P3 i)).size:=by rw[zK,zUb P3 i hwl hi];exact hi64
      have hset:=zA (by rw[zAE,zUt P3 i z hz]:(bv (zAq P3 i)).setIfInBounds i (.int .i64 (jY z (-40000) 40000))=bv (zAq P3 (i+1)));have HCL:=zA (λW=>zHt z 40000 W (by omega) (by omega));generalize jY z (-40000) 40000=cz at *;generalize bv (zAq P3 i)=c0 at *;obtain⟨c1,hc1⟩:∃c1,bv (zAq P3 (i+1))=c1:=⟨_,rfl⟩
      rw[hc1] at hset;have HC1:=zA hc1;clear hc1;refine wpIn_seq_k λK13 hK13=> ?_
      refine wpIn_block ?_;refine wpIn_seq_k λK14 hK14=> ?_
      refine jZ (λ⟨_,_,h⟩=>h) (by rfl) ?_
      go_wp2_with (first
       | ((with_reducible apply gS 54);refine zB rfl (.int .i64 z) (ex_idx underlying33 underlying3 jM rfl (cs:=bv P3) (i:=i) rfl rfl hi64 hz3) ?_))
      refine jZ (λ⟨_,_,h⟩=>h) (by rfl) ?_
      go_wp2_with (first
       | (go_at_call 96;(with_reducible refine (HCL.out _).mono ?_);rintro e w9 ⟨rfl,rfl⟩)
       | ((with_reducible apply gS 58);refine zB rfl (.pointer (some ⟨g8,i,none⟩)) (zJJ underlying33 jM rfl rfl rfl hi64) ?_)
       | ((with_reducible apply gT 58 57);refine zAc rfl (.tmp 58) (.tmp 57) rfl g8 i cz rfl rfl hbi hsz ?_))
      have hbn:=hbi.set_ i (.int .i64 cz);rw[hset.out] at hbn;have hxn:=hxi.setCell (p:=⟨g8,i,none⟩) hg8 (.int .i64 cz);refine jZ (λ⟨_,_,h⟩=>h) (by rfl) ?_;go_wp2_with fail
      try simp only[Act.put]
      go_roundw
      case rel=>exact⟨i+1,by omega,by go_num,by rw[HC1.out];exact hbn,hxn⟩
      case measure=>simp[intOf];omega
     obtain rfl:i=64:=by omega
     have hlti:decide (((64:Nat):Int)<64)=false:=by decide
     rw[zUI P3 hwl] at hbi;have hcl:(zCZ P3).length=64:=by rw[zFL,hwl]
     generalize zCZ P3=P4 at *;have s4:=zA ((zK P4).trans hcl);have hms:(ints (zAp q Y j)).length=j*64:=by rw[yI,zEV]
     have hbj':Blk wi gB 33 (ints (zAp q Y j)++(ints (List.replicate 64 0)++ints (List.replicate ((n-(j+1))*64) 0))).toArray:=by
      have e:bv (zAp q Y j++List.replicate ((n-j)*64) 0)=(ints (zAp q Y j)++(ints (List.replicate 64 0)++ints (List.replicate ((n-(j+1))*64) 0))).toArray:=by
       have e1:List.replicate ((n-j)*64) (0:Int)=List.replicate 64 0++List.replicate ((n-(j+1))*64) 0:=by
        rw[List.replicate_append_replicate];congr 1
        omega
       unfold bv;rw[e1,vP,vP]
      rw[←e];exact hbj.ext hxi
     have H4:Hid (bv P4=(ints P4).toArray):=zA rfl;refine wpIn_seq_k λK11 hK11=> ?_
     refine jZ (λ⟨_,_,h⟩=>h) (by rfl) ?_
     go_wp2_with (first
      | ((with_reducible apply gS 52);refine zB rfl (.bool false) (yB rfl rfl rfl hlti) ?_))
     refine wpIn_seq_k λK12 hK12=> ?_
     refine wpIn_cond_false rfl (wpIn_exit ?_);simp only[Exit.then,Exit.inBlock, ↓reduceIte,Nat.reduceEqDiff];refine hK9 _ _ ?_;refine jZ (λ⟨_,_,h⟩=>h) (by rfl) ?_
     go_wp2_with (first
      | ((with_reducible apply gS 62);refine wLdB rfl 33 (.tmp 10) rfl g8 rfl hbi _ underlying33 rfl 64 zJ s4.out ?_)
      | ((with_reducible apply gS 63);refine zB rfl (.pointer (some ⟨gB,j*64,none⟩)) (ex_ixB rfl rfl rfl hjn) ?_)
      | ((with_reducible apply gT 63 62);refine uE rfl 33 (.tmp 63) (.tmp 62) rfl gB (j*64) (ints P4) rfl (by first | rfl | exact congrArg Value.agg H4.out) hbj' hms (by rw[yI,yI,hcl];simp) (by rw[yI,hcl];exact zJ) (qK P4) ?_;intro w15 hb15 hu15))
     have hbn:Blk w15 gB 33 (bv (zAp q Y (j+1)++List.replicate ((n-(j+1))*64) 0)):=by
      have e:bv (zAp q Y (j+1)++List.replicate ((n-(j+1))*64) 0)=(ints (zAp q Y j)++(ints P4++ints (List.replicate ((n-(j+1))*64) 0))).toArray:=by
       unfold bv;rw[HMS.out,vP,vP,wI7]
      rw[e];exact hb15
     have hxn:=hu15.ext (hxj.trans hxi) (λx e=>by rw[e];exact hgB);refine jZ (λ⟨_,_,h⟩=>h) (by rfl) ?_;go_wp2_with fail;go_roundw
     case rel=>exact⟨j+1,by omega,by go_num,hbn,hxn⟩
     case measure=>simp[intOf];omega
   obtain rfl:j=n:=by omega
   have hltj:decide ((j:Int)<(j:Int))=false:=by rw[decide_eq_false_iff_not];omega
   rw[wL5,wS0,wS7,wG9] at hbj
   have hob:SL w0 64 (.slice (some ⟨gB,0,none⟩) j j) j (ints (zAp q Y j)):=by
    have:=hbj.sl (size:=64) (n:=j) (c:=j) (by rw[zK,zEV]) (wA5 _) (by omega);simpa [bv] using this
   have hJ0:=zA (HJk.out (.slice (some ⟨gB,0,none⟩) j j) w0 hob);have hbz:=hbw.ext hxj;have hfz:=HF.out _ _ hbz;have hb6z:=hb6w.ext hxj;obtain⟨PA,pc,rfl⟩:=hpa.form;simp only[wQ9] at hpa hb6z hb6w;have hnp:pre.length<p:=hlt;have hpaz:=hpa.ext hxj;have hL1:(PL k).length=a*b:=HL.out k;obtain⟨vsW,hovW,-,-⟩:=hpa.own;generalize hplk:PL k=pl at *;generalize hnpl:pre.length=np at *;refine wpIn_seq_k λK3 hK3=> ?_
   refine jZ (λ⟨_,_,h⟩=>h) (by rfl) ?_
   go_wp2_with (first
    | ((with_reducible apply gS 34);refine zB rfl (.bool false) (yB rfl rfl rfl hltj) ?_))
   refine wpIn_seq_k λK4 hK4=> ?_
   refine wpIn_cond_false rfl (wpIn_exit ?_);simp only[Exit.then,Exit.inBlock, ↓reduceIte,Nat.reduceEqDiff];refine hK1 _ _ ?_;refine wpIn_seq_k λK20 hK20=> ?_
   refine jZ (λ⟨_,_,h⟩=>h) (by rfl) ?_
   go_wp2_with (first
    | ((with_reducible apply gS 68);refine yU rfl (.int .i64 (a:Int)) (zS rfl rfl hfz.c0) ?_)
    | ((with_reducible apply gS 70);refine yU rfl (.int .i64 (b:Int)) (zS rfl rfl hfz.c1) ?_)
    | (go_at_call 114;(with_reducible refine hJ0.out.mono ?_);rintro e w16 ⟨D,d,rfl,hD,hx16',hDf⟩;have hb616:=hb6z.ext hx16';have hpa16:=hpaz.ext hx16';have hxW16:=hxj.trans hx16';have hc616:w16.cell? ⟨g6,0,none⟩=some (.slice PA np pc):=hb616.cell 0))
   refine jZ (λ⟨_,_,h⟩=>h) (by rfl) ?_
   go_wp2_with (first
    | ((with_reducible apply gS 74);refine yU rfl (.slice PA np pc) (zFB rfl rfl hc616) ?_)
    | ((with_reducible apply gS 76);refine wLit1 rfl 29 22 (.tmp 75) rfl (some 76) rfl underlying29 1 uL (by kernel_rfl) (.slice D (a*b) d) rfl rfl (by omega) (by omega) ?_;intro w17 g17 hb17 hx17 hg17;have hpa17:=hpa16.ext hx17;have hb617:=hb616.ext hx17;have hxW17:=hxW16.trans hx17;obtain⟨vs,hov,-,hnext⟩:=hpa17.own)
    | ((with_reducible apply gS 77);refine wApf elt_rowS rfl (.tmp 74) (.tmp 76) rfl w5.heap.size (.slice PA np pc) np vs rfl hov _ 1 [.slice D (a*b) d] rfl (hb17.sl (size:=1) (n:=1) (c:=1) rfl (by omega) (by omega)) (by simp[Value.oneCell']) (by omega) (by omega) (by have:=hxW17.size;omega) ?_;intro A9 c9 w19 ho9 hg9 hr9;have hu9:=zM hg9;have hb619:=hu9.blk hb617 (λq=>by have:=(hov.lt _ q).1;omega))
    | ((with_reducible apply gT 6 77);refine zMc rfl (.tmp 6) (.tmp 77) rfl g6 0 A9 (np+1) c9 rfl rfl hb619 (by simp) ?_))
   have hD7:=hD.ext hx17;have hWw0:=hxj.size
   have hpn9:=hnext A9 c9 w19 pl D d (by rw[hL1];exact ho9) hg9 hr9 (by rw[hL1];exact hD7) (λad' e=>by
    have h1:=hDf ad' e;subst e;obtain⟨_,_,e2,-,-,h5,h6⟩:=hD7;obtain⟨ad2,e3,h7,-⟩:=h6 (Nat.mul_pos a1 b1);injection e2 with e2
    rw[←e2] at e3;injection e3 with e3
    rw[←e3] at h7
    exact⟨by omega,h7,λq=>by have:=(hovW.lt _ q).2;omega⟩)
   have hU19:Upd (λx=>x=g6∨(Value.slice PA np pc).ownBlock=some x) W w19:=(Upd.of_ext hxW17).grown hg9 (λb hb=>.inl (.inr hb));have hU:=hU19.setCell (p:=⟨g6,0,none⟩) (.inl rfl) (.slice A9 (np+1) c9);have hUs:=(Upd.refl (λx=>x=g6) w19).setCell (p:=⟨g6,0,none⟩) rfl (.slice A9 (np+1) c9);have hpz:=hpn9.upd hUs (λx e=>by omega);have hb6n:=hb619.set_ 0 (.slice A9 (np+1) c9);have hrow:∀x,(Value.slice PA np pc).ownBlock=some x→w5.heap.size≤x:=λx h=>(hovW.lt x h).1
   have hw5:=hx15.size
   have hSB:∀x,(x=g6∨(Value.slice PA np pc).ownBlock=some x)→w.heap.size≤x:=λx h=>by
    rcases h with h | h
    ·rw[h];exact hg60
    have:=hrow x h;omega
   have hS1:¬(g1=g6∨(Value.slice PA np pc).ownBlock=some g1):=λh=>by
    rcases h with h | h
    ·omega
    exact jS hovW hc1w (by decide) h.symm
   have hS2:¬(g2=g6∨(Value.slice PA np pc).ownBlock=some g2):=λh=>by
    rcases h with h | h
    ·omega
    exact jS hovW hc2w (by decide) h.symm
   have hSf:∀x,x<w5.heap.size→x≠g6→¬(x=g6∨(Value.slice PA np pc).ownBlock=some x):=λx hx hne h=>by
    rcases h with h | h
    ·exact hne h
    have:=hrow x h;omega
   show KeepsFrom w6.heap.size W _∧KpC w.heap.size g1 g2 W _∧I (pre++[⟨k,hkp⟩]) _
   refine⟨zQG hU (λx h=> ?_),⟨hU.below hSB hxw.size,hU.block g1 hc1w.lt hS1,hU.block g2 hc2w.lt hS2⟩, ?_⟩
   ·rcases h with h | h
    ·rw[h];exact⟨_,_,_,hb6w⟩
    obtain⟨cs,hcs⟩:=zCG hovW x h;exact⟨_,_,_,hcs⟩
   rw[HIe.out];refine⟨.slice A9 (np+1) c9, ?_,hb6n,hU.blk hbw (hSf gf hgfB hgf6),hU.blk hpw (hSf gp hgpB hgp6),hU.blk hrw (hSf gr hgrB hgr6),hU.blk hc1w hS1,hU.blk hc2w hS2,hU.ext hxw hSB,wJ1 hszw hU.size⟩;have e:(pre++[(⟨k,hkp⟩:Fin p)]).map (λx=>PL x.1)=pre.map (λx=>PL x.1)++[pl]:=by rw[wF5,wG6,wG7,hplk]
   rw[e];exact hpz
end
def PdIs (E wd hi:Int) (L:List (List Int)) (w:World) (e:Ending) (w':World):Prop:=∃B k d,e=.returned (.tuple #[.agg (yX wd hi (.slice B k d)),.int .i64 E])∧RowsS w' B k d L∧Ext w w'
def PdIsF (E wd hi:Int) (L:List (List Int)) (w:World) (e:Ending) (w':World):Prop:=∃B k d,e=.returned (.tuple #[.agg (yX wd hi (.slice B k d)),.int .i64 E])∧RowsF w' w.heap.size B k d L∧Ext w w'
def PdIsF.pd {E wd hi:Int} {L:List (List Int)} {w w':World} {e:Ending} (h:PdIsF E wd hi L w e w'):PdIs E wd hi L w e w':=by obtain⟨B,k,d,he,hr,hx⟩:=h;exact⟨B,k,d,he,hr.rows,hx⟩
def RcIs (E wd hi:Int) (L:List (List Int)) (Y:List Int) (w:World) (e:Ending) (w':World):Prop:=∃B k d C j c,e=.returned (.tuple #[.agg (yX wd hi (.slice B k d)),.slice C j c,.int .i64 E])∧RowsS w' B k d L∧SL w' 1 (.slice C j c) j (ints Y)∧Y.length=j∧Ext w w'
def rows_far {S:Nat→Prop} {w w':World} {B n c:Nat} {A:Option Addr} {L:List (List Int)} (h:RowsF w B A n c L) (hu:Upd S w w') (hS:∀x,S x→x<B):RowsS w' A n c L:=(h.upd hu hS).rows
def zJd:zAn prog 56:=⟨_,func56,rfl,rfl⟩
def zKx:zAn prog 63:=⟨_,func63,rfl,rfl⟩
def zRU:zAn prog 55:=⟨_,func55,rfl,rfl⟩
def zIg (F:FC) (hF:F.shaped) (s1 s2 sd:Value) (a b p nb m:Nat) (hw:F.wd=a) (hh:F.hi=b) (hp:F.pt=p) (a1:1≤a) (a2:a≤64) (b1:1≤b) (b2:b≤64) (hp13:p=1∨p=3) (hnb:zT a b=nb) (hm:nb*p=m) (w:World) :
 Calls prog 56 #[.agg (F.cells s1 s2 sd)] w λe w'=>e=.returned (.int .i64 (m:Int))∧Ext w w':=by
 have HF:=zA (λW g (h:Blk W g 47 (F.cells s1 s2 sd))=>zBX h hF.1 (zU _ _ hF.2.1) (zU _ _ hF.2.2));rw[hw,hh,hp] at HF;have hs0:=zLP a1 a2 b1 b2
 have HM:Hid (∀W,Calls prog 65 #[.int .i64 (a:Int),.int .i64 (b:Int)] W λe w'=>e=.returned (.tuple #[.int .i64 (nb:Int),.int .i64 0])∧Ext W w'):=zA (λW=>by
  have:=zFv a b W;have e:zDT a b=(nb:Int):=by unfold zDT;rw[if_pos hs0, ←hnb];unfold zT;simp
  rw[e,hs0] at this
  exact this)
 have hn64:=zBx a2 b2;rw[hnb] at hn64;have HMN:=zA hm
 have hm192:m≤192:=by
  rw[←hm];exact wJ1 (wO6 hn64 (show p≤3 by omega)) (by omega)
 generalize F.cells s1 s2 sd=fv at *;clear hw hh hp hs0 hm hnb hF;go_enter func56,ntmps56
 go_wp2_with (first
  | ((with_reducible apply gS 1);refine wBox rfl 47 (.tmp 0) rfl fv rfl ?_;intro w1 gf hb1 hx1 hgf;have hf1:=HF.out _ _ hb1)
  | ((with_reducible apply gS 7);refine yU rfl (.int .i64 (a:Int)) (zS rfl rfl hf1.c0) ?_)
  | ((with_reducible apply gS 9);refine yU rfl (.int .i64 (b:Int)) (zS rfl rfl hf1.c1) ?_)
  | (go_at_call 65;(with_reducible refine (HM.out _).mono ?_);rintro e w3 ⟨rfl,hx3⟩;have hf3:=HF.out _ _ (hb1.ext hx3))
  | ((with_reducible apply gS 15);refine yU rfl (.int .i64 (p:Int)) (zS rfl rfl hf3.c2) ?_)
  | ((with_reducible apply gS 16);refine zB rfl (.int .i64 (m:Int)) (by rw[←HMN.out];exact zCc (i:=nb) (d:=p) rfl rfl rfl (by rw[HMN.out];omega)) ?_))
 go_ret;exact⟨rfl,hx1.trans hx3⟩
def zEj {wd hi pt:Int} {qs:List Int} {z1 z2 ev:Int} {n:Nat} (h:zDI wd hi pt qs z1 z2 ev n=0) :
 ∃a b p:Nat,wd=a∧hi=b∧pt=p∧1≤a∧a≤64∧1≤b∧b≤64∧(p=1∨p=3)∧0≤ev∧ev≤100∧zR qs 1 255=true∧z1=0∧z2=0∧n≤90000:=by
 unfold zDI at h;split at h
 ·rename_i hc;simp only[wA9] at hc;obtain⟨k1,k2,k3,hp⟩:=zHu hc.1;rw[uJ] at k1 k2 k3
  by_cases h1:z1=0
  ·rw[if_pos h1] at h
   by_cases h2:z2=0
   ·rw[if_pos h2] at h
    by_cases h3:90000<n
    ·rw[if_pos h3] at h;cases h
    exact⟨wd.toNat,hi.toNat,pt.toNat,by omega,by omega,by omega,by omega,by omega,by omega,by omega,by omega,k3.1,k3.2,hc.2,h1,h2,by omega⟩
   rw[if_neg h2] at h;exact absurd h h2
  rw[if_neg h1] at h;exact absurd h h1
 cases h
