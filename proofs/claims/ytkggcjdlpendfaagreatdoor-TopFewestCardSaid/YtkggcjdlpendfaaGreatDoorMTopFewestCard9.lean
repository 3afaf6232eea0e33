import Derived.Lib.CountLaws
import Derived.Laws.BitsAllLaws
import Derived.Deep.SlicePairs
import Derived.Deep.Slices
import Derived.OwnWalk
import Derived.Test.YtkggcjdlpendfaaGreatDoorMTopFewestCard8
set_option linter.all false
set_option maxRecDepth 20000
set_option maxHeartbeats 8000000
namespace Go.Proofs.YtkggcjdlpendfaaGreatDoor
open Go.RowKit
section
def xK (T1 T2:List Tok) (L:List Bool) (t:Tok) (b:Bool):Int×List Bool :=
 match qV (if b then T1 else T2) t.1 with
 | none=>(5,L)
 | some _=>(0,L++zBs (if b then T1 else T2) t.1++qF t.2.2.toNat t.2.1.toNat)
def zRh (T1 T2:List Tok) (L:List Bool) (t:Tok) (b:Bool):L.length≤(xK T1 T2 L t b).2.length:=by
 unfold xK;split
 ·exact wA5 _
 ·simp only[wF3];omega
def zNs (T1 T2:List Tok): ∀ (l:List (Tok×Bool)) (L:List Bool),L.length≤(xV (xK T1 T2) l L).2.length
 | [],L=>wA5 _
 | (t,b)::r,L=>by
   have h1:=zRh T1 T2 L t b
   by_cases h0:(xK T1 T2 L t b).1=0
   ·rw[zAv h0];exact wD1 h1 (zNs T1 T2 r _)
   ·rw[zEM h0];exact h1
def zQV {T1 T2:List Tok} (f1:zBe T1) (f2:zBe T2): ∀ (l:List (Tok×Bool)) (L:List Bool),(∀ t∈l,zBW t.1)→(xV (xK T1 T2) l L).2.length≤L.length+28*l.length
 | [],L,_=>by simp[xV]
 | (t,b)::r,L,h=>by
   have hw:=h (t,b) (by simp);obtain⟨-, -,w1,w2, -, -⟩:=hw;dsimp only at w1 w2
   have h1:(xK T1 T2 L t b).2.length≤L.length+28:=by
    unfold xK;split
    ·simp
    ·have h2:(zBs (if b then T1 else T2) t.1).length≤16:=by
      cases b with
      | true=>exact zFs f1 _
      | false=>exact zFs f2 _
     simp only[wF3,qB];omega
   by_cases h0:(xK T1 T2 L t b).1=0
   ·rw[zAv h0];have:=zQV f1 f2 r (xK T1 T2 L t b).2 (fun u hu=>h u (by simp[hu]));simp only[wA8];omega
   ·rw[zEM h0];simp only[wA8];omega
structure EncIn (pc pw gk gw gc1 gc2:Nat) (T1 T2:List Tok) (W0 W:World) (L:List Bool) (F:Nat→Prop):Prop where
 p:Blk W0 pc 197 #[.pointer (some ⟨gk,0,none⟩)]
 k:Blk W0 gk 236 #[.pointer (some ⟨gc1,0,none⟩),.pointer (some ⟨gc2,0,none⟩)]
 c1:CoderS W0 gc1 T1
 c2:CoderS W0 gc2 T2
 old:W0.heap.size≤gw
 b:Ext W0 W
 q:Blk W pw 200 #[.pointer (some ⟨gw,0,none⟩)]
 r: ∃ r,WrS W gw L r∧ ∀ x,F x↔x=gw∨r=some x
def EncIn.ext {pc pw gk gw gc1 gc2:Nat} {T1 T2:List Tok} {W0 W W':World} {L:List Bool} {F:Nat→Prop} (h:EncIn pc pw gk gw gc1 gc2 T1 T2 W0 W L F) (hx:Ext W W'):EncIn pc pw gk gw gc1 gc2 T1 T2 W0 W' L F:=by
 obtain⟨r,hr,hF⟩:=h.r;exact⟨h.p,h.k,h.c1,h.c2,h.old,h.b.trans hx,h.q.ext hx,r,hr.ext hx,hF⟩
def zHB {w:World} {g base size n:Nat} {T e:TypeId} {cs:Array Value} {v:Value} {xs:List Value} (h:Blk w g T cs) (ho:w.ownsRow base e size v n xs) (hne:T≠e):some g≠v.ownBlock:=by
 obtain⟨-,hh⟩:=ho;rcases hh with ⟨rfl, -⟩ | ⟨k,cap,cur,rfl, -,hg, -⟩
 ·simp[Value.ownBlock]
 ·intro e1;have:g=k:=by simpa [Value.ownBlock] using e1
  subst this;exact (h.ne_ (g':=g) (cs':=cur) hg hne) rfl
def wrs_ne {w:World} {g gw:Nat} {T:TypeId} {cs:Array Value} {L:List Bool} {r:Option Nat} (h:Blk w g T cs) (hw:WrS w gw L r) (h1:T≠203) (h2:T≠5):g≠gw∧r≠some g:=by
 obtain⟨A,c,e1,hB,ho⟩:=hw;refine⟨h.ne_ (g':=gw) hB h1,fun e=> ?_⟩;have:=zHB h ho h2;rw[zJd, ←e1] at this;exact this e.symm
def ptrW_ne:200≠203∧200≠5:=by decide
def tokT_ne:149≠203∧149≠5:=by decide
def EncIn.put {pc pw gk gw gc1 gc2:Nat} {T1 T2:List Tok} {W0 W W':World} {L L':List Bool} {F:Nat→Prop} {r r':Option Nat} (h:EncIn pc pw gk gw gc1 gc2 T1 T2 W0 W L F) (hr:WrS W gw L r) (hF: ∀ x,F x↔x=gw∨r=some x) (hW:WrS W' gw L' r') (hu:Upd (fun b=>b=gw∨r=some b) W W') :
 EncIn pc pw gk gw gc1 gc2 T1 T2 W0 W' L' (fun x=>x=gw∨r'=some x):=by
 have hn:=wrs_ne h.q hr ptrW_ne.1 ptrW_ne.2;refine⟨h.p,h.k,h.c1,h.c2,h.old,hu.ext h.b (fun y hy=> ?_),hu.blk h.q (fun e=> ?_),r',hW,fun x=>Iff.rfl⟩
 ·have:=h.old;rcases hy with rfl | e
  ·exact this
  ·have:=(hr.row y e).1;omega
 ·rcases e with e | e
  ·exact hn.1 e
  ·exact hn.2 e
def run_loadK (W:World) (p q:Addr) (h:W.cell? p=some (.pointer (some q))):(Instr.loadAt 197 (.pointer (some p))).run Tryz.prog W=.ok (.pointer (some q)) W:=by
 go_simp
def run_loadW (W:World) (p q:Addr) (h:W.cell? p=some (.pointer (some q))):(Instr.loadAt 200 (.pointer (some p))).run Tryz.prog W=.ok (.pointer (some q)) W:=by
 go_simp
section
variable {o:Oper} {a:Act}
def zKk {x:Operand} (ho:o.op=.load 197 x) {p q:Addr} (hx:a.eval x=.pointer (some p)) {w:World} (h:w.cell? p=some (.pointer (some q))):(execOp a.eval o).run Tryz.prog w=.ok (.value (.pointer (some q))) w:=by
 simp[execOp,ho,hx,run_loadK w p q h]
def zPb {x:Operand} (ho:o.op=.load 200 x) {p q:Addr} (hx:a.eval x=.pointer (some p)) {w:World} (h:w.cell? p=some (.pointer (some q))):(execOp a.eval o).run Tryz.prog w=.ok (.value (.pointer (some q))) w:=by
 simp[execOp,ho,hx,run_loadW w p q h]
end
def of_any (gk gc1 gc2:Nat) (b:Bool) (w:World) (h:Blk w gk 236 #[.pointer (some ⟨gc1,0,none⟩),.pointer (some ⟨gc2,0,none⟩)]) :
 Calls Tryz.prog 154 #[.pointer (some ⟨gk,0,none⟩),.bool b] w fun e w'=>e=.returned (.pointer (some ⟨if b then gc1 else gc2,0,none⟩))∧w=w':=by
 have c0:w.cell? ⟨gk,0,none⟩=some (.pointer (some ⟨gc1,0,none⟩)):=h.cell 0;have c1:w.cell? ⟨gk,1,none⟩=some (.pointer (some ⟨gc2,0,none⟩)):=h.cell 1
 cases b with
 | true =>
   go_enter Tryz.func154,Tryz.ntmps154;go_wp2_with fail;go_ret;exact⟨rfl,rfl⟩
 | false =>
   go_enter Tryz.func154,Tryz.ntmps154;go_wp2_with fail;go_ret;exact⟨rfl,rfl⟩
attribute [local irreducible] zBs qF
def encFn_any (pc pw gk gw gc1 gc2:Nat) (T1 T2:List Tok) (f1:zBe T1) (f2:zBe T2) (W0:World) (t:Tok) (b:Bool) (L:List Bool) (F:Nat→Prop) (w:World) (hC:(xK T1 T2 L t b).2.length≤1000000000) (hw:zBW t) (h:EncIn pc pw gk gw gc1 gc2 T1 T2 W0 w L F) :
 Calls Tryz.prog 153 #[.agg (xN t).toArray,.bool b,.pointer (some ⟨pc,0,none⟩),.pointer (some ⟨pw,0,none⟩)] w fun e w'=>e=.returned (.int .i64 (xK T1 T2 L t b).1)∧Upd F w w'∧ ∃ F',EncIn pc pw gk gw gc1 gc2 T1 T2 W0 w' (xK T1 T2 L t b).2 F'∧ ∀ x,F' x→F x∨w.heap.size≤x:=by
 obtain⟨t1,t2,t3⟩:=t;obtain⟨h1,h2,h3,h4,h5,h6⟩:=hw;dsimp only at h1 h2 h3 h4 h5 h6;obtain⟨wd,hwd⟩: ∃ m:Nat,t2=(m:Int):=⟨t2.toNat,by omega⟩
 obtain⟨vl,hvl⟩: ∃ m:Nat,t3=(m:Int):=⟨t3.toNat,by omega⟩
 subst hwd hvl;have hv2:vl<2 ^ wd:=by rw[wF0] at h6;exact_mod_cast h6
 have hHC:Hid ((xK T1 T2 L (t1,(wd:Int),(vl:Int)) b).2.length≤1000000000):=zA hC;obtain⟨r,hr,hF⟩:=h.r;obtain⟨T,hT⟩: ∃ T,T=if b then T1 else T2:=⟨_,rfl⟩
 obtain⟨gc,hgc⟩: ∃ g,g=if b then gc1 else gc2:=⟨_,rfl⟩
 have hfit:zBe T:=by rw[hT];cases b<;>assumption
 have hcs:CoderS W0 gc T:=by
  rw[hT,hgc]
  cases b with
  | true=>exact h.c1
  | false=>exact h.c2
 have HE:Hid (xK T1 T2 L (t1,(wd:Int),(vl:Int)) b=match qV T t1 with | none=>(5,L) | some _=>(0,L++zBs T t1++qF vl wd)):=zA (by unfold xK;rw[hT];rfl);generalize xK T1 T2 L (t1,(wd:Int),(vl:Int)) b=R at *
 cases hf:qV T t1 with
 | none =>
   rw[hf] at HE;have HPUT:=zA (fun W (hc:CoderS W gc T)=>zRM gc gw T t1 W hc hf (by omega) (by omega));have HX:=zA (fun W (hx:Ext w W)=>h.ext hx);have HCX:=zA (fun W (hx:Ext w W)=>hcs.ext (h.b.trans hx));have HOF0:=zA (fun W (hx:Ext w W)=>of_any gk gc1 gc2 b W (h.k.ext (h.b.trans hx)));rw[←hgc] at HOF0;have HPC0:=zA (fun W (hx:Ext w W)=>(h.p.ext (h.b.trans hx)).cell 0);have HPW0:=zA (fun W (hx:Ext w W)=>(h.q.ext hx).cell 0);clear hC hT hgc hfit hcs hf h hr hF;go_enter Tryz.func153,Tryz.ntmps153;go_wp2_with ((with_reducible apply gS 4);refine wBox rfl 149 (.tmp 0) rfl #[.int .i64 t1,.int .i64 (wd:Int),.int .i64 (vl:Int)] rfl ?_;intro w1 g1 hb1 hx1 hg1)
   have HOF:=zA (fun W (hx:Ext w1.drew W)=>((HOF0.out W ((hx1.drew).trans hx)).mono (fun e w' ⟨e1,e2⟩=>⟨e1,e2 ▸ Ext.refl _⟩):Calls Tryz.prog 154 #[.pointer (some ⟨gk,0,none⟩),.bool b] W fun e w'=>e=.returned (.pointer (some ⟨gc,0,none⟩))∧Ext W w'));have HPC:=zA (fun W (hx:Ext w1.drew W)=>HPC0.out W ((hx1.drew).trans hx));have HPW:=zA (fun W (hx:Ext w1.drew W)=>HPW0.out W ((hx1.drew).trans hx));refine zAi qS 6 (by kernel_rfl) (by kernel_rfl) ?_;simp only[wJ9,wL2];refine xL (by rfl) (.pointer (some ⟨gk,0,none⟩)) (fun W hW=>zKk rfl rfl (HPC.out W hW)) ?_;simp only[sP,sB,sC];refine zI (by rfl) (.bool b) (zC rfl rfl) ?_;simp only[sP,sB,sC];refine zDn (by rfl) 154 Tryz.func154 rfl rfl _ _ rfl #[.pointer (some ⟨gk,0,none⟩),.bool b] (by simp[Act.eval]) (.pointer (some ⟨gc,0,none⟩)) (fun W hW=>HOF.out W hW) ?_;simp only[sP,sB,sC];refine xL (by rfl) (.pointer (some ⟨gw,0,none⟩)) (fun W hW=>zPb rfl rfl (HPW.out W hW)) ?_;simp only[sP,sB,sC];refine zBO (by rfl) ?_;apply Exists.intro;refine⟨fun w hw=> ?_, ?_⟩; · (go_simp;with_reducible rfl)
   simp only[Act.put,sA,sB,sC];refine xL (by rfl) (.int .i64 t1) (fun W hW=>zV rfl rfl ((hb1.ext (Ext.trans (Ext.refl w1).drew hW)).cell 0)) ?_;simp only[sP,sB,sC];refine vH ?_;intro w2 hx2
   try simp only[wN8,wL3]
   have hx2':=(hx1.drew).trans hx2;go_wp2_with (go_at_call 155;(with_reducible refine (HPUT.out _ (HCX.out _ hx2')).mono ?_);rintro e w3 ⟨rfl,hx3⟩)
   go_ret;rw[HE.out];have hx3':=hx2'.trans hx3;exact⟨rfl,yB hx3',F,HX.out _ hx3',fun x k=>.inl k⟩
 | some u =>
   rw[hf] at HE;obtain⟨long,code,rfl,l1,l2,l3⟩:=hfit t1 u hf
   have hLb:(L++qF code long++qF vl wd).length≤1000000000:=by
    have h0:=hHC.out;rw[HE.out,zEu hf] at h0;exact h0
   have hL1:(L++qF code long).length≤1000000000:=by rw[wF3] at hLb;omega
   have hL0:L.length≤1000000000:=by rw[wF3] at hL1;omega
   have HPUT:=zA (fun W (hc:CoderS W gc T) (hW:WrS W gw L r)=>zQb gc gw T L r t1 long code W hc hW hf (by omega) (by omega) (by omega) l3 (by omega));have HPU2:=zA (fun W r' (hW:WrS W gw (L++qF code long) r')=>zMq gw (L++qF code long) r' vl wd W hW (by omega) hv2 (by omega));have HX:=zA (fun W (hx:Ext w W)=>h.ext hx);have HCX:=zA (fun W (hx:Ext w W)=>hcs.ext (h.b.trans hx));have HWX:=zA (fun W (hx:Ext w W)=>hr.ext hx);have HOF0:=zA (fun W (hx:Ext w W)=>of_any gk gc1 gc2 b W (h.k.ext (h.b.trans hx)));rw[←hgc] at HOF0;have HPC0:=zA (fun W (hx:Ext w W)=>(h.p.ext (h.b.trans hx)).cell 0);have HPW0:=zA (fun W (hx:Ext w W)=>(h.q.ext hx).cell 0);have HR1:Hid (R=(0,L++qF code long++qF vl wd)):=zA (by rw[HE.out,zEu hf]);have HFF:=zA hF;have hgwlt:=hr.lt;clear hC hT hgc hfit hcs hf hF hLb hL1 hL0 HE hHC;go_enter Tryz.func153,Tryz.ntmps153;go_wp2_with ((with_reducible apply gS 4);refine wBox rfl 149 (.tmp 0) rfl #[.int .i64 t1,.int .i64 (wd:Int),.int .i64 (vl:Int)] rfl ?_;intro w1 g1 hb1 hx1 hg1)
   have HOF:=zA (fun W (hx:Ext w1.drew W)=>((HOF0.out W ((hx1.drew).trans hx)).mono (fun e w' ⟨e1,e2⟩=>⟨e1,e2 ▸ Ext.refl _⟩):Calls Tryz.prog 154 #[.pointer (some ⟨gk,0,none⟩),.bool b] W fun e w'=>e=.returned (.pointer (some ⟨gc,0,none⟩))∧Ext W w'));have HPC:=zA (fun W (hx:Ext w1.drew W)=>HPC0.out W ((hx1.drew).trans hx));have HPW:=zA (fun W (hx:Ext w1.drew W)=>HPW0.out W ((hx1.drew).trans hx));refine zAi qS 6 (by kernel_rfl) (by kernel_rfl) ?_;simp only[wJ9,wL2];refine xL (by rfl) (.pointer (some ⟨gk,0,none⟩)) (fun W hW=>zKk rfl rfl (HPC.out W hW)) ?_;simp only[sP,sB,sC];refine zI (by rfl) (.bool b) (zC rfl rfl) ?_;simp only[sP,sB,sC];refine zDn (by rfl) 154 Tryz.func154 rfl rfl _ _ rfl #[.pointer (some ⟨gk,0,none⟩),.bool b] (by simp[Act.eval]) (.pointer (some ⟨gc,0,none⟩)) (fun W hW=>HOF.out W hW) ?_;simp only[sP,sB,sC];refine xL (by rfl) (.pointer (some ⟨gw,0,none⟩)) (fun W hW=>zPb rfl rfl (HPW.out W hW)) ?_;simp only[sP,sB,sC];refine zBO (by rfl) ?_;apply Exists.intro;refine⟨fun w hw=> ?_, ?_⟩; · (go_simp;with_reducible rfl)
   simp only[Act.put,sA,sB,sC];refine xL (by rfl) (.int .i64 t1) (fun W hW=>zV rfl rfl ((hb1.ext (Ext.trans (Ext.refl w1).drew hW)).cell 0)) ?_;simp only[sP,sB,sC];refine vH ?_;intro w2 hx2
   try simp only[wN8,wL3]
   have hx2':=(hx1.drew).trans hx2;have hb2:=hb1.drew.ext hx2;have hI2:=HX.out _ hx2';have hW2:=HWX.out _ hx2';have hn2:=wrs_ne hb2 hW2 tokT_ne.1 tokT_ne.2
   go_wp2_with (first
    | (go_at_call 155;(with_reducible refine (HPUT.out _ (HCX.out _ hx2') hW2).mono ?_);rintro e w3 ⟨rfl,r3,hW3,hrr3,hu3⟩;have hI3:=hI2.put hW2 HFF.out hW3 hu3;have hb3:=hu3.blk hb2 (fun e=>e.elim hn2.1 hn2.2);have q1:w3.cell? ⟨g1,1,none⟩=some (.int .i64 (wd:Int)):=hb3.cell 1;have q2:w3.cell? ⟨g1,2,none⟩=some (.int .i64 (vl:Int)):=hb3.cell 2;have q3:w3.cell? ⟨pw,0,none⟩=some (.pointer (some ⟨gw,0,none⟩)):=hI3.q.cell 0)
    | (go_at_call 156;(with_reducible refine (HPU2.out _ _ hW3).mono ?_);rintro e w4 ⟨rfl,r4,hW4,hrr4,hu4⟩))
   go_ret;rw[HR1.out];have hI4:=hI3.put hW3 (fun x=>Iff.rfl) hW4 hu4;have hs2:=hx2'.size;have hs3:=hu3.size;refine⟨rfl, ?_,_,hI4, ?_⟩
   ·refine ((yB (S:=F) hx2').trans hu3 (fun x hx=>.inl ((HFF.out x).2 hx))).trans hu4 (fun x hx=> ?_);rcases hx with e | e
    ·exact .inl ((HFF.out x).2 (.inl e))
    ·rcases hrr3 with e3 | ⟨y,e3,hy⟩
     ·exact .inl ((HFF.out x).2 (.inr (e3 ▸ e)))
     ·rw[e3] at e;have:=Option.some.inj e;exact .inr (by omega)
   ·intro x hx;rcases hx with e | e
    ·exact .inl ((HFF.out x).2 (.inl e))
    ·rcases hrr4 with e4 | ⟨y,e4,hy⟩
     ·rw[e4] at e;rcases hrr3 with e3 | ⟨y,e3,hy⟩
      ·exact .inl ((HFF.out x).2 (.inr (e3 ▸ e)))
      ·rw[e3] at e;have:=Option.some.inj e;exact .inr (by omega)
     ·rw[e4] at e;have:=Option.some.inj e;exact .inr (by omega)
def goesEnc:zAp Tryz.prog 153:=⟨_,Tryz.func153,by kernel_rfl,by kernel_rfl⟩
def encEat (pc pw gk gw gc1 gc2:Nat) (T1 T2:List Tok) (f1:zBe T1) (f2:zBe T2) (W0:World):Eat 153 #[.pointer (some ⟨pc,0,none⟩),.pointer (some ⟨pw,0,none⟩)] (EncIn pc pw gk gw gc1 gc2 T1 T2 W0) (xK T1 T2) (fun L=>L.length≤1000000000) :=
 ⟨goesEnc,fun l s h=>wD1 (zNs T1 T2 l s) h,fun t b s F W hC hw h=>by simpa using encFn_any pc pw gk gw gc1 gc2 T1 T2 f1 f2 W0 t b s F W hC hw h,fun s F W W' h hx=>h.ext hx,fun s F W x h hx=>by
  obtain⟨r,hr,hF⟩:=h.r;rcases (hF x).1 hx with rfl | e
  ·exact hr.lt
  ·exact (hr.row x e).2⟩
end
def yY (wd hi pt:Int) (qs:List Int) (t1 t2:List Value) (ev:Int) (sd:Value):List Value:=ints [wd,hi,pt]++ints qs++t1++t2++[.int .i64 ev,sd]
def yQ:(Tryz.prog.info? 47).map (·.size)=some 103:=by kernel_rfl
def qP:(Tryz.prog.info? 44).map (·.size)=some 34:=by kernel_rfl
def zAN:(Tryz.prog.info? 42).bind (·.zero)=some (.agg (ints (List.replicate 16 0)++[Value.slice none 0 0]).toArray):=by kernel_rfl
def uW {w:World} {g:Nat} {T:TypeId} {a m b:List Value} (h:Blk w g T (a++(m++b)).toArray):w.rangeAt g a.length m:=by
 intro j v hv;rw[h.cell,wH5,wG8 (by omega),wO6,wG7 (wC2.1 hv).1];exact hv
structure FileB (w:World) (g:Nat) (wd hi pt:Int) (qs:List Int) (t1 t2:List Value) (ev:Int) (sd:Value):Prop where
 c0:w.cell? ⟨g,0,none⟩=some (.int .i64 wd)
 c1:w.cell? ⟨g,1,none⟩=some (.int .i64 hi)
 c2:w.cell? ⟨g,2,none⟩=some (.int .i64 pt)
 q:w.rangeAt g 3 (ints qs)
 ta:w.rangeAt g 67 t1
 tb:w.rangeAt g 84 t2
 tt:w.rangeAt g 67 (t1++t2)
 c101:w.cell? ⟨g,101,none⟩=some (.int .i64 ev)
 c102:w.cell? ⟨g,102,none⟩=some sd
def zBu {w:World} {g:Nat} {T:TypeId} {wd hi pt:Int} {qs:List Int} {t1 t2:List Value} {ev:Int} {sd:Value} (h:Blk w g T (yY wd hi pt qs t1 t2 ev sd).toArray) (hq:qs.length=64) (h1:t1.length=17) (h2:t2.length=17) :
 FileB w g wd hi pt qs t1 t2 ev sd:=by
 have hql:=(yA qs).trans hq;have r0:w.rangeAt g 0 (ints [wd,hi,pt]):=uW (a:=[]) (m:=ints [wd,hi,pt]) (b:=ints qs++t1++t2++[.int .i64 ev,sd]) (T:=T) (by simpa [yY] using h);have r1:=uW (a:=ints [wd,hi,pt]) (m:=ints qs) (b:=t1++t2++[.int .i64 ev,sd]) (T:=T) (w:=w) (g:=g) (by simpa [yY] using h);have r2:=uW (a:=ints [wd,hi,pt]++ints qs) (m:=t1) (b:=t2++[.int .i64 ev,sd]) (T:=T) (w:=w) (g:=g) (by simpa [yY] using h);have r3:=uW (a:=ints [wd,hi,pt]++ints qs++t1) (m:=t2) (b:=[.int .i64 ev,sd]) (T:=T) (w:=w) (g:=g) (by simpa [yY] using h);have r4:=uW (a:=ints [wd,hi,pt]++ints qs) (m:=t1++t2) (b:=[.int .i64 ev,sd]) (T:=T) (w:=w) (g:=g) (by simpa [yY] using h);have r5:=uW (a:=ints [wd,hi,pt]++ints qs++t1++t2) (m:=[.int .i64 ev,sd]) (b:=[]) (T:=T) (w:=w) (g:=g) (by simpa [yY] using h);simp only[wF3,hql,h1,h2,yA,wA8,wM9] at r1 r2 r3 r4 r5;exact⟨r0 0 _ rfl,r0 1 _ rfl,r0 2 _ rfl,r1,r2,r3,r4,r5 0 _ rfl,r5 1 _ rfl⟩
def zEJ (wd hi pt:Int) (qs:List Int) (t1 t2:List Value) (ev:Int) (sd:Value) (hq:qs.length=64) (h1:t1.length=17) (h2:t2.length=17):(yY wd hi pt qs t1 t2 ev sd).toArray.size=103:=by
 simp[yY,yA,hq,h1,h2]
def zQ (cs:List Int) (sl:Value):List Value:=ints cs++[sl]
def zU (cs:List Int) (sl:Value) (h:cs.length=16):(zQ cs sl).length=17:=by simp[zQ,yA,h]
def zGY (t1 t2:List Value) (h1:t1.length=17) (h2:t2.length=17):Tryz.prog.builtSlice 42 2 [(0,.agg t1.toArray),(1,.agg t2.toArray)]=some (t1++t2).toArray:=by
 match t1,h1 with
 | [a0,a1,a2,a3,a4,a5,a6,a7,a8,a9,a10,a11,a12,a13,a14,a15,a16],_ =>
   match t2,h2 with
   | [b0,b1,b2,b3,b4,b5,b6,b7,b8,b9,b10,b11,b12,b13,b14,b15,b16],_ =>
     show _=_
     kernel_rfl
def uY {w:World} {g:Nat} {T:TypeId} {t1 t2:List Value} (h1:t1.length=17) (h:Blk w g T (t1++t2).toArray):w.rangeAt g 0 t1∧w.rangeAt g 17 t2:=by
 refine⟨uW (a:=[]) (m:=t1) (b:=t2) (T:=T) (by simpa using h), ?_⟩;have:=uW (a:=t1) (m:=t2) (b:=[]) (T:=T) (w:=w) (g:=g) (by simpa using h)
 rwa [h1] at this
def zDc (wd hi pt ev:Int):Bool:=inB wd 1 64&&inB hi 1 64&&(pt ==1 ||pt ==3)&&inB ev 0 100
def zDl (wd hi pt:Int) (qs:List Int) (z1 z2:Int) (ev:Int) (n:Nat):Int :=
 if zDc wd hi pt ev&&zR qs 1 255 then (if z1=0 then (if z2=0 then (if 90000<n then 2 else 0) else z2) else z1) else 1
section
variable {P:Program} {o:Oper} {a:Act}
def zAA {t:TypeId} {x y:Operand} (ho:o.op=.build t #[(0,x),(1,y)]) {vx vy:Value} (hx:a.eval x=vx) (hy:a.eval y=vy) {cs:Array Value} (hf:P.built t [(0,vx),(1,vy)]=some cs) (w:World):(execOp a.eval o).run P w=.ok (.value (.agg cs)) w:=by
 simp only[execOp,ho,Sem.run_bind,run_build w t (#[(0,x),(1,y)].map fun (i,x)=>(i,a.eval x)) cs (by simpa [hx,hy] using hf),Result.andThen_ok,Sem.run_pure]
end
def zRp (p q:Addr):Tryz.prog.built 236 [(0,.pointer (some p)),(1,.pointer (some q))]=some #[.pointer (some p),.pointer (some q)]:=by
 show _=_
 kernel_rfl
def goesNew:zAp Tryz.prog 184:=⟨_,Tryz.func184,by kernel_rfl,by kernel_rfl⟩
section
variable {P:Program} {o:Oper} {a:Act}
def zDW {ty:TypeId} {x:Operand} (ho:o.op=.load ty x) {b off:Nat} (hx:a.eval x=.pointer (some ⟨b,off,none⟩)) {cs:List Value} {w:World} (hc:w.rangeAt b off cs) {d:TypeDesc} (hu:P.underlying ty=some d) (hd:d.isRow=true) (hi:(P.info? ty).map (·.size)=some cs.length) :
 (execOp a.eval o).run P w=.ok (.value (.agg cs.toArray)) w:=by
 simp only[execOp,ho,hx,Sem.run_bind,run_loadAt_mid w b off ty cs d hc hu hd hi,Result.andThen_ok,Sem.run_pure]
end
def zFf (T1 T2:List Tok) (t1 t2:List Value) (w:World) (h1:t1.length=17) (h2:t2.length=17)
 (o1:t1.toArray.all (·.oneCell')=true) (o2:t2.toArray.all (·.oneCell')=true)
 (C1: ∀ W,Ext w W→Calls Tryz.prog 102 #[.agg t1.toArray] W fun e W'=>e=.returned (.int .i64 0)∧Ext W W')
 (C2: ∀ W,Ext w W→Calls Tryz.prog 102 #[.agg t2.toArray] W fun e W'=>e=.returned (.int .i64 0)∧Ext W W')
 (N1: ∀ W,Ext w W→Calls Tryz.prog 184 #[.agg t1.toArray] W fun e W'=> ∃ gc,e=.returned (.pointer (some ⟨gc,0,none⟩))∧CoderS W' gc T1∧Ext W W')
 (N2: ∀ W,Ext w W→Calls Tryz.prog 184 #[.agg t2.toArray] W fun e W'=> ∃ gc,e=.returned (.pointer (some ⟨gc,0,none⟩))∧CoderS W' gc T2∧Ext W W') :
 Calls Tryz.prog 152 #[.agg (t1++t2).toArray] w fun e w'=> ∃ gk gc1 gc2,e=.returned (.tuple #[.pointer (some ⟨gk,0,none⟩),.int .i64 0])∧Blk w' gk 236 #[.pointer (some ⟨gc1,0,none⟩),.pointer (some ⟨gc2,0,none⟩)]∧CoderS w' gc1 T1∧CoderS w' gc2 T2∧Ext w w':=by
 have HN1:=zA N1;have HN2:=zA N2;clear N1 N2;have hl1:=zA h1;have hl2:=zA h2;have HB2:=zA (zGY t1 t2 h1 h2);have HRT:=zA (fun W g (hb:Blk W g 42 (t1++t2).toArray)=>uY h1 hb);have HRU:=zA (fun W g (hb:Blk W g 44 (t1++t2).toArray)=>uY h1 hb);have hs1:Hid (t1.toArray.size=17):=zA (by simpa using h1);have hs2:Hid (t2.toArray.size=17):=zA (by simpa using h2);have hz17:Hid ((ints (List.replicate 16 0)++[Value.slice none 0 0]).toArray.size=17):=zA (by simp[ints]);have hl3:Hid ((t1++t2).toArray.size=34):=zA (by simp[h1,h2]);have HO1:=zA o1;have HO2:=zA o2;have HC1:=zA C1;have HC2:=zA C2;clear o1 o2 C1 C2 h1 h2;go_enter Tryz.func152,Tryz.ntmps152
 go_wp2_with (first
  | ((with_reducible apply gS 1);refine wBox rfl 44 (.tmp 0) rfl (t1++t2).toArray rfl ?_;intro w1 g hb1 hx1 hg;have hr1:=HRU.out _ _ hb1)
  | ((with_reducible apply gS 8);refine wpList_load_mid rfl 42 (.tmp 7) rfl g 0 rfl t1 _ hr1.1 Tryz.underlying42 rfl (by rw[hl1.out];exact zS) ?_)
  | ((with_reducible apply gS 10);refine wpList_load_mid rfl 42 (.tmp 9) rfl g 17 rfl t2 _ hr1.2 Tryz.underlying42 rfl (by rw[hl2.out];exact zS) ?_)
  | ((with_reducible apply gS 11);refine Go.Great.wpList_buildSliceTo rfl 115 42 2 _ rfl _ rfl (some 11) rfl Tryz.underlying115 _ (by simp[Act.eval];exact HB2.out) ?_))
 have hbn0:=Blk.new w1 42 (t1++t2).toArray;have hb3:=hb1.alloc (.cells (t1++t2).toArray 42);have hx3:=hx1.alloc (.cells (t1++t2).toArray 42);clear hb1 hr1 hx1
 go_loopw [13] (fun i wr=> ∃ k:Nat,k≤2∧i=.int .i64 (k:Int)∧Blk wr g 44 (t1++t2).toArray∧Blk wr w1.heap.size 42 (t1++t2).toArray∧Ext w wr) (fun i _=>2-(intOf i).toNat)
 case atStart=>exact⟨0,by omega,rfl,hb3,hbn0,hx3⟩
 case round =>
  clear hb3 hbn0 hx3;obtain⟨k,hk,rfl,hb,hbn,hx⟩:=hrel;rcases (by omega:k=0∨k=1∨k=2) with rfl | rfl | rfl
  ·have hr:=(HRT.out _ _ hbn).1
   go_wp2_with (first
    | ((with_reducible apply gS 16);refine wpList_load_mid rfl 42 (.tmp 15) rfl _ 0 rfl t1 _ hr Tryz.underlying42 rfl (by rw[hl1.out];exact zS) ?_)
    | ((with_reducible apply gS 5);refine wAlo' rfl (some 5) rfl 42 rfl _ zAN ?_;intro w4 ga hba4 hx4 hga)
    | ((with_reducible apply gT 5 16);refine wStB rfl 42 (.tmp 5) (.tmp 16) rfl _ _ rfl rfl hba4 17 zS hs1.out hz17.out HO1.out ?_;intro w5 hba5 hg5;have hx5:=(hx.trans hx4).grown hg5 (by have:=hx.size;omega))
    | ((with_reducible apply gS 17);refine wLdB rfl 42 (.tmp 5) rfl _ rfl hba5 _ Tryz.underlying42 rfl 17 zS hs1.out ?_)
    | (go_at_call 102;(with_reducible refine (HC1.out _ hx5).mono ?_);rintro e w6 ⟨rfl,hx6⟩))
   go_roundw
   case rel=>exact⟨1,by omega,by go_num,((hb.ext hx4).grown hg5 (by have:=hb.lt;simp;omega)).ext hx6,((hbn.ext hx4).grown hg5 (by have:=hbn.lt;simp;omega)).ext hx6,hx5.trans hx6⟩
   case measure=>simp[intOf]
  ·have hr:=(HRT.out _ _ hbn).2
   go_wp2_with (first
    | ((with_reducible apply gS 16);refine wpList_load_mid rfl 42 (.tmp 15) rfl _ 17 rfl t2 _ hr Tryz.underlying42 rfl (by rw[hl2.out];exact zS) ?_)
    | ((with_reducible apply gS 5);refine wAlo' rfl (some 5) rfl 42 rfl _ zAN ?_;intro w4 ga hba4 hx4 hga)
    | ((with_reducible apply gT 5 16);refine wStB rfl 42 (.tmp 5) (.tmp 16) rfl _ _ rfl rfl hba4 17 zS hs2.out hz17.out HO2.out ?_;intro w5 hba5 hg5;have hx5:=(hx.trans hx4).grown hg5 (by have:=hx.size;omega))
    | ((with_reducible apply gS 17);refine wLdB rfl 42 (.tmp 5) rfl _ rfl hba5 _ Tryz.underlying42 rfl 17 zS hs2.out ?_)
    | (go_at_call 102;(with_reducible refine (HC2.out _ hx5).mono ?_);rintro e w6 ⟨rfl,hx6⟩))
   go_roundw
   case rel=>exact⟨2,by omega,by go_num,((hb.ext hx4).grown hg5 (by have:=hb.lt;simp;omega)).ext hx6,((hbn.ext hx4).grown hg5 (by have:=hbn.lt;simp;omega)).ext hx6,hx5.trans hx6⟩
   case measure=>simp[intOf]
  ·have HRD:=zA (fun W (h:Ext wr W)=>HRU.out W g (hb.ext h));clear hb hbn;go_wp2_with fail;have hI:Ext wr wr.drew:=(Ext.refl wr).drew;refine jA (Ext wr) (by kernel_rfl) ?_;refine zJ (k:=0) (by kernel_rfl) rfl (by rfl) (.pointer (some ⟨g,0,none⟩)) (fun w=>by go_simp) hI ?_;simp only[sP,sB,sC];refine xM (k:=1) (by kernel_rfl) rfl (by rfl) (.agg t1.toArray) (fun W hW=>zDW rfl rfl (HRD.out W hW).1 Tryz.underlying42 rfl (by rw[hl1.out];exact zS)) hI ?_;simp only[Act.put,sA,sB,sC];refine zJ (k:=3) (by kernel_rfl) rfl (by rfl) (.pointer (some ⟨g,17,none⟩)) (fun w=>by go_simp) hI ?_;simp only[sP,sB,sC];refine xM (k:=4) (by kernel_rfl) rfl (by rfl) (.agg t2.toArray) (fun W hW=>zDW rfl rfl (HRD.out W hW).2 Tryz.underlying42 rfl (by rw[hl2.out];exact zS)) hI ?_;simp only[Act.put,sA,sB,sC];refine qO (k:=2) (by kernel_rfl) rfl ?_;refine xP (by rfl) (xQ _ _ _ rfl rfl goesNew #[.agg t1.toArray] (by simp[Act.eval])) ?_;refine (HN1.out _ (hx.trans hI)).mono ?_;rintro e w5 ⟨gc1,rfl,hc1,hx5⟩;have hI5:=hI.trans hx5;refine⟨_,rfl,zX ⟨hI5, ?_⟩⟩;simp only[Act.put,sA,sB,sC];refine qO (k:=5) (by kernel_rfl) rfl ?_;refine xP (by rfl) (xQ _ _ _ rfl rfl goesNew #[.agg t2.toArray] (by simp[Act.eval])) ?_;refine (HN2.out _ (hx.trans hI5)).mono ?_;rintro e w6 ⟨gc2,rfl,hc2,hx6⟩;have hI6:=hI5.trans hx6;refine⟨_,rfl,zX ⟨hI6, ?_⟩⟩;simp only[Act.put,sA,sB,sC];refine zJ (k:=6) (by kernel_rfl) rfl (by rfl) (.agg #[.pointer (some ⟨gc1,0,none⟩),.pointer (some ⟨gc2,0,none⟩)]) (zAA rfl rfl rfl (zRp _ _)) hI6 ?_;simp only[sP,sB,sC];refine qO (k:=7) (by kernel_rfl) rfl ?_;refine wBox rfl 236 (.tmp 29) rfl #[.pointer (some ⟨gc1,0,none⟩),.pointer (some ⟨gc2,0,none⟩)] rfl ?_;intro w7 gk hb7 hx7 hg7;have hI7:=hI6.trans hx7;refine zX ⟨hI7, ?_⟩;simp only[Act.put,sA,sB,sC];refine zJ (k:=8) (by kernel_rfl) rfl (by rfl) (.pointer (some ⟨gk,0,none⟩)) (zW rfl rfl) hI7 ?_;simp only[sP,sB,sC];refine zJ (k:=9) (by kernel_rfl) rfl (by rfl) (.int .i64 0) (zW rfl rfl) hI7 ?_;simp only[sP,sB,sC];refine uX (by kernel_rfl) ?_;go_wp2_with fail;refine bodyPost_ret (results_tmp2 rfl _ _ _) rfl ?_;exact⟨gk,gc1,gc2,rfl,hb7,(hc1.ext hx6).ext hx7,hc2.ext hx7,hx.trans hI7⟩
def xY:List Nat→List (List Nat)→List Nat→List Nat→Option (List (List Nat)×List Nat)
 | [],P,M,c=>some (P++[c],M)
 | [x],P,M,c=>if x=255 then none else some (P++[c++[x]],M)
 | x::y::r,P,M,c=>if x=255 then (if y=255 then none else if y=0 then xY r P M (c++[255,0]) else xY r (P++[c]) (M++[y]) []) else xY (y::r) P M (c++[x])
def sp_end {bs:List Nat} {i:Nat} {P:List (List Nat)} {M c:List Nat} (h:bs.length≤i):xY (bs.drop i) P M c=some (P++[c],M):=by
 rw[wM5 h,xY]
def sp_plain {bs:List Nat} {i:Nat} {P:List (List Nat)} {M c:List Nat} (h:i<bs.length) (hx:bs[i]≠255):xY (bs.drop i) P M c=xY (bs.drop (i+1)) P M (c++[bs[i]]):=by
 rw[wG3 h]
 cases hd:bs.drop (i+1) with
 | nil=>simp[xY,hx]
 | cons y r=>simp[xY,hx]
def sp_two {bs:List Nat} {i:Nat} {P:List (List Nat)} {M c:List Nat} (h:i+1<bs.length) (hx:bs[i]=255) :
 xY (bs.drop i) P M c=if bs[i+1]=255 then none else if bs[i+1]=0 then xY (bs.drop (i+2)) P M (c++[255,0]) else xY (bs.drop (i+2)) (P++[c]) (M++[bs[i+1]]) []:=by
 rw[wG3 (by omega),wG3 h,xY,if_pos hx]
def sp_last {bs:List Nat} {i:Nat} {P:List (List Nat)} {M c:List Nat} (h:i+1=bs.length) (hx:bs[i]'(by omega)=255):xY (bs.drop i) P M c=none:=by
 rw[wG3 (by omega),wM5 (by omega),xY,if_pos hx]
def zLZ: ∀ (r:List Nat) (P:List (List Nat)) (M c:List Nat) (z:List (List Nat)×List Nat),xY r P M c=some z→z.1.length≤P.length+r.length+1∧z.2.length≤M.length+r.length
 | [],P,M,c,z,h=>by simp[xY] at h;subst h;simp
 | [x],P,M,c,z,h=>by
   simp only[xY] at h;split at h
   ·cases h
   ·simp at h;subst h;simp
 | x::y::r,P,M,c,z,h=>by
   simp only[xY] at h;split at h
   ·split at h
    ·cases h
    ·split at h
     ·have:=zLZ r P M (c++[255,0]) z h;simp only[wA8];omega
     ·have:=zLZ r (P++[c]) (M++[y]) [] z h;simp only[wF3,wA8,wM9] at this ⊢;omega
   ·have:=zLZ (y::r) P M (c++[x]) z h;simp only[wA8] at this ⊢;omega
def Pieces (w:World) (VS:List Value) (P:List (List Nat)):Prop :=
 VS.length=P.length∧ ∀ i (h:i<P.length), ∃ A c,VS[i]? =some (.slice A P[i].length c)∧SL w 1 (.slice A P[i].length c) P[i].length (zF P[i])
def Pieces.ext {w w':World} {VS:List Value} {P:List (List Nat)} (h:Pieces w VS P) (hx:Ext w w'):Pieces w' VS P :=
 ⟨h.1,fun i hi=>by obtain⟨A,c,h1,h2⟩:=h.2 i hi;exact⟨A,c,h1,h2.ext hx⟩⟩
def Pieces.snoc {w:World} {VS:List Value} {P:List (List Nat)} (h:Pieces w VS P) {A:Option Addr} {n c:Nat} {l:List Nat} (hn:l.length=n) (hs:SL w 1 (.slice A n c) n (zF l)):Pieces w (VS++[.slice A n c]) (P++[l]):=by
 subst hn;refine⟨by simp[h.1],fun i hi=> ?_⟩
 by_cases hlt:i<P.length
 ·obtain⟨B,d,h1,h2⟩:=h.2 i hlt;refine⟨B,d, ?_, ?_⟩
  ·rw[wG7 (by rw[h.1];exact hlt),h1,wO7 hlt]
  ·rw[wO7 hlt];exact h2
 ·have e:i=P.length:=by simp at hi;omega
  subst e;refine⟨A,c, ?_, ?_⟩
  ·rw[wG8 (by rw[h.1];exact wA5 _),h.1];simp
  ·simpa using hs
def b8 (s:List Nat):List UInt8:=s.map UInt8.ofNat
def zIl (s:List Nat):(b8 s).length=s.length:=by simp[b8]
def b8_drop (s:List Nat) (k:Nat):b8 (s.drop k)=(b8 s).drop k:=by simp[b8]
def ixN (s o:List Nat):Int:=Lib.index (b8 s) (b8 o)
def zAw (s o:List Nat):Nat:=Lib.count (b8 s) (b8 o)
def zBV:Nat→List Nat→List Nat→List Nat→List Nat
 | 0,s,_,_=>s
 | m+1,s,o,v=>s.take (ixN s o).toNat++(v++zBV m (s.drop ((ixN s o).toNat+o.length)) o v)
def zIy {o:List Nat} (h:o≠[]):b8 o≠[]:=by
 intro e;have:=congrArg List.length e;rw[zIl] at this;exact h (wC6 this)
def zGq {s o:List Nat} {m:Nat} (ho:o≠[]) (h:zAw s o=m+1): ∃ i:Nat,ixN s o=i∧i+o.length≤s.length∧zAw (s.drop (i+o.length)) o=m:=by
 unfold zAw at h;have hge:=Lib.index_ge (b8 s) (b8 o);have hne:Lib.index (b8 s) (b8 o)≠ -1:=fun e=>by rw[Lib.count_miss e] at h;omega
 obtain⟨i,hi⟩: ∃ i:Nat,Lib.index (b8 s) (b8 o)=i:=⟨(Lib.index (b8 s) (b8 o)).toNat,by omega⟩
 have hr:=Lib.index_room (b8 s) (b8 o) (by omega);rw[hi,zIl,zIl] at hr;rw[Lib.count_hit (zIy ho) hi,zIl] at h;refine⟨i,hi,by omega, ?_⟩;unfold zAw;rw[b8_drop];omega
def zOD: ∀ (m:Nat) (s o v:List Nat),o≠[]→zAw s o=m→(zBV m s o v).length+m*o.length=s.length+m*v.length
 | 0,s,o,v,_,_=>by simp[zBV]
 | m+1,s,o,v,ho,h=>by
   obtain⟨i,h1,h2,h3⟩:=zGq ho h;have ih:=zOD m _ o v ho h3;rw[zBV,h1,wF0,wF3,wF3,wI8,wO8 (by omega),wO9,wO9];rw[wK1] at ih;omega
def zOw: ∀ (m:Nat) (s o:List Nat),o≠[]→zAw s o=m→m*o.length≤s.length
 | 0,s,o,_,_=>by simp
 | m+1,s,o,ho,h=>by
   obtain⟨i,h1,h2,h3⟩:=zGq ho h;have ih:=zOw m _ o ho h3;rw[wK1] at ih;rw[wO9];omega
def ix_nil {o:List Nat} (ho:o≠[]):ixN [] o= -1:=by
 unfold ixN
 cases h:b8 o with
 | nil=>exact absurd h (zIy ho)
 | cons=>simp[b8,Lib.index]
def cnt_nil {o:List Nat} (ho:o≠[]):zAw [] o=0:=Lib.count_miss (ix_nil ho)
def ix_here {s o:List Nat} (hp:(b8 o).isPrefixOf (b8 s)=true):ixN s o=0:=by
 unfold ixN
 cases s with
 | nil =>
   cases hq:b8 o with
   | nil=>simp[b8,Lib.index]
   | cons=>rw[hq] at hp;simp[b8] at hp
 | cons b l =>
   rw[show b8 (b::l)=UInt8.ofNat b::b8 l from rfl] at hp ⊢;rw[Lib.index,if_pos hp]
def ix_skip {b:Nat} {l o:List Nat} (hp:(b8 o).isPrefixOf (b8 (b::l))=false):ixN (b::l) o=if ixN l o= -1 then -1 else ixN l o+1:=by
 unfold ixN;rw[show b8 (b::l)=UInt8.ofNat b::b8 l from rfl] at hp ⊢;rw[Lib.index,hp];simp
def cnt_here {s o:List Nat} (ho:o≠[]) (hp:(b8 o).isPrefixOf (b8 s)=true):zAw s o=1+zAw (s.drop o.length) o:=by
 unfold zAw;rw[Lib.count_hit (i:=0) (zIy ho) (ix_here hp),zIl,wB2,b8_drop]
def cnt_skip {b:Nat} {l o:List Nat} (ho:o≠[]) (hp:(b8 o).isPrefixOf (b8 (b::l))=false):zAw (b::l) o=zAw l o:=by
 have h:=ix_skip hp;have hge:=Lib.index_ge (b8 l) (b8 o)
 by_cases hm:ixN l o= -1
 ·rw[if_pos hm] at h;unfold zAw;rw[Lib.count_miss h,Lib.count_miss hm]
 ·rw[if_neg hm] at h;obtain⟨i,hi⟩: ∃ i:Nat,ixN l o=i:=⟨(ixN l o).toNat,by unfold ixN at *;omega⟩
  rw[hi] at h;unfold zAw;rw[Lib.count_hit (i:=i+1) (zIy ho) (by have:=h;unfold ixN at this;rw[this];rfl),Lib.count_hit (i:=i) (zIy ho) hi];rw[show b8 (b::l)=UInt8.ofNat b::b8 l from rfl,show i+1+(b8 o).length=(i+(b8 o).length)+1 by omega,wN8]
def zBX (s o v:List Nat):List Nat:=zBV (zAw s o) s o v
def zIE {o:List Nat} (ho:o≠[]) (v:List Nat):zBX [] o v=[]:=by unfold zBX;rw[cnt_nil ho,zBV]
def zKx {s o:List Nat} (ho:o≠[]) (hp:(b8 o).isPrefixOf (b8 s)=true) (v:List Nat):zBX s o v=v++zBX (s.drop o.length) o v:=by
 unfold zBX;rw[cnt_here ho hp,wB0,zBV,ix_here hp];simp
def zHl {b:Nat} {l o:List Nat} (ho:o≠[]) (hp:(b8 o).isPrefixOf (b8 (b::l))=false) (v:List Nat):zBX (b::l) o v=b::zBX l o v:=by
 unfold zBX;rw[cnt_skip ho hp]
 cases hc:zAw l o with
 | zero=>rfl
 | succ m =>
   obtain⟨i,h1,h2,h3⟩:=zGq ho hc;have h:=ix_skip hp;rw[h1,if_neg (by omega)] at h;rw[zBV,zBV,h,h1,show ((i:Int)+1).toNat=i+1 by omega,wF0,wJ9,show i+1+o.length=(i+o.length)+1 by omega,wN8];rfl
def u8_inj {a b:Nat} (ha:a<256) (hb:b<256):(UInt8.ofNat a ==UInt8.ofNat b)=decide (a=b):=by
 rw[wE3,beq_iff_eq,decide_eq_true_iff];constructor
 ·intro h;have:=congrArg UInt8.toNat h;simp at this;omega
 ·rintro rfl;rfl
def pre1 {b:Nat} {l:List Nat} (y:Nat) (hy:y<256) (hb:b<256):(b8 [y]).isPrefixOf (b8 (b::l))=decide (y=b):=by
 simp only[b8,wC8,wC9,List.isPrefixOf,Bool.and_true];exact u8_inj hy hb
def pre2 {b c:Nat} {l:List Nat} (y z:Nat) (hy:y<256) (hz:z<256) (hb:b<256) (hc:c<256):(b8 [y,z]).isPrefixOf (b8 (b::c::l))=(decide (y=b)&&decide (z=c)):=by
 simp only[b8,wC8,wC9,List.isPrefixOf,Bool.and_true];rw[u8_inj hy hb,u8_inj hz hc]
def pre2_one {b:Nat} (y z:Nat):(b8 [y,z]).isPrefixOf (b8 [b])=false:=by
 simp[b8,List.isPrefixOf]
def count_one: ∀ (s:List UInt8) (c:UInt8),Lib.count s [c]=s.count c:=by
 have key: ∀ (n:Nat) (s:List UInt8) (c:UInt8),s.length≤n→Lib.count s [c]=s.count c:=by
  intro n
  induction n with
  | zero =>
    intro s c h;obtain rfl:s=[]:=wC6 (by omega);rfl
  | succ n ih =>
    intro s c h
    cases s with
    | nil=>rfl
    | cons b l =>
      have hl:l.length≤n:=by simpa using h
      by_cases hb:c=b
      ·have hix:Lib.index (b::l) [c]=((0:Nat):Int):=by
        rw[Lib.index,if_pos (by simp[List.isPrefixOf,hb])];rfl
       rw[Lib.count_hit (by simp) hix];rw[show (b::l).drop (0+[c].length)=l from rfl,ih l c hl,hb,List.count_cons_self];omega
      ·rw[List.count_cons_of_ne (fun e=>hb e.symm), ←ih l c hl]
       have hix:Lib.index (b::l) [c]=if (Lib.index l [c] == -1)=true then -1 else Lib.index l [c]+1:=by
        rw[Lib.index,if_neg (by simp[List.isPrefixOf,hb])]
       have hge:=Lib.index_ge l [c]
       by_cases hm:Lib.index l [c]= -1
       ·rw[hm] at hix;rw[Lib.count_miss hix,Lib.count_miss hm]
       ·obtain⟨i,hi⟩: ∃ i:Nat,Lib.index l [c]=i:=⟨(Lib.index l [c]).toNat,by omega⟩
        rw[if_neg (by simpa using hm),hi] at hix;rw[Lib.count_hit (i:=i+1) (by simp) (by rw[hix];rfl),Lib.count_hit (i:=i) (by simp) hi];rfl
 exact fun s c=>key s.length s c (wA5 _)
def qG (bs:List Nat):List Nat:=bs.flatMap fun b=>if b=255 then [255,0] else [b]
def zLh: ∀ (bs:List Nat),(∀ b∈bs,b<256)→zBX bs [255] [255,0]=qG bs
 | [],_=>by rw[zIE (by simp)];rfl
 | b::l,h=>by
   have hb:=h b (by simp);have ih:=zLh l (fun x hx=>h x (by simp[hx]));have hp:=pre1 (l:=l) 255 (by omega) hb
   by_cases hq:b=255
   ·rw[zKx (by simp) (by rw[hp];simp[hq])];rw[show (b::l).drop [255].length=l from rfl,ih];simp[qG,hq]
   ·rw[zHl (by simp) (by rw[hp];simpa using fun e=>hq e.symm),ih];simp[qG,hq]
def plZ:List Nat→Option (List Nat)
 | []=>some []
 | [b]=>if b=255 then none else some [b]
 | b::c::r=>if b=255 then (if c=0 then (plZ r).map (255:: ·) else none) else (plZ (c::r)).map (b:: ·)
def zGk: ∀ (bs:List Nat) (z:List Nat),(∀ b∈bs,b<256)→plZ bs=some z→zBX bs [255,0] [255]=z
 | [],z,_,hz=>by
   obtain rfl:[]=z:=by simpa [plZ] using hz
   exact zIE (by simp) _
 | [b],z,h,hz=>by
   rw[plZ] at hz;split at hz
   ·cases hz
   ·injection hz with hz
    rw[zHl (by simp) (pre2_one _ _),zIE (by simp),hz]
 | b::c::r,z,h,hz=>by
   have hb:=h b (by simp);have hc:=h c (by simp);have hp:=pre2 (l:=r) 255 0 (by omega) (by omega) hb hc;rw[plZ] at hz
   by_cases hq:b=255
   ·rw[if_pos hq] at hz
    by_cases h0:c=0
    ·rw[if_pos h0] at hz;rw[zKx (by simp) (by rw[hp];simp[hq,h0])]
     cases hr:plZ r with
     | none=>rw[hr] at hz;cases hz
     | some q =>
       rw[hr] at hz;injection hz with hz
       rw[show (b::c::r).drop [255,0].length=r from rfl,zGk r q (fun x hx=>h x (by simp[hx])) hr, ←hz];rfl
    ·rw[if_neg h0] at hz;cases hz
   ·rw[if_neg hq] at hz;rw[zHl (by simp) (by rw[hp,wL1 (fun e:255=b=>hq e.symm)];rfl)]
    cases hr:plZ (c::r) with
    | none=>rw[hr] at hz;cases hz
    | some q =>
      rw[hr] at hz;injection hz with hz
      rw[zGk (c::r) q (fun x hx=>h x (by simp[hx])) hr, ←hz]
def zMB: ∀ (bs:List Nat) (P:List (List Nat)) (M c:List Nat),(M≠[]∨plZ bs=none→ ∀ z,xY bs P M c=some z→z.2≠[])∧(M=[]→ ∀ q,plZ bs=some q→ ∃ z,xY bs P M c=some (z,[]))
 | [],P,M,c=>by
   rw[xY,plZ];refine⟨fun h z hz=> ?_,fun h q _=>⟨_,by rw[h]⟩⟩;injection hz with hz
   subst hz;rcases h with h | h
   ·exact h
   ·cases h
 | [x],P,M,c=>by
   rw[xY,plZ]
   by_cases hx:x=255
   ·rw[if_pos hx,if_pos hx];exact⟨fun _ z hz=>(by cases hz),fun _ q hq=>(by cases hq)⟩
   ·rw[if_neg hx,if_neg hx];refine⟨fun h z hz=> ?_,fun h q _=>⟨_,by rw[h]⟩⟩;injection hz with hz
    subst hz;rcases h with h | h
    ·exact h
    ·cases h
 | x::y::r,P,M,c=>by
   rw[plZ,xY]
   by_cases hx:x=255
   ·rw[if_pos hx,if_pos hx]
    by_cases h1:y=255
    ·rw[if_pos h1,if_neg (by omega)];exact⟨fun _ z hz=>(by cases hz),fun _ q hq=>(by cases hq)⟩
    ·rw[if_neg h1]
     by_cases h0:y=0
     ·rw[if_pos h0,if_pos h0];have ih:=zMB r P M (c++[255,0]);refine⟨fun h z hz=>ih.1 (h.imp_right fun h=> ?_) z hz,fun h q hq=> ?_⟩
      ·cases hr:plZ r with
       | none=>rfl
       | some q=>rw[hr] at h;cases h
      ·cases hr:plZ r with
       | none=>rw[hr] at hq;cases hq
       | some q'=>exact ih.2 h q' hr
     ·rw[if_neg h0,if_neg h0];exact⟨fun _ z hz=>(zMB r (P++[c]) (M++[y]) []).1 (.inl (by simp)) z hz,fun _ q hq=>(by cases hq)⟩
   ·rw[if_neg hx,if_neg hx];have ih:=zMB (y::r) P M (c++[x]);refine⟨fun h z hz=>ih.1 (h.imp_right fun h=> ?_) z hz,fun h q hq=> ?_⟩
    ·cases hr:plZ (y::r) with
     | none=>rfl
     | some q=>rw[hr] at h;cases h
    ·cases hr:plZ (y::r) with
     | none=>rw[hr] at hq;cases hq
     | some q'=>exact ih.2 h q' hr
def zNe: ∀ (bs:List Nat),(qG bs).length≤2*bs.length
 | []=>by simp[qG]
 | b::l=>by
   have:=zNe l;unfold qG at *;rw[wJ6,wF3,wA8];split
   ·rw[show [255,0].length=2 from rfl];omega
   ·rw[List.length_singleton];omega
def SL.sub {w:World} {A:Option Addr} {n c l h:Nat} {xs:List Value} (hs:SL w 1 (.slice A n c) n xs) (hl:l≤h) (hh:h≤n) :
 SL w 1 (.slice (if c=l then A else A.map (·.add l)) (h-l) (c-l)) (h-l) ((xs.drop l).take (h-l)):=by
 obtain⟨A',c',e,h1,h2,h3,h4⟩:=hs;injection e with e1 e2 e3
 subst e1 e3;refine⟨_,_,rfl,by omega,by omega,by simp;omega,fun h0=> ?_⟩;obtain⟨ad,rfl,hb,hc⟩:=h4 (by omega);rw[if_neg (by omega)];refine⟨ad.add l,rfl,by rw[yN];exact hb,fun j u hu=> ?_⟩;rw[zHi];refine hc _ _ ?_;have hj:j<h-l:=by have:=(wC2.1 hu).1;simp at this;omega
 rwa [wD0 hj,wB4] at hu
def zSy (A:Option Addr) (n c l h:Nat) (hl:l≤h) (hh:h≤n) (hc:n≤c) (w:World) :
 (Instr.slice 45 (.slice A n c) (some (.int .i64 (l:Int))) (some (.int .i64 (h:Int))) none).run Tryz.prog w=.ok (.slice (if c=l then A else A.map (·.add l)) (h-l) (c-l)) w:=by
 have e1:((l:Int)≤(h:Int)):=by omega
 have e2:((h:Int)≤(c:Int)):=by omega
 have e3:l≤c:=by omega
 go_simp
def zSJ (A:Option Addr) (n c l:Nat) (hh:l≤n) (hc:n≤c) (w:World) :
 (Instr.slice 45 (.slice A n c) (some (.int .i64 (l:Int))) none none).run Tryz.prog w=.ok (.slice (if c=l then A else A.map (·.add l)) (n-l) (c-l)) w:=by
 have e1:((l:Int)≤(n:Int)):=by omega
 have e2:((n:Int)≤(c:Int)):=by omega
 have e3:l≤c:=by omega
 go_simp
section
variable {o:Oper} {a:Act}
def zNq {x lo hi:Operand} (ho:o.op=.slice 45 x (some lo) (some hi) none) {A:Option Addr} {n c l h:Nat} (hx:a.eval x=.slice A n c) (h1:a.eval lo=.int .i64 (l:Int)) (h2:a.eval hi=.int .i64 (h:Int)) (hl:l≤h) (hh:h≤n) (hc:n≤c) (w:World) :
 (execOp a.eval o).run Tryz.prog w=.ok (.value (.slice (if c=l then A else A.map (·.add l)) (h-l) (c-l))) w:=by
 simp[execOp,ho,hx,h1,h2,Instr.sliceAt,Sem.run_bind,run_underlying Tryz.underlying45,zSy A n c l h hl hh hc w]
def zOR {x lo:Operand} (ho:o.op=.slice 45 x (some lo) none none) {A:Option Addr} {n c l:Nat} (hx:a.eval x=.slice A n c) (h1:a.eval lo=.int .i64 (l:Int)) (hh:l≤n) (hc:n≤c) (w:World) :
 (execOp a.eval o).run Tryz.prog w=.ok (.value (.slice (if c=l then A else A.map (·.add l)) (n-l) (c-l))) w:=by
 simp[execOp,ho,hx,h1,Instr.sliceAt,Sem.run_bind,run_underlying Tryz.underlying45,zSJ A n c l hh hc w]
end
def zPs (n:Nat): ∀ (k j:Nat) (h:j<(qF n k).length),((qF n k)[j]).toNat=n/2 ^ (k-1-j)%2
 | 0,j,h=>by simp[qF] at h
 | k+1,0,_=>by
   simp only[qF,List.getElem_cons_zero,wJ1,Nat.sub_zero];rcases (show n/2 ^ k%2=0∨n/2 ^ k%2=1 by omega) with h | h<;>simp[h]
 | k+1,j+1,h=>by
   have:=zPs n k j (by simpa [qF] using h);simp only[qF,List.getElem_cons_succ];rw[this];congr 3
   omega
def zRx (b:List Nat) (p:Nat) (h:p<(zM b).length) (h2:p/8<b.length):((zM b)[p]).toNat=b[p/8]/2 ^ (7-p%8)%2:=by
 have e:=digsOf_at b (p/8) h2;have hl:p%8<(qF b[p/8] 8).length:=by rw[qB];omega
 have e2:(zM b)[p]=(qF b[p/8] 8)[p%8]:=by
  have h3:(((zM b).drop (8*(p/8))).take 8)[p%8]? =(zM b)[p]? :=by
   rw[wD0 (by omega),wB4];congr 1
   omega
  rw[e,wA2 hl,wA2 h] at h3;exact (Option.some.inj h3).symm
 rw[e2,zPs]
def numB_next (b:List Nat) (at' i:Nat) (h:at'+i<(zM b).length) (h2:(at'+i)/8<b.length) :
 yJ (((zM b).drop at').take (i+1))=2*yJ (((zM b).drop at').take i)+b[(at'+i)/8]/2 ^ (7-(at'+i)%8)%2:=by
 rw[zGa _ _ (by simp;omega)];congr 1
 rw[←zRx b (at'+i) h h2];congr 1
 simp
def zDT (l:List Bool) (i k:Nat) (h:i≤k):yJ (l.take i)<2 ^ k:=numB_le _ _ (by rw[wI8];omega)
section
variable {o:Oper} {a:Act} {P:Program}
def zIk {x:Operand} (ho:o.op=.nilCheck x) {p:Addr} (hx:a.eval x=.pointer (some p)) (w:World):(execOp a.eval o).run P w=.ok (.value (.pointer (some p))) w:=by
 simp[execOp,ho,hx]
def zCJ {op:BinOp} {t:TypeId} {x y:Operand} {t2:TypeId} (ho:o.op=.binOp op t x y t2) {k k':IntKind} {m n:Int} (hx:a.eval x=.int k m) (hy:a.eval y=.int k' n) {v:Value}
 (hr: ∀ w,(binOp op t (.int k m) (.int k' n)).run P w=.ok v w) (w:World):(execOp a.eval o).run P w=.ok (.value v) w:=by
 simp[execOp,ho,hx,hy,guardG,hr]
end
def zKO (m:Nat) (h:m<1099511627776) (W:World):(binOp .shl 3 (.int .i64 (m:Int)) (.int .u64 1)).run Tryz.prog W=.ok (.int .i64 ((2*m:Nat):Int)) W:=by
 have e:IntKind.i64.wrap ((m:Int)*2 ^ (min 1 IntKind.i64.bits))=((2*m:Nat):Int):=by
  rw[show min 1 IntKind.i64.bits=1 by decide,IntWalk.i64_in _ (by omega)];omega
 have e3:(2*(m:Int))=((2*m:Nat):Int):=by omega
 simp[binOp,Op.shift,e]
def run_shr8 (x s:Nat) (hx:x<256) (hs:s<8) (W:World):(binOp .shr 5 (.int .u8 (x:Int)) (.int .i64 (s:Int))).run Tryz.prog W=.ok (.int .u8 ((x/2 ^ s:Nat):Int)) W:=by
 have e2: ¬((s:Int)<0):=by omega
 have hs':s=0∨s=1∨s=2∨s=3∨s=4∨s=5∨s=6∨s=7:=by omega
 rcases hs' with rfl | rfl | rfl | rfl | rfl | rfl | rfl | rfl<;>simp[binOp,Op.shift]
def run_and8 (y:Nat) (h:y<256) (W:World):(binOp .and 5 (.int .u8 (y:Int)) (.int .u8 1)).run Tryz.prog W=.ok (.int .u8 ((y%2:Nat):Int)) W:=by
 have e:bits .and .u8 (y:Int) 1=((y%2:Nat):Int):=by
  have: ∀ y:Fin 256,bits .and .u8 ((y.val:Nat):Int) 1=((y.val%2:Nat):Int):=by decide+kernel
  exact this ⟨y,h⟩
 simp[binOp,intBits_and,e]
def run_or2 (m b:Nat) (h:m<1099511627776) (hb:b<2) (W:World):(binOp .or 3 (.int .i64 ((2*m:Nat):Int)) (.int .i64 (b:Int))).run Tryz.prog W=.ok (.int .i64 ((2*m+b:Nat):Int)) W:=by
 have e:bits .or .i64 ((2*m:Nat):Int) (b:Int)=((2*m+b:Nat):Int):=by
  have hx:2*m |||b=2*m+b:=nat_join1 _ _ (by omega) hb
  show IntKind.i64.wrap ((BitVec.ofInt 64 ((2*m:Nat):Int) |||BitVec.ofInt 64 (b:Int)).toNat:Int)=_
  rw[BitVec.toNat_or,BitVec.ofInt_natCast,BitVec.ofInt_natCast,BitVec.toNat_ofNat,BitVec.toNat_ofNat,wL8 (by omega),wL8 (by omega),hx];exact IntWalk.i64_in _ (by omega)
 have e2:binOp .or 3 (.int .i64 ((2*m:Nat):Int)) (.int .i64 (b:Int))=pure (.int .i64 (bits .or .i64 ((2*m:Nat):Int) (b:Int))):=by rw[binOp_or,intBits_or]
 rw[e2,e];rfl
def zJZ:(Tryz.prog.info? 5).map (·.size)=some 1:=by kernel_rfl
def RdS (w:World) (gr:Nat) (A:Option Addr) (n c p:Nat) (bs:List Nat):Prop :=
 Blk w gr 246 #[.slice A n c,.int .i64 (p:Int)]∧SL w 1 (.slice A n c) n (zF bs)∧bs.length=n∧(0<n→ ∀ ad,A=some ad→ad.block<gr)∧(∀ b∈bs,b<256)∧n≤100000000000∧p≤8*n
def RdS.cells {w:World} {gr:Nat} {A:Option Addr} {n c p:Nat} {bs:List Nat} (h:RdS w gr A n c p bs):w.cell? ⟨gr,0,none⟩=some (.slice A n c)∧w.cell? ⟨gr,1,none⟩=some (.int .i64 (p:Int)):=by
 have h0:=h.1.cell 0;have h1:=h.1.cell 1;exact⟨h0,h1⟩
def RdS.ext {w w':World} {gr:Nat} {A:Option Addr} {n c p:Nat} {bs:List Nat} (h:RdS w gr A n c p bs) (hx:Ext w w'):RdS w' gr A n c p bs :=
 ⟨h.1.ext hx,h.2.1.ext hx,h.2.2⟩
def RdS.upd {S:Nat→Prop} {w w':World} {gr:Nat} {A:Option Addr} {n c p:Nat} {bs:List Nat} (h:RdS w gr A n c p bs) (hu:Upd S w w') (hS: ∀ x,S x→gr<x):RdS w' gr A n c p bs :=
 ⟨hu.blk h.1 (fun e=>by have:=hS _ e;omega),h.2.1.upd0 hu (fun h0 ad e e2=>by have:=hS _ e2;have:=h.2.2.2.1 h0 ad e;omega),h.2.2⟩
def RdS.drew {w:World} {gr:Nat} {A:Option Addr} {n c p:Nat} {bs:List Nat} (h:RdS w gr A n c p bs):RdS w.drew gr A n c p bs:=h
def zKo (gr:Nat) (A:Option Addr) (n c p:Nat) (bs:List Nat) (w:World) (h:RdS w gr A n c p bs) :
 Calls Tryz.prog 163 #[.pointer (some ⟨gr,0,none⟩)] w fun e w'=>e=.returned (.int .i64 ((8*n-p:Nat):Int))∧Ext w w':=by
 have hn:n≤100000000000:=h.2.2.2.2.2.1;have hp:p≤8*n:=h.2.2.2.2.2.2;have HC0: ∀ W,Ext w.drew W→W.cell? ⟨gr,0,none⟩=some (.slice A n c):=fun W hx=>(h.drew.ext hx).cells.1
 have HC1: ∀ W,Ext w.drew W→W.cell? ⟨gr,1,none⟩=some (.int .i64 (p:Int)):=fun W hx=>(h.drew.ext hx).cells.2
 go_enter Tryz.func163,Tryz.ntmps163;go_wp2_with fail;refine qI qS (by kernel_rfl) (by kernel_rfl) ?_;refine zI (by rfl) (.pointer (some ⟨gr,0,none⟩)) (zC rfl rfl) ?_;simp only[sP,sB,sC];refine zI (by rfl) (.pointer (some ⟨gr,0,none⟩)) (zIk rfl rfl) ?_;simp only[sP,sB,sC];refine zI (by rfl) (.pointer (some ⟨gr,0,none⟩)) (fun W=>by go_simp) ?_;simp only[sP,sB,sC];refine xL (by rfl) (.slice A n c) (fun W hW=>zCt rfl rfl (HC0 W hW)) ?_;simp only[sP,sB,sC];refine zI (by rfl) (.int .i64 ((n:Nat):Int)) (fun W=>by go_simp) ?_;simp only[sP,sB,sC];refine zI (by rfl) (.int .i64 ((8*n:Nat):Int)) (zCI (i:=8) (d:=n) rfl rfl rfl (by omega)) ?_;simp only[sP,sB,sC];refine zI (by rfl) (.pointer (some ⟨gr,0,none⟩)) (zC rfl rfl) ?_;simp only[sP,sB,sC];refine zI (by rfl) (.pointer (some ⟨gr,0,none⟩)) (zIk rfl rfl) ?_;simp only[sP,sB,sC];refine zI (by rfl) (.pointer (some ⟨gr,1,none⟩)) (fun W=>by go_simp) ?_;simp only[sP,sB,sC];refine xL (by rfl) (.int .i64 ((p:Nat):Int)) (fun W hW=>zV rfl rfl (HC1 W hW)) ?_;simp only[sP,sB,sC];refine zI (by rfl) (.int .i64 (((8*n)-p:Nat):Int)) (xH (i:=8*n) (d:=p) rfl rfl rfl (by omega) (by omega)) ?_;simp only[sP,sB,sC];refine zI (by rfl) (.int .i64 (((8*n)-p:Nat):Int)) (zW rfl rfl) ?_;simp only[sP,sB,sC];refine vH ?_;intro w9 hx9;go_wp2_with fail;go_ret;exact⟨rfl,(Ext.refl w).drew.trans hx9⟩
def zHM {bs:List Nat} {k:Nat} {u:Value} (h:(zF bs)[k]? =some u): ∃ hk:k<bs.length,u=.int .u8 ((bs[k]:Nat):Int):=by
 unfold zF at h;rw[wC0] at h;obtain⟨z,hz,rfl⟩:=wC1.1 h;obtain⟨hk,rfl⟩:=wC2.1 hz;exact⟨hk,rfl⟩
def get_no (gr:Nat) (A:Option Addr) (n c p:Nat) (bs:List Nat) (yV:Nat) (w:World) (h:RdS w gr A n c p bs) (hw:8*n<p+yV) (hw2:yV≤1000) :
 Calls Tryz.prog 164 #[.pointer (some ⟨gr,0,none⟩),.int .i64 (yV:Int)] w fun e w'=>e=.returned (.tuple #[.int .i64 0,.bool false])∧Ext w w':=by
 have hn:n≤100000000000:=h.2.2.2.2.2.1;have hp:p≤8*n:=h.2.2.2.2.2.2;have HL:=zA (fun W h=>zKo gr A n c p bs W h);generalize hl:8*n-p=l at *;have hlw:l<yV:=by omega
 go_enter Tryz.func164,Tryz.ntmps164;go_wp2_with (go_at_call 163;(with_reducible refine (HL.out _ h).mono ?_);rintro e w2 ⟨rfl,hx2⟩)
 go_ret2;exact⟨rfl,hx2⟩
def zJY (gr:Nat) (A:Option Addr) (n c p:Nat) (bs:List Nat) (yV:Nat) (w:World) (h:RdS w gr A n c p bs) (hw:p+yV≤8*n) (hw2:yV≤24) :
 Calls Tryz.prog 164 #[.pointer (some ⟨gr,0,none⟩),.int .i64 (yV:Int)] w fun e w' =>
  e=.returned (.tuple #[.int .i64 ((yJ (((zM bs).drop p).take yV):Nat):Int),.bool true])∧RdS w' gr A n c (p+yV) bs∧Upd (fun x=>x=gr) w w':=by
 have hn:n≤100000000000:=h.2.2.2.2.2.1;have hp:p≤8*n:=h.2.2.2.2.2.2;have hbl:=h.2.2.1;have HB:=zA h.2.2.2.2.1;have hne:=h.2.2.2.1;have HD:=zA (zEk bs);have HL:=zA (fun W h=>zKo gr A n c p bs W h);have HNX:=zA (fun i h1 h2=>numB_next bs p i h1 h2);have HLT:=zA (fun i (h1:i≤24)=>zDT ((zM bs).drop p) i 24 h1);generalize hl:8*n-p=l at *;have hlw: ¬l<yV:=by omega
 go_enter Tryz.func164,Tryz.ntmps164;go_wp2_with (go_at_call 163;(with_reducible refine (HL.out _ h).mono ?_);rintro e w2 ⟨rfl,hx2⟩)
 have h2:=h.ext hx2
 go_loopw [6,12] (fun v i wr=> ∃ k:Nat,k≤yV∧i=.int .i64 (k:Int)∧v=.int .i64 ((yJ (((zM bs).drop p).take k):Nat):Int)∧RdS wr gr A n c (p+k) bs∧Upd (fun x=>x=gr) w wr) (fun _ i _=>yV-(intOf i).toNat)
 case atStart=>exact⟨0,by omega,rfl,by simp[yJ],h2,Upd.of_ext hx2⟩
 case round =>
  obtain⟨k,hk,rfl,rfl,hr,hu⟩:=hrel
  by_cases hlt:k<yV
  ·obtain⟨q,hq⟩: ∃ q,q=p+k:=⟨_,rfl⟩
   rw[←hq] at hr;have hq8:q/8<n:=by omega
   have hqm:q%8<8:=by omega
   obtain⟨ad,u,rfl,hab,hxk,hcell⟩:=hr.2.1.at1 hq8;obtain⟨hkl,rfl⟩:=zHM hxk;have HN2:=zA (HNX.out k (by have:=HD.out;omega) (by rw[←hq];exact hkl));have hx:bs[q/8]<256:=HB.out _ (wE2 hkl);have hm0:=HLT.out k (by omega);have HEQ:Hid (bs[(p+k)/8]'(by rw[←hq];exact hkl)=bs[q/8]):=zA (by congr 2;omega);rw[HEQ.out, ←hq] at HN2;clear HEQ;generalize bs[q/8]=x at *;obtain⟨s,hs⟩: ∃ s,s=7-q%8:=⟨_,rfl⟩
   have HS:Hid (7-q%8=s):=zA hs.symm;have s8:s<8:=by omega
   rw[HS.out] at HN2;have hy:x/2 ^ s<256:=by have:=Nat.div_le_self x (2 ^ s);omega
   have hb:x/2 ^ s%2<256:=by omega
   have hb2:x/2 ^ s%2<2:=by omega
   generalize hmm:yJ (((zM bs).drop p).take k)=m at *;have hm:m<1099511627776:=by omega
   clear hmm hxk hs;have HC0: ∀ W,Ext wr.drew W→W.cell? ⟨gr,0,none⟩=some (.slice (some ad) n c):=fun W hx=>(hr.drew.ext hx).cells.1
   have HC1: ∀ W,Ext wr.drew W→W.cell? ⟨gr,1,none⟩=some (.int .i64 (q:Int)):=fun W hx=>(hr.drew.ext hx).cells.2
   have HCX: ∀ W,Ext wr.drew W→W.cell? (ad.add (q/8*1))=some (.int .u8 ((x:Nat):Int)):=fun W hxx=>by
    rw[wF1];exact (hxx.cell (by rw[yN];exact hab)).trans hcell
   clear hcell;go_wp2_with fail;refine qI qS (by kernel_rfl) (by kernel_rfl) ?_;refine zI (by rfl) (.int .i64 ((m:Nat):Int)) (zC rfl rfl) ?_;simp only[sP,sB,sC];refine zI (by rfl) (.int .i64 ((2*m:Nat):Int)) (zCJ (k:=.i64) (m:=(m:Int)) (k':=.u64) (n:=1) rfl rfl rfl (zKO m hm)) ?_;simp only[sP,sB,sC];refine zI (by rfl) (.pointer (some ⟨gr,0,none⟩)) (zC rfl rfl) ?_;simp only[sP,sB,sC];refine zI (by rfl) (.pointer (some ⟨gr,0,none⟩)) (zIk rfl rfl) ?_;simp only[sP,sB,sC];refine zI (by rfl) (.pointer (some ⟨gr,0,none⟩)) (fun W=>by go_simp) ?_;simp only[sP,sB,sC];refine xL (by rfl) (.slice (some ad) n c) (fun W hW=>zCt rfl rfl (HC0 W hW)) ?_;simp only[sP,sB,sC];refine zI (by rfl) (.pointer (some ⟨gr,0,none⟩)) (zC rfl rfl) ?_;simp only[sP,sB,sC];refine zI (by rfl) (.pointer (some ⟨gr,0,none⟩)) (zIk rfl rfl) ?_;simp only[sP,sB,sC];refine zI (by rfl) (.pointer (some ⟨gr,1,none⟩)) (fun W=>by go_simp) ?_;simp only[sP,sB,sC];refine xL (by rfl) (.int .i64 ((q:Nat):Int)) (fun W hW=>zV rfl rfl (HC1 W hW)) ?_;simp only[sP,sB,sC];refine zI (by rfl) (.int .i64 ((q/8:Nat):Int)) (ex_quoN (i:=q) (d:=8) rfl rfl rfl (by omega) (by omega)) ?_;simp only[sP,sB,sC];refine zI (by rfl) (.pointer (some (ad.add ((q/8)*1)))) (vJ Tryz.underlying45 zJZ rfl rfl rfl hq8) ?_;simp only[sP,sB,sC];refine xL (by rfl) (.int .u8 ((x:Nat):Int)) (fun W hW=>zKp rfl rfl (HCX W hW)) ?_;simp only[sP,sB,sC];refine zI (by rfl) (.pointer (some ⟨gr,0,none⟩)) (zC rfl rfl) ?_;simp only[sP,sB,sC];refine zI (by rfl) (.pointer (some ⟨gr,0,none⟩)) (zIk rfl rfl) ?_;simp only[sP,sB,sC];refine zI (by rfl) (.pointer (some ⟨gr,1,none⟩)) (fun W=>by go_simp) ?_;simp only[sP,sB,sC];refine xL (by rfl) (.int .i64 ((q:Nat):Int)) (fun W hW=>zV rfl rfl (HC1 W hW)) ?_;simp only[sP,sB,sC];refine zI (by rfl) (.int .i64 ((q%8:Nat):Int)) (ex_remN (i:=q) (d:=8) rfl rfl rfl (by omega) (by omega)) ?_;simp only[sP,sB,sC];refine zI (by rfl) (.int .i64 ((s:Nat):Int)) (by rw[←HS.out];exact xH (i:=7) (d:=q%8) rfl rfl rfl (by omega) (by omega)) ?_;simp only[sP,sB,sC];refine zI (by rfl) (.int .u8 ((x/2 ^ s:Nat):Int)) (zCJ (k:=.u8) (m:=(x:Int)) (k':=.i64) (n:=(s:Int)) rfl rfl rfl (run_shr8 x s hx s8)) ?_;simp only[sP,sB,sC];refine zI (by rfl) (.int .u8 ((x/2 ^ s%2:Nat):Int)) (zCJ (k:=.u8) (m:=((x/2 ^ s:Nat):Int)) (k':=.u8) (n:=1) rfl rfl rfl (run_and8 (x/2 ^ s) hy)) ?_;simp only[sP,sB,sC];refine zI (by rfl) (.int .i64 ((x/2 ^ s%2:Nat):Int)) (zMk rfl rfl (zIJ (x/2 ^ s%2) hb)) ?_;simp only[sP,sB,sC];refine zI (by rfl) (.int .i64 ((2*m+x/2 ^ s%2:Nat):Int)) (zCJ (k:=.i64) (m:=((2*m:Nat):Int)) (k':=.i64) (n:=((x/2 ^ s%2:Nat):Int)) rfl rfl rfl (run_or2 m (x/2 ^ s%2) hm hb2)) ?_;simp only[sP,sB,sC];refine zI (by rfl) (.int .i64 ((2*m+x/2 ^ s%2:Nat):Int)) (zW rfl rfl) ?_;simp only[sP,sB,sC];refine vH ?_;intro w9 hx9;have hr9:=hr.drew.ext hx9;have hc1:=hr9.cells.2;have hf1:=hr9.1.frozen 1;have hb9:=hr9.1.set_ 1 (.int .i64 ((q:Int)+1));simp at hb9;have hu9:=(hu.trans (Upd.of_ext (S:=fun x=>x=gr) ((Ext.refl wr).drew.trans hx9)) (fun x hx=>.inl hx)).setCell (p:=⟨gr,1,none⟩) rfl (.int .i64 ((q:Int)+1));have hs9:=hr9.2.1.upd (S:=fun x=>x=gr) ((Upd.refl (fun x=>x=gr) w9).setCell (p:=⟨gr,1,none⟩) rfl (.int .i64 ((q:Int)+1))) (fun ad h e=>by have:=hr9.2.2.2.1 (by omega) ad h;omega);have hrest:=hr9.2.2;have HQ:=zA hq;have hq9:q+1≤8*n:=by omega
   have hqq:q+1=p+(k+1):=by omega
   generalize hm2:2*m+x/2 ^ s%2=m2 at *;clear hq hm2;go_wp2_with fail;go_roundw
   case rel =>
    refine⟨k+1,by omega,by go_num,by rw[HN2.out], ?_,hu9⟩;rw[←hqq];exact⟨by exact_mod_cast hb9,hs9,hrest.1,hrest.2.1,hrest.2.2.1,hrest.2.2.2.1,hq9⟩
   case measure=>simp[intOf];omega
  ·have e1:k=yV:=by omega
   rw[e1] at hr ⊢;clear e1 hk hlt;go_wp2_with fail;go_ret2;exact⟨rfl,hr,hu⟩
def zOj (A:Option Addr) (n c:Nat) (bs:List Nat) (w:World) (h:SL w 1 (.slice A n c) n (zF bs)) (hl:bs.length=n) (hb: ∀ b∈bs,b<256) (hn:n≤100000000000) :
 Calls Tryz.prog 161 #[.slice A n c] w fun e w'=> ∃ gr,e=.returned (.pointer (some ⟨gr,0,none⟩))∧RdS w' gr A n c 0 bs∧Ext w w'∧w.heap.size=gr∧gr<w'.heap.size:=by
 go_enter Tryz.func161,Tryz.ntmps161;go_wp2_with fail;go_ret;refine⟨_,rfl,⟨Blk.new _ _ _,h.ext ((Ext.refl w).alloc _),hl,fun h0 ad e=> ?_,hb,hn,by omega⟩,(Ext.refl w).alloc _,by omega,by simp⟩;obtain⟨A',c',e1, -, -, -,h4⟩:=h;injection e1 with e1 e2 e3
 obtain⟨ad',e4,h5, -⟩:=h4 h0;rw[e,e4] at e1;injection e1 with e1
 rw[e1];exact h5
def run_shl1 (a:Nat) (h:a≤24) (W:World):(binOp .shl 3 (.int .i64 1) (.int .i64 (a:Int))).run Tryz.prog W=.ok (.int .i64 (2 ^ a)) W:=by
 have h1:(2:Int) ^ a≤2 ^ 24:=by have:=wI4 (n:=2) (by omega) h;exact_mod_cast this
 have h2:(0:Int)≤2 ^ a:=by exact_mod_cast wN2 (2 ^ a)
 have h3:(2:Int) ^ 24=16777216:=by decide
 rw[h3] at h1;have e:IntKind.i64.wrap (2 ^ a)=2 ^ a:=IntWalk.i64_in _ (by omega);have e2: ¬((a:Int)<0):=by omega
 simp[binOp,e,e2]
def zHd:Elt Tryz.prog 22 3 1 8:=⟨Tryz.underlying22,by kernel_rfl,by omega⟩
def zLk (bs:List Nat) (i k:Nat):zF ((bs.drop i).take k)=((zF bs).drop i).take k:=by simp[zF]
def zJb:Elt Tryz.prog 71 45 1 24:=⟨Tryz.underlying71,by kernel_rfl,by omega⟩
def zIg:(Tryz.prog.info? 45).map (·.size)=some 1:=by kernel_rfl
def zeroBs:((Tryz.prog.info? 45).bind (·.zero)).isSome=true:=by kernel_rfl
def zJW:((Tryz.prog.info? 3).bind (·.zero)).isSome=true:=by kernel_rfl
def SpIs (z:Option (List (List Nat)×List Nat)) (w:World) (e:Ending) (w':World):Prop :=
 match z with
 | none=>e=.returned (.tuple #[.slice none 0 0,.slice none 0 0,.int .i64 4])∧Ext w w'
 | some (P,M)=> ∃ A c B d VS,e=.returned (.tuple #[.slice A P.length c,.slice B M.length d,.int .i64 0])∧SL w' 1 (.slice A P.length c) P.length VS∧Pieces w' VS P∧SL w' 1 (.slice B M.length d) M.length (ints (M.map Int.ofNat))∧Ext w w'
def zCF:Elt Tryz.prog 45 5 1 1:=⟨Tryz.underlying45,by kernel_rfl,by omega⟩
end Go.Proofs.YtkggcjdlpendfaaGreatDoor
