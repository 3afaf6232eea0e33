import Derived.Lib.FrozenHead
import Derived.Lib.Builder
import Derived.Lib.UnsafeStr
import Derived.Lib.AppendStr
import Derived.Laws.Externs
import Derived.RegionTactic
import Derived.Test.YtkggcjdlpendfaaGreatDoorMTopHurtUptoCard16
set_option linter.all false
set_option maxRecDepth 20000
set_option maxHeartbeats 8000000
namespace Go.Proofs.YtkggcjdlpendfaaGreatDoor
open Go.RowKit Tryz
section
structure DecIn (gk gr gc1 gc2:Nat) (T1 T2:List Tok) (A:Option Addr) (n c:Nat) (bs:List Nat) (W0 W:World) (p:Nat):Prop where
 k:Blk W0 gk 236 #[.pointer (some ⟨gc1,0,none⟩),.pointer (some ⟨gc2,0,none⟩)]
 c1:CoderS W0 gc1 T1
 c2:CoderS W0 gc2 T2
 size:W0.heap.size=gr
 b:Ext W0 W
 r:RdS W gr A n c p bs
section
variable {gk gr gc1 gc2:Nat} {T1 T2:List Tok} {A:Option Addr} {n c:Nat} {bs:List Nat} {W0 W W':World} {p p':Nat}
def DecIn.lt (h:DecIn gk gr gc1 gc2 T1 T2 A n c bs W0 W p):gr<W.heap.size:=h.r.1.lt
def DecIn.ext (h:DecIn gk gr gc1 gc2 T1 T2 A n c bs W0 W p) (hx:Ext W W'):DecIn gk gr gc1 gc2 T1 T2 A n c bs W0 W' p :=
 ⟨h.k,h.c1,h.c2,h.size,h.b.trans hx,h.r.ext hx⟩
def DecIn.keep (h:DecIn gk gr gc1 gc2 T1 T2 A n c bs W0 W p) {B:Nat} (hB:gr<B) (hu:Upd (λb=>B≤b) W W'):DecIn gk gr gc1 gc2 T1 T2 A n c bs W0 W' p :=
 ⟨h.k,h.c1,h.c2,h.size,hu.ext h.b (λx hx=>by have:=h.size;omega),h.r.upd hu (λx hx=>by omega)⟩
def DecIn.moved (h:DecIn gk gr gc1 gc2 T1 T2 A n c bs W0 W p) (hu:Upd (λx=>x=gr) W W') (hr:RdS W' gr A n c p' bs):DecIn gk gr gc1 gc2 T1 T2 A n c bs W0 W' p' :=
 ⟨h.k,h.c1,h.c2,h.size,hu.ext h.b (λx hx=>by have:=h.size;omega),hr⟩
end
def run_loadR (W:World) (p q:Addr) (h:W.cell? p=some (.pointer (some q))):(Instr.loadAt 211 (.pointer (some p))).run prog W=.ok (.pointer (some q)) W:=by go_simp
def zDX {o:Oper} {a:Act} {x:Operand} (ho:o.op=.load 211 x) {p q:Addr} (hx:a.eval x=.pointer (some p)) {w:World} (h:w.cell? p=some (.pointer (some q))):(execOp a.eval o).run prog w=.ok (.value (.pointer (some q))) w:=by simp[execOp,ho,hx,run_loadR w p q h]
def goesOf:zAn prog 154:=⟨_,func154,by kernel_rfl,by kernel_rfl⟩
def goesGet:zAn prog 243:=⟨_,func243,by kernel_rfl,by kernel_rfl⟩
def zDA (x y:Int):prog.built 149 [(0,.int .i64 x),(1,.int .i64 y)]=some #[.int .i64 x,.int .i64 y,.int .i64 0]:=by
 show _=_
 kernel_rfl
attribute [local irreducible] zN yK uU xD
def zUF (gk gr gc1 gc2:Nat) (T1 T2:List Tok) (A:Option Addr) (n c:Nat) (bs:List Nat) (W0:World) (hG:∀(b:Bool) p,p≤(zN bs).length→vL (if b then T1 else T2) (zN bs) p 16 1=uU (if b then T1 else T2) (zN bs) p)
 (hT1:∀t∈T1,0≤t.1∧t.1≤255) (hT2:∀t∈T2,0≤t.1∧t.1≤255) (b:Bool) (p:Nat) (w:World) (h:DecIn gk gr gc1 gc2 T1 T2 A n c bs W0 w p) :
 Calls prog 242 #[.agg #[.pointer (some ⟨gk,0,none⟩),.pointer (some ⟨gr,0,none⟩)],.bool b] w λe w' =>
  e=.returned (.tuple #[.agg (qN (xD true T1 T2 (zN bs) b p).1).toArray,.int .i64 (xD true T1 T2 (zN bs) b p).2.1])∧DecIn gk gr gc1 gc2 T1 T2 A n c bs W0 w' (xD true T1 T2 (zN bs) b p).2.2∧Upd (λx=>x=gr) w w':=by
 have hp:p≤8*n:=h.r.2.2.2.2.2.2;have hD:(zN bs).length=8*n:=by rw[zFS,h.r.2.2.1]
 have hgo:=hG b p (by omega);obtain⟨T,hT⟩:∃T,T=if b then T1 else T2:=⟨_,rfl⟩
 obtain⟨gc,hgc⟩:∃g,g=if b then gc1 else gc2:=⟨_,rfl⟩
 have hrng:∀t∈T,0≤t.1∧t.1≤255:=by rw[hT];cases b<;>assumption
 have hcs:CoderS W0 gc T:=by
  rw[hT,hgc]
  cases b with
  | true=>exact h.c1
  | false=>exact h.c2
 rw[←hT] at hgo;have hsm:=zRT (D:=zN bs) (p:=p) hrng;have HGET:=zA (λW (hW:DecIn gk gr gc1 gc2 T1 T2 A n c bs W0 W p)=>zSE gc gr T A n c p bs W0 W hcs (by rw[h.size];exact wA5 _) (by have h9:Below W0.heap.size W0 W:=hW.b;rwa [h.size] at h9) hW.r hW.lt);rw[hgo] at HGET;have HOF:=zA (λW (hx:Ext w W)=>of_any gk gc1 gc2 b W (h.k.ext (h.b.trans hx)));rw[←hgc] at HOF;have hgw:=h.lt;have HX:=zA (λW (hx:Ext w W)=>h.ext hx);have HN1:Hid ((uU T (zN bs) p).2.2≠0→xD true T1 T2 (zN bs) b p=((0,0,0),(uU T (zN bs) p).2.2,if (uU T (zN bs) p).2.2=3 then 8*n else p+16)):=zA (λh0=>by rw[hT] at h0 ⊢;rw[zKu h0,hD];rfl);have HN2:Hid (∀s p' wd,uU T (zN bs) p=(s,p',0)→(if b then s else s%16)=wd→(12<wd∨(b=false∧11<wd))→xD true T1 T2 (zN bs) b p=((0,0,0),4,p')):=zA (λs p' wd h1 h2 h3=>by rw[hT] at h1;rw[zJE h1 h2 h3];rfl);have HN3:Hid (∀s p' wd,uU T (zN bs) p=(s,p',0)→(if b then s else s%16)=wd→¬(12<wd∨(b=false∧11<wd))→8*n<p'+wd.toNat→xD true T1 T2 (zN bs) b p=((0,0,0),3,p')):=zA (λs p' wd h1 h2 h3 h4=>by rw[hT] at h1;rw[zIf h1 h2 h3 (by rw[hD];exact h4)];rfl);have HN4:Hid (∀s p' wd,uU T (zN bs) p=(s,p',0)→(if b then s else s%16)=wd→¬(12<wd∨(b=false∧11<wd))→¬8*n<p'+wd.toNat→xD true T1 T2 (zN bs) b p=((s,wd,((yK (((zN bs).drop p').take wd.toNat):Nat):Int)),0,p'+wd.toNat)):=zA (λs p' wd h1 h2 h3 h4=>by rw[hT] at h1;rw[zGF h1 h2 h3 (by rw[hD];exact h4)]);obtain⟨R,hR⟩:∃R,xD true T1 T2 (zN bs) b p=R:=⟨_,rfl⟩
 rw[hR] at HN1 HN2 HN3 HN4 ⊢;obtain⟨sz,hsz⟩:∃sz,uU T (zN bs) p=sz:=⟨_,rfl⟩
 rw[hsz] at HGET HN1 HN2 HN3 HN4 hsm;obtain⟨s,p',er⟩:=sz;dsimp only at hsm HGET HN1;obtain⟨sn,hsn⟩:∃q:Nat,s=(q:Int):=⟨s.toNat,by omega⟩
 subst hsn;have hsn2:sn≤255:=by omega
 clear hG hT1 hT2 hgo hT hgc hrng hcs hD hR hsz hsm h hp;have HZT:Hid (prog.built 149 []=some (qN (0,0,0)).toArray):=zA (by kernel_rfl);obtain⟨PP,hPP⟩:∃PP,(if er=0 then p' else if er=3 then 8*n else p+16)=PP:=⟨_,rfl⟩
 rw[hPP] at HGET;go_enter func242,ntmps242
 go_wp2_with (first
  | ((with_reducible apply gS 2);refine wBox rfl 214 (.tmp 0) rfl #[.pointer (some ⟨gk,0,none⟩),.pointer (some ⟨gr,0,none⟩)] rfl ?_;intro w1 g2 hb1 hx1 hg1)
  | ((with_reducible apply gS 4);refine wAlo' rfl (some 4) rfl 149 rfl _ zAj ?_;intro w2 g4 hb2 hx2 hg2))
 have hx12:=(hx1.trans hx2).drew;have hI2:=HX.out _ hx12;have hb12:=(hb1.ext hx2).drew;have hb22:=hb2.drew;have hne2:¬g2=gr:=by omega
 have hne4:¬g4=gr:=by have:=hx1.size;omega
 have hI:Upd (λx=>x=gr) w2.drew w2.drew:=Upd.refl _ _;refine qR (Upd (λx=>x=gr) w2.drew) (by kernel_rfl) ?_;refine zG (k:=0) (by kernel_rfl) rfl (by rfl) (.pointer (some ⟨g2,0,none⟩)) (λw=>by go_simp) hI ?_;simp only[sP,sB,sC];refine xE (k:=1) (by kernel_rfl) rfl (by rfl) (.pointer (some ⟨gk,0,none⟩)) (λW hW=>zLf rfl rfl ((hW.blk hb12 hne2).cell 0)) hI ?_;simp only[Act.put,sA,sB,sC];refine zG (k:=2) (by kernel_rfl) rfl (by rfl) (.bool b) (zD rfl rfl) hI ?_;simp only[sP,sB,sC];refine zG (k:=4) (by kernel_rfl) rfl (by rfl) (.pointer (some ⟨g2,1,none⟩)) (λw=>by go_simp) hI ?_;simp only[sP,sB,sC];refine xE (k:=5) (by kernel_rfl) rfl (by rfl) (.pointer (some ⟨gr,0,none⟩)) (λW hW=>zDX rfl rfl ((hW.blk hb12 hne2).cell 1)) hI ?_;simp only[Act.put,sA,sB,sC];refine qI (k:=3) (by kernel_rfl) rfl ?_;refine xK (by rfl) (xL _ _ _ rfl rfl goesOf #[.pointer (some ⟨gk,0,none⟩),.bool b] (by simp[Act.eval])) ?_;refine (HOF.out _ hx12).mono ?_;rintro e w3 ⟨rfl,rfl⟩;refine⟨_,rfl,zZ ⟨hI, ?_⟩⟩;simp only[Act.put,sA,sB,sC];refine qI (k:=6) (by kernel_rfl) rfl ?_;refine xK (by rfl) (xL _ _ _ rfl rfl goesGet #[.pointer (some ⟨gc,0,none⟩),.pointer (some ⟨gr,0,none⟩)] (by simp[Act.eval])) ?_;refine (HGET.out _ hI2).mono ?_;rintro e w5 ⟨rfl,hr5,hu5⟩;refine⟨_,rfl,zZ ⟨hu5, ?_⟩⟩;simp only[Act.put,sA,sB,sC];refine zG (k:=7) (by kernel_rfl) rfl (by rfl) (.tuple #[.int .i64 (sn:Int),.int .i64 er]) (zD rfl rfl) hu5 ?_;simp only[sP,sB,sC];refine zG (k:=8) (by kernel_rfl) rfl (by rfl) (.int .i64 (sn:Int)) (yR rfl rfl rfl) hu5 ?_;simp only[sP,sB,sC];refine zG (k:=9) (by kernel_rfl) rfl (by rfl) (.int .i64 er) (yR rfl rfl rfl) hu5 ?_;simp only[sP,sB,sC];refine zG (k:=10) (by kernel_rfl) rfl (by rfl) (.int .i64 (sn:Int)) (zW rfl rfl) hu5 ?_;simp only[sP,sB,sC];refine zG (k:=11) (by kernel_rfl) rfl (by rfl) (.int .i64 er) (zW rfl rfl) hu5 ?_;simp only[sP,sB,sC];refine uA (by kernel_rfl) ?_;have hI5:=hI2.moved hu5 hr5;have hb15:=hu5.blk hb12 hne2;have hb25:=hu5.blk hb22 hne4;have hu05:Upd (λx=>x=gr) w w5:=(yG (S:=λx=>x=gr) hx12).trans hu5 (λx hx=>.inl hx);have hs5:=hu5.size;have hsw:=hx12.size;have hsw1:=hx1.size;clear hb1 hb2 hb12 hb22 hI hx12 hI2 hu5
 by_cases h0:er=0
 ·subst h0;rw[if_pos rfl] at hPP;subst hPP;obtain⟨m16,hm16⟩:∃m,sn%16=m:=⟨_,rfl⟩
  have H27:Hid (∀W,(binOp .and 3 (.int .i64 (sn:Int)) (.int .i64 15)).run prog W=.ok (.int .i64 (m16:Int)) W):=zA (λW=>by rw[run_and15, ←hm16];rfl);have hm2:m16<16:=by omega
  have hmI:(sn:Int)%16=(m16:Int):=by omega
  clear HN1 hm16
  cases b with
  | true =>
    have HN2:=zA (λh=>HN2.out (sn:Int) p' (sn:Int) rfl rfl h);have HN3:=zA (λh=>HN3.out (sn:Int) p' (sn:Int) rfl rfl h);have HN4:=zA (λh=>HN4.out (sn:Int) p' (sn:Int) rfl rfl h);rw[wD7] at HN3 HN4;clear hmI
    by_cases hw:12<sn
    ·have H34:Hid (decide ((12:Int)<(sn:Int))=true):=zA (by rw[wS2];omega);have hRR:=HN2.out (.inl (by omega));subst hRR;clear HN2 HN3 HN4
     go_wp2_with (first
      | ((with_reducible apply gS 27);refine zB rfl (.int .i64 (m16:Int)) (jO rfl rfl rfl H27.out) ?_)
      | ((with_reducible apply gS 28);refine zB rfl (.agg #[.int .i64 (sn:Int),.int .i64 (m16:Int),.int .i64 0]) (zAN rfl rfl rfl (zDA _ _)) ?_)
      | ((with_reducible apply gS 8);refine wAlo' rfl (some 8) rfl 149 rfl _ zAj ?_;intro w6 g8 hb6 hx6 hg8)
      | ((with_reducible apply gT 8 28);refine wStB rfl 149 (.tmp 8) (.tmp 28) rfl _ _ rfl rfl hb6 3 xI rfl rfl (vX (_,_,_)) ?_;intro w7 hb7 hg7;have hx7:Ext w5 w7:=hx6.grown hg7 hg8;have hz7:=hb7.frozen 1;have q7:w7.cell? ⟨g8,1,none⟩=some (.int .i64 (m16:Int)):=hb7.cell 1;have hb8:Blk (w7.setCell ⟨g8,1,none⟩ (.int .i64 (sn:Int))) g8 149 #[.int .i64 (sn:Int),.int .i64 (sn:Int),.int .i64 0]:=hb7.set_ 1 (.int .i64 (sn:Int));have hu8:Upd (λx=>w5.heap.size≤x) w5 (w7.setCell ⟨g8,1,none⟩ (.int .i64 (sn:Int))):=Upd.setCell (S:=λx=>w5.heap.size≤x) (yG hx7) (p:=⟨g8,1,none⟩) hg8 _;have hI8:=hI5.keep hI5.lt hu8;have q8:(w7.setCell ⟨g8,1,none⟩ (.int .i64 (sn:Int))).cell? ⟨g8,1,none⟩=some (.int .i64 (sn:Int)):=hb8.cell 1;have hb18:=hu8.blk hb15 (λk=>by have:=hb15.lt;omega);have q9:(w7.setCell ⟨g8,1,none⟩ (.int .i64 (sn:Int))).cell? ⟨g2,1,none⟩=some (.pointer (some ⟨gr,0,none⟩)):=hb18.cell 1;have hb28:=hu8.blk hb25 (λk=>by have:=hb25.lt;omega);have hu08:=hu05.trans (S:=λx=>x=gr) hu8 (λx k=>.inr (by omega)))
      | ((with_reducible apply gS 34);refine zB rfl (.bool true) (xY rfl rfl rfl H34.out) ?_)
      | ((with_reducible apply gS 44);refine vY rfl 149 rfl _ HZT.out ?_)
      | ((with_reducible apply gT 4 44);refine wStB rfl 149 (.tmp 4) (.tmp 44) rfl _ _ rfl rfl hb28 3 xI rfl rfl (vX _) ?_;intro w9 hb9 hg9))
     have hu9:Upd (λx=>w.heap.size≤x) (w7.setCell ⟨g8,1,none⟩ (.int .i64 (sn:Int))) w9:=zAA (zM hg9) (λx k=>by have:=wU4 k;omega);refine yN rfl rfl _ rfl hb9 _ underlying149 rfl 3 xI rfl ⟨rfl,hI8.keep hgw hu9,hu08.trans hu9 (λx k=>.inr k)⟩
    have H34:Hid (decide ((12:Int)<(sn:Int))=false):=zA (by rw[wS3];omega);have hnb:¬((12:Int)<(sn:Int)∨(true=false∧(11:Int)<(sn:Int))):=λk=>k.elim (λk=>by omega) (λk=>by cases k.1)
    by_cases hl:8*n<p'+sn
    ·have hRR:=HN3.out hnb hl;subst hRR;have HG9:=zA (λW (h:RdS W gr A n c p' bs)=>get_no gr A n c p' bs sn W h hl (by omega));clear HN2 HN3 HN4 hnb
     go_wp2_with (first
      | ((with_reducible apply gS 27);refine zB rfl (.int .i64 (m16:Int)) (jO rfl rfl rfl H27.out) ?_)
      | ((with_reducible apply gS 28);refine zB rfl (.agg #[.int .i64 (sn:Int),.int .i64 (m16:Int),.int .i64 0]) (zAN rfl rfl rfl (zDA _ _)) ?_)
      | ((with_reducible apply gS 8);refine wAlo' rfl (some 8) rfl 149 rfl _ zAj ?_;intro w6 g8 hb6 hx6 hg8)
      | ((with_reducible apply gT 8 28);refine wStB rfl 149 (.tmp 8) (.tmp 28) rfl _ _ rfl rfl hb6 3 xI rfl rfl (vX (_,_,_)) ?_;intro w7 hb7 hg7;have hx7:Ext w5 w7:=hx6.grown hg7 hg8;have hz7:=hb7.frozen 1;have q7:w7.cell? ⟨g8,1,none⟩=some (.int .i64 (m16:Int)):=hb7.cell 1;have hb8:Blk (w7.setCell ⟨g8,1,none⟩ (.int .i64 (sn:Int))) g8 149 #[.int .i64 (sn:Int),.int .i64 (sn:Int),.int .i64 0]:=hb7.set_ 1 (.int .i64 (sn:Int));have hu8:Upd (λx=>w5.heap.size≤x) w5 (w7.setCell ⟨g8,1,none⟩ (.int .i64 (sn:Int))):=Upd.setCell (S:=λx=>w5.heap.size≤x) (yG hx7) (p:=⟨g8,1,none⟩) hg8 _;have hI8:=hI5.keep hI5.lt hu8;have q8:(w7.setCell ⟨g8,1,none⟩ (.int .i64 (sn:Int))).cell? ⟨g8,1,none⟩=some (.int .i64 (sn:Int)):=hb8.cell 1;have hb18:=hu8.blk hb15 (λk=>by have:=hb15.lt;omega);have q9:(w7.setCell ⟨g8,1,none⟩ (.int .i64 (sn:Int))).cell? ⟨g2,1,none⟩=some (.pointer (some ⟨gr,0,none⟩)):=hb18.cell 1;have hb28:=hu8.blk hb25 (λk=>by have:=hb25.lt;omega);have hu08:=hu05.trans (S:=λx=>x=gr) hu8 (λx k=>.inr (by omega)))
      | ((with_reducible apply gS 34);refine zB rfl (.bool false) (xY rfl rfl rfl H34.out) ?_)
      | (go_at_call 164;(with_reducible refine (HG9.out _ hI8.r).mono ?_);rintro e w10 ⟨rfl,hx10⟩;have hb10:=hb28.ext hx10;have hI10:=hI8.ext hx10)
      | ((with_reducible apply gS 55);refine vY rfl 149 rfl _ HZT.out ?_)
      | ((with_reducible apply gT 4 55);refine wStB rfl 149 (.tmp 4) (.tmp 55) rfl _ _ rfl rfl hb10 3 xI rfl rfl (vX _) ?_;intro w9 hb9 hg9))
     have hu9:Upd (λx=>w.heap.size≤x) w10 w9:=zAA (zM hg9) (λx k=>by have:=wU4 k;omega);refine yN rfl rfl _ rfl hb9 _ underlying149 rfl 3 xI rfl ⟨rfl,hI10.keep hgw hu9,(hu08.trans (yG (S:=λ_=>False) hx10) (λx k=>k.elim)).trans hu9 (λx k=>.inr k)⟩
    have hRR:=HN4.out hnb hl;have HG9:=zA (λW (h:RdS W gr A n c p' bs)=>zKa gr A n c p' bs sn W h (by omega) (by omega));clear HN2 HN3 HN4 hnb;generalize yK (((zN bs).drop p').take sn)=nb at hRR HG9;subst hRR
    go_wp2_with (first
     | ((with_reducible apply gS 27);refine zB rfl (.int .i64 (m16:Int)) (jO rfl rfl rfl H27.out) ?_)
     | ((with_reducible apply gS 28);refine zB rfl (.agg #[.int .i64 (sn:Int),.int .i64 (m16:Int),.int .i64 0]) (zAN rfl rfl rfl (zDA _ _)) ?_)
     | ((with_reducible apply gS 8);refine wAlo' rfl (some 8) rfl 149 rfl _ zAj ?_;intro w6 g8 hb6 hx6 hg8)
     | ((with_reducible apply gT 8 28);refine wStB rfl 149 (.tmp 8) (.tmp 28) rfl _ _ rfl rfl hb6 3 xI rfl rfl (vX (_,_,_)) ?_;intro w7 hb7 hg7;have hx7:Ext w5 w7:=hx6.grown hg7 hg8;have hz7:=hb7.frozen 1;have q7:w7.cell? ⟨g8,1,none⟩=some (.int .i64 (m16:Int)):=hb7.cell 1;have hb8:Blk (w7.setCell ⟨g8,1,none⟩ (.int .i64 (sn:Int))) g8 149 #[.int .i64 (sn:Int),.int .i64 (sn:Int),.int .i64 0]:=hb7.set_ 1 (.int .i64 (sn:Int));have hu8:Upd (λx=>w5.heap.size≤x) w5 (w7.setCell ⟨g8,1,none⟩ (.int .i64 (sn:Int))):=Upd.setCell (S:=λx=>w5.heap.size≤x) (yG hx7) (p:=⟨g8,1,none⟩) hg8 _;have hI8:=hI5.keep hI5.lt hu8;have q8:(w7.setCell ⟨g8,1,none⟩ (.int .i64 (sn:Int))).cell? ⟨g8,1,none⟩=some (.int .i64 (sn:Int)):=hb8.cell 1;have hb18:=hu8.blk hb15 (λk=>by have:=hb15.lt;omega);have q9:(w7.setCell ⟨g8,1,none⟩ (.int .i64 (sn:Int))).cell? ⟨g2,1,none⟩=some (.pointer (some ⟨gr,0,none⟩)):=hb18.cell 1;have hb28:=hu8.blk hb25 (λk=>by have:=hb25.lt;omega);have hu08:=hu05.trans (S:=λx=>x=gr) hu8 (λx k=>.inr (by omega)))
     | ((with_reducible apply gS 34);refine zB rfl (.bool false) (xY rfl rfl rfl H34.out) ?_)
     | (go_at_call 164;(with_reducible refine (HG9.out _ hI8.r).mono ?_);rintro e w10 ⟨rfl,hr10,hu10⟩;have hb10:=hu10.blk hb28 hne4;have hb810:=hu10.blk hb8 (λk=>by omega);have hI10:=hI8.moved hu10 hr10;have hz10:=hb810.frozen 2;have q10:w10.cell? ⟨g8,2,none⟩=some (.int .i64 0):=hb810.cell 2;have hb811:Blk (w10.setCell ⟨g8,2,none⟩ (.int .i64 (nb:Int))) g8 149 #[.int .i64 (sn:Int),.int .i64 (sn:Int),.int .i64 (nb:Int)]:=hb810.set_ 2 (.int .i64 (nb:Int));have hb411:=hb10.far (p:=⟨g8,2,none⟩) (show g4≠g8 by have:=hb25.lt;omega) (.int .i64 (nb:Int));have hu11:Upd (λx=>w.heap.size≤x) w10 (w10.setCell ⟨g8,2,none⟩ (.int .i64 (nb:Int))):=Upd.setCell (S:=λx=>w.heap.size≤x) (Upd.refl _ _) (p:=⟨g8,2,none⟩) (show w.heap.size≤g8 by omega) _)
     | ((with_reducible apply gS 58);refine wLdB rfl 149 (.tmp 8) rfl g8 rfl hb811 _ underlying149 rfl 3 xI rfl ?_)
     | ((with_reducible apply gT 4 58);refine wStB rfl 149 (.tmp 4) (.tmp 58) rfl _ _ rfl rfl hb411 3 xI rfl rfl (vX (_,_,_)) ?_;intro w9 hb9 hg9))
    have hu9:Upd (λx=>w.heap.size≤x) (w10.setCell ⟨g8,2,none⟩ (.int .i64 (nb:Int))) w9:=zAA (zM hg9) (λx k=>by have:=wU4 k;omega);refine yN rfl rfl _ rfl hb9 _ underlying149 rfl 3 xI rfl ⟨rfl,(hI10.keep hgw hu11).keep hgw hu9,((hu08.trans hu10 (λx k=>.inl k)).trans hu11 (λx k=>.inr k)).trans hu9 (λx k=>.inr k)⟩
  | false =>
    have HN2:=zA (λh=>HN2.out (sn:Int) p' (m16:Int) rfl hmI h);have HN3:=zA (λh=>HN3.out (sn:Int) p' (m16:Int) rfl hmI h);have HN4:=zA (λh=>HN4.out (sn:Int) p' (m16:Int) rfl hmI h);rw[wD7] at HN3 HN4;clear hmI
    by_cases hw:12<m16
    ·have H34:Hid (decide ((12:Int)<(m16:Int))=true):=zA (by rw[wS2];omega);have hRR:=HN2.out (.inl (by omega));subst hRR;clear HN2 HN3 HN4
     go_wp2_with (first
      | ((with_reducible apply gS 27);refine zB rfl (.int .i64 (m16:Int)) (jO rfl rfl rfl H27.out) ?_)
      | ((with_reducible apply gS 28);refine zB rfl (.agg #[.int .i64 (sn:Int),.int .i64 (m16:Int),.int .i64 0]) (zAN rfl rfl rfl (zDA _ _)) ?_)
      | ((with_reducible apply gS 8);refine wAlo' rfl (some 8) rfl 149 rfl _ zAj ?_;intro w6 g8 hb6 hx6 hg8)
      | ((with_reducible apply gT 8 28);refine wStB rfl 149 (.tmp 8) (.tmp 28) rfl _ _ rfl rfl hb6 3 xI rfl rfl (vX (_,_,_)) ?_;intro w7 hb7 hg7;have hx7:Ext w5 w7:=hx6.grown hg7 hg8;have hb8:Blk w7 g8 149 #[.int .i64 (sn:Int),.int .i64 (m16:Int),.int .i64 0]:=hb7;have hu8:Upd (λx=>w5.heap.size≤x) w5 w7:=yG hx7;have hI8:=hI5.keep hI5.lt hu8;have q8:w7.cell? ⟨g8,1,none⟩=some (.int .i64 (m16:Int)):=hb8.cell 1;have hb18:=hu8.blk hb15 (λk=>by have:=hb15.lt;omega);have q9:w7.cell? ⟨g2,1,none⟩=some (.pointer (some ⟨gr,0,none⟩)):=hb18.cell 1;have hb28:=hu8.blk hb25 (λk=>by have:=hb25.lt;omega);have hu08:=hu05.trans (S:=λx=>x=gr) hu8 (λx k=>.inr (by omega)))
      | ((with_reducible apply gS 34);refine zB rfl (.bool true) (xY rfl rfl rfl H34.out) ?_)
      | ((with_reducible apply gS 44);refine vY rfl 149 rfl _ HZT.out ?_)
      | ((with_reducible apply gT 4 44);refine wStB rfl 149 (.tmp 4) (.tmp 44) rfl _ _ rfl rfl hb28 3 xI rfl rfl (vX _) ?_;intro w9 hb9 hg9))
     have hu9:Upd (λx=>w.heap.size≤x) w7 w9:=zAA (zM hg9) (λx k=>by have:=wU4 k;omega);refine yN rfl rfl _ rfl hb9 _ underlying149 rfl 3 xI rfl ⟨rfl,hI8.keep hgw hu9,hu08.trans hu9 (λx k=>.inr k)⟩
    have H34:Hid (decide ((12:Int)<(m16:Int))=false):=zA (by rw[wS3];omega)
    by_cases hw2:11<m16
    ·have H41:Hid (decide ((11:Int)<(m16:Int))=true):=zA (by rw[wS2];omega);have hRR:=HN2.out (.inr ⟨rfl,by omega⟩);subst hRR;clear HN2 HN3 HN4
     go_wp2_with (first
      | ((with_reducible apply gS 27);refine zB rfl (.int .i64 (m16:Int)) (jO rfl rfl rfl H27.out) ?_)
      | ((with_reducible apply gS 28);refine zB rfl (.agg #[.int .i64 (sn:Int),.int .i64 (m16:Int),.int .i64 0]) (zAN rfl rfl rfl (zDA _ _)) ?_)
      | ((with_reducible apply gS 8);refine wAlo' rfl (some 8) rfl 149 rfl _ zAj ?_;intro w6 g8 hb6 hx6 hg8)
      | ((with_reducible apply gT 8 28);refine wStB rfl 149 (.tmp 8) (.tmp 28) rfl _ _ rfl rfl hb6 3 xI rfl rfl (vX (_,_,_)) ?_;intro w7 hb7 hg7;have hx7:Ext w5 w7:=hx6.grown hg7 hg8;have hb8:Blk w7 g8 149 #[.int .i64 (sn:Int),.int .i64 (m16:Int),.int .i64 0]:=hb7;have hu8:Upd (λx=>w5.heap.size≤x) w5 w7:=yG hx7;have hI8:=hI5.keep hI5.lt hu8;have q8:w7.cell? ⟨g8,1,none⟩=some (.int .i64 (m16:Int)):=hb8.cell 1;have hb18:=hu8.blk hb15 (λk=>by have:=hb15.lt;omega);have q9:w7.cell? ⟨g2,1,none⟩=some (.pointer (some ⟨gr,0,none⟩)):=hb18.cell 1;have hb28:=hu8.blk hb25 (λk=>by have:=hb25.lt;omega);have hu08:=hu05.trans (S:=λx=>x=gr) hu8 (λx k=>.inr (by omega)))
      | ((with_reducible apply gS 34);refine zB rfl (.bool false) (xY rfl rfl rfl H34.out) ?_)
      | ((with_reducible apply gS 41);refine xV (by rfl) (.bool true) (xY rfl rfl rfl H41.out) ?_)
      | ((with_reducible apply gS 44);refine vY rfl 149 rfl _ HZT.out ?_)
      | ((with_reducible apply gT 4 44);refine wStB rfl 149 (.tmp 4) (.tmp 44) rfl _ _ rfl rfl hb28 3 xI rfl rfl (vX _) ?_;intro w9 hb9 hg9))
     have hu9:Upd (λx=>w.heap.size≤x) w7 w9:=zAA (zM hg9) (λx k=>by have:=wU4 k;omega);refine yN rfl rfl _ rfl hb9 _ underlying149 rfl 3 xI rfl ⟨rfl,hI8.keep hgw hu9,hu08.trans hu9 (λx k=>.inr k)⟩
    have H41:Hid (decide ((11:Int)<(m16:Int))=false):=zA (by rw[wS3];omega);have hnb:¬((12:Int)<(m16:Int)∨(false=false∧(11:Int)<(m16:Int))):=by rintro (k | ⟨-,k⟩)<;>omega
    by_cases hl:8*n<p'+m16
    ·have hRR:=HN3.out hnb hl;subst hRR;have HG9:=zA (λW (h:RdS W gr A n c p' bs)=>get_no gr A n c p' bs m16 W h hl (by omega));clear HN2 HN3 HN4 hnb
     go_wp2_with (first
      | ((with_reducible apply gS 27);refine zB rfl (.int .i64 (m16:Int)) (jO rfl rfl rfl H27.out) ?_)
      | ((with_reducible apply gS 28);refine zB rfl (.agg #[.int .i64 (sn:Int),.int .i64 (m16:Int),.int .i64 0]) (zAN rfl rfl rfl (zDA _ _)) ?_)
      | ((with_reducible apply gS 8);refine wAlo' rfl (some 8) rfl 149 rfl _ zAj ?_;intro w6 g8 hb6 hx6 hg8)
      | ((with_reducible apply gT 8 28);refine wStB rfl 149 (.tmp 8) (.tmp 28) rfl _ _ rfl rfl hb6 3 xI rfl rfl (vX (_,_,_)) ?_;intro w7 hb7 hg7;have hx7:Ext w5 w7:=hx6.grown hg7 hg8;have hb8:Blk w7 g8 149 #[.int .i64 (sn:Int),.int .i64 (m16:Int),.int .i64 0]:=hb7;have hu8:Upd (λx=>w5.heap.size≤x) w5 w7:=yG hx7;have hI8:=hI5.keep hI5.lt hu8;have q8:w7.cell? ⟨g8,1,none⟩=some (.int .i64 (m16:Int)):=hb8.cell 1;have hb18:=hu8.blk hb15 (λk=>by have:=hb15.lt;omega);have q9:w7.cell? ⟨g2,1,none⟩=some (.pointer (some ⟨gr,0,none⟩)):=hb18.cell 1;have hb28:=hu8.blk hb25 (λk=>by have:=hb25.lt;omega);have hu08:=hu05.trans (S:=λx=>x=gr) hu8 (λx k=>.inr (by omega)))
      | ((with_reducible apply gS 34);refine zB rfl (.bool false) (xY rfl rfl rfl H34.out) ?_)
      | ((with_reducible apply gS 41);refine xV (by rfl) (.bool false) (xY rfl rfl rfl H41.out) ?_)
      | (go_at_call 164;(with_reducible refine (HG9.out _ hI8.r).mono ?_);rintro e w10 ⟨rfl,hx10⟩;have hb10:=hb28.ext hx10;have hI10:=hI8.ext hx10)
      | ((with_reducible apply gS 55);refine vY rfl 149 rfl _ HZT.out ?_)
      | ((with_reducible apply gT 4 55);refine wStB rfl 149 (.tmp 4) (.tmp 55) rfl _ _ rfl rfl hb10 3 xI rfl rfl (vX _) ?_;intro w9 hb9 hg9))
     have hu9:Upd (λx=>w.heap.size≤x) w10 w9:=zAA (zM hg9) (λx k=>by have:=wU4 k;omega);refine yN rfl rfl _ rfl hb9 _ underlying149 rfl 3 xI rfl ⟨rfl,hI10.keep hgw hu9,(hu08.trans (yG (S:=λ_=>False) hx10) (λx k=>k.elim)).trans hu9 (λx k=>.inr k)⟩
    have hRR:=HN4.out hnb hl;have HG9:=zA (λW (h:RdS W gr A n c p' bs)=>zKa gr A n c p' bs m16 W h (by omega) (by omega));clear HN2 HN3 HN4 hnb;generalize yK (((zN bs).drop p').take m16)=nb at hRR HG9;subst hRR
    go_wp2_with (first
     | ((with_reducible apply gS 27);refine zB rfl (.int .i64 (m16:Int)) (jO rfl rfl rfl H27.out) ?_)
     | ((with_reducible apply gS 28);refine zB rfl (.agg #[.int .i64 (sn:Int),.int .i64 (m16:Int),.int .i64 0]) (zAN rfl rfl rfl (zDA _ _)) ?_)
     | ((with_reducible apply gS 8);refine wAlo' rfl (some 8) rfl 149 rfl _ zAj ?_;intro w6 g8 hb6 hx6 hg8)
     | ((with_reducible apply gT 8 28);refine wStB rfl 149 (.tmp 8) (.tmp 28) rfl _ _ rfl rfl hb6 3 xI rfl rfl (vX (_,_,_)) ?_;intro w7 hb7 hg7;have hx7:Ext w5 w7:=hx6.grown hg7 hg8;have hb8:Blk w7 g8 149 #[.int .i64 (sn:Int),.int .i64 (m16:Int),.int .i64 0]:=hb7;have hu8:Upd (λx=>w5.heap.size≤x) w5 w7:=yG hx7;have hI8:=hI5.keep hI5.lt hu8;have q8:w7.cell? ⟨g8,1,none⟩=some (.int .i64 (m16:Int)):=hb8.cell 1;have hb18:=hu8.blk hb15 (λk=>by have:=hb15.lt;omega);have q9:w7.cell? ⟨g2,1,none⟩=some (.pointer (some ⟨gr,0,none⟩)):=hb18.cell 1;have hb28:=hu8.blk hb25 (λk=>by have:=hb25.lt;omega);have hu08:=hu05.trans (S:=λx=>x=gr) hu8 (λx k=>.inr (by omega)))
     | ((with_reducible apply gS 34);refine zB rfl (.bool false) (xY rfl rfl rfl H34.out) ?_)
     | ((with_reducible apply gS 41);refine xV (by rfl) (.bool false) (xY rfl rfl rfl H41.out) ?_)
     | (go_at_call 164;(with_reducible refine (HG9.out _ hI8.r).mono ?_);rintro e w10 ⟨rfl,hr10,hu10⟩;have hb10:=hu10.blk hb28 hne4;have hb810:=hu10.blk hb8 (λk=>by omega);have hI10:=hI8.moved hu10 hr10;have hz10:=hb810.frozen 2;have q10:w10.cell? ⟨g8,2,none⟩=some (.int .i64 0):=hb810.cell 2;have hb811:Blk (w10.setCell ⟨g8,2,none⟩ (.int .i64 (nb:Int))) g8 149 #[.int .i64 (sn:Int),.int .i64 (m16:Int),.int .i64 (nb:Int)]:=hb810.set_ 2 (.int .i64 (nb:Int));have hb411:=hb10.far (p:=⟨g8,2,none⟩) (show g4≠g8 by have:=hb25.lt;omega) (.int .i64 (nb:Int));have hu11:Upd (λx=>w.heap.size≤x) w10 (w10.setCell ⟨g8,2,none⟩ (.int .i64 (nb:Int))):=Upd.setCell (S:=λx=>w.heap.size≤x) (Upd.refl _ _) (p:=⟨g8,2,none⟩) (show w.heap.size≤g8 by omega) _)
     | ((with_reducible apply gS 58);refine wLdB rfl 149 (.tmp 8) rfl g8 rfl hb811 _ underlying149 rfl 3 xI rfl ?_)
     | ((with_reducible apply gT 4 58);refine wStB rfl 149 (.tmp 4) (.tmp 58) rfl _ _ rfl rfl hb411 3 xI rfl rfl (vX (_,_,_)) ?_;intro w9 hb9 hg9))
    have hu9:Upd (λx=>w.heap.size≤x) (w10.setCell ⟨g8,2,none⟩ (.int .i64 (nb:Int))) w9:=zAA (zM hg9) (λx k=>by have:=wU4 k;omega);refine yN rfl rfl _ rfl hb9 _ underlying149 rfl 3 xI rfl ⟨rfl,(hI10.keep hgw hu11).keep hgw hu9,((hu08.trans hu10 (λx k=>.inl k)).trans hu11 (λx k=>.inr k)).trans hu9 (λx k=>.inr k)⟩
 have hRR:=HN1.out h0;have hbx:(er !=0)=true:=by simpa using h0
 rw[if_neg h0] at hPP;rw[hPP] at hRR;clear hPP h0 HN1 HN2 HN3 HN4;subst hRR
 go_wp2_with (first
  | ((with_reducible apply gS 23);refine vY rfl 149 rfl _ HZT.out ?_)
  | ((with_reducible apply gT 4 23);refine wStB rfl 149 (.tmp 4) (.tmp 23) rfl _ _ rfl rfl hb25 3 xI rfl rfl (vX _) ?_;intro w6 hb6 hg6))
 have hu6:Upd (λx=>w.heap.size≤x) w5 w6:=zAA (zM hg6) (λx k=>by have:=wU4 k;omega);refine yN rfl rfl _ rfl hb6 _ underlying149 rfl 3 xI rfl ⟨rfl,hI5.keep hgw hu6,hu05.trans hu6 (λx k=>.inr k)⟩
end
section
def goesSrc:zAn prog 242:=⟨_,func242,by kernel_rfl,by kernel_rfl⟩
def methSrc (a b : Addr) : Meth Tryz.prog 214 (.agg #[.pointer (some a), .pointer (some b)]) "Token" 242 (.agg #[.pointer (some a), .pointer (some b)]) := ⟨fun w => by kernel_rfl, goesSrc⟩
def segSrc (gk gr gc1 gc2:Nat) (T1 T2:List Tok) (A:Option Addr) (n c:Nat) (bs:List Nat) (W0:World) (hG:∀(b:Bool) p,p≤(zN bs).length→vL (if b then T1 else T2) (zN bs) p 16 1=uU (if b then T1 else T2) (zN bs) p)
 (hT1:∀t∈T1,0≤t.1∧t.1≤255) (hT2:∀t∈T2,0≤t.1∧t.1≤255) (B:Nat) (hB:gr<B):Src 242 #[.agg #[.pointer (some ⟨gk,0,none⟩),.pointer (some ⟨gr,0,none⟩)]] #[] B (λb=>b=gr) (DecIn gk gr gc1 gc2 T1 T2 A n c bs W0) (xD true T1 T2 (zN bs)) :=
 ⟨λb e=>by omega,λb p W h _=>by simpa using zUF gk gr gc1 gc2 T1 T2 A n c bs W0 hG hT1 hT2 b p W h,λs W W' h hu=>h.keep hB hu,λb p W _ h0=>zTh hT1 hT2 h0⟩
def ptr2_one (p q:Option Addr):(#[Value.pointer p,Value.pointer q]).all (·.oneCell')=true:=by simp[Value.oneCell']
def zRC {w:World} {base size n:Nat} {e:TypeId} {v:Value} {xs:List Value} (ho:w.ownsRow base e size v n xs):∀b,v.ownBlock=some b→base≤b∧b<w.heap.size:=by
 obtain⟨-,hh⟩:=ho;rcases hh with ⟨rfl,-⟩ | ⟨k,cap,cur,rfl,h1,hg,-⟩
 ·intro b e1;simp[Value.ownBlock] at e1
 intro b e1;have:k=b:=by simpa [Value.ownBlock] using e1
 subst this;exact⟨h1,Blk.lt (w:=w) (t:=e) (cs:=cur) hg⟩
def zJj {w:World} {base size n c:Nat} {e:TypeId} {A:Option Addr} {xs:List Value} (ho:w.ownsRow base e size (.slice A n c) n xs):A=none→c=0:=by
 obtain⟨-,hh⟩:=ho;rcases hh with ⟨h1,-⟩ | ⟨k,cap,cur,h1,-⟩
 ·injection h1 with _ _ h3;exact λ_=>h3
 injection h1 with h2 _ _;exact λh=>by rw[h] at h2;cases h2
def srcNe:214≠33:=by decide
def builtSrc (p q:Addr):prog.built 214 [(0,.pointer (some p)),(1,.pointer (some q))]=some #[.pointer (some p),.pointer (some q)]:=by
 show _=_
 kernel_rfl
def zNj:(prog.info? 214).map (·.size)=some 2:=by kernel_rfl
def zeroSrc:(prog.info? 214).bind (·.zero)=some (.agg #[.pointer none,.pointer none]):=by kernel_rfl
def plZ_lt:∀(bs z:List Nat),(∀b∈bs,b<256)→plZ bs=some z→(∀b∈z,b<256)∧z.length≤bs.length
 | [],z,_,h=>by
   obtain rfl:[]=z:=by simpa [plZ] using h
   exact⟨by simp,by simp⟩
 | [x],z,hl,h=>by
   rw[plZ] at h;split at h
   ·cases h
   obtain rfl:=wU4 h;exact⟨hl,by simp⟩
 | x::y::r,z,hl,h=>by
   rw[plZ] at h;split at h
   ·split at h
    ·obtain⟨q,hq,rfl⟩:=wC0.1 h;obtain⟨h1,h2⟩:=plZ_lt r q (λb hb=>hl b (by simp[hb])) hq;refine⟨λb hb=> ?_,by simp only[wA8];omega⟩;rcases wI8.1 hb with rfl | hb
     ·omega
     exact h1 b hb
    cases h
   obtain⟨q,hq,rfl⟩:=wC0.1 h;obtain⟨h1,h2⟩:=plZ_lt (y::r) q (λb hb=>hl b (by simp[hb])) hq;refine⟨λb hb=> ?_,by simp only[wA8] at h2 ⊢;omega⟩;rcases wI8.1 hb with rfl | hb
   ·exact hl b (by simp)
   exact h1 b hb
attribute [local irreducible] zF bv plZ zN xD vD zAk yK
def zSu (T1 T2:List Tok) (t1 t2:List Value) (A:Option Addr) (n c:Nat) (bs:List Nat) (nn:Int) (m0:Int) (w:World) (hs:SL w 1 (.slice A n c) n (zF bs)) (hA:A=none→c=0) (hlt:∀b∈bs,b<256) (hn:n≤1048576) (hm:w.cell? ⟨0,0,none⟩=some (.int .i64 m0)) (h1:t1.length=17) (h2:t2.length=17)
 (hG:∀D (b:Bool) p,p≤D.length→vL (if b then T1 else T2) D p 16 1=uU (if b then T1 else T2) D p) (hT1:∀t∈T1,0≤t.1∧t.1≤255) (hT2:∀t∈T2,0≤t.1∧t.1≤255)
 (o1:t1.toArray.all (·.oneCell')=true) (o2:t2.toArray.all (·.oneCell')=true)
 (C1:∀W,Ext w W→Calls prog 102 #[.agg t1.toArray] W λe W'=>e=.returned (.int .i64 0)∧Ext W W')
 (C2:∀W,Ext w W→Calls prog 102 #[.agg t2.toArray] W λe W'=>e=.returned (.int .i64 0)∧Ext W W')
 (N1:∀W,Ext w W→Calls prog 184 #[.agg t1.toArray] W λe W'=>∃gc,e=.returned (.pointer (some ⟨gc,0,none⟩))∧CoderS W' gc T1∧Ext W W')
 (N2:∀W,Ext w W→Calls prog 184 #[.agg t2.toArray] W λe W'=>∃gc,e=.returned (.pointer (some ⟨gc,0,none⟩))∧CoderS W' gc T2∧Ext W W') :
 Calls prog 110 #[.agg (t1++t2).toArray,.slice A n c,.int .i64 nn] w (zCk (vQ true T1 T2 nn (plZ bs)) w):=by
 have HM:=zA (λW (h:Ext w W)=>zGK T1 T2 t1 t2 W h1 h2 o1 o2 (λW' h'=>C1 W' (h.trans h')) (λW' h'=>C2 W' (h.trans h')) (λW' h'=>N1 W' (h.trans h')) (λW' h'=>N2 W' (h.trans h')));have hsz:=zA (zCr h1 h2);have HPL:=zA (λW (h:Ext w W)=>plain_any A n c bs m0 W (hs.ext h) hA hlt hn (uG hm h));have hbl:=(zHN hs).1;have hpz:=plZ_lt bs;generalize (t1++t2).toArray=tt at *;clear C1 C2 N1 N2 h1 h2 o1 o2 hs hm hA
 by_cases hr:nn<0∨400<nn
 ·have HR:Hid (vQ true T1 T2 nn (plZ bs)=(1,[])):=zA (by unfold vQ;rw[if_pos hr]);rw[HR.out];clear HPL hpz hG hT1 hT2
  by_cases h0:nn<0
  ·go_enter func110,ntmps110
   go_wp2_with (first
    | ((with_reducible apply gS 3);refine wBox rfl 44 (.tmp 0) rfl tt rfl ?_;intro w1 g hb1 hx1 hg1)
    | ((with_reducible apply gS 20);refine wLdB rfl 44 (.tmp 3) rfl g rfl hb1 _ underlying44 rfl 34 qG hsz.out ?_)
    | (go_at_call 152;(with_reducible refine (HM.out _ hx1).mono ?_);rintro e w2 ⟨gk,gc1,gc2,rfl,hk2,hc21,hc22,hx2⟩;have hx2':=hx1.trans hx2))
   refine bodyPost_ret (results_tmp2 rfl _ _ _) rfl ?_;refine⟨hx2', ?_⟩;rw[if_neg (show ¬(1:Int)=0 by decide)];rfl
  have h4:400<nn:=hr.resolve_left h0;clear hr;go_enter func110,ntmps110
  go_wp2_with (first
   | ((with_reducible apply gS 3);refine wBox rfl 44 (.tmp 0) rfl tt rfl ?_;intro w1 g hb1 hx1 hg1)
   | ((with_reducible apply gS 20);refine wLdB rfl 44 (.tmp 3) rfl g rfl hb1 _ underlying44 rfl 34 qG hsz.out ?_)
   | (go_at_call 152;(with_reducible refine (HM.out _ hx1).mono ?_);rintro e w2 ⟨gk,gc1,gc2,rfl,hk2,hc21,hc22,hx2⟩;have hx2':=hx1.trans hx2))
  refine bodyPost_ret (results_tmp2 rfl _ _ _) rfl ?_;refine⟨hx2', ?_⟩;rw[if_neg (show ¬(1:Int)=0 by decide)];rfl
 obtain⟨N,hN⟩:∃N:Nat,nn=(N:Int):=⟨nn.toNat,by omega⟩
 subst hN;have hN4:N≤400:=by omega
 have h0I:¬(N:Int)<0:=by omega
 have h4I:¬(400:Int)<(N:Int):=by omega
 cases hq:plZ bs with
 | none =>
   have HR:Hid (vQ true T1 T2 (N:Int) none=(4,[])):=zA (by unfold vQ;rw[if_neg hr]);rw[hq] at HPL;rw[HR.out];clear hq hpz hG hT1 hT2 hr;go_enter func110,ntmps110
   go_wp2_with (first
    | ((with_reducible apply gS 3);refine wBox rfl 44 (.tmp 0) rfl tt rfl ?_;intro w1 g hb1 hx1 hg1)
    | ((with_reducible apply gS 20);refine wLdB rfl 44 (.tmp 3) rfl g rfl hb1 _ underlying44 rfl 34 qG hsz.out ?_)
    | (go_at_call 152;(with_reducible refine (HM.out _ hx1).mono ?_);rintro e w2 ⟨gk,gc1,gc2,rfl,hk2,hc21,hc22,hx2⟩;have hx2':=hx1.trans hx2)
    | (go_at_call 160;(with_reducible refine (HPL.out _ hx2').mono ?_);rintro e w3 ⟨rfl,hx3⟩))
   refine bodyPost_ret (results_tmp2 rfl _ _ _) rfl ?_;refine⟨hx2'.trans hx3, ?_⟩;rw[if_neg (show ¬(4:Int)=0 by decide)];rfl
 | some pb =>
   obtain⟨hplt,hpl⟩:=hpz pb hlt hq;have hRd:vQ true T1 T2 (N:Int) (some pb)=zEC (zN pb) (zAk (xD true T1 T2 (zN pb)) N 0 0 []):=by unfold vQ;rw[if_neg hr];rfl
   rw[hRd];rw[hq] at HPL;obtain⟨pn,hpn⟩:∃k,pb.length=k:=⟨_,rfl⟩
   have HDL:=zA (show (zN pb).length=8*pn by rw[zFS,hpn]);have hpn2:pn≤1048576:=by omega
   have HG:=zA (λ(b:Bool) p h=>hG (zN pb) b p h);have HT1:=zA hT1;have HT2:=zA hT2;have HPN:=zA hpn;have HPLT:=zA hplt;clear hq hpz hG hT1 hT2 hr hRd hplt hpl hlt hbl;have HNR:=zA (λB d W (h:SL W 1 (.slice B pn d) pn (zF pb))=>zQJ B pn d pb W h HPN.out HPLT.out (by omega));have hR0:∃R,zAk (xD true T1 T2 (zN pb)) N 0 0 []=R:=⟨_,rfl⟩
   obtain⟨R,hR0⟩:=hR0;have HR0:Hid (zAk (xD true T1 T2 (zN pb)) (N-0) 0 0 []=R):=zA hR0;rw[hR0];obtain⟨FIN,hF⟩:∃F,zEC (zN pb) R=F:=⟨_,rfl⟩
   have HFIN:=zA hF;rw[hF];have hkn0:=jX;have HAL:=zA (show (prog.info? 33).bind (·.zero)=some (.agg (bv (List.replicate 64 0))) from jX);have hz0:=zA (show (Value.agg (bv (List.replicate 64 0))).cells.size=64 by rw[show (Value.agg (bv (List.replicate 64 0))).cells=bv (List.replicate 64 0) from rfl,zK];rfl);generalize bv (List.replicate 64 0)=cz at *;clear hR0 hF hkn0 hpn;go_enter func110,ntmps110
   go_wp2_with (first
    | ((with_reducible apply gS 3);refine wBox rfl 44 (.tmp 0) rfl tt rfl ?_;intro w1 g hb1 hx1 hg1)
    | ((with_reducible apply gS 20);refine wLdB rfl 44 (.tmp 3) rfl g rfl hb1 _ underlying44 rfl 34 qG hsz.out ?_)
    | (go_at_call 152;(with_reducible refine (HM.out _ hx1).mono ?_);rintro e w2 ⟨gk,gc1,gc2,rfl,hk2,hc21,hc22,hx2⟩;have hx2':=hx1.trans hx2)
    | (go_at_call 160;(with_reducible refine (HPL.out _ hx2').mono ?_);rintro e w3 ⟨B,k3,d3,rfl,hk3,hs3,hn3,hx3⟩;obtain rfl:pn=k3:=HPN.out.symm.trans hk3)
    | (go_at_call 161;(with_reducible refine (HNR.out _ _ _ hs3).mono ?_);rintro e w4 ⟨gr,rfl,hr4,hx4,hg4,hg4'⟩)
    | ((with_reducible apply gS 44);refine zB rfl (.agg #[.pointer (some ⟨gk,0,none⟩),.pointer (some ⟨gr,0,none⟩)]) (zAN rfl rfl rfl (builtSrc _ _)) ?_)
    | ((with_reducible apply gS 10);refine wAlo' rfl (some 10) rfl 214 rfl _ zeroSrc ?_;intro w5 g10 hb5 hx5 hg5)
    | ((with_reducible apply gT 10 44);refine wStB rfl 214 (.tmp 10) (.tmp 44) rfl _ _ rfl rfl hb5 2 zNj rfl rfl (ptr2_one _ _) ?_;intro w6 hb6 hg6))
   have hx46:Ext w4 w6:=hx5.grown hg6 hg5;have hD6:DecIn gk gr gc1 gc2 T1 T2 B pn d3 pb w3 w6 0:=⟨hk2.ext hx3,hc21.ext hx3,hc22.ext hx3,hg4,hx4.trans hx46,hr4.ext hx46⟩
   have hx6:Ext w w6:=((hx2'.trans hx3).trans hx4).trans hx46;have hg10:¬g10=gr:=by have:=hg4';omega
   have hgrw:w.heap.size≤gr:=by have:=(hx2'.trans hx3).size;omega
   clear hb1 hx1 hg1 hk2 hc21 hc22 hx2 hx2' hk3 hs3 hn3 hx3 hr4 hx4 hg4 hb5 hx5 hg5 hg6 hx46;have hlt6:=hD6.lt;obtain⟨wo,hwo⟩:∃wo:World,wo=w6:=⟨_,rfl⟩
   have HGR:Hid (gr<wo.heap.size):=zA (by rw[hwo];exact hlt6);have HW6:Hid (wo.heap.size≤w6.heap.size):=zA (by rw[hwo];exact wA5 _);have HWW:Hid (w.heap.size≤wo.heap.size):=zA (by rw[hwo];exact hx6.size);have how:OwnV w6 wo.heap.size 33 64 (.slice none 0 0) 0 (ints []):=OwnV.nil _ _ _ _;clear hwo
   go_loopw [11,12,46] (λbf x iv wr=>∃(k p:Nat) (before:Int) (L:List Int),k≤N∧iv=.int .i64 (k:Int)∧bf=.int .i64 before∧OwnV wr wo.heap.size 33 64 x k (ints L)∧DecIn gk gr gc1 gc2 T1 T2 B pn d3 pb w3 wr p∧Blk wr g10 214 #[.pointer (some ⟨gk,0,none⟩),.pointer (some ⟨gr,0,none⟩)]∧Hid (-2047≤before∧before≤2047)∧Hid (zAk (xD true T1 T2 (zN pb)) (N-k) before p L=R)∧Hid (wo.heap.size≤wr.heap.size)∧Ext w wr) (λ_ _ i _=>N-(intOf i).toNat)
   case atStart=>exact⟨0,0,0,[],by omega,rfl,rfl,how,hD6,hb6,zA (by omega),HR0,HW6,hx6⟩
   case round =>
    clear how hD6 hb6 HR0 HW6 hx6 hlt6;obtain⟨k,p,before,L,hk,rfl,rfl,⟨OA,oc,rfl,hown⟩,hD,hbs,HBF,HRR,HSZ,hx⟩:=hrel
    by_cases hlk:k<N
    ·have HFR:=zA (λW (h:DecIn gk gr gc1 gc2 T1 T2 B pn d3 pb w3 W p)=>from_any before HBF.out.1 HBF.out.2 (methSrc ⟨gk,0,none⟩ ⟨gr,0,none⟩) (segSrc gk gr gc1 gc2 T1 T2 B pn d3 pb w3 HG.out HT1.out HT2.out W.heap.size h.lt) W p h rfl);have HE:Hid ((vD (xD true T1 T2 (zN pb)) before p).1≠0→R=((vD (xD true T1 T2 (zN pb)) before p).1,[],p)):=zA (λh=>by rw[←HRR.out,show N-k=(N-(k+1))+1 by omega,zPG h]);have HO:Hid ((vD (xD true T1 T2 (zN pb)) before p).1=0→zAk (xD true T1 T2 (zN pb)) (N-(k+1)) ((vD (xD true T1 T2 (zN pb)) before p).2.1.getD 0 0) (vD (xD true T1 T2 (zN pb)) before p).2.2.2 (L++(vD (xD true T1 T2 (zN pb)) before p).2.1)=R):=zA (λh=>by rw[←HRR.out,show N-k=(N-(k+1))+1 by omega,zMC h]);have hzl:=(zSI (xD true T1 T2 (zN pb)) before p).1;have HHD:=zA (blkZ_head (xD true T1 T2 (zN pb)) before p);generalize vD (xD true T1 T2 (zN pb)) before p=G at *;obtain⟨ge,gz,gt,gp⟩:=G;unfold zCY at HFR;dsimp only at HFR HE HO hzl HHD;have HZL:=zA hzl;have HS64:=zA (show (bv gz).size=64 by rw[zK];exact hzl);have HO64:=zA (xR gz);clear hzl HRR
     by_cases hge:ge=0
     ·subst hge;have HO2:=zA (HO.out rfl);have HH2:=zA (HHD.out rfl);have HH0:Hid ((bv gz)[0]? =some (.int .i64 (gz.getD 0 0))):=zA (by rw[jQ _ 0 (by rw[HZL.out];omega)];simp[wH7,HZL.out]);clear HE HO HHD
      go_wp2_with (first
       | ((with_reducible apply gS 50);refine wLdB rfl 214 (.tmp 10) rfl g10 rfl hbs _ underlying214 rfl 2 zNj rfl ?_)
       | (go_at_call 162;(with_reducible refine (HFR.out _ hD).mono ?_);rintro e w8 ⟨A8,c8,rfl,-,hI8,hu8⟩;have hb8:=hu8.blk hbs hg10;have ho8:=zAV hown hu8 (λx e=>by have:=HGR.out;omega);have hx8:Ext w w8:=hu8.ext hx (λx e=>by omega);have hs8:=hu8.size)
       | ((with_reducible apply gS 13);refine wAlo' rfl (some 13) rfl 33 rfl _ HAL.out ?_;intro w9 g13 hb9 hx9 hg9)
       | ((with_reducible apply gT 13 53);refine wStB rfl 33 (.tmp 13) (.tmp 53) rfl _ _ rfl rfl hb9 64 zJ HS64.out hz0.out HO64.out ?_;intro w10 hb10 hg10';have hx10:Ext w8 w10:=hx9.grown hg10' hg9)
       | ((with_reducible apply gS 60);refine wLdB rfl 33 (.tmp 13) rfl g13 rfl hb10 _ underlying33 rfl 64 zJ HS64.out ?_)
       | ((with_reducible apply gS 61);refine wLit1 rfl 25 33 (.tmp 60) rfl (some 61) rfl underlying25 64 zJ zero48' _ rfl HS64.out (by omega) (by omega) ?_;intro w11 g61 hb11 hx11 hg11;have hx811:=hx10.trans hx11;have ho11:=yE ho8 hx811)
       | ((with_reducible apply gS 62);at_builtin;refine wApf zFd rfl (.tmp 59) (.tmp 61) rfl wo.heap.size (.slice OA k oc) k (ints L) rfl ho11 _ 1 (ints gz) rfl (blk_sl1 hb11 HZL.out) (qK gz) (by omega) (by omega) (by have:=HSZ.out;have:=hx811.size;omega) ?_;intro A12 c12 w12 ho12 hgr12 hor12;have hb13:=hb10.ext hx11;have hu12:=zM hgr12;have hlo8:=zRC ho8;have hb12:=hu12.blk hb13 (λe=>by have:=(hlo8 _ e).2;omega);have q13:w12.cell? ⟨g13,0,none⟩=some (.int .i64 (gz.getD 0 0)):=(hb12.cell 0).trans HH0.out))
      go_roundw
      case rel =>
       have hlo:=zRC ho11;refine⟨k+1,gp,gz.getD 0 0,L++gz,by omega,by go_num,rfl,⟨A12,c12,rfl,by rw[vP];exact ho12⟩,(hI8.ext hx811).keep HGR.out (zAA hu12 (λb e=>(hlo b e).1)),hu12.blk (hb8.ext hx811) (λe=>zIS (hb8.ext hx811) ho11 srcNe e.symm),HH2,HO2,zA ?_,hu12.ext (hx8.trans hx811) (λb e=>by have:=(hlo b e).1;have:=HWW.out;omega)⟩;have h1:=HSZ.out;have h2:=hx811.size;have h3:=hu12.size;omega
      case measure=>simp[intOf];omega
     have hgb:(ge !=0)=true:=by simpa using hge
     have HRE:=zA (HE.out hge);have HGE:=zA hge;clear hge HE HO HHD
     go_wp2_with (first
      | ((with_reducible apply gS 50);refine wLdB rfl 214 (.tmp 10) rfl g10 rfl hbs _ underlying214 rfl 2 zNj rfl ?_)
      | (go_at_call 162;(with_reducible refine (HFR.out _ hD).mono ?_);rintro e w8 ⟨A8,c8,rfl,-,hI8,hu8⟩;have hx8:Ext w w8:=hu8.ext hx (λx e=>by omega))
      | ((with_reducible apply gS 13);refine wAlo' rfl (some 13) rfl 33 rfl _ HAL.out ?_;intro w9 g13 hb9 hx9 hg9)
      | ((with_reducible apply gT 13 53);refine wStB rfl 33 (.tmp 13) (.tmp 53) rfl _ _ rfl rfl hb9 64 zJ HS64.out hz0.out HO64.out ?_;intro w10 hb10 hg10';have hx10:Ext w8 w10:=hx9.grown hg10' hg9))
     refine bodyPost_ret (results_tmp2 rfl _ _ _) rfl ?_;have hfe:FIN=(ge,[]):=by rw[←HFIN.out,HRE.out];unfold zEC;rw[if_pos HGE.out]
     rw[hfe];refine⟨hx8.trans hx10, ?_⟩;rw[if_neg HGE.out];rfl
    have hkN:N-k=0:=by omega
    have HR2:Hid (R=(0,L,p)):=zA (by rw[←HRR.out,hkN,zAk]);have hp8:=hD.r.2.2.2.2.2.2;have hll:L.length=k*64:=by have:=hown.1;simpa [ints] using this
    have hln:=zJj hown;obtain⟨lf,hlf⟩:∃l,8*pn-p=l:=⟨_,rfl⟩
    have HLF:=zA (λW h=>zLU gr B pn d3 p pb W h);rw[hlf] at HLF;obtain⟨m,hm⟩:∃m,lf%8=m:=⟨_,rfl⟩
    have HGT:=zA (λW h=>zKa gr B pn d3 p pb m W h (by omega) (by omega));obtain⟨x,hx0⟩:∃x,yK (((zN pb).drop p).take m)=x:=⟨_,rfl⟩
    rw[hx0] at HGT;have hm8:m<8:=by omega
    have H73:Hid (∀W,(binOp .rem 3 (.int .i64 (lf:Int)) (.int .i64 8)).run prog W=.ok (.int .i64 (m:Int)) W):=zA (λW=>by rw[show (8:Int)=((8:Nat):Int) from rfl,zHo lf 8 (by omega) (by omega),hm]);have hdl:((zN pb).drop p).length=lf:=by rw[wE8,HDL.out,hlf]
    have hlf2:lf≤8388608:=by omega
    by_cases h7:7<lf
    ·have HFE:Hid (FIN=(4,[])):=zA (by rw[←HFIN.out,HR2.out];unfold zEC;rw[if_neg (by simp),if_pos (.inl (by rw[HDL.out];dsimp only;omega))]);have H78:Hid (decide ((7:Int)<(lf:Int))=true):=zA (by rw[wS2];omega);clear HRR HFIN HR2 hlf hm hx0 hp8 hdl
     go_wp2_with (first
      | ((with_reducible apply gS 67);refine yU rfl (.pointer (some ⟨gr,0,none⟩)) (zDX rfl rfl (hbs.cell 1)) ?_)
      | (go_at_call 163;(with_reducible refine (HLF.out _ hD.r).mono ?_);rintro e w8 ⟨rfl,hx8⟩;have hb8:=hbs.ext hx8;have hI8:=hD.ext hx8)
      | ((with_reducible apply gS 71);refine yU rfl (.pointer (some ⟨gr,0,none⟩)) (zDX rfl rfl (hb8.cell 1)) ?_)
      | ((with_reducible apply gS 73);refine zB rfl (.int .i64 (m:Int)) (jO rfl rfl rfl H73.out) ?_)
      | (go_at_call 164;(with_reducible refine (HGT.out _ hI8.r).mono ?_);rintro e w9 ⟨rfl,-,hu9⟩;have hx9:=hu9.ext (hx.trans hx8) (λx e=>by omega);have ho9:=zAV (yE hown hx8) hu9 (λx e=>by have:=HGR.out;omega))
      | ((with_reducible apply gS 78);refine zB rfl (.bool true) (xY rfl rfl rfl H78.out) ?_))
     refine bodyPost_ret (results_tmp2 rfl _ _ _) rfl ?_;rw[HFE.out];refine⟨hx9, ?_⟩;rw[if_neg (show ¬(4:Int)=0 by decide)];rfl
    have hml:m=lf:=by omega
    subst hml;obtain⟨Q,hQ⟩:∃Q:Nat,2 ^ m=Q:=⟨_,rfl⟩
    have hQ1:0<Q:=by rw[←hQ];exact wE9 m
    have hQ2:Q<1000:=by rw[←hQ];have:=wF3 (n:=2) (by omega) (show m≤7 by omega);have h128:(2:Nat) ^ 7=128:=by decide
                        omega
    obtain⟨Q1,hQ3⟩:∃q,Q-1=q:=⟨_,rfl⟩
    have H82:Hid (∀W,(binOp .shl 3 (.int .i64 1) (.int .i64 (m:Int))).run prog W=.ok (.int .i64 (Q:Int)) W):=zA (λW=>by rw[run_shl1 m (by omega), ←hQ];push_cast;rfl);have H83:Hid (∀W,(binOp .sub 3 (.int .i64 (Q:Int)) (.int .i64 1)).run prog W=.ok (.int .i64 (Q1:Int)) W):=zA (λW=>by rw[show (1:Int)=((1:Nat):Int) from rfl,zIO Q 1 (by omega) (by omega),hQ3]);have H78:Hid (decide ((7:Int)<(m:Int))=false):=zA (by rw[wS3];omega);have hon:=ones_iff ((zN pb).drop p);rw[hdl,hQ,hQ3, ←wC2 (i:=m) (l:=(zN pb).drop p) (by omega),hx0,wC2 (by omega)] at hon
    by_cases hf:false∈(zN pb).drop p
    ·have HFE:Hid (FIN=(4,[])):=zA (by rw[←HFIN.out,HR2.out];unfold zEC;rw[if_neg (by simp),if_pos (.inr hf)]);have H84:Hid (decide ((x:Int)≠(Q1:Int))=true):=zA (by rw[wB3];intro e;exact hon.1 (by exact_mod_cast e) hf);clear HRR HFIN HR2 hlf hm hx0 hp8 hdl hon hQ hQ3 hf
     go_wp2_with (first
      | ((with_reducible apply gS 67);refine yU rfl (.pointer (some ⟨gr,0,none⟩)) (zDX rfl rfl (hbs.cell 1)) ?_)
      | (go_at_call 163;(with_reducible refine (HLF.out _ hD.r).mono ?_);rintro e w8 ⟨rfl,hx8⟩;have hb8:=hbs.ext hx8;have hI8:=hD.ext hx8)
      | ((with_reducible apply gS 71);refine yU rfl (.pointer (some ⟨gr,0,none⟩)) (zDX rfl rfl (hb8.cell 1)) ?_)
      | ((with_reducible apply gS 73);refine zB rfl (.int .i64 (m:Int)) (jO rfl rfl rfl H73.out) ?_)
      | (go_at_call 164;(with_reducible refine (HGT.out _ hI8.r).mono ?_);rintro e w9 ⟨rfl,-,hu9⟩;have hx9:=hu9.ext (hx.trans hx8) (λx e=>by omega);have ho9:=zAV (yE hown hx8) hu9 (λx e=>by have:=HGR.out;omega))
      | ((with_reducible apply gS 78);refine zB rfl (.bool false) (xY rfl rfl rfl H78.out) ?_)
      | ((with_reducible apply gS 82);refine xV (by rfl) (.int .i64 (Q:Int)) (jO rfl rfl rfl H82.out) ?_)
      | ((with_reducible apply gS 83);refine xV (by rfl) (.int .i64 (Q1:Int)) (jO rfl rfl rfl H83.out) ?_)
      | ((with_reducible apply gS 84);refine xV (by rfl) (.bool true) (jW rfl rfl rfl H84.out) ?_))
     refine bodyPost_ret (results_tmp2 rfl _ _ _) rfl ?_;rw[HFE.out];refine⟨hx9, ?_⟩;rw[if_neg (show ¬(4:Int)=0 by decide)];rfl
    have HFE:Hid (FIN=(0,L)):=zA (by rw[←HFIN.out,HR2.out];unfold zEC;rw[if_neg (by simp),if_neg (by rw[HDL.out];dsimp only;rintro (h | h)<;>first | omega | exact hf h)]);have H84:Hid (decide ((x:Int)≠(Q1:Int))=false):=zA (by have:=hon.2 hf;simp[this]);clear HRR HFIN HR2 hlf hm hx0 hp8 hdl hon hQ hQ3 hf
    go_wp2_with (first
     | ((with_reducible apply gS 67);refine yU rfl (.pointer (some ⟨gr,0,none⟩)) (zDX rfl rfl (hbs.cell 1)) ?_)
     | (go_at_call 163;(with_reducible refine (HLF.out _ hD.r).mono ?_);rintro e w8 ⟨rfl,hx8⟩;have hb8:=hbs.ext hx8;have hI8:=hD.ext hx8)
     | ((with_reducible apply gS 71);refine yU rfl (.pointer (some ⟨gr,0,none⟩)) (zDX rfl rfl (hb8.cell 1)) ?_)
     | ((with_reducible apply gS 73);refine zB rfl (.int .i64 (m:Int)) (jO rfl rfl rfl H73.out) ?_)
     | (go_at_call 164;(with_reducible refine (HGT.out _ hI8.r).mono ?_);rintro e w9 ⟨rfl,-,hu9⟩;have hx9:=hu9.ext (hx.trans hx8) (λx e=>by omega);have ho9:=zAV (yE hown hx8) hu9 (λx e=>by have:=HGR.out;omega))
     | ((with_reducible apply gS 78);refine zB rfl (.bool false) (xY rfl rfl rfl H78.out) ?_)
     | ((with_reducible apply gS 82);refine xV (by rfl) (.int .i64 (Q:Int)) (jO rfl rfl rfl H82.out) ?_)
     | ((with_reducible apply gS 83);refine xV (by rfl) (.int .i64 (Q1:Int)) (jO rfl rfl rfl H83.out) ?_)
     | ((with_reducible apply gS 84);refine xV (by rfl) (.bool false) (jW rfl rfl rfl H84.out) ?_))
    refine bodyPost_ret (results_tmp2 rfl _ _ _) rfl ?_;rw[HFE.out];refine⟨hx9, ?_⟩;rw[if_pos rfl];exact⟨OA,k,oc,rfl,hll,(jC ho9).1,hln⟩
end
def zTf (cs xs:List Int) (hl:cs.length=16) (h:zQ cs xs=0):(zH (zC cs 16) xs).Pairwise (λa b=>a.2.1≤b.2.1)∧(∀t∈zH (zC cs 16) xs,∃l c:Nat,t.2=((l:Int),(c:Int))∧1≤l∧l≤16∧c<2 ^ l)∧(zC cs 16).length=xs.length:=by
 obtain⟨q1,q2,q3,q4,q5,q6⟩:=zAy h;have hlen:(zC cs 16).length=xs.length:=by have:=zDG cs (λz hz=>(yJ.1 q1 z hz).1) 16 (by omega);omega
 exact⟨zTK _ _ (zIb cs 16) hlen,zipC_fits cs xs hl q4 hlen,hlen⟩
def zMh (cs xs:List Int) (hl:cs.length=16) (h:zQ cs xs=0) (D:List Bool) (p:Nat) (hp:p≤D.length):vL (zH (zC cs 16) xs) D p 16 1=uU (zH (zC cs 16) xs) D p:=by
 obtain⟨h1,h2,-⟩:=zTf cs xs hl h;refine zOx _ D p h1 (λt ht=> ?_) 16 1 (by omega) (by omega) (by omega) (λt ht h3=> ?_)
 ·obtain⟨l,c,e,a,b,-⟩:=h2 t ht;exact⟨l,c,e,a,b⟩
 obtain⟨l,c,e,a,b,-⟩:=h2 t ht;rw[e] at h3;simp only at h3;omega
section
def uT {P:Program} {o:Oper} {a:Act} {ty:TypeId} {x:Operand} (ho:o.op=.load ty x) {g:Nat} (hx:a.eval x=.pointer (some ⟨g,0,none⟩)) {t:TypeId} {cs:Array Value} {w:World} (hB:Blk w g t cs) {d:TypeDesc} (hu:P.underlying ty=some d) (hd:d.isRow=true) {n:Nat} (hi:(P.info? ty).map (·.size)=some n) (hn:cs.size=n) :
 (execOp a.eval o).run P w=.ok (.value (.agg cs)) w:=by
 have h1:Blk w g t ([]++(cs.toList++[])).toArray:=by simpa using hB
 have h:=zDH ho hx (zAv h1) hu hd (by rw[hi, ←hn];simp);simpa using h
attribute [local irreducible] zF bv plZ zN xD vD zAk yK
end
def zRH (p:Nat) (hp:p≤100000000) (w:World):Calls prog 103 #[.int .i64 (p:Int)] w λe w'=>e=.returned (.int .i64 ((208+p%8:Nat):Int))∧w=w':=by
 obtain⟨m,hm⟩:∃m,p%8=m:=⟨_,rfl⟩
 rw[hm];have HM:=zA hm;have hm8:m<8:=by omega
 clear hm;obtain⟨q,hq⟩:∃q,208+m=q:=⟨_,rfl⟩
 have HQ:=zA hq;rw[hq];clear hq;go_enter func103,ntmps103
 go_wp2_with (first
  | ((with_reducible apply gS 4);refine zB rfl (.int .i64 (m:Int)) (by rw[←HM.out];exact zNv (i:=p) (d:=8) rfl rfl rfl (by omega) (by omega)) ?_)
  | ((with_reducible apply gS 5);refine zB rfl (.int .i64 (q:Int)) (by rw[←HQ.out];exact yL (i:=208) (d:=m) rfl rfl rfl (by omega)) ?_))
 go_ret;exact⟨rfl,rfl⟩
def zQS (tt:Array Value) (v:Value) (nn:Int) (w:World) (h:nn<0∨100<nn):Calls prog 45 #[.agg tt,v,.int .i64 nn] w (zGO (1,[]) w):=by
 by_cases h0:nn<0
 ·clear h;go_enter func45,ntmps45
  go_wp2_with (first
   | ((with_reducible apply gS 3);refine wBox rfl 44 (.tmp 0) rfl tt rfl ?_;intro w1 g hb1 hx1 hg))
  refine bodyPost_ret (results_tmp2 rfl _ _ _) rfl ?_;refine⟨hx1, ?_⟩;rw[if_neg (show ¬(1:Int)=0 by decide)];rfl
 have h4:100<nn:=h.resolve_left h0;clear h;go_enter func45,ntmps45
 go_wp2_with (first
  | ((with_reducible apply gS 3);refine wBox rfl 44 (.tmp 0) rfl tt rfl ?_;intro w1 g hb1 hx1 hg))
 refine bodyPost_ret (results_tmp2 rfl _ _ _) rfl ?_;refine⟨hx1, ?_⟩;rw[if_neg (show ¬(1:Int)=0 by decide)];rfl
