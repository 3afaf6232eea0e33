import Derived.Test.YtkggcjdlpendfaaGreatDoorMTopFewestCard10
set_option linter.all false
set_option maxRecDepth 20000
set_option maxHeartbeats 8000000
namespace Go.Proofs.YtkggcjdlpendfaaGreatDoor
open Go.RowKit
def yE (n e:Nat):Nat:=if e=0∨n=0 then n else e
def yG (n e:Nat):Nat:=if e=0∨n=0 then 1 else (n+e-1)/e
def zDB {n e:Nat} (h:e=0∨n=0):yE n e=n∧yG n e=1:=by unfold yE yG;rw[if_pos h,if_pos h];exact⟨rfl,rfl⟩
def zFJ {n e:Nat} (h: ¬(e=0∨n=0)):yE n e=e∧yG n e=(n+e-1)/e:=by unfold yE yG;rw[if_neg h,if_neg h];exact⟨rfl,rfl⟩
def zJh {n e i:Nat} (h: ¬(e=0∨n=0)):i<yG n e↔i*e<n:=by
 have he:0<e:=by omega
 rw[(zFJ h).2,Nat.lt_div_iff_mul_lt he,wJ2];omega
def zDj {n e:Nat}:yG n e≤n+1:=by
 unfold yG;split
 ·omega
 ·next h =>
  have he:0<e:=by omega
  rw[Nat.div_le_iff_le_mul_add_pred he];have:n≤e*n:=Nat.le_mul_of_pos_left n he;rw[wM3];omega
def zIG {n e i:Nat} (hi:i<yG n e):i*yE n e≤n:=by
 by_cases h:e=0∨n=0
 ·rw[(zDB h).2] at hi;obtain rfl:i=0:=by omega
  simp
 ·rw[(zFJ h).1];exact Nat.le_of_lt ((zJh h).1 hi)
def jM (n e:Nat):Nat→List Int
 | 0=>[]
 | k+1=>jM n e k++[((k*yE n e:Nat):Int),((min (k*yE n e+yE n e) n:Nat):Int)]
def zDO (n e:Nat): ∀ k,(jM n e k).length=k*2
 | 0=>rfl
 | k+1=>by rw[jM,wF3,zDO n e k];simp;omega
def zFy (n e:Nat): ∀ (k i:Nat),i<k→((jM n e k).drop (i*2)).take 2=[((i*yE n e:Nat):Int),((min (i*yE n e+yE n e) n:Nat):Int)]
 | 0,i,h=>by omega
 | k+1,i,h=>by
   rw[jM]
   by_cases hk:i=k
   ·subst hk;rw[wM0 (by rw[zDO];omega),wM5 (by rw[zDO];omega)];rfl
   ·rw[wM0 (by rw[zDO];omega),wM2 (by rw[wK1,zDO];omega)];exact zFy n e k i (by omega)
def vZ (n e:Nat):Nat→List Int
 | 0=>[]
 | k+1=>vZ n e k++[((min (n-k*yE n e) (yE n e):Nat):Int)]
def zCa (n e:Nat): ∀ k,(vZ n e k).length=k
 | 0=>rfl
 | k+1=>by rw[vZ,wF3,zCa n e k];simp
def zOS (n e:Nat): ∀ (k i:Nat) (h:i<k),(vZ n e k)[i]'(by rw[zCa];exact h)=((min (n-i*yE n e) (yE n e):Nat):Int)
 | 0,i,h=>by omega
 | k+1,i,h=>by
   simp only[vZ]
   by_cases hk:i=k
   ·subst hk;rw[List.getElem_append_right (by rw[zCa];omega)];simp[zCa]
   ·rw[wO7 (by rw[zCa];omega)];exact zOS n e k i (by omega)
def zCk (i:Nat):List Nat:=if i=0 then [] else [255,208+(i-1)%8]
def yX (n e i:Nat) (Z:List Int):List Int:=(Z.drop (i*yE n e*64)).take (min (n-i*yE n e) (yE n e)*64)
def zAB (T1 T2:List Tok) (n e:Nat) (Z:List Int):Nat→Nat→List Nat→Int×List Nat
 | 0,_,acc=>(0,acc)
 | m+1,i,acc=>if (zCo T1 T2 (min (n-i*yE n e) (yE n e)) (yX n e i Z)).1≠0 then ((zCo T1 T2 (min (n-i*yE n e) (yE n e)) (yX n e i Z)).1,[]) else zAB T1 T2 n e Z m (i+1) (acc++zCk i++(zCo T1 T2 (min (n-i*yE n e) (yE n e)) (yX n e i Z)).2)
def zMF {T1 T2:List Tok} {n e:Nat} {Z:List Int} {m i:Nat} {acc:List Nat} {r:Int×List Nat} (hr:zCo T1 T2 (min (n-i*yE n e) (yE n e)) (yX n e i Z)=r) (h:r.1≠0):zAB T1 T2 n e Z (m+1) i acc=(r.1,[]):=by
 rw[zAB,hr,if_pos h]
def zOB {T1 T2:List Tok} {n e:Nat} {Z:List Int} {m i:Nat} {acc:List Nat} {r:Int×List Nat} (hr:zCo T1 T2 (min (n-i*yE n e) (yE n e)) (yX n e i Z)=r) (h:r.1=0):zAB T1 T2 n e Z (m+1) i acc=zAB T1 T2 n e Z m (i+1) (acc++zCk i++r.2):=by
 rw[zAB,hr,if_neg (by simp[h])]
def zEp {n e i:Nat} {Z:List Int} (hZ:Z.length=n*64):(yX n e i Z).length=min (n-i*yE n e) (yE n e)*64:=by
 unfold yX;rw[wI8,wK1,hZ, ←Nat.sub_mul];exact wO8 (wJ0 _ (Nat.min_le_left _ _))
def segR_len {T1 T2:List Tok} (f1:zBe T1) (f2:zBe T2) (n:Nat) (Z:List Int):(zCo T1 T2 n Z).2.length≤1000000000:=by
 unfold zCo;have h:=encZ_bd f1 f2 n Z;generalize (xZ (xK T1 T2) n Z []).2=L at *;have h1:=zNe (jJ (zAM L));rw[zCz] at h1;have h2:(zAM L).length≤L.length+8:=by unfold zAM;rw[wF3,wF5];omega
 show (qG (jJ (zAM L))).length≤_
 omega
def zCM (T1 T2:List Tok) (n e:Nat) (Z:List Int):Int×List Nat:=if qL n Z≠0 then (qL n Z,[]) else zAB T1 T2 n e Z (yG n e) 0 []
section
def vW (l:List Int) (k:Nat):List Int:=l.set k (wrap64 (l.getD k 0+1))
def yT (s:List Int×List Int) (t:Tok) (b:Bool):Int×(List Int×List Int):=(0,if b then (vW s.1 t.1.toNat,s.2) else (s.1,vW s.2 t.1.toNat))
def zFu (l:List Int) (k:Nat):(vW l k).length=l.length:=by simp[vW]
structure CntIn (p q gA gB:Nat) (W:World) (s:List Int×List Int) (F:Nat→Prop):Prop where
 hp:Blk W p 22 #[.slice (some ⟨gA,0,none⟩) 256 256]
 hq:Blk W q 22 #[.slice (some ⟨gB,0,none⟩) 256 256]
 ha:Blk W gA 3 (bv s.1)
 hb:Blk W gB 3 (bv s.2)
 la:s.1.length=256
 lb:s.2.length=256
 ne:gA≠gB
 hF: ∀ x,F x↔x=p∨x=q∨x=gA∨x=gB
def CntIn.keep {p q gA gB:Nat} {W W':World} {s:List Int×List Int} {F T:Nat→Prop} (h:CntIn p q gA gB W s F) (hu:Upd T W W') (hT: ∀ x,T x→ ¬F x):CntIn p q gA gB W' s F:=by
 have k: ∀ x,F x→ ¬T x:=fun x hf ht=>hT x ht hf
 exact⟨hu.blk h.hp (k _ ((h.hF _).2 (.inl rfl))),hu.blk h.hq (k _ ((h.hF _).2 (.inr (.inl rfl)))),hu.blk h.ha (k _ ((h.hF _).2 (.inr (.inr (.inl rfl))))),hu.blk h.hb (k _ ((h.hF _).2 (.inr (.inr (.inr rfl))))),h.la,h.lb,h.ne,h.hF⟩
def zGd:22≠3:=by decide
def CntIn.setA {p q gA gB:Nat} {W:World} {s:List Int×List Int} {F:Nat→Prop} (h:CntIn p q gA gB W s F) (k:Nat) (x:Int):CntIn p q gA gB (W.setCell ⟨gA,k,none⟩ (.int .i64 x)) (s.1.set k x,s.2) F:=by
 have n1:=h.hp.ne_ h.ha zGd;have n2:=h.hq.ne_ h.ha zGd;have:=h.ha.set_ k (.int .i64 x);rw[jO] at this;exact⟨h.hp.far (p:=⟨gA,k,none⟩) n1 _,h.hq.far (p:=⟨gA,k,none⟩) n2 _,this,h.hb.far (p:=⟨gA,k,none⟩) h.ne.symm _,by simpa using h.la,h.lb,h.ne,h.hF⟩
def CntIn.setB {p q gA gB:Nat} {W:World} {s:List Int×List Int} {F:Nat→Prop} (h:CntIn p q gA gB W s F) (k:Nat) (x:Int):CntIn p q gA gB (W.setCell ⟨gB,k,none⟩ (.int .i64 x)) (s.1,s.2.set k x) F:=by
 have n1:=h.hp.ne_ h.hb zGd;have n2:=h.hq.ne_ h.hb zGd;have:=h.hb.set_ k (.int .i64 x);rw[jO] at this;exact⟨h.hp.far (p:=⟨gB,k,none⟩) n1 _,h.hq.far (p:=⟨gB,k,none⟩) n2 _,h.ha.far (p:=⟨gB,k,none⟩) h.ne _,this,h.la,by simpa using h.lb,h.ne,h.hF⟩
def zFB (x:Int) (w:World):(binOp .add 3 (.int .i64 x) (.int .i64 1)).run Tryz.prog w=.ok (.int .i64 (wrap64 (x+1))) w:=by
 have e:IntKind.i64.wrap (x+1)=wrap64 (x+1):=by simp[IntKind.wrap_i64,wrap64]
 go_simp
attribute [local irreducible] bv
def zQx (p q gA gB:Nat) (t:Tok) (b:Bool) (s:List Int×List Int) (F:Nat→Prop) (w:World) (hw:zBW t) (h:CntIn p q gA gB w s F) :
 Calls Tryz.prog 146 #[.agg (xN t).toArray,.bool b,.pointer (some ⟨p,0,none⟩),.pointer (some ⟨q,0,none⟩)] w fun e w'=>e=.returned (.int .i64 (yT s t b).1)∧Upd F w w'∧ ∃ F',CntIn p q gA gB w' (yT s t b).2 F'∧ ∀ x,F' x→F x∨w.heap.size≤x:=by
 obtain⟨t1,t2,t3⟩:=t;obtain⟨h1,h2, -⟩:=hw;dsimp only at h1 h2;obtain⟨m,hm⟩: ∃ m:Nat,t1=(m:Int):=⟨t1.toNat,by omega⟩
 subst hm;have hm2:m<256:=by omega
 obtain⟨f,r⟩:=s;have hfa:F gA:=(h.hF _).2 (.inr (.inr (.inl rfl)));have hfb:F gB:=(h.hF _).2 (.inr (.inr (.inr rfl)));have HS:Hid (yT (f,r) ((m:Int),t2,t3) b=(0,if b then (vW f m,r) else (f,vW r m))):=zA (by simp[yT]);generalize yT (f,r) ((m:Int),t2,t3) b=R at *
 cases b with
 | true =>
   have hl:m<f.length:=by rw[h.la];exact hm2
   have HF:=zA (show f.getD m 0=f[m] by simp[wF4,hl]);have hm3:(m:Int)<256:=by omega
   go_enter Tryz.func146,Tryz.ntmps146
   go_wp2_with (first
    | ((with_reducible apply gS 4);refine wBox rfl 149 (.tmp 0) rfl #[.int .i64 (m:Int),.int .i64 t2,.int .i64 t3] rfl ?_;intro w1 g1 hb1 hx1 hg1;have h1':=h.keep (yB (S:=fun _=>False) hx1) (fun _ k=>k.elim);have q0:w1.cell? ⟨g1,0,none⟩=some (.int .i64 (m:Int)):=hb1.cell 0;have hp1:=(h1'.hp.cell 0).trans (show (#[Value.slice (some ⟨gA,0,none⟩) 256 256]:Array Value)[0]? =some (.slice (some ⟨gA,0,none⟩) 256 256) from rfl);have hc1:w1.cell? ⟨gA,m,none⟩=some (.int .i64 f[m]):=(h1'.ha.cell m).trans (qK f m hl);have hz1:=h1'.ha.frozen m)
    | ((with_reducible apply gS 13);refine zB rfl (.int .i64 (wrap64 (f[m]+1))) (qT rfl rfl rfl (zFB _)) ?_))
   go_ret;have hs:=h1'.setA m (wrap64 (f[m]+1));rw[HS.out];refine⟨rfl, ?_,F, ?_,fun x k=>.inl k⟩
   ·exact Upd.setCell (S:=F) (yB hx1) (p:=⟨gA,m,none⟩) hfa _
   ·have e:vW f m=f.set m (wrap64 (f[m]+1)):=by unfold vW;rw[HF.out]
    simp only[if_true,wA6,if_false,e];exact hs
 | false =>
   have hl:m<r.length:=by rw[h.lb];exact hm2
   have HF:=zA (show r.getD m 0=r[m] by simp[wF4,hl]);have hm3:(m:Int)<256:=by omega
   go_enter Tryz.func146,Tryz.ntmps146
   go_wp2_with (first
    | ((with_reducible apply gS 4);refine wBox rfl 149 (.tmp 0) rfl #[.int .i64 (m:Int),.int .i64 t2,.int .i64 t3] rfl ?_;intro w1 g1 hb1 hx1 hg1;have h1':=h.keep (yB (S:=fun _=>False) hx1) (fun _ k=>k.elim);have q0:w1.cell? ⟨g1,0,none⟩=some (.int .i64 (m:Int)):=hb1.cell 0;have hp1:=(h1'.hq.cell 0).trans (show (#[Value.slice (some ⟨gB,0,none⟩) 256 256]:Array Value)[0]? =some (.slice (some ⟨gB,0,none⟩) 256 256) from rfl);have hc1:w1.cell? ⟨gB,m,none⟩=some (.int .i64 r[m]):=(h1'.hb.cell m).trans (qK r m hl);have hz1:=h1'.hb.frozen m)
    | ((with_reducible apply gS 20);refine zB rfl (.int .i64 (wrap64 (r[m]+1))) (qT rfl rfl rfl (zFB _)) ?_))
   go_ret;have hs:=h1'.setB m (wrap64 (r[m]+1));rw[HS.out];refine⟨rfl, ?_,F, ?_,fun x k=>.inl k⟩
   ·exact Upd.setCell (S:=F) (yB hx1) (p:=⟨gB,m,none⟩) hfb _
   ·have e:vW r m=r.set m (wrap64 (r[m]+1)):=by unfold vW;rw[HF.out]
    simp only[if_true,wA6,if_false,e];exact hs
def goesCnt:zAp Tryz.prog 146:=⟨_,Tryz.func146,by kernel_rfl,by kernel_rfl⟩
def countEat (p q gA gB:Nat):Eat 146 #[.pointer (some ⟨p,0,none⟩),.pointer (some ⟨q,0,none⟩)] (CntIn p q gA gB) yT (fun _=>True) :=
 ⟨goesCnt,fun _ _ _=>trivial,fun t b s F W _ hw h=>by simpa using zQx p q gA gB t b s F W hw h,fun s F W W' h hx=>h.keep (T:=fun _=>False) (yB hx) (fun _ k=>k.elim),fun s F W x h hx=>by
  rcases (h.hF x).1 hx with rfl | rfl | rfl | rfl
  ·exact h.hp.lt
  ·exact h.hq.lt
  ·exact h.ha.lt
  ·exact h.hb.lt⟩
end
section
variable {P:Program} {md:Region.Mode} {ops:Array Oper} {J:Array Bool→Act→World→Prop} {QN:Act→World→Prop}
def count_set (l:Array Bool) (i:Nat) (h:l.getD i true=false):(l.setIfInBounds i true).toList.count false+1=l.toList.count false:=by
 have hi:i<l.size:=by
  rcases wA3 i l.size with h1 | h1
  ·exact h1
  ·rw[wP2,wA4 h1] at h;cases h
 have h0:l.toList[i]'(by simpa using hi)=false:=by
  rw[wP2,wF2 hi] at h;simpa using h
 rw[wD3];rw[List.count_set (by simpa using hi),h0];have:0<l.toList.count false:=wP3.2 (h0 ▸ wE2 _);simp only[show ((false:Bool) ==false)=true from rfl,show ((true:Bool) ==false)=false from rfl,if_true,wA6,if_false];omega
def zOQ (hstep: ∀ listed a w,J listed a w→ ∀ i∈Region.ready md ops listed,wpOp P ops (xO QN) i (fun a' w'=>J (listed.setIfInBounds i true) a' w') a w)
 (hdone: ∀ listed a w,J listed a w→Region.ready md ops listed=[]→QN a w): ∀ (f:Nat) (listed:Array Bool) (a:Act) (w:World),listed.toList.count false≤f→J listed a w→wpAny P md ops (xO QN) f listed a w
 | 0,listed,a,w,hf,h=>by
   have hr:Region.ready md ops listed=[]:=by
    cases hq:Region.ready md ops listed with
    | nil=>rfl
    | cons i r =>
      have hi:i∈Region.ready md ops listed:=by rw[hq];simp
      have:=count_set listed i (mem_ready.1 hi).1;omega
   exact⟨hr,hdone _ _ _ h hr⟩
 | f+1,listed,a,w,hf,h=>⟨fun h0=>hdone _ _ _ h h0,fun i hi=>wpOp_mono (fun a' w' h'=>zOQ hstep hdone f _ a' w' (by have:=count_set listed i (mem_ready.1 hi).1;omega) h') (hstep _ _ _ h i hi)⟩
def zHr (J:Array Bool→Act→World→Prop) {id:Nat} {a:Act} {w:World} {l:List Oper} {Q:Exit→Act→World→Prop} (hm:P.follows .mixedOrders=true) (h0:J (Array.replicate l.length false) a w.drew)
 (hstep: ∀ listed a w,J listed a w→ ∀ i∈Region.ready .any l.toArray listed,wpOp P l.toArray (xO fun a w=>Q .normal a w) i (fun a' w'=>J (listed.setIfInBounds i true) a' w') a w)
 (hdone: ∀ listed a w,J listed a w→Region.ready .any l.toArray listed=[]→Q .normal a w):(Code.region id l.toArray true).wp P Q a w:=by
 refine Code.wp_mono (Q:=xO (fun a w=>Q .normal a w)) (fun e a w h=> ?_) (wp_region_any hm (zOQ hstep hdone _ _ _ _ ?_ ?_))
 ·cases e<;>first | exact h | exact (h:False).elim
 ·simp
 ·simpa using h0
end
section
def z256:List Int:=List.replicate 256 0
def zAk:bv (List.replicate 256 0)=bv z256:=rfl
def zCV:z256.length=256:=wF5
def MadeAt (w0 w:World) (l:Bool) (u:Value):Prop:=l=true→ ∃ g,u=.slice (some ⟨g,0,none⟩) 256 256∧Blk w g 3 (bv z256)∧w0.heap.size≤g
def CellIn (w0 w:World) (l s:Bool) (u v:Value):Prop:=l=true→ ∃ g,u=.pointer (some ⟨g,0,none⟩)∧Blk w g 22 #[if s then v else .slice none 0 0]∧w0.heap.size≤g
def MadeAt.ext {w0 w w':World} {l:Bool} {u:Value} (h:MadeAt w0 w l u) (hx:Ext w w'):MadeAt w0 w' l u:=fun e=>by obtain⟨g,h1,h2,h3⟩:=h e;exact⟨g,h1,h2.ext hx,h3⟩
def CellIn.ext {w0 w w':World} {l s:Bool} {u v:Value} (h:CellIn w0 w l s u v) (hx:Ext w w'):CellIn w0 w' l s u v:=fun e=>by obtain⟨g,h1,h2,h3⟩:=h e;exact⟨g,h1,h2.ext hx,h3⟩
attribute [local irreducible] bv z256 xZ
def zKQ (v0 u5 u6 u8 u9:Value):Act:=⟨#[v0,undef,.slice none 0 0,.slice none 0 0,.int .i64 0,u5,u6,undef,u8,u9,undef,undef,undef,undef,undef,undef,undef,undef],[]⟩
def CntJ (w0:World) (v0:Value) (l:Array Bool) (a:Act) (w:World):Prop :=
 ∃ b0 b1 b2 b3 b4 b5 u5 u6 u8 u9,l= #[b0,b1,b2,b3,b4,b5]∧a=zKQ v0 u5 u6 u8 u9∧Ext w0 w∧MadeAt w0 w b0 u8∧MadeAt w0 w b1 u9∧CellIn w0 w b2 b4 u5 u8∧CellIn w0 w b3 b5 u6 u9 ∧
  (b0=true→b1=true→u8≠u9)∧(b2=true→b3=true→u5≠u6)∧(b4=true→b0=true∧b2=true)∧(b5=true→b1=true∧b3=true)
def MadeAt.ne {w0 w:World} {l:Bool} {u:Value} (h:MadeAt w0 w l u) {g:Nat} (hg:w.heap.size≤g) (hl:l=true):u≠.slice (some ⟨g,0,none⟩) 256 256:=by
 obtain⟨g',rfl,hb, -⟩:=h hl;intro e;injection e with e
 injection e with e
 injection e with e
 have:=hb.lt;omega
def CellIn.ne {w0 w:World} {l s:Bool} {u v:Value} (h:CellIn w0 w l s u v) {g:Nat} (hg:w.heap.size≤g) (hl:l=true):u≠.pointer (some ⟨g,0,none⟩):=by
 obtain⟨g',rfl,hb, -⟩:=h hl;intro e;injection e with e
 injection e with e
 injection e with e
 have:=hb.lt;omega
def zAf {md:Region.Mode} {ops:Array Oper} {l:Array Bool} {i:Nat} {o:Oper} (h:i∈Region.ready md ops l) (ho:ops[i]? =some o):l.getD i true=false∧ ∀ e∈o.after,Region.binds md e=true→l.getD e.on false=true:=by
 obtain⟨h1,o',h2,h3⟩:=mem_ready.1 h;rw[ho] at h2;injection h2 with h2
 subst h2;exact⟨h1,h3⟩
def MadeAt.set {w0 w:World} {l:Bool} {u:Value} (h:MadeAt w0 w l u) {g:Nat} {cs:Array Value} (hb:Blk w g 22 cs) (v:Value):MadeAt w0 (w.setCell ⟨g,0,none⟩ v) l u:=fun e=>by
 obtain⟨g',h1,h2,h3⟩:=h e;exact⟨g',h1,h2.far (p:=⟨g,0,none⟩) (hb.ne_ h2 zGd).symm v,h3⟩
def CountsIs (w:World) (r:Int×(List Int×List Int)) (e:Ending) (w':World):Prop :=
 Ext w w'∧if r.1=0 then ∃ gA gB,e=.returned (.tuple #[.slice (some ⟨gA,0,none⟩) 256 256,.slice (some ⟨gB,0,none⟩) 256 256,.int .i64 0])∧Blk w' gA 3 (bv r.2.1)∧Blk w' gB 3 (bv r.2.2)∧r.2.1.length=256∧r.2.2.length=256∧w.heap.size≤gA∧w.heap.size≤gB
  else e=.returned (.tuple #[.slice none 0 0,.slice none 0 0,.int .i64 r.1])
def zRj (W:World) (p:Addr) (A:Option Addr) (n c:Nat) (h:W.cell? p=some (.slice A n c)):(Instr.loadAt 22 (.pointer (some p))).run Tryz.prog W=.ok (.slice A n c) W:=by
 go_simp
section
variable {o:Oper} {a:Act}
def zNY {x:Operand} (ho:o.op=.load 22 x) {p:Addr} (hx:a.eval x=.pointer (some p)) {A:Option Addr} {n c:Nat} {w:World} (h:w.cell? p=some (.slice A n c)):(execOp a.eval o).run Tryz.prog w=.ok (.value (.slice A n c)) w:=by
 simp[execOp,ho,hx,zRj w p A n c h]
end
def nilZero:(Tryz.prog.info? 22).bind (·.zero)=some (.slice none 0 0):=by kernel_rfl
def zLG (A:Option Addr) (n c:Nat) (Z:List Int) (hZ:Z.length=n*64) (w:World) (hs:SL w 64 (.slice A n c) n (ints Z)) :
 Calls Tryz.prog 100 #[.slice A n c] w (CountsIs w (xZ yT n Z (z256,z256))):=by
 have hmf: ∀ (fn:Fn) (first cap:Array Value) (w:World),(Instr.makeFunc fn first cap).run Tryz.prog w=.ok (.func fn first cap) w:=fun _ _ _ _=>rfl
 go_enter Tryz.func100,Tryz.ntmps100;go_upto_region 1 with fail
 refine zHr (CntJ w (.slice A n c)) (by kernel_rfl) ?_ ?_ ?_
 ·exact⟨false,false,false,false,false,false,undef,undef,undef,undef,rfl,rfl,(Ext.refl w).drew,(fun h=>by cases h),(fun h=>by cases h),(fun h=>by cases h),(fun h=>by cases h),(fun h=>by cases h),(fun h=>by cases h),(fun h=>by cases h),(fun h=>by cases h)⟩
 ·rintro l a w1 ⟨b0,b1,b2,b3,b4,b5,u5,u6,u8,u9,rfl,rfl,hx,h8,h9,h5,h6,d8,d5,k4,k5⟩ i hi
  have hi6:i=0∨i=1∨i=2∨i=3∨i=4∨i=5:=by
   obtain⟨h1,o,ho, -⟩:=mem_ready.1 hi
   have:i<6:=by
    rcases wA3 i 6 with h | h
    ·exact h
    ·rw[wA4 (by simpa using h)] at ho;cases ho
   omega
  unfold zKQ;rcases hi6 with rfl | rfl | rfl | rfl | rfl | rfl
  ·have r:=(zAf hi rfl).1;have r0:b0=false:=r;subst r0;have r4:b4=false:=by cases b4 with | false=>rfl | true=>exact absurd (k4 rfl).1 (by simp)
   subst r4;refine qN rfl ?_;refine qE rfl (some 8) rfl _ _ rfl 256 (by omega) rfl rfl ?_;intro w2 g hb hx2 hg;rw[zAk] at hb;exact⟨true,b1,b2,b3,false,b5,u5,u6,_,u9,rfl,rfl,hx.trans hx2,fun _=>⟨g,rfl,hb,by have:=hx.size;omega⟩,h9.ext hx2,h5.ext hx2,h6.ext hx2,fun _ e=>(h9.ne hg e).symm,d5,(fun e=>by cases e),k5⟩
  ·have r1:b1=false:=(zAf hi rfl).1;subst r1;have r5:b5=false:=by cases b5 with | false=>rfl | true=>exact absurd (k5 rfl).1 (by simp)
   subst r5;refine qN rfl ?_;refine qE rfl (some 9) rfl _ _ rfl 256 (by omega) rfl rfl ?_;intro w2 g hb hx2 hg;rw[zAk] at hb;exact⟨b0,true,b2,b3,b4,false,u5,u6,u8,_,rfl,rfl,hx.trans hx2,h8.ext hx2,fun _=>⟨g,rfl,hb,by have:=hx.size;omega⟩,h5.ext hx2,h6.ext hx2,fun e _=>h8.ne hg e,d5,k4,fun e=>by cases e⟩
  ·have r2:b2=false:=(zAf hi rfl).1;subst r2;have r4:b4=false:=by cases b4 with | false=>rfl | true=>exact absurd (k4 rfl).2 (by simp)
   subst r4;refine qN rfl ?_;refine wAlo' rfl (some 5) rfl 22 rfl _ nilZero ?_;intro w2 g hb hx2 hg;exact⟨b0,b1,true,b3,false,b5,_,u6,u8,u9,rfl,rfl,hx.trans hx2,h8.ext hx2,h9.ext hx2,fun _=>⟨g,rfl,hb,by have:=hx.size;omega⟩,h6.ext hx2,d8,fun _ e=>(h6.ne hg e).symm,(fun e=>by cases e),k5⟩
  ·have r3:b3=false:=(zAf hi rfl).1;subst r3;have r5:b5=false:=by cases b5 with | false=>rfl | true=>exact absurd (k5 rfl).2 (by simp)
   subst r5;refine qN rfl ?_;refine wAlo' rfl (some 6) rfl 22 rfl _ nilZero ?_;intro w2 g hb hx2 hg;exact⟨b0,b1,b2,true,b4,false,u5,_,u8,u9,rfl,rfl,hx.trans hx2,h8.ext hx2,h9.ext hx2,h5.ext hx2,fun _=>⟨g,rfl,hb,by have:=hx.size;omega⟩,d8,fun e _=>h5.ne hg e,k4,fun e=>by cases e⟩
  ·have r4:b4=false:=(zAf hi rfl).1;subst r4;have e:=(zAf hi rfl).2;simp[Region.binds] at e;obtain⟨-,r0,r2,r3⟩:=e;subst r0 r2 r3;obtain⟨g5,rfl,hb5,hl5⟩:=h5 rfl;obtain⟨g8,rfl,hb8,hl8⟩:=h8 rfl;simp only[wA6,if_false] at hb5;have hc:w1.cell? ⟨g5,0,none⟩=some (.slice none 0 0):=hb5.cell 0;have hz:=hb5.frozen 0;refine qN rfl ?_;go_wp2_with fail;obtain⟨g6,rfl,hb6,hl6⟩:=h6 rfl;have hne:g6≠g5:=fun e=>d5 trivial trivial (by rw[e])
   exact⟨true,b1,true,true,true,b5,_,_,_,u9,rfl,rfl,hx.setCell hl5 _,h8.set hb5 _,h9.set hb5 _,fun _=>⟨g5,rfl,hb5.set_ 0 _,hl5⟩,fun _=>⟨g6,rfl,hb6.far (p:=⟨g5,0,none⟩) hne _,hl6⟩,fun _=>d8 trivial,fun _ _=>d5 trivial trivial,fun _=>⟨rfl,rfl⟩,fun e=>⟨(k5 e).1,rfl⟩⟩
  ·have r5:b5=false:=(zAf hi rfl).1;subst r5;have e:=(zAf hi rfl).2;simp[Region.binds] at e;have e1:b1=true:=by simp_all
   have e3:b3=true:=by simp_all
   have e2:b2=true:=by simp_all
   subst e1 e2 e3;obtain⟨g6,rfl,hb6,hl6⟩:=h6 rfl;obtain⟨g9,rfl,hb9,hl9⟩:=h9 rfl;simp only[wA6,if_false] at hb6;have hc:w1.cell? ⟨g6,0,none⟩=some (.slice none 0 0):=hb6.cell 0;have hz:=hb6.frozen 0;clear e;refine qN rfl ?_;go_wp2_with fail;obtain⟨g5,rfl,hb5,hl5⟩:=h5 rfl;have hne:g5≠g6:=fun e=>d5 trivial trivial (by rw[e])
   exact⟨b0,true,true,true,b4,true,_,_,u8,_,rfl,rfl,hx.setCell hl6 _,h8.set hb6 _,h9.set hb6 _,fun _=>⟨g5,rfl,hb5.far (p:=⟨g6,0,none⟩) hne _,hl5⟩,fun _=>⟨g6,rfl,hb6.set_ 0 _,hl6⟩,fun e _=>d8 e trivial,fun _ _=>d5 trivial trivial,fun e=>⟨(k4 e).1,rfl⟩,fun _=>⟨rfl,rfl⟩⟩
 ·rintro l a w1 ⟨b0,b1,b2,b3,b4,b5,u5,u6,u8,u9,rfl,rfl,hx,h8,h9,h5,h6,d8,d5,k4,k5⟩ hr;have no: ∀ i, ¬i∈Region.ready .any _ #[b0,b1,b2,b3,b4,b5]:=fun i hi=>by rw[hr] at hi;cases hi
  have r0:b0=true:=by
   cases b0 with
   | true=>rfl
   | false=>exact absurd (mem_ready.2 ⟨rfl,_,rfl,by simp⟩) (no 0)
  have r1:b1=true:=by
   cases b1 with
   | true=>rfl
   | false=>exact absurd (mem_ready.2 ⟨rfl,_,rfl,by simp⟩) (no 1)
  have r2:b2=true:=by
   cases b2 with
   | true=>rfl
   | false=>exact absurd (mem_ready.2 ⟨rfl,_,rfl,by simp⟩) (no 2)
  have r3:b3=true:=by
   cases b3 with
   | true=>rfl
   | false=>exact absurd (mem_ready.2 ⟨rfl,_,rfl,by simp⟩) (no 3)
  subst r0 r1 r2 r3
  have r4:b4=true:=by
   cases b4 with
   | true=>rfl
   | false=>exact absurd (mem_ready.2 ⟨rfl,_,rfl,by simp[Region.binds]⟩) (no 4)
  subst r4
  have r5:b5=true:=by
   cases b5 with
   | true=>rfl
   | false=>exact absurd (mem_ready.2 ⟨rfl,_,rfl,by simp[Region.binds]⟩) (no 5)
  subst r5;obtain⟨gA,rfl,hbA,hlA⟩:=h8 rfl;obtain⟨gB,rfl,hbB,hlB⟩:=h9 rfl;obtain⟨p,rfl,hbp,hlp⟩:=h5 rfl;obtain⟨q,rfl,hbq,hlq⟩:=h6 rfl;simp only[if_true] at hbp hbq;have hI:CntIn p q gA gB w1 (z256,z256) (fun x=>x=p∨x=q∨x=gA∨x=gB):=⟨hbp,hbq,hbA,hbB,zCV,zCV,fun e=>d8 rfl rfl (by rw[e]),fun x=>Iff.rfl⟩
  have hs1:=hs.ext hx
  have HE:=zA (zQO (countEat p q gA gB) A n c Z hZ w1 hs1 (z256,z256) _ hI (fun ad e h0 k=>by
   obtain⟨A',c',e2, -, -, -,h5⟩:=hs;injection e2 with e3 _ _
   subst e3;obtain⟨ad',e4,h6, -⟩:=h5 h0;rw[e] at e4;injection e4 with e4
   subst e4
   omega) trivial)
  unfold EachIs at HE;generalize xZ yT n Z (z256,z256)=R at *;obtain⟨x,s⟩:=R;dsimp only at HE;unfold zKQ;clear hbA hbB hbp hbq hI hs hs1 h8 h9 h5 h6 d8 d5 k4 k5 hr no hZ
  by_cases hx0:x=0
  ·subst hx0;obtain⟨f,r⟩:=s;go_upto_region 5 with (go_at_call 145;(with_reducible refine (HE.out).mono ?_);rintro e w3 ⟨rfl,hu3,F',hI3, -⟩)
   have hI4:CntIn p q gA gB w3.drew (f,r) F':=hI3.keep (T:=fun _=>False) (Upd.refl _ _).drew (fun _ k=>k.elim);refine qI qS (by kernel_rfl) (by kernel_rfl) ?_;refine xL (by rfl) (.slice (some ⟨gA,0,none⟩) 256 256) (fun W hW=>zNY rfl rfl ((hI4.hp.ext hW).cell 0)) ?_;simp only[sP,sB,sC];refine xL (by rfl) (.slice (some ⟨gB,0,none⟩) 256 256) (fun W hW=>zNY rfl rfl ((hI4.hq.ext hW).cell 0)) ?_;simp only[sP,sB,sC];refine zI (by rfl) (.slice (some ⟨gA,0,none⟩) 256 256) (zW rfl rfl) ?_;simp only[sP,sB,sC];refine zI (by rfl) (.slice (some ⟨gB,0,none⟩) 256 256) (zW rfl rfl) ?_;simp only[sP,sB,sC];refine zI (by rfl) (.int .i64 0) (zW rfl rfl) ?_;simp only[sP,sB,sC];refine vH ?_;intro w5 hx5;go_wp2_with fail;refine bodyPost_ret (results_tmp3 rfl _ _ _) rfl ?_;have hx3:Ext w w3.drew:=(hu3.ext hx (fun y k=>by rcases k with rfl | rfl | rfl | rfl<;>assumption)).drew;refine⟨hx3.trans hx5, ?_⟩;rw[if_pos rfl];exact⟨gA,gB,rfl,hI4.ha.ext hx5,hI4.hb.ext hx5,hI4.la,hI4.lb,by assumption,by assumption⟩
  ·have hxb:(x !=0)=true:=by simpa using hx0
   have HX:=zA hx0;clear hx0;go_wp2_with (go_at_call 145;(with_reducible refine (HE.out).mono ?_);rintro e w3 ⟨rfl,hu3, -⟩)
   refine bodyPost_ret (results_tmp3 rfl _ _ _) rfl ?_;refine⟨hu3.ext hx (fun y k=>by rcases k with rfl | rfl | rfl | rfl<;>assumption), ?_⟩;rw[if_neg HX.out];rfl
end
def zDM (a b:List Int):List Int:=List.zipWith (fun x y=>wrap64 (x+y)) a b
def zAg (a b:List Int) (i:Nat):List Int:=(zDM a b).take i++a.drop i
def zBz {a b:List Int} (h:b.length=a.length):(zDM a b).length=a.length:=by simp[zDM,h]
def zFq (a b:List Int):zAg a b 0=a:=by simp[zAg]
def zHf {a b:List Int} {n:Nat} (h:b.length=a.length) (hn:a.length=n):zAg a b n=zDM a b:=by
 unfold zAg;rw[wC4 (by rw[zBz h];omega),wM5 (by omega),wG6]
def zHX {a b:List Int} (h:b.length=a.length) (i:Nat):(zAg a b i).length=a.length:=by
 unfold zAg;rw[wF3,wI8,wK1,zBz h];omega
def zJR {a b:List Int} (h:b.length=a.length) {i:Nat} (hi:i<a.length):(zAg a b i)[i]? =some a[i]:=by
 unfold zAg;rw[wG8 (by rw[wI8];omega),wI8,zBz h,wO8 (by omega),wF9,wB4,Nat.add_zero,wA2 hi]
def zHP {a b:List Int} (h:b.length=a.length) {i:Nat} (hi:i<a.length):(zAg a b i).set i (wrap64 (a[i]+b[i]'(by omega)))=zAg a b (i+1):=by
 have hl:((zDM a b).take i).length=i:=by rw[wI8,zBz h];omega
 unfold zAg;rw[wF8 _ _ (by omega),hl,wF9,wG3 hi,wG1,wC3 (by rw[zBz h];exact hi),wG2];simp[zDM]
def xI (n e:Nat) (Z:List Int):Nat→List Int×List Int
 | 0=>(z256,z256)
 | k+1=>(zDM (xI n e Z k).1 (xZ yT (min (n-k*yE n e) (yE n e)) (yX n e k Z) (z256,z256)).2.1,zDM (xI n e Z k).2 (xZ yT (min (n-k*yE n e) (yE n e)) (yX n e k Z) (z256,z256)).2.2)
def zQC: ∀ (l:List (Tok×Bool)) (s:List Int×List Int),(xV yT l s).1=0
 | [],_=>rfl
 | (_,_)::r,_=>by rw[zAv rfl];exact zQC r _
def cntE (n:Nat) (Z:List Int) (s:List Int×List Int):(xZ yT n Z s).1=qL n Z:=by
 unfold xZ qL;split
 ·rfl
 ·split
  ·rfl
  ·exact zQC _ _
def zCh {n:Nat} {Z:List Int}:qL n Z=0↔n≤400∧ ∀ z∈Z, -2047≤z∧z≤2047:=by
 unfold qL;constructor
 ·intro h
  by_cases h1:400<n
  ·rw[if_pos h1] at h;cases h
  ·rw[if_neg h1] at h
   cases h2:zR Z (-2047) 2047 with
   | false=>rw[h2] at h;cases h
   | true=>exact⟨by omega,yD.1 h2⟩
 ·rintro⟨h1,h2⟩;rw[if_neg (by omega),yD.2 h2];rfl
def piece_mem {n e i:Nat} {Z:List Int} {z:Int} (h:z∈yX n e i Z):z∈Z:=wG9 (wH0 h)
def piece_e {n e i:Nat} {Z:List Int} (h:qL n Z=0):qL (min (n-i*yE n e) (yE n e)) (yX n e i Z)=0:=by
 obtain⟨h1,h2⟩:=zCh.1 h;exact zCh.2 ⟨by omega,fun z hz=>h2 z (piece_mem hz)⟩
section
def elt_span:Elt Tryz.prog 136 139 2 16:=⟨Tryz.underlying136,by kernel_rfl,by omega⟩
def uH:(Tryz.prog.info? 139).map (·.size)=some 2:=by kernel_rfl
def zCp:(Tryz.prog.info? 139).bind (·.zero)=some (.agg (bv [0,0])):=by kernel_rfl
def zIt:((Tryz.prog.info? 139).bind (·.zero)).isSome=true:=by rw[zCp];rfl
def zJO (x y:Int):Tryz.prog.built 139 [(0,.int .i64 x),(1,.int .i64 y)]=some (bv [x,y]):=by
 show _=_
 kernel_rfl
def zMj {w:World} {g sz:Nat} {t:TypeId} {zs:List Int} (h:Blk w g t (bv zs)) (hz:zs.length=sz):SL w sz (.slice (some ⟨g,0,none⟩) 1 1) 1 (ints zs):=by
 have:=h.sl (size:=sz) (n:=1) (c:=1) (by rw[zK,hz];omega) (by omega) (by omega);simpa [bv] using this
attribute [local irreducible] bv jM yE yG
def zOO (n e:Nat) (hn:n≤1000000) (he:e≤1000000) (w:World) :
 Calls Tryz.prog 99 #[.int .i64 (n:Int),.int .i64 (e:Int)] w fun en w'=> ∃ B d,en=.returned (.slice B (yG n e) d)∧SL w' 2 (.slice B (yG n e) d) (yG n e) (ints (jM n e (yG n e)))∧(∀ ad,B=some ad→w.heap.size≤ad.block)∧Ext w w':=by
 by_cases h:e=0∨n=0
 ·obtain⟨hE,hK⟩:=zDB h
  have hL:jM n e 1=[0,(n:Int)]:=by
   simp only[jM,wL5,hE];simp
  rw[hK,hL];have hs:Hid ((bv [0,(n:Int)]).size=2):=zA (by rw[zK];rfl);clear hE hK hL
  by_cases h0:e=0
  ·have H8:Hid (decide ((e:Int)=0)=true):=zA (by rw[wB3];omega);clear h h0;go_enter Tryz.func99,Tryz.ntmps99
   go_wp2_with (first
    | ((with_reducible apply gS 8);refine zB rfl (.bool true) (jQ rfl rfl rfl H8.out) ?_)
    | ((with_reducible apply gS 14);refine zB rfl (.agg (bv [0,(n:Int)])) (zAA rfl rfl rfl (zJO _ _)) ?_)
    | ((with_reducible apply gS 15);refine wLit1 rfl 136 139 (.tmp 14) rfl (some 15) rfl Tryz.underlying136 2 uH zIt _ rfl hs.out (by omega) (by omega) ?_;intro w1 g hb1 hx1 hg1))
   go_ret;exact⟨_,_,rfl,zMj hb1 rfl,(fun ad q=>by injection q with q;subst q;exact hg1),hx1⟩
  ·have H8:Hid (decide ((e:Int)=0)=false):=zA (by rw[decide_eq_false_iff_not];omega);have H11:Hid (decide ((n:Int)=0)=true):=zA (by rw[wB3];omega);clear h h0;go_enter Tryz.func99,Tryz.ntmps99
   go_wp2_with (first
    | ((with_reducible apply gS 8);refine zB rfl (.bool false) (jQ rfl rfl rfl H8.out) ?_)
    | ((with_reducible apply gS 11);refine xA (by rfl) (.bool true) (jQ rfl rfl rfl H11.out) ?_)
    | ((with_reducible apply gS 14);refine zB rfl (.agg (bv [0,(n:Int)])) (zAA rfl rfl rfl (zJO _ _)) ?_)
    | ((with_reducible apply gS 15);refine wLit1 rfl 136 139 (.tmp 14) rfl (some 15) rfl Tryz.underlying136 2 uH zIt _ rfl hs.out (by omega) (by omega) ?_;intro w1 g hb1 hx1 hg1))
   go_ret;exact⟨_,_,rfl,zMj hb1 rfl,(fun ad q=>by injection q with q;subst q;exact hg1),hx1⟩
 ·have HE:=zA (zFJ h).1;have HLT:=zA (fun i=>zJh (i:=i) h);have HKL:=zA (zDj (n:=n) (e:=e));have HE0:Hid (0<e):=zA (by omega);have H8:Hid (decide ((e:Int)=0)=false):=zA (by rw[decide_eq_false_iff_not];omega);have H11:Hid (decide ((n:Int)=0)=false):=zA (by rw[decide_eq_false_iff_not];omega)
  have how:OwnV w w.heap.size 139 2 (.slice none 0 0) 0 (ints (jM n e 0)):=by
   have h0:jM n e 0=[]:=by unfold jM;rfl
   rw[h0];exact OwnV.nil _ _ _ _
  have hn':=hn;clear h;obtain⟨K,hK⟩: ∃ K,yG n e=K:=⟨_,rfl⟩
  rw[hK] at HLT HKL ⊢;clear hK;go_enter Tryz.func99,Tryz.ntmps99
  go_wp2_with (first
   | ((with_reducible apply gS 8);refine zB rfl (.bool false) (jQ rfl rfl rfl H8.out) ?_)
   | ((with_reducible apply gS 11);refine xA (by rfl) (.bool false) (jQ rfl rfl rfl H11.out) ?_))
  go_loopw [5,6] (fun x iv wr=> ∃ (k p:Nat),Hid (p=k*e∧k≤K)∧p≤n+e∧iv=.int .i64 (p:Int)∧OwnV wr w.heap.size 139 2 x k (ints (jM n e k))∧Ext w wr) (fun _ i _=>n+e-(intOf i).toNat)
  case atStart=>exact⟨0,0,zA (by omega),by omega,rfl,how,Ext.refl _⟩
  case round =>
   clear how;obtain⟨k,p,HP,hpn,rfl,⟨OA,oc,rfl,hown⟩,hx⟩:=hrel
   by_cases hlt:p<n
   ·obtain⟨p2,hp2⟩: ∃ q,p+e=q:=⟨_,rfl⟩
    obtain⟨mn,hmn⟩: ∃ q,min p2 n=q:=⟨_,rfl⟩
    have hs:Hid ((bv [(p:Int),(mn:Int)]).size=2):=zA (by rw[zK];rfl);have hk1:k<K:=by have h1:=HP.out;exact (HLT.out k).2 (by rw[←h1.1];exact hlt)
    have hk2:k≤1000001:=by have h1:=HKL.out;omega
    have HNX:Hid (jM n e (k+1)=jM n e k++[(p:Int),(mn:Int)]):=zA (by
     have h1:=HP.out;have h2:k*yE n e=p:=by rw[HE.out,h1.1]
     rw[jM,h2,HE.out,hp2,hmn])
    have HP2:Hid (p2=(k+1)*e∧k+1≤K):=zA (by have h1:=HP.out;rw[wO9, ←h1.1];omega);have HPP:=zA hp2;have hp3:p<p2:=by have:=HE0.out;omega
    have hp4:p2≤n+e:=by omega
    clear hp2
    go_wp2_with (first
     | ((with_reducible apply gS 26);refine zB rfl (.int .i64 (p2:Int)) (by rw[←HPP.out];exact yH (i:=p) (d:=e) rfl rfl rfl (by omega)) ?_)
     | ((with_reducible apply gS 28);refine zB rfl (.int .i64 (mn:Int)) (by rw[←hmn];exact zEz (i:=p2) (d:=n) rfl rfl rfl) ?_)
     | ((with_reducible apply gS 29);refine zB rfl (.agg (bv [(p:Int),(mn:Int)])) (zAA rfl rfl rfl (zJO _ _)) ?_)
     | ((with_reducible apply gS 30);refine wLit1 rfl 136 139 (.tmp 29) rfl (some 30) rfl Tryz.underlying136 2 uH zIt _ rfl hs.out (by omega) (by omega) ?_;intro w1 g hb1 hx1 hg1;have ho1:=yR hown hx1)
     | ((with_reducible apply gS 31);at_builtin;refine wApf elt_span rfl (.tmp 22) (.tmp 30) rfl w.heap.size (.slice OA k oc) k (ints (jM n e k)) rfl ho1 _ 1 (ints [(p:Int),(mn:Int)]) rfl (zMj hb1 rfl) (qY _) (by omega) (by omega) (by have:=hx.size;have:=hx1.size;omega) ?_;intro A4 c4 w4 ho4 hgr4 hor4;have hx4:=(hx.trans hx1).grown' hgr4 (fun b hb=>(ho1.lt b hb).1))
     | ((with_reducible apply gS 21);refine zB rfl (.int .i64 (p2:Int)) (by rw[←HPP.out];exact yH (i:=p) (d:=e) rfl rfl rfl (by omega)) ?_))
    go_roundw
    case rel=>exact⟨k+1,p2,HP2,hp4,rfl,⟨A4,c4,rfl,by rw[HNX.out,uR];exact ho4⟩,hx4⟩
    case measure=>simp[intOf];omega
   ·have hk:k=K:=by
     have h1:=HP.out;have h2: ¬k<K:=fun h=>hlt (by rw[h1.1];exact (HLT.out k).1 h)
     omega
    subst hk;go_wp2_with fail;go_ret;exact⟨_,_,rfl,(jF hown).1,(jF hown).2,hx⟩
def zIf (n e:Nat) (hn:n≤1000000) (he:e≤1000000) (w:World) :
 Calls Tryz.prog 99 #[.int .i64 (n:Int),.int .i64 (e:Int)] w fun en w'=> ∃ B d,en=.returned (.slice B (yG n e) d)∧SL w' 2 (.slice B (yG n e) d) (yG n e) (ints (jM n e (yG n e)))∧Ext w w' :=
 (zOO n e hn he w).mono fun _ _ ⟨B,d,h1,h2,_,h3⟩=>⟨B,d,h1,h2,h3⟩
end
def zCL (A:Option Addr) (c l:Nat):Option Addr:=if c=l then A else A.map (·.add (l*64))
def SL.subK {w:World} {A:Option Addr} {n c l h:Nat} {xs:List Value} (hs:SL w 64 (.slice A n c) n xs) (hl:l≤h) (hh:h≤n) :
 SL w 64 (.slice (zCL A c l) (h-l) (c-l)) (h-l) ((xs.drop (l*64)).take ((h-l)*64)):=by
 obtain⟨A',c',e,h1,h2,h3,h4⟩:=hs;injection e with e1 e2 e3
 subst e1 e3;have h5:l*64+(h-l)*64≤n*64:=by rw[←wJ8];exact wJ0 _ (by omega)
 refine⟨_,_,rfl,by omega,by omega,by rw[wI8,wK1,h3];omega,fun h0=> ?_⟩;obtain⟨ad,rfl,hb,hc⟩:=h4 (by omega);unfold zCL;rw[if_neg (by omega)];refine⟨ad.add (l*64),rfl,by rw[yN];exact hb,fun j u hu=> ?_⟩;rw[zHi];refine hc _ _ ?_;have hj:j<(h-l)*64:=by have:=(wC2.1 hu).1;rw[wI8] at this;omega
 rwa [wD0 hj,wB4] at hu
def run_subK (A:Option Addr) (n c l h:Nat) (hl:l≤h) (hh:h≤n) (hc:n≤c) (w:World) :
 (Instr.slice 25 (.slice A n c) (some (.int .i64 (l:Int))) (some (.int .i64 (h:Int))) none).run Tryz.prog w=.ok (.slice (zCL A c l) (h-l) (c-l)) w:=by
 have e1:((l:Int)≤(h:Int)):=by omega
 have e2:((h:Int)≤(c:Int)):=by omega
 have e3:l≤c:=by omega
 unfold zCL;go_simp
def run_subF (A:Option Addr) (n c l:Nat) (hh:l≤n) (hc:n≤c) (w:World) :
 (Instr.slice 25 (.slice A n c) (some (.int .i64 (l:Int))) none none).run Tryz.prog w=.ok (.slice (zCL A c l) (n-l) (c-l)) w:=by
 have e1:((l:Int)≤(n:Int)):=by omega
 have e2:((n:Int)≤(c:Int)):=by omega
 have e3:l≤c:=by omega
 unfold zCL;go_simp
def add_0 (a:Addr):a.add 0=a:=by cases a;simp[Addr.add]
def subA_0 (A:Option Addr) (c:Nat):zCL A c 0=A:=by
 unfold zCL;split
 ·rfl
 ·cases A with
  | none=>rfl
  | some a=>simp[add_0]
def run_subT (A:Option Addr) (n c h:Nat) (hh:h≤n) (hc:n≤c) (w:World) :
 (Instr.slice 25 (.slice A n c) none (some (.int .i64 (h:Int))) none).run Tryz.prog w=.ok (.slice A h c) w:=by
 have e2:((h:Int)≤(c:Int)):=by omega
 go_simp
section
variable {o:Oper} {a:Act}
def ex_subK {x lo hi:Operand} (ho:o.op=.slice 25 x (some lo) (some hi) none) {A:Option Addr} {n c l h:Nat} (hx:a.eval x=.slice A n c) (h1:a.eval lo=.int .i64 (l:Int)) (h2:a.eval hi=.int .i64 (h:Int)) (hl:l≤h) (hh:h≤n) (hc:n≤c) (w:World) :
 (execOp a.eval o).run Tryz.prog w=.ok (.value (.slice (zCL A c l) (h-l) (c-l))) w:=by
 simp[execOp,ho,hx,h1,h2,Instr.sliceAt,Sem.run_bind,run_underlying Tryz.underlying25,run_subK A n c l h hl hh hc w]
def ex_subF {x lo:Operand} (ho:o.op=.slice 25 x (some lo) none none) {A:Option Addr} {n c l:Nat} (hx:a.eval x=.slice A n c) (h1:a.eval lo=.int .i64 (l:Int)) (hh:l≤n) (hc:n≤c) (w:World) :
 (execOp a.eval o).run Tryz.prog w=.ok (.value (.slice (zCL A c l) (n-l) (c-l))) w:=by
 simp[execOp,ho,hx,h1,Instr.sliceAt,Sem.run_bind,run_underlying Tryz.underlying25,run_subF A n c l hh hc w]
def ex_subT {x hi:Operand} (ho:o.op=.slice 25 x none (some hi) none) {A:Option Addr} {n c h:Nat} (hx:a.eval x=.slice A n c) (h1:a.eval hi=.int .i64 (h:Int)) (hh:h≤n) (hc:n≤c) (w:World) :
 (execOp a.eval o).run Tryz.prog w=.ok (.value (.slice A h c)) w:=by
 simp[execOp,ho,hx,h1,Instr.sliceAt,Sem.run_bind,run_underlying Tryz.underlying25,run_subT A n c h hh hc w]
end
def zIi {g:Nat} {t:TypeId}: ∀ (news old a b:List Value) (w:World),old.length=news.length→Blk w g t (a++(old++b)).toArray→Blk (w.setCells g a.length news) g t (a++(news++b)).toArray
 | [],old,a,b,w,hl,h=>by
   have:old=[]:=wP4.1 (by simpa using hl);subst this;exact h
 | v::news,[],a,b,w,hl,h=>by simp at hl
 | v::news,o::old,a,b,w,hl,h=>by
   have h1:=h.set_ a.length v;rw[wN6,wF8 _ _ (wA5 _),wF9,wL4,wG1] at h1;have h2:Blk (w.setCell ⟨g,a.length,none⟩ v) g t ((a++[v])++(old++b)).toArray:=by simpa using h1
   have h3:=zIi news old (a++[v]) b _ (by simpa using hl) h2;rw[World.setCells];have e:(a++[v]).length=a.length+1:=by simp
   rw[e] at h3;simpa using h3
def zIF {g:Nat}: ∀ (news:List Value) (o:Nat) (w:World),Upd (fun b=>b=g) w (w.setCells g o news)
 | [],_,w=>Upd.refl _ w
 | v::news,o,w=>by
   rw[World.setCells];have h1:=(Upd.refl (fun b=>b=g) w).setCell (p:=⟨g,o,none⟩) rfl v;exact h1.trans (zIF news (o+1) _) (fun x h=>.inl h)
section
variable {P:Program} {ops:Array Oper} {rest:List Oper} {o:Oper} {ac:Act} {w:World} {Q:Exit→Act→World→Prop}
def vT (hgd:o.guard=none) (ty:TypeId) (x y:Operand) (ho:o.op=.store ty x y) (g off:Nat) (news:List Value) (hx:ac.eval x=.pointer (some ⟨g,off,none⟩)) (hy:ac.eval y=.agg news.toArray)
 {t:TypeId} {a old b:List Value} (hB:Blk w g t (a++(old++b)).toArray) (ha:a.length=off) (hl:old.length=news.length) (hs:(P.info? ty).map (·.size)=some news.length) (h1: ∀ v∈news,v.oneCell'=true)
 (h: ∀ w1,Blk w1 g t (a++(news++b)).toArray→Upd (fun b=>b=g) w w1→wpList P ops Q rest (ac.put o.dst undef) w1):wpList P ops Q (o::rest) ac w:=by
 subst ha;refine wpList_store_mid hgd ty x y ho g a.length news.toArray hx hy (fun j hj=>⟨?_,hB.frozen _⟩) (by simpa using hs) (all_oneCell_toArray h1) (h _ (zIi news old a b w hl hB) (zIF _ _ _));rw[hB.cell];have hj:j<news.length:=by simpa using hj
 simp only[wH5];rw[wG8 (by omega),wG7 (by omega),wA2 (by omega)];rfl
end
def zPA (a m b:List Value) (off k:Nat) (v:Value) (ha:a.length=off) (hk:k<m.length):(a++(m++b)).toArray.setIfInBounds (off+k) v=(a++(m.set k v++b)).toArray:=by
 subst ha;rw[wN6,wF8 _ _ (by omega),wP5 _ _ (by omega)];congr 4
 omega
abbrev Pk:=Int×Value
def vG (L:List Pk):List Value:=L.flatMap fun p=>[.int .i64 p.1,p.2]
def pkV (p:Pk):Array Value:= #[.int .i64 p.1,p.2]
def zEl (L:List Pk):(vG L).length=2*L.length:=by
 induction L with
 | nil=>rfl
 | cons p L ih=>simp only[vG,wJ6,wF3,wA8,wM9] at ih ⊢;omega
def zLz (a b:List Pk):vG (a++b)=vG a++vG b:=by simp[vG]
def zIS (L:List Pk) (i:Nat) (h:i<L.length) (p:Pk):vG (L.set i p)=vG (L.take i)++([.int .i64 p.1,p.2]++vG (L.drop (i+1))):=by
 rw[List.set_eq_take_append_cons_drop,if_pos h,zLz];rfl
def zIH (L:List Pk) (i:Nat) (h:i<L.length):vG L=vG (L.take i)++([.int .i64 L[i].1,L[i].2]++vG (L.drop (i+1))):=by
 have:=zIS L i h L[i]
 rwa [List.set_getElem_self] at this
def DS (w:World) (gd:Nat) (L:List Pk) (rest:List Value):Prop:=Blk w gd 188 (vG L++rest).toArray
def zFT:(Tryz.prog.info? 188).map (·.size)=some 2:=by kernel_rfl
section
variable {ops:Array Oper} {rest:List Oper} {o:Oper} {ac:Act} {w:World} {Q:Exit→Act→World→Prop}
def qA {x:Operand} (ho:o.op=.load 188 x) {gd:Nat} {L:List Pk} {tl:List Value} (hB:DS w gd L tl) {i:Nat} (hi:i<L.length) (hx:ac.eval x=.pointer (some ⟨gd,i*2,none⟩)) :
 (execOp ac.eval o).run Tryz.prog w=.ok (.value (.agg (pkV L[i]))) w:=by
 have hr:w.rangeAt gd (i*2) [.int .i64 L[i].1,L[i].2]:=by
  unfold DS at hB;rw[zIH L i hi,wG2,wG2] at hB;have hl:(vG (L.take i)).length=i*2:=by rw[zEl,wI8];omega
  intro j v hv;rw[hB.cell,wH5,wG8 (by omega),hl,show i*2+j-i*2=j by omega,wG7 (wC2.1 hv).1];exact hv
 unfold execOp;simp only[ho,hx,Instr.loadAt,Instr.sureAddr,Sem.run_bind,Sem.run_pure,Result.andThen_ok,run_loadVar_mid w gd (i*2) 188 _ _ hr Tryz.underlying188 rfl zFT];rfl
def zBK (hgd:o.guard=none) (x y:Operand) (ho:o.op=.store 188 x y) (gd:Nat) (L:List Pk) (tl:List Value) (hB:DS w gd L tl) (i:Nat) (hi:i<L.length) (p:Pk) (h1:p.2.oneCell'=true) (hx:ac.eval x=.pointer (some ⟨gd,i*2,none⟩)) (hy:ac.eval y=.agg (pkV p))
 (h: ∀ w1,DS w1 gd (L.set i p) tl→Upd (fun b=>b=gd) w w1→wpList Tryz.prog ops Q rest (ac.put o.dst undef) w1):wpList Tryz.prog ops Q (o::rest) ac w:=by
 unfold DS at hB h;rw[zIH L i hi,wG2,wG2] at hB;refine vT hgd _ x y ho gd (i*2) [.int .i64 p.1,p.2] hx hy hB (by rw[zEl,wI8];omega) rfl zFT (fun v hv=> ?_) (fun w1 k1 k2=>h w1 ?_ k2)
 ·simp at hv;rcases hv with rfl | rfl
  ·rfl
  ·exact h1
 ·rw[zIS L i hi p,wG2,wG2];exact k1
end
def zAV (a b:Int):Int:=if a<b then -1 else if b<a then 1 else 0
def zNT (a:Int) (w:World):Calls Tryz.prog 208 #[.int .i64 a] w fun e w'=>e=.returned (.bool false)∧w=w':=by
 go_enter Tryz.func208,Tryz.ntmps208;go_wp2_with ((with_reducible apply gS 5);refine zB rfl (.bool false) (jZ rfl rfl rfl (by simp)) ?_)
 go_ret;exact⟨rfl,rfl⟩
def zRL (a b:Int) (w:World):Calls Tryz.prog 182 #[.int .i64 a,.int .i64 b] w fun e w'=>e=.returned (.int .i64 (zAV a b))∧w=w':=by
 have h1:=zA (zNT a w);have h2:=zA (zNT b w)
 by_cases hab:a<b
 ·have e:zAV a b= -1:=by unfold zAV;rw[if_pos hab]
  rw[e];go_enter Tryz.func182,Tryz.ntmps182
  go_wp2_with (first
   | (go_at_call 208;(with_reducible refine h1.out.mono ?_);rintro e w1 ⟨rfl,rfl⟩)
   | (go_at_call 208;(with_reducible refine h2.out.mono ?_);rintro e w1 ⟨rfl,rfl⟩)
   | ((with_reducible apply gS 16);refine zB rfl (.bool true) (zZ rfl rfl rfl (by simpa using hab)) ?_))
  go_ret;exact⟨rfl,rfl⟩
 ·by_cases hba:b<a
  ·have e:zAV a b=1:=by unfold zAV;rw[if_neg hab,if_pos hba]
   rw[e];go_enter Tryz.func182,Tryz.ntmps182
   go_wp2_with (first
    | (go_at_call 208;(with_reducible refine h1.out.mono ?_);rintro e w1 ⟨rfl,rfl⟩)
    | (go_at_call 208;(with_reducible refine h2.out.mono ?_);rintro e w1 ⟨rfl,rfl⟩)
    | ((with_reducible apply gS 16);refine zB rfl (.bool false) (zZ rfl rfl rfl (by simpa using hab)) ?_)
    | ((with_reducible apply gS 19);refine zB rfl (.bool true) (xU rfl rfl rfl (by simpa using hba)) ?_))
   go_ret;exact⟨rfl,rfl⟩
  ·have e:zAV a b=0:=by unfold zAV;rw[if_neg hab,if_neg hba]
   rw[e];go_enter Tryz.func182,Tryz.ntmps182
   go_wp2_with (first
    | (go_at_call 208;(with_reducible refine h1.out.mono ?_);rintro e w1 ⟨rfl,rfl⟩)
    | (go_at_call 208;(with_reducible refine h2.out.mono ?_);rintro e w1 ⟨rfl,rfl⟩)
    | ((with_reducible apply gS 16);refine zB rfl (.bool false) (zZ rfl rfl rfl (by simpa using hab)) ?_)
    | ((with_reducible apply gS 19);refine zB rfl (.bool false) (xU rfl rfl rfl (by simpa using hba)) ?_))
   go_ret;exact⟨rfl,rfl⟩
def zAT (p q:Pk) (w:World):Calls Tryz.prog 148 #[.agg (pkV p),.agg (pkV q)] w fun e w'=>e=.returned (.int .i64 (zAV p.1 q.1))∧Ext w w':=by
 have HC:=zA (fun W=>zRL p.1 q.1 W);have c1:=zA (fun (W:World) g (h:Blk W g 188 (pkV p))=>h.cell 0);have c2:=zA (fun (W:World) g (h:Blk W g 188 (pkV q))=>h.cell 0);obtain⟨a,s⟩:=p;obtain⟨b,t⟩:=q;generalize hp:pkV (a,s)=pv at *;generalize hq:pkV (b,t)=qv at *;have e1:pv[0]? =some (.int .i64 a):=by rw[←hp];rfl
 have e2:qv[0]? =some (.int .i64 b):=by rw[←hq];rfl
 rw[e1] at c1;rw[e2] at c2;dsimp only at HC;clear hp hq e1 e2;go_enter Tryz.func148,Tryz.ntmps148
 go_wp2_with (first
  | ((with_reducible apply gS 2);refine wBox rfl 188 (.tmp 0) rfl pv rfl ?_;intro w1 g1 hb1 hx1 hg1)
  | ((with_reducible apply gS 3);refine wBox rfl 188 (.tmp 1) rfl qv rfl ?_;intro w2 g2 hb2 hx2 hg2;have k1:=c1.out _ _ (hb1.ext hx2);have k2:=c2.out _ _ hb2)
  | ((with_reducible apply gS 6);refine xC rfl (.int .i64 a) (zV rfl rfl k1) ?_)
  | ((with_reducible apply gS 8);refine xC rfl (.int .i64 b) (zV rfl rfl k2) ?_)
  | (go_at_call 182;(with_reducible refine (HC.out _).mono ?_);rintro e w3 ⟨rfl,rfl⟩))
 go_ret;exact⟨rfl,hx1.trans hx2⟩
def zER:zAp Tryz.prog 148:=⟨_,Tryz.func148,rfl,rfl⟩
end Go.Proofs.YtkggcjdlpendfaaGreatDoor
namespace Go.Proofs.YtkggcjdlpendfaaGreatDoor.SM
section
variable {α:Type} (d:α) (wt:α→Int)
def at_ (M:List α) (x:Nat):α:=M.getD x d
def wA (M:List α) (x:Nat):Int:=wt (at_ d M x)
def swp (M:List α) (i j:Nat):List α:=(M.set i (at_ d M j)).set j (at_ d M i)
def zIb (M:List α) (x:Nat) (h:x<M.length):at_ d M x=M[x]:=by simp[at_,h]
def zGc (M:List α) (i j x:Nat) (hi:i<M.length) (hj:j<M.length):at_ d (swp d M i j) x=if x=j then at_ d M i else if x=i then at_ d M j else at_ d M x:=by
 unfold swp;simp only[at_,List.getD_eq_getElem?_getD,List.getElem?_set]
 by_cases hxj:x=j
 ·subst hxj;simp[hj]
 ·have hjx: ¬j=x:=fun h=>hxj h.symm
  by_cases hxi:x=i
  ·subst hxi;simp[hxj,hjx,hi]
  ·have hix: ¬i=x:=fun h=>hxi h.symm
   simp[hxj,hxi,hjx,hix]
def zGr (M:List α) (i j:Nat) (hi:i<M.length) (hj:j<M.length):(swp d M i j).Perm M:=by
 have h:=Array.swap_perm (xs:=M.toArray) (i:=i) (j:=j) (by simpa using hi) (by simpa using hj)
 have e:(M.toArray.swap i j (by simpa using hi) (by simpa using hj)).toList=swp d M i j:=by
  simp[swp,zIb d M i hi,zIb d M j hj]
 have:=Array.perm_iff_toList_perm.1 h
 rwa [e] at this
structure Seg (L M:List α) (a b:Nat):Prop where
 perm:M.Perm L
 out: ∀ x,x<a∨b≤x→at_ d M x=at_ d L x
 val: ∀ x,a≤x→x<b→ ∃ y,a≤y∧y<b∧at_ d M x=at_ d L y
def Seg.refl (L:List α) (a b:Nat):Seg d L L a b:=⟨.refl _,fun _ _=>rfl,fun x h1 h2=>⟨x,h1,h2,rfl⟩⟩
def Seg.trans {L M N:List α} {a b:Nat} (h:Seg d L M a b) (k:Seg d M N a b):Seg d L N a b:=⟨k.perm.trans h.perm,fun x hx=>(k.out x hx).trans (h.out x hx),fun x h1 h2=>by
 obtain⟨y,p1,p2,e⟩:=k.val x h1 h2;obtain⟨z,q1,q2,f⟩:=h.val y p1 p2
 exact⟨z,q1,q2,e.trans f⟩⟩
def Seg.wide {L M:List α} {a b a' b':Nat} (h:Seg d L M a b) (h1:a'≤a) (h2:b≤b'):Seg d L M a' b':=⟨h.perm,fun x hx=>h.out x (by omega),fun x p q=>by
 by_cases hx:a≤x∧x<b
 ·obtain⟨y,p1,p2,e⟩:=h.val x hx.1 hx.2;exact⟨y,by omega,by omega,e⟩
 ·exact⟨x,p,q,h.out x (by omega)⟩⟩
def Seg.len {L M:List α} {a b:Nat} (h:Seg d L M a b):M.length=L.length:=h.perm.length_eq
def Seg.swp {L:List α} {a b i j:Nat} (hi:i<L.length) (hj:j<L.length) (h1:a≤i) (h2:i<b) (h3:a≤j) (h4:j<b):Seg d L (swp d L i j) a b :=
 ⟨zGr d L i j hi hj,fun x hx=>by rw[zGc d L i j x hi hj,if_neg (by omega),if_neg (by omega)],fun x p q=>by
  rw[zGc d L i j x hi hj];split
  ·exact⟨i,h1,h2,rfl⟩
  ·split
   ·exact⟨j,h3,h4,rfl⟩
   ·exact⟨x,p,q,rfl⟩⟩
def Sorted (M:List α) (a b:Nat):Prop:= ∀ x y,a≤x→x<y→y<b→wA d wt M x≤wA d wt M y
def Sorted.of_out {L M:List α} {a b a' b':Nat} (h:Sorted d wt L a b) (hs:Seg d L M a' b') (hd:b≤a'∨b'≤a):Sorted d wt M a b:=fun x y h1 h2 h3=>by
 unfold wA;rw[hs.out x (by omega),hs.out y (by omega)];exact h x y h1 h2 h3
def Sorted.sub {M:List α} {a b a' b':Nat} (h:Sorted d wt M a b) (h1:a≤a') (h2:b'≤b):Sorted d wt M a' b':=fun x y p q r=>h x y (by omega) q (by omega)
structure Ins (M:List α) (a j i:Nat):Prop where
 rest: ∀ x y,a≤x→x<y→y≤i→x≠j→y≠j→wA d wt M x≤wA d wt M y
 up: ∀ y,j<y→y≤i→wA d wt M j≤wA d wt M y
def Ins.start {M:List α} {a i:Nat} (h:Sorted d wt M a i):Ins d wt M a i i:=⟨fun x y h1 h2 h3 h4 h5=>h x y h1 h2 (by omega),fun y h1 h2=>by omega⟩
def Ins.step {M:List α} {a j i:Nat} (h:Ins d wt M a j i) (hj:a<j) (hji:j≤i) (hi:i<M.length) (hl:wA d wt M j<wA d wt M (j-1)):Ins d wt (swp d M j (j-1)) a (j-1) i:=by
 have hw: ∀ x,wA d wt (swp d M j (j-1)) x=if x=j-1 then wA d wt M j else if x=j then wA d wt M (j-1) else wA d wt M x:=fun x=>by
  unfold wA;rw[zGc d M j (j-1) x (by omega) (by omega)];split
  ·rfl
  ·split<;>rfl
 refine⟨fun x y h1 h2 h3 h4 h5=> ?_,fun y h1 h2=> ?_⟩
 ·rw[hw,hw,if_neg h4,if_neg h5]
  by_cases hxj:x=j
  ·rw[if_pos hxj,if_neg (by omega)];exact h.rest (j-1) y (by omega) (by omega) h3 (by omega) (by omega)
  ·rw[if_neg hxj]
   by_cases hyj:y=j
   ·rw[if_pos hyj];exact h.rest x (j-1) h1 (by omega) (by omega) hxj (by omega)
   ·rw[if_neg hyj];exact h.rest x y h1 h2 h3 hxj hyj
 ·rw[hw,hw,if_pos rfl,if_neg (by omega)]
  by_cases hyj:y=j
  ·rw[if_pos hyj];omega
  ·rw[if_neg hyj];exact h.up y (by omega) h2
def Ins.stop {M:List α} {a j i:Nat} (h:Ins d wt M a j i) (hd:j=a∨wA d wt M (j-1)≤wA d wt M j) (haj:a≤j):Sorted d wt M a (i+1):=fun x y h1 h2 h3=>by
 by_cases hxj:x=j
 ·subst hxj;exact h.up y h2 (by omega)
 ·by_cases hyj:y=j
  ·subst hyj;rcases hd with hd | hd
   ·omega
   ·by_cases hx:x=y-1
    ·subst hx;exact hd
    ·exact Int.le_trans (h.rest x (y-1) h1 (by omega) (by omega) hxj (by omega)) hd
  ·exact h.rest x y h1 h2 (by omega) hxj hyj
def Sorted.join {M:List α} {a m b:Nat} (h1:Sorted d wt M a m) (h2:Sorted d wt M m b) (h: ∀ x y,a≤x→x<m→m≤y→y<b→wA d wt M x≤wA d wt M y):Sorted d wt M a b:=fun x y p q r=>by
 by_cases hx:x<m
 ·by_cases hy:y<m
  ·exact h1 x y p q hy
  ·exact h x y p hx (by omega) r
 ·exact h2 x y (by omega) q r
end
end Go.Proofs.YtkggcjdlpendfaaGreatDoor.SM
namespace Go.Proofs.YtkggcjdlpendfaaGreatDoor
open Go.RowKit
section
open SM
def pk0:Pk:=(0,.slice none 0 0)
abbrev pw:Pk→Int:=Prod.fst
def OnesP (L:List Pk):Prop:= ∀ p∈L,p.2.oneCell'=true
def OnesP.perm {L M:List Pk} (h:OnesP L) (hp:M.Perm L):OnesP M:=fun p hq=>h p (hp.subset hq)
def DS.ext {w w':World} {gd:Nat} {L:List Pk} {tl:List Value} (h:DS w gd L tl) (hx:Ext w w'):DS w' gd L tl:=Blk.ext h hx
def xJ {o:Oper} {a:Act} {x ix:Operand} (ho:o.op=.indexAddr 189 x ix) {g n c i:Nat} (hx:a.eval x=.slice (some ⟨g,0,none⟩) n c) (hi:a.eval ix=.int .i64 (i:Int)) (h:i<n) (w:World) :
 (execOp a.eval o).run Tryz.prog w=.ok (.value (.pointer (some ⟨g,i*2,none⟩))) w:=by
 have:=zFW Tryz.underlying189 zFT ho hx hi h w
 rwa [wB2] at this
def zCP {P:Program} {md:Region.Mode} {ops:Array Oper} {R:World→World→Prop} {Q:Exit→Act→World→Prop} {rest:List Oper} {o:Oper} {k:Nat} {listed:Array Bool} {a:Act} {wc:World} (hw:Region.wanted o (yielded ops a.tmps)=true) (x:Operand) (xs:Array Operand) (ts:Array TypeId)
 (ho:o.op=.call { callee:=.value x,args:=xs,argTypes:=ts }) {f:FuncId} {cap:Array Value} (hr:a.eval x=.func (.func f) #[] cap) (hm:zAp P f) (args:Array Value) (hx:xs.map a.eval++cap=args) (v:Value)
 (hc: ∀ w,R wc w→Calls P f args w fun e w'=>e=.returned v∧R w w') (h:zAF P md ops R Q rest (k+1) (listed.setIfInBounds k true) (a.put o.dst v) wc):zAF P md ops R Q (o::rest) k listed a wc:=by
 refine lx_at hw v (fun w hR=> ?_) h;unfold Oper.quietAt;rw[xQ x xs ts ho hr hm args hx w];exact⟨rfl,hc w hR⟩
def zLW (M:List Pk) (i j:Nat) (hi:i<M.length) (hj:j<M.length):(M.set i M[j]).set j M[i]=swp pk0 M i j:=by
 unfold swp;rw[zIb pk0 M i hi,zIb pk0 M j hj]
def zAC (M:List Pk) (i:Nat) (h:i<M.length):wA pk0 pw M i=M[i].1:=by unfold wA;rw[zIb pk0 M i h]
def zCY (a b:Int):decide (zAV a b<0)=decide (a<b):=by
 rw[wE3,wB3,wB3];unfold zAV;split
 ·omega
 ·split<;>omega
def zEG (gd:Nat) (L:List Pk) (tl:List Value) (a b:Nat) (w:World) (e:Ending) (w':World):Prop:=e=.returned (.tuple #[])∧ ∃ M,DS w' gd M tl∧Seg pk0 L M a b∧Sorted pk0 pw M a b∧Upd (fun x=>x=gd) w w'
def zRZ (gd:Nat) (L:List Pk) (tl:List Value) (n c a b:Nat) (w:World) (hn:L.length=n) (hn2:n≤1000000) (hab:a≤b) (hbn:b≤n) (hone:OnesP L) (hD:DS w gd L tl) :
 Calls Tryz.prog 206 #[.slice (some ⟨gd,0,none⟩) n c,.int .i64 (a:Int),.int .i64 (b:Int),.func (.func 148) #[] #[]] w (zEG gd L tl a b w):=by
 have HN:=zA hn;have HONE:=zA hone;clear hn hone;have hs0:Sorted pk0 pw L a (a+1):=fun x y h1 h2 h3=>by omega
 go_enter Tryz.func206,Tryz.ntmps206;go_upto_region 1 with ((with_reducible apply gS 11);refine zB rfl (.int .i64 ((a+1:Nat):Int)) (yH (i:=a) (d:=1) rfl rfl rfl (by omega)) ?_)
 go_loopw [8] (fun iv wr=> ∃ (i:Nat) (M:List Pk),a+1≤i∧(i≤b∨i=a+1)∧iv=.int .i64 (i:Int)∧DS wr gd M tl∧Seg pk0 L M a b∧Sorted pk0 pw M a i∧Upd (fun x=>x=gd) w wr) (fun i _=>b+1-(intOf i).toNat)
 case atStart=>exact⟨a+1,L,by omega,.inr rfl,rfl,hD,Seg.refl pk0 L a b,hs0,Upd.refl _ w⟩
 case round =>
  clear hD hs0;obtain⟨i,M,hai,hib,rfl,hD,hseg,hsor,hu⟩:=hrel
  by_cases hlt:i<b
  ·have hins:=Ins.start pk0 pw hsor;go_upto_region 4 with ((with_reducible apply gS 14);refine zB rfl (.bool true) (zZ rfl rfl rfl (by simpa using hlt)) ?_)
   go_loopw [9] (fun jv wr=> ∃ (j:Nat) (M:List Pk),a≤j∧j≤i∧jv=.int .i64 (j:Int)∧DS wr gd M tl∧Seg pk0 L M a b∧Ins pk0 pw M a j i∧Upd (fun x=>x=gd) w wr) (fun j _=>(intOf j).toNat)
   case atStart=>exact⟨i,M,by omega,by omega,rfl,hD,hseg,hins,hu⟩
   case round =>
    clear hD hseg hsor hins hu;obtain⟨j,M,haj,hji,rfl,hD,hseg,hins,hu⟩:=hrel;have hml:M.length=n:=hseg.len.trans HN.out;have hone:=HONE.out.perm hseg.perm;have hDd:DS wr.drew gd M tl:=Blk.drew hD
    by_cases hja:a<j
    ·by_cases hls:wA pk0 pw M j<wA pk0 pw M (j-1)
     ·have hB:decide (zAV (M[j]'(by omega)).1 (M[j-1]'(by omega)).1<0)=true:=by
       rw[zCY, ←zAC M j (by omega), ←zAC M (j-1) (by omega)];simpa using hls
      go_wp2_with fail;refine qI qS (by kernel_rfl) (by kernel_rfl) ?_;refine zI (by rfl) (.int .i64 (j:Int)) (zC rfl rfl) ?_;simp only[sP,sB,sC];refine zI (by rfl) (.int .i64 (a:Int)) (zC rfl rfl) ?_;simp only[sP,sB,sC];refine zI (by rfl) (.bool true) (xU rfl rfl rfl (by simp;omega)) ?_;simp only[sP,sB,sC];refine zI (by rfl) (.bool true) (zC rfl rfl) ?_;simp only[sP,sB,sC];refine zI (by rfl) (.func (.func 148) #[] #[]) (zC rfl rfl) ?_;simp only[sP,sB,sC];refine zI (by rfl) (.slice (some ⟨gd,0,none⟩) n c) (zC rfl rfl) ?_;simp only[sP,sB,sC];refine zI (by rfl) (.int .i64 (j:Int)) (zC rfl rfl) ?_;simp only[sP,sB,sC];refine zI (by rfl) (.pointer (some ⟨gd,j*2,none⟩)) (xJ rfl rfl rfl (by omega)) ?_;simp only[sP,sB,sC];refine xL (by rfl) (.agg (pkV M[j])) (fun W hW=>qA rfl (hDd.ext hW) (by omega) rfl) ?_;simp only[sP,sB,sC];refine zI (by rfl) (.slice (some ⟨gd,0,none⟩) n c) (zC rfl rfl) ?_;simp only[sP,sB,sC];refine zI (by rfl) (.int .i64 (j:Int)) (zC rfl rfl) ?_;simp only[sP,sB,sC];refine zI (by rfl) (.int .i64 ((j-1:Nat):Int)) (xH (i:=j) (d:=1) rfl rfl rfl (by omega) (by omega)) ?_;simp only[sP,sB,sC];refine zI (by rfl) (.pointer (some ⟨gd,(j-1)*2,none⟩)) (xJ rfl rfl rfl (by omega)) ?_;simp only[sP,sB,sC];refine xL (by rfl) (.agg (pkV M[j-1])) (fun W hW=>qA rfl (hDd.ext hW) (by omega) rfl) ?_;simp only[sP,sB,sC];refine zCP (by rfl) _ _ _ rfl rfl zER #[.agg (pkV M[j]),.agg (pkV M[j-1])] (by simp[Act.eval]) (.int .i64 (zAV M[j].1 M[j-1].1)) (fun W h=>zAT _ _ W) ?_;simp only[Act.put,sA,sB,sC];refine zI (by rfl) (.bool true) (zZ rfl rfl rfl hB) ?_;simp only[sP,sB,sC];refine zI (by rfl) (.bool true) (zMT rfl rfl rfl) ?_;simp only[sP,sB,sC];refine vH ?_;intro w4 hx4;have hDD:DS w4.drew gd M tl:=Blk.drew (hDd.ext hx4);have hu4:Upd (fun x=>x=gd) w w4.drew:=(hu.drew.trans (Upd.of_ext (S:=fun _=>False) hx4) (fun _ h=>h.elim)).drew;go_wp2_with fail;refine jB (fun k=>k ==9 ||k ==13) (fun W=>DS W gd M tl) (by kernel_rfl) ?_;refine zG (k:=0) (by kernel_rfl) rfl (by rfl) (.slice (some ⟨gd,0,none⟩) n c) (zC rfl rfl) ?_;simp only[sP,sB,sC];refine zG (k:=1) (by kernel_rfl) rfl (by rfl) (.int .i64 (j:Int)) (zC rfl rfl) ?_;simp only[sP,sB,sC];refine zG (k:=2) (by kernel_rfl) rfl (by rfl) (.slice (some ⟨gd,0,none⟩) n c) (zC rfl rfl) ?_;simp only[sP,sB,sC];refine zG (k:=3) (by kernel_rfl) rfl (by rfl) (.int .i64 (j:Int)) (zC rfl rfl) ?_;simp only[sP,sB,sC];refine zG (k:=4) (by kernel_rfl) rfl (by rfl) (.int .i64 ((j-1:Nat):Int)) (xH (i:=j) (d:=1) rfl rfl rfl (by omega) (by omega)) ?_;simp only[sP,sB,sC];refine zG (k:=5) (by kernel_rfl) rfl (by rfl) (.slice (some ⟨gd,0,none⟩) n c) (zC rfl rfl) ?_;simp only[sP,sB,sC];refine zG (k:=6) (by kernel_rfl) rfl (by rfl) (.int .i64 (j:Int)) (zC rfl rfl) ?_;simp only[sP,sB,sC];refine zG (k:=7) (by kernel_rfl) rfl (by rfl) (.int .i64 ((j-1:Nat):Int)) (xH (i:=j) (d:=1) rfl rfl rfl (by omega) (by omega)) ?_;simp only[sP,sB,sC];refine zG (k:=8) (by kernel_rfl) rfl (by rfl) (.pointer (some ⟨gd,(j-1)*2,none⟩)) (xJ rfl rfl rfl (by omega)) ?_;simp only[sP,sB,sC];refine zG (k:=10) (by kernel_rfl) rfl (by rfl) (.slice (some ⟨gd,0,none⟩) n c) (zC rfl rfl) ?_;simp only[sP,sB,sC];refine zG (k:=11) (by kernel_rfl) rfl (by rfl) (.int .i64 (j:Int)) (zC rfl rfl) ?_;simp only[sP,sB,sC];refine zG (k:=12) (by kernel_rfl) rfl (by rfl) (.pointer (some ⟨gd,j*2,none⟩)) (xJ rfl rfl rfl (by omega)) ?_;simp only[sP,sB,sC];refine jR (k:=9) (by kernel_rfl) rfl (by rfl) (.agg (pkV M[j-1])) (fun W hW=>qA rfl hW (by omega) rfl) hDD ?_;simp only[Act.put,sA,sB,sC];refine jR (k:=13) (by kernel_rfl) rfl (by rfl) (.agg (pkV M[j])) (fun W hW=>qA rfl hW (by omega) rfl) hDD ?_;simp only[Act.put,sA,sB,sC];refine zG (k:=14) (by kernel_rfl) rfl (by rfl) (.pointer (some ⟨gd,j*2,none⟩)) (xJ rfl rfl rfl (by omega)) ?_;simp only[sP,sB,sC];refine xR (k:=15) (by kernel_rfl) rfl ?_;refine zBK rfl _ _ rfl gd M tl hDD j (by omega) M[j-1] (hone _ (wE2 _)) rfl rfl ?_;intro w5 hD5 hu5;refine zX ⟨fun h=>(by cases h), ?_⟩;simp only[Act.put,sA,sB,sC];refine zG (k:=16) (by kernel_rfl) rfl (by rfl) (.pointer (some ⟨gd,(j-1)*2,none⟩)) (xJ rfl rfl rfl (by omega)) ?_;simp only[sP,sB,sC];refine xR (k:=17) (by kernel_rfl) rfl ?_;refine zBK rfl _ _ rfl gd (M.set j M[j-1]) tl hD5 (j-1) (by rw[wP7];omega) M[j] (hone _ (wE2 _)) rfl rfl ?_;intro w6 hD6 hu6;refine zX ⟨fun h=>(by cases h), ?_⟩;simp only[Act.put,sA,sB,sC];refine vP (by kernel_rfl) ?_;have hD7:DS w6 gd (swp pk0 M j (j-1)) tl:=by rw[←zLW M j (j-1) (by omega) (by omega)];exact hD6
      have hu7:=(hu4.trans hu5 (fun x h=>.inl h)).trans hu6 (fun x h=>.inl h);go_wp2_with ((with_reducible apply gS 36);refine zB rfl (.int .i64 ((j-1:Nat):Int)) (xH (i:=j) (d:=1) rfl rfl rfl (by omega) (by omega)) ?_)
      go_roundw
      case rel=>exact⟨j-1,swp pk0 M j (j-1),by omega,by omega,by go_num,hD7,hseg.trans pk0 (Seg.swp pk0 (by omega) (by omega) (by omega) (by omega) (by omega) (by omega)),hins.step pk0 pw hja hji (by omega) hls,hu7⟩
      case measure=>simp[intOf];omega
     ·have hB:decide (zAV (M[j]'(by omega)).1 (M[j-1]'(by omega)).1<0)=false:=by
       rw[zCY, ←zAC M j (by omega), ←zAC M (j-1) (by omega)];simpa using hls
      have hfin:=hins.stop pk0 pw (.inr (by omega)) haj;go_wp2_with fail;refine qI qS (by kernel_rfl) (by kernel_rfl) ?_;refine zI (by rfl) (.int .i64 (j:Int)) (zC rfl rfl) ?_;simp only[sP,sB,sC];refine zI (by rfl) (.int .i64 (a:Int)) (zC rfl rfl) ?_;simp only[sP,sB,sC];refine zI (by rfl) (.bool true) (xU rfl rfl rfl (by simp;omega)) ?_;simp only[sP,sB,sC];refine zI (by rfl) (.bool true) (zC rfl rfl) ?_;simp only[sP,sB,sC];refine zI (by rfl) (.func (.func 148) #[] #[]) (zC rfl rfl) ?_;simp only[sP,sB,sC];refine zI (by rfl) (.slice (some ⟨gd,0,none⟩) n c) (zC rfl rfl) ?_;simp only[sP,sB,sC];refine zI (by rfl) (.int .i64 (j:Int)) (zC rfl rfl) ?_;simp only[sP,sB,sC];refine zI (by rfl) (.pointer (some ⟨gd,j*2,none⟩)) (xJ rfl rfl rfl (by omega)) ?_;simp only[sP,sB,sC];refine xL (by rfl) (.agg (pkV M[j])) (fun W hW=>qA rfl (hDd.ext hW) (by omega) rfl) ?_;simp only[sP,sB,sC];refine zI (by rfl) (.slice (some ⟨gd,0,none⟩) n c) (zC rfl rfl) ?_;simp only[sP,sB,sC];refine zI (by rfl) (.int .i64 (j:Int)) (zC rfl rfl) ?_;simp only[sP,sB,sC];refine zI (by rfl) (.int .i64 ((j-1:Nat):Int)) (xH (i:=j) (d:=1) rfl rfl rfl (by omega) (by omega)) ?_;simp only[sP,sB,sC];refine zI (by rfl) (.pointer (some ⟨gd,(j-1)*2,none⟩)) (xJ rfl rfl rfl (by omega)) ?_;simp only[sP,sB,sC];refine xL (by rfl) (.agg (pkV M[j-1])) (fun W hW=>qA rfl (hDd.ext hW) (by omega) rfl) ?_;simp only[sP,sB,sC];refine zCP (by rfl) _ _ _ rfl rfl zER #[.agg (pkV M[j]),.agg (pkV M[j-1])] (by simp[Act.eval]) (.int .i64 (zAV M[j].1 M[j-1].1)) (fun W h=>zAT _ _ W) ?_;simp only[Act.put,sA,sB,sC];refine zI (by rfl) (.bool false) (zZ rfl rfl rfl hB) ?_;simp only[sP,sB,sC];refine zI (by rfl) (.bool false) (zMT rfl rfl rfl) ?_;simp only[sP,sB,sC];refine vH ?_;intro w4 hx4;have hD4:=hDd.ext hx4;have hu4:Upd (fun x=>x=gd) w w4:=hu.drew.trans (Upd.of_ext (S:=fun _=>False) hx4) (fun _ h=>h.elim);go_wp2_with ((with_reducible apply gS 16);refine zB rfl (.int .i64 ((i+1:Nat):Int)) (yH (i:=i) (d:=1) rfl rfl rfl (by omega)) ?_)
      go_roundw
      case rel=>exact⟨i+1,M,by omega,.inl (by omega),by go_num,hD4,hseg,hfin,hu4⟩
      case measure=>simp[intOf];omega
    ·obtain rfl:a=j:=by omega
     have hfin:=hins.stop pk0 pw (.inl rfl) haj;go_wp2_with fail;refine qI qS (by kernel_rfl) (by kernel_rfl) ?_;refine zI (by rfl) (.int .i64 (a:Int)) (zC rfl rfl) ?_;simp only[sP,sB,sC];refine zI (by rfl) (.int .i64 (a:Int)) (zC rfl rfl) ?_;simp only[sP,sB,sC];refine zI (by rfl) (.bool false) (xU rfl rfl rfl (by simp)) ?_;simp only[sP,sB,sC];refine zI (by rfl) (.bool false) (zC rfl rfl) ?_;simp only[sP,sB,sC];refine zBD (by rfl) ?_;simp only[sP,sB,sC];refine zBD (by rfl) ?_;simp only[sP,sB,sC];refine zBD (by rfl) ?_;simp only[sP,sB,sC];refine zBD (by rfl) ?_;simp only[sP,sB,sC];refine zBD (by rfl) ?_;simp only[sP,sB,sC];refine zBD (by rfl) ?_;simp only[sP,sB,sC];refine zBD (by rfl) ?_;simp only[sP,sB,sC];refine zBD (by rfl) ?_;simp only[sP,sB,sC];refine zBD (by rfl) ?_;simp only[sP,sB,sC];refine zBD (by rfl) ?_;simp only[sP,sB,sC];refine zBD (by rfl) ?_;simp only[sP,sB,sC];refine zBD (by rfl) ?_;simp only[sP,sB,sC];refine zI (by rfl) (.bool false) (zMT rfl rfl rfl) ?_;simp only[sP,sB,sC];refine vH ?_;intro w4 hx4;have hD4:=hDd.ext hx4;have hu4:Upd (fun x=>x=gd) w w4:=hu.drew.trans (Upd.of_ext (S:=fun _=>False) hx4) (fun _ h=>h.elim);go_wp2_with ((with_reducible apply gS 16);refine zB rfl (.int .i64 ((i+1:Nat):Int)) (yH (i:=i) (d:=1) rfl rfl rfl (by omega)) ?_)
     go_roundw
     case rel=>exact⟨i+1,M,by omega,.inl (by omega),by go_num,hD4,hseg,hfin,hu4⟩
     case measure=>simp[intOf];omega
  ·go_wp2_with ((with_reducible apply gS 14);refine zB rfl (.bool false) (zZ rfl rfl rfl (by simpa using hlt)) ?_)
   go_end0
   exact⟨rfl,M,hD,hseg,hsor.sub pk0 pw (wA5 _) (by omega),hu⟩
end
def u64_in (n:Nat) (h:n<1099511627776):IntKind.u64.wrap (n:Int)=(n:Int):=by
 simp[IntKind.wrap,IntKind.bits,IntKind.signed];omega
def run_toU (n:Nat) (h:n<1099511627776) (W:World):(convert 3 116 (.int .i64 (n:Int))).run Tryz.prog W=.ok (.int .u64 (n:Int)) W:=by
 simp[convert,run_underlying Tryz.underlying3,run_underlying Tryz.underlying116,Conv.intToInt,u64_in n h]
def run_ofU (n:Nat) (h:n<1099511627776) (W:World):(convert 116 3 (.int .u64 (n:Int))).run Tryz.prog W=.ok (.int .i64 (n:Int)) W:=by
 have e:IntKind.i64.wrap (n:Int)=(n:Int):=IntWalk.i64_in _ (by omega);simp[convert,run_underlying Tryz.underlying3,run_underlying Tryz.underlying116,Conv.intToInt,e]
section
variable {o:Oper} {a:Act}
def zFO {x:Operand} (ho:o.op=.convert 3 116 x) {n:Nat} (hx:a.eval x=.int .i64 (n:Int)) (h:n<1099511627776) (w:World):(execOp a.eval o).run Tryz.prog w=.ok (.value (.int .u64 (n:Int))) w:=by
 simp only[execOp,ho,hx,Sem.run_bind,run_toU n h,Result.andThen_ok,Sem.run_pure]
def zFZ {x:Operand} (ho:o.op=.convert 116 3 x) {n:Nat} (hx:a.eval x=.int .u64 (n:Int)) (h:n<1099511627776) (w:World):(execOp a.eval o).run Tryz.prog w=.ok (.value (.int .i64 (n:Int))) w:=by
 simp only[execOp,ho,hx,Sem.run_bind,run_ofU n h,Result.andThen_ok,Sem.run_pure]
def zCv {x y:Operand} {t2:TypeId} (ho:o.op=.binOp .shr 116 x y t2) {n:Nat} (hx:a.eval x=.int .u64 (n:Int)) (hy:a.eval y=.int .u64 1) (w:World):(execOp a.eval o).run Tryz.prog w=.ok (.value (.int .u64 ((n/2:Nat):Int))) w:=by
 have e:(n:Int) >>>(1:Nat)=((n/2:Nat):Int):=by rw[wP8];rfl
 have h8:IntKind.u64.bits=64:=rfl;simp[execOp,ho,hx,hy,eqGuard,binOp,Op.shift,e,h8];exact wP9 _ (by decide)
end
end Go.Proofs.YtkggcjdlpendfaaGreatDoor
