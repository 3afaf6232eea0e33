/- Contracts of the functions that the law reaches, part 16. -/
import Derived.Test.YtkggcjdlpendfaaGreatDoorMTopCoarseCard15
namespace Go.Proofs.YtkggcjdlpendfaaGreatDoor
set_option linter.unusedVariables false
set_option linter.unusedSimpArgs false
set_option maxRecDepth 20000
set_option maxHeartbeats 8000000
open Go.RowKit
def yP (n e:Nat):Nat:=if e=0∨n=0 then n else e
def yK (n e:Nat):Nat:=if e=0∨n=0 then 1 else (n+e-1)/e
theorem zEi {n e:Nat} (h:e=0∨n=0):yP n e=n∧yK n e=1:=by unfold yP yK;rw[if_pos h,if_pos h];exact⟨rfl,rfl⟩
theorem zFW {n e:Nat} (h: ¬(e=0∨n=0)):yP n e=e∧yK n e=(n+e-1)/e:=by unfold yP yK;rw[if_neg h,if_neg h];exact⟨rfl,rfl⟩
theorem zKs {n e i:Nat} (h: ¬(e=0∨n=0)):i<yK n e↔i*e<n:=by
 have he:0<e:=by omega
 rw[(zFW h).2,Nat.lt_div_iff_mul_lt he,wI7]
 omega
theorem zEu {n e:Nat}:yK n e≤n+1:=by
 unfold yK
 split
 ·omega
 ·next h =>
  have he:0<e:=by omega
  rw[Nat.div_le_iff_le_mul_add_pred he]
  have:n≤e*n:=Nat.le_mul_of_pos_left n he
  rw[Nat.mul_add]
  omega
theorem zGv {n e i:Nat} (hi:i<yK n e):i*yP n e≤n:=by
 by_cases h:e=0∨n=0
 ·rw[(zEi h).2] at hi
  obtain rfl:i=0:=by omega
  simp
 ·rw[(zFW h).1]
  exact Nat.le_of_lt ((zKs h).1 hi)
def qS (n e:Nat):Nat→List Int
 | 0=>[]
 | k+1=>qS n e k++[((k*yP n e:Nat):Int),((min (k*yP n e+yP n e) n:Nat):Int)]
theorem zCi (n e:Nat): ∀ k,(qS n e k).length=k*2
 | 0=>rfl
 | k+1=>by rw[qS,wF1,zCi n e k];simp;omega
theorem zEU (n e:Nat): ∀ (k i:Nat),i<k→((qS n e k).drop (i*2)).take 2=[((i*yP n e:Nat):Int),((min (i*yP n e+yP n e) n:Nat):Int)]
 | 0,i,h=>by omega
 | k+1,i,h=>by
   rw[qS]
   by_cases hk:i=k
   ·subst hk
    rw[wL1 (by rw[zCi];omega),wL5 (by rw[zCi];omega)]
    rfl
   ·rw[wL1 (by rw[zCi];omega),wL3 (by rw[wJ4,zCi];omega)]
    exact zEU n e k i (by omega)
def partsL (n e:Nat):Nat→List Int
 | 0=>[]
 | k+1=>partsL n e k++[((min (n-k*yP n e) (yP n e):Nat):Int)]
def zCE (i:Nat):List Nat:=if i=0 then [] else [255,208+(i-1)%8]
def xM (n e i:Nat) (Z:List Int):List Int:=(Z.drop (i*yP n e*64)).take (min (n-i*yP n e) (yP n e)*64)
def uL (T1 T2:List Tok) (n e:Nat) (Z:List Int):Nat→Nat→List Nat→Int×List Nat
 | 0,_,acc=>(0,acc)
 | m+1,i,acc=>if (zCI T1 T2 (min (n-i*yP n e) (yP n e)) (xM n e i Z)).1≠0 then ((zCI T1 T2 (min (n-i*yP n e) (yP n e)) (xM n e i Z)).1,[]) else uL T1 T2 n e Z m (i+1) (acc++zCE i++(zCI T1 T2 (min (n-i*yP n e) (yP n e)) (xM n e i Z)).2)
theorem zJT {T1 T2:List Tok} {n e:Nat} {Z:List Int} {m i:Nat} {acc:List Nat} {r:Int×List Nat} (hr:zCI T1 T2 (min (n-i*yP n e) (yP n e)) (xM n e i Z)=r) (h:r.1≠0):uL T1 T2 n e Z (m+1) i acc=(r.1,[]):=by
 rw[uL,hr,if_pos h]
theorem zMd {T1 T2:List Tok} {n e:Nat} {Z:List Int} {m i:Nat} {acc:List Nat} {r:Int×List Nat} (hr:zCI T1 T2 (min (n-i*yP n e) (yP n e)) (xM n e i Z)=r) (h:r.1=0):uL T1 T2 n e Z (m+1) i acc=uL T1 T2 n e Z m (i+1) (acc++zCE i++r.2):=by
 rw[uL,hr,if_neg (by simp[h])]
theorem zFy {n e i:Nat} {Z:List Int} (hZ:Z.length=n*64):(xM n e i Z).length=min (n-i*yP n e) (yP n e)*64:=by
 unfold xM
 rw[wI4,wJ4,hZ, ←Nat.sub_mul]
 exact wN2 (wI5 _ (Nat.min_le_left _ _))
theorem segR_len {T1 T2:List Tok} (f1:zBp T1) (f2:zBp T2) (n:Nat) (Z:List Int):(zCI T1 T2 n Z).2.length≤1000000000:=by
 unfold zCI
 have h:=encZ_bd f1 f2 n Z
 generalize (qD (xG T1 T2) n Z []).2=L at *
 have h1:=zMZ (qP (uS L))
 rw[zCc] at h1
 have h2:(uS L).length≤L.length+8:=by unfold uS;rw[wF1,wF3];omega
 show (xR (qP (uS L))).length≤_
 omega
def zCF (T1 T2:List Tok) (n e:Nat) (Z:List Int):Int×List Nat:=if qF n Z≠0 then (qF n Z,[]) else uL T1 T2 n e Z (yK n e) 0 []
section
def zEf (l:List Int) (k:Nat):List Int:=l.set k (wrap64 (l.getD k 0+1))
def vE (s:List Int×List Int) (t:Tok) (b:Bool):Int×(List Int×List Int):=(0,if b then (zEf s.1 t.1.toNat,s.2) else (s.1,zEf s.2 t.1.toNat))
structure CntIn (p q gA gB:Nat) (W:World) (s:List Int×List Int) (F:Nat→Prop):Prop where
 hp:Blk W p 22 #[.slice (some ⟨gA,0,none⟩) 256 256]
 hq:Blk W q 22 #[.slice (some ⟨gB,0,none⟩) 256 256]
 ha:Blk W gA 3 (bv s.1)
 hb:Blk W gB 3 (bv s.2)
 la:s.1.length=256
 lb:s.2.length=256
 ne:gA≠gB
 hF: ∀ x,F x↔x=p∨x=q∨x=gA∨x=gB
theorem CntIn.keep {p q gA gB:Nat} {W W':World} {s:List Int×List Int} {F T:Nat→Prop} (h:CntIn p q gA gB W s F) (hu:Upd T W W') (hT: ∀ x,T x→ ¬F x):CntIn p q gA gB W' s F:=by
 have k: ∀ x,F x→ ¬T x:=fun x hf ht=>hT x ht hf
 exact⟨hu.blk h.hp (k _ ((h.hF _).2 (.inl rfl))),hu.blk h.hq (k _ ((h.hF _).2 (.inr (.inl rfl)))),hu.blk h.ha (k _ ((h.hF _).2 (.inr (.inr (.inl rfl))))),hu.blk h.hb (k _ ((h.hF _).2 (.inr (.inr (.inr rfl))))),h.la,h.lb,h.ne,h.hF⟩
theorem zFA:22≠3:=by decide
theorem CntIn.setA {p q gA gB:Nat} {W:World} {s:List Int×List Int} {F:Nat→Prop} (h:CntIn p q gA gB W s F) (k:Nat) (x:Int):CntIn p q gA gB (W.setCell ⟨gA,k,none⟩ (.int .i64 x)) (s.1.set k x,s.2) F:=by
 have n1:=h.hp.ne_ h.ha zFA
 have n2:=h.hq.ne_ h.ha zFA
 have:=h.ha.set_ k (.int .i64 x)
 rw[vH] at this
 exact⟨h.hp.far (p:=⟨gA,k,none⟩) n1 _,h.hq.far (p:=⟨gA,k,none⟩) n2 _,this,h.hb.far (p:=⟨gA,k,none⟩) h.ne.symm _,by simpa using h.la,h.lb,h.ne,h.hF⟩
theorem CntIn.setB {p q gA gB:Nat} {W:World} {s:List Int×List Int} {F:Nat→Prop} (h:CntIn p q gA gB W s F) (k:Nat) (x:Int):CntIn p q gA gB (W.setCell ⟨gB,k,none⟩ (.int .i64 x)) (s.1,s.2.set k x) F:=by
 have n1:=h.hp.ne_ h.hb zFA
 have n2:=h.hq.ne_ h.hb zFA
 have:=h.hb.set_ k (.int .i64 x)
 rw[vH] at this
 exact⟨h.hp.far (p:=⟨gB,k,none⟩) n1 _,h.hq.far (p:=⟨gB,k,none⟩) n2 _,h.ha.far (p:=⟨gB,k,none⟩) h.ne _,this,h.la,by simpa using h.lb,h.ne,h.hF⟩
theorem run_inc (x:Int) (w:World):(binOp .add 3 (.int .i64 x) (.int .i64 1)).run Tryz.prog w=.ok (.int .i64 (wrap64 (x+1))) w:=by
 have e:IntKind.i64.wrap (x+1)=wrap64 (x+1):=by simp[IntKind.wrap_i64,wrap64]
 go_simp
attribute [local irreducible] bv
theorem zPP (p q gA gB:Nat) (t:Tok) (b:Bool) (s:List Int×List Int) (F:Nat→Prop) (w:World) (hw:zBP t) (h:CntIn p q gA gB w s F) :
 Calls Tryz.prog 146 #[.agg (xV t).toArray,.bool b,.pointer (some ⟨p,0,none⟩),.pointer (some ⟨q,0,none⟩)] w fun e w'=>e=.returned (.int .i64 (vE s t b).1)∧Upd F w w'∧ ∃ F',CntIn p q gA gB w' (vE s t b).2 F'∧ ∀ x,F' x→F x∨w.heap.size≤x:=by
 obtain⟨t1,t2,t3⟩:=t
 obtain⟨h1,h2, -⟩:=hw
 dsimp only at h1 h2
 obtain⟨m,hm⟩: ∃ m:Nat,t1=(m:Int):=⟨t1.toNat,by omega⟩
 subst hm
 have hm2:m<256:=by omega
 obtain⟨f,r⟩:=s
 have hfa:F gA:=(h.hF _).2 (.inr (.inr (.inl rfl)))
 have hfb:F gB:=(h.hF _).2 (.inr (.inr (.inr rfl)))
 have HS:Hid (vE (f,r) ((m:Int),t2,t3) b=(0,if b then (zEf f m,r) else (f,zEf r m))):=zA (by simp[vE])
 generalize vE (f,r) ((m:Int),t2,t3) b=R at *
 cases b with
 | true =>
   have hl:m<f.length:=by rw[h.la];exact hm2
   have HF:=zA (show f.getD m 0=f[m] by simp[wF2,hl])
   have hm3:(m:Int)<256:=by omega
   go_enter Tryz.func146,Tryz.ntmps146
   go_wp2_with (first
    | ((with_reducible apply gS 4);refine wBox rfl 149 (.tmp 0) rfl #[.int .i64 (m:Int),.int .i64 t2,.int .i64 t3] rfl ?_;intro w1 g1 hb1 hx1 hg1;have h1':=h.keep (zV (S:=fun _=>False) hx1) (fun _ k=>k.elim);have q0:w1.cell? ⟨g1,0,none⟩=some (.int .i64 (m:Int)):=hb1.cell 0;have hp1:=(h1'.hp.cell 0).trans (show (#[Value.slice (some ⟨gA,0,none⟩) 256 256]:Array Value)[0]? =some (.slice (some ⟨gA,0,none⟩) 256 256) from rfl);have hc1:w1.cell? ⟨gA,m,none⟩=some (.int .i64 f[m]):=(h1'.ha.cell m).trans (qG f m hl);have hz1:=h1'.ha.frozen m)
    | ((with_reducible apply gS 13);refine zB rfl (.int .i64 (wrap64 (f[m]+1))) (qE rfl rfl rfl (run_inc _)) ?_))
   go_ret
   have hs:=h1'.setA m (wrap64 (f[m]+1))
   rw[HS.out]
   refine⟨rfl, ?_,F, ?_,fun x k=>.inl k⟩
   ·exact Upd.setCell (S:=F) (zV hx1) (p:=⟨gA,m,none⟩) hfa _
   ·have e:zEf f m=f.set m (wrap64 (f[m]+1)):=by unfold zEf;rw[HF.out]
    simp only[if_true,wA6,if_false,e]
    exact hs
 | false =>
   have hl:m<r.length:=by rw[h.lb];exact hm2
   have HF:=zA (show r.getD m 0=r[m] by simp[wF2,hl])
   have hm3:(m:Int)<256:=by omega
   go_enter Tryz.func146,Tryz.ntmps146
   go_wp2_with (first
    | ((with_reducible apply gS 4);refine wBox rfl 149 (.tmp 0) rfl #[.int .i64 (m:Int),.int .i64 t2,.int .i64 t3] rfl ?_;intro w1 g1 hb1 hx1 hg1;have h1':=h.keep (zV (S:=fun _=>False) hx1) (fun _ k=>k.elim);have q0:w1.cell? ⟨g1,0,none⟩=some (.int .i64 (m:Int)):=hb1.cell 0;have hp1:=(h1'.hq.cell 0).trans (show (#[Value.slice (some ⟨gB,0,none⟩) 256 256]:Array Value)[0]? =some (.slice (some ⟨gB,0,none⟩) 256 256) from rfl);have hc1:w1.cell? ⟨gB,m,none⟩=some (.int .i64 r[m]):=(h1'.hb.cell m).trans (qG r m hl);have hz1:=h1'.hb.frozen m)
    | ((with_reducible apply gS 20);refine zB rfl (.int .i64 (wrap64 (r[m]+1))) (qE rfl rfl rfl (run_inc _)) ?_))
   go_ret
   have hs:=h1'.setB m (wrap64 (r[m]+1))
   rw[HS.out]
   refine⟨rfl, ?_,F, ?_,fun x k=>.inl k⟩
   ·exact Upd.setCell (S:=F) (zV hx1) (p:=⟨gB,m,none⟩) hfb _
   ·have e:zEf r m=r.set m (wrap64 (r[m]+1)):=by unfold zEf;rw[HF.out]
    simp only[if_true,wA6,if_false,e]
    exact hs
theorem goesCnt:zAP Tryz.prog 146:=⟨_,Tryz.func146,by kernel_rfl,by kernel_rfl⟩
theorem countEat (p q gA gB:Nat):Eat 146 #[.pointer (some ⟨p,0,none⟩),.pointer (some ⟨q,0,none⟩)] (CntIn p q gA gB) vE (fun _=>True) :=
 ⟨goesCnt,fun _ _ _=>trivial,fun t b s F W _ hw h=>by simpa using zPP p q gA gB t b s F W hw h,fun s F W W' h hx=>h.keep (T:=fun _=>False) (zV hx) (fun _ k=>k.elim),fun s F W x h hx=>by
  rcases (h.hF x).1 hx with rfl | rfl | rfl | rfl
  ·exact h.hp.lt
  ·exact h.hq.lt
  ·exact h.ha.lt
  ·exact h.hb.lt⟩
end
section
variable {P:Program} {md:Region.Mode} {ops:Array Oper} {J:Array Bool→Act→World→Prop} {QN:Act→World→Prop}
theorem count_set (l:Array Bool) (i:Nat) (h:l.getD i true=false):(l.setIfInBounds i true).toList.count false+1=l.toList.count false:=by
 have hi:i<l.size:=by
  rcases wA3 i l.size with h1 | h1
  ·exact h1
  ·rw[wN6,wA4 h1] at h;cases h
 have h0:l.toList[i]'(by simpa using hi)=false:=by
  rw[wN6,wF0 hi] at h
  simpa using h
 rw[wD3]
 rw[List.count_set (by simpa using hi),h0]
 have:0<l.toList.count false:=List.count_pos_iff.2 (h0 ▸ wE1 _)
 simp only[show ((false:Bool) ==false)=true from rfl,show ((true:Bool) ==false)=false from rfl,if_true,wA6,if_false]
 omega
theorem zMR (hstep: ∀ listed a w,J listed a w→ ∀ i∈Region.ready md ops listed,wpOp P ops (xE QN) i (fun a' w'=>J (listed.setIfInBounds i true) a' w') a w)
 (hdone: ∀ listed a w,J listed a w→Region.ready md ops listed=[]→QN a w): ∀ (f:Nat) (listed:Array Bool) (a:Act) (w:World),listed.toList.count false≤f→J listed a w→wpAny P md ops (xE QN) f listed a w
 | 0,listed,a,w,hf,h=>by
   have hr:Region.ready md ops listed=[]:=by
    cases hq:Region.ready md ops listed with
    | nil=>rfl
    | cons i r =>
      have hi:i∈Region.ready md ops listed:=by rw[hq];simp
      have:=count_set listed i (mem_ready.1 hi).1
      omega
   exact⟨hr,hdone _ _ _ h hr⟩
 | f+1,listed,a,w,hf,h=>⟨fun h0=>hdone _ _ _ h h0,fun i hi=>wpOp_mono (fun a' w' h'=>zMR hstep hdone f _ a' w' (by have:=count_set listed i (mem_ready.1 hi).1;omega) h') (hstep _ _ _ h i hi)⟩
theorem zMq (J:Array Bool→Act→World→Prop) {id:Nat} {a:Act} {w:World} {l:List Oper} {Q:Exit→Act→World→Prop} (hm:P.follows .mixedOrders=true) (h0:J (Array.replicate l.length false) a w.drew)
 (hstep: ∀ listed a w,J listed a w→ ∀ i∈Region.ready .any l.toArray listed,wpOp P l.toArray (xE fun a w=>Q .normal a w) i (fun a' w'=>J (listed.setIfInBounds i true) a' w') a w)
 (hdone: ∀ listed a w,J listed a w→Region.ready .any l.toArray listed=[]→Q .normal a w):(Code.region id l.toArray true).wp P Q a w:=by
 refine Code.wp_mono (Q:=xE (fun a w=>Q .normal a w)) (fun e a w h=> ?_) (wp_region_any hm (zMR hstep hdone _ _ _ _ ?_ ?_))
 ·cases e<;>first | exact h | exact (h:False).elim
 ·simp
 ·simpa using h0
end
section
def z256:List Int:=List.replicate 256 0
theorem zDB:bv (List.replicate 256 0)=bv z256:=rfl
theorem zFm:z256.length=256:=wF3
def MadeAt (w0 w:World) (l:Bool) (u:Value):Prop:=l=true→ ∃ g,u=.slice (some ⟨g,0,none⟩) 256 256∧Blk w g 3 (bv z256)∧w0.heap.size≤g
def CellIn (w0 w:World) (l s:Bool) (u v:Value):Prop:=l=true→ ∃ g,u=.pointer (some ⟨g,0,none⟩)∧Blk w g 22 #[if s then v else .slice none 0 0]∧w0.heap.size≤g
theorem MadeAt.ext {w0 w w':World} {l:Bool} {u:Value} (h:MadeAt w0 w l u) (hx:Ext w w'):MadeAt w0 w' l u:=fun e=>by obtain⟨g,h1,h2,h3⟩:=h e;exact⟨g,h1,h2.ext hx,h3⟩
theorem CellIn.ext {w0 w w':World} {l s:Bool} {u v:Value} (h:CellIn w0 w l s u v) (hx:Ext w w'):CellIn w0 w' l s u v:=fun e=>by obtain⟨g,h1,h2,h3⟩:=h e;exact⟨g,h1,h2.ext hx,h3⟩
attribute [local irreducible] bv z256 qD
def zIn (v0 u5 u6 u8 u9:Value):Act:=⟨#[v0,undef,.slice none 0 0,.slice none 0 0,.int .i64 0,u5,u6,undef,u8,u9,undef,undef,undef,undef,undef,undef,undef,undef],[]⟩
def CntJ (w0:World) (v0:Value) (l:Array Bool) (a:Act) (w:World):Prop :=
 ∃ b0 b1 b2 b3 b4 b5 u5 u6 u8 u9,l= #[b0,b1,b2,b3,b4,b5]∧a=zIn v0 u5 u6 u8 u9∧Ext w0 w∧MadeAt w0 w b0 u8∧MadeAt w0 w b1 u9∧CellIn w0 w b2 b4 u5 u8∧CellIn w0 w b3 b5 u6 u9 ∧
  (b0=true→b1=true→u8≠u9)∧(b2=true→b3=true→u5≠u6)∧(b4=true→b0=true∧b2=true)∧(b5=true→b1=true∧b3=true)
theorem MadeAt.ne {w0 w:World} {l:Bool} {u:Value} (h:MadeAt w0 w l u) {g:Nat} (hg:w.heap.size≤g) (hl:l=true):u≠.slice (some ⟨g,0,none⟩) 256 256:=by
 obtain⟨g',rfl,hb, -⟩:=h hl
 intro e
 injection e with e
 injection e with e
 injection e with e
 have:=hb.lt
 omega
theorem CellIn.ne {w0 w:World} {l s:Bool} {u v:Value} (h:CellIn w0 w l s u v) {g:Nat} (hg:w.heap.size≤g) (hl:l=true):u≠.pointer (some ⟨g,0,none⟩):=by
 obtain⟨g',rfl,hb, -⟩:=h hl
 intro e
 injection e with e
 injection e with e
 injection e with e
 have:=hb.lt
 omega
theorem zBo {md:Region.Mode} {ops:Array Oper} {l:Array Bool} {i:Nat} {o:Oper} (h:i∈Region.ready md ops l) (ho:ops[i]? =some o):l.getD i true=false∧ ∀ e∈o.after,Region.binds md e=true→l.getD e.on false=true:=by
 obtain⟨h1,o',h2,h3⟩:=mem_ready.1 h
 rw[ho] at h2
 injection h2 with h2
 subst h2
 exact⟨h1,h3⟩
theorem MadeAt.set {w0 w:World} {l:Bool} {u:Value} (h:MadeAt w0 w l u) {g:Nat} {cs:Array Value} (hb:Blk w g 22 cs) (v:Value):MadeAt w0 (w.setCell ⟨g,0,none⟩ v) l u:=fun e=>by
 obtain⟨g',h1,h2,h3⟩:=h e
 exact⟨g',h1,h2.far (p:=⟨g,0,none⟩) (hb.ne_ h2 zFA).symm v,h3⟩
def CountsIs (w:World) (r:Int×(List Int×List Int)) (e:Ending) (w':World):Prop :=
 Ext w w'∧if r.1=0 then ∃ gA gB,e=.returned (.tuple #[.slice (some ⟨gA,0,none⟩) 256 256,.slice (some ⟨gB,0,none⟩) 256 256,.int .i64 0])∧Blk w' gA 3 (bv r.2.1)∧Blk w' gB 3 (bv r.2.2)∧r.2.1.length=256∧r.2.2.length=256∧w.heap.size≤gA∧w.heap.size≤gB
  else e=.returned (.tuple #[.slice none 0 0,.slice none 0 0,.int .i64 r.1])
theorem zPf (W:World) (p:Addr) (A:Option Addr) (n c:Nat) (h:W.cell? p=some (.slice A n c)):(Instr.loadAt 22 (.pointer (some p))).run Tryz.prog W=.ok (.slice A n c) W:=by
 go_simp
section
variable {o:Oper} {a:Act}
theorem zLh {x:Operand} (ho:o.op=.load 22 x) {p:Addr} (hx:a.eval x=.pointer (some p)) {A:Option Addr} {n c:Nat} {w:World} (h:w.cell? p=some (.slice A n c)):(execOp a.eval o).run Tryz.prog w=.ok (.value (.slice A n c)) w:=by
 simp[execOp,ho,hx,zPf w p A n c h]
end
theorem nilZero:(Tryz.prog.info? 22).bind (·.zero)=some (.slice none 0 0):=by kernel_rfl
theorem zKR (A:Option Addr) (n c:Nat) (Z:List Int) (hZ:Z.length=n*64) (w:World) (hs:SL w 64 (.slice A n c) n (ints Z)) :
 Calls Tryz.prog 100 #[.slice A n c] w (CountsIs w (qD vE n Z (z256,z256))):=by
 have hmf: ∀ (fn:Fn) (first cap:Array Value) (w:World),(Instr.makeFunc fn first cap).run Tryz.prog w=.ok (.func fn first cap) w:=fun _ _ _ _=>rfl
 go_enter Tryz.func100,Tryz.ntmps100
 go_upto_region 1 with fail
 refine zMq (CntJ w (.slice A n c)) (by kernel_rfl) ?_ ?_ ?_
 ·exact⟨false,false,false,false,false,false,undef,undef,undef,undef,rfl,rfl,(Ext.refl w).drew,(fun h=>by cases h),(fun h=>by cases h),(fun h=>by cases h),(fun h=>by cases h),(fun h=>by cases h),(fun h=>by cases h),(fun h=>by cases h),(fun h=>by cases h)⟩
 ·rintro l a w1 ⟨b0,b1,b2,b3,b4,b5,u5,u6,u8,u9,rfl,rfl,hx,h8,h9,h5,h6,d8,d5,k4,k5⟩ i hi
  have hi6:i=0∨i=1∨i=2∨i=3∨i=4∨i=5:=by
   obtain⟨h1,o,ho, -⟩:=mem_ready.1 hi
   have:i<6:=by
    rcases wA3 i 6 with h | h
    ·exact h
    ·rw[wA4 (by simpa using h)] at ho;cases ho
   omega
  unfold zIn
  rcases hi6 with rfl | rfl | rfl | rfl | rfl | rfl
  ·have r:=(zBo hi rfl).1
   have r0:b0=false:=r
   subst r0
   have r4:b4=false:=by cases b4 with | false=>rfl | true=>exact absurd (k4 rfl).1 (by simp)
   subst r4
   refine jC rfl ?_
   refine jK rfl (some 8) rfl _ _ rfl 256 (by omega) rfl rfl ?_
   intro w2 g hb hx2 hg
   rw[zDB] at hb
   exact⟨true,b1,b2,b3,false,b5,u5,u6,_,u9,rfl,rfl,hx.trans hx2,fun _=>⟨g,rfl,hb,by have:=hx.size;omega⟩,h9.ext hx2,h5.ext hx2,h6.ext hx2,fun _ e=>(h9.ne hg e).symm,d5,(fun e=>by cases e),k5⟩
  ·have r1:b1=false:=(zBo hi rfl).1
   subst r1
   have r5:b5=false:=by cases b5 with | false=>rfl | true=>exact absurd (k5 rfl).1 (by simp)
   subst r5
   refine jC rfl ?_
   refine jK rfl (some 9) rfl _ _ rfl 256 (by omega) rfl rfl ?_
   intro w2 g hb hx2 hg
   rw[zDB] at hb
   exact⟨b0,true,b2,b3,b4,false,u5,u6,u8,_,rfl,rfl,hx.trans hx2,h8.ext hx2,fun _=>⟨g,rfl,hb,by have:=hx.size;omega⟩,h5.ext hx2,h6.ext hx2,fun e _=>h8.ne hg e,d5,k4,fun e=>by cases e⟩
  ·have r2:b2=false:=(zBo hi rfl).1
   subst r2
   have r4:b4=false:=by cases b4 with | false=>rfl | true=>exact absurd (k4 rfl).2 (by simp)
   subst r4
   refine jC rfl ?_
   refine wAlo' rfl (some 5) rfl 22 rfl _ nilZero ?_
   intro w2 g hb hx2 hg
   exact⟨b0,b1,true,b3,false,b5,_,u6,u8,u9,rfl,rfl,hx.trans hx2,h8.ext hx2,h9.ext hx2,fun _=>⟨g,rfl,hb,by have:=hx.size;omega⟩,h6.ext hx2,d8,fun _ e=>(h6.ne hg e).symm,(fun e=>by cases e),k5⟩
  ·have r3:b3=false:=(zBo hi rfl).1
   subst r3
   have r5:b5=false:=by cases b5 with | false=>rfl | true=>exact absurd (k5 rfl).2 (by simp)
   subst r5
   refine jC rfl ?_
   refine wAlo' rfl (some 6) rfl 22 rfl _ nilZero ?_
   intro w2 g hb hx2 hg
   exact⟨b0,b1,b2,true,b4,false,u5,_,u8,u9,rfl,rfl,hx.trans hx2,h8.ext hx2,h9.ext hx2,h5.ext hx2,fun _=>⟨g,rfl,hb,by have:=hx.size;omega⟩,d8,fun e _=>h5.ne hg e,k4,fun e=>by cases e⟩
  ·have r4:b4=false:=(zBo hi rfl).1
   subst r4
   have e:=(zBo hi rfl).2
   simp[Region.binds] at e
   obtain⟨-,r0,r2,r3⟩:=e
   subst r0 r2 r3
   obtain⟨g5,rfl,hb5,hl5⟩:=h5 rfl
   obtain⟨g8,rfl,hb8,hl8⟩:=h8 rfl
   simp only[wA6,if_false] at hb5
   have hc:w1.cell? ⟨g5,0,none⟩=some (.slice none 0 0):=hb5.cell 0
   have hz:=hb5.frozen 0
   refine jC rfl ?_
   go_wp2_with fail
   obtain⟨g6,rfl,hb6,hl6⟩:=h6 rfl
   have hne:g6≠g5:=fun e=>d5 trivial trivial (by rw[e])
   exact⟨true,b1,true,true,true,b5,_,_,_,u9,rfl,rfl,hx.setCell hl5 _,h8.set hb5 _,h9.set hb5 _,fun _=>⟨g5,rfl,hb5.set_ 0 _,hl5⟩,fun _=>⟨g6,rfl,hb6.far (p:=⟨g5,0,none⟩) hne _,hl6⟩,fun _=>d8 trivial,fun _ _=>d5 trivial trivial,fun _=>⟨rfl,rfl⟩,fun e=>⟨(k5 e).1,rfl⟩⟩
  ·have r5:b5=false:=(zBo hi rfl).1
   subst r5
   have e:=(zBo hi rfl).2
   simp[Region.binds] at e
   have e1:b1=true:=by simp_all
   have e3:b3=true:=by simp_all
   have e2:b2=true:=by simp_all
   subst e1 e2 e3
   obtain⟨g6,rfl,hb6,hl6⟩:=h6 rfl
   obtain⟨g9,rfl,hb9,hl9⟩:=h9 rfl
   simp only[wA6,if_false] at hb6
   have hc:w1.cell? ⟨g6,0,none⟩=some (.slice none 0 0):=hb6.cell 0
   have hz:=hb6.frozen 0
   clear e
   refine jC rfl ?_
   go_wp2_with fail
   obtain⟨g5,rfl,hb5,hl5⟩:=h5 rfl
   have hne:g5≠g6:=fun e=>d5 trivial trivial (by rw[e])
   exact⟨b0,true,true,true,b4,true,_,_,u8,_,rfl,rfl,hx.setCell hl6 _,h8.set hb6 _,h9.set hb6 _,fun _=>⟨g5,rfl,hb5.far (p:=⟨g6,0,none⟩) hne _,hl5⟩,fun _=>⟨g6,rfl,hb6.set_ 0 _,hl6⟩,fun e _=>d8 e trivial,fun _ _=>d5 trivial trivial,fun e=>⟨(k4 e).1,rfl⟩,fun _=>⟨rfl,rfl⟩⟩
 ·rintro l a w1 ⟨b0,b1,b2,b3,b4,b5,u5,u6,u8,u9,rfl,rfl,hx,h8,h9,h5,h6,d8,d5,k4,k5⟩ hr
  have no: ∀ i, ¬i∈Region.ready .any _ #[b0,b1,b2,b3,b4,b5]:=fun i hi=>by rw[hr] at hi;cases hi
  have r0:b0=true:=by
   cases b0 with
   | true=>rfl
   | false=>exact absurd (mem_ready.2 ⟨rfl,_,rfl,by simp⟩) (no 0)
  have r1:b1=true:=by
   cases b1 with
   | true=>rfl
   | false=>exact absurd (mem_ready.2 ⟨rfl,_,rfl,by simp⟩) (no 1)
  have r2:b2=true:=by
   cases b2 with
   | true=>rfl
   | false=>exact absurd (mem_ready.2 ⟨rfl,_,rfl,by simp⟩) (no 2)
  have r3:b3=true:=by
   cases b3 with
   | true=>rfl
   | false=>exact absurd (mem_ready.2 ⟨rfl,_,rfl,by simp⟩) (no 3)
  subst r0 r1 r2 r3
  have r4:b4=true:=by
   cases b4 with
   | true=>rfl
   | false=>exact absurd (mem_ready.2 ⟨rfl,_,rfl,by simp[Region.binds]⟩) (no 4)
  subst r4
  have r5:b5=true:=by
   cases b5 with
   | true=>rfl
   | false=>exact absurd (mem_ready.2 ⟨rfl,_,rfl,by simp[Region.binds]⟩) (no 5)
  subst r5
  obtain⟨gA,rfl,hbA,hlA⟩:=h8 rfl
  obtain⟨gB,rfl,hbB,hlB⟩:=h9 rfl
  obtain⟨p,rfl,hbp,hlp⟩:=h5 rfl
  obtain⟨q,rfl,hbq,hlq⟩:=h6 rfl
  simp only[if_true] at hbp hbq
  have hI:CntIn p q gA gB w1 (z256,z256) (fun x=>x=p∨x=q∨x=gA∨x=gB):=⟨hbp,hbq,hbA,hbB,zFm,zFm,fun e=>d8 rfl rfl (by rw[e]),fun x=>Iff.rfl⟩
  have hs1:=hs.ext hx
  have HE:=zA (zNJ (countEat p q gA gB) A n c Z hZ w1 hs1 (z256,z256) _ hI (fun ad e h0 k=>by
   obtain⟨A',c',e2, -, -, -,h5⟩:=hs
   injection e2 with e3 _ _
   subst e3
   obtain⟨ad',e4,h6, -⟩:=h5 h0
   rw[e] at e4
   injection e4 with e4
   subst e4
   omega) trivial)
  unfold EachIs at HE
  generalize qD vE n Z (z256,z256)=R at *
  obtain⟨x,s⟩:=R
  dsimp only at HE
  unfold zIn
  clear hbA hbB hbp hbq hI hs hs1 h8 h9 h5 h6 d8 d5 k4 k5 hr no hZ
  by_cases hx0:x=0
  ·subst hx0
   obtain⟨f,r⟩:=s
   go_upto_region 5 with (go_at_call 145;(with_reducible refine (HE.out).mono ?_);rintro e w3 ⟨rfl,hu3,F',hI3, -⟩)
   have hI4:CntIn p q gA gB w3.drew (f,r) F':=hI3.keep (T:=fun _=>False) (Upd.refl _ _).drew (fun _ k=>k.elim)
   refine xW xX (by kernel_rfl) (by kernel_rfl) ?_
   refine yV (by rfl) (.slice (some ⟨gA,0,none⟩) 256 256) (fun W hW=>zLh rfl rfl ((hI4.hp.ext hW).cell 0)) ?_
   simp only[Act.put,sA,sB,sC]
   refine yV (by rfl) (.slice (some ⟨gB,0,none⟩) 256 256) (fun W hW=>zLh rfl rfl ((hI4.hq.ext hW).cell 0)) ?_
   simp only[Act.put,sA,sB,sC]
   refine zE (by rfl) (.slice (some ⟨gA,0,none⟩) 256 256) (zW rfl rfl) ?_
   simp only[Act.put,sA,sB,sC]
   refine zE (by rfl) (.slice (some ⟨gB,0,none⟩) 256 256) (zW rfl rfl) ?_
   simp only[Act.put,sA,sB,sC]
   refine zE (by rfl) (.int .i64 0) (zW rfl rfl) ?_
   simp only[Act.put,sA,sB,sC]
   refine jA ?_
   intro w5 hx5
   go_wp2_with fail
   refine bodyPost_ret (results_tmp3 rfl _ _ _) rfl ?_
   have hx3:Ext w w3.drew:=(hu3.ext hx (fun y k=>by rcases k with rfl | rfl | rfl | rfl<;>assumption)).drew
   refine⟨hx3.trans hx5, ?_⟩
   rw[if_pos rfl]
   exact⟨gA,gB,rfl,hI4.ha.ext hx5,hI4.hb.ext hx5,hI4.la,hI4.lb,by assumption,by assumption⟩
  ·have hxb:(x !=0)=true:=by simpa using hx0
   have HX:=zA hx0
   clear hx0
   go_wp2_with (go_at_call 145;(with_reducible refine (HE.out).mono ?_);rintro e w3 ⟨rfl,hu3, -⟩)
   refine bodyPost_ret (results_tmp3 rfl _ _ _) rfl ?_
   refine⟨hu3.ext hx (fun y k=>by rcases k with rfl | rfl | rfl | rfl<;>assumption), ?_⟩
   rw[if_neg HX.out]
   rfl
end
def addW (a b:List Int):List Int:=List.zipWith (fun x y=>wrap64 (x+y)) a b
def zBf (a b:List Int) (i:Nat):List Int:=(addW a b).take i++a.drop i
theorem zCS {a b:List Int} (h:b.length=a.length):(addW a b).length=a.length:=by simp[addW,h]
theorem zMV (a b:List Int):zBf a b 0=a:=by simp[zBf]
theorem zOW {a b:List Int} {n:Nat} (h:b.length=a.length) (hn:a.length=n):zBf a b n=addW a b:=by
 unfold zBf
 rw[wC4 (by rw[zCS h];omega),wL5 (by omega),wG3]
theorem zON {a b:List Int} (h:b.length=a.length) (i:Nat):(zBf a b i).length=a.length:=by
 unfold zBf
 rw[wF1,wI4,wJ4,zCS h]
 omega
theorem mixW_at {a b:List Int} (h:b.length=a.length) {i:Nat} (hi:i<a.length):(zBf a b i)[i]? =some a[i]:=by
 unfold zBf
 rw[wG5 (by rw[wI4];omega),wI4,zCS h,wN2 (by omega),wF7,wB4,Nat.add_zero,wA2 hi]
theorem zNm {a b:List Int} (h:b.length=a.length) {i:Nat} (hi:i<a.length):(zBf a b i).set i (wrap64 (a[i]+b[i]'(by omega)))=zBf a b (i+1):=by
 have hl:((addW a b).take i).length=i:=by rw[wI4,zCS h];omega
 unfold zBf
 rw[wF6 _ _ (by omega),hl,wF7,wG1 hi,wF9,wC3 (by rw[zCS h];exact hi),wG0]
 simp[addW]
def jS (n e:Nat) (Z:List Int):Nat→List Int×List Int
 | 0=>(z256,z256)
 | k+1=>(addW (jS n e Z k).1 (qD vE (min (n-k*yP n e) (yP n e)) (xM n e k Z) (z256,z256)).2.1,addW (jS n e Z k).2 (qD vE (min (n-k*yP n e) (yP n e)) (xM n e k Z) (z256,z256)).2.2)
theorem zOD: ∀ (l:List (Tok×Bool)) (s:List Int×List Int),(jT vE l s).1=0
 | [],_=>rfl
 | (_,_)::r,_=>by rw[zCL rfl];exact zOD r _
theorem cntE (n:Nat) (Z:List Int) (s:List Int×List Int):(qD vE n Z s).1=qF n Z:=by
 unfold qD qF
 split
 ·rfl
 ·split
  ·rfl
  ·exact zOD _ _
theorem zDN {n:Nat} {Z:List Int}:qF n Z=0↔n≤400∧ ∀ z∈Z, -2047≤z∧z≤2047:=by
 unfold qF
 constructor
 ·intro h
  by_cases h1:400<n
  ·rw[if_pos h1] at h;cases h
  ·rw[if_neg h1] at h
   cases h2:zN Z (-2047) 2047 with
   | false=>rw[h2] at h;cases h
   | true=>exact⟨by omega,yD.1 h2⟩
 ·rintro⟨h1,h2⟩
  rw[if_neg (by omega),yD.2 h2]
  rfl
theorem piece_mem {n e i:Nat} {Z:List Int} {z:Int} (h:z∈xM n e i Z):z∈Z:=wG6 (wG7 h)
theorem piece_e {n e i:Nat} {Z:List Int} (h:qF n Z=0):qF (min (n-i*yP n e) (yP n e)) (xM n e i Z)=0:=by
 obtain⟨h1,h2⟩:=zDN.1 h
 exact zDN.2 ⟨by omega,fun z hz=>h2 z (piece_mem hz)⟩
section
theorem elt_span:Elt Tryz.prog 136 139 2 16:=⟨Tryz.underlying136,by kernel_rfl,by omega⟩
theorem vN:(Tryz.prog.info? 139).map (·.size)=some 2:=by kernel_rfl
theorem zCO:(Tryz.prog.info? 139).bind (·.zero)=some (.agg (bv [0,0])):=by kernel_rfl
theorem zGh:((Tryz.prog.info? 139).bind (·.zero)).isSome=true:=by rw[zCO];rfl
theorem zGs (x y:Int):Tryz.prog.built 139 [(0,.int .i64 x),(1,.int .i64 y)]=some (bv [x,y]):=by
 show _=_
 kernel_rfl
theorem zKi {w:World} {g sz:Nat} {t:TypeId} {zs:List Int} (h:Blk w g t (bv zs)) (hz:zs.length=sz):SL w sz (.slice (some ⟨g,0,none⟩) 1 1) 1 (ints zs):=by
 have:=h.sl (size:=sz) (n:=1) (c:=1) (by rw[zJ,hz];omega) (by omega) (by omega)
 simpa [bv] using this
attribute [local irreducible] bv qS yP yK
theorem zLE (n e:Nat) (hn:n≤1000000) (he:e≤1000000) (w:World) :
 Calls Tryz.prog 99 #[.int .i64 (n:Int),.int .i64 (e:Int)] w fun en w'=> ∃ B d,en=.returned (.slice B (yK n e) d)∧SL w' 2 (.slice B (yK n e) d) (yK n e) (ints (qS n e (yK n e)))∧(∀ ad,B=some ad→w.heap.size≤ad.block)∧Ext w w':=by
 by_cases h:e=0∨n=0
 ·obtain⟨hE,hK⟩:=zEi h
  have hL:qS n e 1=[0,(n:Int)]:=by
   simp only[qS,wK7,hE]
   simp
  rw[hK,hL]
  have hs:Hid ((bv [0,(n:Int)]).size=2):=zA (by rw[zJ];rfl)
  clear hE hK hL
  by_cases h0:e=0
  ·have H8:Hid (decide ((e:Int)=0)=true):=zA (by rw[wB3];omega)
   clear h h0
   go_enter Tryz.func99,Tryz.ntmps99
   go_wp2_with (first
    | ((with_reducible apply gS 8);refine zB rfl (.bool true) (zAB rfl rfl rfl H8.out) ?_)
    | ((with_reducible apply gS 14);refine zB rfl (.agg (bv [0,(n:Int)])) (uH rfl rfl rfl (zGs _ _)) ?_)
    | ((with_reducible apply gS 15);refine wLit1 rfl 136 139 (.tmp 14) rfl (some 15) rfl Tryz.underlying136 2 vN zGh _ rfl hs.out (by omega) (by omega) ?_;intro w1 g hb1 hx1 hg1))
   go_ret
   exact⟨_,_,rfl,zKi hb1 rfl,(fun ad q=>by injection q with q;subst q;exact hg1),hx1⟩
  ·have H8:Hid (decide ((e:Int)=0)=false):=zA (by rw[decide_eq_false_iff_not];omega)
   have H11:Hid (decide ((n:Int)=0)=true):=zA (by rw[wB3];omega)
   clear h h0
   go_enter Tryz.func99,Tryz.ntmps99
   go_wp2_with (first
    | ((with_reducible apply gS 8);refine zB rfl (.bool false) (zAB rfl rfl rfl H8.out) ?_)
    | ((with_reducible apply gS 11);refine xC (by rfl) (.bool true) (zAB rfl rfl rfl H11.out) ?_)
    | ((with_reducible apply gS 14);refine zB rfl (.agg (bv [0,(n:Int)])) (uH rfl rfl rfl (zGs _ _)) ?_)
    | ((with_reducible apply gS 15);refine wLit1 rfl 136 139 (.tmp 14) rfl (some 15) rfl Tryz.underlying136 2 vN zGh _ rfl hs.out (by omega) (by omega) ?_;intro w1 g hb1 hx1 hg1))
   go_ret
   exact⟨_,_,rfl,zKi hb1 rfl,(fun ad q=>by injection q with q;subst q;exact hg1),hx1⟩
 ·have HE:=zA (zFW h).1
  have HLT:=zA (fun i=>zKs (i:=i) h)
  have HKL:=zA (zEu (n:=n) (e:=e))
  have HE0:Hid (0<e):=zA (by omega)
  have H8:Hid (decide ((e:Int)=0)=false):=zA (by rw[decide_eq_false_iff_not];omega)
  have H11:Hid (decide ((n:Int)=0)=false):=zA (by rw[decide_eq_false_iff_not];omega)
  have how:OwnV w w.heap.size 139 2 (.slice none 0 0) 0 (ints (qS n e 0)):=by
   have h0:qS n e 0=[]:=by unfold qS;rfl
   rw[h0]
   exact OwnV.nil _ _ _ _
  have hn':=hn
  clear h
  obtain⟨K,hK⟩: ∃ K,yK n e=K:=⟨_,rfl⟩
  rw[hK] at HLT HKL ⊢
  clear hK
  go_enter Tryz.func99,Tryz.ntmps99
  go_wp2_with (first
   | ((with_reducible apply gS 8);refine zB rfl (.bool false) (zAB rfl rfl rfl H8.out) ?_)
   | ((with_reducible apply gS 11);refine xC (by rfl) (.bool false) (zAB rfl rfl rfl H11.out) ?_))
  go_loopw [5,6] (fun x iv wr=> ∃ (k p:Nat),Hid (p=k*e∧k≤K)∧p≤n+e∧iv=.int .i64 (p:Int)∧OwnV wr w.heap.size 139 2 x k (ints (qS n e k))∧Ext w wr) (fun _ i _=>n+e-(intOf i).toNat)
  case atStart=>exact⟨0,0,zA (by omega),by omega,rfl,how,Ext.refl _⟩
  case round =>
   clear how
   obtain⟨k,p,HP,hpn,rfl,⟨OA,oc,rfl,hown⟩,hx⟩:=hrel
   by_cases hlt:p<n
   ·obtain⟨p2,hp2⟩: ∃ q,p+e=q:=⟨_,rfl⟩
    obtain⟨mn,hmn⟩: ∃ q,min p2 n=q:=⟨_,rfl⟩
    have hs:Hid ((bv [(p:Int),(mn:Int)]).size=2):=zA (by rw[zJ];rfl)
    have hk1:k<K:=by have h1:=HP.out;exact (HLT.out k).2 (by rw[←h1.1];exact hlt)
    have hk2:k≤1000001:=by have h1:=HKL.out;omega
    have HNX:Hid (qS n e (k+1)=qS n e k++[(p:Int),(mn:Int)]):=zA (by
     have h1:=HP.out
     have h2:k*yP n e=p:=by rw[HE.out,h1.1]
     rw[qS,h2,HE.out,hp2,hmn])
    have HP2:Hid (p2=(k+1)*e∧k+1≤K):=zA (by have h1:=HP.out;rw[wN3, ←h1.1];omega)
    have HPP:=zA hp2
    have hp3:p<p2:=by have:=HE0.out;omega
    have hp4:p2≤n+e:=by omega
    clear hp2
    go_wp2_with (first
     | ((with_reducible apply gS 26);refine zB rfl (.int .i64 (p2:Int)) (by rw[←HPP.out];exact zZ (i:=p) (d:=e) rfl rfl rfl (by omega)) ?_)
     | ((with_reducible apply gS 28);refine zB rfl (.int .i64 (mn:Int)) (by rw[←hmn];exact zHs (i:=p2) (d:=n) rfl rfl rfl) ?_)
     | ((with_reducible apply gS 29);refine zB rfl (.agg (bv [(p:Int),(mn:Int)])) (uH rfl rfl rfl (zGs _ _)) ?_)
     | ((with_reducible apply gS 30);refine wLit1 rfl 136 139 (.tmp 29) rfl (some 30) rfl Tryz.underlying136 2 vN zGh _ rfl hs.out (by omega) (by omega) ?_;intro w1 g hb1 hx1 hg1;have ho1:=yJ hown hx1)
     | ((with_reducible apply gS 31);at_builtin;refine wApf elt_span rfl (.tmp 22) (.tmp 30) rfl w.heap.size (.slice OA k oc) k (ints (qS n e k)) rfl ho1 _ 1 (ints [(p:Int),(mn:Int)]) rfl (zKi hb1 rfl) (qR _) (by omega) (by omega) (by have:=hx.size;have:=hx1.size;omega) ?_;intro A4 c4 w4 ho4 hgr4 hor4;have hx4:=(hx.trans hx1).grown' hgr4 (fun b hb=>(ho1.lt b hb).1))
     | ((with_reducible apply gS 21);refine zB rfl (.int .i64 (p2:Int)) (by rw[←HPP.out];exact zZ (i:=p) (d:=e) rfl rfl rfl (by omega)) ?_))
    go_roundw
    case rel=>exact⟨k+1,p2,HP2,hp4,rfl,⟨A4,c4,rfl,by rw[HNX.out,uQ];exact ho4⟩,hx4⟩
    case measure=>simp[intOf];omega
   ·have hk:k=K:=by
     have h1:=HP.out
     have h2: ¬k<K:=fun h=>hlt (by rw[h1.1];exact (HLT.out k).1 h)
     omega
    subst hk
    go_wp2_with fail
    go_ret
    exact⟨_,_,rfl,(qU hown).1,(qU hown).2,hx⟩
theorem zHI (n e:Nat) (hn:n≤1000000) (he:e≤1000000) (w:World) :
 Calls Tryz.prog 99 #[.int .i64 (n:Int),.int .i64 (e:Int)] w fun en w'=> ∃ B d,en=.returned (.slice B (yK n e) d)∧SL w' 2 (.slice B (yK n e) d) (yK n e) (ints (qS n e (yK n e)))∧Ext w w' :=
 (zLE n e hn he w).mono fun _ _ ⟨B,d,h1,h2,_,h3⟩=>⟨B,d,h1,h2,h3⟩
end
def zCp (A:Option Addr) (c l:Nat):Option Addr:=if c=l then A else A.map (·.add (l*64))
theorem SL.subK {w:World} {A:Option Addr} {n c l h:Nat} {xs:List Value} (hs:SL w 64 (.slice A n c) n xs) (hl:l≤h) (hh:h≤n) :
 SL w 64 (.slice (zCp A c l) (h-l) (c-l)) (h-l) ((xs.drop (l*64)).take ((h-l)*64)):=by
 obtain⟨A',c',e,h1,h2,h3,h4⟩:=hs
 injection e with e1 e2 e3
 subst e1 e3
 have h5:l*64+(h-l)*64≤n*64:=by rw[←wJ1];exact wI5 _ (by omega)
 refine⟨_,_,rfl,by omega,by omega,by rw[wI4,wJ4,h3];omega,fun h0=> ?_⟩
 obtain⟨ad,rfl,hb,hc⟩:=h4 (by omega)
 unfold zCp
 rw[if_neg (by omega)]
 refine⟨ad.add (l*64),rfl,by rw[yH];exact hb,fun j u hu=> ?_⟩
 rw[zFl]
 refine hc _ _ ?_
 have hj:j<(h-l)*64:=by have:=(wC2.1 hu).1;rw[wI4] at this;omega
 rwa [wD0 hj,wB4] at hu
theorem run_subK (A:Option Addr) (n c l h:Nat) (hl:l≤h) (hh:h≤n) (hc:n≤c) (w:World) :
 (Instr.slice 25 (.slice A n c) (some (.int .i64 (l:Int))) (some (.int .i64 (h:Int))) none).run Tryz.prog w=.ok (.slice (zCp A c l) (h-l) (c-l)) w:=by
 have e1:((l:Int)≤(h:Int)):=by omega
 have e2:((h:Int)≤(c:Int)):=by omega
 have e3:l≤c:=by omega
 unfold zCp
 go_simp
theorem run_subF (A:Option Addr) (n c l:Nat) (hh:l≤n) (hc:n≤c) (w:World) :
 (Instr.slice 25 (.slice A n c) (some (.int .i64 (l:Int))) none none).run Tryz.prog w=.ok (.slice (zCp A c l) (n-l) (c-l)) w:=by
 have e1:((l:Int)≤(n:Int)):=by omega
 have e2:((n:Int)≤(c:Int)):=by omega
 have e3:l≤c:=by omega
 unfold zCp
 go_simp
section
variable {o:Oper} {a:Act}
theorem ex_subK {x lo hi:Operand} (ho:o.op=.slice 25 x (some lo) (some hi) none) {A:Option Addr} {n c l h:Nat} (hx:a.eval x=.slice A n c) (h1:a.eval lo=.int .i64 (l:Int)) (h2:a.eval hi=.int .i64 (h:Int)) (hl:l≤h) (hh:h≤n) (hc:n≤c) (w:World) :
 (execOp a.eval o).run Tryz.prog w=.ok (.value (.slice (zCp A c l) (h-l) (c-l))) w:=by
 simp[execOp,ho,hx,h1,h2,Instr.sliceAt,Sem.run_bind,run_underlying Tryz.underlying25,run_subK A n c l h hl hh hc w]
theorem ex_subF {x lo:Operand} (ho:o.op=.slice 25 x (some lo) none none) {A:Option Addr} {n c l:Nat} (hx:a.eval x=.slice A n c) (h1:a.eval lo=.int .i64 (l:Int)) (hh:l≤n) (hc:n≤c) (w:World) :
 (execOp a.eval o).run Tryz.prog w=.ok (.value (.slice (zCp A c l) (n-l) (c-l))) w:=by
 simp[execOp,ho,hx,h1,Instr.sliceAt,Sem.run_bind,run_underlying Tryz.underlying25,run_subF A n c l hh hc w]
end
theorem zHf {g:Nat} {t:TypeId}: ∀ (news old a b:List Value) (w:World),old.length=news.length→Blk w g t (a++(old++b)).toArray→Blk (w.setCells g a.length news) g t (a++(news++b)).toArray
 | [],old,a,b,w,hl,h=>by
   have:old=[]:=wN7.1 (by simpa using hl)
   subst this
   exact h
 | v::news,[],a,b,w,hl,h=>by simp at hl
 | v::news,o::old,a,b,w,hl,h=>by
   have h1:=h.set_ a.length v
   rw[wM3,wF6 _ _ (wA5 _),wF7,wK6,wF9] at h1
   have h2:Blk (w.setCell ⟨g,a.length,none⟩ v) g t ((a++[v])++(old++b)).toArray:=by simpa using h1
   have h3:=zHf news old (a++[v]) b _ (by simpa using hl) h2
   rw[World.setCells]
   have e:(a++[v]).length=a.length+1:=by simp
   rw[e] at h3
   simpa using h3
theorem zGu {g:Nat}: ∀ (news:List Value) (o:Nat) (w:World),Upd (fun b=>b=g) w (w.setCells g o news)
 | [],_,w=>Upd.refl _ w
 | v::news,o,w=>by
   rw[World.setCells]
   have h1:=(Upd.refl (fun b=>b=g) w).setCell (p:=⟨g,o,none⟩) rfl v
   exact h1.trans (zGu news (o+1) _) (fun x h=>.inl h)
section
variable {P:Program} {ops:Array Oper} {rest:List Oper} {o:Oper} {ac:Act} {w:World} {Q:Exit→Act→World→Prop}
theorem vB (hgd:o.guard=none) (ty:TypeId) (x y:Operand) (ho:o.op=.store ty x y) (g off:Nat) (news:List Value) (hx:ac.eval x=.pointer (some ⟨g,off,none⟩)) (hy:ac.eval y=.agg news.toArray)
 {t:TypeId} {a old b:List Value} (hB:Blk w g t (a++(old++b)).toArray) (ha:a.length=off) (hl:old.length=news.length) (hs:(P.info? ty).map (·.size)=some news.length) (h1: ∀ v∈news,v.oneCell'=true)
 (h: ∀ w1,Blk w1 g t (a++(news++b)).toArray→Upd (fun b=>b=g) w w1→wpList P ops Q rest (ac.put o.dst undef) w1):wpList P ops Q (o::rest) ac w:=by
 subst ha
 refine wpList_store_mid hgd ty x y ho g a.length news.toArray hx hy (fun j hj=>⟨?_,hB.frozen _⟩) (by simpa using hs) (all_oneCell_toArray h1) (h _ (zHf news old a b w hl hB) (zGu _ _ _))
 rw[hB.cell]
 have hj:j<news.length:=by simpa using hj
 simp only[wH2]
 rw[wG5 (by omega),wG4 (by omega),wA2 (by omega)]
 rfl
end
theorem zOR (a m b:List Value) (off k:Nat) (v:Value) (ha:a.length=off) (hk:k<m.length):(a++(m++b)).toArray.setIfInBounds (off+k) v=(a++(m.set k v++b)).toArray:=by
 subst ha
 rw[wM3,wF6 _ _ (by omega),wN8 _ _ (by omega)]
 congr 4
 omega
end Go.Proofs.YtkggcjdlpendfaaGreatDoor
