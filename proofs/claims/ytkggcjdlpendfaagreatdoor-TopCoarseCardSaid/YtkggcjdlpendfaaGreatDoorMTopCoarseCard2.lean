/- Contracts of the functions that the law reaches, part 2. -/
import Derived.Maps.AppendAt
import Derived.Great.Walk
import Derived.Deep.MidRow
import Derived.Test.YtkggcjdlpendfaaGreatDoorMTopCoarseCard1
namespace Go.Proofs.YtkggcjdlpendfaaGreatDoor
set_option linter.unusedVariables false
set_option linter.unusedSimpArgs false
set_option maxRecDepth 20000
set_option maxHeartbeats 8000000
open Go.RowKit
section
variable {P:Program} {ops:Array Oper} {md:Region.Mode} {F:Nat→Bool} {I:World→Prop}
def qO (P:Program) (md:Region.Mode) (ops:Array Oper) (F:Nat→Bool) (I:World→Prop) (QN:Act→World→Prop):Nat→Array Bool→Act→World→Prop
 | 0,listed,a,w=>Region.ready md ops listed=[]∧QN a w
 | f+1,listed,a,w=>(Region.ready md ops listed=[]→QN a w) ∧
   ∀ i∈Region.ready md ops listed,wpOp P ops (xE QN) i (fun a' w'=>(F i=true→I w')∧qO P md ops F I QN f (listed.setIfInBounds i true) a' w') a w
variable {QN:Act→World→Prop}
def zHk (md:Region.Mode) (ops:Array Oper) (F:Nat→Bool) (k:Nat):Bool :=
 (List.range ops.size).all fun j=>F j ||match ops[j]? with | some oj=>oj.after.any (fun e=>Region.binds md e&&e.on ==k) | none=>true
theorem zPT {k:Nat} (h:zHk md ops F k=true): ∀ j oj,ops[j]? =some oj→F j=false→ ∃ e∈oj.after,Region.binds md e=true∧e.on=k:=by
 intro j oj hj hF
 unfold zHk at h
 rw[wB5] at h
 have hjs:j<ops.size:=(wB6.1 hj).1
 have:=h j (wB7.2 hjs)
 rw[hF,hj,wB8] at this
 simp only[Array.any_eq_true] at this
 obtain⟨x,hx,h2⟩:=this
 simp only[wA9,beq_iff_eq] at h2
 exact⟨oj.after[x],Array.getElem_mem hx,h2.1,h2.2⟩
theorem zKE: ∀ (f:Nat) (listed:Array Bool) (a:Act) (w:World),qO P md ops F I QN f listed a w→wpAny P md ops (xE QN) f listed a w
 | 0,_,_,_,h=>⟨h.1,h.2⟩
 | f+1,_,_,_,h=>⟨fun h0=>h.1 h0,fun i hi=>wpOp_mono (fun a' w' h'=>zKE f _ a' w' h'.2) (h.2 i hi)⟩
theorem zMx {i:Nat} {oi:Oper} {v:Value} (hF: ∀ j oj,ops[j]? =some oj→F j=false→ ∃ e∈oj.after,Region.binds md e=true∧e.on=i) (hi:ops[i]? =some oi) (hsel: ∀ (j:Nat) (o:Oper) cs b,ops[j]? =some o→o.op≠.select cs b) :
 ∀ (fuel:Nat) (listed:Array Bool) (a:Act) (w:World),
  (∀ j oj,ops[j]? =some oj→j≠i→listed.getD j true=false→(∀ e∈oj.after,Region.binds md e=true→e.on≠i)→oi.apart ops oj=true) →
  i∈Region.ready md ops listed→Fixed P ops I oi v a→I w →
  qO P md ops F I QN fuel (listed.setIfInBounds i true) (a.put oi.dst v) w→qO P md ops F I QN (fuel+1) listed a w:=by
 intro fuel
 induction fuel with
 | zero =>
   intro listed a w _ hr hy hI H
   refine⟨fun h=>(by rw[h] at hr;cases hr),fun j hj=> ?_⟩
   by_cases hji:j=i
   ·subst hji;exact hy.wpOp hi hI ⟨fun _=>hI,H⟩
   ·have:=ready_mono hj hji
    rw[H.1] at this
    cases this
 | succ fuel ih =>
   intro listed a w hfree hr hy hI H
   refine⟨fun h=>(by rw[h] at hr;cases hr),fun j hj=> ?_⟩
   by_cases hji:j=i
   ·subst hji;exact hy.wpOp hi hI ⟨fun _=>hI,H⟩
   ·have h1:=H.2 j (ready_mono hj hji)
    obtain⟨hjun,oj,hoj,hall⟩:=mem_ready.1 hj
    have hnot: ∀ e∈oj.after,Region.binds md e=true→e.on≠i:=fun e he hb heq=>by
     have h1:=hall e he hb
     have h0:=(mem_ready.1 hr).1
     rw[heq] at h1
     rcases wA3 i listed.size with h' | h'
     ·simp[h'] at h0 h1;rw[h0] at h1;cases h1
     ·simp[wA4 h'] at h1
    have hFj:F j=true:=by
     cases hq:F j with
     | true=>rfl
     | false =>
       obtain⟨e,he,hb,heq⟩:=hF j oj hoj hq
       exact absurd heq (hnot e he hb)
    have h2:=zGc hoj (hfree j oj hoj hji hjun hnot) (fun cs b=>hsel i oi cs b hi) (fun cs b=>hsel j oj cs b hoj) (fun _ _ _ h=>h) hy h1
    have hfree': ∀ k ok,ops[k]? =some ok→k≠i→(listed.setIfInBounds j true).getD k true=false →
     (∀ e∈ok.after,Region.binds md e=true→e.on≠i)→oi.apart ops ok=true:=fun k ok hk hki hun hno=>by
     refine hfree k ok hk hki ?_ hno
     by_cases hjk:j=k
     ·subst hjk;exact hjun
     ·rw[getD_set_ne true hjk] at hun;exact hun
    refine wpOp_mono (fun a' w' h3=>⟨h3.2.1,ih (listed.setIfInBounds j true) a' w' hfree' (ready_mono hr (Ne.symm hji)) h3.1 (h3.2.1 hFj) ?_⟩) h2
    rw[wA7 _ _ hji]
    exact h3.2.2
theorem of_loud0 {k f:Nat} {o:Oper} {listed:Array Bool} {a:Act} {w:World} (hone:Region.ready md ops listed=[k]) (ho:ops[k]? =some o)
 (h:wpList P ops (xE fun a' w'=>(F k=true→I w')∧qO P md ops F I QN f (listed.setIfInBounds k true) a' w') [o] a w):qO P md ops F I QN (f+1) listed a w :=
 ⟨fun h0=>(by rw[h0] at hone;cases hone),fun i hi=>by
  rw[hone] at hi
  have hik:i=k:=by simpa using hi
  subst hik
  exact jC ho h⟩
theorem of_two0 {k l f:Nat} {o o2:Oper} {listed:Array Bool} {a:Act} {w:World} (hone:Region.ready md ops listed=[k,l]) (ho:ops[k]? =some o) (ho2:ops[l]? =some o2)
 (h:wpList P ops (xE fun a' w'=>(F k=true→I w')∧qO P md ops F I QN f (listed.setIfInBounds k true) a' w') [o] a w)
 (h2:wpList P ops (xE fun a' w'=>(F l=true→I w')∧qO P md ops F I QN f (listed.setIfInBounds l true) a' w') [o2] a w):qO P md ops F I QN (f+1) listed a w :=
 ⟨fun h0=>(by rw[h0] at hone;cases hone),fun i hi=>by
  rw[hone] at hi
  have hik:i=k∨i=l:=by simpa using hi
  rcases hik with rfl | rfl
  ·exact jC ho h
  ·exact jC ho2 h2⟩
theorem of_fix0 {k f:Nat} {o:Oper} {listed:Array Bool} {a:Act} {w:World} (hB:((Region.ready md ops listed).contains k&&Region.free md ops listed k&&Region.noSelect ops&&zHk md ops F k)=true) (ho:ops[k]? =some o)
 (hw:Region.wanted o (yielded ops a.tmps)=true) (v:Value) (h1: ∀ w,I w→(execOp a.eval o).run P w=.ok (.value v) w) (hI:I w)
 (h:qO P md ops F I QN f (listed.setIfInBounds k true) (a.put o.dst v) w):qO P md ops F I QN (f+1) listed a w:=by
 simp only[wA9] at hB
 exact zMx (zPT hB.2) ho (Region.noSelect_spec hB.1.2) f listed a w (Region.free_spec ho hB.1.1.2) (by simpa using hB.1.1.1) (.inl ⟨hw,h1⟩) hI h
section
variable {l0:List Oper}
theorem of_fix {k f:Nat} {o:Oper} {listed:Array Bool} {a:Act} {w:World} (hB:((Region.ready md l0.toArray listed).contains k&&Region.free md l0.toArray listed k&&Region.noSelect l0.toArray&&zHk md l0.toArray F k)=true) (ho:l0[k]? =some o)
 (hw:Region.wanted o (yielded l0.toArray a.tmps)=true) (v:Value) (h1: ∀ w,I w→(execOp a.eval o).run P w=.ok (.value v) w) (hI:I w)
 (h:qO P md l0.toArray F I QN f (listed.setIfInBounds k true) (a.put o.dst v) w):qO P md l0.toArray F I QN (f+1) listed a w:=of_fix0 hB (by simpa using ho) hw v h1 hI h
theorem of_run {k f:Nat} {o:Oper} {listed:Array Bool} {a:Act} {w:World} (hB:((Region.ready md l0.toArray listed).contains k&&Region.free md l0.toArray listed k&&Region.noSelect l0.toArray&&zHk md l0.toArray F k)=true) (ho:l0[k]? =some o)
 (hw:Region.wanted o (yielded l0.toArray a.tmps)=true) (v:Value) (h1: ∀ w,(execOp a.eval o).run P w=.ok (.value v) w) (hI:I w)
 (h:qO P md l0.toArray F I QN f (listed.setIfInBounds k true) (a.put o.dst v) w):qO P md l0.toArray F I QN (f+1) listed a w:=of_fix hB ho hw v (fun w _=>h1 w) hI h
theorem xQ {k f:Nat} {o:Oper} {listed:Array Bool} {a:Act} {w:World} (hone:Region.ready md l0.toArray listed=[k]) (ho:l0[k]? =some o)
 (h:wpList P l0.toArray (xE fun a' w'=>(F k=true→I w')∧qO P md l0.toArray F I QN f (listed.setIfInBounds k true) a' w') [o] a w):qO P md l0.toArray F I QN (f+1) listed a w:=of_loud0 hone (by simpa using ho) h
theorem zKS {k l f:Nat} {o o2:Oper} {listed:Array Bool} {a:Act} {w:World} (hone:Region.ready md l0.toArray listed=[k,l]) (ho:l0[k]? =some o) (ho2:l0[l]? =some o2)
 (h:wpList P l0.toArray (xE fun a' w'=>(F k=true→I w')∧qO P md l0.toArray F I QN f (listed.setIfInBounds k true) a' w') [o] a w)
 (h2:wpList P l0.toArray (xE fun a' w'=>(F l=true→I w')∧qO P md l0.toArray F I QN f (listed.setIfInBounds l true) a' w') [o2] a w):qO P md l0.toArray F I QN (f+1) listed a w:=of_two0 hone (by simpa using ho) (by simpa using ho2) h h2
end
theorem jQ (F:Nat→Bool) (I:World→Prop) {id:Nat} {a:Act} {w:World} {l:List Oper} {Q:Exit→Act→World→Prop} (hm:P.follows .mixedOrders=true)
 (h:qO P .any l.toArray F I (fun a w=>Q .normal a w) l.length (Array.replicate l.length false) a w.drew):(Code.region id l.toArray true).wp P Q a w:=by
 refine Code.wp_mono (Q:=xE (fun a w=>Q .normal a w)) (fun e a w h=> ?_) (wp_region_any hm (zKE _ _ _ _ (by simpa using h)))
 cases e<;>first | exact h | exact (h:False).elim
theorem uP {listed:Array Bool} {a:Act} {w:World} (hone:Region.ready md ops listed=[]) (h:QN a w):qO P md ops F I QN 0 listed a w:=⟨hone,h⟩
end
section
variable {P:Program} {ops:Array Oper} {md:Region.Mode} {F:Nat→Bool} {I:World→Prop} {QN:Act→World→Prop}
theorem zHd {J:World→Prop} {i:Nat} {oi:Oper} {v:Value} (Wt:Nat→Bool) (hWt: ∀ j oj,ops[j]? =some oj→Wt j=true→ ∃ e∈oj.after,Region.binds md e=true∧(e.on=i∨Wt e.on=true)) (hi:ops[i]? =some oi) (hsel: ∀ (j:Nat) (o:Oper) cs b,ops[j]? =some o→o.op≠.select cs b) :
 ∀ (fuel:Nat) (listed:Array Bool) (a:Act) (w:World),
  (∀ j,Wt j=true→listed.getD j true=false) →
  (∀ w,J w→F i=true→I w)→(∀ w,(∀ j oj,ops[j]? =some oj→listed.getD j true=false→j≠i→Wt j=true∨ ∀ w',(F j=true→I w')→J w→J w')) →
  (∀ j oj,ops[j]? =some oj→j≠i→listed.getD j true=false→(∀ e∈oj.after,Region.binds md e=true→e.on≠i)→oi.apart ops oj=true) →
  i∈Region.ready md ops listed→Fixed P ops J oi v a→J w →
  qO P md ops F I QN fuel (listed.setIfInBounds i true) (a.put oi.dst v) w→qO P md ops F I QN (fuel+1) listed a w:=by
 intro fuel
 induction fuel with
 | zero =>
   intro listed a w hL hJI _ _ hr hy hI H
   refine⟨fun h=>(by rw[h] at hr;cases hr),fun j hj=> ?_⟩
   by_cases hji:j=i
   ·subst hji;exact hy.wpOp hi hI ⟨hJI w hI,H⟩
   ·have:=ready_mono hj hji
    rw[H.1] at this
    cases this
 | succ fuel ih =>
   intro listed a w hL hJI hK hfree hr hy hI H
   refine⟨fun h=>(by rw[h] at hr;cases hr),fun j hj=> ?_⟩
   by_cases hji:j=i
   ·subst hji;exact hy.wpOp hi hI ⟨hJI w hI,H⟩
   ·have h1:=H.2 j (ready_mono hj hji)
    obtain⟨hjun,oj,hoj,hall⟩:=mem_ready.1 hj
    have hnot: ∀ e∈oj.after,Region.binds md e=true→e.on≠i:=fun e he hb heq=>by
     have h1:=hall e he hb
     have h0:=(mem_ready.1 hr).1
     rw[heq] at h1
     rcases wA3 i listed.size with h' | h'
     ·simp[h'] at h0 h1;rw[h0] at h1;cases h1
     ·simp[wA4 h'] at h1
    have hjW:Wt j≠true:=fun hW=>by
     obtain⟨e,he,hb,h⟩:=hWt j oj hoj hW
     rcases h with heq | h
     ·exact hnot e he hb heq
     ·have h1:=hall e he hb
      have h2:=hL e.on h
      rcases wA3 e.on listed.size with h' | h'
      ·simp[h'] at h1 h2;rw[h2] at h1;cases h1
      ·simp[wA4 h'] at h2
    have hstep: ∀ w',(F j=true→I w')→J w→J w':=by
     rcases hK w j oj hoj hjun hji with h | h
     ·exact absurd h hjW
     ·exact h
    have h2:=zGc hoj (hfree j oj hoj hji hjun hnot) (fun cs b=>hsel i oi cs b hi) (fun cs b=>hsel j oj cs b hoj) (fun _ _ _ h=>h) hy h1
    have hun': ∀ k,(listed.setIfInBounds j true).getD k true=false→listed.getD k true=false:=fun k hun=>by
     by_cases hjk:j=k
     ·subst hjk;exact hjun
     ·rwa [getD_set_ne true hjk] at hun
    have hfree': ∀ k ok,ops[k]? =some ok→k≠i→(listed.setIfInBounds j true).getD k true=false →
     (∀ e∈ok.after,Region.binds md e=true→e.on≠i)→oi.apart ops ok=true:=fun k ok hk hki hun hno=>hfree k ok hk hki (hun' k hun) hno
    refine wpOp_mono (fun a' w' h3=>⟨h3.2.1,ih (listed.setIfInBounds j true) a' w' (fun k hk=>by
     have hkj:j≠k:=fun h=>hjW (h ▸ hk)
     rw[getD_set_ne true hkj];exact hL k hk) hJI (fun w2 k ok hk hun hki=>hK w2 k ok hk (hun' k hun) hki) hfree' (ready_mono hr (Ne.symm hji)) h3.1 (hstep w' h3.2.1 hI) ?_⟩) h2
    rw[wA7 _ _ hji]
    exact h3.2.2
def zIA (md:Region.Mode) (ops:Array Oper) (k:Nat):List Nat :=
 (List.range ops.size).foldl (fun L j=>match ops[j]? with | some oj=>if oj.after.any (fun e=>Region.binds md e&&(e.on ==k ||L.contains e.on)) then j::L else L | none=>L) []
def zID (md:Region.Mode) (ops:Array Oper) (listed:Array Bool) (k:Nat) (L:List Nat):Bool :=
 L.all fun j=> !(listed.getD j true)&&match ops[j]? with | some oj=>oj.after.any (fun e=>Region.binds md e&&(e.on ==k ||L.contains e.on)) | none=>false
def zJj (md:Region.Mode) (ops:Array Oper) (F:Nat→Bool) (listed:Array Bool) (k:Nat):Bool :=
 zID md ops listed k (zIA md ops k)&&(List.range ops.size).all fun j=>F j ||listed.getD j true ||j ==k ||(zIA md ops k).contains j
theorem zHG {listed:Array Bool} {k:Nat} {L:List Nat} (h:zID md ops listed k L=true):(∀ j oj,ops[j]? =some oj→L.contains j=true→ ∃ e∈oj.after,Region.binds md e=true∧(e.on=k∨L.contains e.on=true))∧ ∀ j,L.contains j=true→listed.getD j true=false:=by
 unfold zID at h
 rw[wB5] at h
 refine⟨fun j oj hj hc=> ?_,fun j hc=> ?_⟩
 ·have:=h j (by simpa using hc)
  rw[hj] at this
  simp only[wA9,Array.any_eq_true] at this
  obtain⟨-,x,hx,h2⟩:=this
  simp only[wB9,beq_iff_eq] at h2
  exact⟨oj.after[x],Array.getElem_mem hx,h2.1,h2.2⟩
 ·have:=h j (by simpa using hc)
  rw[wA9] at this
  simpa using this.1
theorem zPm {listed:Array Bool} {k:Nat} (h:zJj md ops F listed k=true): ∀ j oj,ops[j]? =some oj→listed.getD j true=false→j≠k→F j=false→(zIA md ops k).contains j=true:=by
 intro j oj hj hl hjk hF
 unfold zJj at h
 rw[wA9,wB5] at h
 have hjs:j<ops.size:=(wB6.1 hj).1
 have:=h.2 j (wB7.2 hjs)
 rw[hF,hl,wB8,wB8,show (j ==k)=false by simpa using hjk,wB8] at this
 exact this
section
variable {l0:List Oper}
theorem jW {k f:Nat} {o:Oper} {listed:Array Bool} {a:Act} {w:World} (hB:((Region.ready md l0.toArray listed).contains k&&Region.free md l0.toArray listed k&&Region.noSelect l0.toArray&&zJj md l0.toArray F listed k)=true) (ho:l0[k]? =some o)
 (hw:Region.wanted o (yielded l0.toArray a.tmps)=true) (v:Value) (h1: ∀ w,I w→(execOp a.eval o).run P w=.ok (.value v) w) (hI:I w)
 (h:qO P md l0.toArray F I QN f (listed.setIfInBounds k true) (a.put o.dst v) w):qO P md l0.toArray F I QN (f+1) listed a w:=by
 simp only[wA9] at hB
 have hR:zID md l0.toArray listed k (zIA md l0.toArray k)=true:=by
  have:=hB.2
  unfold zJj at this
  rw[wA9] at this
  exact this.1
 have hK: ∀ w j oj,l0.toArray[j]? =some oj→listed.getD j true=false→j≠k→(zIA md l0.toArray k).contains j=true∨ ∀ w',(F j=true→I w')→I w→I w':=fun w j oj hj hl hjk=>by
  cases hF:F j with
  | true=>exact .inr fun w' h _=>h rfl
  | false=>exact .inl (zPm hB.2 j oj hj hl hjk hF)
 have ho':l0.toArray[k]? =some o:=by simpa using ho
 exact zHd (J:=I) (fun j=>(zIA md l0.toArray k).contains j) (zHG hR).1 ho' (Region.noSelect_spec hB.1.2) f listed a w (zHG hR).2 (fun _ h _=>h) hK (Region.free_spec ho' hB.1.1.2) (by simpa using hB.1.1.1) (.inl ⟨hw,h1⟩) hI h
theorem zI {k f:Nat} {o:Oper} {listed:Array Bool} {a:Act} {w:World} (hB:((Region.ready md l0.toArray listed).contains k&&Region.free md l0.toArray listed k&&Region.noSelect l0.toArray&& !F k)=true) (ho:l0[k]? =some o)
 (hw:Region.wanted o (yielded l0.toArray a.tmps)=true) (v:Value) (h1: ∀ w,(execOp a.eval o).run P w=.ok (.value v) w)
 (h:qO P md l0.toArray F I QN f (listed.setIfInBounds k true) (a.put o.dst v) w):qO P md l0.toArray F I QN (f+1) listed a w:=by
 simp only[wA9] at hB
 have hF:F k=false:=by simpa using hB.2
 have ho':l0.toArray[k]? =some o:=by simpa using ho
 exact zHd (J:=fun _=>True) (fun _=>false) (fun _ _ _ h=>by cases h) ho' (Region.noSelect_spec hB.1.2) f listed a w (fun _ h=>by cases h) (fun _ _ h=>by rw[hF] at h;cases h) (fun _ _ _ _ _ _=>.inr fun _ _ _=>trivial) (Region.free_spec ho' hB.1.1.2) (by simpa using hB.1.1.1) (.inl ⟨hw,fun w _=>h1 w⟩) trivial h
end
end
def ints (zs:List Int):List Value:=zs.map (Value.int .i64)
theorem zBt (zs:List Int) (k:Nat) (u:Value) (h:(ints zs)[k]? =some u): ∃ hk:k<zs.length,u=.int .i64 zs[k]:=by
 unfold ints at h
 rw[wC0] at h
 obtain⟨z,hz,rfl⟩:=wC1.1 h
 obtain⟨hk,e⟩:=wC2.1 hz
 exact⟨hk,by rw[e]⟩
theorem zY (zs:List Int):(ints zs).length=zs.length:=by simp[ints]
theorem zGU {α:Type} (xs ys:List α) (k:Nat) (h1:k<xs.length) (h2:k<ys.length) :
 xs.take (k+1)=ys.take (k+1)↔xs.take k=ys.take k∧xs[k]=ys[k]:=by
 rw[wC3 h1,wC3 h2]
 constructor
 ·intro h
  have:=List.append_inj h (by simp;omega)
  exact⟨this.1,by simpa using this.2⟩
 ·rintro⟨a,b⟩;rw[a,b]
theorem eqInt_any (u v:Value) (xs ys:List Int) (w:World) (hu:SL w 1 u xs.length (ints xs)) (hv:SL w 1 v ys.length (ints ys)) :
 Calls Tryz.prog 26 #[u,v] w fun e w'=>e=.returned (.bool (decide (xs=ys)))∧w=w':=by
 have hu':=hu
 have hv':=hv
 obtain⟨A,c,rfl,hc1,hc2, -, -⟩:=hu'
 obtain⟨B,d,rfl,hd1,hd2, -, -⟩:=hv'
 by_cases hl:(xs.length:Int) !=ys.length
 ·go_enter Tryz.func26,Tryz.ntmps26
  go_wp2
  go_ret
  refine⟨?_,rfl⟩
  have:xs≠ys:=by rintro rfl;simp at hl
  simp[this]
 ·have h9:(xs.length:Int)=ys.length:=by simpa using hl
  have hl':xs.length=ys.length:=by omega
  clear h9
  have HL:=hl'
  have hn:((xs.length:Int) !=ys.length)=false:=by simpa using hl
  have HE:Hid (xs.length=ys.length):=HL
  clear hl HL
  go_enter Tryz.func26,Tryz.ntmps26
  clear hl'
  go_wp2
  go_loop [14] (fun i=> ∃ k:Nat,k≤xs.length∧i=.int .i64 k∧xs.take k=ys.take k) (fun i=>xs.length-(intOf i).toNat)
  case atStart=>exact⟨0,by omega,rfl,by simp⟩
  case round =>
   obtain⟨k,hk,rfl,ht⟩:=hrel
   have HT:Hid (xs.take k=ys.take k):=ht
   clear ht
   by_cases hlt:k<xs.length
   ·have hlt2:k<ys.length:=by have:=HE.out;omega
    obtain⟨ad,u,rfl, -,hx,hcell⟩:=hu.at1 hlt
    obtain⟨_,rfl⟩:=zBt _ _ _ hx
    obtain⟨bd,u,rfl, -,hy,hcell2⟩:=hv.at1 hlt2
    obtain⟨_,rfl⟩:=zBt _ _ _ hy
    clear hx hy
    by_cases hq:xs[k]=ys[k]
    ·have hq':((xs[k]:Int) !=ys[k])=false:=by simpa using hq
     have HQ:Hid (xs[k]=ys[k]):=hq
     clear hq
     go_wp2
     go_round
     case rel=>exact⟨k+1,by omega,by go_num,(zGU _ _ _ hlt hlt2).2 ⟨HT.out,HQ.out⟩⟩
     case measure=>simp[intOf];omega
    ·have hq':((xs[k]:Int) !=ys[k])=true:=by simpa using hq
     go_wp2
     go_ret
     refine⟨?_,rfl⟩
     have:xs≠ys:=by rintro rfl;exact hq rfl
     simp[this]
   ·go_wp2
    go_ret
    refine⟨?_,rfl⟩
    have e:xs=ys:=by
     have:=HT.out
     rwa [wC4 (by omega),wC4 (by have:=HE.out;omega)] at this
    simp[e]
section
variable {P:Program} (w:World)
theorem zIM (base:Nat) (t ty e:TypeId) (i:TypeInfo) (size:Nat) (ht:P.underlying t=some (.slice e)) (hi:P.info? e=some i)
 (v:Value) (n:Nat) (xs:List Value) (hown:w.ownsRow base e size v n xs) (c:Nat):(Builtin.append_ #[t,t] ty #[v,.slice none 0 c]).run P w=.ok v w:=by
 rcases hown.2 with ⟨rfl,rfl⟩ | ⟨g,cap,cur,rfl,_,_,hnc,_⟩
 ·simp[Builtin.append_,run_underlying ht,sizeOf,typeInfo,hi,Builtin.lenOf,Builtin.firstCells]
 ·simp[Builtin.append_,run_underlying ht,sizeOf,typeInfo,hi,Builtin.lenOf,Builtin.firstCells,hnc,storeCells]
theorem zMj (base:Nat) (t ty e:TypeId) (i:TypeInfo) (z:Value) (size bytes:Nat) (ht:P.underlying t=some (.slice e)) (hi:P.info? e=some i) (hz:i.zero=some z)
 (hsize:i.size=size) (hby:i.bytes=bytes) (hzs:z.cells.size=size) (hsz:0<size)
 (v:Value) (n:Nat) (xs:List Value) (hown:w.ownsRow base e size v n xs)
 (x:Value) (m:Nat) (news:List Value) (hr:SL w size x m news) (h1: ∀ u∈news,u.oneCell'=true)
 (h63:n+m≤maxLen) (hbytes:(n+m)*bytes≤140737488355328) (hbase:base≤w.heap.size) :
 ∃ v' w',(Builtin.append_ #[t,t] ty #[v,x]).run P w=.ok v' w'∧w'.ownsRow base e size v' (n+m) (xs++news)∧w.grownBy w' v.ownBlock ∧
  (v'.ownBlock=v.ownBlock∨v'.ownBlock=some w.heap.size):=by
 obtain⟨A,c,rfl, -, -,hl,hc⟩:=hr
 rcases A with _ | ad
 ·have hm:m=0:=by
   rcases wC5 m with h0 | h0
   ·exact h0
   ·obtain⟨ad,h,_⟩:=hc h0
    cases h
  subst hm
  have hn:news=[]:=wC6 (by simpa using hl)
  subst hn
  exact⟨v,w,zIM w base t ty e i size ht hi v n xs hown c,by simpa using hown,World.grownBy.refl w _,.inl rfl⟩
 ·have hcells: ∀ j u,news[j]? =some u→w.cell? (ad.add j)=some u:=by
   intro j u hu
   rcases wC5 m with h0 | h0
   ·subst h0
    have hn:news=[]:=wC6 (by simpa using hl)
    subst hn
    simp at hu
   ·obtain⟨ad',h,_,hcc⟩:=hc h0
    injection h with h
    subst h
    exact hcc j u hu
  obtain⟨v',w',hrun,h2,h3,_,h5⟩:=run_append_own_at (P:=P) w base t ty e i z size bytes ht hi hz hsize hby hzs hsz v n xs hown ad m c news hl hcells h1 h63 hbytes hbase
  exact⟨v',w',hrun,h2,h3,h5⟩
theorem zGo {o:Oper} {a:Act} {K:Act→World→Prop} {Q:Exit→Act→World→Prop} (s x:Operand) (t:TypeId)
 (ho:o.op=.call { callee:=.builtin .append,args:= #[s,x],argTypes:= #[t,t] })
 (base:Nat) (e:TypeId) (i:TypeInfo) (z:Value) (size bytes:Nat) (ht:P.underlying t=some (.slice e)) (hi:P.info? e=some i) (hz:i.zero=some z)
 (hsize:i.size=size) (hby:i.bytes=bytes) (hzs:z.cells.size=size) (hsz:0<size)
 (v:Value) (n:Nat) (xs:List Value) (hs:a.eval s=v) (hown:w.ownsRow base e size v n xs)
 (u:Value) (m:Nat) (news:List Value) (hx:a.eval x=u) (hr:SL w size u m news) (h1: ∀ u∈news,u.oneCell'=true)
 (h63:n+m≤maxLen) (hbytes:(n+m)*bytes≤140737488355328) (hbase:base≤w.heap.size)
 (h: ∀ v' w',w'.ownsRow base e size v' (n+m) (xs++news)→w.grownBy w' v.ownBlock→(v'.ownBlock=v.ownBlock∨v'.ownBlock=some w.heap.size)→K (a.put o.dst v') w'):o.wp P a w K Q:=by
 obtain⟨v',w',hrun,h2,h3,h4⟩:=zMj (P:=P) w base t o.type e i z size bytes ht hi hz hsize hby hzs hsz v n xs hown u m news hr h1 h63 hbytes hbase
 unfold Oper.wp execOp
 simp only[ho,resolve,invoke,builtin,Sem.run_bind,Sem.run_pure,Result.andThen_ok,wC7,wC8,wC9,hs,hx,hrun]
 exact h v' w' h2 h3 h4
structure Elt (P:Program) (t e:TypeId) (size bytes:Nat):Prop where
 ht:P.underlying t=some (.slice e)
 hi:(P.info? e).map (fun i=>(i.zero.map fun z=>z.cells.size,i.size,i.bytes))=some (some size,size,bytes)
 hsz:0<size
variable {w}
theorem zBS {ops:Array Oper} {rest:List Oper} {o:Oper} {a:Act} {Q:Exit→Act→World→Prop} {t e:TypeId} {size bytes:Nat} (he:Elt P t e size bytes) (hgd:o.guard=none) (s x:Operand)
 (ho:o.op=.call { callee:=.builtin .append,args:= #[s,x],argTypes:= #[t,t] })
 (base:Nat) (v:Value) (n:Nat) (xs:List Value) (hs:a.eval s=v) (hown:w.ownsRow base e size v n xs)
 (u:Value) (m:Nat) (news:List Value) (hx:a.eval x=u) (hr:SL w size u m news) (h1: ∀ u∈news,u.oneCell'=true)
 (h63:n+m≤9223372036854775807) (hbytes:(n+m)*bytes≤140737488355328) (hbase:base≤w.heap.size)
 (h: ∀ v' w',w'.ownsRow base e size v' (n+m) (xs++news)→Below base w w'→wpList P ops Q rest (a.put o.dst v') w'):wpList P ops Q (o::rest) a w:=by
 obtain⟨ht,hi,hsz⟩:=he
 cases hq:P.info? e with
 | none=>simp[hq] at hi
 | some i =>
   cases hzq:i.zero with
   | none=>simp[hq,hzq] at hi
   | some z =>
     have hi':z.cells.size=size∧i.size=size∧i.bytes=bytes:=by simpa [hq,hzq] using hi
     refine wpList_plain hgd fun _ hK=>zGo w s x t ho base e i z size bytes ht hq hzq hi'.2.1 hi'.2.2 hi'.1 hsz v n xs hs hown u m news hx hr h1 (by unfold maxLen;omega) hbytes hbase fun v' w' h2 h3 h4=>hK _ _ (h v' w' h2 ?_)
     exact (Below.refl base w).grown h3 hbase (fun k hk=>((hown.lt k hk).1))
theorem zAO {ops:Array Oper} {rest:List Oper} {o:Oper} {a:Act} {Q:Exit→Act→World→Prop} {t e:TypeId} {size bytes:Nat} (he:Elt P t e size bytes) (hgd:o.guard=none) (s x:Operand)
 (ho:o.op=.call { callee:=.builtin .append,args:= #[s,x],argTypes:= #[t,t] })
 (base:Nat) (v:Value) (n:Nat) (xs:List Value) (hs:a.eval s=v) (hown:w.ownsRow base e size v n xs)
 (u:Value) (m:Nat) (news:List Value) (hx:a.eval x=u) (hr:SL w size u m news) (h1: ∀ u∈news,u.oneCell'=true)
 (h63:n+m≤9223372036854775807) (hbytes:(n+m)*bytes≤140737488355328) (hbase:base≤w.heap.size)
 (h: ∀ v' w',w'.ownsRow base e size v' (n+m) (xs++news)→w.grownBy w' v.ownBlock→(v'.ownBlock=v.ownBlock∨v'.ownBlock=some w.heap.size)→wpList P ops Q rest (a.put o.dst v') w'):wpList P ops Q (o::rest) a w:=by
 obtain⟨ht,hi,hsz⟩:=he
 cases hq:P.info? e with
 | none=>simp[hq] at hi
 | some i =>
   cases hzq:i.zero with
   | none=>simp[hq,hzq] at hi
   | some z =>
     have hi':z.cells.size=size∧i.size=size∧i.bytes=bytes:=by simpa [hq,hzq] using hi
     refine wpList_plain hgd fun _ hK=>zGo w s x t ho base e i z size bytes ht hq hzq hi'.2.1 hi'.2.2 hi'.1 hsz v n xs hs hown u m news hx hr h1 (by unfold maxLen;omega) hbytes hbase fun v' w' h2 h3 h4=>hK _ _ (h v' w' h2 h3 h4)
theorem wApf {ops:Array Oper} {rest:List Oper} {o:Oper} {a:Act} {Q:Exit→Act→World→Prop} {t e:TypeId} {size bytes:Nat} (he:Elt P t e size bytes) (hgd:o.guard=none) (s x:Operand)
 (ho:o.op=.call { callee:=.builtin .append,args:= #[s,x],argTypes:= #[t,t] })
 (base:Nat) (v:Value) (n:Nat) (xs:List Value) (hs:a.eval s=v) (hown:w.ownsRow base e size v n xs)
 (u:Value) (m:Nat) (news:List Value) (hx:a.eval x=u) (hr:SL w size u m news) (h1: ∀ u∈news,u.oneCell'=true)
 (h63:n+m≤9223372036854775807) (hbytes:(n+m)*bytes≤140737488355328) (hbase:base≤w.heap.size)
 (h: ∀ A c w',w'.ownsRow base e size (.slice A (n+m) c) (n+m) (xs++news)→w.grownBy w' v.ownBlock→(A.map (·.block)=v.ownBlock∨A.map (·.block)=some w.heap.size)→wpList P ops Q rest (a.put o.dst (.slice A (n+m) c)) w'):wpList P ops Q (o::rest) a w :=
 zAO he hgd s x ho base v n xs hs hown u m news hx hr h1 h63 hbytes hbase fun v' w' h2 h3 h4=>by
  have h2':=h2.2
  rcases h2' with ⟨rfl,h0⟩ | ⟨g,cap,cur,rfl,_⟩
  ·have hz:n+m=0∨ ¬n+m=0:=by omega
   have hl:=h2.1
   rw[h0] at hl
   have h5:n+m=0:=by
    have:=he.hsz
    rcases wC5 (n+m) with h6 | h6
    ·exact h6
    ·have:=Nat.mul_pos h6 this
     simp at hl
     omega
   have key:=h none 0 w'
   rw[h5] at key
   rw[h5] at h2
   exact key h2 h3 (by simpa [Value.ownBlock] using h4)
  ·exact h _ _ w' h2 h3 (by simpa [Value.ownBlock] using h4)
end
theorem zFM {w:World} {base:Nat} {e:TypeId} {size n:Nat} {v:Value} {xs:List Value} (h:w.ownsRow base e size v n xs):SL w size v n xs:=by
 obtain⟨hl,hh⟩:=h
 rcases hh with ⟨rfl,rfl⟩ | ⟨g,cap,cur,rfl,hb,hg,hn,hm,hc,hx⟩
 ·have:xs=[]:=wC6 (by simpa using hl)
  subst this
  exact SL.nil w size
 ·refine⟨_,_,rfl,hn,by unfold maxLen at hm;omega,hl,fun _=>⟨_,rfl,Blk.lt (w:=w) (t:=e) (cs:=cur) hg,fun j u hu=> ?_⟩⟩
  have hj:j<xs.length:=(wC2.1 hu).1
  have e1:(⟨g,0,none⟩:Addr).add j=⟨g,j,none⟩:=by
   unfold Addr.add
   by_cases h0:j=0
   ·subst h0;rfl
   ·rw[if_neg h0];simp
  rw[e1,cell_of_row w g j cur e (0,0) hg, ←hu, ←hx,wD0 (by omega)]
  simp
theorem Ext.trans' {a w w':World} (h:Ext a w) (k:Below a.heap.size w w'):Ext a w':=Below.trans h k
theorem zKh (z:Int): ∀ u∈[Value.int .i64 z],u.oneCell'=true:=by
 intro u hu
 simp at hu
 subst hu
 rfl
theorem one_sl (w:World) (T:TypeId) (v:Value):SL (w.alloc (.cells #[v] T)) 1 (.slice (some ⟨w.heap.size,0,none⟩) 1 1) 1 [v]:=by
 have:=(Blk.new w T #[v]).sl (size:=1) (n:=1) (c:=1) rfl (by omega) (by omega)
 simpa using this
theorem zBN {w:World} {base:Nat} {e:TypeId} {size n:Nat} {v:Value} {xs:List Value} (h:w.ownsRow base e size v n xs): ∃ A c,v=.slice A n c∧SL w size (.slice A n c) n xs∧ ∀ ad,A=some ad→base≤ad.block:=by
 have hs:=zFM h
 obtain⟨hl,hh⟩:=h
 rcases hh with ⟨rfl,rfl⟩ | ⟨g,cap,cur,rfl,hb,hg,hn,hm,hc,hx⟩
 ·exact⟨none,0,rfl,hs,by intro ad h;cases h⟩
 ·exact⟨some ⟨g,0,none⟩,cap,rfl,hs,by intro ad h;injection h with h;subst h;exact hb⟩
structure Upd (S:Nat→Prop) (w w':World):Prop where
 os:w'.os=w.os
 tape:w'.tape=w.tape
 output:w'.output=w.output
 size:w.heap.size≤w'.heap.size
 block: ∀ b,b<w.heap.size→ ¬S b→w'.heap[b]? =w.heap[b]?
theorem Upd.refl (S:Nat→Prop) (w:World):Upd S w w:=⟨rfl,rfl,rfl,wA5 _,fun _ _ _=>rfl⟩
theorem Upd.trans {S S':Nat→Prop} {a b c:World} (h:Upd S a b) (k:Upd S' b c) (hS: ∀ x,S' x→S x∨a.heap.size≤x):Upd S a c :=
 ⟨k.os.trans h.os,k.tape.trans h.tape,k.output.trans h.output,wD1 h.size k.size,fun x hx hn=>by
  have h1:=h.size
  rw[k.block x (by omega) (fun h2=>(hS x h2).elim hn (by omega)),h.block x hx hn]⟩
theorem Upd.of_ext {S:Nat→Prop} {a b:World} (h:Ext a b):Upd S a b:=⟨h.os,h.tape,h.output,h.size,fun x hx _=>h.block x hx⟩
theorem Upd.below {S:Nat→Prop} {a b:World} {B:Nat} (h:Upd S a b) (hS: ∀ x,S x→B≤x) (hB:B≤a.heap.size):Below B a b :=
 ⟨h.os,h.tape,h.output,h.size,fun x hx=>h.block x (by omega) (fun h2=>by have:=hS x h2;omega)⟩
theorem Upd.setCell {S:Nat→Prop} {a b:World} (h:Upd S a b) {p:Addr} (hp:S p.block) (u:Value):Upd S a (b.setCell p u) :=
 ⟨h.os,h.tape,h.output,by simpa [World.setCell] using h.size,fun x hx hn=>(Below.heap_setCell b p u x (fun e=>hn (e ▸ hp))).trans (h.block x hx hn)⟩
theorem Upd.drew {S:Nat→Prop} {a b:World} (h:Upd S a b):Upd S a b.drew:=⟨h.os,h.tape,h.output,h.size,h.block⟩
theorem Upd.grown {S:Nat→Prop} {a w w':World} (h:Upd S a w) {row:Option Nat} (hg:w.grownBy w' row) (hr: ∀ b,row=some b→S b∨a.heap.size≤b):Upd S a w' :=
 ⟨hg.os.trans h.os,hg.tape.trans h.tape,hg.output.trans h.output,wD1 h.size hg.size,fun x hx hn=>by
  have h1:=h.size
  rw[hg.block x (by omega) (fun h2=>(hr x h2.symm).elim hn (by omega)),h.block x hx hn]⟩
theorem SL.upd {S:Nat→Prop} {w w':World} {size n c:Nat} {A:Option Addr} {xs:List Value} (h:SL w size (.slice A n c) n xs) (hu:Upd S w w') (hS: ∀ ad,A=some ad→ ¬S ad.block):SL w' size (.slice A n c) n xs:=by
 obtain⟨A',c',e,h1,h1',h2,h3⟩:=h
 injection e with e1 e2 e3
 subst e1 e3
 refine⟨A,c,rfl,h1,h1',h2,fun hn=> ?_⟩
 obtain⟨ad,ea,hlt,hc⟩:=h3 hn
 refine⟨ad,ea,wA1 hlt hu.size,fun j u hj=> ?_⟩
 rw[←hc j u hj]
 unfold World.cell?
 rw[yH,hu.block _ hlt (hS ad ea)]
theorem Upd.blk {S:Nat→Prop} {w w':World} {g:Nat} {T:TypeId} {cs:Array Value} (hu:Upd S w w') (h:Blk w g T cs) (hS: ¬S g):Blk w' g T cs:=(hu.block g h.lt hS).trans h
theorem Upd.ext {S:Nat→Prop} {a w w':World} (hu:Upd S w w') (h:Ext a w) (hS: ∀ x,S x→a.heap.size≤x):Ext a w' :=
 ⟨hu.os.trans h.os,hu.tape.trans h.tape,hu.output.trans h.output,wD1 h.size hu.size,fun x hx=>by
  have:=h.size
  rw[hu.block x (by omega) (fun h2=>by have:=hS x h2;omega),h.block x hx]⟩
theorem fold_set (l:List Value): ∀ (k:Nat) (a:Array Value),a.size=k+l.length→(l.zipIdx k).foldl (fun cs (p:Value×Nat)=>cs.setIfInBounds (0+p.2) p.1) a=(a.toList.take k++l).toArray:=by
 induction l with
 | nil =>
   intro k a h
   simp at h
   apply Array.ext'
   simp[wC4,h]
 | cons v l ih =>
   intro k a h
   rw[wD2,List.foldl_cons,ih (k+1) _ (by simp at h ⊢;omega)]
   apply Array.ext'
   simp only[wB2,wD3]
   have hk:k<a.toList.length:=by simp at h ⊢;omega
   rw[wD4,List.take_set_of_le (by omega),List.getElem?_set_self hk]
   simp
theorem fill_one (v:Value) (n:Nat) (a:Array Value) (hv:v.cells.size=n) (ha:a.size=n):Instr.fill (fun i=>some (i*n,n)) a [(0,v)]=some v.cells:=by
 have e:v.cells.zipIdx.foldl (fun cs (p:Value×Nat)=>cs.setIfInBounds (0+p.2) p.1) a=v.cells:=by
  have h:=fold_set v.cells.toList 0 a (by simp;omega)
  rw[←Array.foldl_toList]
  simpa using h
 simp only[wB2] at e
 have e2:Array.foldl (fun cs (x:Value×Nat)=>cs.setIfInBounds x.2 x.1) a v.cells.zipIdx 0 n=v.cells:=by
  have hn:n=v.cells.zipIdx.size:=by simp[hv]
  rw[hn]
  exact e
 simp[Instr.fill,hv,ha,e2]
theorem zKY {P:Program} {e:TypeId} {n:Nat} (v:Value) (hs:(P.info? e).map (·.size)=some n) (hz:((P.info? e).bind (·.zero)).isSome=true) (hv:v.cells.size=n) (h0:0<n) (h1:n≤16777216):P.builtSlice e 1 [(0,v)]=some v.cells:=by
 unfold Program.builtSlice
 cases hq:P.info? e with
 | none=>simp[hq] at hs
 | some i =>
   have hi:i.size=n:=by simpa [hq] using hs
   cases hzz:i.zero with
   | none=>simp[hq,hzz] at hz
   | some z =>
     simp only[hi,hzz,wD5]
     rw[if_neg (by omega)]
     exact fill_one v n _ hv (by simp)
theorem wLit1 {P:Program} {ops:Array Oper} {rest:List Oper} {o:Oper} {a:Act} {w:World} {Q:Exit→Act→World→Prop} (hg:o.guard=none) (t e:TypeId) (x:Operand) (ho:o.op=.buildSlice t 1 #[(0,x)]) (dst:Option Tmp) (hdst:o.dst=dst)
 (ht:P.underlying t=some (.slice e)) (n:Nat) (hs:(P.info? e).map (·.size)=some n) (hz:((P.info? e).bind (·.zero)).isSome=true) (v:Value) (hx:a.eval x=v) (hv:v.cells.size=n) (h0:0<n) (h1:n≤16777216)
 (h: ∀ w1 g,Blk w1 g e v.cells→Ext w w1→w.heap.size≤g→wpList P ops Q rest (a.put dst (.slice (some ⟨g,0,none⟩) 1 1)) w1):wpList P ops Q (o::rest) a w:=by
 refine Go.Great.wpList_buildSliceTo hg t e 1 #[(0,x)] ho _ rfl dst hdst ht v.cells ?_ (h _ _ (Blk.new w e _) ((Ext.refl w).alloc _) (wA5 _))
 simp only[wC7,wC8,wC9,hx]
 exact zKY v hs hz hv h0 h1
theorem yJ {w w':World} {base:Nat} {e:TypeId} {size n:Nat} {v:Value} {xs:List Value} (h:w.ownsRow base e size v n xs) (hb:Ext w w'):w'.ownsRow base e size v n xs:=by
 obtain⟨hl,hh⟩:=h
 refine⟨hl, ?_⟩
 rcases hh with ⟨rfl,rfl⟩ | ⟨g,cap,cur,rfl,h1,hg,h2⟩
 ·exact .inl ⟨rfl,rfl⟩
 ·exact .inr ⟨g,cap,cur,rfl,h1,(hb.block g (Blk.lt (w:=w) (t:=e) (cs:=cur) hg)).trans hg,h2⟩
theorem zAT (w:World) (base:Nat) (e:TypeId) (size:Nat):w.ownsRow base e size (.slice none 0 0) 0 []:=⟨by simp,.inl ⟨rfl,rfl⟩⟩
theorem qR (zs:List Int): ∀ u∈ints zs,u.oneCell'=true:=by
 intro u hu
 obtain⟨z, -,rfl⟩:=wD6.1 hu
 rfl
theorem uQ (xs ys:List Int):ints (xs++ys)=ints xs++ints ys:=by simp[ints]
theorem zBB (op:BinOp) (x y:Operand) (v w:Int) (W:World):(eqGuard op 3 x y (.int .i64 v) (.int .i64 w)).run Tryz.prog W=.ok () W:=by
 cases op<;>go_simp
theorem zFq (i d:Nat) (h:i<1000000000000) (hd:0<d) (W:World):(binOp .quo 3 (.int .i64 (i:Int)) (.int .i64 (d:Int))).run Tryz.prog W=.ok (.int .i64 ((i/d:Nat):Int)) W:=by
 have h0:(0:Int)≤(i:Int):=by omega
 have h1: ¬d=0:=by omega
 have h2:(i/d:Nat)≤i:=Nat.div_le_self _ _
 have h5: ∀ q:Nat,q≤i→IntKind.i64.wrap (q:Int)=(q:Int):=fun q hq=>IntWalk.i64_in _ (by omega)
 have h4:IntKind.i64.wrap ((i:Int)/(d:Int))=(i:Int)/(d:Int):=by rw[←Int.natCast_ediv];exact h5 _ h2
 have h3:(Int.tdiv (i:Int) (d:Int))=(i:Int)/(d:Int):=Int.tdiv_eq_ediv_of_nonneg h0
 go_simp
theorem zFZ (i d:Nat) (h:i<1000000000000) (hd:0<d) (W:World):(binOp .rem 3 (.int .i64 (i:Int)) (.int .i64 (d:Int))).run Tryz.prog W=.ok (.int .i64 ((i%d:Nat):Int)) W:=by
 have h0:(0:Int)≤(i:Int):=by omega
 have h1: ¬d=0:=by omega
 have h3:(Int.tmod (i:Int) (d:Int))=(i:Int)%(d:Int):=Int.tmod_eq_emod_of_nonneg h0
 go_simp
theorem zDG (i d k:Nat) (h:i*d=k) (hk:k<1000000000000) (W:World):(binOp .mul 3 (.int .i64 (i:Int)) (.int .i64 (d:Int))).run Tryz.prog W=.ok (.int .i64 (k:Int)) W:=by
 have h4:IntKind.i64.wrap ((i:Int)*(d:Int))=(k:Int):=by rw[←wD7,h];exact IntWalk.i64_in _ (by omega)
 go_simp
theorem zFw (i d:Nat) (h:i+d<1000000000000) (W:World):(binOp .add 3 (.int .i64 (i:Int)) (.int .i64 (d:Int))).run Tryz.prog W=.ok (.int .i64 ((i+d:Nat):Int)) W:=by
 have h4:IntKind.i64.wrap ((i:Int)+(d:Int))=((i+d:Nat):Int):=by rw[←Int.natCast_add];exact IntWalk.i64_in _ (by omega)
 go_simp
theorem zIr (i d:Nat) (h:i<1000000000000) (h2:d≤i) (W:World):(binOp .sub 3 (.int .i64 (i:Int)) (.int .i64 (d:Int))).run Tryz.prog W=.ok (.int .i64 ((i-d:Nat):Int)) W:=by
 have h4:IntKind.i64.wrap ((i:Int)-(d:Int))=((i-d:Nat):Int):=by rw[←Int.natCast_sub h2];exact IntWalk.i64_in _ (by omega)
 go_simp
section
variable {P:Program} {md:Region.Mode} {ops:Array Oper} {R:World→World→Prop} {Q:Exit→Act→World→Prop} {rest:List Oper} {o:Oper} {k:Nat} {listed:Array Bool} {a:Act} {wc:World}
theorem uN (hw:Region.wanted o (yielded ops a.tmps)=true) (op:BinOp) (t:TypeId) (x y:Operand) (t2:TypeId) (ho:o.op=.binOp op t x y t2) (vx vy:Value) (hx:a.eval x=vx) (hy:a.eval y=vy) (v:Value)
 (hg: ∀ w,(eqGuard op t x y vx vy).run P w=.ok () w) (hr: ∀ w,(binOp op t vx vy).run P w=.ok v w) (h:uU P md ops R Q rest (k+1) (listed.setIfInBounds k true) (a.put o.dst v) wc):uU P md ops R Q (o::rest) k listed a wc :=
 zE hw v (fun w=>by simp[execOp,ho,hx,hy,hg,hr]) h
end
def zAD (w:World) (p:Addr) (cs:List Value):Prop:= ∀ j v,cs[j]? =some v→w.cell? (p.add j)=some v
section
variable {P:Program}
theorem zEc (w:World) (p:Addr) (ty:TypeId) (cs:List Value) (d:TypeDesc) (hc:zAD w p cs) (hu:P.underlying ty=some d) (hd:d.isRow=true) (hi:(P.info? ty).map (·.size)=some cs.length) :
 (loadVar ty p).run P w=.ok (.agg cs.toArray) w:=by
 have hl:(loadCells p cs.length).run P w=.ok cs.toArray w:=run_loadCells_list (P:=P) w p cs hc
 cases hq:P.info? ty with
 | none=>simp[hq] at hi
 | some i =>
   have hs:i.size=cs.length:=by simpa [hq] using hi
   have hagg:(isAgg ty).run P w=.ok true w:=by
    unfold isAgg
    rw[Sem.run_bind,run_underlying hu w]
    cases d<;>simp_all
   simp[loadVar,Sem.run_bind,hagg,sizeOf,typeInfo,hq,hs,hl]
theorem yL {ops:Array Oper} {rest:List Oper} {op:Oper} {a:Act} {w:World} {Q:Exit→Act→World→Prop} (hw:Region.wanted op (yielded ops a.tmps)=true) (ty:TypeId) (x:Operand) (ho:op.op=.load ty x)
 (p:Addr) (hx:a.eval x=.pointer (some p)) (cs:List Value) (d:TypeDesc) (hc:zAD w p cs) (hu:P.underlying ty=some d) (hd:d.isRow=true) (hi:(P.info? ty).map (·.size)=some cs.length)
 (h:wpList P ops Q rest (a.put op.dst (.agg cs.toArray)) w):wpList P ops Q (op::rest) a w :=
 vM hw fun _ hK=>by
  unfold Oper.wp execOp
  simp only[ho,hx,Instr.loadAt,Instr.sureAddr,Sem.run_bind,Sem.run_pure,Result.andThen_ok,zEc w p ty cs d hc hu hd hi]
  exact hK _ _ h
theorem zIj {md:Region.Mode} {ops:Array Oper} {R:World→World→Prop} {Q:Exit→Act→World→Prop} {rest:List Oper} {o:Oper} {k:Nat} {listed:Array Bool} {a:Act} {wc:World} (hw:Region.wanted o (yielded ops a.tmps)=true) (ty:TypeId) (x:Operand) (ho:o.op=.load ty x)
 (p:Addr) (hx:a.eval x=.pointer (some p)) (cs:List Value) (d:TypeDesc) (hc: ∀ w,R wc w→zAD w p cs) (hu:P.underlying ty=some d) (hd:d.isRow=true) (hi:(P.info? ty).map (·.size)=some cs.length)
 (h:uU P md ops R Q rest (k+1) (listed.setIfInBounds k true) (a.put o.dst (.agg cs.toArray)) wc):uU P md ops R Q (o::rest) k listed a wc:=by
 refine yV hw _ (fun w hC=> ?_) h
 unfold execOp
 simp only[ho,hx,Instr.loadAt,Instr.sureAddr,Sem.run_bind,Sem.run_pure,Result.andThen_ok,zEc w p ty cs d (hc w hC) hu hd hi]
end
theorem SL.part {w:World} {sz n c:Nat} {A:Option Addr} {xs:List Value} (h:SL w sz (.slice A n c) n xs) {k:Nat} (hk:k<n): ∃ ad,A=some ad∧ad.block<w.heap.size∧zAD w (ad.add (k*sz)) ((xs.drop (k*sz)).take sz):=by
 obtain⟨A',c',he, -, -,hl,hf⟩:=h
 injection he with e1 e2 e3
 subst e1
 obtain⟨ad,rfl,hb,hcell⟩:=hf (by omega)
 refine⟨ad,rfl,hb,fun j v hv=> ?_⟩
 rw[zFl]
 have hj:j<sz:=by have:=(wC2.1 hv).1;simp at this;omega
 rw[wD0 hj,wB4] at hv
 exact hcell _ _ hv
def rp (n d:Int):Int:=(2*n+d)/(2*d)
def rnd (n d:Int):Int:=if n<0 then -(rp (-n) d) else rp n d
theorem zGd (n d:Int) (h0:0≤n) (hd:1≤d):0≤rp n d∧rp n d≤n+1:=by
 unfold rp
 constructor
 ·exact Int.ediv_nonneg (by omega) (by omega)
 ·have h1:(2*n+d)/(2*d)*(2*d)≤2*n+d:=Int.ediv_mul_le _ (by omega)
  generalize (2*n+d)/(2*d)=q at *
  refine Int.not_lt.1 fun hq=> ?_
  have h2:(n+2)*(2*d)≤q*(2*d):=wD8 (by omega) (by omega)
  have h3:n*2≤n*(2*d):=wD9 (by omega) h0
  rw[Int.add_mul] at h2
  omega
theorem zQa (n d:Int) (hd:1≤d): -(n.natAbs:Int)-1≤rnd n d∧rnd n d≤n.natAbs+1:=by
 unfold rnd
 split
 ·have:=zGd (-n) d (by omega) hd;omega
 ·have:=zGd n d (by omega) hd;omega
def qZ (n lo hi:Int):Int:=if n<lo then lo else if hi<n then hi else n
theorem zGS (n lo hi:Int) (h:lo≤hi):lo≤qZ n lo hi∧qZ n lo hi≤hi:=by
 unfold qZ;split<;>(try split)<;>omega
theorem min_max (n lo hi:Int) (h:lo≤hi):min (max n lo) hi=qZ n lo hi:=by
 unfold qZ;split<;>(try split)<;>omega
def inB (n lo hi:Int):Bool:=decide (lo≤n∧n≤hi)
theorem vF {n lo hi:Int}:inB n lo hi=true↔lo≤n∧n≤hi:=by simp[inB]
theorem zBa {n lo hi:Int}:inB n lo hi=false↔n<lo∨hi<n:=by rw[←wE0,vF];omega
def zN (zs:List Int) (lo hi:Int):Bool:=zs.all fun z=>inB z lo hi
theorem yD {zs:List Int} {lo hi:Int}:zN zs lo hi=true↔ ∀ z∈zs,lo≤z∧z≤hi:=by simp[zN,vF]
theorem zNS {zs:List Int} {lo hi:Int} {k:Nat} (hk:k<zs.length) (h:inB zs[k] lo hi=false):zN zs lo hi=false:=by
 rw[←wE0,yD]
 intro hh
 have:=vF.2 (hh _ (wE1 hk))
 rw[this] at h;cases h
theorem allIn_not {zs:List Int} {lo hi:Int}:(!zs.any fun z=>decide (z<lo) ||decide (hi<z))=zN zs lo hi:=by
 rw[wE2,yD]
 simp only[wE3,List.any_eq_false,wB9,wB3]
 exact⟨fun h z hz=>by have:=h z hz;omega,fun h z hz=>by have:=h z hz;omega⟩
theorem zCb {zs:List Int} {lo hi:Int}:(zs.any fun z=> !inB z lo hi)= !zN zs lo hi:=by
 simp[zN,List.all_eq_not_any_not]
theorem zFB:(Tryz.prog.info? 3).map (·.size)=some 1:=by kernel_rfl
def bv (zs:List Int):Array Value:=(ints zs).toArray
theorem zJ (zs:List Int):(bv zs).size=zs.length:=by simp[bv,zY]
theorem qG (zs:List Int) (k:Nat) (h:k<zs.length):(bv zs)[k]? =some (.int .i64 zs[k]):=by simp[bv,ints,h]
theorem xB (zs:List Int):(bv zs).all (·.oneCell')=true:=by
 simp only[bv,wE4]
 intro v hv
 simp only[List.mem_toArray,ints,wD6] at hv
 obtain⟨z, -,rfl⟩:=hv
 rfl
theorem vH (zs:List Int) (k:Nat) (z:Int):(bv zs).setIfInBounds k (.int .i64 z)=bv (zs.set k z):=by
 simp[bv,ints,List.map_set]
theorem Blk.bsl {w:World} {g:Nat} {T:TypeId} {zs:List Int} {c:Nat} (h:Blk w g T (bv zs)) (hc:zs.length≤c) (hc2:c≤9223372036854775807) :
 SL w 1 (.slice (some ⟨g,0,none⟩) zs.length c) zs.length (Go.Proofs.YtkggcjdlpendfaaGreatDoor.ints zs):=by
 have:=h.sl (size:=1) (n:=zs.length) (c:=c) (by simp[zJ]) hc hc2
 simpa [bv] using this
theorem zFh {zs:List Int} {lo hi:Int} {k:Nat} (h: ∀ z∈zs.take k,lo≤z∧z≤hi) (hk:k<zs.length) (hz:lo≤zs[k]∧zs[k]≤hi): ∀ z∈zs.take (k+1),lo≤z∧z≤hi:=by
 rw[wC3 hk]
 intro z hz'
 rcases wE5.1 hz' with h1 | h1
 ·exact h z h1
 ·simp at h1;subst h1;exact hz
end Go.Proofs.YtkggcjdlpendfaaGreatDoor
