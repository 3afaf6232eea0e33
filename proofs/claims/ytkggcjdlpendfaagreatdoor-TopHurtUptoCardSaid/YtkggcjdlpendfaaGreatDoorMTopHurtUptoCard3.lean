import Derived.Great.Walk
import Derived.IntWalk
import Derived.WideKeyPair
import Derived.Test.YtkggcjdlpendfaaGreatDoorMTopHurtUptoCard2
set_option linter.all false
set_option maxRecDepth 20000
set_option maxHeartbeats 8000000
namespace Go.Proofs.YtkggcjdlpendfaaGreatDoor
open Go.RowKit Tryz
section
variable {P:Program} {ops:Array Oper} {md:Region.Mode} {I:World→Prop}
def Fixed (P:Program) (ops:Array Oper) (I:World→Prop) (o:Oper) (v:Value) (a:Act):Prop :=
 (Region.wanted o (yielded ops a.tmps)=true∧∀w,I w→(execOp a.eval o).run P w=.ok (.value v) w)∨(Region.wanted o (yielded ops a.tmps)=false∧v=undef)
def Fixed.of_same {o:Oper} {v:Value} {a a':Act} (hy:Fixed P ops I o v a) (he:execOp a'.eval o=execOp a.eval o)
 (hw:Region.wanted o (yielded ops a'.tmps)=Region.wanted o (yielded ops a.tmps)):Fixed P ops I o v a':=by unfold Fixed at *;rw[he,hw];exact hy
def Fixed.wpOp {i:Nat} {o:Oper} {v:Value} {a:Act} {w:World} {Q:Exit→Act→World→Prop} (hi:ops[i]? =some o) (hy:Fixed P ops I o v a) (hw:I w)
 {K:Act→World→Prop} (h:K (a.put o.dst v) w):wpOp P ops Q i K a w:=by
 unfold Go.wpOp;simp only[hi];rcases hy with ⟨h1,h2⟩ | ⟨h1,rfl⟩
 ·simp only[h1,if_true];refine .inl ?_;unfold Oper.wp;rw[h2 w hw];exact h
 simp only[h1,wA6,if_false];exact h
def zJY {j:Nat} {oi oj:Oper} {v:Value} {Q:Exit→Act→World→Prop} (hj:ops[j]? =some oj) (hap:oi.apart ops oj=true)
 (hsi:∀cs b,oi.op≠.select cs b) (hsj:∀cs b,oj.op≠.select cs b)
 (hQ:∀c a w,Q (.panic c) (a.put oi.dst v) w→Q (.panic c) a w) {K:Act→World→Prop} {a:Act} {w:World}
 (hy:Fixed P ops I oi v a) (h:wpOp P ops Q j K (a.put oi.dst v) w) :
 wpOp P ops Q j (λa' w'=>Fixed P ops I oi v a'∧K (a'.put oi.dst v) w') a w:=by
 obtain⟨h1,h2,h3⟩:=Oper.apart_spec hap
 have keep:∀(a:Act),Fixed P ops I oi v a→∀u,Fixed P ops I oi v (a.put oj.dst u):=λa hy u =>
  hy.of_same (execOp_put oi hsi a oj.dst u h3) (wanted_put oi a oj.dst u h3)
 have keepD:∀d,Fixed P ops I oi v { a with defers:=d::a.defers }:=λd=>hy.of_same rfl rfl
 unfold wpOp at *;simp only[hj] at *;rw[wanted_put oj a oi.dst v h1] at h;split
 ·rename_i hw;simp only[hw,if_true] at h;rcases h with h | ⟨hasks,hlets⟩
  case inr=>exact .inr ⟨by unfold Oper.asks at *;rw[execOp_put oj hsj a oi.dst v h1] at hasks;exact hasks,hlets⟩
  refine .inl ?_;unfold Oper.wp at *;rw[execOp_put oj hsj a oi.dst v h1] at h;generalize (execOp a.eval oj).run P w=r at *
  cases r with
  | ok n w' =>
    cases n<;>simp only[Oper.upon] at h ⊢
    case value u=>exact⟨keep a hy u,by rw[←Act.put_comm a v u h2];exact h⟩
    case skip=>exact⟨keep a hy _,by rw[←Act.put_comm a v undef h2];exact h⟩
    case defer d =>
     refine⟨keep _ (keepD d) _, ?_⟩;rw[←Act.put_comm _ v undef h2, ←Act.put_defers];exact h
    case enter f args =>
     refine Calls.mono h λe w'' he=> ?_
     cases e with
     | returned u=>exact⟨keep a hy u,by rw[←Act.put_comm a v u h2];exact he⟩
     | panicked c=>exact hQ _ _ _ he
     | outgrown=>exact he
    case row row args=>exact Rows.mono h λu w'' he=>⟨keep a hy u,by rw[←Act.put_comm a v u h2];exact he⟩
  | halt x w' =>
    cases x<;>simp only[Oper.upon] at h ⊢
    case panic u=>exact hQ _ _ _ h
 rename_i hw;simp only[hw] at h;exact⟨keep a hy _,by rw[←Act.put_comm a v undef h2];exact h⟩
def uD (P:Program) (md:Region.Mode) (ops:Array Oper) (I:World→Prop) (QN:Act→World→Prop):Nat→Array Bool→Act→World→Prop
 | 0,listed,a,w=>Region.ready md ops listed=[]∧QN a w
 | f+1,listed,a,w=>(Region.ready md ops listed=[]→QN a w) ∧
   ∀i∈Region.ready md ops listed,wpOp P ops (xT QN) i (λa' w'=>I w'∧uD P md ops I QN f (listed.setIfInBounds i true) a' w') a w
variable {QN:Act→World→Prop}
def zMN:∀(f:Nat) (listed:Array Bool) (a:Act) (w:World),uD P md ops I QN f listed a w→wpAny P md ops (xT QN) f listed a w
 | 0,_,_,_,h=>⟨h.1,h.2⟩
 | f+1,_,_,_,h=>⟨λh0=>h.1 h0,λi hi=>wpOp_mono (λa' w' h'=>zMN f _ a' w' h'.2) (h.2 i hi)⟩
def zSS {i:Nat} {oi:Oper} {v:Value} (hi:ops[i]? =some oi) (hsel:∀(j:Nat) (o:Oper) cs b,ops[j]? =some o→o.op≠.select cs b) :
 ∀(fuel:Nat) (listed:Array Bool) (a:Act) (w:World),
  (∀j oj,ops[j]? =some oj→j≠i→listed.getD j true=false→(∀e∈oj.after,Region.binds md e=true→e.on≠i)→oi.apart ops oj=true) →
  i∈Region.ready md ops listed→Fixed P ops I oi v a→I w →
  uD P md ops I QN fuel (listed.setIfInBounds i true) (a.put oi.dst v) w→uD P md ops I QN (fuel+1) listed a w:=by
 intro fuel
 induction fuel with
 | zero =>
   intro listed a w _ hr hy hI H;refine⟨λh=>(by rw[h] at hr;cases hr),λj hj=> ?_⟩
   by_cases hji:j=i
   ·subst hji;exact hy.wpOp hi hI ⟨hI,H⟩
   have:=ready_mono hj hji;rw[H.1] at this;cases this
 | succ fuel ih =>
   intro listed a w hfree hr hy hI H;refine⟨λh=>(by rw[h] at hr;cases hr),λj hj=> ?_⟩
   by_cases hji:j=i
   ·subst hji;exact hy.wpOp hi hI ⟨hI,H⟩
   have h1:=H.2 j (ready_mono hj hji);obtain⟨hjun,oj,hoj,hall⟩:=mem_ready.1 hj
   have hnot:∀e∈oj.after,Region.binds md e=true→e.on≠i:=λe he hb heq=>by
    have h1:=hall e he hb;have h0:=(mem_ready.1 hr).1;rw[heq] at h1;rcases wA3 i listed.size with h' | h'
    ·simp[h'] at h0 h1;rw[h0] at h1;cases h1
    simp[wA4 h'] at h1
   have h2:=zJY hoj (hfree j oj hoj hji hjun hnot) (λcs b=>hsel i oi cs b hi) (λcs b=>hsel j oj cs b hoj) (λ_ _ _ h=>h) hy h1
   have hfree':∀k ok,ops[k]? =some ok→k≠i→(listed.setIfInBounds j true).getD k true=false →
    (∀e∈ok.after,Region.binds md e=true→e.on≠i)→oi.apart ops ok=true:=λk ok hk hki hun hno=>by
    refine hfree k ok hk hki ?_ hno
    by_cases hjk:j=k
    ·subst hjk;exact hjun
    rw[getD_set_ne true hjk] at hun;exact hun
   refine wpOp_mono (λa' w' h3=>⟨h3.2.1,ih (listed.setIfInBounds j true) a' w' hfree' (ready_mono hr (Ne.symm hji)) h3.1 h3.2.1 ?_⟩) h2;rw[wA7 _ _ hji];exact h3.2.2
def vK {i:Nat} {o:Oper} {K:Act→World→Prop} {Q:Exit→Act→World→Prop} {a:Act} {w:World} (ho:ops[i]? =some o) (h:wpList P ops (xT K) [o] a w):wpOp P ops Q i K a w:=by refine zIu (QN:=K) ?_;unfold wpOp;simp only[ho];exact h
def oi_loud0 {k f:Nat} {o:Oper} {listed:Array Bool} {a:Act} {w:World} (hone:Region.ready md ops listed=[k]) (ho:ops[k]? =some o)
 (h:wpList P ops (xT λa' w'=>I w'∧uD P md ops I QN f (listed.setIfInBounds k true) a' w') [o] a w):uD P md ops I QN (f+1) listed a w :=
 ⟨λh0=>(by rw[h0] at hone;cases hone),λi hi=>by
  rw[hone] at hi;have hik:i=k:=by simpa using hi
  subst hik
  exact vK ho h⟩
def oi_two0 {k l f:Nat} {o o2:Oper} {listed:Array Bool} {a:Act} {w:World} (hone:Region.ready md ops listed=[k,l]) (ho:ops[k]? =some o) (ho2:ops[l]? =some o2)
 (h:wpList P ops (xT λa' w'=>I w'∧uD P md ops I QN f (listed.setIfInBounds k true) a' w') [o] a w)
 (h2:wpList P ops (xT λa' w'=>I w'∧uD P md ops I QN f (listed.setIfInBounds l true) a' w') [o2] a w):uD P md ops I QN (f+1) listed a w :=
 ⟨λh0=>(by rw[h0] at hone;cases hone),λi hi=>by
  rw[hone] at hi;have hik:i=k∨i=l:=by simpa using hi
  rcases hik with rfl | rfl
  ·exact vK ho h
  ·exact vK ho2 h2⟩
def oi_fix0 {k f:Nat} {o:Oper} {listed:Array Bool} {a:Act} {w:World} (hB:((Region.ready md ops listed).contains k&&Region.free md ops listed k&&Region.noSelect ops)=true) (ho:ops[k]? =some o)
 (hw:Region.wanted o (yielded ops a.tmps)=true) (v:Value) (h1:∀w,I w→(execOp a.eval o).run P w=.ok (.value v) w) (hI:I w)
 (h:uD P md ops I QN f (listed.setIfInBounds k true) (a.put o.dst v) w):uD P md ops I QN (f+1) listed a w:=by simp only[wA9] at hB;exact zSS ho (Region.noSelect_spec hB.2) f listed a w (Region.free_spec ho hB.1.2) (by simpa using hB.1.1) (.inl ⟨hw,h1⟩) hI h
section
variable {l0:List Oper}
def xE {k f:Nat} {o:Oper} {listed:Array Bool} {a:Act} {w:World} (hB:((Region.ready md l0.toArray listed).contains k&&Region.free md l0.toArray listed k&&Region.noSelect l0.toArray)=true) (ho:l0[k]? =some o)
 (hw:Region.wanted o (yielded l0.toArray a.tmps)=true) (v:Value) (h1:∀w,I w→(execOp a.eval o).run P w=.ok (.value v) w) (hI:I w)
 (h:uD P md l0.toArray I QN f (listed.setIfInBounds k true) (a.put o.dst v) w):uD P md l0.toArray I QN (f+1) listed a w:=oi_fix0 hB (by simpa using ho) hw v h1 hI h
def zG {k f:Nat} {o:Oper} {listed:Array Bool} {a:Act} {w:World} (hB:((Region.ready md l0.toArray listed).contains k&&Region.free md l0.toArray listed k&&Region.noSelect l0.toArray)=true) (ho:l0[k]? =some o)
 (hw:Region.wanted o (yielded l0.toArray a.tmps)=true) (v:Value) (h1:∀w,(execOp a.eval o).run P w=.ok (.value v) w) (hI:I w)
 (h:uD P md l0.toArray I QN f (listed.setIfInBounds k true) (a.put o.dst v) w):uD P md l0.toArray I QN (f+1) listed a w:=xE hB ho hw v (λw _=>h1 w) hI h
def qI {k f:Nat} {o:Oper} {listed:Array Bool} {a:Act} {w:World} (hone:Region.ready md l0.toArray listed=[k]) (ho:l0[k]? =some o)
 (h:wpList P l0.toArray (xT λa' w'=>I w'∧uD P md l0.toArray I QN f (listed.setIfInBounds k true) a' w') [o] a w):uD P md l0.toArray I QN (f+1) listed a w:=oi_loud0 hone (by simpa using ho) h
def oi_two {k l f:Nat} {o o2:Oper} {listed:Array Bool} {a:Act} {w:World} (hone:Region.ready md l0.toArray listed=[k,l]) (ho:l0[k]? =some o) (ho2:l0[l]? =some o2)
 (h:wpList P l0.toArray (xT λa' w'=>I w'∧uD P md l0.toArray I QN f (listed.setIfInBounds k true) a' w') [o] a w)
 (h2:wpList P l0.toArray (xT λa' w'=>I w'∧uD P md l0.toArray I QN f (listed.setIfInBounds l true) a' w') [o2] a w):uD P md l0.toArray I QN (f+1) listed a w:=oi_two0 hone (by simpa using ho) (by simpa using ho2) h h2
end
def qR (I:World→Prop) {id:Nat} {a:Act} {w:World} {l:List Oper} {Q:Exit→Act→World→Prop} (hm:P.follows .mixedOrders=true)
 (h:uD P .any l.toArray I (λa w=>Q .normal a w) l.length (Array.replicate l.length false) a w.drew):(Code.region id l.toArray true).wp P Q a w:=by refine Code.wp_mono (Q:=xT (λa w=>Q .normal a w)) (λe a w h=> ?_) (wp_region_any hm (zMN _ _ _ _ (by simpa using h)));cases e<;>first | exact h | exact (h:False).elim
def uA {listed:Array Bool} {a:Act} {w:World} (hone:Region.ready md ops listed=[]) (h:QN a w):uD P md ops I QN 0 listed a w:=⟨hone,h⟩
end
section
variable {P:Program} {ops:Array Oper} {md:Region.Mode} {F:Nat→Bool} {I:World→Prop}
def jP (P:Program) (md:Region.Mode) (ops:Array Oper) (F:Nat→Bool) (I:World→Prop) (QN:Act→World→Prop):Nat→Array Bool→Act→World→Prop
 | 0,listed,a,w=>Region.ready md ops listed=[]∧QN a w
 | f+1,listed,a,w=>(Region.ready md ops listed=[]→QN a w) ∧
   ∀i∈Region.ready md ops listed,wpOp P ops (xT QN) i (λa' w'=>(F i=true→I w')∧jP P md ops F I QN f (listed.setIfInBounds i true) a' w') a w
variable {QN:Act→World→Prop}
def zJP (md:Region.Mode) (ops:Array Oper) (F:Nat→Bool) (k:Nat):Bool :=
 (List.range ops.size).all λj=>F j ||match ops[j]? with | some oj=>oj.after.any (λe=>Region.binds md e&&e.on ==k) | none=>true
def zSz {k:Nat} (h:zJP md ops F k=true):∀j oj,ops[j]? =some oj→F j=false→∃e∈oj.after,Region.binds md e=true∧e.on=k:=by intro j oj hj hF;unfold zJP at h;rw[wI3] at h;have hjs:j<ops.size:=(wI9.1 hj).1;have:=h j (wF2.2 hjs);rw[hF,hj,Bool.false_or] at this;simp only[Array.any_eq_true] at this;obtain⟨x,hx,h2⟩:=this;simp only[wA9,beq_iff_eq] at h2;exact⟨oj.after[x],Array.getElem_mem hx,h2.1,h2.2⟩
def zMZ:∀(f:Nat) (listed:Array Bool) (a:Act) (w:World),jP P md ops F I QN f listed a w→wpAny P md ops (xT QN) f listed a w
 | 0,_,_,_,h=>⟨h.1,h.2⟩
 | f+1,_,_,_,h=>⟨λh0=>h.1 h0,λi hi=>wpOp_mono (λa' w' h'=>zMZ f _ a' w' h'.2) (h.2 i hi)⟩
def zQq {i:Nat} {oi:Oper} {v:Value} (hF:∀j oj,ops[j]? =some oj→F j=false→∃e∈oj.after,Region.binds md e=true∧e.on=i) (hi:ops[i]? =some oi) (hsel:∀(j:Nat) (o:Oper) cs b,ops[j]? =some o→o.op≠.select cs b) :
 ∀(fuel:Nat) (listed:Array Bool) (a:Act) (w:World),
  (∀j oj,ops[j]? =some oj→j≠i→listed.getD j true=false→(∀e∈oj.after,Region.binds md e=true→e.on≠i)→oi.apart ops oj=true) →
  i∈Region.ready md ops listed→Fixed P ops I oi v a→I w →
  jP P md ops F I QN fuel (listed.setIfInBounds i true) (a.put oi.dst v) w→jP P md ops F I QN (fuel+1) listed a w:=by
 intro fuel
 induction fuel with
 | zero =>
   intro listed a w _ hr hy hI H;refine⟨λh=>(by rw[h] at hr;cases hr),λj hj=> ?_⟩
   by_cases hji:j=i
   ·subst hji;exact hy.wpOp hi hI ⟨λ_=>hI,H⟩
   have:=ready_mono hj hji;rw[H.1] at this;cases this
 | succ fuel ih =>
   intro listed a w hfree hr hy hI H;refine⟨λh=>(by rw[h] at hr;cases hr),λj hj=> ?_⟩
   by_cases hji:j=i
   ·subst hji;exact hy.wpOp hi hI ⟨λ_=>hI,H⟩
   have h1:=H.2 j (ready_mono hj hji);obtain⟨hjun,oj,hoj,hall⟩:=mem_ready.1 hj
   have hnot:∀e∈oj.after,Region.binds md e=true→e.on≠i:=λe he hb heq=>by
    have h1:=hall e he hb;have h0:=(mem_ready.1 hr).1;rw[heq] at h1;rcases wA3 i listed.size with h' | h'
    ·simp[h'] at h0 h1;rw[h0] at h1;cases h1
    simp[wA4 h'] at h1
   have hFj:F j=true:=by
    cases hq:F j with
    | true=>rfl
    | false =>
      obtain⟨e,he,hb,heq⟩:=hF j oj hoj hq;exact absurd heq (hnot e he hb)
   have h2:=zJY hoj (hfree j oj hoj hji hjun hnot) (λcs b=>hsel i oi cs b hi) (λcs b=>hsel j oj cs b hoj) (λ_ _ _ h=>h) hy h1
   have hfree':∀k ok,ops[k]? =some ok→k≠i→(listed.setIfInBounds j true).getD k true=false →
    (∀e∈ok.after,Region.binds md e=true→e.on≠i)→oi.apart ops ok=true:=λk ok hk hki hun hno=>by
    refine hfree k ok hk hki ?_ hno
    by_cases hjk:j=k
    ·subst hjk;exact hjun
    rw[getD_set_ne true hjk] at hun;exact hun
   refine wpOp_mono (λa' w' h3=>⟨h3.2.1,ih (listed.setIfInBounds j true) a' w' hfree' (ready_mono hr (Ne.symm hji)) h3.1 (h3.2.1 hFj) ?_⟩) h2;rw[wA7 _ _ hji];exact h3.2.2
def of_loud0 {k f:Nat} {o:Oper} {listed:Array Bool} {a:Act} {w:World} (hone:Region.ready md ops listed=[k]) (ho:ops[k]? =some o)
 (h:wpList P ops (xT λa' w'=>(F k=true→I w')∧jP P md ops F I QN f (listed.setIfInBounds k true) a' w') [o] a w):jP P md ops F I QN (f+1) listed a w :=
 ⟨λh0=>(by rw[h0] at hone;cases hone),λi hi=>by
  rw[hone] at hi;have hik:i=k:=by simpa using hi
  subst hik
  exact vK ho h⟩
def of_two0 {k l f:Nat} {o o2:Oper} {listed:Array Bool} {a:Act} {w:World} (hone:Region.ready md ops listed=[k,l]) (ho:ops[k]? =some o) (ho2:ops[l]? =some o2)
 (h:wpList P ops (xT λa' w'=>(F k=true→I w')∧jP P md ops F I QN f (listed.setIfInBounds k true) a' w') [o] a w)
 (h2:wpList P ops (xT λa' w'=>(F l=true→I w')∧jP P md ops F I QN f (listed.setIfInBounds l true) a' w') [o2] a w):jP P md ops F I QN (f+1) listed a w :=
 ⟨λh0=>(by rw[h0] at hone;cases hone),λi hi=>by
  rw[hone] at hi;have hik:i=k∨i=l:=by simpa using hi
  rcases hik with rfl | rfl
  ·exact vK ho h
  ·exact vK ho2 h2⟩
def of_fix0 {k f:Nat} {o:Oper} {listed:Array Bool} {a:Act} {w:World} (hB:((Region.ready md ops listed).contains k&&Region.free md ops listed k&&Region.noSelect ops&&zJP md ops F k)=true) (ho:ops[k]? =some o)
 (hw:Region.wanted o (yielded ops a.tmps)=true) (v:Value) (h1:∀w,I w→(execOp a.eval o).run P w=.ok (.value v) w) (hI:I w)
 (h:jP P md ops F I QN f (listed.setIfInBounds k true) (a.put o.dst v) w):jP P md ops F I QN (f+1) listed a w:=by simp only[wA9] at hB;exact zQq (zSz hB.2) ho (Region.noSelect_spec hB.1.2) f listed a w (Region.free_spec ho hB.1.1.2) (by simpa using hB.1.1.1) (.inl ⟨hw,h1⟩) hI h
section
variable {l0:List Oper}
def of_fix {k f:Nat} {o:Oper} {listed:Array Bool} {a:Act} {w:World} (hB:((Region.ready md l0.toArray listed).contains k&&Region.free md l0.toArray listed k&&Region.noSelect l0.toArray&&zJP md l0.toArray F k)=true) (ho:l0[k]? =some o)
 (hw:Region.wanted o (yielded l0.toArray a.tmps)=true) (v:Value) (h1:∀w,I w→(execOp a.eval o).run P w=.ok (.value v) w) (hI:I w)
 (h:jP P md l0.toArray F I QN f (listed.setIfInBounds k true) (a.put o.dst v) w):jP P md l0.toArray F I QN (f+1) listed a w:=of_fix0 hB (by simpa using ho) hw v h1 hI h
def of_run {k f:Nat} {o:Oper} {listed:Array Bool} {a:Act} {w:World} (hB:((Region.ready md l0.toArray listed).contains k&&Region.free md l0.toArray listed k&&Region.noSelect l0.toArray&&zJP md l0.toArray F k)=true) (ho:l0[k]? =some o)
 (hw:Region.wanted o (yielded l0.toArray a.tmps)=true) (v:Value) (h1:∀w,(execOp a.eval o).run P w=.ok (.value v) w) (hI:I w)
 (h:jP P md l0.toArray F I QN f (listed.setIfInBounds k true) (a.put o.dst v) w):jP P md l0.toArray F I QN (f+1) listed a w:=of_fix hB ho hw v (λw _=>h1 w) hI h
def xZ {k f:Nat} {o:Oper} {listed:Array Bool} {a:Act} {w:World} (hone:Region.ready md l0.toArray listed=[k]) (ho:l0[k]? =some o)
 (h:wpList P l0.toArray (xT λa' w'=>(F k=true→I w')∧jP P md l0.toArray F I QN f (listed.setIfInBounds k true) a' w') [o] a w):jP P md l0.toArray F I QN (f+1) listed a w:=of_loud0 hone (by simpa using ho) h
def zNJ {k l f:Nat} {o o2:Oper} {listed:Array Bool} {a:Act} {w:World} (hone:Region.ready md l0.toArray listed=[k,l]) (ho:l0[k]? =some o) (ho2:l0[l]? =some o2)
 (h:wpList P l0.toArray (xT λa' w'=>(F k=true→I w')∧jP P md l0.toArray F I QN f (listed.setIfInBounds k true) a' w') [o] a w)
 (h2:wpList P l0.toArray (xT λa' w'=>(F l=true→I w')∧jP P md l0.toArray F I QN f (listed.setIfInBounds l true) a' w') [o2] a w):jP P md l0.toArray F I QN (f+1) listed a w:=of_two0 hone (by simpa using ho) (by simpa using ho2) h h2
end
def vI (F:Nat→Bool) (I:World→Prop) {id:Nat} {a:Act} {w:World} {l:List Oper} {Q:Exit→Act→World→Prop} (hm:P.follows .mixedOrders=true)
 (h:jP P .any l.toArray F I (λa w=>Q .normal a w) l.length (Array.replicate l.length false) a w.drew):(Code.region id l.toArray true).wp P Q a w:=by refine Code.wp_mono (Q:=xT (λa w=>Q .normal a w)) (λe a w h=> ?_) (wp_region_any hm (zMZ _ _ _ _ (by simpa using h)));cases e<;>first | exact h | exact (h:False).elim
def zAK {listed:Array Bool} {a:Act} {w:World} (hone:Region.ready md ops listed=[]) (h:QN a w):jP P md ops F I QN 0 listed a w:=⟨hone,h⟩
end
section
variable {P:Program} {ops:Array Oper} {md:Region.Mode} {F:Nat→Bool} {I:World→Prop} {QN:Act→World→Prop}
def zKC {J:World→Prop} {i:Nat} {oi:Oper} {v:Value} (Wt:Nat→Bool) (hWt:∀j oj,ops[j]? =some oj→Wt j=true→∃e∈oj.after,Region.binds md e=true∧(e.on=i∨Wt e.on=true)) (hi:ops[i]? =some oi) (hsel:∀(j:Nat) (o:Oper) cs b,ops[j]? =some o→o.op≠.select cs b) :
 ∀(fuel:Nat) (listed:Array Bool) (a:Act) (w:World),
  (∀j,Wt j=true→listed.getD j true=false) →
  (∀w,J w→F i=true→I w)→(∀w,(∀j oj,ops[j]? =some oj→listed.getD j true=false→j≠i→Wt j=true∨∀w',(F j=true→I w')→J w→J w')) →
  (∀j oj,ops[j]? =some oj→j≠i→listed.getD j true=false→(∀e∈oj.after,Region.binds md e=true→e.on≠i)→oi.apart ops oj=true) →
  i∈Region.ready md ops listed→Fixed P ops J oi v a→J w →
  jP P md ops F I QN fuel (listed.setIfInBounds i true) (a.put oi.dst v) w→jP P md ops F I QN (fuel+1) listed a w:=by
 intro fuel
 induction fuel with
 | zero =>
   intro listed a w hL hJI _ _ hr hy hI H;refine⟨λh=>(by rw[h] at hr;cases hr),λj hj=> ?_⟩
   by_cases hji:j=i
   ·subst hji;exact hy.wpOp hi hI ⟨hJI w hI,H⟩
   have:=ready_mono hj hji;rw[H.1] at this;cases this
 | succ fuel ih =>
   intro listed a w hL hJI hK hfree hr hy hI H;refine⟨λh=>(by rw[h] at hr;cases hr),λj hj=> ?_⟩
   by_cases hji:j=i
   ·subst hji;exact hy.wpOp hi hI ⟨hJI w hI,H⟩
   have h1:=H.2 j (ready_mono hj hji);obtain⟨hjun,oj,hoj,hall⟩:=mem_ready.1 hj
   have hnot:∀e∈oj.after,Region.binds md e=true→e.on≠i:=λe he hb heq=>by
    have h1:=hall e he hb;have h0:=(mem_ready.1 hr).1;rw[heq] at h1;rcases wA3 i listed.size with h' | h'
    ·simp[h'] at h0 h1;rw[h0] at h1;cases h1
    simp[wA4 h'] at h1
   have hjW:Wt j≠true:=λhW=>by
    obtain⟨e,he,hb,h⟩:=hWt j oj hoj hW;rcases h with heq | h
    ·exact hnot e he hb heq
    have h1:=hall e he hb;have h2:=hL e.on h;rcases wA3 e.on listed.size with h' | h'
    ·simp[h'] at h1 h2;rw[h2] at h1;cases h1
    simp[wA4 h'] at h2
   have hstep:∀w',(F j=true→I w')→J w→J w':=by
    rcases hK w j oj hoj hjun hji with h | h
    ·exact absurd h hjW
    exact h
   have h2:=zJY hoj (hfree j oj hoj hji hjun hnot) (λcs b=>hsel i oi cs b hi) (λcs b=>hsel j oj cs b hoj) (λ_ _ _ h=>h) hy h1
   have hun':∀k,(listed.setIfInBounds j true).getD k true=false→listed.getD k true=false:=λk hun=>by
    by_cases hjk:j=k
    ·subst hjk;exact hjun
    rwa [getD_set_ne true hjk] at hun
   have hfree':∀k ok,ops[k]? =some ok→k≠i→(listed.setIfInBounds j true).getD k true=false →
    (∀e∈ok.after,Region.binds md e=true→e.on≠i)→oi.apart ops ok=true:=λk ok hk hki hun hno=>hfree k ok hk hki (hun' k hun) hno
   refine wpOp_mono (λa' w' h3=>⟨h3.2.1,ih (listed.setIfInBounds j true) a' w' (λk hk=>by
    have hkj:j≠k:=λh=>hjW (h ▸ hk)
    rw[getD_set_ne true hkj];exact hL k hk) hJI (λw2 k ok hk hun hki=>hK w2 k ok hk (hun' k hun) hki) hfree' (ready_mono hr (Ne.symm hji)) h3.1 (hstep w' h3.2.1 hI) ?_⟩) h2
   rw[wA7 _ _ hji];exact h3.2.2
def zKP (md:Region.Mode) (ops:Array Oper) (k:Nat):List Nat :=
 (List.range ops.size).foldl (λL j=>match ops[j]? with | some oj=>if oj.after.any (λe=>Region.binds md e&&(e.on ==k ||L.contains e.on)) then j::L else L | none=>L) []
def zKY (md:Region.Mode) (ops:Array Oper) (listed:Array Bool) (k:Nat) (L:List Nat):Bool :=
 L.all λj=> !(listed.getD j true)&&match ops[j]? with | some oj=>oj.after.any (λe=>Region.binds md e&&(e.on ==k ||L.contains e.on)) | none=>false
def zNQ (md:Region.Mode) (ops:Array Oper) (F:Nat→Bool) (listed:Array Bool) (k:Nat):Bool :=
 zKY md ops listed k (zKP md ops k)&&(List.range ops.size).all λj=>F j ||listed.getD j true ||j ==k ||(zKP md ops k).contains j
def zJz {listed:Array Bool} {k:Nat} {L:List Nat} (h:zKY md ops listed k L=true):(∀j oj,ops[j]? =some oj→L.contains j=true→∃e∈oj.after,Region.binds md e=true∧(e.on=k∨L.contains e.on=true))∧∀j,L.contains j=true→listed.getD j true=false:=by
 unfold zKY at h;rw[wI3] at h;refine⟨λj oj hj hc=> ?_,λj hc=> ?_⟩
 ·have:=h j (by simpa using hc);rw[hj] at this;simp only[wA9,Array.any_eq_true] at this;obtain⟨-,x,hx,h2⟩:=this;simp only[wD0,beq_iff_eq] at h2;exact⟨oj.after[x],Array.getElem_mem hx,h2.1,h2.2⟩
 have:=h j (by simpa using hc);rw[wA9] at this;simpa using this.1
def zTM {listed:Array Bool} {k:Nat} (h:zNQ md ops F listed k=true):∀j oj,ops[j]? =some oj→listed.getD j true=false→j≠k→F j=false→(zKP md ops k).contains j=true:=by intro j oj hj hl hjk hF;unfold zNQ at h;rw[wA9,wI3] at h;have hjs:j<ops.size:=(wI9.1 hj).1;have:=h.2 j (wF2.2 hjs);rw[hF,hl,Bool.false_or,Bool.false_or,show (j ==k)=false by simpa using hjk,Bool.false_or] at this;exact this
section
variable {l0:List Oper}
def vR {k f:Nat} {o:Oper} {listed:Array Bool} {a:Act} {w:World} (hB:((Region.ready md l0.toArray listed).contains k&&Region.free md l0.toArray listed k&&Region.noSelect l0.toArray&&zNQ md l0.toArray F listed k)=true) (ho:l0[k]? =some o)
 (hw:Region.wanted o (yielded l0.toArray a.tmps)=true) (v:Value) (h1:∀w,I w→(execOp a.eval o).run P w=.ok (.value v) w) (hI:I w)
 (h:jP P md l0.toArray F I QN f (listed.setIfInBounds k true) (a.put o.dst v) w):jP P md l0.toArray F I QN (f+1) listed a w:=by
 simp only[wA9] at hB
 have hR:zKY md l0.toArray listed k (zKP md l0.toArray k)=true:=by
  have:=hB.2;unfold zNQ at this;rw[wA9] at this;exact this.1
 have hK:∀w j oj,l0.toArray[j]? =some oj→listed.getD j true=false→j≠k→(zKP md l0.toArray k).contains j=true∨∀w',(F j=true→I w')→I w→I w':=λw j oj hj hl hjk=>by
  cases hF:F j with
  | true=>exact .inr λw' h _=>h rfl
  | false=>exact .inl (zTM hB.2 j oj hj hl hjk hF)
 have ho':l0.toArray[k]? =some o:=by simpa using ho
 exact zKC (J:=I) (λj=>(zKP md l0.toArray k).contains j) (zJz hR).1 ho' (Region.noSelect_spec hB.1.2) f listed a w (zJz hR).2 (λ_ h _=>h) hK (Region.free_spec ho' hB.1.1.2) (by simpa using hB.1.1.1) (.inl ⟨hw,h1⟩) hI h
def zI {k f:Nat} {o:Oper} {listed:Array Bool} {a:Act} {w:World} (hB:((Region.ready md l0.toArray listed).contains k&&Region.free md l0.toArray listed k&&Region.noSelect l0.toArray&& !F k)=true) (ho:l0[k]? =some o)
 (hw:Region.wanted o (yielded l0.toArray a.tmps)=true) (v:Value) (h1:∀w,(execOp a.eval o).run P w=.ok (.value v) w)
 (h:jP P md l0.toArray F I QN f (listed.setIfInBounds k true) (a.put o.dst v) w):jP P md l0.toArray F I QN (f+1) listed a w:=by
 simp only[wA9] at hB;have hF:F k=false:=by simpa using hB.2
 have ho':l0.toArray[k]? =some o:=by simpa using ho
 exact zKC (J:=λ_=>True) (λ_=>false) (λ_ _ _ h=>by cases h) ho' (Region.noSelect_spec hB.1.2) f listed a w (λ_ h=>by cases h) (λ_ _ h=>by rw[hF] at h;cases h) (λ_ _ _ _ _ _=>.inr λ_ _ _=>trivial) (Region.free_spec ho' hB.1.1.2) (by simpa using hB.1.1.1) (.inl ⟨hw,λw _=>h1 w⟩) trivial h
end
end
structure Upd (S:Nat→Prop) (w w':World):Prop where
 os:w'.os=w.os
 tape:w'.tape=w.tape
 output:w'.output=w.output
 size:w.heap.size≤w'.heap.size
 block:∀b,b<w.heap.size→¬S b→w'.heap[b]? =w.heap[b]?
def Upd.refl (S:Nat→Prop) (w:World):Upd S w w:=⟨rfl,rfl,rfl,wA5 _,λ_ _ _=>rfl⟩
def Upd.trans {S S':Nat→Prop} {a b c:World} (h:Upd S a b) (k:Upd S' b c) (hS:∀x,S' x→S x∨a.heap.size≤x):Upd S a c :=
 ⟨k.os.trans h.os,k.tape.trans h.tape,k.output.trans h.output,wJ1 h.size k.size,λx hx hn=>by
  have h1:=h.size
  rw[k.block x (by omega) (λh2=>(hS x h2).elim hn (by omega)),h.block x hx hn]⟩
def Upd.of_ext {S:Nat→Prop} {a b:World} (h:Ext a b):Upd S a b:=⟨h.os,h.tape,h.output,h.size,λx hx _=>h.block x hx⟩
def Upd.below {S:Nat→Prop} {a b:World} {B:Nat} (h:Upd S a b) (hS:∀x,S x→B≤x) (hB:B≤a.heap.size):Below B a b :=
 ⟨h.os,h.tape,h.output,h.size,λx hx=>h.block x (by omega) (λh2=>by have:=hS x h2;omega)⟩
def Upd.setCell {S:Nat→Prop} {a b:World} (h:Upd S a b) {p:Addr} (hp:S p.block) (u:Value):Upd S a (b.setCell p u) :=
 ⟨h.os,h.tape,h.output,by simpa [World.setCell] using h.size,λx hx hn=>(Below.heap_setCell b p u x (λe=>hn (e ▸ hp))).trans (h.block x hx hn)⟩
def Upd.drew {S:Nat→Prop} {a b:World} (h:Upd S a b):Upd S a b.drew:=⟨h.os,h.tape,h.output,h.size,h.block⟩
def Upd.grown {S:Nat→Prop} {a w w':World} (h:Upd S a w) {row:Option Nat} (hg:w.grownBy w' row) (hr:∀b,row=some b→S b∨a.heap.size≤b):Upd S a w' :=
 ⟨hg.os.trans h.os,hg.tape.trans h.tape,hg.output.trans h.output,wJ1 h.size hg.size,λx hx hn=>by
  have h1:=h.size
  rw[hg.block x (by omega) (λh2=>(hr x h2.symm).elim hn (by omega)),h.block x hx hn]⟩
def SL.upd {S:Nat→Prop} {w w':World} {size n c:Nat} {A:Option Addr} {xs:List Value} (h:SL w size (.slice A n c) n xs) (hu:Upd S w w') (hS:∀ad,A=some ad→¬S ad.block):SL w' size (.slice A n c) n xs:=by
 obtain⟨A',c',e,h1,h1',h2,h3⟩:=h;injection e with e1 e2 e3
 subst e1 e3;refine⟨A,c,rfl,h1,h1',h2,λhn=> ?_⟩;obtain⟨ad,ea,hlt,hc⟩:=h3 hn;refine⟨ad,ea,wA1 hlt hu.size,λj u hj=> ?_⟩;rw[←hc j u hj];unfold World.cell?;rw[yH,hu.block _ hlt (hS ad ea)]
def Upd.blk {S:Nat→Prop} {w w':World} {g:Nat} {T:TypeId} {cs:Array Value} (hu:Upd S w w') (h:Blk w g T cs) (hS:¬S g):Blk w' g T cs:=(hu.block g h.lt hS).trans h
def Upd.ext {S:Nat→Prop} {a w w':World} (hu:Upd S w w') (h:Ext a w) (hS:∀x,S x→a.heap.size≤x):Ext a w' :=
 ⟨hu.os.trans h.os,hu.tape.trans h.tape,hu.output.trans h.output,wJ1 h.size hu.size,λx hx=>by
  have:=h.size
  rw[hu.block x (by omega) (λh2=>by have:=hS x h2;omega),h.block x hx]⟩
def fold_set (l:List Value):∀(k:Nat) (a:Array Value),a.size=k+l.length→(l.zipIdx k).foldl (λcs (p:Value×Nat)=>cs.setIfInBounds (0+p.2) p.1) a=(a.toList.take k++l).toArray:=by
 induction l with
 | nil =>
   intro k a h;simp at h;apply Array.ext';simp[wC2,h]
 | cons v l ih =>
   intro k a h;rw[wN2,List.foldl_cons,ih (k+1) _ (by simp at h ⊢;omega)];apply Array.ext';simp only[wB2,wN3];have hk:k<a.toList.length:=by simp at h ⊢;omega
   rw[wN4,List.take_set_of_le (by omega),List.getElem?_set_self hk];simp
def fill_one (v:Value) (n:Nat) (a:Array Value) (hv:v.cells.size=n) (ha:a.size=n):Instr.fill (λi=>some (i*n,n)) a [(0,v)]=some v.cells:=by
 have e:v.cells.zipIdx.foldl (λcs (p:Value×Nat)=>cs.setIfInBounds (0+p.2) p.1) a=v.cells:=by
  have h:=fold_set v.cells.toList 0 a (by simp;omega);rw[←Array.foldl_toList];simpa using h
 simp only[wB2] at e
 have e2:Array.foldl (λcs (x:Value×Nat)=>cs.setIfInBounds x.2 x.1) a v.cells.zipIdx 0 n=v.cells:=by
  have hn:n=v.cells.zipIdx.size:=by simp[hv]
  rw[hn];exact e
 simp[Instr.fill,hv,ha,e2]
def zOH {P:Program} {e:TypeId} {n:Nat} (v:Value) (hs:(P.info? e).map (·.size)=some n) (hz:((P.info? e).bind (·.zero)).isSome=true) (hv:v.cells.size=n) (h0:0<n) (h1:n≤16777216):P.builtSlice e 1 [(0,v)]=some v.cells:=by
 unfold Program.builtSlice
 cases hq:P.info? e with
 | none=>simp[hq] at hs
 | some i =>
   have hi:i.size=n:=by simpa [hq] using hs
   cases hzz:i.zero with
   | none=>simp[hq,hzz] at hz
   | some z =>
     simp only[hi,hzz,wN5];rw[if_neg (by omega)];exact fill_one v n _ hv (by simp)
def wLit1 {P:Program} {ops:Array Oper} {rest:List Oper} {o:Oper} {a:Act} {w:World} {Q:Exit→Act→World→Prop} (hg:o.guard=none) (t e:TypeId) (x:Operand) (ho:o.op=.buildSlice t 1 #[(0,x)]) (dst:Option Tmp) (hdst:o.dst=dst)
 (ht:P.underlying t=some (.slice e)) (n:Nat) (hs:(P.info? e).map (·.size)=some n) (hz:((P.info? e).bind (·.zero)).isSome=true) (v:Value) (hx:a.eval x=v) (hv:v.cells.size=n) (h0:0<n) (h1:n≤16777216)
 (h:∀w1 g,Blk w1 g e v.cells→Ext w w1→w.heap.size≤g→wpList P ops Q rest (a.put dst (.slice (some ⟨g,0,none⟩) 1 1)) w1):wpList P ops Q (o::rest) a w:=by refine Go.Great.wpList_buildSliceTo hg t e 1 #[(0,x)] ho _ rfl dst hdst ht v.cells ?_ (h _ _ (Blk.new w e _) ((Ext.refl w).alloc _) (wA5 _));simp only[wI2,wG6,wG7,hx];exact zOH v hs hz hv h0 h1
def yE {w w':World} {base:Nat} {e:TypeId} {size n:Nat} {v:Value} {xs:List Value} (h:w.ownsRow base e size v n xs) (hb:Ext w w'):w'.ownsRow base e size v n xs:=by
 obtain⟨hl,hh⟩:=h;refine⟨hl, ?_⟩;rcases hh with ⟨rfl,rfl⟩ | ⟨g,cap,cur,rfl,h1,hg,h2⟩
 ·exact .inl ⟨rfl,rfl⟩
 exact .inr ⟨g,cap,cur,rfl,h1,(hb.block g (Blk.lt (w:=w) (t:=e) (cs:=cur) hg)).trans hg,h2⟩
def zAm (w:World) (base:Nat) (e:TypeId) (size:Nat):w.ownsRow base e size (.slice none 0 0) 0 []:=⟨by simp,.inl ⟨rfl,rfl⟩⟩
def qK (zs:List Int):∀u∈ints zs,u.oneCell'=true:=by intro u hu;obtain⟨z,-,rfl⟩:=wD2.1 hu;rfl
def vP (xs ys:List Int):ints (xs++ys)=ints xs++ints ys:=by simp[ints]
def qV {S:Nat→Prop} {w w':World} {base:Nat} {e:TypeId} {size n:Nat} {v:Value} {xs:List Value} (h:w.ownsRow base e size v n xs) (hu:Upd S w w') (hS:∀x,v.ownBlock=some x→¬S x):w'.ownsRow base e size v n xs:=by
 obtain⟨hl,hh⟩:=h;refine⟨hl, ?_⟩;rcases hh with ⟨rfl,rfl⟩ | ⟨g,cap,cur,rfl,h1,hg,h2⟩
 ·exact .inl ⟨rfl,rfl⟩
 exact .inr ⟨g,cap,cur,rfl,h1,(hu.block g (Blk.lt (w:=w) (t:=e) (cs:=cur) hg) (hS g rfl)).trans hg,h2⟩
def zM {w w':World} {row:Option Nat} (hg:w.grownBy w' row):Upd (λb=>row=some b) w w' :=
 (Upd.refl (λb=>row=some b) w).grown hg (λb hb=>.inl hb)
def Apart (w:World) (e:TypeId) (v:Value) (g:Nat) (r1 r2:Option Nat):Prop:=Blk w g e #[v]∧r1≠some g∧r2≠some g
structure Two (w0 w:World) (B:Nat) (e1 e2:TypeId) (v1 v2:Value) (n1 n2:Nat) (xs1 xs2:List Value) (t1 t2:Option (Value×Nat)):Prop where
 ext:Ext w0 w
 base:w0.heap.size≤B∧B≤w.heap.size
 p:w.ownsRow B e1 1 v1 n1 xs1
 m:w.ownsRow B e2 1 v2 n2 xs2
 d:∀b,v1.ownBlock=some b→v2.ownBlock≠some b
 a1:∀v g,t1=some (v,g)→Apart w e1 v g v1.ownBlock v2.ownBlock
 a2:∀v g,t2=some (v,g)→Apart w e2 v g v1.ownBlock v2.ownBlock
section
variable {w0 w w':World} {B:Nat} {e1 e2:TypeId} {v1 v2 v1' v2':Value} {n1 n2 m1 m2:Nat} {xs1 xs2 ys1 ys2:List Value} {t1 t2:Option (Value×Nat)}
def Two.later (h:Two w0 w B e1 e2 v1 v2 n1 n2 xs1 xs2 t1 t2) (hx:Ext w w'):Two w0 w' B e1 e2 v1 v2 n1 n2 xs1 xs2 t1 t2 :=
 ⟨h.ext.trans hx,⟨h.base.1,wJ1 h.base.2 hx.size⟩,yE h.p hx,yE h.m hx,h.d,λv g e=>by obtain⟨a,b,c⟩:=h.a1 v g e;exact⟨a.ext hx,b,c⟩,λv g e=>by obtain⟨a,b,c⟩:=h.a2 v g e;exact⟨a.ext hx,b,c⟩⟩
def Two.fresh (h:Two w0 w B e1 e2 v1 v2 n1 n2 xs1 xs2 t1 t2) {g:Nat} (hg:w.heap.size≤g):v1.ownBlock≠some g∧v2.ownBlock≠some g :=
 ⟨λe=>by have:=(h.p.lt g e).2;omega,λe=>by have:=(h.m.lt g e).2;omega⟩
def Two.lit1 (h:Two w0 w B e1 e2 v1 v2 n1 n2 xs1 xs2 t1 t2) {v:Value} {g:Nat} (hb:Blk w' g e1 #[v]) (hx:Ext w w') (hg:w.heap.size≤g):Two w0 w' B e1 e2 v1 v2 n1 n2 xs1 xs2 (some (v,g)) t2:=by have k:=h.later hx;obtain⟨f1,f2⟩:=h.fresh hg;exact⟨k.ext,k.base,k.p,k.m,k.d,λu g' e=>by injection e with e;injection e with e e';subst e e';exact⟨hb,f1,f2⟩,k.a2⟩
def Two.lit2 (h:Two w0 w B e1 e2 v1 v2 n1 n2 xs1 xs2 t1 t2) {v:Value} {g:Nat} (hb:Blk w' g e2 #[v]) (hx:Ext w w') (hg:w.heap.size≤g):Two w0 w' B e1 e2 v1 v2 n1 n2 xs1 xs2 t1 (some (v,g)):=by have k:=h.later hx;obtain⟨f1,f2⟩:=h.fresh hg;exact⟨k.ext,k.base,k.p,k.m,k.d,k.a1,λu g' e=>by injection e with e;injection e with e e';subst e e';exact⟨hb,f1,f2⟩⟩
def Apart.grown {e:TypeId} {v:Value} {g:Nat} {r r' r2:Option Nat} (h:Apart w e v g r r2) (hg:w.grownBy w' r) (hr:r'=r∨r'=some w.heap.size):Apart w' e v g r' r2:=by
 obtain⟨hb,h1,h2⟩:=h;refine⟨(zM hg).blk hb h1, ?_,h2⟩;rcases hr with rfl | rfl
 ·exact h1
 intro e;injection e with e;have:=hb.lt;omega
def Apart.swap {e:TypeId} {v:Value} {g:Nat} {r r2:Option Nat} (h:Apart w e v g r r2):Apart w e v g r2 r:=⟨h.1,h.2.2,h.2.1⟩
def Two.app1 (h:Two w0 w B e1 e2 v1 v2 n1 n2 xs1 xs2 t1 t2) (ho:w'.ownsRow B e1 1 v1' m1 ys1) (hg:w.grownBy w' v1.ownBlock) (hr:v1'.ownBlock=v1.ownBlock∨v1'.ownBlock=some w.heap.size):Two w0 w' B e1 e2 v1' v2 m1 n2 ys1 xs2 none t2:=by
 have hu:=zM hg;refine⟨hu.ext h.ext (λx hx=>by have:=(h.p.lt x hx).1;have:=h.base.1;omega),⟨h.base.1,wJ1 h.base.2 hu.size⟩,ho,qV h.m hu (λx hx e=>h.d x e hx),λb hb=> ?_,λ_ _ e=>(by cases e),λv g e=>(h.a2 v g e).grown hg hr⟩;rcases hr with e | e
 ·exact h.d b (e ▸ hb)
 rw[e] at hb;injection hb with hb
 intro e2;have:=(h.m.lt b e2).2;omega
def Two.app2 (h:Two w0 w B e1 e2 v1 v2 n1 n2 xs1 xs2 t1 t2) (ho:w'.ownsRow B e2 1 v2' m2 ys2) (hg:w.grownBy w' v2.ownBlock) (hr:v2'.ownBlock=v2.ownBlock∨v2'.ownBlock=some w.heap.size):Two w0 w' B e1 e2 v1 v2' n1 m2 xs1 ys2 t1 none:=by
 have hu:=zM hg;refine⟨hu.ext h.ext (λx hx=>by have:=(h.m.lt x hx).1;have:=h.base.1;omega),⟨h.base.1,wJ1 h.base.2 hu.size⟩,qV h.p hu (λx hx e=>h.d x hx e),ho,λb hb=> ?_,λv g e=>((h.a1 v g e).swap.grown hg hr).swap,λ_ _ e=>(by cases e)⟩;rcases hr with e | e
 ·rw[e];exact h.d b hb
 rw[e];intro e2;injection e2 with e2
 have:=(h.p.lt b hb).2;omega
def zCT (A:Option Addr) (n c:Nat):(Value.slice A n c).ownBlock=A.map (·.block):=by cases A<;>rfl
def zJW {v:Value} (h:v.oneCell'=true):∀u∈[v],u.oneCell'=true:=by intro u hu;simp at hu;subst hu;exact h
def zZ {P:Program} {ops:Array Oper} {K:Act→World→Prop} {a:Act} {w:World} (h:K a w):wpList P ops (xT K) [] a w:=h
def Two.app1' {A:Option Addr} {c:Nat} (h:Two w0 w B e1 e2 v1 v2 n1 n2 xs1 xs2 t1 t2) (ho:w'.ownsRow B e1 1 (.slice A m1 c) m1 ys1) (hg:w.grownBy w' v1.ownBlock) (hr:A.map (·.block)=v1.ownBlock∨A.map (·.block)=some w.heap.size):Two w0 w' B e1 e2 (.slice A m1 c) v2 m1 n2 ys1 xs2 none t2 :=
 h.app1 ho hg (by rw[zCT];exact hr)
def Two.app2' {A:Option Addr} {c:Nat} (h:Two w0 w B e1 e2 v1 v2 n1 n2 xs1 xs2 t1 t2) (ho:w'.ownsRow B e2 1 (.slice A m2 c) m2 ys2) (hg:w.grownBy w' v2.ownBlock) (hr:A.map (·.block)=v2.ownBlock∨A.map (·.block)=some w.heap.size):Two w0 w' B e1 e2 v1 (.slice A m2 c) n1 m2 xs1 ys2 t1 none :=
 h.app2 ho hg (by rw[zCT];exact hr)
def zCf {g:Nat} {e:TypeId} {v:Value} (h:Blk w g e #[v]):SL w 1 (.slice (some ⟨g,0,none⟩) 1 1) 1 [v] :=
 ⟨_,_,rfl,by omega,by omega,rfl,λ_=>⟨_,rfl,h.lt,λj u hu=>by
  have hc:=h.cell j;rw[zBe];simp only[wB2];rw[hc, ←hu]
  simp⟩⟩
end
def elt_u8:Elt prog 45 5 1 1:=⟨underlying45,by kernel_rfl,by omega⟩
def u8_one (x:Int):∀u∈[Value.int .u8 x],u.oneCell'=true:=by intro u hu;simp at hu;subst hu;rfl
def WrS (w:World) (gw:Nat) (L:List Bool) (r:Option Nat):Prop :=
 ∃A c,r=A.map (·.block)∧Blk w gw 203 #[.slice A (L.length/8) c,.int .u64 (yK (zAC L):Nat),.int .i64 ((L.length%8:Nat):Int)] ∧
  w.ownsRow (gw+1) 5 1 (.slice A (L.length/8) c) (L.length/8) (zF (qU L))
def put_or (R0:List Bool) (value xB:Nat) (h0:R0.length<8) (hw:xB≤24) (hv:value<2 ^ xB) :
 bits .or .u64 (IntKind.u64.wrap ((yK R0:Int)*2 ^ xB)) (value:Int)=(yK (R0++qD value xB):Nat):=by
 have h1:=zBs R0;have h2:(2:Nat) ^ R0.length≤2 ^ 7:=wF3 (by omega) (by omega);have h3:(2:Nat) ^ xB≤2 ^ 24:=wF3 (by omega) hw
 have h4:yK R0*2 ^ xB<2 ^ 7*2 ^ 24:=by
  have h5:yK R0*2 ^ xB≤yK R0*2 ^ 24:=wJ2 _ h3;have:yK R0<2 ^ 7:=by omega
  omega
 have e1:IntKind.u64.wrap ((yK R0:Int)*2 ^ xB)=((yK R0*2 ^ xB:Nat):Int):=by
  rw[IntKind.wrap_u64]
  push_cast
  have:((yK R0*2 ^ xB:Nat):Int)<18446744073709551616:=by omega
  push_cast at this
  exact wJ3 (by exact_mod_cast wJ4 _) this
 rw[e1,u64_or_nat _ _ (by omega) (by omega)];congr 1
 rw[nat_join xB _ _ (by simp) hv,zEh,zBF hv,qH]
def put_and (R:List Bool) (hb:yK R<4294967296):bits .and .u64 (yK R:Int) (IntKind.u64.wrap (IntKind.u64.wrap (2 ^ (R.length%8))-1))=(yK (zAC R):Nat):=by
 have hq:R.length%8<8:=by omega
 have h3:(2:Nat) ^ (R.length%8)≤2 ^ 8:=wF3 (by omega) (by omega);have h4:=wE9 (R.length%8)
 have e1:IntKind.u64.wrap (2 ^ (R.length%8))=((2 ^ (R.length%8):Nat):Int):=by
  rw[IntKind.wrap_u64];have:((2:Int) ^ (R.length%8))=((2 ^ (R.length%8):Nat):Int):=by push_cast;rfl
  rw[this];exact wJ3 (by omega) (by omega)
 have e2:IntKind.u64.wrap (((2 ^ (R.length%8):Nat):Int)-1)=((2 ^ (R.length%8)-1:Nat):Int):=by
  rw[IntKind.wrap_u64,wJ3 (by omega) (by omega)];omega
 rw[e1,e2,u64_and_nat _ _ (by omega) (by omega),wJ5];unfold zAC;rw[zPN];rw[show R.length-8*(R.length/8)=R.length%8 by omega]
def manyOf (w:World) (gw:Nat):Nat:=match w.cell? ⟨gw,2,none⟩ with | some (.int _ n)=>n.toNat | _=>0
def many_of {w:World} {gw:Nat} {T:TypeId} {x y:Value} {k:IntKind} {n:Int} (h:Blk w gw T #[x,y,.int k n]):manyOf w gw=n.toNat:=by unfold manyOf;rw[h.cell 2];rfl
def zGz {w:World} {gw n size:Nat} {e:TypeId} {v:Value} {xs:List Value} (h:w.ownsRow (gw+1) e size v n xs) (i:Nat) (u:Value):(w.setCell ⟨gw,i,none⟩ u).ownsRow (gw+1) e size v n xs:=by
 obtain⟨hl,hh⟩:=h;refine⟨hl, ?_⟩;rcases hh with ⟨rfl,rfl⟩ | ⟨g,cap,cur,rfl,h1,hg,h2⟩
 ·exact .inl ⟨rfl,rfl⟩
 exact .inr ⟨g,cap,cur,rfl,h1,(Below.heap_setCell w ⟨gw,i,none⟩ u g (by show g≠gw;omega)).trans hg,h2⟩
def zKe (A:Option Addr) (n c:Nat):(Value.slice A n c).ownBlock=A.map (·.block):=by cases A<;>rfl
def wl_storeW {ops:Array Oper} {Q:Exit→Act→World→Prop} {rest:List Oper} {o:Oper} {a:Act} {w:World} (hg:o.guard=none) (x y:Operand) (ho:o.op=.store 45 x y) (g i:Nat) (A:Option Addr) (n c:Nat) (hx:a.eval x=.pointer (some ⟨g,i,none⟩)) (hy:a.eval y=.slice A n c)
 {t:TypeId} {cs:Array Value} (hB:Blk w g t cs) (hi:i<cs.size) (h:wpList prog ops Q rest (a.put o.dst undef) (w.setCell ⟨g,i,none⟩ (.slice A n c))):wpList prog ops Q (o::rest) a w :=
 wpList_plain hg λ_ hK=>by
  have hc:=(hB.cell i).trans (wD9 hi);have hf:=hB.frozen i;unfold Oper.wp execOp;simp only[ho,hx,hy];go_simp
  exact hK _ _ h
def zHR:zAi (λa b:World=>a=b):=⟨λ_=>rfl,λh k=>h.trans k⟩
def zUg (R:List Bool) (j:Nat) (h:j<R.length/8):(qU R).take (j+1)=(qU R).take j++[yK ((R.drop (8*j)).take 8)]:=by rw[wC1 (by rw[zCo];exact h)];simp[qU]
def own_ne {w:World} {gw n size:Nat} {e:TypeId} {v:Value} {xs:List Value} (h:w.ownsRow (gw+1) e size v n xs):some gw≠v.ownBlock:=λhk=>by
 have:=(h.lt gw hk.symm).1;omega
def zPF {w w':World} {base:Nat} {e:TypeId} {size n:Nat} {v:Value} {xs:List Value} (h:w.ownsRow base e size v n xs) (hb:Ext w w'):w'.ownsRow base e size v n xs:=by
 obtain⟨hl,hh⟩:=h;refine⟨hl, ?_⟩;rcases hh with ⟨rfl,rfl⟩ | ⟨g,cap,cur,rfl,h1,hg,h2⟩
 ·exact .inl ⟨rfl,rfl⟩
 exact .inr ⟨g,cap,cur,rfl,h1,(hb.block g (Blk.lt (w:=w) (t:=e) (cs:=cur) hg)).trans hg,h2⟩
def put_len (L:List Bool) (value xB:Nat):(L++qD value xB).length=L.length+xB:=by simp[qH]
def zNf (gw:Nat) (L:List Bool) (r:Option Nat) (value xB:Nat) (w:World) (h:WrS w gw L r) (hw:xB≤24) (hv:value<2 ^ xB) (hl:L.length≤1000000000000) :
 Calls prog 156 #[.pointer (some ⟨gw,0,none⟩),.int .i64 (xB:Int),.int .i64 (value:Int)] w λe w'=>e=.returned (.tuple #[]) ∧
  ∃r',WrS w' gw (L++qD value xB) r'∧(r'=r∨∃b,r'=some b∧w.heap.size≤b)∧Upd (λb=>b=gw∨r=some b) w w':=by
 obtain⟨A,c,hr,hB,hown⟩:=h;have HOR:=zA (put_or (zAC L) value xB (by rw[zGe];omega) hw hv);have hRl:(zAC L++qD value xB).length=L.length%8+xB:=by rw[wE2,zGe,qH]
 have HPA:=zA (zRf L (qD value xB));have HRA:=zA (zRu L (qD value xB));have HPL:=zA (put_len L value xB);have HR0:=zA (zBs (zAC L));have hv24:value<16777216:=by have:=wF3 (n:=2) (by omega) hw;omega
 have hlt0:yK (zAC L)<256:=by have:=zBs (zAC L);rw[zGe] at this;have:=wF3 (n:=2) (by omega) (show L.length%8≤8 by omega);omega
 have hN0:L.length%8<8:=by omega
 have hn0b:L.length/8≤1000000000000:=by omega
 have hRb:yK (zAC L++qD value xB)<4294967296:=by
  have:=zBs (zAC L++qD value xB);rw[hRl] at this;have:=wF3 (n:=2) (by omega) (show L.length%8+xB≤32 by omega);omega
 generalize hR:zAC L++qD value xB=R at *;generalize hm:L.length%8=m at *;generalize hn:L.length/8=n0 at *;generalize hT:qU L=T at *;generalize hacc:yK (zAC L)=acc at *;have HR:=zA hR;have Hm:=zA hm;have Hn:=zA hn;have c0:=hB.cell 0;have c1:=hB.cell 1;have c2:=hB.cell 2;have f1:=hB.frozen 1;have f2:=hB.frozen 2;simp at c0 c1 c2;have hgw:=hB.lt;clear hR hm hn hT hacc hl hv;have HRL:=zA hRl;clear hRl;go_enter func156,ntmps156;go_wp2_with fail;rw[HOR.out];have hBs:=(hB.set_ 1 (.int .u64 (yK R:Nat))).set_ 2 (.int .i64 ((m:Int)+xB));simp at hBs
 have hun:Upd (λb=>b=gw∨r=some b) w ((w.setCell ⟨gw,1,none⟩ (.int .u64 (yK R:Nat))).setCell ⟨gw,2,none⟩ (.int .i64 ((m:Int)+xB))) :=
  ((Upd.refl _ w).setCell (.inl rfl) _).setCell (.inl rfl) _
 have hown2:((w.setCell ⟨gw,1,none⟩ (.int .u64 (yK R:Nat))).setCell ⟨gw,2,none⟩ (.int .i64 ((m:Int)+xB))).ownsRow (gw+1) 5 1 (.slice A n0 c) n0 (zF T):=zGz (zGz hown 1 _) 2 _;generalize (w.setCell ⟨gw,1,none⟩ (.int .u64 (yK R:Nat))).setCell ⟨gw,2,none⟩ (.int .i64 ((m:Int)+xB))=w2 at *;clear c0 c1 c2 f1 f2
 go_loopw [29] (λ_ wr=>∃(j:Nat) (A':Option Addr) (c':Nat),j≤R.length/8∧Blk wr gw 203 #[.slice A' (n0+j) c',.int .u64 (yK R:Nat),.int .i64 ((R.length-8*j:Nat):Int)] ∧
  wr.ownsRow (gw+1) 5 1 (.slice A' (n0+j) c') (n0+j) (zF (T++(qU R).take j))∧(A'.map (·.block)=r∨∃b,A'.map (·.block)=some b∧w.heap.size≤b)∧Upd (λb=>b=gw∨r=some b) w wr) (λ_ wr=>manyOf wr gw)
 case atStart=>exact⟨0,A,c,by omega,by have:=HRL.out;have e:((R.length-8*0:Nat):Int)=(m:Int)+xB:=by omega
                                       rw[e];exact hBs,by simpa using hown2,.inl hr.symm,hun⟩
 case round =>
  clear hBs hown2 hun hB hown;obtain⟨j,A',c',hj,hB,hown,hrow,hu⟩:=hrel;have c0:=hB.cell 0;have c1:=hB.cell 1;have c2:=hB.cell 2;simp only[wH3,wJ6,wJ7] at c0 c1 c2
  by_cases hlt:j<R.length/8
  ·obtain⟨k,hk⟩:∃k:Nat,R.length-8*j=k+8:=⟨R.length-8*j-8,by omega⟩
   have HK:=zA hk;rw[hk] at c2;have hk8:k≤32:=by have:=HRL.out;omega
   have hj8:j≤4:=by have:=HRL.out;omega
   clear hk;go_wp2_with fail;have HC0:=zA (λW (hW:Ext wr.drew W)=>by have:=(hB.drew.ext hW).cell 0;simpa using this);have HC1:=zA (λW (hW:Ext wr.drew W)=>by have:=(hB.drew.ext hW).cell 1;simpa using this);have HC2:=zA (λW (hW:Ext wr.drew W)=>by have:=(hB.drew.ext hW).cell 2;rw[HK.out] at this;simpa using this);clear c0 c1 c2;have HWR:Hid (IntKind.i64.wrap (k:Int)=k):=zA (IntWalk.i64_in _ (by omega));have HPJ:=zA (zUg R j (by omega))
   have HQ:Hid (yK ((R.drop (8*j)).take 8)=yK R/2 ^ k%256):=zA (by
    rw[numB_mid R (8*j) 8 (by omega)];have:=HK.out
    rw[show R.length-(8*j+8)=k by omega])
   rw[HQ.out] at HPJ;have HCV:Hid (IntKind.u8.wrap ((yK R:Int)/2 ^ k)=((yK R/2 ^ k%256:Nat):Int)):=zA (by rw[IntKind.wrap_u8'];simp);generalize yK R/2 ^ k%256=y at *;refine vI (λj=>j ==4 ||j ==8 ||j ==12 ||j ==16) (λW=>Ext wr.drew W) (by kernel_rfl) ?_;refine zI (k:=0) (by kernel_rfl) rfl (by rfl) (.pointer (some ⟨gw,0,none⟩)) (λW=>by go_simp) ?_;simp only[sP,sB,sC];refine zI (k:=1) (by kernel_rfl) rfl (by rfl) (.pointer (some ⟨gw,0,none⟩)) (λW=>by go_simp) ?_;simp only[sP,sB,sC];refine zI (k:=2) (by kernel_rfl) rfl (by rfl) (.pointer (some ⟨gw,0,none⟩)) (λW=>by go_simp) ?_;simp only[sP,sB,sC];refine zI (k:=3) (by kernel_rfl) rfl (by rfl) (.pointer (some ⟨gw,0,none⟩)) (λW=>by go_simp) ?_;simp only[sP,sB,sC];refine zI (k:=5) (by kernel_rfl) rfl (by rfl) (.pointer (some ⟨gw,0,none⟩)) (λW=>by go_simp) ?_;simp only[sP,sB,sC];refine zI (k:=6) (by kernel_rfl) rfl (by rfl) (.pointer (some ⟨gw,0,none⟩)) (λW=>by go_simp) ?_;simp only[sP,sB,sC];refine zI (k:=7) (by kernel_rfl) rfl (by rfl) (.pointer (some ⟨gw,1,none⟩)) (λW=>by go_simp) ?_;simp only[sP,sB,sC];refine zI (k:=9) (by kernel_rfl) rfl (by rfl) (.pointer (some ⟨gw,0,none⟩)) (λW=>by go_simp) ?_;simp only[sP,sB,sC];refine zI (k:=10) (by kernel_rfl) rfl (by rfl) (.pointer (some ⟨gw,0,none⟩)) (λW=>by go_simp) ?_;simp only[sP,sB,sC];refine zI (k:=11) (by kernel_rfl) rfl (by rfl) (.pointer (some ⟨gw,2,none⟩)) (λW=>by go_simp) ?_;simp only[sP,sB,sC];refine vR (k:=12) (by kernel_rfl) rfl (by rfl) (.int .i64 ((k+8:Nat):Int)) (λW hW=>by have h0:=HC2.out W hW;go_simp) (Ext.refl _) ?_;simp only[Act.put,sA,sB,sC];refine zI (k:=13) (by kernel_rfl) rfl (by rfl) (.int .i64 (k:Int)) (λW=>by have h3:=HWR.out;go_simp) ?_;simp only[sP,sB,sC];refine vR (k:=8) (by kernel_rfl) rfl (by rfl) (.int .u64 (yK R:Nat)) (λW hW=>by have h0:=HC1.out W hW;go_simp) (Ext.refl _) ?_;simp only[Act.put,sA,sB,sC];refine zI (k:=14) (by kernel_rfl) rfl (by rfl) (.int .u64 ((yK R:Int)/2 ^ k)) (λW=>by go_simp) ?_;simp only[sP,sB,sC];refine zI (k:=15) (by kernel_rfl) rfl (by rfl) (.int .u8 (y:Int)) (λW=>by have h5:=HCV.out;go_simp) ?_;simp only[sP,sB,sC];refine vR (k:=4) (by kernel_rfl) rfl (by rfl) (.slice A' (n0+j) c') (λW hW=>by have h0:=HC0.out W hW;go_simp) (Ext.refl _) ?_;simp only[Act.put,sA,sB,sC];refine xZ (k:=16) (by kernel_rfl) rfl ?_;refine wLit1 rfl 45 5 _ rfl (some 54) rfl underlying45 1 (by kernel_rfl) (by kernel_rfl) (.int .u8 (y:Int)) rfl rfl (by omega) (by omega) ?_;intro w4 g4 hg4 hy4 hz4;refine zZ ⟨λ_=>hy4, ?_⟩;simp only[Act.put,sA,sB,sC];have hx4:Ext wr w4:=(Ext.refl wr).drew.trans hy4;have hB4:=hB.ext hx4;have hown4:=zPF hown hx4;have hone:SL w4 1 (.slice (some ⟨g4,0,none⟩) 1 1) 1 [.int .u8 (y:Int)]:=hg4.sl (size:=1) (n:=1) (c:=1) rfl (by omega) (by omega);have hz4:=hx4.size;have hgw4:=hB4.lt;clear HC0 HC1 HC2 HCV HWR;refine xZ (k:=17) (by kernel_rfl) rfl ?_;refine wApf elt_u8 rfl _ _ rfl (gw+1) (.slice A' (n0+j) c') _ _ rfl hown4 _ 1 [.int .u8 _] rfl hone (u8_one _) (by omega) (by omega) (by omega) ?_;intro A7 c7 w7 hown7 hg7 hrow7;have hB7:=hB4.grown hg7 (own_ne hown4);refine zZ ⟨λh=>(by cases h), ?_⟩;simp only[Act.put,sA,sB,sC];refine zI (k:=18) (by kernel_rfl) rfl (by rfl) (.pointer (some ⟨gw,0,none⟩)) (λW=>by go_simp) ?_;simp only[sP,sB,sC];refine zI (k:=19) (by kernel_rfl) rfl (by rfl) (.pointer (some ⟨gw,0,none⟩)) (λW=>by go_simp) ?_;simp only[sP,sB,sC];refine xZ (k:=20) (by kernel_rfl) rfl ?_;refine wl_storeW rfl (.tmp 57) (.tmp 55) rfl gw 0 A7 (n0+j+1) c7 rfl rfl hB7 (by simp) ?_;refine zZ ⟨λh=>(by cases h), ?_⟩;simp only[Act.put,sA,sB,sC];refine zAK (by kernel_rfl) ?_;have hB8:=hB7.set_ 0 (.slice A7 (n0+j+1) c7);simp only[wJ8,wJ9,wK0] at hB8;have c2:=hB8.cell 2;have f2:=hB8.frozen 2;rw[HK.out] at c2;simp only[wH3,wJ6,wJ7] at c2;go_wp2_with fail;go_roundw
   case rel =>
    have hb8:=(hB7.set_ 0 (.slice A7 (n0+j+1) c7)).set_ 2 (.int .i64 (k:Int));simp only[wJ8,wJ9,wK0] at hb8;refine⟨j+1,A7,c7,by omega, ?_, ?_, ?_, ?_⟩
    ·have e:((R.length-8*(j+1):Nat):Int)=(k:Int):=by have:=HK.out;omega
     rw[e];exact hb8
    ·rw[HPJ.out, ←wI7,zLK];exact zGz (zGz hown7 0 _) 2 _
    ·rw[zKe] at hrow7;rcases hrow7 with h7 | h7
     ·rw[h7];exact hrow
     exact .inr ⟨_,h7,by have:=hu.size;omega⟩
    have h8:=(hu.trans (Upd.of_ext (S:=λ_=>False) hx4) (λx hx=>hx.elim)).grown hg7 (λb hb=>by
     rw[zKe] at hb;rcases hrow with h9 | ⟨b',h9,h10⟩
     ·exact .inl (.inr (h9 ▸ hb))
     ·rw[h9] at hb;injection hb with hb
      subst hb
      exact .inr h10)
    exact (h8.setCell (.inl rfl) _).setCell (.inl rfl) _
   case measure =>
    have hb8:=(hB7.set_ 0 (.slice A7 (n0+j+1) c7)).set_ 2 (.int .i64 (k:Int));simp only[wJ8,wJ9,wK0] at hb8;rw[many_of hb8,many_of hB];have:=HK.out;omega
  have hjj:j=R.length/8:=by omega
  have hk:R.length-8*j=R.length%8:=by omega
  rw[hk] at c2 hB;have hk8:R.length%8<8:=by omega
  have HAN:=zA (put_and R hRb);generalize hq:R.length%8=q at *;clear hk;go_wp2_with fail;refine zAo zHR 11 (by kernel_rfl) (by kernel_rfl) ?_;simp only[wH1,wH2]
  iterate 11 (refine zBZ (by rfl) ?_;apply Exists.intro;refine⟨λw hw=> ?_, ?_⟩; · (subst hw;go_simp;with_reducible rfl)
              simp only[Act.put,sA,sB,sC])
  refine jU ?_;rintro w3 rfl;rw[HAN.out];have f1:=hB.frozen 1
  try simp only[wK1,wK2]
  go_wp2_with fail;go_end0
  have hb8:=hB.drew.set_ 1 (.int .u64 (yK (zAC R):Nat));simp only[wJ8,wJ9,wK0] at hb8;refine⟨rfl,A'.map (·.block),⟨A',c',rfl, ?_, ?_⟩,hrow,hu.drew.setCell (.inl rfl) _⟩
  ·have e1:(L++qD value xB).length/8=n0+j:=by have:=HPL.out;have:=Hm.out;have:=Hn.out;have:=HRL.out;omega
   have e2:(L++qD value xB).length%8=q:=by have:=HPL.out;have:=Hm.out;have:=Hn.out;have:=HRL.out;omega
   rw[e1,e2,HRA.out];exact hb8
  have e1:(L++qD value xB).length/8=n0+j:=by have:=HPL.out;have:=Hm.out;have:=Hn.out;have:=HRL.out;omega
  rw[e1,HPA.out];have e3:(qU R).take j=qU R:=wC2 (by rw[zCo];omega);rw[e3] at hown;exact zGz (w:=wr.drew) hown 1 _
def zSf {w:World} {base:Nat} {e:TypeId} {size n c:Nat} {A:Option Addr} {xs:List Value} (h:w.ownsRow base e size (.slice A n c) n xs):SL w size (.slice A n c) n xs∧∀ad,A=some ad→base≤ad.block:=by
 obtain⟨B,d,e1,h1,h2⟩:=zCN h;injection e1 with e1 e2 e3
 subst e1 e3;exact⟨h1,h2⟩
def WrS.nil (w:World) (gw:Nat) (h:Blk w gw 203 #[.slice none 0 0,.int .u64 0,.int .i64 0]):WrS w gw [] none :=
 ⟨none,0,rfl,h,World.ownsRow_nil _ _ _ _⟩
def WrS.ext {w w':World} {gw:Nat} {L:List Bool} {r:Option Nat} (h:WrS w gw L r) (hx:Ext w w'):WrS w' gw L r:=by obtain⟨A,c,h1,h2,h3⟩:=h;exact⟨A,c,h1,h2.ext hx,zPF h3 hx⟩
def WrS.lt {w:World} {gw:Nat} {L:List Bool} {r:Option Nat} (h:WrS w gw L r):gw<w.heap.size:=by obtain⟨A,c,h1,h2,h3⟩:=h;exact h2.lt
def WrS.row {w:World} {gw:Nat} {L:List Bool} {r:Option Nat} (h:WrS w gw L r):∀b,r=some b→gw<b∧b<w.heap.size:=by obtain⟨A,c,h1,h2,h3⟩:=h;intro b hb;subst h1;have:=h3.lt b (by rw[zKe];exact hb);omega
def WrS.drew {w:World} {gw:Nat} {L:List Bool} {r:Option Nat} (h:WrS w gw L r):WrS w.drew gw L r:=h
def zBT (C:List (Nat×Nat)) (xs:List Int) (k:Nat) (h1:k<C.length) (h2:k<xs.length) (h:k<(zH C xs).length):(zH C xs)[k]=(xs[k],((C[k]).1:Int),((C[k]).2:Int)):=by simp[zH]
def qL (T:List Tok) (s:Int):Option Tok:=T.find? (λt=>t.1 ==s)
def zBm (T:List Tok) (s:Int):List Bool:=match qL T s with | some t=>qD t.2.2.toNat t.2.1.toNat | none=>[]
def zBg (T:List Tok):Prop:=∀s t,qL T s=some t→∃long code:Nat,t=(s,(long:Int),(code:Int))∧1≤long∧long≤16∧code<2 ^ long
def zEJ (cs xs:List Int) (hl:cs.length=16) (h:zQ cs xs=0):zBg (zH (zC cs 16) xs):=by obtain⟨q1,q2,q3,q4,q5,q6⟩:=zAy h;have hfit:=zFR cs q4 hl 16 (by omega);intro s t ht;have hm:=wK3 ht;have hs:=List.find?_some ht;simp only[beq_iff_eq] at hs;unfold zH at hm;obtain⟨i,hi,rfl⟩:=wK4.1 hm;simp only[wK5] at hs ⊢;simp only[wK6] at hi;obtain⟨f1,f2,f3⟩:=hfit _ (wC7 (show i<(zC cs 16).length by omega));exact⟨_,_,by rw[hs],f1,f2,by omega⟩
def zFZ {T:List Tok} {s:Int} {long code:Nat} (h:qL T s=some (s,(long:Int),(code:Int))):zBm T s=qD code long:=by unfold zBm;rw[h];simp
def zOO {T:List Tok} (hf:zBg T) (s:Int):(zBm T s).length≤16:=by
 unfold zBm
 cases h:qL T s with
 | none=>simp
 | some t =>
   obtain⟨long,code,rfl,h1,h2,h3⟩:=hf s t h;simp[qH];omega
def zON (C:List (Nat×Nat)) (xs:List Int) (h:C.length=xs.length):(zH C xs).map (·.1)=xs:=by
 induction C generalizing xs with
 | nil=>cases xs with | nil=>rfl | cons _ _=>simp at h
 | cons c C ih =>
   cases xs with
   | nil=>simp at h
   | cons x xs =>
     have h':C.length=xs.length:=by simpa using h
     have:=ih xs h';simp only[zH,wI5,wG6] at this ⊢;rw[this]
def findT_at {Z:List Tok} {s:Int} {k:Nat} (hk:k<Z.length) (h:s∉(Z.map (·.1)).take k) (h2:(Z[k]).1=s):qL Z s=some Z[k]:=by unfold qL;rw[wK7];refine⟨by simpa using h2,k,hk,rfl,λj hj=> ?_⟩;simp only[wC9,beq_eq_false_iff_ne];intro h3;apply h;rw[←h3,wD5];exact⟨j,by simp;omega,by simp⟩
section
open Go.RowKit Go.Maps Go.WideMaps
def zEX (T:List Tok) (s:Int):Option Value:=(T.find? (λt=>t.1 ==s)).map (λt=>Value.agg #[.int .i64 t.1,.int .i64 t.2.1,.int .i64 t.2.2])
def zEp (T:List Tok) (p:Int×Int):Option Value:=(T.find? (λt=>t.2.1 ==p.1&&t.2.2 ==p.2)).map (λt=>Value.int .i64 t.1)
def zNq (T:List Tok) (t:Tok) (h:∀u∈T,u.1≠t.1):zEX (T++[t]) t.1=some (.agg #[.int .i64 t.1,.int .i64 t.2.1,.int .i64 t.2.2]):=by
 have h1:T.find? (λu=>u.1 ==t.1)=none:=by
  rw[wK8];intro u hu;simpa using h u hu
 unfold zEX;rw[wK9,h1];simp
def zMF (T:List Tok) (t:Tok) (s:Int) (h:s≠t.1):zEX (T++[t]) s=zEX T s:=by
 have h1:[t].find? (λu=>u.1 ==s)=none:=by
  rw[wK8];intro u hu;have:u=t:=by simpa using hu
  subst this;simpa using λh2=>h h2.symm
 unfold zEX;rw[wK9,h1,Option.or_none]
def zNN (T:List Tok) (t:Tok) (h:∀u∈T,u.2≠t.2):zEp (T++[t]) (t.2.1,t.2.2)=some (.int .i64 t.1):=by
 have h1:T.find? (λu=>u.2.1 ==t.2.1&&u.2.2 ==t.2.2)=none:=by
  rw[wK8];intro u hu;have:=h u hu;simp only[wA9,beq_iff_eq];exact λh2=>this (Prod.ext h2.1 h2.2)
 unfold zEp;rw[wK9,h1];simp
def zLe (T:List Tok) (t:Tok) (p:Int×Int) (h:p≠t.2):zEp (T++[t]) p=zEp T p:=by
 have h1:[t].find? (λu=>u.2.1 ==p.1&&u.2.2 ==p.2)=none:=by
  rw[wK8];intro u hu;have:u=t:=by simpa using hu
  subst this;simp only[wA9,beq_iff_eq];exact λh2=>h (Prod.ext h2.1.symm h2.2.symm)
 unfold zEp;rw[wK9,h1,Option.or_none]
def arrKey2:ArrKey prog 260 3 2:=⟨underlying260,by kernel_rfl,by kernel_rfl,by kernel_rfl⟩
def typesPos:∃m,prog.types.size=m+1:=⟨prog.types.size-1,by have:0<prog.types.size:=of_decide_eq_true (by kernel_rfl);omega⟩
def keyed_pair:Keyed prog 260:=Keyed.of_law (ArrKey.law arrKey2)
def klP (p:Int×Int):Lit:=.string (keyBytes [.int .i64 p.1,.int .i64 p.2])
def okP (p:Int×Int):Prop:=(-9223372036854775808≤p.1∧p.1≤9223372036854775807)∧(-9223372036854775808≤p.2∧p.2≤9223372036854775807)
def zKW (p:Int×Int) (h:okP p):keyOf prog 260 (.agg #[.int .i64 p.1,.int .i64 p.2])=some (klP p) :=
 keyOf_pair arrKey2 underlying3 typesPos (WalkArith.wf_i64 h.1) (WalkArith.wf_i64 h.2)
def klP_inj {p q:Int×Int} (hp:okP p) (hq:okP q) (h:klP p=klP q):p=q:=by have h1:=zKW p hp;have h2:=zKW q hq;rw[←h] at h2;have:=keyed_pair.inj h1 h2;simp at this;exact Prod.ext this.1 this.2
abbrev MapP (w:World) (b n:Nat) (g:Int×Int→Option Value):Prop:=MapG prog 260 klP okP w b n g
def CoderS (w:World) (gc:Nat) (T:List Tok):Prop :=
 ∃m1 m2 n,Blk w gc 241 #[.map (some m1),.map (some m2)]∧MapI prog 3 w m1 n (zEX T)∧MapP w m2 n (zEp T)
def CoderS.ext {w w':World} {gc:Nat} {T:List Tok} (h:CoderS w gc T) (hx:Ext w w'):CoderS w' gc T:=by obtain⟨m1,m2,n,a,b,c⟩:=h;exact⟨m1,m2,n,a.ext hx,b.ext hx,c.ext hx⟩
def CoderS.below {B:Nat} {w w':World} {gc:Nat} {T:List Tok} (h:CoderS w gc T) (hB:w.heap.size≤B) (hx:Below B w w'):CoderS w' gc T:=by obtain⟨m1,m2,n,a,b,c⟩:=h;exact⟨m1,m2,n,a.below hx (wA1 a.lt hB),b.below hx (wA1 b.lt hB),c.below hx (wA1 c.lt hB)⟩
def zJI (cs:List Int):∀k,(zC cs k).Nodup∧∀p∈zC cs k,p.1≤k:=by
 intro k
 induction k with
 | zero=>rw[zDS];simp
 | succ k ih =>
   rw[show zC cs (k+1)=zC cs k++uF cs k (cs.getD k 0).toNat from zEi cs k]
   have hrow:∀n,(uF cs k n).Nodup:=by
    intro n;unfold uF;refine List.Pairwise.map _ ?_ List.nodup_range;intro a b hab h;have:=(Prod.mk.inj h).2;omega
   refine⟨wI4.2 ⟨ih.1,hrow _, ?_⟩, ?_⟩
   ·intro p hp q hq;have h1:=ih.2 p hp;simp only[uF,wD2,wF2] at hq;obtain⟨i,_,rfl⟩:=hq;rintro rfl;simp at h1;omega
   intro p hp;rcases wD3.1 hp with h | h
   ·have:=ih.2 p h;omega
   simp only[uF,wD2,wF2] at h;obtain⟨i,_,rfl⟩:=h;simp
def zRv {α:Type} {l:List α} {k:Nat} {x:α} (h:x∈l.take k):∃j,∃hj:j<l.length,j<k∧x=l[j]:=by obtain⟨j,hj,rfl⟩:=wK4.1 h;simp at hj;exact⟨j,by omega,by omega,by simp⟩
def zRK {α:Type} {l:List α} (h:l.Nodup) {i j:Nat} (hi:i<l.length) (hj:j<l.length) (hij:i≠j):l[i]≠l[j]:=λe=>hij ((List.getElem_inj h).1 e)
def zVH (cs xs:List Int) (hxs:xs.Nodup) (hl:(zC cs 16).length=xs.length) (k:Nat) (hk:k<(zH (zC cs 16) xs).length) :
 (∀u∈(zH (zC cs 16) xs).take k,u.1≠((zH (zC cs 16) xs)[k]).1)∧(∀u∈(zH (zC cs 16) xs).take k,u.2≠((zH (zC cs 16) xs)[k]).2):=by
 have hz:(zH (zC cs 16) xs).length=xs.length:=by rw[zDB _ _ (by omega),hl]
 have hn:=(zJI cs 16).1;generalize zC cs 16=C at *;constructor
 ·intro u hu;obtain⟨j,hj,hjk,rfl⟩:=zRv hu;rw[zBT C xs j (by omega) (by omega),zBT C xs k (by omega) (by omega)];exact zRK hxs _ _ (by omega)
 intro u hu;obtain⟨j,hj,hjk,rfl⟩:=zRv hu;rw[zBT C xs j (by omega) (by omega),zBT C xs k (by omega) (by omega)];intro h;have h1:=(Prod.mk.inj h).1;have h2:=(Prod.mk.inj h).2;exact zRK hn (i:=j) (j:=k) (by omega) (by omega) (by omega) (Prod.ext (by omega) (by omega))
def zNr (Z:List Tok) (k:Nat) (h:k<Z.length):Z.take (k+1)=Z.take k++[Z[k]]:=wC1 h
end
def zAt (D:List Bool) (p:Nat) (t:Tok):Bool:=decide (p+t.2.1.toNat≤D.length)&&((yK ((D.drop p).take t.2.1.toNat):Int) ==t.2.2)
def zCd (long code:Int) (t:Tok):Bool:=t.2.1 ==long&&t.2.2 ==code
def vL (T:List Tok) (D:List Bool) (p:Nat):Nat→Nat→Int×Nat×Int
 | 0,_=>(0,p,4)
 | f+1,long=>if p+long≤D.length then (match T.find? (zCd (long:Int) (yK ((D.drop p).take long):Nat)) with | some t=>(t.1,p+long,0) | none=>vL T D p f (long+1)) else (0,p,3)
def uU (T:List Tok) (D:List Bool) (p:Nat):Int×Nat×Int :=
 match T.find? (zAt D p) with | some t=>(t.1,p+t.2.1.toNat,0) | none=>(0,p,if D.length<p+16 then 3 else 4)
def zOz {T:List Tok} {D:List Bool} {p:Nat} {t:Tok} (h:T.find? (zAt D p)=some t):uU T D p=(t.1,p+t.2.1.toNat,0):=by unfold uU;rw[h]
def zQB {T:List Tok} {D:List Bool} {p:Nat} (h:T.find? (zAt D p)=none):uU T D p=(0,p,if D.length<p+16 then 3 else 4):=by unfold uU;rw[h]
def zOx (T:List Tok) (D:List Bool) (p:Nat) (hs:T.Pairwise λa b=>a.2.1≤b.2.1) (hfit:∀t∈T,∃l c:Nat,t.2=((l:Int),(c:Int))∧1≤l∧l≤16) :
 ∀(f long:Nat),f+long=17→1≤long→p+long≤D.length+1→(∀t∈T,t.2.1<(long:Int)→zAt D p t=false)→vL T D p f long=uU T D p
 | 0,long,h1,_,hp0,hno=>by
   have hn:T.find? (zAt D p)=none:=by
    rw[wK8];intro t ht;obtain⟨l,c,e,h2,h3⟩:=hfit t ht;have:=hno t ht (by rw[e];simp;omega);simp[this]
   rw[zQB hn,vL,if_neg (by omega)]
 | f+1,long,h1,h2,hp0,hno=>by
   unfold vL;split
   ·next hle =>
    split
    ·next t ht =>
     obtain⟨hp,l1,l2,rfl,has⟩:=wL0.1 ht;simp only[zCd,wA9,beq_iff_eq] at hp;have hw:zAt D p t=true:=by simp[zAt,hp.1,hp.2,hle]
     have hfind:(l1++t::l2).find? (zAt D p)=some t:=by
      rw[wL0];refine⟨hw,l1,l2,rfl,λa ha=> ?_⟩
      by_cases hwa:zAt D p a=true
      ·have hq:=has a ha;have h3:a.2.1≤t.2.1:=(wL1.1 hs).2.2 a ha t (by simp);have h4:¬a.2.1<(long:Int):=λh=>by rw[hno a (by simp[ha]) h] at hwa;cases hwa
       have h5:a.2.1=(long:Int):=by omega
       simp only[zAt,h5,wD7,wA9,wB3,beq_iff_eq] at hwa;simp[zCd,h5,hwa.2] at hq
      simpa using hwa
     rw[zOz hfind,hp.1];simp
    next hn =>
    refine zOx T D p hs hfit f (long+1) (by omega) (by omega) (by omega) λt ht hl=> ?_
    by_cases h3:t.2.1<(long:Int)
    ·exact hno t ht h3
    have h4:t.2.1=(long:Int):=by omega
    have h5:=wK8.1 hn t ht;rw[←wC6];intro hw;simp only[zAt,h4,wD7,wA9,wB3,beq_iff_eq] at hw;simp[zCd,h4,hw.2] at h5
   next hle =>
   have hn:T.find? (zAt D p)=none:=by
    rw[wK8];intro t ht
    by_cases h3:t.2.1<(long:Int)
    ·simp[hno t ht h3]
    simp[zAt];intro h4;omega
   rw[zQB hn,if_pos (by omega)]
def getGo_out {T:List Tok} {D:List Bool} {p f long:Nat} (h:¬p+long≤D.length):vL T D p (f+1) long=(0,p,3):=by rw[vL,if_neg h]
def getGo_yes {T:List Tok} {D:List Bool} {p f long:Nat} {t:Tok} (h:p+long≤D.length) (hf:T.find? (zCd (long:Int) (yK ((D.drop p).take long):Nat))=some t):vL T D p (f+1) long=(t.1,p+long,0):=by rw[vL,if_pos h,hf]
def getGo_no {T:List Tok} {D:List Bool} {p f long:Nat} (h:p+long≤D.length) (hf:T.find? (zCd (long:Int) (yK ((D.drop p).take long):Nat))=none):vL T D p (f+1) long=vL T D p f (long+1):=by rw[vL,if_pos h,hf]
def getGo_end {T:List Tok} {D:List Bool} {p long:Nat}:vL T D p 0 long=(0,p,4):=by rw[vL]
def zIb (cs:List Int):∀k,(zC cs k).Pairwise λa b=>a.1≤b.1
 | 0=>by simp[zC]
 | k+1=>by
   unfold zC;rw[wL1];refine⟨zIb cs k, ?_,λa ha b hb=> ?_⟩
   ·unfold uF;rw[wL2];intro i j hi hj hij;simp
   have h1:=(zJI cs k).2 a ha;unfold uF at hb;obtain⟨i,-,rfl⟩:=wD2.1 hb;simp only;omega
def zTK (C:List (Nat×Nat)) (xs:List Int) (h:C.Pairwise λa b=>a.1≤b.1) (hl:C.length=xs.length):(zH C xs).Pairwise λa b=>a.2.1≤b.2.1:=by rw[wL2] at h ⊢;intro i j hi hj hij;have e:(zH C xs).length=C.length:=zDB _ _ (by omega);rw[zBT C xs i (by omega) (by omega) hi,zBT C xs j (by omega) (by omega) hj];have:=h i j (by omega) (by omega) hij;simp only;omega
def zipC_fits (cs xs:List Int) (hl:cs.length=16) (hok:okW cs=true) (hC:(zC cs 16).length=xs.length):∀t∈zH (zC cs 16) xs,∃l c:Nat,t.2=((l:Int),(c:Int))∧1≤l∧l≤16∧c<2 ^ l:=by intro t ht;obtain⟨k,hk,rfl⟩:=wL3 ht;have e:(zH (zC cs 16) xs).length=(zC cs 16).length:=zDB _ _ (by omega);rw[zBT _ xs k (by omega) (by omega) hk];obtain⟨f1,f2,f3⟩:=zFR cs hok hl 16 (by omega) _ (wC7 (show k<(zC cs 16).length by omega));exact⟨_,_,rfl,f1,f2,by omega⟩
def zQX (T:List Tok) (l c:Int):zEp T (l,c)=(T.find? (zCd l c)).map λt=>Value.int .i64 t.1:=rfl
