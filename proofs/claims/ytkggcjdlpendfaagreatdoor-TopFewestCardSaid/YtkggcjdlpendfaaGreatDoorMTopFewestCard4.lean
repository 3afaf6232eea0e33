import Derived.Test.YtkggcjdlpendfaaGreatDoorMTopFewestCard3
set_option linter.all false
set_option maxRecDepth 20000
set_option maxHeartbeats 8000000
namespace Go.Proofs.YtkggcjdlpendfaaGreatDoor
open Go.RowKit
def zAE (s:Oper):Oper:={ s with op:=.move (.const undef) }
def fwdB (md:Region.Mode) (ops:Array Oper):Bool :=
 (List.range ops.size).all fun j=>match ops[j]? with | some o=>o.after.all fun e=> !Region.binds md e ||decide (e.on<j) | none=>true
section
variable {P:Program} {C:World→Prop} {head:List Oper} {s:Oper}
def zFA (x:Oper):((head++[x]).toArray)[head.length]? =some x:=by simp
def zMl (x y:Oper) (j:Nat) (h:j≠head.length):((head++[x]).toArray)[j]? =((head++[y]).toArray)[j]? :=by
 simp only[wH5];rcases wA3 j head.length with h1 | h1
 ·rw[wG7 h1,wG7 h1]
 ·rw[wG8 h1,wG8 h1,wH6 (by simp;omega),wH6 (by simp;omega)]
def zLi (md:Region.Mode) (listed:Array Bool) (j:Nat):j∈Region.ready md (head++[zAE s]).toArray listed↔j∈Region.ready md (head++[s]).toArray listed:=by
 rw[mem_ready,mem_ready]
 by_cases hj:j=head.length
 ·subst hj;rw[zFA,zFA];constructor
  ·rintro⟨h1,o,ho,h2⟩;injection ho with ho
   subst ho;exact⟨h1,s,rfl,h2⟩
  ·rintro⟨h1,o,ho,h2⟩;injection ho with ho
   subst ho;exact⟨h1,zAE s,rfl,h2⟩
 ·rw[zMl (zAE s) s j hj]
def zPe (hs:s.dst=none) (tmps:Array Value):yielded (head++[zAE s]).toArray tmps=yielded (head++[s]).toArray tmps:=by
 funext j
 unfold yielded
 by_cases hj:j=head.length
 ·subst hj;rw[zFA,zFA];simp[zAE,hs]
 ·rw[zMl (zAE s) s j hj]
def zTC {md:Region.Mode} {ops:Array Oper} {listed:Array Bool} (hf:fwdB md ops=true) (hr: ∀ j,j∉Region.ready md ops listed) (hsz:listed.size=ops.size): ∀ j,j<ops.size→listed.getD j true=true:=by
 intro j
 induction j using Nat.strongRecOn with
 | _ j ih =>
   intro hj
   cases hl:listed.getD j true with
   | true=>rfl
   | false =>
     refine absurd (mem_ready.2 ⟨hl,ops[j],by simp[hj],fun e he hb=> ?_⟩) (hr j);have h1:=wB5.1 hf j (wB7.2 hj);simp only[hj,wF2] at h1;have h2:=wH7.1 h1 e he;simp only[hb,Bool.not_true,wB8,wB3] at h2;have h3:=ih e.on h2 (by omega);have h4:e.on<listed.size:=by omega
     simpa [h4] using h3
def bridge {Q:Exit→Act→World→Prop} (hs:s.dst=none) (hgd:s.guard=none) (hS:Region.sinkB .any (head++[s]).toArray head.length=true) (hF:fwdB .any (head++[s]).toArray=true) :
 ∀ (f:Nat) (listed:Array Bool) (a:Act) (w:World),HeadInv .any (head++[s]).toArray head.length listed→C w →
  wpAnyQ P .any (head++[zAE s]).toArray C (fun a'=> ∀ w',C w'→s.wp P a' w' (fun a'' w''=>Q .normal a'' w'') Q) f listed a→wpAny P .any (head++[s]).toArray Q f listed a w:=by
 have hsz:(head++[s]).toArray.size=head.length+1:=by simp
 have hC:Region.chainB .any (head++[s]).toArray head.length=true:=by
  unfold Region.chainB;rw[wB5];intro t ht;have:=wB7.1 ht;simp only[wB9,wB3]
  left;omega
 have hno: ∀ listed:Array Bool,HeadInv .any (head++[s]).toArray head.length listed→Region.ready .any (head++[s]).toArray listed=[]→False:=by
  intro listed inv h0;have:=zTC hF (fun j=>by rw[h0];simp) inv.size head.length (by omega);rw[inv.tail head.length (wA5 _) (by omega)] at this;cases this
 intro f
 induction f with
 | zero =>
   intro listed a w inv _ h;refine (hno listed inv ?_).elim;refine wH8.2 fun j hj=> ?_
   have:=(zLi (s:=s) .any listed j).2 hj;rw[h.1] at this;cases this
 | succ f ih =>
   intro listed a w inv hw h;refine⟨fun h0=>(hno listed inv h0).elim,fun i hi=> ?_⟩;have hq:=h.2 i ((zLi (s:=s) .any listed i).2 hi)
   have hlt:i<head.length+1:=by
    obtain⟨-,o,ho, -⟩:=mem_ready.1 hi;have:=(wB6.1 ho).1;omega
   by_cases hin:i<head.length
   ·have hq':qOp P (head++[s]).toArray C i (wpAnyQ P .any (head++[zAE s]).toArray C (fun a'=> ∀ w',C w'→s.wp P a' w' (fun a'' w''=>Q .normal a'' w'') Q) f (listed.setIfInBounds i true)) a:=by
     unfold qOp at hq ⊢;rw[zMl (zAE s) s i (by omega),zPe hs] at hq;exact hq
    exact wpOp_of_qOp hw (fun a' w' hw' hk=>ih _ a' w' (inv.set hi hin) hw' hk) hq'
   ·obtain rfl:i=head.length:=by omega
    -- all others are listed
    have hall: ∀ j,j<head.length→listed.getD j true=true:=by
     intro j hj
     cases hl:listed.getD j true with
     | true=>rfl
     | false=>exact absurd hi (tail_waits hS hC (by omega) inv _ j rfl hj hl head.length (wA5 _))
    have hdone: ∀ md ops,ops.size=head.length+1→Region.ready md ops (listed.setIfInBounds head.length true)=[]:=by
     intro md ops ho;refine wH8.2 fun j hj=> ?_
     obtain⟨h1,o,h2, -⟩:=mem_ready.1 hj;have h3:j<ops.size:=(wB6.1 h2).1
     by_cases hjn:j=head.length
     ·rw[hjn] at h1;have h4:head.length<listed.size:=by rw[inv.size];omega
      simp[h4] at h1
     ·rw[getD_set_ne true (by omega),hall j (by omega)] at h1;cases h1
    have hQ: ∀ w',C w'→s.wp P a w' (fun a'' w''=>Q .normal a'' w'') Q:=by
     unfold qOp at hq;rw[zFA] at hq;have hwn:Region.wanted (zAE s) (yielded (head++[zAE s]).toArray a.tmps)=true:=by simp[Region.wanted,zAE,hgd]
     simp only[hwn,if_true] at hq;obtain⟨v, -,hk⟩:=hq;have hput:a.put (zAE s).dst v=a:=by simp[zAE,hs,Act.put]
     rw[hput] at hk
     cases f with
     | zero=>exact hk.2
     | succ f=>exact hk.1 (hdone _ _ (by simp))
    have hwp:=Oper.wp_mono (K':=wpAny P .any (head++[s]).toArray Q f (listed.setIfInBounds head.length true)) (fun a' w' hk=>by
     cases f with
     | zero=>exact⟨hdone _ _ hsz,hk⟩
     | succ f=>exact⟨fun _=>hk,fun i hi=>by rw[hdone _ _ hsz] at hi;cases hi⟩) (hQ w hw)
    unfold wpOp;rw[zFA];have hwn:Region.wanted s (yielded (head++[s]).toArray a.tmps)=true:=by simp[Region.wanted,hgd]
    simp only[hwn,if_true];exact .inl hwp
def zMf {ops:Array Oper} {Q:Act→Prop} (m:List Oper): ∀ (l:List Oper) (a:Act),wpQuiet P ops C (fun a'=>wpQuiet P ops C Q m a') l a→wpQuiet P ops C Q (l++m) a:=by
 intro l
 induction l with
 | nil=>intro a h;exact h
 | cons o l ih =>
   intro a h;show wpQuiet P ops C Q (o::(l++m)) a
   unfold wpQuiet at h ⊢;split
   ·next hw=>rw[if_pos hw] at h;exact Oper.quiet_mono (fun a' h'=>ih a' h') h
   ·next hw=>rw[if_neg hw] at h;exact ih _ h
def zOu {ops:Array Oper} {Q Q':Act→Prop} (hQ: ∀ a,Q a→Q' a): ∀ (l:List Oper) (a:Act),wpQuiet P ops C Q l a→wpQuiet P ops C Q' l a:=by
 intro l
 induction l with
 | nil=>intro a h;exact hQ a h
 | cons o l ih =>
   intro a h;unfold wpQuiet at h ⊢;split
   ·next hw=>rw[if_pos hw] at h;exact Oper.quiet_mono (fun a' h'=>ih a' h') h
   ·next hw=>rw[if_neg hw] at h;exact ih _ h
def zGf {id:Nat} {Q:Exit→Act→World→Prop} {a:Act} {w:World} (hm:P.follows .mixedOrders=true) (hs:s.dst=none) (hgd:s.guard=none)
 (hB:Region.lexB .any (head++[zAE s]).toArray=true) (hS:Region.sinkB .any (head++[s]).toArray head.length=true) (hF:fwdB .any (head++[s]).toArray=true) (hC:C { w with drawn:=w.drawn+1 })
 (h:wpQuiet P (head++[zAE s]).toArray C (fun a'=> ∀ w',C w'→s.wp P a' w' (fun a'' w''=>Q .normal a'' w'') Q) head a):(Code.region id (head++[s]).toArray true).wp P Q a w:=by
 simp only[Region.lexB,wA9] at hB;refine wp_region_any hm ?_
 have hq:wpQuiet P (head++[zAE s]).toArray C (fun a'=> ∀ w',C w'→s.wp P a' w' (fun a'' w''=>Q .normal a'' w'') Q) (head++[zAE s]) a:=by
  refine zMf [zAE s] head a ?_;refine zOu ?_ head a h;intro a' ha';refine zEP (by simp[Region.wanted,zAE,hgd]) (.const undef) rfl undef rfl ?_;have hput:a'.put (zAE s).dst undef=a':=by simp[zAE,hs,Act.put]
  rw[hput];exact ha'
 have H:=wpAnyQ_lex (C:=C) (md:=.any) hB.1 (head++[zAE s]) 0 (Array.replicate (head++[zAE s]).toArray.size false) a (by simp) (by simpa using hB.2) hq;have e:(head++[zAE s]).length=(head++[s]).toArray.size:=by simp
 have e2:(head++[zAE s]).toArray.size=(head++[s]).toArray.size:=by simp
 rw[e,e2] at H;exact bridge hs hgd hS hF _ _ a _ ⟨by simp,fun j oj _ hl=>(by rw[getD_replicate_false] at hl;cases hl),fun t _ ht=>getD_in (by simpa using ht) (getD_replicate_false _ _)⟩ hC H
def zGh {l:List Oper} {id:Nat} {Q:Exit→Act→World→Prop} {a:Act} {w:World} (hl:l.dropLast++[s]=l) (hm:P.follows .mixedOrders=true) (hs:s.dst=none) (hgd:s.guard=none)
 (hB:Region.lexB .any (l.dropLast++[zAE s]).toArray=true) (hS:Region.sinkB .any l.toArray l.dropLast.length=true) (hF:fwdB .any l.toArray=true) (hC:C { w with drawn:=w.drawn+1 })
 (h: ∀ ops:Array Oper,wpQuiet P ops C (fun a'=> ∀ w',C w'→s.wp P a' w' (fun a'' w''=>Q .normal a'' w'') Q) l.dropLast a):(Code.region id l.toArray true).wp P Q a w:=by
 have:=zGf (head:=l.dropLast) (s:=s) (id:=id) (Q:=Q) (a:=a) (w:=w) (C:=C) hm hs hgd hB (by rw[hl];exact hS) (by rw[hl];exact hF) hC (h _)
 rwa [hl] at this
end
section
variable {P:Program} {ops:Array Oper} {C:World→Prop} {Q:Act→Prop} {a:Act} {o:Oper} {rest:List Oper}
def q_addr (hw:Region.wanted o (yielded ops a.tmps)=true) (t:TypeId) (x ix:Operand) (ho:o.op=.indexAddr t x ix) (vx vi:Value) (hx:a.eval x=vx) (hi:a.eval ix=vi) (v:Value) (hr: ∀ w,(Instr.indexAt t vx vi).run P w=.ok v w) (h:wpQuiet P ops C Q rest (a.put o.dst v)):wpQuiet P ops C Q (o::rest) a :=
 q_run hw v (fun w=>by simp[execOp,ho,hx,hi,hr]) h
def q_load (hw:Region.wanted o (yielded ops a.tmps)=true) (t:TypeId) (x:Operand) (ho:o.op=.load t x) (vx:Value) (hx:a.eval x=vx) (v:Value) (hr: ∀ w,C w→(Instr.loadAt t vx).run P w=.ok v w) (h:wpQuiet P ops C Q rest (a.put o.dst v)):wpQuiet P ops C Q (o::rest) a :=
 q_at hw v (fun w hC=>by unfold Oper.quietAt;simp[execOp,ho,hx,hr w hC,Oper.quietUpon]) h
def q_callV (hw:Region.wanted o (yielded ops a.tmps)=true) (f:FuncId) (x:Operand) (xs:Array Operand) (ts:Array TypeId)
 (ho:o.op=.call { callee:=.value x,args:=xs,argTypes:=ts }) (hf:a.eval x=.func (.func f) #[] #[]) (he: ∀ (args:Array Value) (w:World),(callFunc f args).run P w=.ok (.enter f args) w) (args:Array Value) (hx:xs.map a.eval=args) (v:Value)
 (hc: ∀ w,C w→Calls P f (args++ #[]) w fun e w'=>e=.returned v∧C w') (h:wpQuiet P ops C Q rest (a.put o.dst v)):wpQuiet P ops C Q (o::rest) a:=by
 refine q_call hw f (args++ #[]) (fun w=> ?_) v hc h;simp[execOp,ho,resolve,hx,hf,Deferred.ofValue,invoke,he]
end
def zGw:Nat→(Nat→Int)→Int
 | 0,_=>0
 | n+1,f=>zGw n f+f n
def zSF (n:Nat) (f:Nat→Int):zGw (n+1) f=zGw n f+f n:=rfl
def sumTo_bd (n:Nat) (f:Nat→Int) (M:Int) (h: ∀ k,k<n→ -M≤f k∧f k≤M): -(n*M)≤zGw n f∧zGw n f≤n*M:=by
 induction n with
 | zero=>simp[zGw]
 | succ n ih =>
   have a:=ih fun k hk=>h k (by omega)
   have b:=h n (by omega);rw[zSF,Int.natCast_succ,Int.add_mul,Int.one_mul];omega
def zAZ (C:Nat→Nat→Int) (b:List Int) (i row k:Nat):Int:=zGw k (fun k=>b.getD (8*row+k) 0*C i k)
def uV (C:Nat→Nat→Int) (b:List Int):List Int:=(List.range 64).map fun m=>zAZ C b (m/8) (m%8) 8
def zEj (C:Nat→Nat→Int) (b:List Int):(uV C b).length=64:=by simp[uV]
def term_bd (x y M K:Int) (hM:0≤M) (h1: -M≤x) (h2:x≤M) (h3: -K≤y) (h4:y≤K): -(M*K)≤x*y∧x*y≤M*K:=by
 have hK:0≤K:=by omega
 rcases Int.le_total 0 y with hy | hy
 ·have e1:x*y≤M*y:=wD9 h2 hy;have e2:M*y≤M*K:=wE0 h4 hM;have e3: -M*y≤x*y:=wD9 h1 hy;rw[Int.neg_mul] at e3;omega
 ·have e1:x*(-y)≤M*(-y):=wD9 h2 (by omega);have e2:M*(-y)≤M*K:=wE0 (by omega) hM;have e3: -M*(-y)≤x*(-y):=wD9 h1 (by omega);simp only[Int.mul_neg,Int.neg_mul,Int.neg_neg] at e1 e2 e3;omega
def zLM (C:Nat→Nat→Int) (b:List Int) (M:Int) (hM:0≤M) (hb: ∀ z∈b, -M≤z∧z≤M) (hC: ∀ i k,i<8→k<8→ -4096≤C i k∧C i k≤4096) (i row k:Nat) (hi:i<8) (hk:k≤8) :
 -(8*(M*4096))≤zAZ C b i row k∧zAZ C b i row k≤8*(M*4096):=by
 have:=sumTo_bd k (fun k=>b.getD (8*row+k) 0*C i k) (M*4096) (fun j hj=>by
  have hz: -M≤b.getD (8*row+j) 0∧b.getD (8*row+j) 0≤M:=by
   rw[wF4];rcases wA3 (8*row+j) b.length with h | h
   ·rw[wA2 h];exact hb _ (wE2 h)
   ·rw[wH6 h];simp;omega
  have hc:=hC i j hi (by omega)
  exact term_bd _ _ M 4096 hM hz.1 hz.2 hc.1 hc.2)
 have h0:0≤M*4096:=Int.mul_nonneg hM (by omega);have h1:(k:Int)*(M*4096)≤8*(M*4096):=wD9 (by omega) h0;unfold zAZ;omega
def zNP (C:Nat→Nat→Int) (b:List Int) (M:Int) (hM:0≤M) (hb: ∀ z∈b, -M≤z∧z≤M) (hC: ∀ i k,i<8→k<8→ -4096≤C i k∧C i k≤4096) :
 ∀ z∈uV C b, -(8*(M*4096))≤z∧z≤8*(M*4096):=by
 intro z hz;unfold uV at hz;obtain⟨m,hm,rfl⟩:=wD6.1 hz;have:m<64:=by simpa using hm
 exact zLM C b M hM hb hC _ _ 8 (by omega) (by omega)
def zFt (C:Nat→Nat→Int) (b:List Int) (row i k m:Nat):Int :=
 if m%8<row then zAZ C b (m/8) (m%8) 8
 else if m%8=row then (if m/8<i then zAZ C b (m/8) (m%8) 8 else if m/8=i then zAZ C b (m/8) (m%8) k else 0) else 0
def uS (C:Nat→Nat→Int) (b:List Int) (row i k:Nat):List Int:=(List.range 64).map (zFt C b row i k)
def range_set (f g:Nat→Int) (m0:Nat) (v:Int) (_:m0<64) (h1:g m0=v) (h2: ∀ m,m≠m0→g m=f m):((List.range 64).map f).set m0 v=(List.range 64).map g:=by
 refine wH9 (by simp) fun m h3 h4=> ?_
 rw[wI0];split
 ·next h=>subst h;simp[h1]
 ·next h=>simp[h2 m (fun e=>h e.symm)]
def partL_len (C:Nat→Nat→Int) (b:List Int) (row i k:Nat):(uS C b row i k).length=64:=by simp[uS]
def zRY (C:Nat→Nat→Int) (b:List Int):uS C b 0 0 0=List.replicate 64 0:=by
 refine wH9 (by simp[uS]) fun m h1 h2=> ?_
 simp only[uS,wI1,wI2,List.getElem_replicate];unfold zFt zAZ;split
 ·omega
 ·split
  ·split
   ·omega
   ·split<;>rfl
  ·rfl
def partL_end (C:Nat→Nat→Int) (b:List Int):uS C b 8 0 0=uV C b:=by
 refine wI3 fun m hm=> ?_
 have:m<64:=by simpa using hm
 unfold zFt;rw[if_pos (by omega)]
def partL_row (C:Nat→Nat→Int) (b:List Int) (row:Nat):uS C b row 8 0=uS C b (row+1) 0 0:=by
 refine wI3 fun m hm=> ?_
 have:m<64:=by simpa using hm
 unfold zFt
 by_cases h1:m%8<row
 ·rw[if_pos h1,if_pos (by omega)]
 ·rw[if_neg h1]
  by_cases h2:m%8=row
  ·rw[if_pos h2,if_pos (by omega),if_pos (by omega)]
  ·rw[if_neg h2,if_neg (by omega)];split
   ·rw[if_neg (by omega)];split<;>rfl
   ·rfl
def zRb (C:Nat→Nat→Int) (b:List Int) (row i:Nat):uS C b row i 8=uS C b row (i+1) 0:=by
 refine wI3 fun m hm=> ?_
 have:m<64:=by simpa using hm
 unfold zFt
 by_cases h1:m%8<row
 ·rw[if_pos h1,if_pos h1]
 ·rw[if_neg h1,if_neg h1]
  by_cases h2:m%8=row
  ·rw[if_pos h2,if_pos h2]
   by_cases h3:m/8<i
   ·rw[if_pos h3,if_pos (by omega)]
   ·rw[if_neg h3]
    by_cases h4:m/8=i
    ·rw[if_pos h4,if_pos (by omega)]
    ·rw[if_neg h4,if_neg (by omega)];split<;>rfl
  ·rw[if_neg h2,if_neg h2]
def partL_at (C:Nat→Nat→Int) (b:List Int) (row i k:Nat) (hr:row<8) (_:i<8) (h:8*i+row<(uS C b row i k).length):(uS C b row i k)[8*i+row]=zAZ C b i row k:=by
 simp only[uS,wI1,wI2];unfold zFt;rw[if_neg (by omega),if_pos (by omega),if_neg (by omega),if_pos (by omega),show (8*i+row)/8=i by omega,show (8*i+row)%8=row by omega]
def partL_set (C:Nat→Nat→Int) (b:List Int) (row i k:Nat) (hr:row<8) (_:i<8):(uS C b row i k).set (8*i+row) (zAZ C b i row (k+1))=uS C b row i (k+1):=by
 refine range_set _ _ _ _ (by omega) ?_ ?_
 ·unfold zFt;rw[if_neg (by omega),if_pos (by omega),if_neg (by omega),if_pos (by omega),show (8*i+row)/8=i by omega,show (8*i+row)%8=row by omega]
 ·intro m hm;unfold zFt
  by_cases h1:m%8<row
  ·rw[if_pos h1,if_pos h1]
  ·rw[if_neg h1,if_neg h1]
   by_cases h2:m%8=row
   ·rw[if_pos h2,if_pos h2]
    by_cases h3:m/8<i
    ·rw[if_pos h3,if_pos h3]
    ·rw[if_neg h3,if_neg h3,if_neg (by omega),if_neg (by omega)]
   ·rw[if_neg h2,if_neg h2]
def zPu (C:Nat→Nat→Int) (b:List Int) (i row k:Nat):zAZ C b i row (k+1)=zAZ C b i row k+b.getD (8*row+k) 0*C i k:=rfl
def zND (gf:Nat) (eg:uB Tryz.prog gf) (C:Nat→Nat→Int) (zs:List Int) (M:Int) (w:World) (hz:zs.length=64) (hM:0≤M) (hM2:M≤2000000000) (hzb: ∀ z∈zs, -M≤z∧z≤M)
 (hC: ∀ i k,i<8→k<8→ -4096≤C i k∧C i k≤4096)
 (hF: ∀ i k W,i<8→k<8→Calls Tryz.prog gf (#[.int .i64 (i:Nat),.int .i64 (k:Nat)]++ #[]) W fun e w'=>e=.returned (.int .i64 (C i k))∧Ext W w') :
 Calls Tryz.prog 143 #[.agg (bv zs),.func (.func gf) #[] #[]] w fun e w'=>e=.returned (.agg (bv (uV C zs)))∧Ext w w':=by
 have HZ:=zA hz;have HAT:=zA (fun k (hk:k<zs.length)=>qK zs k hk);have HZB:=zA hzb;have HCB:=zA hC;have HBD:=zA (zLM C zs M hM hzb hC);have HFF:=zA hF;have HEG:=zA eg;clear hzb hC hF eg;generalize hc0:bv zs=cz at *;clear hz hc0;go_enter Tryz.func143,Tryz.ntmps143
 go_wp2_with (first
  | (refine wBox rfl 33 (.tmp 0) rfl cz rfl ?_;intro w1 gz hbz1 hx1 hgz)
  | (refine wAlo' rfl (some 4) rfl 33 rfl _ qU ?_;intro w2 go hbo2 hx2 hgo;have hbz2:=hbz1.ext hx2))
 have hne:go≠gz:=by have:=hbz1.lt;omega
 have hgo':w.heap.size≤go:=by have:=hx1.size;omega
 have hxx:=hx1.trans hx2;clear hbz1 hx1 hx2
 go_loopw [8] (fun i wr=> ∃ row:Nat,row≤8∧i=.int .i64 (row:Int)∧Blk wr gz 33 cz∧Blk wr go 33 (bv (uS C zs row 0 0))∧Ext w wr) (fun i _=>8-(intOf i).toNat)
 case atStart=>exact⟨0,by omega,rfl,hbz2,by rw[zRY];exact hbo2,hxx⟩
 case round =>
  clear hbz2 hbo2 hxx;obtain⟨row,hrow,rfl,hbz,hbo,hx⟩:=hrel
  by_cases hlr:row<8
  ·go_wp2_with fail
   go_loopw [11] (fun i wr=> ∃ j:Nat,j≤8∧i=.int .i64 (j:Int)∧Blk wr gz 33 cz∧Blk wr go 33 (bv (uS C zs row j 0))∧Ext w wr) (fun i _=>8-(intOf i).toNat)
   case atStart=>exact⟨0,by omega,rfl,hbz,hbo,hx⟩
   case round =>
    clear hbz hbo hx;obtain⟨j,hj,rfl,hbz,hbo,hx⟩:=hrel
    by_cases hlj:j<8
    ·go_wp2_with fail
     go_loopw [14] (fun i wr=> ∃ k:Nat,k≤8∧i=.int .i64 (k:Int)∧Blk wr gz 33 cz∧Blk wr go 33 (bv (uS C zs row j k))∧Ext w wr) (fun i _=>8-(intOf i).toNat)
     case atStart=>exact⟨0,by omega,rfl,hbz,hbo,hx⟩
     case round =>
      clear hbz hbo hx;obtain⟨k,hk,rfl,hbz,hbo,hx⟩:=hrel
      by_cases hlk:k<8
      ·have hcall:=zA (fun W=>HFF.out j k W hlj hlk);have hzl:8*row+k<zs.length:=by have:=HZ.out;omega
       have hlz': ∀ W,Blk W gz 33 cz→W.cell? ⟨gz,8*row+k,none⟩=some (.int .i64 zs[8*row+k]):=fun W h=>(h.cell _).trans (HAT.out _ hzl)
       have hlz:=hlz' wr hbz;have hol:8*j+row<(uS C zs row j k).length:=by rw[partL_len];omega
       have hlo': ∀ W,Blk W go 33 (bv (uS C zs row j k))→W.cell? ⟨go,8*j+row,none⟩=some (.int .i64 (zAZ C zs j row k)):=fun W h=>(h.cell _).trans (by rw[qK _ _ hol,partL_at C zs row j k hlr hlj hol])
       have hlo:=hlo' wr hbo;have hfr:=hbo.frozen (8*j+row);obtain⟨z1,z2⟩:=HZB.out _ (wE2 hzl);obtain⟨c1,c2⟩:=HCB.out j k hlj hlk;obtain⟨m1,m2⟩:=term_bd _ _ M 4096 hM z1 z2 c1 c2;obtain⟨s1,s2⟩:=HBD.out j row k hlj hk;have HS:=zA (zPu C zs j row k);have HD:Hid (zs.getD (8*row+k) 0=zs[8*row+k]):=zA (by simp[hzl]);clear z1 z2 c1 c2;generalize C j k=c at *;generalize zAZ C zs j row k=s at *;generalize zs[8*row+k]=z at *;go_wp2_with fail
       have step: ∀ W,(Ext w W∧Blk W gz 33 cz∧Blk W go 33 (bv (uS C zs row j k)))→Calls Tryz.prog gf (#[.int .i64 (j:Nat),.int .i64 (k:Nat)]++ #[]) W fun e w'=>e=.returned (.int .i64 c)∧(Ext w w'∧Blk w' gz 33 cz∧Blk w' go 33 (bv (uS C zs row j k))) :=
        fun W ⟨h1,h2,h3⟩=>(hcall.out W).mono fun e w' ⟨he,hx⟩=>⟨he,h1.trans hx,h2.ext hx,h3.ext hx⟩
       refine zGh (C:=fun W=>Ext w W∧Blk W gz 33 cz∧Blk W go 33 (bv (uS C zs row j k))) rfl (by kernel_rfl) rfl rfl (by kernel_rfl) (by kernel_rfl) (by kernel_rfl) ⟨hx.drew,hbz.drew,hbo.drew⟩ (fun opsq=> ?_);simp only[List.dropLast_cons_cons,List.dropLast_singleton];refine zEP rfl _ rfl (.int .i64 (j:Int)) rfl ?_;simp only[Act.put,sA,sB,sC];refine zFG rfl .mul 3 _ _ _ rfl (.int .i64 8) (.int .i64 (j:Int)) rfl rfl (.int .i64 ((8*j:Nat):Int)) (zGT _ _ _ _ _) (zHE _ _ _ (by rw[IntWalk.i64_in _ (by omega)];omega)) ?_;simp only[Act.put,sA,sB,sC];refine zEP rfl _ rfl (.int .i64 (row:Int)) rfl ?_;simp only[Act.put,sA,sB,sC];refine zFG rfl .add 3 _ _ _ rfl (.int .i64 ((8*j:Nat):Int)) (.int .i64 (row:Int)) rfl rfl (.int .i64 ((8*j+row:Nat):Int)) (zGT _ _ _ _ _) (zFN _ _ _ (by rw[IntWalk.i64_in _ (by omega)];omega)) ?_;simp only[Act.put,sA,sB,sC];refine q_addr rfl 33 _ _ rfl (.pointer (some ⟨go,0,none⟩)) (.int .i64 ((8*j+row:Nat):Int)) rfl rfl (.pointer (some ⟨go,8*j+row,none⟩)) (zGj _ _ (by omega)) ?_;simp only[Act.put,sA,sB,sC];refine q_load rfl 3 _ rfl (.pointer (some ⟨go,8*j+row,none⟩)) rfl (.int .i64 s) (fun W hW=>zIs W _ _ (hlo' W hW.2.2)) ?_;simp only[Act.put,sA,sB,sC];refine zEP rfl _ rfl (.int .i64 (row:Int)) rfl ?_;simp only[Act.put,sA,sB,sC];refine zFG rfl .mul 3 _ _ _ rfl (.int .i64 8) (.int .i64 (row:Int)) rfl rfl (.int .i64 ((8*row:Nat):Int)) (zGT _ _ _ _ _) (zHE _ _ _ (by rw[IntWalk.i64_in _ (by omega)];omega)) ?_;simp only[Act.put,sA,sB,sC];refine zEP rfl _ rfl (.int .i64 (k:Int)) rfl ?_;simp only[Act.put,sA,sB,sC];refine zFG rfl .add 3 _ _ _ rfl (.int .i64 ((8*row:Nat):Int)) (.int .i64 (k:Int)) rfl rfl (.int .i64 ((8*row+k:Nat):Int)) (zGT _ _ _ _ _) (zFN _ _ _ (by rw[IntWalk.i64_in _ (by omega)];omega)) ?_;simp only[Act.put,sA,sB,sC];refine q_addr rfl 33 _ _ rfl (.pointer (some ⟨gz,0,none⟩)) (.int .i64 ((8*row+k:Nat):Int)) rfl rfl (.pointer (some ⟨gz,8*row+k,none⟩)) (zGj _ _ (by omega)) ?_;simp only[Act.put,sA,sB,sC];refine q_load rfl 3 _ rfl (.pointer (some ⟨gz,8*row+k,none⟩)) rfl (.int .i64 z) (fun W hW=>zIs W _ _ (hlz' W hW.2.1)) ?_;simp only[Act.put,sA,sB,sC];refine zEP rfl _ rfl (.func (.func gf) #[] #[]) rfl ?_;simp only[Act.put,sA,sB,sC];refine zEP rfl _ rfl (.int .i64 (j:Int)) rfl ?_;simp only[Act.put,sA,sB,sC];refine zEP rfl _ rfl (.int .i64 (k:Int)) rfl ?_;simp only[Act.put,sA,sB,sC];refine q_callV rfl gf _ _ _ rfl rfl HEG.out #[.int .i64 (j:Int),.int .i64 (k:Int)] (by simp[Act.eval]) (.int .i64 c) step ?_;simp only[Act.put,sA,sB,sC];refine zFG rfl .mul 3 _ _ _ rfl (.int .i64 z) (.int .i64 c) rfl rfl (.int .i64 (z*c)) (zGT _ _ _ _ _) (zHE _ _ _ (IntWalk.i64_in _ (by omega))) ?_;simp only[Act.put,sA,sB,sC];refine zFG rfl .add 3 _ _ _ rfl (.int .i64 s) (.int .i64 (z*c)) rfl rfl (.int .i64 (s+z*c)) (zGT _ _ _ _ _) (zFN _ _ _ (IntWalk.i64_in _ (by omega))) ?_;simp only[Act.put,sA,sB,sC];refine q_addr rfl 33 _ _ rfl (.pointer (some ⟨go,0,none⟩)) (.int .i64 ((8*j+row:Nat):Int)) rfl rfl (.pointer (some ⟨go,8*j+row,none⟩)) (zGj _ _ (by omega)) ?_;simp only[Act.put,sA,sB,sC];refine wpQuiet_nil ?_;clear hx hbz hbo hlo hlz hfr;intro w6 hw6;obtain⟨hx,hbz,hbo⟩:=hw6;have hlo:=hlo' w6 hbo;have hfr:=hbo.frozen (8*j+row);refine zNZ _ _ rfl ⟨go,8*j+row,none⟩ (s+z*c) rfl rfl _ hlo hfr ?_;simp only[Act.put,sA,sB,sC];clear step hlo' hlz';go_wp2_with fail;go_roundw
       case rel =>
        refine⟨k+1,by omega,by go_num,hbz.far (p:=⟨go,8*j+row,none⟩) (by simpa using hne.symm) _, ?_,hx.setCell (by omega) _⟩;have:=hbo.set_ (8*j+row) (.int .i64 (s+z*c));rw[jO] at this;have e:=partL_set C zs row j k hlr hlj;rw[HS.out,HD.out] at e;rw[e] at this;exact this
       case measure=>simp[intOf];omega
      ·obtain rfl:k=8:=by omega
       rw[zRb] at hbo;go_wp2_with fail;go_roundw
       case rel=>exact⟨j+1,by omega,by go_num,hbz,hbo,hx⟩
       case measure=>simp[intOf];omega
    ·obtain rfl:j=8:=by omega
     rw[partL_row] at hbo;go_wp2_with fail;go_roundw
     case rel=>exact⟨row+1,by omega,by go_num,hbz,hbo,hx⟩
     case measure=>simp[intOf];omega
  ·obtain rfl:row=8:=by omega
   rw[partL_end] at hbo;have hs:Hid ((bv (uV C zs)).size=64):=zA (by rw[zK,zEj]);have ho:=zA (xE (uV C zs));generalize hcr:bv (uV C zs)=cr at *;have HC:=zA hcr;clear hcr
   go_wp2_with (first
    | (refine wLdB rfl 33 (.tmp 4) rfl _ rfl hbo _ Tryz.underlying33 rfl 64 zH hs.out ?_)
    | (refine wStB rfl 33 (.tmp 4) (.tmp 39) rfl _ _ rfl rfl hbo 64 zH hs.out hs.out ho.out ?_;intro w7 hb7 hg7))
   exact zAy rfl rfl _ rfl hb7 _ Tryz.underlying33 rfl 64 zH hs.out ⟨by rw[HC.out],hx.grown hg7 hgo'⟩
def mid_set (F:Int→Int) (zs:List Int) (k:Nat) (hz:k<zs.length):((zs.take k).map F++zs.drop k).set k (F zs[k])=(zs.take (k+1)).map F++zs.drop (k+1):=by
 have hl:((zs.take k).map F).length=k:=by simp;omega
 rw[wF8 _ _ (by omega),hl,wF9,wG3 hz,wG1,wC3 hz,wH4];simp
def mid_len (F:Int→Int) (zs:List Int) (k:Nat) (hk:k≤zs.length):((zs.take k).map F++zs.drop k).length=zs.length:=by
 simp;omega
def wl:List Int:=[4096,4017,3784,3406,2896,2276,1567,799,0, -799, -1567, -2276, -2896, -3406, -3784, -4017, -4096, -4017, -3784, -3406, -2896, -2276, -1567, -799,0,799,1567,2276,2896,3406,3784,4017]
def wv (k:Nat):Int:=wl.getD k 0
def zEF (u x:Nat):Int:=if u=0 then 2896 else wv (u*(2*x+1)%32)
def wv_hi (k:Nat) (h1:16<k) (h2:k<32):wv (32-k)=wv k :=
 (by decide: ∀ j:Fin 32,16<j.val→wv (32-j.val)=wv j.val) ⟨k,h2⟩ h1
def wv_mid (k:Nat) (h1:8<k) (h2:k≤16): -wv (16-k)=wv k :=
 (by decide: ∀ j:Fin 17,8<j.val→ -wv (16-j.val)=wv j.val) ⟨k,by omega⟩ h1
def zNm (k:Nat) (h:k<32): -4096≤wv k∧wv k≤4096 :=
 (by decide: ∀ j:Fin 32, -4096≤wv j.val∧wv j.val≤4096) ⟨k,h⟩
def zSL: ∀ k,k≤8→(#[Value.int .i64 4096,.int .i64 4017,.int .i64 3784,.int .i64 3406,.int .i64 2896,.int .i64 2276,.int .i64 1567,.int .i64 799,.int .i64 0]:Array Value)[k]? =some (.int .i64 (wv k)):=by
 intro k hk;have:k=0∨k=1∨k=2∨k=3∨k=4∨k=5∨k=6∨k=7∨k=8:=by omega
 rcases this with rfl | rfl | rfl | rfl | rfl | rfl | rfl | rfl | rfl<;>rfl
def zQa (k:Nat) (w:World) (hk:k≤8):Calls Tryz.prog 144 #[.int .i64 k] w fun e w'=>e=.returned (.int .i64 (wv k))∧Ext w w':=by
 have hq:=zSL k hk;go_enter Tryz.func144,Tryz.ntmps144;go_wp2_with fail;go_ret;exact⟨rfl,(Ext.refl w).alloc _⟩
def zPn (k:Nat) (w:World) (hk:k≤16):Calls Tryz.prog 144 #[.int .i64 k] w fun e w'=>e=.returned (.int .i64 (wv k))∧Ext w w':=by
 by_cases h8:k≤8
 ·exact zQa k w h8
 ·have hb:=zNm (16-k) (by omega);obtain⟨hb1,hb2⟩:=hb;have hm:=zA (wv_mid k (by omega) hk);have hc:=zA (fun W=>zQa (16-k) W (by omega));rw[show ((16-k:Nat):Int)=16-(k:Int) by omega] at hc;go_enter Tryz.func144,Tryz.ntmps144;go_wp2_with fail;refine (hc.out _).mono ?_;rintro e w' ⟨rfl,hx⟩;go_wp2_with fail;go_ret;exact⟨by rw[←hm.out];rfl,((Ext.refl w).alloc _).trans hx⟩
def turn_any (k:Nat) (w:World) (hk:k<32):Calls Tryz.prog 144 #[.int .i64 k] w fun e w'=>e=.returned (.int .i64 (wv k))∧Ext w w':=by
 by_cases h8:k≤16
 ·exact zPn k w h8
 ·have hm:=zA (wv_hi k (by omega) hk);have hc:=zA (fun W=>zPn (32-k) W (by omega));rw[show ((32-k:Nat):Int)=32-(k:Int) by omega] at hc;go_enter Tryz.func144,Tryz.ntmps144;go_wp2_with fail;refine (hc.out _).mono ?_;rintro e w' ⟨rfl,hx⟩;go_wp2_with fail;go_ret;exact⟨by rw[←hm.out];rfl,((Ext.refl w).alloc _).trans hx⟩
def zNS (u x:Nat) (w:World) (hu:u≤7) (hx:x≤7):Calls Tryz.prog 93 #[.int .i64 u,.int .i64 x] w fun e w'=>e=.returned (.int .i64 (zEF u x))∧Ext w w':=by
 by_cases h0:u=0
 ·subst h0;go_enter Tryz.func93,Tryz.ntmps93;go_wp2_with fail;go_ret;exact⟨rfl,Ext.refl w⟩
 ·have hp:(u:Int)*(2*x+1)≤7*(2*x+1):=wD9 (by omega) (by omega);have hp2:0≤(u:Int)*(2*x+1):=Int.mul_nonneg (by omega) (by omega);have hm:(u:Int)*(2*x+1)%32=((u*(2*x+1)%32:Nat):Int):=by simp
  have hc:=zA (fun W=>turn_any (u*(2*x+1)%32) W (wF6 _ (by omega)));rw[←hm] at hc;have hf:zEF u x=wv (u*(2*x+1)%32):=by unfold zEF;rw[if_neg h0]
  have HF:=zA hf;have hne:((u:Int) ==0)=false:=by simpa using h0
  clear hm hf h0;go_enter Tryz.func93,Tryz.ntmps93;go_wp2_with fail;refine (hc.out _).mono ?_;rintro e w' ⟨rfl,hx⟩;go_wp2_with fail;go_ret;exact⟨by rw[HF.out];rfl,hx⟩
def roundF (n:Int):Int:=rnd n 67108864
def waveL (C:Nat→Nat→Int) (zs:List Int):List Int:=(uV C (uV C zs)).map roundF
def waveL_len (C:Nat→Nat→Int) (zs:List Int):(waveL C zs).length=64:=by simp[waveL,zEj]
def zOP (z:Int) (w:World):Calls Tryz.prog 142 (#[.int .i64 z]++ #[]) w fun e w'=>e=.returned (.bool (!inB z (-40000) 40000))∧w=w':=by
 by_cases h:z< -40000
 ·have h':decide (z< -40000)=true:=by simpa using h
  have e:(!inB z (-40000) 40000)=true:=by rw[zAI.2 (.inl h)];rfl
  rw[e];clear e;go_enter Tryz.func142,Tryz.ntmps142;go_wp2_with fail;go_ret;exact⟨rfl,rfl⟩
 ·have h':decide (z< -40000)=false:=by simpa using h
  have e:(!inB z (-40000) 40000)=decide (40000<z):=by rw[wE3,wE4,zAI];simp;omega
  rw[e];clear e;go_enter Tryz.func142,Tryz.ntmps142;go_wp2_with fail;go_ret;exact⟨rfl,rfl⟩
def zJD:uB Tryz.prog 142:=zAW Tryz.func142 (by kernel_rfl) rfl
def wboth_in (gf:Nat) (eg:uB Tryz.prog gf) (C:Nat→Nat→Int) (zs:List Int) (w:World) (hz:zs.length=64) (hal:zR zs (-40000) 40000=true)
 (hC: ∀ i k,i<8→k<8→ -4096≤C i k∧C i k≤4096)
 (hF: ∀ i k W,i<8→k<8→Calls Tryz.prog gf (#[.int .i64 (i:Nat),.int .i64 (k:Nat)]++ #[]) W fun e w'=>e=.returned (.int .i64 (C i k))∧Ext W w') :
 Calls Tryz.prog 92 #[.agg (bv zs),.func (.func gf) #[] #[]] w fun e w'=>e=.returned (.tuple #[.agg (bv (waveL C zs)),.int .i64 0])∧Ext w w':=by
 have hzb: ∀ z∈zs, -40000≤z∧z≤40000:=yD.1 hal;have hb1:=zNP C zs 40000 (by omega) hzb hC;have hb2:=zNP C (uV C zs) (8*(40000*4096)) (by omega) hb1 hC;have H1:=zA (fun W=>zND gf eg C zs 40000 W hz (by omega) (by omega) hzb hC hF);have H2:=zA (fun W=>zND gf eg C (uV C zs) (8*(40000*4096)) W (zEj _ _) (by omega) (by omega) hb1 hC hF);have HSL:=zA (fun (W:World) g (h:Blk W g 33 (bv zs))=>h.bsl (c:=64) (by omega) (by omega));rw[hz] at HSL;have HCF:=zA (fun W v (hs:SL W 1 v 64 (ints zs))=>jU 142 #[] (fun z=> !inB z (-40000) 40000) zJD v zs W (by rw[hz];exact hs) (fun z _=>zOP z W));simp only[zDH,hal] at HCF;have HW:=zA (show waveL C zs=(uV C (uV C zs)).map roundF from rfl);have hsz:=zA ((zK zs).trans hz);have hVl:=zEj C (uV C zs);generalize hV:uV C (uV C zs)=V at *;generalize uV C zs=U at *;have HVB:=zA hb2;have HVL:=zA hVl;have hsv:=zA ((zK V).trans hVl);have hov:=zA (xE V);clear hV hb1 hb2 hzb hal hC hF eg hVl;generalize bv zs=cz at *;generalize bv U=cu at *;generalize hcv:bv V=cv at *;have HCV:=zA hcv;clear hcv hz;go_enter Tryz.func92,Tryz.ntmps92
 go_wp2_with (first
  | (refine wBox rfl 33 (.tmp 0) rfl cz rfl ?_;intro w1 gz hbz1 hx1 hgz)
  | (refine wAlo' rfl (some 4) rfl 33 rfl _ qU ?_;intro w2 gr hbr2 hx2 hgr;have hbz2:=hbz1.ext hx2;have hsl:=HSL.out _ _ hbz2)
  | (go_at_call 88;(with_reducible refine (HCF.out _ _ hsl).mono ?_);rintro e w' ⟨rfl,rfl⟩)
  | (refine wLdB rfl 33 (.tmp 2) rfl _ rfl hbz2 _ Tryz.underlying33 rfl 64 zH hsz.out ?_)
  | (go_at_call 143;(with_reducible refine (H1.out _).mono ?_);rintro e w3 ⟨rfl,hx3⟩)
  | (go_at_call 143;(with_reducible refine (H2.out _).mono ?_);rintro e w4 ⟨rfl,hx4⟩;have hbz4:=(hbz2.ext hx3).ext hx4;have hbr4:=(hbr2.ext hx3).ext hx4)
  | (refine wStB rfl 33 (.tmp 2) (.tmp 15) rfl _ _ rfl rfl hbz4 64 zH hsv.out hsz.out hov.out ?_;intro w5 hbz5 hg5;have hbr5:=hbr4.grown hg5 (by have:=hbz1.lt;simp;omega))
  | (refine wLdB rfl 33 (.tmp 2) rfl _ rfl hbz5 _ Tryz.underlying33 rfl 64 zH hsv.out ?_))
 have hne1:gz≠gr:=by have:=hbz1.lt;omega
 have hxx:Ext w w5:=(((hx1.trans hx2).trans hx3).trans hx4).grown hg5 hgz;have hw02:w.heap.size≤gr:=by have:=hx1.size;omega
 clear hbz1 hbz2 hbz4 hbr2 hbr4 hx1 hx2 hx3 hx4 hg5 hsl
 go_loopw [17] (fun i wr=> ∃ k:Nat,k≤64∧i=.int .i64 k∧Blk wr gz 33 (bv ((V.take k).map roundF++V.drop k))∧Blk wr gr 33 (bv yO)∧Ext w wr) (fun i _=>64-(intOf i).toNat)
 case atStart=>exact⟨0,by omega,rfl,by rw[←HCV.out] at hbz5;simpa using hbz5,hbr5,hxx⟩
 case round =>
  obtain⟨k,hk,rfl,hb1,hb3,hxr⟩:=hrel
  by_cases hlt:k<64
  ·have hzl:k<V.length:=by have:=HVL.out;omega
   have hix:=fun W=>zDw cv k (.int .i64 V[k]) hlt (by rw[←HCV.out];exact qK V k hzl) W
   obtain⟨z1,z2⟩:=HVB.out V[k] (wE2 hzl);have HR:Hid (∀ W,Calls Tryz.prog 97 #[.int .i64 V[k],.int .i64 67108864] W fun e w'=>e=.returned (.int .i64 (roundF V[k]))∧W=w'):=zA (fun W=>zIp V[k] 67108864 W (by omega) (by omega) (by omega) (by omega))
   obtain⟨old,hold⟩: ∃ u,wr.cell? ⟨gz,k,none⟩=some u:=by
    rw[hb1.cell k];have hl:=mid_len roundF V k (by omega);exact⟨_,qK _ k (by omega)⟩
   have hfr:=hb1.frozen k;clear z1 z2;go_wp2_with (go_at_call 97;(with_reducible refine (HR.out _).mono ?_);rintro e w' ⟨rfl,rfl⟩)
   go_roundw
   case rel =>
    refine⟨k+1,by omega,by go_num, ?_,hb3.far (p:=⟨gz,k,none⟩) (by simpa using hne1.symm) _,hxr.setCell (by omega) _⟩;have:=hb1.set_ k (.int .i64 (roundF V[k]));rw[jO,mid_set roundF V k hzl] at this;exact this
   case measure=>simp[intOf];omega
  ·obtain rfl:k=64:=by omega
   have hfin:(V.take 64).map roundF++V.drop 64=V.map roundF:=by
    rw[wC4 (by have:=HVL.out;omega),wG5 (by have:=HVL.out;omega),wG6]
   have hlz:(bv (V.map roundF)).size=64:=by have:=HVL.out;rw[zK];simp;omega
   rw[hfin] at hb1;have hone:=xE (V.map roundF);generalize hcr:bv (V.map roundF)=cr at *;have HCR:=zA hcr;have hlz':=zA hlz;have hone':=zA hone;clear hfin hlz hone hcr
   go_wp2_with (first
    | (refine wLdB rfl 33 (.tmp 2) rfl _ rfl hb1 _ Tryz.underlying33 rfl 64 zH hlz'.out ?_)
    | (refine wStB rfl 33 (.tmp 4) (.tmp 26) rfl _ _ rfl rfl hb3 64 zH hlz'.out (by rw[zK];rfl) hone'.out ?_;intro w7 hb7 hg7))
   refine yK rfl rfl _ rfl hb7 _ Tryz.underlying33 rfl 64 zH hlz'.out ⟨by rw[HW.out,HCR.out];rfl,hxr.grown hg7 hw02⟩
def wboth_out (gf:Nat) (zs:List Int) (w:World) (hz:zs.length=64) (hal:zR zs (-40000) 40000=false) :
 Calls Tryz.prog 92 #[.agg (bv zs),.func (.func gf) #[] #[]] w fun e w'=>e=.returned (.tuple #[.agg (bv yO),.int .i64 1])∧Ext w w':=by
 have HSL:=zA (fun (W:World) g (h:Blk W g 33 (bv zs))=>h.bsl (c:=64) (by omega) (by omega));rw[hz] at HSL;have HCF:=zA (fun W v (hs:SL W 1 v 64 (ints zs))=>jU 142 #[] (fun z=> !inB z (-40000) 40000) zJD v zs W (by rw[hz];exact hs) (fun z _=>zOP z W));simp only[zDH,hal] at HCF;have hs0:Hid ((bv yO).size=64):=zA (by rw[zK];rfl);have ho0:=zA (xE yO);have hbt:=zA built48;generalize bv zs=cz at *;generalize hc0:bv yO=c0 at *;have HC0:=zA hc0;clear hz hal hc0;go_enter Tryz.func92,Tryz.ntmps92
 go_wp2_with (first
  | (refine wBox rfl 33 (.tmp 0) rfl cz rfl ?_;intro w1 gz hbz1 hx1 hgz)
  | (refine wAlo' rfl (some 4) rfl 33 rfl _ qU ?_;intro w2 gr hbr2 hx2 hgr;have hbz2:=hbz1.ext hx2;have hsl:=HSL.out _ _ hbz2)
  | (go_at_call 88;(with_reducible refine (HCF.out _ _ hsl).mono ?_);rintro e w' ⟨rfl,rfl⟩)
  | (refine vN rfl 33 rfl _ hbt.out ?_)
  | (refine wStB rfl 33 (.tmp 4) (.tmp 10) rfl _ _ rfl rfl hbr2 64 zH hs0.out (by rw[show (Value.agg (bv yO)).cells=bv yO from rfl,HC0.out];exact hs0.out) ho0.out ?_;intro w7 hb7 hg7))
 exact yK rfl rfl _ rfl hb7 _ Tryz.underlying33 rfl 64 zH hs0.out ⟨rfl,(hx1.trans hx2).grown hg7 (by have:=hx1.size;omega)⟩
def uN (C:Nat→Nat→Int) (zs:List Int):List Int×Int:=if zR zs (-40000) 40000 then (waveL C zs,0) else (yO,1)
def zCy (C:Nat→Nat→Int) (zs:List Int):(uN C zs).1.length=64:=by
 unfold uN;split
 ·exact waveL_len C zs
 ·rfl
def zNb (gf:Nat) (eg:uB Tryz.prog gf) (C:Nat→Nat→Int) (zs:List Int) (w:World) (hz:zs.length=64)
 (hC: ∀ i k,i<8→k<8→ -4096≤C i k∧C i k≤4096)
 (hF: ∀ i k W,i<8→k<8→Calls Tryz.prog gf (#[.int .i64 (i:Nat),.int .i64 (k:Nat)]++ #[]) W fun e w'=>e=.returned (.int .i64 (C i k))∧Ext W w') :
 Calls Tryz.prog 92 #[.agg (bv zs),.func (.func gf) #[] #[]] w fun e w'=>e=.returned (.tuple #[.agg (bv (uN C zs).1),.int .i64 (uN C zs).2])∧Ext w w':=by
 unfold uN
 cases h:zR zs (-40000) 40000 with
 | true=>simpa using wboth_in gf eg C zs w hz h hC hF
 | false=>simpa using wboth_out gf zs w hz h
def zOU (i k:Nat): -4096≤zEF i k∧zEF i k≤4096:=by
 unfold zEF;split
 ·omega
 ·exact zNm _ (wF6 _ (by omega))
def zQZ:uB Tryz.prog 93:=zAW Tryz.func93 (by kernel_rfl) rfl
def toC (i k:Nat):Int:=zEF i k
def frC (i k:Nat):Int:=zEF k i
def zSl (zs:List Int) (w:World) (hz:zs.length=64) :
 Calls Tryz.prog 41 #[.agg (bv zs)] w fun e w'=>e=.returned (.tuple #[.agg (bv (uN toC zs).1),.int .i64 (uN toC zs).2])∧Ext w w':=by
 have HB:=zA (fun W=>zNb 93 zQZ toC zs W hz (fun i k _ _=>zOU i k) (fun i k W hi hk=>by simpa [toC] using zNS i k W (by omega) (by omega)));have hsz:=zA ((zK zs).trans hz);have hsr:=zA ((zK _).trans (zCy toC zs));have hor:=zA (xE (uN toC zs).1);generalize bv (uN toC zs).1=cr at *;generalize (uN toC zs).2=er at *;generalize bv zs=cz at *;clear hz;go_enter Tryz.func41,Tryz.ntmps41
 go_wp2_with (first
  | (refine wBox rfl 33 (.tmp 0) rfl cz rfl ?_;intro w1 gz hbz1 hx1 hgz)
  | (refine jY rfl 33 rfl _ qU ?_;intro w3 gr hbr3 hx3 hgr;have hbz3:=hbz1.ext hx3)
  | (refine wLdB rfl 33 (.tmp 1) rfl _ rfl hbz3 _ Tryz.underlying33 rfl 64 zH hsz.out ?_)
  | (go_at_call 92;(with_reducible refine (HB.out _).mono ?_);rintro e w4 ⟨rfl,hx4⟩;have hbr4:=hbr3.ext hx4)
  | (refine wStB rfl 33 (.tmp 2) (.tmp 6) rfl _ _ rfl rfl hbr4 64 zH hsr.out (by rw[show (Value.agg (bv yO)).cells=bv yO from rfl,zK];rfl) hor.out ?_;intro w7 hb7 hg7))
 exact yK rfl rfl _ rfl hb7 _ Tryz.underlying33 rfl 64 zH hsr.out ⟨rfl,((hx1.trans hx3).trans hx4).grown hg7 (by have:=hx1.size;omega)⟩
def from1_any (i k:Nat) (w:World) (hi:i<8) (hk:k<8):Calls Tryz.prog 167 (#[.int .i64 (i:Nat),.int .i64 (k:Nat)]++ #[]) w fun e w'=>e=.returned (.int .i64 (frC i k))∧Ext w w':=by
 have HB:Hid (∀ W,Calls Tryz.prog 93 #[.int .i64 (k:Nat),.int .i64 (i:Nat)] W fun e w'=>e=.returned (.int .i64 (frC i k))∧Ext W w'):=zA (fun W=>zNS k i W (by omega) (by omega));generalize frC i k=c at *;go_enter Tryz.func167,Tryz.ntmps167;go_wp2_with (go_at_call 93;(with_reducible refine (HB.out _).mono ?_);rintro e w4 ⟨rfl,hx4⟩)
 go_ret;exact⟨rfl,hx4⟩
def zPa:uB Tryz.prog 167:=zAW Tryz.func167 (by kernel_rfl) rfl
def zOx (zs:List Int) (w:World) (hz:zs.length=64) :
 Calls Tryz.prog 113 #[.agg (bv zs)] w fun e w'=>e=.returned (.tuple #[.agg (bv (uN frC zs).1),.int .i64 (uN frC zs).2])∧Ext w w':=by
 have HB:=zA (fun W=>zNb 167 zPa frC zs W hz (fun i k _ _=>zOU k i) (fun i k W hi hk=>from1_any i k W hi hk));have hsz:=zA ((zK zs).trans hz);have hsr:=zA ((zK _).trans (zCy frC zs));have hor:=zA (xE (uN frC zs).1);generalize bv (uN frC zs).1=cr at *;generalize (uN frC zs).2=er at *;generalize bv zs=cz at *;clear hz;go_enter Tryz.func113,Tryz.ntmps113
 go_wp2_with (first
  | (refine wBox rfl 33 (.tmp 0) rfl cz rfl ?_;intro w1 gz hbz1 hx1 hgz)
  | (refine jY rfl 33 rfl _ qU ?_;intro w3 gr hbr3 hx3 hgr;have hbz3:=hbz1.ext hx3)
  | (refine wLdB rfl 33 (.tmp 1) rfl _ rfl hbz3 _ Tryz.underlying33 rfl 64 zH hsz.out ?_)
  | (go_at_call 92;(with_reducible refine (HB.out _).mono ?_);rintro e w4 ⟨rfl,hx4⟩;have hbr4:=hbr3.ext hx4)
  | (refine wStB rfl 33 (.tmp 2) (.tmp 6) rfl _ _ rfl rfl hbr4 64 zH hsr.out (by rw[show (Value.agg (bv yO)).cells=bv yO from rfl,zK];rfl) hor.out ?_;intro w7 hb7 hg7))
 exact yK rfl rfl _ rfl hb7 _ Tryz.underlying33 rfl 64 zH hsr.out ⟨rfl,((hx1.trans hx3).trans hx4).grown hg7 (by have:=hx1.size;omega)⟩
def zEQ (k m:Nat) (h:k≤m):(2:Int) ^ k≤2 ^ m:=by
 have:=wI4 (n:=2) (by omega) h
 exact_mod_cast this
def zAx (k:Nat):(1:Int)≤2 ^ k:=by
 have:=wI5 k
 exact_mod_cast this
def zIR (k:Nat) (w:World) (hk:k≤62):Calls Tryz.prog 128 #[.int .i64 k] w fun e w'=>e=.returned (.int .i64 (2 ^ k))∧w=w':=by
 have h1:=zEQ k 62 hk;have h2:=zAx k;have h3:(2:Int) ^ 62=4611686018427387904:=by decide
 rw[h3] at h1;clear h3;go_enter Tryz.func128,Tryz.ntmps128;go_wp2
 go_ret;exact⟨rfl,rfl⟩
def zEs (F:Nat→Int) (i:Nat):List Int:=(List.range i).map F++List.replicate (64-i) 0
def fillL_len (F:Nat→Int) (i:Nat) (h:i≤64):(zEs F i).length=64:=by simp[zEs];omega
def fillL_set (F:Nat→Int) (i:Nat) (hi:i<64):(zEs F i).set i (F i)=zEs F (i+1):=by
 unfold zEs;have hl:((List.range i).map F).length=i:=by simp
 rw[wF8 _ _ (by omega),hl,wF9];obtain⟨j,hj⟩: ∃ j,64-i=j+1:=⟨64-i-1,by omega⟩
 have hj2:64-(i+1)=j:=by omega
 rw[hj,hj2,wG0,wG1,wH3,wH4];simp
def upF (n d:Int):Int:=vF (n*d) (-40000) 40000
def zCN (n d:Int):Int:=vF (rnd n d) (-2047) 2047
def mul_bd (n d m:Int) (hn1: -m≤n) (hn2:n≤m) (hd1:1≤d) (hd2:d≤255) (hm:0≤m): -(m*255)≤n*d∧n*d≤m*255:=by
 have h1:n*d≤m*d:=wD9 hn2 (by omega);have h2:m*d≤m*255:=wE0 hd2 hm;have h3: -m*d≤n*d:=wD9 hn1 (by omega);rw[Int.neg_mul] at h3;omega
def zFh (F:Int→Int→Int) (zs qs:List Int) (most:Int) (hz:zs.length=64) (hq:qs.length=64):(vI F zs qs most).1.length=64:=by
 unfold vI;split<;>(try split)<;>simp[hz,hq,yO]
def up1_any (n d:Int) (w:World) (hn1: -2047≤n) (hn2:n≤2047) (hd1:1≤d) (hd2:d≤255) :
 Calls Tryz.prog 166 (#[.int .i64 n,.int .i64 d]++ #[]) w fun e w'=>e=.returned (.int .i64 (upF n d))∧w=w':=by
 obtain⟨h1,h2⟩:=mul_bd n d 2047 hn1 hn2 hd1 hd2 (by omega);go_enter Tryz.func166,Tryz.ntmps166;go_wp2_with (go_at_call 96;refine (zHF _ _ _ (by omega) (by omega)).mono ?_;rintro e w' ⟨rfl,rfl⟩)
 go_ret;exact⟨rfl,rfl⟩
def zTI:uB Tryz.prog 166:=zAW Tryz.func166 (by kernel_rfl) rfl
def up_any (zs qs:List Int) (w:World) (hz:zs.length=64) (hq:qs.length=64) :
 Calls Tryz.prog 112 #[.agg (bv zs),.agg (bv qs)] w fun e w'=>e=.returned (.tuple #[.agg (bv (vI upF zs qs 2047).1),.int .i64 (vI upF zs qs 2047).2])∧Ext w w':=by
 have HB:=zA (fun W=>zQr 166 upF zTI zs qs 2047 W hz hq (by omega) (by omega) (fun n d W a b c e=>up1_any n d W a b c e));have hsz:=zA ((zK zs).trans hz);have hsq:=zA ((zK qs).trans hq);have hsr:=zA ((zK _).trans (zFh upF zs qs 2047 hz hq));have hor:=zA (xE (vI upF zs qs 2047).1);generalize bv (vI upF zs qs 2047).1=cr at *;generalize (vI upF zs qs 2047).2=er at *;generalize bv zs=cz at *;generalize bv qs=cq at *;clear hz hq;go_enter Tryz.func112,Tryz.ntmps112
 go_wp2_with (first
  | (refine wBox rfl 33 (.tmp 0) rfl cz rfl ?_;intro w1 gz hbz1 hx1 hgz)
  | (refine wBox rfl 33 (.tmp 1) rfl cq rfl ?_;intro w2 gq hbq2 hx2 hgq;have hbz2:=hbz1.ext hx2)
  | (refine jY rfl 33 rfl _ qU ?_;intro w3 gr hbr3 hx3 hgr;have hbz3:=hbz2.ext hx3;have hbq3:=hbq2.ext hx3)
  | (refine wLdB rfl 33 (.tmp 2) rfl _ rfl hbz3 _ Tryz.underlying33 rfl 64 zH hsz.out ?_)
  | (refine wLdB rfl 33 (.tmp 3) rfl _ rfl hbq3 _ Tryz.underlying33 rfl 64 zH hsq.out ?_)
  | (go_at_call 94;refine (HB.out _).mono ?_;rintro e w4 ⟨rfl,hx4⟩;have hbr4:=hbr3.ext hx4)
  | (refine wStB rfl 33 (.tmp 4) (.tmp 9) rfl _ _ rfl rfl hbr4 64 zH hsr.out (by rw[show (Value.agg (bv yO)).cells=bv yO from rfl,zK];rfl) hor.out ?_;intro w7 hb7 hg7))
 exact yK rfl rfl _ rfl hb7 _ Tryz.underlying33 rfl 64 zH hsr.out ⟨rfl,(((hx1.trans hx2).trans hx3).trans hx4).grown hg7 (by have:=hx1.size;have:=hx2.size;omega)⟩
def down1_any (n d:Int) (w:World) (hn1: -40000≤n) (hn2:n≤40000) (hd1:1≤d) (hd2:d≤255) :
 Calls Tryz.prog 95 (#[.int .i64 n,.int .i64 d]++ #[]) w fun e w'=>e=.returned (.int .i64 (zCN n d))∧w=w':=by
 go_enter Tryz.func95,Tryz.ntmps95;go_wp2_with (first | (go_at_call 97;refine (zIp n d _ (by omega) (by omega) (by omega) (by omega)).mono ?_;rintro e w' ⟨rfl,rfl⟩) | (go_at_call 96;refine (zHF _ _ _ (by omega) (by omega)).mono ?_;rintro e w' ⟨rfl,rfl⟩))
 go_ret;exact⟨rfl,rfl⟩
def zQG:uB Tryz.prog 95:=zAW Tryz.func95 (by kernel_rfl) rfl
def down_any (zs qs:List Int) (w:World) (hz:zs.length=64) (hq:qs.length=64) :
 Calls Tryz.prog 42 #[.agg (bv zs),.agg (bv qs)] w fun e w'=>e=.returned (.tuple #[.agg (bv (vI zCN zs qs 40000).1),.int .i64 (vI zCN zs qs 40000).2])∧Ext w w':=by
 have HB:=zA (fun W=>zQr 95 zCN zQG zs qs 40000 W hz hq (by omega) (by omega) (fun n d W a b c e=>down1_any n d W a b c e));have hsz:=zA ((zK zs).trans hz);have hsq:=zA ((zK qs).trans hq);have hsr:=zA ((zK _).trans (zFh zCN zs qs 40000 hz hq));have hor:=zA (xE (vI zCN zs qs 40000).1);generalize bv (vI zCN zs qs 40000).1=cr at *;generalize (vI zCN zs qs 40000).2=er at *;generalize bv zs=cz at *;generalize bv qs=cq at *;clear hz hq;go_enter Tryz.func42,Tryz.ntmps42
 go_wp2_with (first
  | (refine wBox rfl 33 (.tmp 0) rfl cz rfl ?_;intro w1 gz hbz1 hx1 hgz)
  | (refine wBox rfl 33 (.tmp 1) rfl cq rfl ?_;intro w2 gq hbq2 hx2 hgq;have hbz2:=hbz1.ext hx2)
  | (refine jY rfl 33 rfl _ qU ?_;intro w3 gr hbr3 hx3 hgr;have hbz3:=hbz2.ext hx3;have hbq3:=hbq2.ext hx3)
  | (refine wLdB rfl 33 (.tmp 2) rfl _ rfl hbz3 _ Tryz.underlying33 rfl 64 zH hsz.out ?_)
  | (refine wLdB rfl 33 (.tmp 3) rfl _ rfl hbq3 _ Tryz.underlying33 rfl 64 zH hsq.out ?_)
  | (go_at_call 94;refine (HB.out _).mono ?_;rintro e w4 ⟨rfl,hx4⟩;have hbr4:=hbr3.ext hx4)
  | (refine wStB rfl 33 (.tmp 4) (.tmp 9) rfl _ _ rfl rfl hbr4 64 zH hsr.out (by rw[show (Value.agg (bv yO)).cells=bv yO from rfl,zK];rfl) hor.out ?_;intro w7 hb7 hg7))
 exact yK rfl rfl _ rfl hb7 _ Tryz.underlying33 rfl 64 zH hsr.out ⟨rfl,(((hx1.trans hx2).trans hx3).trans hx4).grown hg7 (by have:=hx1.size;have:=hx2.size;omega)⟩
def xX:(Tryz.prog.info? 128).map (·.size)=some 2:=by kernel_rfl
def qX (wd hi:Int):Array Value:= #[.int .i64 wd,.int .i64 hi]
def xW (wd hi:Int):Int:=if inB wd 1 64&&inB hi 1 64 then 0 else 1
def inB_val (n lo hi:Int):inB n lo hi=(!decide (n<lo)&& !decide (hi<n)):=by
 rw[wE3,jS];simp
def zHY {w:World} {g:Nat} {T:TypeId} {wd hi:Int} (h:Blk w g T (qX wd hi)):w.cell? ⟨g,0,none⟩=some (.int .i64 wd)∧w.cell? ⟨g,1,none⟩=some (.int .i64 hi):=by
 rw[h.cell,h.cell];exact⟨rfl,rfl⟩
def uZ (wd hi:Int) (w:World) :
 Calls Tryz.prog 87 #[.agg (qX wd hi)] w fun e w'=>e=.returned (.int .i64 (xW wd hi))∧Ext w w':=by
 have HC:=zA (fun W g (h:Blk W g 128 (qX wd hi))=>zHY h)
 have e:xW wd hi=if wd<1 then 1 else if 64<wd then 1 else if hi<1 then 1 else if 64<hi then 1 else 0:=by
  unfold xW;rw[inB_val,inB_val]
  by_cases h1:wd<1<;>by_cases h2:64<wd<;>by_cases h3:hi<1<;>by_cases h4:64<hi<;>simp[h1,h2,h3,h4]
 rw[e];clear e;generalize qX wd hi=av at *
 by_cases h1:wd<1
 ·rw[if_pos h1];go_enter Tryz.func87,Tryz.ntmps87;go_wp2_with (refine wBox rfl 128 (.tmp 0) rfl av rfl ?_;intro w1 g hb1 hx1 hg;obtain⟨c0,c1⟩:=HC.out _ _ hb1)
  go_ret;exact⟨rfl,hx1⟩
 ·rw[if_neg h1]
  by_cases h2:64<wd
  ·rw[if_pos h2];go_enter Tryz.func87,Tryz.ntmps87;go_wp2_with (refine wBox rfl 128 (.tmp 0) rfl av rfl ?_;intro w1 g hb1 hx1 hg;obtain⟨c0,c1⟩:=HC.out _ _ hb1)
   go_ret;exact⟨rfl,hx1⟩
  ·rw[if_neg h2]
   by_cases h3:hi<1
   ·rw[if_pos h3];go_enter Tryz.func87,Tryz.ntmps87;go_wp2_with (refine wBox rfl 128 (.tmp 0) rfl av rfl ?_;intro w1 g hb1 hx1 hg;obtain⟨c0,c1⟩:=HC.out _ _ hb1)
    go_ret;exact⟨rfl,hx1⟩
   ·rw[if_neg h3]
    by_cases h4:64<hi
    ·rw[if_pos h4];go_enter Tryz.func87,Tryz.ntmps87;go_wp2_with (refine wBox rfl 128 (.tmp 0) rfl av rfl ?_;intro w1 g hb1 hx1 hg;obtain⟨c0,c1⟩:=HC.out _ _ hb1)
     go_ret;exact⟨rfl,hx1⟩
    ·rw[if_neg h4];go_enter Tryz.func87,Tryz.ntmps87;go_wp2_with (refine wBox rfl 128 (.tmp 0) rfl av rfl ?_;intro w1 g hb1 hx1 hg;obtain⟨c0,c1⟩:=HC.out _ _ hb1)
     go_ret;exact⟨rfl,hx1⟩
def zLD (wd:Nat) (hi:Int) (w:World) (h1:1≤wd) (h2:wd≤64) :
 Calls Tryz.prog 141 #[.agg (qX wd hi)] w fun e w'=>e=.returned (.int .i64 (((wd+7)/8:Nat):Int))∧Ext w w':=by
 have HC:=zA (fun W g (h:Blk W g 128 (qX wd hi))=>zHY h);generalize qX wd hi=av at *;go_enter Tryz.func141,Tryz.ntmps141;go_wp2_with (refine wBox rfl 128 (.tmp 0) rfl av rfl ?_;intro w1 g hb1 hx1 hg;obtain⟨c0,c1⟩:=HC.out _ _ hb1)
 go_ret;refine⟨?_,hx1⟩;congr 2
 go_num
def uQ (wd hi:Int):(qX wd hi).size=2:=rfl
def zGi (wd hi:Nat) (w:World) (h1:1≤wd) (h2:wd≤64) (h3:1≤hi) (h4:hi≤64) :
 Calls Tryz.prog 90 #[.agg (qX wd hi)] w fun e w'=>e=.returned (.int .i64 (((wd+7)/8*((hi+7)/8):Nat):Int))∧Ext w w':=by
 have HC:=zA (fun W g (h:Blk W g 128 (qX wd hi))=>zHY h);have HA:=zA (fun W=>zLD wd hi W h1 h2);have hts:=zA (uQ wd hi);have hm:(wd+7)/8*((hi+7)/8)≤8*8:=wI6 (by omega) (by omega);generalize qX wd hi=av at *;go_enter Tryz.func90,Tryz.ntmps90;go_wp2_with (refine wBox rfl 128 (.tmp 0) rfl av rfl ?_;intro w1 g hb1 hx1 hg)
 have hx1':=hx1.drew;have hb1':=hb1.drew;refine qI qS (by kernel_rfl) (by kernel_rfl) ?_;refine zGD (by rfl) 128 (.tmp 1) rfl g rfl (fun w h=>hb1'.ext h) _ Tryz.underlying128 rfl 2 xX hts.out ?_;simp only[Act.put,sA,sB,sC];refine zDn (by rfl) 141 Tryz.func141 rfl rfl _ _ rfl #[.agg av] (by simp[Act.eval]) (.int .i64 (((wd+7)/8:Nat):Int)) (fun W h=>HA.out W) ?_;simp only[sP,sB,sC];refine zBO (by rfl) ?_;apply Exists.intro;refine⟨fun w hw=> ?_, ?_⟩; · (go_simp;with_reducible rfl)
 simp only[Act.put,sA,sB,sC];refine zBO (by rfl) ?_;apply Exists.intro;refine⟨fun w hw=> ?_, ?_⟩; · (obtain⟨c0,c1⟩:=HC.out _ _ (hb1'.ext hw);go_simp;with_reducible rfl)
 simp only[Act.put,sA,sB,sC];refine zAO (by rfl) .add 3 _ _ _ rfl (.int .i64 (hi:Int)) (.int .i64 ((8:Nat):Int)) rfl rfl (.int .i64 ((hi+8:Nat):Int)) (zBZ _ _ _ _ _) (zHG _ _ (by omega)) ?_;simp only[Act.put,sA,sB,sC];refine zAO (by rfl) .sub 3 _ _ _ rfl (.int .i64 ((hi+8:Nat):Int)) (.int .i64 ((1:Nat):Int)) rfl rfl (.int .i64 ((hi+7:Nat):Int)) (zBZ _ _ _ _ _) (zHN (hi+8) 1 (by omega) (by omega)) ?_;simp only[Act.put,sA,sB,sC];refine zAO (by rfl) .quo 3 _ _ _ rfl (.int .i64 ((hi+7:Nat):Int)) (.int .i64 ((8:Nat):Int)) rfl rfl (.int .i64 (((hi+7)/8:Nat):Int)) (zBZ _ _ _ _ _) (zHc _ _ (by omega) (by omega)) ?_;simp only[Act.put,sA,sB,sC];refine zAO (by rfl) .mul 3 _ _ _ rfl (.int .i64 (((wd+7)/8:Nat):Int)) (.int .i64 (((hi+7)/8:Nat):Int)) rfl rfl (.int .i64 (((wd+7)/8*((hi+7)/8):Nat):Int)) (zBZ _ _ _ _ _) (zGz _ _ _ rfl (by omega)) ?_;simp only[Act.put,sA,sB,sC];generalize hmm:(wd+7)/8*((hi+7)/8)=m at *;have HMM:=zA hmm;clear hmm
 repeat (refine zBO (by rfl) ?_;apply Exists.intro;refine⟨fun w hw=> ?_, ?_⟩; · (go_simp;with_reducible rfl)
         simp only[Act.put,sA,sB,sC])
 refine vH ?_;intro w3 hx3;go_wp2_with fail;go_ret;rw[HMM.out];exact⟨rfl,hx1'.trans hx3⟩
def zNL (wd:Nat) (hi:Int) (b i:Nat) (w:World) (h1:1≤wd) (h2:wd≤64) (hb:b<64) (hi64:i<64) :
 Calls Tryz.prog 91 #[.agg (qX wd hi),.int .i64 (b:Int),.int .i64 (i:Int)] w fun e w' =>
  e=.returned (.tuple #[.int .i64 ((b/((wd+7)/8)*8+i/8:Nat):Int),.int .i64 ((b%((wd+7)/8)*8+i%8:Nat):Int)])∧Ext w w':=by
 have HA:=zA (fun W=>zLD wd hi W h1 h2);have hts:=zA (uQ wd hi);have hc:1≤(wd+7)/8∧(wd+7)/8≤8:=by omega
 generalize (wd+7)/8=c at *;generalize qX wd hi=av at *;have q1:b/c≤b:=Nat.div_le_self _ _;have q2:b%c<c:=wF6 _ (by omega);go_enter Tryz.func91,Tryz.ntmps91;go_wp2_with (refine wBox rfl 128 (.tmp 0) rfl av rfl ?_;intro w1 g hb1 hx1 hg)
 have hx1':=hx1.drew;have hb1':=hb1.drew;refine qI qS (by kernel_rfl) (by kernel_rfl) ?_;refine zBO (by rfl) ?_;apply Exists.intro;refine⟨fun w hw=> ?_, ?_⟩; · (go_simp;with_reducible rfl)
 simp only[Act.put,sA,sB,sC];refine zGD (by rfl) 128 (.tmp 3) rfl g rfl (fun w h=>hb1'.ext h) _ Tryz.underlying128 rfl 2 xX hts.out ?_;simp only[Act.put,sA,sB,sC];refine zDn (by rfl) 141 Tryz.func141 rfl rfl _ _ rfl #[.agg av] (by simp[Act.eval]) (.int .i64 (c:Int)) (fun W h=>HA.out W) ?_;simp only[sP,sB,sC];refine zAO (by rfl) .quo 3 _ _ _ rfl (.int .i64 ((b:Nat):Int)) (.int .i64 ((c:Nat):Int)) rfl rfl (.int .i64 ((b/c:Nat):Int)) (zBZ _ _ _ _ _) (zHc _ _ (by omega) (by omega)) ?_;simp only[Act.put,sA,sB,sC];refine zAO (by rfl) .mul 3 _ _ _ rfl (.int .i64 ((b/c:Nat):Int)) (.int .i64 ((8:Nat):Int)) rfl rfl (.int .i64 ((b/c*8:Nat):Int)) (zBZ _ _ _ _ _) (zGz _ _ _ rfl (by omega)) ?_;simp only[Act.put,sA,sB,sC];refine zBO (by rfl) ?_;apply Exists.intro;refine⟨fun w hw=> ?_, ?_⟩; · (go_simp;with_reducible rfl)
 simp only[Act.put,sA,sB,sC];refine zAO (by rfl) .quo 3 _ _ _ rfl (.int .i64 ((i:Nat):Int)) (.int .i64 ((8:Nat):Int)) rfl rfl (.int .i64 ((i/8:Nat):Int)) (zBZ _ _ _ _ _) (zHc _ _ (by omega) (by omega)) ?_;simp only[Act.put,sA,sB,sC];refine zAO (by rfl) .add 3 _ _ _ rfl (.int .i64 ((b/c*8:Nat):Int)) (.int .i64 ((i/8:Nat):Int)) rfl rfl (.int .i64 ((b/c*8+i/8:Nat):Int)) (zBZ _ _ _ _ _) (zHG _ _ (by omega)) ?_;simp only[Act.put,sA,sB,sC];refine zBO (by rfl) ?_;apply Exists.intro;refine⟨fun w hw=> ?_, ?_⟩; · (go_simp;with_reducible rfl)
 simp only[Act.put,sA,sB,sC];refine zGD (by rfl) 128 (.tmp 3) rfl g rfl (fun w h=>hb1'.ext h) _ Tryz.underlying128 rfl 2 xX hts.out ?_;simp only[Act.put,sA,sB,sC];refine zDn (by rfl) 141 Tryz.func141 rfl rfl _ _ rfl #[.agg av] (by simp[Act.eval]) (.int .i64 (c:Int)) (fun W h=>HA.out W) ?_;simp only[sP,sB,sC];refine zAO (by rfl) .rem 3 _ _ _ rfl (.int .i64 ((b:Nat):Int)) (.int .i64 ((c:Nat):Int)) rfl rfl (.int .i64 ((b%c:Nat):Int)) (zBZ _ _ _ _ _) (zHZ _ _ (by omega) (by omega)) ?_;simp only[Act.put,sA,sB,sC];refine zAO (by rfl) .mul 3 _ _ _ rfl (.int .i64 ((b%c:Nat):Int)) (.int .i64 ((8:Nat):Int)) rfl rfl (.int .i64 ((b%c*8:Nat):Int)) (zBZ _ _ _ _ _) (zGz _ _ _ rfl (by omega)) ?_;simp only[Act.put,sA,sB,sC];refine zBO (by rfl) ?_;apply Exists.intro;refine⟨fun w hw=> ?_, ?_⟩; · (go_simp;with_reducible rfl)
 simp only[Act.put,sA,sB,sC];refine zAO (by rfl) .rem 3 _ _ _ rfl (.int .i64 ((i:Nat):Int)) (.int .i64 ((8:Nat):Int)) rfl rfl (.int .i64 ((i%8:Nat):Int)) (zBZ _ _ _ _ _) (zHZ _ _ (by omega) (by omega)) ?_;simp only[Act.put,sA,sB,sC];refine zAO (by rfl) .add 3 _ _ _ rfl (.int .i64 ((b%c*8:Nat):Int)) (.int .i64 ((i%8:Nat):Int)) rfl rfl (.int .i64 ((b%c*8+i%8:Nat):Int)) (zBZ _ _ _ _ _) (zHG _ _ (by omega)) ?_;simp only[Act.put,sA,sB,sC];generalize hmm:b/c*8+i/8=m at *;generalize hnn:b%c*8+i%8=n at *;have HMM:=zA hmm;have HNN:=zA hnn;clear hmm hnn;refine zBO (by rfl) ?_;apply Exists.intro;refine⟨fun w hw=> ?_, ?_⟩; · (go_simp;with_reducible rfl)
 simp only[Act.put,sA,sB,sC];refine zBO (by rfl) ?_;apply Exists.intro;refine⟨fun w hw=> ?_, ?_⟩; · (go_simp;with_reducible rfl)
 simp only[Act.put,sA,sB,sC];refine vH ?_;intro w3 hx3;go_wp2_with fail;go_ret2;rw[HMM.out,HNN.out];exact⟨rfl,hx1'.trans hx3⟩
def zCA:(Tryz.prog.info? 128).bind (·.zero)=some (.agg #[.int .i64 0,.int .i64 0]):=by kernel_rfl
def all_one (l:List Value) (h: ∀ u∈l,u.oneCell'=true):l.toArray.all (·.oneCell')=true :=
 wE5.2 (fun v hv=>h v (by simpa using hv))
def zBL (wd hi:Int):(qX wd hi).all (·.oneCell')=true:=all_one [.int .i64 wd,.int .i64 hi] (by intro u hu;simp at hu;rcases hu with rfl | rfl<;>rfl)
def zHg {wd hi:Int} (h:xW wd hi=0): ∃ a b:Nat,wd=(a:Int)∧hi=(b:Int)∧1≤a∧a≤64∧1≤b∧b≤64:=by
 unfold xW at h
 cases h1:inB wd 1 64 with
 | false=>rw[h1] at h;cases h
 | true =>
   cases h2:inB hi 1 64 with
   | false=>rw[h1,h2] at h;cases h
   | true =>
     have:=jS.1 h1;have:=jS.1 h2;exact⟨wd.toNat,hi.toNat,by omega,by omega,by omega,by omega,by omega,by omega⟩
def zHb {wd hi:Int} (h:xW wd hi≠0):xW wd hi=1:=by
 unfold xW at h ⊢;split
 ·next h2=>rw[if_pos h2] at h;exact absurd rfl h
 ·rfl
def zCn (wd hi:Int):Int:=if xW wd hi=0 then (((wd.toNat+7)/8*((hi.toNat+7)/8):Nat):Int) else 0
def zFK (wd hi:Int) (w:World) :
 Calls Tryz.prog 65 #[.int .i64 wd,.int .i64 hi] w fun e w'=>e=.returned (.tuple #[.int .i64 (zCn wd hi),.int .i64 (xW wd hi)])∧Ext w w':=by
 have HK:=zA (fun W=>uZ wd hi W)
 by_cases h:xW wd hi=0
 ·have HM:Hid (∀ W,Calls Tryz.prog 90 #[.agg (qX wd hi)] W fun e w'=>e=.returned (.int .i64 (zCn wd hi))∧Ext W w'):=zA (by
   intro W;unfold zCn;rw[if_pos h];obtain⟨a,b,rfl,rfl,a1,a2,b1,b2⟩:=zHg h
   exact zGi a b W a1 a2 b1 b2)
  generalize zCn wd hi=m at *;rw[h] at HK ⊢;clear h;have hbv: #[Value.int .i64 wd,Value.int .i64 hi]=qX wd hi:=rfl;have hts:=zA (uQ wd hi);have ho:=zA (zBL wd hi);generalize qX wd hi=av at *;go_enter Tryz.func65,Tryz.ntmps65
  go_wp2_with (first
   | (refine wAlo' rfl (some 6) rfl 128 rfl _ zCA ?_;intro w1 g hb1 hx1 hg)
   | (refine wStB rfl 128 (.tmp 6) (.tmp 10) rfl _ _ rfl rfl hb1 2 xX hts.out rfl ho.out ?_;intro w2 hb2 hg2;have hx2:=hx1.grown hg2 (by omega))
   | (refine wLdB rfl 128 (.tmp 6) rfl _ rfl hb2 _ Tryz.underlying128 rfl 2 xX hts.out ?_)
   | (go_at_call 87;(with_reducible refine (HK.out _).mono ?_);rintro e w3 ⟨rfl,hx3⟩;have hb3:=hb2.ext hx3)
   | (refine wLdB rfl 128 (.tmp 6) rfl _ rfl hb3 _ Tryz.underlying128 rfl 2 xX hts.out ?_)
   | (go_at_call 90;(with_reducible refine (HM.out _).mono ?_);rintro e w4 ⟨rfl,hx4⟩))
  go_ret2;exact⟨rfl,(hx2.trans hx3).trans hx4⟩
 ·have e:zCn wd hi=0:=by unfold zCn;rw[if_neg h]
  rw[e];have h1:=zHb h;rw[h1] at HK ⊢;clear h h1 e;have hbv: #[Value.int .i64 wd,Value.int .i64 hi]=qX wd hi:=rfl;have hts:=zA (uQ wd hi);have ho:=zA (zBL wd hi);generalize qX wd hi=av at *;go_enter Tryz.func65,Tryz.ntmps65
  go_wp2_with (first
   | (refine wAlo' rfl (some 6) rfl 128 rfl _ zCA ?_;intro w1 g hb1 hx1 hg)
   | (refine wStB rfl 128 (.tmp 6) (.tmp 10) rfl _ _ rfl rfl hb1 2 xX hts.out rfl ho.out ?_;intro w2 hb2 hg2;have hx2:=hx1.grown hg2 (by omega))
   | (refine wLdB rfl 128 (.tmp 6) rfl _ rfl hb2 _ Tryz.underlying128 rfl 2 xX hts.out ?_)
   | (go_at_call 87;(with_reducible refine (HK.out _).mono ?_);rintro e w3 ⟨rfl,hx3⟩;have hb3:=hb2.ext hx3))
  go_ret2;exact⟨rfl,hx2.trans hx3⟩
def zPN (z:Int) (w:World):Calls Tryz.prog 89 (#[.int .i64 z]++ #[]) w fun e w'=>e=.returned (.bool (!inB z 0 255))∧w=w':=by
 by_cases h:z<0
 ·have h':decide (z<0)=true:=by simpa using h
  have e:inB z 0 255=false:=zAI.2 (by omega);rw[e];clear e;go_enter Tryz.func89,Tryz.ntmps89;go_wp2_with fail;go_ret;exact⟨rfl,rfl⟩
 ·have h':decide (z<0)=false:=by simpa using h
  have e:(!inB z 0 255)=decide (255<z):=by rw[wE3];simp[inB];omega
  rw[e];clear e;go_enter Tryz.func89,Tryz.ntmps89;go_wp2_with fail;go_ret;exact⟨rfl,rfl⟩
def zJq:uB Tryz.prog 89:=zAW Tryz.func89 (by kernel_rfl) rfl
def zAH (xs:List Int) (wd hi:Int):Int:=if xW wd hi=0 then (if (xs.length:Int)=wd*hi then (if zR xs 0 255 then 0 else 1) else 4) else 1
def zNM (xs:List Int) (v:Value) (wd hi:Int) (w:World) (hv:SL w 1 v xs.length (ints xs)) (h:xW wd hi≠0) :
 Calls Tryz.prog 40 #[v,.int .i64 wd,.int .i64 hi] w fun e w'=>e=.returned (.tuple #[.slice none 0 0,.int .i64 1])∧Ext w w':=by
 have HK:=zA (fun W=>uZ wd hi W);rw[zHb h] at HK;clear h;have hbv: #[Value.int .i64 wd,Value.int .i64 hi]=qX wd hi:=rfl;have hts:=zA (uQ wd hi);have ho:=zA (zBL wd hi);generalize qX wd hi=av at *;obtain⟨A,c,rfl,hc1,hc2, -, -⟩:=hv;go_enter Tryz.func40,Tryz.ntmps40
 go_wp2_with (first
  | (refine wAlo' rfl (some 8) rfl 128 rfl _ zCA ?_;intro w1 g hb1 hx1 hg)
  | (refine wStB rfl 128 (.tmp 8) (.tmp 17) rfl _ _ rfl rfl hb1 2 xX hts.out rfl ho.out ?_;intro w2 hb2 hg2;have hx2:=hx1.grown hg2 (by omega))
  | (refine wLdB rfl 128 (.tmp 8) rfl _ rfl hb2 _ Tryz.underlying128 rfl 2 xX hts.out ?_)
  | (go_at_call 87;(with_reducible refine (HK.out _).mono ?_);rintro e w3 ⟨rfl,hx3⟩))
 go_ret2;exact⟨rfl,hx2.trans hx3⟩
def zPQ (xs:List Int) (v:Value) (wd hi:Nat) (w:World) (hv:SL w 1 v xs.length (ints xs)) (h0:xW wd hi=0) (a2:wd≤64) (b2:hi≤64) (h:xs.length≠wd*hi) :
 Calls Tryz.prog 40 #[v,.int .i64 wd,.int .i64 hi] w fun e w'=>e=.returned (.tuple #[.slice none 0 0,.int .i64 4])∧Ext w w':=by
 have HK:=zA (fun W=>uZ wd hi W);rw[h0] at HK;clear h0;have hm:wd*hi≤64*64:=wI6 a2 b2;have hw1:IntKind.i64.wrap ((wd:Int)*(hi:Int))=(wd:Int)*(hi:Int):=by rw[←wD7];exact IntWalk.i64_in _ (by omega)
 have hne:((xs.length:Int) !=(wd:Int)*(hi:Int))=true:=by rw[←wD7];simp;omega
 have hbv: #[Value.int .i64 wd,Value.int .i64 hi]=qX wd hi:=rfl;have hts:=zA (uQ wd hi);have ho:=zA (zBL wd hi);generalize qX wd hi=av at *;obtain⟨A,c,rfl,hc1,hc2, -, -⟩:=hv;clear h hm;go_enter Tryz.func40,Tryz.ntmps40
 go_wp2_with (first
  | (refine wAlo' rfl (some 8) rfl 128 rfl _ zCA ?_;intro w1 g hb1 hx1 hg)
  | (refine wStB rfl 128 (.tmp 8) (.tmp 17) rfl _ _ rfl rfl hb1 2 xX hts.out rfl ho.out ?_;intro w2 hb2 hg2;have hx2:=hx1.grown hg2 (by omega))
  | (refine wLdB rfl 128 (.tmp 8) rfl _ rfl hb2 _ Tryz.underlying128 rfl 2 xX hts.out ?_)
  | (go_at_call 87;(with_reducible refine (HK.out _).mono ?_);rintro e w3 ⟨rfl,hx3⟩))
 go_ret2;exact⟨rfl,hx2.trans hx3⟩
def cut_out (xs:List Int) (v:Value) (wd hi:Nat) (w:World) (hv:SL w 1 v xs.length (ints xs)) (h0:xW wd hi=0) (a2:wd≤64) (b2:hi≤64) (h:xs.length=wd*hi) (hq:zR xs 0 255=false) :
 Calls Tryz.prog 40 #[v,.int .i64 wd,.int .i64 hi] w fun e w'=>e=.returned (.tuple #[.slice none 0 0,.int .i64 1])∧Ext w w':=by
 have HK:=zA (fun W=>uZ wd hi W);rw[h0] at HK;clear h0;have HCF:=zA (fun W (hs:SL W 1 v xs.length (ints xs))=>jU 89 #[] (fun z=> !inB z 0 255) zJq v xs W hs (fun z _=>zPN z W));simp only[zDH,hq] at HCF;clear hq;have hm:wd*hi≤64*64:=wI6 a2 b2;have hw1:IntKind.i64.wrap ((wd:Int)*(hi:Int))=(wd:Int)*(hi:Int):=by rw[←wD7];exact IntWalk.i64_in _ (by omega)
 have hne:((xs.length:Int) !=(wd:Int)*(hi:Int))=false:=by rw[←wD7];simp;omega
 have hbv: #[Value.int .i64 wd,Value.int .i64 hi]=qX wd hi:=rfl;have hts:=zA (uQ wd hi);have ho:=zA (zBL wd hi);generalize qX wd hi=av at *;have hv':=hv;obtain⟨A,c,rfl,hc1,hc2, -, -⟩:=hv';clear h hm;go_enter Tryz.func40,Tryz.ntmps40
 go_wp2_with (first
  | (refine wAlo' rfl (some 8) rfl 128 rfl _ zCA ?_;intro w1 g hb1 hx1 hg)
  | (refine wStB rfl 128 (.tmp 8) (.tmp 17) rfl _ _ rfl rfl hb1 2 xX hts.out rfl ho.out ?_;intro w2 hb2 hg2;have hx2:=hx1.grown hg2 (by omega))
  | (refine wLdB rfl 128 (.tmp 8) rfl _ rfl hb2 _ Tryz.underlying128 rfl 2 xX hts.out ?_)
  | (go_at_call 87;(with_reducible refine (HK.out _).mono ?_);rintro e w3 ⟨rfl,hx3⟩;have hx23:=hx2.trans hx3)
  | (go_at_call 88;(with_reducible refine (HCF.out _ (hv.ext hx23)).mono ?_);rintro e w4 ⟨rfl,rfl⟩))
 go_ret2;exact⟨rfl,hx23⟩
def cutAt (xs:List Int) (wd hi k i:Nat):Int:=xs.getD (min (k/((wd+7)/8)*8+i/8) (hi-1)*wd+min (k%((wd+7)/8)*8+i%8) (wd-1)) 0-128
def qD (wd hi:Nat):Nat:=(wd+7)/8*((hi+7)/8)
def cutZ (xs:List Int) (wd hi:Nat):List Int:=(List.range (qD wd hi*64)).map fun j=>cutAt xs wd hi (j/64) (j%64)
def zGv (xs:List Int) (wd hi:Nat):(cutZ xs wd hi).length=qD wd hi*64:=by simp[cutZ]
def cutZ_at (xs:List Int) (wd hi k i:Nat) (hi64:i<64) (h:k*64+i<qD wd hi*64):(cutZ xs wd hi)[k*64+i]? =some (cutAt xs wd hi k i):=by
 unfold cutZ;rw[wC0,wI7 h];show some (cutAt xs wd hi ((k*64+i)/64) ((k*64+i)%64))=_
 rw[show (k*64+i)/64=k by omega,show (k*64+i)%64=i by omega]
def zDq (Z:List Int) (m:Nat):List Int:=Z.take m++List.replicate (Z.length-m) 0
def midZ_len (Z:List Int) (m:Nat) (h:m≤Z.length):(zDq Z m).length=Z.length:=by simp[zDq];omega
def midZ_zero (Z:List Int):zDq Z 0=List.replicate Z.length 0:=by simp[zDq]
def midZ_all (Z:List Int):zDq Z Z.length=Z:=by simp[zDq]
def midZ_set (Z:List Int) (m:Nat) (z:Int) (h:Z[m]? =some z):(zDq Z m).set m z=zDq Z (m+1):=by
 obtain⟨hm,hz⟩:=wC2.1 h;unfold zDq;have e:Z.length-m=(Z.length-(m+1))+1:=by omega
 have e2:Z.take (m+1)=Z.take m++[z]:=by rw[wD4,h];rfl
 rw[e2,e,wG0,wF8 _ _ (by simp;omega),wI8,show min m Z.length=m by omega,wF9,wG1,wG2];rfl
def cut_place (wd hi r c:Nat) (h1:1≤wd) (h2:1≤hi):min r (hi-1)*wd+min c (wd-1)<wd*hi:=by
 have a:min r (hi-1)≤hi-1:=wI9 _ _;have b:min c (wd-1)≤wd-1:=wI9 _ _;have c1:min r (hi-1)*wd≤(hi-1)*wd:=wJ0 _ a;obtain⟨h,rfl⟩: ∃ h,hi=h+1:=⟨hi-1,by omega⟩
 rw[wJ1] at c1 ⊢;rw[Nat.mul_succ,wJ2 wd h];omega
end Go.Proofs.YtkggcjdlpendfaaGreatDoor
