import Derived.Maps.AppendAt
import Derived.Great.Walk
import Derived.Deep.MidRow
import Derived.Laws.MakeOwn
import Derived.Test.YtkggcjdlpendfaaGreatDoorMTopFewestCard1
set_option linter.all false
set_option maxRecDepth 20000
set_option maxHeartbeats 8000000
namespace Go.Proofs.YtkggcjdlpendfaaGreatDoor
open Go.RowKit
section
variable {P:Program} (w:World)
def zJm (base:Nat) (t ty e:TypeId) (i:TypeInfo) (size:Nat) (ht:P.underlying t=some (.slice e)) (hi:P.info? e=some i)
 (v:Value) (n:Nat) (xs:List Value) (hown:w.ownsRow base e size v n xs) (c:Nat):(Builtin.append_ #[t,t] ty #[v,.slice none 0 c]).run P w=.ok v w:=by
 rcases hown.2 with ⟨rfl,rfl⟩ | ⟨g,cap,cur,rfl,_,_,hnc,_⟩
 ·simp[Builtin.append_,run_underlying ht,sizeOf,typeInfo,hi,Builtin.lenOf,Builtin.firstCells]
 ·simp[Builtin.append_,run_underlying ht,sizeOf,typeInfo,hi,Builtin.lenOf,Builtin.firstCells,hnc,storeCells]
def zOh (base:Nat) (t ty e:TypeId) (i:TypeInfo) (z:Value) (size bytes:Nat) (ht:P.underlying t=some (.slice e)) (hi:P.info? e=some i) (hz:i.zero=some z)
 (hsize:i.size=size) (hby:i.bytes=bytes) (hzs:z.cells.size=size) (hsz:0<size)
 (v:Value) (n:Nat) (xs:List Value) (hown:w.ownsRow base e size v n xs)
 (x:Value) (m:Nat) (news:List Value) (hr:SL w size x m news) (h1: ∀ u∈news,u.oneCell'=true)
 (h63:n+m≤maxLen) (hbytes:(n+m)*bytes≤140737488355328) (hbase:base≤w.heap.size) :
 ∃ v' w',(Builtin.append_ #[t,t] ty #[v,x]).run P w=.ok v' w'∧w'.ownsRow base e size v' (n+m) (xs++news)∧w.grownBy w' v.ownBlock ∧
  (v'.ownBlock=v.ownBlock∨v'.ownBlock=some w.heap.size):=by
 obtain⟨A,c,rfl, -, -,hl,hc⟩:=hr;rcases A with _ | ad
 ·have hm:m=0:=by
   rcases wC5 m with h0 | h0
   ·exact h0
   ·obtain⟨ad,h,_⟩:=hc h0;cases h
  subst hm;have hn:news=[]:=wC6 (by simpa using hl);subst hn;exact⟨v,w,zJm w base t ty e i size ht hi v n xs hown c,by simpa using hown,World.grownBy.refl w _,.inl rfl⟩
 ·have hcells: ∀ j u,news[j]? =some u→w.cell? (ad.add j)=some u:=by
   intro j u hu;rcases wC5 m with h0 | h0
   ·subst h0;have hn:news=[]:=wC6 (by simpa using hl);subst hn;simp at hu
   ·obtain⟨ad',h,_,hcc⟩:=hc h0;injection h with h
    subst h;exact hcc j u hu
  obtain⟨v',w',hrun,h2,h3,_,h5⟩:=run_append_own_at (P:=P) w base t ty e i z size bytes ht hi hz hsize hby hzs hsz v n xs hown ad m c news hl hcells h1 h63 hbytes hbase;exact⟨v',w',hrun,h2,h3,h5⟩
def zIO {o:Oper} {a:Act} {K:Act→World→Prop} {Q:Exit→Act→World→Prop} (s x:Operand) (t:TypeId)
 (ho:o.op=.call { callee:=.builtin .append,args:= #[s,x],argTypes:= #[t,t] })
 (base:Nat) (e:TypeId) (i:TypeInfo) (z:Value) (size bytes:Nat) (ht:P.underlying t=some (.slice e)) (hi:P.info? e=some i) (hz:i.zero=some z)
 (hsize:i.size=size) (hby:i.bytes=bytes) (hzs:z.cells.size=size) (hsz:0<size)
 (v:Value) (n:Nat) (xs:List Value) (hs:a.eval s=v) (hown:w.ownsRow base e size v n xs)
 (u:Value) (m:Nat) (news:List Value) (hx:a.eval x=u) (hr:SL w size u m news) (h1: ∀ u∈news,u.oneCell'=true)
 (h63:n+m≤maxLen) (hbytes:(n+m)*bytes≤140737488355328) (hbase:base≤w.heap.size)
 (h: ∀ v' w',w'.ownsRow base e size v' (n+m) (xs++news)→w.grownBy w' v.ownBlock→(v'.ownBlock=v.ownBlock∨v'.ownBlock=some w.heap.size)→K (a.put o.dst v') w'):o.wp P a w K Q:=by
 obtain⟨v',w',hrun,h2,h3,h4⟩:=zOh (P:=P) w base t o.type e i z size bytes ht hi hz hsize hby hzs hsz v n xs hown u m news hr h1 h63 hbytes hbase;unfold Oper.wp execOp;simp only[ho,resolve,invoke,builtin,Sem.run_bind,Sem.run_pure,Result.andThen_ok,wC7,wC8,wC9,hs,hx,hrun];exact h v' w' h2 h3 h4
structure Elt (P:Program) (t e:TypeId) (size bytes:Nat):Prop where
 ht:P.underlying t=some (.slice e)
 hi:(P.info? e).map (fun i=>(i.zero.map fun z=>z.cells.size,i.size,i.bytes))=some (some size,size,bytes)
 hsz:0<size
variable {w}
def jX {ops:Array Oper} {rest:List Oper} {o:Oper} {a:Act} {Q:Exit→Act→World→Prop} {t e:TypeId} {size bytes:Nat} (he:Elt P t e size bytes) (hgd:o.guard=none) (s x:Operand)
 (ho:o.op=.call { callee:=.builtin .append,args:= #[s,x],argTypes:= #[t,t] })
 (base:Nat) (v:Value) (n:Nat) (xs:List Value) (hs:a.eval s=v) (hown:w.ownsRow base e size v n xs)
 (u:Value) (m:Nat) (news:List Value) (hx:a.eval x=u) (hr:SL w size u m news) (h1: ∀ u∈news,u.oneCell'=true)
 (h63:n+m≤9223372036854775807) (hbytes:(n+m)*bytes≤140737488355328) (hbase:base≤w.heap.size)
 (h: ∀ v' w',w'.ownsRow base e size v' (n+m) (xs++news)→Below base w w'→wpList P ops Q rest (a.put o.dst v') w'):wpList P ops Q (o::rest) a w:=by
 obtain⟨ht,hi,hsz⟩:=he
 cases hq:P.info? e with
 | none=>simp[hq] at hi
 | some i =>
   cases hzq:i.zero with
   | none=>simp[hq,hzq] at hi
   | some z =>
     have hi':z.cells.size=size∧i.size=size∧i.bytes=bytes:=by simpa [hq,hzq] using hi
     refine wpList_plain hgd fun _ hK=>zIO w s x t ho base e i z size bytes ht hq hzq hi'.2.1 hi'.2.2 hi'.1 hsz v n xs hs hown u m news hx hr h1 (by unfold maxLen;omega) hbytes hbase fun v' w' h2 h3 h4=>hK _ _ (h v' w' h2 ?_)
     exact (Below.refl base w).grown h3 hbase (fun k hk=>((hown.lt k hk).1))
def zAn {ops:Array Oper} {rest:List Oper} {o:Oper} {a:Act} {Q:Exit→Act→World→Prop} {t e:TypeId} {size bytes:Nat} (he:Elt P t e size bytes) (hgd:o.guard=none) (s x:Operand)
 (ho:o.op=.call { callee:=.builtin .append,args:= #[s,x],argTypes:= #[t,t] })
 (base:Nat) (v:Value) (n:Nat) (xs:List Value) (hs:a.eval s=v) (hown:w.ownsRow base e size v n xs)
 (u:Value) (m:Nat) (news:List Value) (hx:a.eval x=u) (hr:SL w size u m news) (h1: ∀ u∈news,u.oneCell'=true)
 (h63:n+m≤9223372036854775807) (hbytes:(n+m)*bytes≤140737488355328) (hbase:base≤w.heap.size)
 (h: ∀ v' w',w'.ownsRow base e size v' (n+m) (xs++news)→w.grownBy w' v.ownBlock→(v'.ownBlock=v.ownBlock∨v'.ownBlock=some w.heap.size)→wpList P ops Q rest (a.put o.dst v') w'):wpList P ops Q (o::rest) a w:=by
 obtain⟨ht,hi,hsz⟩:=he
 cases hq:P.info? e with
 | none=>simp[hq] at hi
 | some i =>
   cases hzq:i.zero with
   | none=>simp[hq,hzq] at hi
   | some z =>
     have hi':z.cells.size=size∧i.size=size∧i.bytes=bytes:=by simpa [hq,hzq] using hi
     refine wpList_plain hgd fun _ hK=>zIO w s x t ho base e i z size bytes ht hq hzq hi'.2.1 hi'.2.2 hi'.1 hsz v n xs hs hown u m news hx hr h1 (by unfold maxLen;omega) hbytes hbase fun v' w' h2 h3 h4=>hK _ _ (h v' w' h2 h3 h4)
def wApf {ops:Array Oper} {rest:List Oper} {o:Oper} {a:Act} {Q:Exit→Act→World→Prop} {t e:TypeId} {size bytes:Nat} (he:Elt P t e size bytes) (hgd:o.guard=none) (s x:Operand)
 (ho:o.op=.call { callee:=.builtin .append,args:= #[s,x],argTypes:= #[t,t] })
 (base:Nat) (v:Value) (n:Nat) (xs:List Value) (hs:a.eval s=v) (hown:w.ownsRow base e size v n xs)
 (u:Value) (m:Nat) (news:List Value) (hx:a.eval x=u) (hr:SL w size u m news) (h1: ∀ u∈news,u.oneCell'=true)
 (h63:n+m≤9223372036854775807) (hbytes:(n+m)*bytes≤140737488355328) (hbase:base≤w.heap.size)
 (h: ∀ A c w',w'.ownsRow base e size (.slice A (n+m) c) (n+m) (xs++news)→w.grownBy w' v.ownBlock→(A.map (·.block)=v.ownBlock∨A.map (·.block)=some w.heap.size)→wpList P ops Q rest (a.put o.dst (.slice A (n+m) c)) w'):wpList P ops Q (o::rest) a w :=
 zAn he hgd s x ho base v n xs hs hown u m news hx hr h1 h63 hbytes hbase fun v' w' h2 h3 h4=>by
  have h2':=h2.2;rcases h2' with ⟨rfl,h0⟩ | ⟨g,cap,cur,rfl,_⟩
  ·have hz:n+m=0∨ ¬n+m=0:=by omega
   have hl:=h2.1;rw[h0] at hl
   have h5:n+m=0:=by
    have:=he.hsz;rcases wC5 (n+m) with h6 | h6
    ·exact h6
    ·have:=Nat.mul_pos h6 this;simp at hl;omega
   have key:=h none 0 w';rw[h5] at key;rw[h5] at h2;exact key h2 h3 (by simpa [Value.ownBlock] using h4)
  ·exact h _ _ w' h2 h3 (by simpa [Value.ownBlock] using h4)
end
def zGL {w:World} {base:Nat} {e:TypeId} {size n:Nat} {v:Value} {xs:List Value} (h:w.ownsRow base e size v n xs):SL w size v n xs:=by
 obtain⟨hl,hh⟩:=h;rcases hh with ⟨rfl,rfl⟩ | ⟨g,cap,cur,rfl,hb,hg,hn,hm,hc,hx⟩
 ·have:xs=[]:=wC6 (by simpa using hl);subst this;exact SL.nil w size
 ·refine⟨_,_,rfl,hn,by unfold maxLen at hm;omega,hl,fun _=>⟨_,rfl,Blk.lt (w:=w) (t:=e) (cs:=cur) hg,fun j u hu=> ?_⟩⟩;have hj:j<xs.length:=(wC2.1 hu).1
  have e1:(⟨g,0,none⟩:Addr).add j=⟨g,j,none⟩:=by
   unfold Addr.add
   by_cases h0:j=0
   ·subst h0;rfl
   ·rw[if_neg h0];simp
  rw[e1,cell_of_row w g j cur e (0,0) hg, ←hu, ←hx,wD0 (by omega)];simp
def zQU {w:World} {base:Nat} {e:TypeId} {v:Value} {L:List Int} {z:Int} (h:w.ownsRow base e 1 v (L.length+1) (ints L++[.int .i64 z])):w.ownsRow base e 1 v (L++[z]).length (ints (L++[z])):=by
 simpa [ints] using h
def Ext.trans' {a w w':World} (h:Ext a w) (k:Below a.heap.size w w'):Ext a w':=Below.trans h k
def zGX (z:Int): ∀ u∈[Value.int .i64 z],u.oneCell'=true:=by
 intro u hu;simp at hu;subst hu;rfl
def zMQ (w:World) (T:TypeId) (v:Value):SL (w.alloc (.cells #[v] T)) 1 (.slice (some ⟨w.heap.size,0,none⟩) 1 1) 1 [v]:=by
 have:=(Blk.new w T #[v]).sl (size:=1) (n:=1) (c:=1) rfl (by omega) (by omega);simpa using this
def zAG {w:World} {base:Nat} {e:TypeId} {size n:Nat} {v:Value} {xs:List Value} (h:w.ownsRow base e size v n xs): ∃ A c,v=.slice A n c∧SL w size (.slice A n c) n xs∧ ∀ ad,A=some ad→base≤ad.block:=by
 have hs:=zGL h;obtain⟨hl,hh⟩:=h;rcases hh with ⟨rfl,rfl⟩ | ⟨g,cap,cur,rfl,hb,hg,hn,hm,hc,hx⟩
 ·exact⟨none,0,rfl,hs,by intro ad h;cases h⟩
 ·exact⟨some ⟨g,0,none⟩,cap,rfl,hs,by intro ad h;injection h with h;subst h;exact hb⟩
def SL.far {w:World} {size n c:Nat} {A:Option Addr} {xs:List Value} (h:SL w size (.slice A n c) n xs) {p:Addr} (hne: ∀ ad,A=some ad→ad.block≠p.block) (u:Value):SL (w.setCell p u) size (.slice A n c) n xs:=by
 obtain⟨A',c',e,h1,h1',h2,h3⟩:=h;injection e with e1 e2 e3
 subst e1 e3;refine⟨A,c,rfl,h1,h1',h2,fun hn=> ?_⟩;obtain⟨ad,ea,hlt,hc⟩:=h3 hn;exact⟨ad,ea,by simpa [World.setCell] using hlt,fun j u' hu=>(World.cell?_setCell_other w p (ad.add j) u (fun e=>hne ad ea (by rw[e,yN]))).trans (hc j u' hu)⟩
structure Upd (S:Nat→Prop) (w w':World):Prop where
 os:w'.os=w.os
 tape:w'.tape=w.tape
 output:w'.output=w.output
 size:w.heap.size≤w'.heap.size
 block: ∀ b,b<w.heap.size→ ¬S b→w'.heap[b]? =w.heap[b]?
def Upd.refl (S:Nat→Prop) (w:World):Upd S w w:=⟨rfl,rfl,rfl,wA5 _,fun _ _ _=>rfl⟩
def Upd.trans {S S':Nat→Prop} {a b c:World} (h:Upd S a b) (k:Upd S' b c) (hS: ∀ x,S' x→S x∨a.heap.size≤x):Upd S a c :=
 ⟨k.os.trans h.os,k.tape.trans h.tape,k.output.trans h.output,wD1 h.size k.size,fun x hx hn=>by
  have h1:=h.size
  rw[k.block x (by omega) (fun h2=>(hS x h2).elim hn (by omega)),h.block x hx hn]⟩
def Upd.of_ext {S:Nat→Prop} {a b:World} (h:Ext a b):Upd S a b:=⟨h.os,h.tape,h.output,h.size,fun x hx _=>h.block x hx⟩
def Upd.below {S:Nat→Prop} {a b:World} {B:Nat} (h:Upd S a b) (hS: ∀ x,S x→B≤x) (hB:B≤a.heap.size):Below B a b :=
 ⟨h.os,h.tape,h.output,h.size,fun x hx=>h.block x (by omega) (fun h2=>by have:=hS x h2;omega)⟩
def Upd.setCell {S:Nat→Prop} {a b:World} (h:Upd S a b) {p:Addr} (hp:S p.block) (u:Value):Upd S a (b.setCell p u) :=
 ⟨h.os,h.tape,h.output,by simpa [World.setCell] using h.size,fun x hx hn=>(Below.heap_setCell b p u x (fun e=>hn (e ▸ hp))).trans (h.block x hx hn)⟩
def Upd.drew {S:Nat→Prop} {a b:World} (h:Upd S a b):Upd S a b.drew:=⟨h.os,h.tape,h.output,h.size,h.block⟩
def Upd.grown {S:Nat→Prop} {a w w':World} (h:Upd S a w) {row:Option Nat} (hg:w.grownBy w' row) (hr: ∀ b,row=some b→S b∨a.heap.size≤b):Upd S a w' :=
 ⟨hg.os.trans h.os,hg.tape.trans h.tape,hg.output.trans h.output,wD1 h.size hg.size,fun x hx hn=>by
  have h1:=h.size
  rw[hg.block x (by omega) (fun h2=>(hr x h2.symm).elim hn (by omega)),h.block x hx hn]⟩
def SL.upd {S:Nat→Prop} {w w':World} {size n c:Nat} {A:Option Addr} {xs:List Value} (h:SL w size (.slice A n c) n xs) (hu:Upd S w w') (hS: ∀ ad,A=some ad→ ¬S ad.block):SL w' size (.slice A n c) n xs:=by
 obtain⟨A',c',e,h1,h1',h2,h3⟩:=h;injection e with e1 e2 e3
 subst e1 e3;refine⟨A,c,rfl,h1,h1',h2,fun hn=> ?_⟩;obtain⟨ad,ea,hlt,hc⟩:=h3 hn;refine⟨ad,ea,wA1 hlt hu.size,fun j u hj=> ?_⟩;rw[←hc j u hj];unfold World.cell?;rw[yN,hu.block _ hlt (hS ad ea)]
def Upd.blk {S:Nat→Prop} {w w':World} {g:Nat} {T:TypeId} {cs:Array Value} (hu:Upd S w w') (h:Blk w g T cs) (hS: ¬S g):Blk w' g T cs:=(hu.block g h.lt hS).trans h
def Upd.ext {S:Nat→Prop} {a w w':World} (hu:Upd S w w') (h:Ext a w) (hS: ∀ x,S x→a.heap.size≤x):Ext a w' :=
 ⟨hu.os.trans h.os,hu.tape.trans h.tape,hu.output.trans h.output,wD1 h.size hu.size,fun x hx=>by
  have:=h.size
  rw[hu.block x (by omega) (fun h2=>by have:=hS x h2;omega),h.block x hx]⟩
def SL.below {w w':World} {size n B:Nat} {v:Value} {xs:List Value} (h:SL w size v n xs) (hb:Below B w w') (hB:w.heap.size≤B):SL w' size v n xs:=by
 obtain⟨A,c,rfl,h1,h1',h2,h3⟩:=h;refine⟨A,c,rfl,h1,h1',h2,fun hn=> ?_⟩;obtain⟨ad,e,hlt,hc⟩:=h3 hn;exact⟨ad,e,wA1 hlt hb.size,fun j u hu=>(hb.cell (by rw[yN];omega)).trans (hc j u hu)⟩
def fold_set (l:List Value): ∀ (k:Nat) (a:Array Value),a.size=k+l.length→(l.zipIdx k).foldl (fun cs (p:Value×Nat)=>cs.setIfInBounds (0+p.2) p.1) a=(a.toList.take k++l).toArray:=by
 induction l with
 | nil =>
   intro k a h;simp at h;apply Array.ext';simp[wC4,h]
 | cons v l ih =>
   intro k a h;rw[wD2,List.foldl_cons,ih (k+1) _ (by simp at h ⊢;omega)];apply Array.ext';simp only[wB2,wD3];have hk:k<a.toList.length:=by simp at h ⊢;omega
   rw[wD4,List.take_set_of_le (by omega),List.getElem?_set_self hk];simp
def fill_one (v:Value) (n:Nat) (a:Array Value) (hv:v.cells.size=n) (ha:a.size=n):Instr.fill (fun i=>some (i*n,n)) a [(0,v)]=some v.cells:=by
 have e:v.cells.zipIdx.foldl (fun cs (p:Value×Nat)=>cs.setIfInBounds (0+p.2) p.1) a=v.cells:=by
  have h:=fold_set v.cells.toList 0 a (by simp;omega);rw[←Array.foldl_toList];simpa using h
 simp only[wB2] at e
 have e2:Array.foldl (fun cs (x:Value×Nat)=>cs.setIfInBounds x.2 x.1) a v.cells.zipIdx 0 n=v.cells:=by
  have hn:n=v.cells.zipIdx.size:=by simp[hv]
  rw[hn];exact e
 simp[Instr.fill,hv,ha,e2]
def zMu {P:Program} {e:TypeId} {n:Nat} (v:Value) (hs:(P.info? e).map (·.size)=some n) (hz:((P.info? e).bind (·.zero)).isSome=true) (hv:v.cells.size=n) (h0:0<n) (h1:n≤16777216):P.builtSlice e 1 [(0,v)]=some v.cells:=by
 unfold Program.builtSlice
 cases hq:P.info? e with
 | none=>simp[hq] at hs
 | some i =>
   have hi:i.size=n:=by simpa [hq] using hs
   cases hzz:i.zero with
   | none=>simp[hq,hzz] at hz
   | some z =>
     simp only[hi,hzz,wD5];rw[if_neg (by omega)];exact fill_one v n _ hv (by simp)
def wLit1 {P:Program} {ops:Array Oper} {rest:List Oper} {o:Oper} {a:Act} {w:World} {Q:Exit→Act→World→Prop} (hg:o.guard=none) (t e:TypeId) (x:Operand) (ho:o.op=.buildSlice t 1 #[(0,x)]) (dst:Option Tmp) (hdst:o.dst=dst)
 (ht:P.underlying t=some (.slice e)) (n:Nat) (hs:(P.info? e).map (·.size)=some n) (hz:((P.info? e).bind (·.zero)).isSome=true) (v:Value) (hx:a.eval x=v) (hv:v.cells.size=n) (h0:0<n) (h1:n≤16777216)
 (h: ∀ w1 g,Blk w1 g e v.cells→Ext w w1→w.heap.size≤g→wpList P ops Q rest (a.put dst (.slice (some ⟨g,0,none⟩) 1 1)) w1):wpList P ops Q (o::rest) a w:=by
 refine Go.Great.wpList_buildSliceTo hg t e 1 #[(0,x)] ho _ rfl dst hdst ht v.cells ?_ (h _ _ (Blk.new w e _) ((Ext.refl w).alloc _) (wA5 _));simp only[wC7,wC8,wC9,hx];exact zMu v hs hz hv h0 h1
def yR {w w':World} {base:Nat} {e:TypeId} {size n:Nat} {v:Value} {xs:List Value} (h:w.ownsRow base e size v n xs) (hb:Ext w w'):w'.ownsRow base e size v n xs:=by
 obtain⟨hl,hh⟩:=h;refine⟨hl, ?_⟩;rcases hh with ⟨rfl,rfl⟩ | ⟨g,cap,cur,rfl,h1,hg,h2⟩
 ·exact .inl ⟨rfl,rfl⟩
 ·exact .inr ⟨g,cap,cur,rfl,h1,(hb.block g (Blk.lt (w:=w) (t:=e) (cs:=cur) hg)).trans hg,h2⟩
def zAt (w:World) (base:Nat) (e:TypeId) (size:Nat):w.ownsRow base e size (.slice none 0 0) 0 []:=⟨by simp,.inl ⟨rfl,rfl⟩⟩
def qY (zs:List Int): ∀ u∈ints zs,u.oneCell'=true:=by
 intro u hu;obtain⟨z, -,rfl⟩:=wD6.1 hu;rfl
def uR (xs ys:List Int):ints (xs++ys)=ints xs++ints ys:=by simp[ints]
def zBZ (op:BinOp) (x y:Operand) (v w:Int) (W:World):(eqGuard op 3 x y (.int .i64 v) (.int .i64 w)).run Tryz.prog W=.ok () W:=by
 cases op<;>go_simp
def zHc (i d:Nat) (h:i<1000000000000) (hd:0<d) (W:World):(binOp .quo 3 (.int .i64 (i:Int)) (.int .i64 (d:Int))).run Tryz.prog W=.ok (.int .i64 ((i/d:Nat):Int)) W:=by
 have h0:(0:Int)≤(i:Int):=by omega
 have h1: ¬d=0:=by omega
 have h2:(i/d:Nat)≤i:=Nat.div_le_self _ _;have h5: ∀ q:Nat,q≤i→IntKind.i64.wrap (q:Int)=(q:Int):=fun q hq=>IntWalk.i64_in _ (by omega)
 have h4:IntKind.i64.wrap ((i:Int)/(d:Int))=(i:Int)/(d:Int):=by rw[←Int.natCast_ediv];exact h5 _ h2
 have h3:(Int.tdiv (i:Int) (d:Int))=(i:Int)/(d:Int):=Int.tdiv_eq_ediv_of_nonneg h0;go_simp
def zHZ (i d:Nat) (h:i<1000000000000) (hd:0<d) (W:World):(binOp .rem 3 (.int .i64 (i:Int)) (.int .i64 (d:Int))).run Tryz.prog W=.ok (.int .i64 ((i%d:Nat):Int)) W:=by
 have h0:(0:Int)≤(i:Int):=by omega
 have h1: ¬d=0:=by omega
 have h3:(Int.tmod (i:Int) (d:Int))=(i:Int)%(d:Int):=Int.tmod_eq_emod_of_nonneg h0;go_simp
def zGz (i d k:Nat) (h:i*d=k) (hk:k<1000000000000) (W:World):(binOp .mul 3 (.int .i64 (i:Int)) (.int .i64 (d:Int))).run Tryz.prog W=.ok (.int .i64 (k:Int)) W:=by
 have h4:IntKind.i64.wrap ((i:Int)*(d:Int))=(k:Int):=by rw[←wD7,h];exact IntWalk.i64_in _ (by omega)
 go_simp
def zHG (i d:Nat) (h:i+d<1000000000000) (W:World):(binOp .add 3 (.int .i64 (i:Int)) (.int .i64 (d:Int))).run Tryz.prog W=.ok (.int .i64 ((i+d:Nat):Int)) W:=by
 have h4:IntKind.i64.wrap ((i:Int)+(d:Int))=((i+d:Nat):Int):=by rw[←wD8];exact IntWalk.i64_in _ (by omega)
 go_simp
def zHN (i d:Nat) (h:i<1000000000000) (h2:d≤i) (W:World):(binOp .sub 3 (.int .i64 (i:Int)) (.int .i64 (d:Int))).run Tryz.prog W=.ok (.int .i64 ((i-d:Nat):Int)) W:=by
 have h4:IntKind.i64.wrap ((i:Int)-(d:Int))=((i-d:Nat):Int):=by rw[←Int.natCast_sub h2];exact IntWalk.i64_in _ (by omega)
 go_simp
section
variable {P:Program} {md:Region.Mode} {ops:Array Oper} {R:World→World→Prop} {Q:Exit→Act→World→Prop} {rest:List Oper} {o:Oper} {k:Nat} {listed:Array Bool} {a:Act} {wc:World}
def zAO (hw:Region.wanted o (yielded ops a.tmps)=true) (op:BinOp) (t:TypeId) (x y:Operand) (t2:TypeId) (ho:o.op=.binOp op t x y t2) (vx vy:Value) (hx:a.eval x=vx) (hy:a.eval y=vy) (v:Value)
 (hg: ∀ w,(eqGuard op t x y vx vy).run P w=.ok () w) (hr: ∀ w,(binOp op t vx vy).run P w=.ok v w) (h:zAF P md ops R Q rest (k+1) (listed.setIfInBounds k true) (a.put o.dst v) wc):zAF P md ops R Q (o::rest) k listed a wc :=
 zI hw v (fun w=>by simp[execOp,ho,hx,hy,hg,hr]) h
end
def zAJ (w:World) (p:Addr) (cs:List Value):Prop:= ∀ j v,cs[j]? =some v→w.cell? (p.add j)=some v
section
variable {P:Program}
def zFb (w:World) (p:Addr) (ty:TypeId) (cs:List Value) (d:TypeDesc) (hc:zAJ w p cs) (hu:P.underlying ty=some d) (hd:d.isRow=true) (hi:(P.info? ty).map (·.size)=some cs.length) :
 (loadVar ty p).run P w=.ok (.agg cs.toArray) w:=by
 have hl:(loadCells p cs.length).run P w=.ok cs.toArray w:=run_loadCells_list (P:=P) w p cs hc
 cases hq:P.info? ty with
 | none=>simp[hq] at hi
 | some i =>
   have hs:i.size=cs.length:=by simpa [hq] using hi
   have hagg:(isAgg ty).run P w=.ok true w:=by
    unfold isAgg;rw[Sem.run_bind,run_underlying hu w];cases d<;>simp_all
   simp[loadVar,Sem.run_bind,hagg,sizeOf,typeInfo,hq,hs,hl]
def yI {ops:Array Oper} {rest:List Oper} {op:Oper} {a:Act} {w:World} {Q:Exit→Act→World→Prop} (hw:Region.wanted op (yielded ops a.tmps)=true) (ty:TypeId) (x:Operand) (ho:op.op=.load ty x)
 (p:Addr) (hx:a.eval x=.pointer (some p)) (cs:List Value) (d:TypeDesc) (hc:zAJ w p cs) (hu:P.underlying ty=some d) (hd:d.isRow=true) (hi:(P.info? ty).map (·.size)=some cs.length)
 (h:wpList P ops Q rest (a.put op.dst (.agg cs.toArray)) w):wpList P ops Q (op::rest) a w :=
 uE hw fun _ hK=>by
  unfold Oper.wp execOp;simp only[ho,hx,Instr.loadAt,Instr.sureAddr,Sem.run_bind,Sem.run_pure,Result.andThen_ok,zFb w p ty cs d hc hu hd hi];exact hK _ _ h
def zJz {md:Region.Mode} {ops:Array Oper} {R:World→World→Prop} {Q:Exit→Act→World→Prop} {rest:List Oper} {o:Oper} {k:Nat} {listed:Array Bool} {a:Act} {wc:World} (hw:Region.wanted o (yielded ops a.tmps)=true) (ty:TypeId) (x:Operand) (ho:o.op=.load ty x)
 (p:Addr) (hx:a.eval x=.pointer (some p)) (cs:List Value) (d:TypeDesc) (hc: ∀ w,R wc w→zAJ w p cs) (hu:P.underlying ty=some d) (hd:d.isRow=true) (hi:(P.info? ty).map (·.size)=some cs.length)
 (h:zAF P md ops R Q rest (k+1) (listed.setIfInBounds k true) (a.put o.dst (.agg cs.toArray)) wc):zAF P md ops R Q (o::rest) k listed a wc:=by
 refine xL hw _ (fun w hC=> ?_) h;unfold execOp;simp only[ho,hx,Instr.loadAt,Instr.sureAddr,Sem.run_bind,Sem.run_pure,Result.andThen_ok,zFb w p ty cs d (hc w hC) hu hd hi]
end
def SL.part {w:World} {sz n c:Nat} {A:Option Addr} {xs:List Value} (h:SL w sz (.slice A n c) n xs) {k:Nat} (hk:k<n): ∃ ad,A=some ad∧ad.block<w.heap.size∧zAJ w (ad.add (k*sz)) ((xs.drop (k*sz)).take sz):=by
 obtain⟨A',c',he, -, -,hl,hf⟩:=h;injection he with e1 e2 e3
 subst e1;obtain⟨ad,rfl,hb,hcell⟩:=hf (by omega);refine⟨ad,rfl,hb,fun j v hv=> ?_⟩;rw[zHi];have hj:j<sz:=by have:=(wC2.1 hv).1;simp at this;omega
 rw[wD0 hj,wB4] at hv;exact hcell _ _ hv
def rp (n d:Int):Int:=(2*n+d)/(2*d)
def rnd (n d:Int):Int:=if n<0 then -(rp (-n) d) else rp n d
def zJC (n d:Int) (h0:0≤n) (hd:1≤d):0≤rp n d∧rp n d≤n+1:=by
 unfold rp;constructor
 ·exact Int.ediv_nonneg (by omega) (by omega)
 ·have h1:(2*n+d)/(2*d)*(2*d)≤2*n+d:=Int.ediv_mul_le _ (by omega);generalize (2*n+d)/(2*d)=q at *;refine Int.not_lt.1 fun hq=> ?_
  have h2:(n+2)*(2*d)≤q*(2*d):=wD9 (by omega) (by omega);have h3:n*2≤n*(2*d):=wE0 (by omega) h0;rw[Int.add_mul] at h2;omega
def zSv (n d:Int) (hd:1≤d): -(n.natAbs:Int)-1≤rnd n d∧rnd n d≤n.natAbs+1:=by
 unfold rnd;split
 ·have:=zJC (-n) d (by omega) hd;omega
 ·have:=zJC n d (by omega) hd;omega
def vF (n lo hi:Int):Int:=if n<lo then lo else if hi<n then hi else n
def zHy (n lo hi:Int) (h:lo≤hi):lo≤vF n lo hi∧vF n lo hi≤hi:=by
 unfold vF;split<;>(try split)<;>omega
def min_max (n lo hi:Int) (h:lo≤hi):min (max n lo) hi=vF n lo hi:=by
 unfold vF;split<;>(try split)<;>omega
def inB (n lo hi:Int):Bool:=decide (lo≤n∧n≤hi)
def jS {n lo hi:Int}:inB n lo hi=true↔lo≤n∧n≤hi:=by simp[inB]
def zAI {n lo hi:Int}:inB n lo hi=false↔n<lo∨hi<n:=by rw[←wE1,jS];omega
def zR (zs:List Int) (lo hi:Int):Bool:=zs.all fun z=>inB z lo hi
def yD {zs:List Int} {lo hi:Int}:zR zs lo hi=true↔ ∀ z∈zs,lo≤z∧z≤hi:=by simp[zR,jS]
def zKn {zs:List Int} {lo hi:Int} {k:Nat} (hk:k<zs.length) (h:inB zs[k] lo hi=false):zR zs lo hi=false:=by
 rw[←wE1,yD];intro hh;have:=jS.2 (hh _ (wE2 hk));rw[this] at h;cases h
def allIn_not {zs:List Int} {lo hi:Int}:(!zs.any fun z=>decide (z<lo) ||decide (hi<z))=zR zs lo hi:=by
 rw[wE3,yD];simp only[wE4,List.any_eq_false,wB9,wB3];exact⟨fun h z hz=>by have:=h z hz;omega,fun h z hz=>by have:=h z hz;omega⟩
def zDH {zs:List Int} {lo hi:Int}:(zs.any fun z=> !inB z lo hi)= !zR zs lo hi:=by
 simp[zR,List.all_eq_not_any_not]
def zJa:(Tryz.prog.info? 3).map (·.size)=some 1:=by kernel_rfl
def bv (zs:List Int):Array Value:=(ints zs).toArray
def zK (zs:List Int):(bv zs).size=zs.length:=by simp[bv,yA]
def qK (zs:List Int) (k:Nat) (h:k<zs.length):(bv zs)[k]? =some (.int .i64 zs[k]):=by simp[bv,ints,h]
def xE (zs:List Int):(bv zs).all (·.oneCell')=true:=by
 simp only[bv,wE5];intro v hv;simp only[List.mem_toArray,ints,wD6] at hv;obtain⟨z, -,rfl⟩:=hv;rfl
def jO (zs:List Int) (k:Nat) (z:Int):(bv zs).setIfInBounds k (.int .i64 z)=bv (zs.set k z):=by
 simp[bv,ints,List.map_set]
def Blk.bsl {w:World} {g:Nat} {T:TypeId} {zs:List Int} {c:Nat} (h:Blk w g T (bv zs)) (hc:zs.length≤c) (hc2:c≤9223372036854775807) :
 SL w 1 (.slice (some ⟨g,0,none⟩) zs.length c) zs.length (Go.Proofs.YtkggcjdlpendfaaGreatDoor.ints zs):=by
 have:=h.sl (size:=1) (n:=zs.length) (c:=c) (by simp[zK]) hc hc2;simpa [bv] using this
def zEq {zs:List Int} {lo hi:Int} {k:Nat} (h: ∀ z∈zs.take k,lo≤z∧z≤hi) (hk:k<zs.length) (hz:lo≤zs[k]∧zs[k]≤hi): ∀ z∈zs.take (k+1),lo≤z∧z≤hi:=by
 rw[wC3 hk];intro z hz';rcases wE6.1 hz' with h1 | h1
 ·exact h z h1
 ·simp at h1;subst h1;exact hz
def zAR (n lo hi:Int) (w:World) :
 Calls Tryz.prog 54 #[.int .i64 n,.int .i64 lo,.int .i64 hi] w fun e w'=>e=.returned (.bool (!inB n lo hi))∧w=w':=by
 by_cases h:n<lo
 ·have h':decide (n<lo)=true:=by simpa using h
  have e:(!inB n lo hi)=true:=by rw[zAI.2 (Or.inl h)];rfl
  rw[e];clear e;go_enter Tryz.func54,Tryz.ntmps54;go_wp2
  go_ret;exact⟨rfl,rfl⟩
 ·have h':decide (n<lo)=false:=by simpa using h
  have e:(!inB n lo hi)=decide (hi<n):=by rw[wE3,wE4,zAI];simp;omega
  rw[e];clear e;go_enter Tryz.func54,Tryz.ntmps54;go_wp2
  go_ret;exact⟨rfl,rfl⟩
def uB (P:Program) (f:FuncId):Prop:= ∀ (args:Array Value) (w:World),(callFunc f args).run P w=.ok (.enter f args) w
def zAW {P : Program} {f : FuncId} {fn : Func} {c : Code} (hf : P.funcs[f]? = some fn) (hname : (fn.name == "runtime.NumGoroutine") = false) (hb : fn.body = some c) : uB P f := by
 intro args w;have hn : ¬ fn.name = "runtime.NumGoroutine" := by simpa using hname
 simp[callFunc,hf,hb,hn]
def zGn (p:Int→Bool) (zs:List Int):Int:=match zs.findIdx? p with | some k=>k | none=> -1
def zOi (g:Nat) (cap:Array Value) (p:Int→Bool) (eg:uB Tryz.prog g) (v:Value) (zs:List Int) (w:World) (hs:SL w 1 v zs.length (ints zs))
 (hp: ∀ z∈zs,Calls Tryz.prog g (#[.int .i64 z]++cap) w fun e w'=>e=.returned (.bool (p z))∧w=w') :
 Calls Tryz.prog 140 #[v,.func (.func g) #[] cap] w fun e w'=>e=.returned (.int .i64 (zGn p zs))∧w=w':=by
 have hs':=hs;obtain⟨A,c,rfl,hc1,hc2, -, -⟩:=hs';go_enter Tryz.func140,Tryz.ntmps140;go_wp2_with fail
 go_loop [8] (fun i=> ∃ k:Nat,k≤zs.length∧i=.int .i64 k∧ ∀ z∈zs.take k,p z=false) (fun i=>zs.length-(intOf i).toNat)
 case atStart=>exact⟨0,by omega,rfl,by simp⟩
 case round =>
  obtain⟨k,hk,rfl,ht⟩:=hrel;have HT:Hid (∀ z∈zs.take k,p z=false):=ht;clear ht
  by_cases hlt:k<zs.length
  ·obtain⟨ad,u,rfl, -,hx,hcell⟩:=hs.at1 hlt;obtain⟨_,rfl⟩:=zBn _ _ _ hx;clear hx;have hcall:=hp zs[k] (wE2 _);have HC:Hid (Calls Tryz.prog g (#[.int .i64 zs[k]]++cap) w fun e w'=>e=.returned (.bool (p zs[k]))∧w=w'):=hcall;have HP:Hid (∀ z∈zs,Calls Tryz.prog g (#[.int .i64 z]++cap) w fun e w'=>e=.returned (.bool (p z))∧w=w'):=hp;clear hcall hp;unfold uB at eg
   by_cases hz:p zs[k]=true
   ·have hfin:zGn p zs=k:=by
     unfold zGn
     have:zs.findIdx? p=some k:=by
      rw[wE7];refine⟨hlt,hz,fun j hj=> ?_⟩
      have:=HT.out zs[j] (by
       rw[wE8]
       exact⟨j,by omega,rfl⟩)
      simp[this]
     rw[this]
    have HF:=zA hfin;clear hfin;go_wp2_with fail;refine HC.out.mono ?_;rintro e w' ⟨rfl,rfl⟩;rw[hz];clear hz;go_wp2
    go_ret;exact⟨by rw[HF.out];rfl,rfl⟩
   ·have hz':p zs[k]=false:=by simpa using hz
    have HZ:=zA hz';clear hz;go_wp2_with fail;refine HC.out.mono ?_;rintro e w' ⟨rfl,rfl⟩;rw[hz'];clear hz';go_wp2
    go_round
    case rel =>
     refine⟨k+1,by omega,by go_num,fun z hz=> ?_⟩;rw[wC3 hlt] at hz;rcases wE6.1 hz with h1 | h1
     ·exact HT.out z h1
     ·simp at h1;subst h1;exact HZ.out
    case measure=>simp[intOf];omega
  ·have hfin:zGn p zs= -1:=by
    unfold zGn
    have:zs.findIdx? p=none:=by
     rw[wE9];have h:=HT.out
     rwa [wC4 (by omega)] at h
    rw[this]
   have HF:=zA hfin;clear hfin;go_wp2
   go_ret;exact⟨by rw[HF.out];rfl,rfl⟩
def idxOf_ge (p:Int→Bool) (zs:List Int):decide (zGn p zs≥0)=zs.any p:=by
 unfold zGn
 cases h:zs.findIdx? p with
 | none =>
   have:zs.any p=false:=by rw[List.any_eq_false];intro x hx;have:=wE9.1 h x hx;simp[this]
   simp[this]
 | some k =>
   have:zs.any p=true:=by
    rw[List.any_eq_true];obtain⟨hk,hp, -⟩:=wE7.1 h;exact⟨_,wE2 hk,hp⟩
   simp[this]
def jU (g:Nat) (cap:Array Value) (p:Int→Bool) (eg:uB Tryz.prog g) (v:Value) (zs:List Int) (w:World) (hs:SL w 1 v zs.length (ints zs))
 (hp: ∀ z∈zs,Calls Tryz.prog g (#[.int .i64 z]++cap) w fun e w'=>e=.returned (.bool (p z))∧w=w') :
 Calls Tryz.prog 88 #[v,.func (.func g) #[] cap] w fun e w'=>e=.returned (.bool (zs.any p))∧w=w':=by
 have HP:=zA hp;have HG:=zA eg;clear hp eg;go_enter Tryz.func88,Tryz.ntmps88;go_wp2_with (go_at_call 140;refine (zOi g cap p HG.out v zs _ hs HP.out).mono ?_;rintro e w' ⟨rfl,rfl⟩)
 go_ret;exact⟨by rw[←idxOf_ge];rfl,rfl⟩
def zDw (cs:Array Value) (i:Nat) (u:Value) (hi:i<64) (hu:cs[i]? =some u) (w:World):(Instr.index 33 (.agg cs) (.int .i64 (i:Int))).run Tryz.prog w=.ok u w :=
 zCH _ _ 64 cs i u Tryz.underlying33 _ Tryz.underlying3 zJa hi hu w
def zH:(Tryz.prog.info? 33).map (·.size)=some 64:=by kernel_rfl
def zMP (zs:List Int) (lo hi:Int) (w:World) (hz:zs.length=64) :
 Calls Tryz.prog 67 #[.agg (bv zs),.int .i64 lo,.int .i64 hi] w fun e w'=>e=.returned (.bool (zR zs lo hi))∧Ext w w':=by
 have HZ:Hid (zs.length=64):=hz;have hs:=(zK zs).trans hz;have HS:Hid ((bv zs).size=64):=hs;have hat:=qK zs;generalize hcs:bv zs=cs at *;have HA:Hid (∀ (k:Nat) (h:k<zs.length),cs[k]? =some (.int .i64 zs[k])):=hat;clear hat hs hz hcs;go_enter Tryz.func67,Tryz.ntmps67;go_wp2_with (refine wLdB rfl 33 _ rfl _ rfl (Blk.new w 33 cs) _ Tryz.underlying33 rfl 64 zH HS.out ?_)
 go_loop [10] (fun i=> ∃ k:Nat,k≤64∧i=.int .i64 k∧ ∀ z∈zs.take k,lo≤z∧z≤hi) (fun i=>64-(intOf i).toNat)
 case atStart=>exact⟨0,by omega,rfl,by simp⟩
 case round =>
  obtain⟨k,hk,rfl,ht⟩:=hrel;have HT:Hid (∀ z∈zs.take k,lo≤z∧z≤hi):=ht;clear ht
  by_cases hlt:k<64
  ·have hlt2:k<zs.length:=by have:=HZ.out;omega
   have hat:=fun W=>zDw cs k _ hlt (HA.out k hlt2) W
   cases hd:inB zs[k] lo hi with
   | true =>
     have HI:=zA (jS.1 hd);go_wp2_with (go_at_call 54;refine (zAR _ _ _ _).mono ?_;rintro e w' ⟨rfl,rfl⟩)
     go_round
     case rel=>exact⟨k+1,by omega,by go_num,zEq HT.out hlt2 HI.out⟩
     case measure=>simp[intOf];omega
   | false =>
     have HF:=zA (zKn hlt2 hd);go_wp2_with (go_at_call 54;refine (zAR _ _ _ _).mono ?_;rintro e w' ⟨rfl,rfl⟩)
     go_ret;exact⟨by rw[HF.out];rfl,(Ext.refl w).alloc _⟩
  ·have hfin:zR zs lo hi=true:=yD.2 (by have:=HT.out;rwa [wC4 (by have:=HZ.out;omega)] at this);have HF:Hid (zR zs lo hi=true):=hfin;clear hfin;go_wp2
   go_ret;exact⟨by rw[HF.out];rfl,(Ext.refl w).alloc _⟩
def zHE (x y z:Int) (h:IntKind.i64.wrap (x*y)=z) (W:World):(binOp .mul 3 (.int .i64 x) (.int .i64 y)).run Tryz.prog W=.ok (.int .i64 z) W:=by
 subst h;go_simp
def zFN (x y z:Int) (h:IntKind.i64.wrap (x+y)=z) (W:World):(binOp .add 3 (.int .i64 x) (.int .i64 y)).run Tryz.prog W=.ok (.int .i64 z) W:=by
 subst h;go_simp
def zGj (g n:Nat) (h:n<64) (W:World):(Instr.indexAt 33 (.pointer (some ⟨g,0,none⟩)) (.int .i64 (n:Int))).run Tryz.prog W=.ok (.pointer (some ⟨g,n,none⟩)) W:=by
 have h0:(0:Int)≤(n:Int):=by omega
 have h1:(n:Int)<64:=by omega
 go_simp
def zIs (W:World) (p:Addr) (z:Int) (h:W.cell? p=some (.int .i64 z)):(Instr.loadAt 3 (.pointer (some p))).run Tryz.prog W=.ok (.int .i64 z) W:=by
 go_simp
def zGT (op:BinOp) (x y:Operand) (v w:Int) (W:World):(eqGuard op 3 x y (.int .i64 v) (.int .i64 w)).run Tryz.prog W=.ok () W:=by
 cases op<;>go_simp
def zNZ {o:Oper} {a:Act} {w:World} {K:Act→World→Prop} {Q:Exit→Act→World→Prop} (x y:Operand) (ho:o.op=.store 3 x y) (p:Addr) (z:Int) (hx:a.eval x=.pointer (some p)) (hy:a.eval y=.int .i64 z)
 (u:Value) (hc:w.cell? p=some u) (hf:w.frozen? p=false) (h:K (a.put o.dst undef) (w.setCell p (.int .i64 z))):o.wp Tryz.prog a w K Q:=by
 unfold Oper.wp execOp;simp only[ho,hx,hy];go_simp
 exact h
section
variable {o:Oper} {a:Act}
def zC {P:Program} {x:Operand} (ho:o.op=.move x) {v:Value} (hx:a.eval x=v) (w:World):(execOp a.eval o).run P w=.ok (.value v) w:=by simp[execOp,ho,hx]
def zW {P:Program} {x:Operand} (ho:o.op=.assign x) {v:Value} (hx:a.eval x=v) (w:World):(execOp a.eval o).run P w=.ok (.value v) w:=by simp[execOp,ho,hx]
def qT {op:BinOp} {x y:Operand} {t2:TypeId} (ho:o.op=.binOp op 3 x y t2) {m n:Int} (hx:a.eval x=.int .i64 m) (hy:a.eval y=.int .i64 n) {v:Value}
 (hr: ∀ w,(binOp op 3 (.int .i64 m) (.int .i64 n)).run Tryz.prog w=.ok v w) (w:World):(execOp a.eval o).run Tryz.prog w=.ok (.value v) w:=by
 simp[execOp,ho,hx,hy,zBZ,hr]
def yH {x y:Operand} {t2:TypeId} (ho:o.op=.binOp .add 3 x y t2) {i d:Nat} (hx:a.eval x=.int .i64 (i:Int)) (hy:a.eval y=.int .i64 (d:Int)) (h:i+d<1000000000000) (w:World) :
 (execOp a.eval o).run Tryz.prog w=.ok (.value (.int .i64 ((i+d:Nat):Int))) w:=qT ho hx hy (zHG i d h) w
def xH {x y:Operand} {t2:TypeId} (ho:o.op=.binOp .sub 3 x y t2) {i d:Nat} (hx:a.eval x=.int .i64 (i:Int)) (hy:a.eval y=.int .i64 (d:Int)) (h:i<1000000000000) (h2:d≤i) (w:World) :
 (execOp a.eval o).run Tryz.prog w=.ok (.value (.int .i64 ((i-d:Nat):Int))) w:=qT ho hx hy (zHN i d h h2) w
def zCI {x y:Operand} {t2:TypeId} (ho:o.op=.binOp .mul 3 x y t2) {i d:Nat} (hx:a.eval x=.int .i64 (i:Int)) (hy:a.eval y=.int .i64 (d:Int)) (h:i*d<1000000000000) (w:World) :
 (execOp a.eval o).run Tryz.prog w=.ok (.value (.int .i64 ((i*d:Nat):Int))) w:=qT ho hx hy (zGz i d _ rfl h) w
def ex_quoN {x y:Operand} {t2:TypeId} (ho:o.op=.binOp .quo 3 x y t2) {i d:Nat} (hx:a.eval x=.int .i64 (i:Int)) (hy:a.eval y=.int .i64 (d:Int)) (h:i<1000000000000) (h2:0<d) (w:World) :
 (execOp a.eval o).run Tryz.prog w=.ok (.value (.int .i64 ((i/d:Nat):Int))) w:=qT ho hx hy (zHc i d h h2) w
def ex_remN {x y:Operand} {t2:TypeId} (ho:o.op=.binOp .rem 3 x y t2) {i d:Nat} (hx:a.eval x=.int .i64 (i:Int)) (hy:a.eval y=.int .i64 (d:Int)) (h:i<1000000000000) (h2:0<d) (w:World) :
 (execOp a.eval o).run Tryz.prog w=.ok (.value (.int .i64 ((i%d:Nat):Int))) w:=qT ho hx hy (zHZ i d h h2) w
def ex_addI {x y:Operand} {t2:TypeId} (ho:o.op=.binOp .add 3 x y t2) {i d:Int} (hx:a.eval x=.int .i64 i) (hy:a.eval y=.int .i64 d) (h: -9223372036854775808≤i+d∧i+d≤9223372036854775807) (w:World) :
 (execOp a.eval o).run Tryz.prog w=.ok (.value (.int .i64 (i+d))) w:=qT ho hx hy (zFN i d _ (IntWalk.i64_in _ h)) w
def run_subI (x y z:Int) (h:IntKind.i64.wrap (x-y)=z) (W:World):(binOp .sub 3 (.int .i64 x) (.int .i64 y)).run Tryz.prog W=.ok (.int .i64 z) W:=by
 subst h;go_simp
def zMr {x y:Operand} {t2:TypeId} (ho:o.op=.binOp .sub 3 x y t2) {i d:Int} (hx:a.eval x=.int .i64 i) (hy:a.eval y=.int .i64 d) (h: -9223372036854775808≤i-d∧i-d≤9223372036854775807) (w:World) :
 (execOp a.eval o).run Tryz.prog w=.ok (.value (.int .i64 (i-d))) w:=qT ho hx hy (run_subI i d _ (IntWalk.i64_in _ h)) w
def zEz {x y:Operand} {ats:Array TypeId} (ho:o.op=.call { callee:=.builtin .min,args:= #[x,y],argTypes:=ats }) {i d:Nat} (hx:a.eval x=.int .i64 (i:Int)) (hy:a.eval y=.int .i64 (d:Int)) (w:World) :
 (execOp a.eval o).run Tryz.prog w=.ok (.value (.int .i64 ((min i d:Nat):Int))) w:=by
 simp[execOp,ho,hx,hy,resolve,invoke,builtin,Builtin.min_,Builtin.min2];split<;>omega
def ex_maxI {x y:Operand} {ats:Array TypeId} (ho:o.op=.call { callee:=.builtin .max,args:= #[x,y],argTypes:=ats }) {i d:Int} (hx:a.eval x=.int .i64 i) (hy:a.eval y=.int .i64 d) (w:World) :
 (execOp a.eval o).run Tryz.prog w=.ok (.value (.int .i64 (max i d))) w:=by
 have e:(if i<d then d else i)=max i d:=by split<;>omega
 simp[execOp,ho,hx,hy,resolve,invoke,builtin,Builtin.max_,Builtin.max2,e]
def ex_minI {x y:Operand} {ats:Array TypeId} (ho:o.op=.call { callee:=.builtin .min,args:= #[x,y],argTypes:=ats }) {i d:Int} (hx:a.eval x=.int .i64 i) (hy:a.eval y=.int .i64 d) (w:World) :
 (execOp a.eval o).run Tryz.prog w=.ok (.value (.int .i64 (min i d))) w:=by
 have e:(if d<i then d else i)=min i d:=by split<;>omega
 simp[execOp,ho,hx,hy,resolve,invoke,builtin,Builtin.min_,Builtin.min2,e]
def xB {P:Program} {x:Operand} {n:Nat} (ho:o.op=.extract x n) {vs:Array Value} (hx:a.eval x=.tuple vs) {v:Value} (hv:vs[n]? =some v) (w:World):(execOp a.eval o).run P w=.ok (.value v) w:=by
 simp[execOp,ho,hx,Instr.extract,hv]
def guardG (op:BinOp) (t:TypeId) (x y:Operand) (k k':IntKind) (v w:Int) {P:Program} (W:World):(eqGuard op t x y (.int k v) (.int k' w)).run P W=.ok () W:=by
 cases op<;>simp[eqGuard]
def zJB {P:Program} {op:BinOp} {t:TypeId} {x y:Operand} {t2:TypeId} (ho:o.op=.binOp op t x y t2) {m n:Int} (hx:a.eval x=.int .i64 m) (hy:a.eval y=.int .i64 n) {b:Bool}
 (hr: ∀ w,(binOp op t (.int .i64 m) (.int .i64 n)).run P w=.ok (.bool b) w) (w:World):(execOp a.eval o).run P w=.ok (.value (.bool b)) w:=by
 simp[execOp,ho,hx,hy,guardG,hr]
def zZ {P:Program} {t:TypeId} {x y:Operand} {t2:TypeId} (ho:o.op=.binOp .lss t x y t2) {m n:Int} (hx:a.eval x=.int .i64 m) (hy:a.eval y=.int .i64 n) {b:Bool} (h:decide (m<n)=b) (w:World) :
 (execOp a.eval o).run P w=.ok (.value (.bool b)) w:=zJB ho hx hy (fun w=>by subst h;simp[binOp,Op.intCmp]) w
def xU {P:Program} {t:TypeId} {x y:Operand} {t2:TypeId} (ho:o.op=.binOp .gtr t x y t2) {m n:Int} (hx:a.eval x=.int .i64 m) (hy:a.eval y=.int .i64 n) {b:Bool} (h:decide (n<m)=b) (w:World) :
 (execOp a.eval o).run P w=.ok (.value (.bool b)) w:=zJB ho hx hy (fun w=>by subst h;simp[binOp,Op.intCmp]) w
def zDQ {P:Program} {t:TypeId} {x y:Operand} {t2:TypeId} (ho:o.op=.binOp .leq t x y t2) {m n:Int} (hx:a.eval x=.int .i64 m) (hy:a.eval y=.int .i64 n) {b:Bool} (h:decide (m≤n)=b) (w:World) :
 (execOp a.eval o).run P w=.ok (.value (.bool b)) w:=zJB ho hx hy (fun w=>by subst h;simp[binOp,Op.intCmp]) w
def jQ {P:Program} {t:TypeId} {x y:Operand} {t2:TypeId} (ho:o.op=.binOp .eql t x y t2) {m n:Int} (hx:a.eval x=.int .i64 m) (hy:a.eval y=.int .i64 n) {b:Bool} (h:decide (m=n)=b) (w:World) :
 (execOp a.eval o).run P w=.ok (.value (.bool b)) w:=zJB ho hx hy (fun w=>by subst h;by_cases e:m=n<;>simp[binOp,Op.intCmp,e]) w
def jZ {P:Program} {t:TypeId} {x y:Operand} {t2:TypeId} (ho:o.op=.binOp .neq t x y t2) {m n:Int} (hx:a.eval x=.int .i64 m) (hy:a.eval y=.int .i64 n) {b:Bool} (h:decide (m≠n)=b) (w:World) :
 (execOp a.eval o).run P w=.ok (.value (.bool b)) w:=zJB ho hx hy (fun w=>by subst h;by_cases e:m=n<;>simp[binOp,Op.intCmp,e]) w
def zIX {P:Program} {t:TypeId} {x:Operand} (ho:o.op=.unOp .not t x) {b:Bool} (hx:a.eval x=.bool b) (w:World):(execOp a.eval o).run P w=.ok (.value (.bool (!b))) w:=by
 simp[execOp,ho,hx,Op.unary]
def zMT {P:Program} {c x y:Operand} (ho:o.op=.pick c x y) {b:Bool} (hb:a.eval c=.bool b) {v:Value} (hv:(if b then a.eval x else a.eval y)=v) (w:World):(execOp a.eval o).run P w=.ok (.value v) w:=by
 subst hv;simp[execOp,ho,hb,asBool]
def zOV {P:Program} {t:TypeId} (ho:o.op=.build t #[]) {cs:Array Value} (hf:P.built t []=some cs) (w:World):(execOp a.eval o).run P w=.ok (.value (.agg cs)) w:=by
 simp only[execOp,ho,Sem.run_bind,run_build w t (#[].map fun (i,x)=>(i,a.eval x)) cs (by simpa using hf),Result.andThen_ok,Sem.run_pure]
def zOG {P:Program} {e:TypeId} {sz:Nat} (hs:(P.info? e).map (·.size)=some sz) (w:World):(sizeOf e).run P w=.ok sz w:=by
 cases hq:P.info? e with
 | none=>simp[hq] at hs
 | some i=>have hz:i.size=sz:=by simpa [hq] using hs
           simp[sizeOf,typeInfo,hq,hz]
def vJ {P:Program} {t e:TypeId} {sz:Nat} (ht:P.underlying t=some (.slice e)) (hs:(P.info? e).map (·.size)=some sz) {x ix:Operand} (ho:o.op=.indexAddr t x ix) {ad:Addr} {n c i:Nat} {k:IntKind} (hx:a.eval x=.slice (some ad) n c) (hi:a.eval ix=.int k (i:Int)) (h:i<n) (w:World) :
 (execOp a.eval o).run P w=.ok (.value (.pointer (some (ad.add (i*sz))))) w:=by
 have hc:((0:Int)≤(i:Int)∧(i:Int)<(n:Int))=True:=by simp;omega
 simp only[execOp,ho,hx,hi,Instr.indexAt,Sem.run_bind,run_underlying ht,Result.andThen_ok,asIntOf,Sem.run_pure,hc,if_true,zOG hs,wF0]
def ex_ixArr {P:Program} {t e:TypeId} {sz m:Nat} (ht:P.underlying t=some (.array m e)) (hs:(P.info? e).map (·.size)=some sz) {x ix:Operand} (ho:o.op=.indexAddr t x ix) {ad:Addr} {i:Nat} {k:IntKind} (hx:a.eval x=.pointer (some ad)) (hi:a.eval ix=.int k (i:Int)) (h:i<m) (w:World) :
 (execOp a.eval o).run P w=.ok (.value (.pointer (some (ad.add (i*sz))))) w:=by
 have hc:((0:Int)≤(i:Int)∧(i:Int)<(m:Int))=True:=by simp;omega
 simp only[execOp,ho,hx,hi,Instr.indexAt,Instr.sureAddr,Sem.run_bind,run_underlying ht,Result.andThen_ok,asIntOf,Sem.run_pure,hc,if_true,zOG hs,wF0]
def zBx (g m n:Nat):(⟨g,m,none⟩:Addr).add n=⟨g,m+n,none⟩:=by
 unfold Addr.add
 by_cases hn:n=0
 ·subst hn;rfl
 ·rw[if_neg hn]
def zFW {P:Program} {t e:TypeId} {sz:Nat} (ht:P.underlying t=some (.slice e)) (hs:(P.info? e).map (·.size)=some sz) {x ix:Operand} (ho:o.op=.indexAddr t x ix) {g m n c i:Nat} {k:IntKind} (hx:a.eval x=.slice (some ⟨g,m,none⟩) n c) (hi:a.eval ix=.int k (i:Int)) (h:i<n) (w:World) :
 (execOp a.eval o).run P w=.ok (.value (.pointer (some ⟨g,m+i*sz,none⟩))) w:=by
 rw[←zBx];exact vJ ht hs ho hx hi h w
def zNK {P:Program} {t e:TypeId} {sz m:Nat} (ht:P.underlying t=some (.array m e)) (hs:(P.info? e).map (·.size)=some sz) {x ix:Operand} (ho:o.op=.indexAddr t x ix) {g b i:Nat} {k:IntKind} (hx:a.eval x=.pointer (some ⟨g,b,none⟩)) (hi:a.eval ix=.int k (i:Int)) (h:i<m) (w:World) :
 (execOp a.eval o).run P w=.ok (.value (.pointer (some ⟨g,b+i*sz,none⟩))) w:=by
 rw[←zBx];exact ex_ixArr ht hs ho hx hi h w
def ex_ixSl1 {P:Program} {t e:TypeId} (ht:P.underlying t=some (.slice e)) (hs:(P.info? e).map (·.size)=some 1) {x ix:Operand} (ho:o.op=.indexAddr t x ix) {g m n c i:Nat} {k:IntKind} (hx:a.eval x=.slice (some ⟨g,m,none⟩) n c) (hi:a.eval ix=.int k (i:Int)) (h:i<n) (w:World) :
 (execOp a.eval o).run P w=.ok (.value (.pointer (some ⟨g,m+i,none⟩))) w:=by
 have:=zFW ht hs ho hx hi h w
 rwa [wF1] at this
def jL {P:Program} {t e:TypeId} (ht:P.underlying t=some (.slice e)) (hs:(P.info? e).map (·.size)=some 1) {x ix:Operand} (ho:o.op=.indexAddr t x ix) {g n c i:Nat} {k:IntKind} (hx:a.eval x=.slice (some ⟨g,0,none⟩) n c) (hi:a.eval ix=.int k (i:Int)) (h:i<n) (w:World) :
 (execOp a.eval o).run P w=.ok (.value (.pointer (some ⟨g,i,none⟩))) w:=by
 have:=ex_ixSl1 ht hs ho hx hi h w
 rwa [wB2] at this
def ex_ixArr1 {P:Program} {t e:TypeId} {m:Nat} (ht:P.underlying t=some (.array m e)) (hs:(P.info? e).map (·.size)=some 1) {x ix:Operand} (ho:o.op=.indexAddr t x ix) {g b i:Nat} {k:IntKind} (hx:a.eval x=.pointer (some ⟨g,b,none⟩)) (hi:a.eval ix=.int k (i:Int)) (h:i<m) (w:World) :
 (execOp a.eval o).run P w=.ok (.value (.pointer (some ⟨g,b+i,none⟩))) w:=by
 have:=zNK ht hs ho hx hi h w
 rwa [wF1] at this
def zIV {P:Program} {t e:TypeId} {m:Nat} (ht:P.underlying t=some (.array m e)) (hs:(P.info? e).map (·.size)=some 1) {x ix:Operand} (ho:o.op=.indexAddr t x ix) {g i:Nat} {k:IntKind} (hx:a.eval x=.pointer (some ⟨g,0,none⟩)) (hi:a.eval ix=.int k (i:Int)) (h:i<m) (w:World) :
 (execOp a.eval o).run P w=.ok (.value (.pointer (some ⟨g,i,none⟩))) w:=by
 have:=ex_ixArr1 ht hs ho hx hi h w
 rwa [wB2] at this
def zV {x:Operand} (ho:o.op=.load 3 x) {p:Addr} (hx:a.eval x=.pointer (some p)) {z:Int} {w:World} (h:w.cell? p=some (.int .i64 z)):(execOp a.eval o).run Tryz.prog w=.ok (.value (.int .i64 z)) w:=by
 simp[execOp,ho,hx,zIs w p z h]
end
def qW:(Tryz.prog.info? 3).map (·.size)=some 1:=by kernel_rfl
section
variable {P:Program} {ops:Array Oper} {Q:Exit→Act→World→Prop} {rest:List Oper} {o:Oper} {a:Act} {w:World}
def zB (hg:o.guard=none) (v:Value) (h1: ∀ w,(execOp a.eval o).run P w=.ok (.value v) w) (h:wpList P ops Q rest (a.put o.dst v) w):wpList P ops Q (o::rest) a w :=
 wpList_plain hg fun _ hK=>by unfold Oper.wp;rw[h1];exact hK _ _ h
def xA (hw:Region.wanted o (yielded ops a.tmps)=true) (v:Value) (h1: ∀ w,(execOp a.eval o).run P w=.ok (.value v) w) (h:wpList P ops Q rest (a.put o.dst v) w):wpList P ops Q (o::rest) a w :=
 uE hw fun _ hK=>by unfold Oper.wp;rw[h1];exact hK _ _ h
def zDC (hw:Region.wanted o (yielded ops a.tmps)=true) (v:Value) (h1:(execOp a.eval o).run P w=.ok (.value v) w) (h:wpList P ops Q rest (a.put o.dst v) w):wpList P ops Q (o::rest) a w :=
 uE hw fun _ hK=>by unfold Oper.wp;rw[h1];exact hK _ _ h
def xC (hg:o.guard=none) (v:Value) (h1:(execOp a.eval o).run P w=.ok (.value v) w) (h:wpList P ops Q rest (a.put o.dst v) w):wpList P ops Q (o::rest) a w :=
 wpList_plain hg fun _ hK=>by unfold Oper.wp;rw[h1];exact hK _ _ h
end
def uK {ops:Array Oper} {Q:Exit→Act→World→Prop} {rest:List Oper} {o:Oper} {a:Act} {w:World} (hg:o.guard=none) (x y:Operand) (ho:o.op=.store 3 x y) (g i:Nat) (z:Int) (hx:a.eval x=.pointer (some ⟨g,i,none⟩)) (hy:a.eval y=.int .i64 z)
 {t:TypeId} {cs:Array Value} (hB:Blk w g t cs) (hi:i<cs.size) (h:wpList Tryz.prog ops Q rest (a.put o.dst undef) (w.setCell ⟨g,i,none⟩ (.int .i64 z))):wpList Tryz.prog ops Q (o::rest) a w :=
 wpList_plain hg fun _ hK=>zNZ x y ho ⟨g,i,none⟩ z hx hy _ ((hB.cell i).trans (wF2 hi)) (hB.frozen i) (hK _ _ h)
def vM {S:Nat→Prop} {w w':World} {base:Nat} {e:TypeId} {size n:Nat} {v:Value} {xs:List Value} (h:w.ownsRow base e size v n xs) (hu:Upd S w w') (hS: ∀ x,v.ownBlock=some x→ ¬S x):w'.ownsRow base e size v n xs:=by
 obtain⟨hl,hh⟩:=h;refine⟨hl, ?_⟩;rcases hh with ⟨rfl,rfl⟩ | ⟨g,cap,cur,rfl,h1,hg,h2⟩
 ·exact .inl ⟨rfl,rfl⟩
 ·exact .inr ⟨g,cap,cur,rfl,h1,(hu.block g (Blk.lt (w:=w) (t:=e) (cs:=cur) hg) (hS g rfl)).trans hg,h2⟩
def zO {w w':World} {row:Option Nat} (hg:w.grownBy w' row):Upd (fun b=>row=some b) w w' :=
 (Upd.refl (fun b=>row=some b) w).grown hg (fun b hb=>.inl hb)
def Apart (w:World) (e:TypeId) (v:Value) (g:Nat) (r1 r2:Option Nat):Prop:=Blk w g e #[v]∧r1≠some g∧r2≠some g
structure Two (w0 w:World) (B:Nat) (e1 e2:TypeId) (v1 v2:Value) (n1 n2:Nat) (xs1 xs2:List Value) (t1 t2:Option (Value×Nat)):Prop where
 ext:Ext w0 w
 base:w0.heap.size≤B∧B≤w.heap.size
 p:w.ownsRow B e1 1 v1 n1 xs1
 m:w.ownsRow B e2 1 v2 n2 xs2
 d: ∀ b,v1.ownBlock=some b→v2.ownBlock≠some b
 a1: ∀ v g,t1=some (v,g)→Apart w e1 v g v1.ownBlock v2.ownBlock
 a2: ∀ v g,t2=some (v,g)→Apart w e2 v g v1.ownBlock v2.ownBlock
section
variable {w0 w w':World} {B:Nat} {e1 e2:TypeId} {v1 v2 v1' v2':Value} {n1 n2 m1 m2:Nat} {xs1 xs2 ys1 ys2:List Value} {t1 t2:Option (Value×Nat)}
def Two.later (h:Two w0 w B e1 e2 v1 v2 n1 n2 xs1 xs2 t1 t2) (hx:Ext w w'):Two w0 w' B e1 e2 v1 v2 n1 n2 xs1 xs2 t1 t2 :=
 ⟨h.ext.trans hx,⟨h.base.1,wD1 h.base.2 hx.size⟩,yR h.p hx,yR h.m hx,h.d,fun v g e=>by obtain⟨a,b,c⟩:=h.a1 v g e;exact⟨a.ext hx,b,c⟩,fun v g e=>by obtain⟨a,b,c⟩:=h.a2 v g e;exact⟨a.ext hx,b,c⟩⟩
def Two.fresh (h:Two w0 w B e1 e2 v1 v2 n1 n2 xs1 xs2 t1 t2) {g:Nat} (hg:w.heap.size≤g):v1.ownBlock≠some g∧v2.ownBlock≠some g :=
 ⟨fun e=>by have:=(h.p.lt g e).2;omega,fun e=>by have:=(h.m.lt g e).2;omega⟩
def Two.lit1 (h:Two w0 w B e1 e2 v1 v2 n1 n2 xs1 xs2 t1 t2) {v:Value} {g:Nat} (hb:Blk w' g e1 #[v]) (hx:Ext w w') (hg:w.heap.size≤g):Two w0 w' B e1 e2 v1 v2 n1 n2 xs1 xs2 (some (v,g)) t2:=by
 have k:=h.later hx;obtain⟨f1,f2⟩:=h.fresh hg;exact⟨k.ext,k.base,k.p,k.m,k.d,fun u g' e=>by injection e with e;injection e with e e';subst e e';exact⟨hb,f1,f2⟩,k.a2⟩
def Two.lit2 (h:Two w0 w B e1 e2 v1 v2 n1 n2 xs1 xs2 t1 t2) {v:Value} {g:Nat} (hb:Blk w' g e2 #[v]) (hx:Ext w w') (hg:w.heap.size≤g):Two w0 w' B e1 e2 v1 v2 n1 n2 xs1 xs2 t1 (some (v,g)):=by
 have k:=h.later hx;obtain⟨f1,f2⟩:=h.fresh hg;exact⟨k.ext,k.base,k.p,k.m,k.d,k.a1,fun u g' e=>by injection e with e;injection e with e e';subst e e';exact⟨hb,f1,f2⟩⟩
def Apart.grown {e:TypeId} {v:Value} {g:Nat} {r r' r2:Option Nat} (h:Apart w e v g r r2) (hg:w.grownBy w' r) (hr:r'=r∨r'=some w.heap.size):Apart w' e v g r' r2:=by
 obtain⟨hb,h1,h2⟩:=h;refine⟨(zO hg).blk hb h1, ?_,h2⟩;rcases hr with rfl | rfl
 ·exact h1
 ·intro e;injection e with e;have:=hb.lt;omega
def Apart.swap {e:TypeId} {v:Value} {g:Nat} {r r2:Option Nat} (h:Apart w e v g r r2):Apart w e v g r2 r:=⟨h.1,h.2.2,h.2.1⟩
def Two.app1 (h:Two w0 w B e1 e2 v1 v2 n1 n2 xs1 xs2 t1 t2) (ho:w'.ownsRow B e1 1 v1' m1 ys1) (hg:w.grownBy w' v1.ownBlock) (hr:v1'.ownBlock=v1.ownBlock∨v1'.ownBlock=some w.heap.size):Two w0 w' B e1 e2 v1' v2 m1 n2 ys1 xs2 none t2:=by
 have hu:=zO hg;refine⟨hu.ext h.ext (fun x hx=>by have:=(h.p.lt x hx).1;have:=h.base.1;omega),⟨h.base.1,wD1 h.base.2 hu.size⟩,ho,vM h.m hu (fun x hx e=>h.d x e hx),fun b hb=> ?_,fun _ _ e=>(by cases e),fun v g e=>(h.a2 v g e).grown hg hr⟩;rcases hr with e | e
 ·exact h.d b (e ▸ hb)
 ·rw[e] at hb;injection hb with hb
  intro e2;have:=(h.m.lt b e2).2;omega
def Two.app2 (h:Two w0 w B e1 e2 v1 v2 n1 n2 xs1 xs2 t1 t2) (ho:w'.ownsRow B e2 1 v2' m2 ys2) (hg:w.grownBy w' v2.ownBlock) (hr:v2'.ownBlock=v2.ownBlock∨v2'.ownBlock=some w.heap.size):Two w0 w' B e1 e2 v1 v2' n1 m2 xs1 ys2 t1 none:=by
 have hu:=zO hg;refine⟨hu.ext h.ext (fun x hx=>by have:=(h.m.lt x hx).1;have:=h.base.1;omega),⟨h.base.1,wD1 h.base.2 hu.size⟩,vM h.p hu (fun x hx e=>h.d x hx e),ho,fun b hb=> ?_,fun v g e=>((h.a1 v g e).swap.grown hg hr).swap,fun _ _ e=>(by cases e)⟩;rcases hr with e | e
 ·rw[e];exact h.d b hb
 ·rw[e];intro e2;injection e2 with e2
  have:=(h.p.lt b hb).2;omega
def zBv (A:Option Addr) (n c:Nat):(Value.slice A n c).ownBlock=A.map (·.block):=by cases A<;>rfl
def zJJ {v:Value} (h:v.oneCell'=true): ∀ u∈[v],u.oneCell'=true:=by
 intro u hu;simp at hu;subst hu;exact h
def zX {P:Program} {ops:Array Oper} {K:Act→World→Prop} {a:Act} {w:World} (h:K a w):wpList P ops (xO K) [] a w:=h
def Two.app1' {A:Option Addr} {c:Nat} (h:Two w0 w B e1 e2 v1 v2 n1 n2 xs1 xs2 t1 t2) (ho:w'.ownsRow B e1 1 (.slice A m1 c) m1 ys1) (hg:w.grownBy w' v1.ownBlock) (hr:A.map (·.block)=v1.ownBlock∨A.map (·.block)=some w.heap.size):Two w0 w' B e1 e2 (.slice A m1 c) v2 m1 n2 ys1 xs2 none t2 :=
 h.app1 ho hg (by rw[zBv];exact hr)
def Two.app2' {A:Option Addr} {c:Nat} (h:Two w0 w B e1 e2 v1 v2 n1 n2 xs1 xs2 t1 t2) (ho:w'.ownsRow B e2 1 (.slice A m2 c) m2 ys2) (hg:w.grownBy w' v2.ownBlock) (hr:A.map (·.block)=v2.ownBlock∨A.map (·.block)=some w.heap.size):Two w0 w' B e1 e2 v1 (.slice A m2 c) n1 m2 xs1 ys2 t1 none :=
 h.app2 ho hg (by rw[zBv];exact hr)
def zBh {g:Nat} {e:TypeId} {v:Value} (h:Blk w g e #[v]):SL w 1 (.slice (some ⟨g,0,none⟩) 1 1) 1 [v] :=
 ⟨_,_,rfl,by omega,by omega,rfl,fun _=>⟨_,rfl,h.lt,fun j u hu=>by
  have hc:=h.cell j;rw[zBx];simp only[wB2];rw[hc, ←hu]
  simp⟩⟩
end
def zDI {w:World} {base size n:Nat} {e:TypeId} {v:Value} {xs:List Value} (h:w.ownsRow base e size v n xs): ∀ g,v.ownBlock=some g→ ∃ cs,w.heap[g]? =some (.cells cs e (0,0)):=by
 obtain⟨-,hh⟩:=h;intro g hg;rcases hh with ⟨rfl, -⟩ | ⟨k,cap,cur,rfl, -,hk, -⟩
 ·simp[Value.ownBlock] at hg
 ·have:k=g:=by simpa [Value.ownBlock] using hg
  subst this;exact⟨_,hk⟩
def zAS {w:World} {B s n g:Nat} {e t:TypeId} {v:Value} {xs:List Value} {cs:Array Value} (h:w.ownsRow B e s v n xs) (hb:Blk w g t cs) (hne:e≠t):some g≠v.ownBlock:=by
 intro hx;obtain⟨ds,h3⟩:=zDI h g hx.symm;unfold Blk at hb;rw[h3] at hb;injection hb with hb
 injection hb with _ hb
 exact hne hb
def RowsS (w:World) (A:Option Addr) (n c:Nat) (L:List (List Int)):Prop :=
 ∃ vs:List Value,SL w 1 (.slice A n c) n vs∧L.length=n∧ ∀ (k:Nat) (l:List Int),L[k]? =some l→ ∃ (B:Option Addr) (d:Nat),vs[k]? =some (Value.slice B l.length d)∧SL w 1 (.slice B l.length d) l.length (ints l)
def RowsS.ext {w w':World} {A:Option Addr} {n c:Nat} {L:List (List Int)} (h:RowsS w A n c L) (hx:Ext w w'):RowsS w' A n c L:=by
 obtain⟨vs,h1,h2,h3⟩:=h;refine⟨vs,h1.ext hx,h2,fun k l hl=> ?_⟩;obtain⟨B,d,e,hs⟩:=h3 k l hl;exact⟨B,d,e,hs.ext hx⟩
def RowsS.len {w:World} {A:Option Addr} {n c:Nat} {L:List (List Int)} (h:RowsS w A n c L):L.length=n:=h.choose_spec.2.1
def RowsS.cap {w:World} {A:Option Addr} {n c:Nat} {L:List (List Int)} (h:RowsS w A n c L):n≤c∧c≤9223372036854775807:=by
 obtain⟨vs,⟨A',c',e,h1,h2, -⟩, -⟩:=h;injection e with e1 e2 e3
 subst e3;exact⟨h1,h2⟩
def RowsS.get {w:World} {A:Option Addr} {n c k:Nat} {L:List (List Int)} (h:RowsS w A n c L) (hk:k<n) :
 ∃ ad l B d,A=some ad∧L[k]? =some l∧ad.block<w.heap.size∧w.cell? (ad.add k)=some (.slice B l.length d)∧SL w 1 (.slice B l.length d) l.length (ints l):=by
 obtain⟨vs,h1,h2,h3⟩:=h;obtain⟨ad,u,ha,hb,hu,hc⟩:=h1.at1 hk;have hl:L[k]? =some (L[k]'(by omega)):=wA2 (by omega);obtain⟨B,d,e,hs⟩:=h3 k _ hl;rw[e] at hu;injection hu with hu
 subst hu;exact⟨ad,_,B,d,ha,hl,hb,hc,hs⟩
def RowsS.nil (w:World):RowsS w none 0 0 []:=⟨[],SL.nil w 1,rfl,by simp⟩
def Meth (P:Program) (ty:TypeId) (v:Value) (name:String) (f:FuncId) (recv:Value):Prop :=
 (∀ w, (method (P.types.size + Made.depth) ty v name).run P w = .ok (f, recv) w) ∧ ∃ fn, P.funcs[f]? = some fn ∧ (fn.name == "runtime.NumGoroutine") = false ∧ fn.body.isSome = true
def zAp (P : Program) (f : FuncId) : Prop := ∃ fn, P.funcs[f]? = some fn ∧ (fn.name == "runtime.NumGoroutine") = false ∧ fn.body.isSome = true
section
variable {P:Program} {ops:Array Oper} {rest:List Oper} {o:Oper} {a:Act} {Q:Exit→Act→World→Prop}
def zDd (r:Operand) (name:String) (xs:Array Operand) (ts:Array TypeId) (ho:o.op=.call { callee:=.invoke r name,args:=xs,argTypes:=ts }) {ty:TypeId} {v:Value}
 (hr:a.eval r=.iface ty v) {f:FuncId} {recv:Value} (hm:Meth P ty v name f recv) (args:Array Value) (hx: #[recv]++xs.map a.eval=args) (w:World):(execOp a.eval o).run P w=.ok (.enter f args) w:=by
 obtain⟨h1,fn,hf,hname,hb⟩:=hm;obtain⟨c,hb⟩:=wB1.1 hb;have hn : ¬ fn.name = "runtime.NumGoroutine" := by simpa using hname
 subst hx;have e0:(#[Value.iface ty v]++Array.map a.eval xs)[0]? =some (.iface ty v):=by simp[Array.getElem?_append]
 have e1:(#[Value.iface ty v]++Array.map a.eval xs).extract 1 (#[Value.iface ty v]++Array.map a.eval xs).size=xs.map a.eval:=by simp
 simp only[execOp,ho,resolve,hr,invoke,Sem.run_bind,Sem.run_pure,Result.andThen_ok,e0,e1];simp[callMethod,callFunc,hf,hb,hn,h1,run_program]
def xQ (x:Operand) (xs:Array Operand) (ts:Array TypeId) (ho:o.op=.call { callee:=.value x,args:=xs,argTypes:=ts }) {f:FuncId} {cap:Array Value} (hr:a.eval x=.func (.func f) #[] cap)
 (hm:zAp P f) (args:Array Value) (hx:xs.map a.eval++cap=args) (w:World):(execOp a.eval o).run P w=.ok (.enter f args) w:=by
 obtain⟨fn,hf,hname,hb⟩:=hm;obtain⟨c,hb⟩:=wB1.1 hb;have hn : ¬ fn.name = "runtime.NumGoroutine" := by simpa using hname
 subst hx;simp[execOp,ho,resolve,hr,Deferred.ofValue,invoke,callFunc,hf,hb,hn,run_program]
def xP {w:World} (hw:Region.wanted o (yielded ops a.tmps)=true) {f:FuncId} {args:Array Value} (hrun: ∀ w,(execOp a.eval o).run P w=.ok (.enter f args) w)
 (h:Calls P f args w fun e w'=> ∃ v,e=.returned v∧wpList P ops Q rest (a.put o.dst v) w'):wpList P ops Q (o::rest) a w :=
 uE hw fun K hK=>by
  unfold Oper.wp;rw[hrun];refine h.mono fun e w' ⟨v,e1,h2⟩=> ?_
  subst e1;exact hK _ _ h2
end
def vU {o:Oper} {a:Act} {x:Operand} (ho:o.op=.load 22 x) {p:Addr} (hx:a.eval x=.pointer (some p)) {A:Option Addr} {n c:Nat} {w:World} (h:w.cell? p=some (.slice A n c)):(execOp a.eval o).run Tryz.prog w=.ok (.value (.slice A n c)) w:=by
 have hr:(loadVar 22 p).run Tryz.prog w=.ok (.slice A n c) w:=by
  have hi:(Tryz.prog.info? 22).map (·.size)=some 1:=by kernel_rfl
  simp[loadVar,Sem.run_bind,isAgg,run_underlying Tryz.underlying22,run_load,h]
 simp[execOp,ho,hx,Instr.loadAt,Instr.sureAddr,Sem.run_bind,hr]
def zIo {ops:Array Oper} {Q:Exit→Act→World→Prop} {rest:List Oper} {o:Oper} {a:Act} {w:World} (hg:o.guard=none) (x y:Operand) (ho:o.op=.store 22 x y) (g i:Nat) (A:Option Addr) (n c:Nat) (hx:a.eval x=.pointer (some ⟨g,i,none⟩)) (hy:a.eval y=.slice A n c)
 {t:TypeId} {cs:Array Value} (hB:Blk w g t cs) (hi:i<cs.size) (h:wpList Tryz.prog ops Q rest (a.put o.dst undef) (w.setCell ⟨g,i,none⟩ (.slice A n c))):wpList Tryz.prog ops Q (o::rest) a w :=
 wpList_plain hg fun _ hK=>by
  have hc:=(hB.cell i).trans (wF2 hi);have hf:=hB.frozen i;unfold Oper.wp execOp;simp only[ho,hx,hy];go_simp
  exact hK _ _ h
abbrev Four:=Int×Int×Int×Int
def jE (s:Four→Int) (t:Int→Int→Int→Four) (a b c:List Int):Nat→List Int
 | 0=>[]
 | k+1=>jE s t a b c k++[s (t (a.getD k 0) (b.getD k 0) (c.getD k 0))]
def uA (s:Four→Int) (t:Int→Int→Int→Four) (a b c:List Int): ∀ k,(jE s t a b c k).length=k
 | 0=>rfl
 | k+1=>by rw[jE,wF3,uA s t a b c k];rfl
def zBy (t:Int→Int→Int→Four) (L:List (List Int)):List (List Int) :=
 match L with
 | [a,b,c]=>[jE (·.1) t a b c a.length,jE (·.2.1) t a b c a.length,jE (·.2.2.1) t a b c a.length]
 | _=>L
def zGU (f:FuncId) (t:Int→Int→Int→Four):Prop:= ∀ (a b c:Int) (w:World),Calls Tryz.prog f #[.int .i64 a,.int .i64 b,.int .i64 c] w fun e w'=>e=.returned (.tuple #[.int .i64 (t a b c).1,.int .i64 (t a b c).2.1,.int .i64 (t a b c).2.2.1,.int .i64 (t a b c).2.2.2])∧Ext w w'
def zAb:(Tryz.prog.info? 22).map (·.size)=some 1:=by kernel_rfl
def row_at {w:World} {B:Option Addr} {d i:Nat} {l:List Int} (h:SL w 1 (.slice B l.length d) l.length (ints l)) (hi:i<l.length): ∃ ad,B=some ad∧ad.block<w.heap.size∧w.cell? (ad.add i)=some (.int .i64 (l.getD i 0)):=by
 obtain⟨ad,u,hB,hb,hk,hc⟩:=h.at1 hi;rw[ints,wC0,wA2 hi] at hk;injection hk with hk
 subst hk;refine⟨ad,hB,hb, ?_⟩;rw[hc,wF4,wA2 hi];rfl
def RowsF (w:World) (B:Nat) (A:Option Addr) (n c:Nat) (L:List (List Int)):Prop :=
 ∃ vs:List Value,SL w 1 (.slice A n c) n vs∧L.length=n∧(∀ ad,A=some ad→B≤ad.block)∧ ∀ (k:Nat) (l:List Int),L[k]? =some l→ ∃ (D:Option Addr) (d:Nat),vs[k]? =some (Value.slice D l.length d)∧SL w 1 (.slice D l.length d) l.length (ints l)∧ ∀ ad,D=some ad→B≤ad.block
def RowsF.rows {w:World} {B n c:Nat} {A:Option Addr} {L:List (List Int)} (h:RowsF w B A n c L):RowsS w A n c L:=by
 obtain⟨vs,h1,h2, -,h3⟩:=h;exact⟨vs,h1,h2,fun k l hl=>by obtain⟨D,d,e,hs, -⟩:=h3 k l hl;exact⟨D,d,e,hs⟩⟩
def RowsF.mono {w:World} {B B' n c:Nat} {A:Option Addr} {L:List (List Int)} (h:RowsF w B A n c L) (hB:B'≤B):RowsF w B' A n c L:=by
 obtain⟨vs,h1,h2,h4,h3⟩:=h;exact⟨vs,h1,h2,fun ad e=>wD1 hB (h4 ad e),fun k l hl=>by obtain⟨D,d,e,hs,hd⟩:=h3 k l hl;exact⟨D,d,e,hs,fun ad e=>wD1 hB (hd ad e)⟩⟩
def RowsF.upd {S:Nat→Prop} {w w':World} {B n c:Nat} {A:Option Addr} {L:List (List Int)} (h:RowsF w B A n c L) (hu:Upd S w w') (hS: ∀ x,S x→x<B):RowsF w' B A n c L:=by
 obtain⟨vs,h1,h2,h4,h3⟩:=h
 exact⟨vs,h1.upd hu (fun ad e q=>by have:=h4 ad e;have:=hS _ q;omega),h2,h4,fun k l hl=>by
  obtain⟨D,d,e,hs,hd⟩:=h3 k l hl
  exact⟨D,d,e,hs.upd hu (fun ad e q=>by have:=hd ad e;have:=hS _ q;omega),hd⟩⟩
def rows_mkF {w:World} {g B:Nat} {T:TypeId} {v0 v1 v2:Value} {a b c:List Int} (hg:Blk w g T #[v0,v1,v2]) (hB:B≤g) (h0: ∃ A d,v0=.slice A a.length d∧SL w 1 v0 a.length (ints a)∧ ∀ ad,A=some ad→B≤ad.block) (h1: ∃ A d,v1=.slice A b.length d∧SL w 1 v1 b.length (ints b)∧ ∀ ad,A=some ad→B≤ad.block) (h2: ∃ A d,v2=.slice A c.length d∧SL w 1 v2 c.length (ints c)∧ ∀ ad,A=some ad→B≤ad.block) :
 RowsF w B (some ⟨g,0,none⟩) 3 3 [a,b,c]:=by
 refine⟨[v0,v1,v2],hg.sl (size:=1) rfl (by omega) (by omega),rfl,fun ad e=>by cases e;exact hB,fun k l hl=> ?_⟩;rcases k with _ | _ | _ | k
 ·injection hl with hl;subst hl;obtain⟨A,d,rfl,hs,hd⟩:=h0;exact⟨A,d,rfl,hs,hd⟩
 ·injection hl with hl;subst hl;obtain⟨A,d,rfl,hs,hd⟩:=h1;exact⟨A,d,rfl,hs,hd⟩
 ·injection hl with hl;subst hl;obtain⟨A,d,rfl,hs,hd⟩:=h2;exact⟨A,d,rfl,hs,hd⟩
 ·simp at hl
def zKr {L:List (List Int)} (h:L.length=3): ∃ a b c,L=[a,b,c]:=by
 match L,h with
 | [a,b,c],_=>exact⟨a,b,c,rfl⟩
def zIZ (t:Int→Int→Int→Four) {L:List (List Int)} (h:L.length≠3):zBy t L=L:=by
 unfold zBy;split
 ·exact absurd rfl h
 ·rfl
def OwnV (w:World) (base:Nat) (e:TypeId) (size:Nat) (v:Value) (n:Nat) (xs:List Value):Prop:= ∃ A c,v=.slice A n c∧w.ownsRow base e size (.slice A n c) n xs
def OwnV.mk {w:World} {base:Nat} {e:TypeId} {size n:Nat} {v:Value} {xs:List Value} (h:w.ownsRow base e size v n xs):OwnV w base e size v n xs:=by
 obtain⟨A,c,rfl, -, -⟩:=zAG h;exact⟨A,c,rfl,h⟩
def OwnV.nil (w:World) (base:Nat) (e:TypeId) (size:Nat):OwnV w base e size (.slice none 0 0) 0 []:=⟨none,0,rfl,World.ownsRow_nil _ _ _ _⟩
def jF {w:World} {base:Nat} {e:TypeId} {size n c:Nat} {A:Option Addr} {xs:List Value} (h:w.ownsRow base e size (.slice A n c) n xs):SL w size (.slice A n c) n xs∧ ∀ ad,A=some ad→base≤ad.block:=by
 obtain⟨B,d,e1,h1,h2⟩:=zAG h;injection e1 with e1 e2 e3
 subst e1 e3;exact⟨h1,h2⟩
def yO:List Int:=List.replicate 64 0
def built48:Tryz.prog.built 33 []=some (bv yO):=by kernel_rfl
def qU:(Tryz.prog.info? 33).bind (·.zero)=some (.agg (bv yO)):=by kernel_rfl
def zHz (k m:Nat) (hk:0<k):madeCells (bv (List.replicate k 0)) m=bv (List.replicate m 0):=by
 apply Array.ext
 ·rw[size_madeCells,zK,wF5]
 ·intro i h1 h2;have hm:i<m:=by simpa [size_madeCells] using h1
  have h64:i%k<k:=wF6 _ hk;simp[madeCells,bv,ints,h64]
def infoBlk: ∃ i,Tryz.prog.info? 33=some i∧i.zero=some (.agg (bv yO))∧i.size=64∧i.bytes=512:=by
 have h1:=zH;have h2:=qU;have h3:(Tryz.prog.info? 33).map (·.bytes)=some 512:=by kernel_rfl
 cases hq:Tryz.prog.info? 33 with
 | none=>rw[hq] at h1;cases h1
 | some i =>
   rw[hq] at h1 h2 h3;exact⟨i,rfl,by simpa using h2,by simpa using h1,by simpa using h3⟩
def zEa {ops:Array Oper} {rest:List Oper} {o:Oper} {a:Act} {w:World} {Q:Exit→Act→World→Prop} (hg:o.guard=none) (dst:Option Tmp) (hdst:o.dst=dst) (x y:Operand) (ho:o.op=.makeSlice 25 x y) (n:Nat) (hn:n≤100000)
 (hx:a.eval x=.int .i64 (n:Int)) (hy:a.eval y=.int .i64 (n:Int))
 (h: ∀ w1 g,Blk w1 g 33 (bv (List.replicate (n*64) 0))→Ext w w1→w.heap.size≤g→wpList Tryz.prog ops Q rest (a.put dst (.slice (some ⟨g,0,none⟩) n n)) w1):wpList Tryz.prog ops Q (o::rest) a w:=by
 subst hdst;obtain⟨i,hi,hz,hs,hb⟩:=infoBlk;have hr:=run_makeSlice (P:=Tryz.prog) w 25 33 i (.agg (bv yO)) Tryz.underlying25 hi hz .i64 .i64 (n:Int) (n:Int) (by omega) (wF7 _) (by rw[hs];omega) (by rw[hb];omega) (by omega);rw[wF0,hs,show (Value.agg (bv yO)).cells=bv (List.replicate 64 0) from rfl,zHz 64 _ (by omega)] at hr;refine wpList_plain hg fun _ hK=> ?_
 unfold Oper.wp execOp;simp only[ho,hx,hy,Sem.run_bind,hr,Result.andThen_ok,Sem.run_pure];exact hK _ _ (h _ _ (Blk.new w _ _) ((Ext.refl w).alloc _) (wA5 _))
def infoInt: ∃ i,Tryz.prog.info? 3=some i∧i.zero=some (.int .i64 0)∧i.size=1∧i.bytes=8:=by
 have h1:(Tryz.prog.info? 3).map (fun i=>(i.zero,i.size,i.bytes))=some (some (.int .i64 0),1,8):=by kernel_rfl
 cases hq:Tryz.prog.info? 3 with
 | none=>rw[hq] at h1;cases h1
 | some i =>
   rw[hq] at h1;simp at h1;exact⟨i,rfl,h1.1,h1.2.1,h1.2.2⟩
def qE {ops:Array Oper} {rest:List Oper} {o:Oper} {a:Act} {w:World} {Q:Exit→Act→World→Prop} (hg:o.guard=none) (dst:Option Tmp) (hdst:o.dst=dst) (x y:Operand) (ho:o.op=.makeSlice 22 x y) (n:Nat) (hn:n≤1000000)
 (hx:a.eval x=.int .i64 (n:Int)) (hy:a.eval y=.int .i64 (n:Int))
 (h: ∀ w1 g,Blk w1 g 3 (bv (List.replicate n 0))→Ext w w1→w.heap.size≤g→wpList Tryz.prog ops Q rest (a.put dst (.slice (some ⟨g,0,none⟩) n n)) w1):wpList Tryz.prog ops Q (o::rest) a w:=by
 subst hdst;obtain⟨i,hi,hz,hs,hb⟩:=infoInt;have hr:=run_makeSlice (P:=Tryz.prog) w 22 3 i (.int .i64 0) Tryz.underlying22 hi hz .i64 .i64 (n:Int) (n:Int) (by omega) (wF7 _) (by rw[hs];omega) (by rw[hb];omega) (by omega);rw[wF0,hs,show (Value.int .i64 0).cells=bv (List.replicate 1 0) from rfl,zHz 1 _ (by omega),wF1] at hr;refine wpList_plain hg fun _ hK=> ?_
 unfold Oper.wp execOp;simp only[ho,hx,hy,Sem.run_bind,hr,Result.andThen_ok,Sem.run_pure];exact hK _ _ (h _ _ (Blk.new w _ _) ((Ext.refl w).alloc _) (wA5 _))
end Go.Proofs.YtkggcjdlpendfaaGreatDoor
