import Derived.Test.YtkggcjdlpendfaaGreatDoorProg
import Derived.WalkKit
import Derived.Deep.AppendLies
import Derived.Deep.Draws
import Derived.WalkSpells
import Derived.WalkLawsBesides
import Derived.Deep.QuietTactic
import Derived.StillTail
set_option linter.all false
set_option maxRecDepth 20000
set_option maxHeartbeats 8000000
namespace Go.Proofs.YtkggcjdlpendfaaGreatDoor
open Go.RowKit
def gS (k : Tmp) {P ops Q b c d e f r a w} (h : wpList P ops Q (⟨some k, b, c, d, e, f⟩ :: r) a w) : wpList P ops Q (⟨some k, b, c, d, e, f⟩ :: r) a w := h
def gT (x y : Tmp) {P ops Q t b c d e r a w} (h : wpList P ops Q (⟨none, .store t (.tmp x) (.tmp y), b, c, d, e⟩ :: r) a w) : wpList P ops Q (⟨none, .store t (.tmp x) (.tmp y), b, c, d, e⟩ :: r) a w := h
def sA {α : Type} {l : List α} {i : Nat} {a : α} : l.toArray.setIfInBounds i a = (l.set i a).toArray := List.setIfInBounds_toArray ..
def sB {α : Type} {a b : α} {l : List α} {n : Nat} : (a :: l).set (n + 1) b = a :: l.set n b := List.set_cons_succ
def sC {α : Type} {a b : α} {l : List α} : (a :: l).set 0 b = b :: l := List.set_cons_zero
def sP {l : List Value} {d : List Deferred} {k : Tmp} {v : Value} : (Act.mk l.toArray d).put (some k) v = Act.mk (l.set k v).toArray d := by simp [Act.put]
abbrev wA0 := @Nat.add_assoc
abbrev wA1 := @Nat.lt_of_lt_of_le
abbrev wA2 := @List.getElem?_eq_getElem
abbrev wA3 := @Nat.lt_or_ge
abbrev wA4 := @Array.getElem?_eq_none
abbrev wA5 := @Nat.le_refl
abbrev wA6 := @Bool.false_eq_true
abbrev wA7 := @Array.setIfInBounds_comm
abbrev wA8 := @List.length_cons
abbrev wA9 := @Bool.and_eq_true
abbrev wB0 := @Nat.add_comm
abbrev wB1 := @Option.isSome_iff_exists
abbrev wB2 := @Nat.zero_add
abbrev wB3 := @decide_eq_true_eq
abbrev wB4 := @List.getElem?_drop
abbrev wB5 := @List.all_eq_true
abbrev wB6 := @Array.getElem?_eq_some_iff
abbrev wB7 := @List.mem_range
abbrev wB8 := @Bool.false_or
abbrev wB9 := @Bool.or_eq_true
abbrev wC0 := @List.getElem?_map
abbrev wC1 := @Option.map_eq_some_iff
abbrev wC2 := @List.getElem?_eq_some_iff
abbrev wC3 := @List.take_succ_eq_append_getElem
abbrev wC4 := @List.take_of_length_le
abbrev wC5 := @Nat.eq_zero_or_pos
abbrev wC6 := @List.eq_nil_of_length_eq_zero
abbrev wC7 := @List.map_toArray
abbrev wC8 := @List.map_cons
abbrev wC9 := @List.map_nil
abbrev wD0 := @List.getElem?_take_of_lt
abbrev wD1 := @Nat.le_trans
abbrev wD2 := @List.zipIdx_cons
abbrev wD3 := @Array.toList_setIfInBounds
abbrev wD4 := @List.take_add_one
abbrev wD5 := @Nat.one_mul
abbrev wD6 := @List.mem_map
abbrev wD7 := @Int.natCast_mul
abbrev wD8 := @Int.natCast_add
abbrev wD9 := @Int.mul_le_mul_of_nonneg_right
abbrev wE0 := @Int.mul_le_mul_of_nonneg_left
abbrev wE1 := @Bool.not_eq_true
abbrev wE2 := @List.getElem_mem
abbrev wE3 := @Bool.eq_iff_iff
abbrev wE4 := @Bool.not_eq_true'
abbrev wE5 := @Array.all_eq_true_iff_forall_mem
abbrev wE6 := @List.mem_append
abbrev wE7 := @List.findIdx?_eq_some_iff_getElem
abbrev wE8 := @List.mem_take_iff_getElem
abbrev wE9 := @List.findIdx?_eq_none_iff
abbrev wF0 := @Int.toNat_natCast
abbrev wF1 := @Nat.mul_one
abbrev wF2 := @Array.getElem?_eq_getElem
abbrev wF3 := @List.length_append
abbrev wF4 := @List.getD_eq_getElem?_getD
abbrev wF5 := @List.length_replicate
abbrev wF6 := @Nat.mod_lt
abbrev wF7 := @Int.le_refl
abbrev wF8 := @List.set_append_right
abbrev wF9 := @Nat.sub_self
abbrev wG0 := @List.replicate_succ
abbrev wG1 := @List.set_cons_zero
abbrev wG2 := @List.append_assoc
abbrev wG3 := @List.drop_eq_getElem_cons
abbrev wG4 := @List.zipWith_append
abbrev wG5 := @List.drop_eq_nil_of_le
abbrev wG6 := @List.append_nil
abbrev wG7 := @List.getElem?_append_left
abbrev wG8 := @List.getElem?_append_right
abbrev wG9 := @List.mem_of_mem_drop
abbrev wH0 := @List.mem_of_mem_take
abbrev wH1 := @List.map_take
abbrev wH2 := @List.map_drop
abbrev wH3 := @List.range_succ
abbrev wH4 := @List.map_append
abbrev wH5 := @List.getElem?_toArray
abbrev wH6 := @List.getElem?_eq_none
abbrev wH7 := @Array.all_eq_true'
abbrev wH8 := @List.eq_nil_iff_forall_not_mem
abbrev wH9 := @List.ext_getElem
abbrev wI0 := @List.getElem_set
abbrev wI1 := @List.getElem_map
abbrev wI2 := @List.getElem_range
abbrev wI3 := @List.map_congr_left
abbrev wI4 := @Nat.pow_le_pow_right
abbrev wI5 := @Nat.two_pow_pos
abbrev wI6 := @Nat.mul_le_mul
abbrev wI7 := @List.getElem?_range
abbrev wI8 := @List.length_take
abbrev wI9 := @Nat.min_le_right
abbrev wJ0 := @Nat.mul_le_mul_right
abbrev wJ1 := @Nat.add_sub_cancel
abbrev wJ2 := @Nat.mul_comm
abbrev wJ3 := @List.take_length
abbrev wJ4 := @List.flatMap_append
abbrev wJ5 := @List.sum_append
abbrev wJ6 := @List.flatMap_cons
abbrev wJ7 := @List.sum_cons
abbrev wJ8 := @Nat.add_mul
abbrev wJ9 := @List.take_succ_cons
abbrev wK0 := @List.mem_cons
abbrev wK1 := @List.length_drop
abbrev wK2 := @List.mem_replicate
abbrev wK3 := @List.mem_singleton
abbrev wK4 := @List.range'_succ
abbrev wK5 := @List.mem_of_getElem?
abbrev wK6 := @List.getElem?_set
abbrev wK7 := @List.mem_or_eq_of_mem_set
abbrev wK8 := @List.getElem?_set_ne
abbrev wK9 := @List.getElem?_replicate
abbrev wL0 := @decide_eq_true
abbrev wL1 := @decide_eq_false
abbrev wL2 := @List.take_zero
abbrev wL3 := @List.drop_zero
abbrev wL4 := @List.cons_append
abbrev wL5 := @List.nil_append
abbrev wL6 := @Nat.pow_succ
abbrev wL7 := @Nat.mul_assoc
abbrev wL8 := @Nat.mod_eq_of_lt
abbrev wL9 := @List.take_append_drop
abbrev wM0 := @List.drop_append_of_le_length
abbrev wM1 := @List.map_map
abbrev wM2 := @List.take_append_of_le_length
abbrev wM3 := @Nat.mul_add
abbrev wM4 := @List.drop_drop
abbrev wM5 := @List.drop_of_length_le
abbrev wM6 := @List.nodup_append
abbrev wM7 := @List.zipWith_cons_cons
abbrev wM8 := @List.mem_append_right
abbrev wM9 := @List.length_nil
abbrev wN0 := @Nat.mul_le_mul_left
abbrev wN1 := @Int.emod_eq_of_lt
abbrev wN2 := @Nat.zero_le
abbrev wN3 := @Nat.and_two_pow_sub_one_eq_mod
abbrev wN4 := @List.getElem?_cons_zero
abbrev wN5 := @List.getElem?_cons_succ
abbrev wN6 := @List.setIfInBounds_toArray
abbrev wN7 := @List.set_cons_succ
abbrev wN8 := @List.drop_succ_cons
abbrev wN9 := @List.mem_of_find?_eq_some
abbrev wO0 := @List.mem_iff_getElem
abbrev wO1 := @List.getElem_zipWith
abbrev wO2 := @List.length_zipWith
abbrev wO3 := @List.find?_eq_some_iff_getElem
abbrev wO4 := @List.find?_eq_none
abbrev wO5 := @List.find?_append
abbrev wO6 := @Nat.add_sub_cancel_left
abbrev wO7 := @List.getElem_append_left
abbrev wO8 := @Nat.min_eq_left
abbrev wO9 := @Nat.succ_mul
abbrev wP0 := @List.replicate_zero
abbrev wP1 := @List.mem_flatMap
abbrev wP2 := @Array.getD_eq_getD_getElem?
abbrev wP3 := @List.count_pos_iff
abbrev wP4 := @List.length_eq_zero_iff
abbrev wP5 := @List.set_append_left
abbrev wP6 := @Int.le_trans
abbrev wP7 := @List.length_set
abbrev wP8 := @Int.shiftRight_eq_div_pow
abbrev wP9 := @Int.fdiv_eq_ediv_of_nonneg
abbrev wQ0 := @Nat.zero_mul
abbrev wQ1 := @Nat.min_eq_right
abbrev wQ2 := @List.pairwise_cons
abbrev wQ3 := @List.length_map
abbrev wQ4 := @Nat.pos_of_ne_zero
abbrev wQ5 := @List.append_of_mem
abbrev wQ6 := @List.count_append
abbrev wQ7 := @List.pairwise_map
abbrev wQ8 := @List.pairwise_iff_getElem
abbrev wQ9 := @List.getElem?_append
abbrev wR0 := @List.mem_map_of_mem
abbrev wR1 := @List.all_toArray
abbrev wR2 := @List.find?_eq_some_iff_append
abbrev wR3 := @List.pairwise_append
abbrev wR4 := @Array.append_empty
abbrev wR5 := @List.append_toArray
abbrev wR6 := @List.mem_cons_self
abbrev wR7 := @List.not_mem_nil
abbrev wR8 := @Int.eq_ofNat_of_zero_le
abbrev wR9 := @List.mem_cons_of_mem
abbrev wS0 := @Int.toNat_of_nonneg
abbrev wS1 := @List.mem_append_left
abbrev wS2 := @Nat.add_mul_mod_self_right
abbrev wS3 := @List.nodup_iff_pairwise_ne
def yN (a:Addr) (n:Nat):(a.add n).block=a.block:=by unfold Addr.add;split<;>rfl
def zHi (a:Addr) (i j:Nat):(a.add i).add j=a.add (i+j):=by
 unfold Addr.add
 by_cases hi:i=0<;>by_cases hj:j=0<;>simp[hi,hj,wA0]
def SL (w:World) (size:Nat) (v:Value) (n:Nat) (xs:List Value):Prop :=
 ∃ A c,v=.slice A n c∧n≤c∧c≤9223372036854775807∧xs.length=n*size∧(0<n→ ∃ ad,A=some ad∧ad.block<w.heap.size∧ ∀ j u,xs[j]? =some u→w.cell? (ad.add j)=some u)
def zA {p:Prop} (h:p):Hid p:=h
abbrev Ext (w w':World):Prop:=Below w.heap.size w w'
def Ext.refl (w:World):Ext w w:=Below.refl _ _
def Ext.trans {a b c:World} (h:Ext a b) (k:Ext b c):Ext a c:=Below.trans h (Below.mono k h.size)
def Ext.alloc {a w:World} (h:Ext a w) (o:Obj):Ext a (w.alloc o):=Below.alloc h h.size o
def Ext.drew {a w:World} (h:Ext a w):Ext a w.drew:=Below.drew h
def zJx {B:Nat} {a w:World} (h:Below B a w) (n:Nat):Below B a (w.drewN n):=⟨h.os,h.tape,h.output,h.size,h.block⟩
def SL.ext {w w':World} {size n:Nat} {v:Value} {xs:List Value} (h:SL w size v n xs) (hb:Ext w w'):SL w' size v n xs:=by
 obtain⟨A,c,rfl,h1,h1',h2,h3⟩:=h;refine⟨A,c,rfl,h1,h1',h2,fun hn=> ?_⟩;obtain⟨ad,e,hlt,hc⟩:=h3 hn;exact⟨ad,e,wA1 hlt hb.size,fun j u hu=>(hb.cell (by rw[yN];exact hlt)).trans (hc j u hu)⟩
def SL.nil (w:World) (size:Nat):SL w size (.slice none 0 0) 0 []:=⟨none,0,rfl,by omega,by omega,by simp,fun h=>absurd h (by omega)⟩
def SL.at1 {w:World} {A:Option Addr} {n c:Nat} {xs:List Value} {k:Nat} (h:SL w 1 (.slice A n c) n xs) (hk:k<n) :
 ∃ ad u,A=some ad∧ad.block<w.heap.size∧xs[k]? =some u∧w.cell? (ad.add k)=some u:=by
 obtain⟨A',c',e,_,_,h2,h3⟩:=h;injection e with e1 e2 e3
 subst e1;obtain⟨ad,ea,hb,hc⟩:=h3 (by omega);have hl:k<xs.length:=by omega
 exact⟨ad,xs[k],ea,hb,wA2 hl,hc k _ (wA2 hl)⟩
def Blk (w:World) (g:Nat) (t:TypeId) (cs:Array Value):Prop:=w.heap[g]? =some (.cells cs t (0,0))
section
variable {w w':World} {g:Nat} {t:TypeId} {cs:Array Value}
def Blk.lt (h:Blk w g t cs):g<w.heap.size:=by
 rcases wA3 g w.heap.size with hlt | hge
 ·exact hlt
 ·unfold Blk at h;rw[wA4 hge] at h;cases h
def Blk.cell (h:Blk w g t cs) (i:Nat):w.cell? ⟨g,i,none⟩=cs[i]? :=cell_of_row w g i cs t (0,0) h
def Blk.frozen (h:Blk w g t cs) (i:Nat):w.frozen? ⟨g,i,none⟩=false:=by
 unfold Blk at h;simp[World.frozen?,h]
def Blk.new (w:World) (t:TypeId) (cs:Array Value):Blk (w.alloc (.cells cs t)) w.heap.size t cs:=heap_alloc_new w _
def Blk.drew (h:Blk w g t cs):Blk w.drew g t cs:=h
def Blk.alloc (h:Blk w g t cs) (o:Obj):Blk (w.alloc o) g t cs:=(Below.heap_alloc w o g h.lt).trans h
def Blk.set_ (h:Blk w g t cs) (i:Nat) (u:Value):Blk (w.setCell ⟨g,i,none⟩ u) g t (cs.setIfInBounds i u):=by
 unfold Blk at h ⊢;simp[World.setCell,Array.getElem?_modify,h]
def Blk.far (h:Blk w g t cs) {p:Addr} (hp:g≠p.block) (u:Value):Blk (w.setCell p u) g t cs:=(Below.heap_setCell w p u g hp).trans h
def Blk.below {B:Nat} (h:Blk w g t cs) (hb:Below B w w') (hg:g<B):Blk w' g t cs:=(hb.block g hg).trans h
def Blk.ext (h:Blk w g t cs) (hb:Ext w w'):Blk w' g t cs:=h.below hb h.lt
def Blk.grown {row:Option Nat} (h:Blk w g t cs) (hb:w.grownBy w' row) (hg:some g≠row):Blk w' g t cs:=(hb.block g h.lt hg).trans h
def Blk.ne_ {g':Nat} {t':TypeId} {cs':Array Value} (h:Blk w g t cs) (h':Blk w g' t' cs') (hne:t≠t'):g≠g':=by
 rintro rfl;unfold Blk at h h';rw[h] at h';injection h' with h'
 injection h' with _ ht
 exact hne ht
def Blk.sl (h:Blk w g t cs) {size n c:Nat} (hs:cs.size=n*size) (hc:n≤c) (hc2:c≤9223372036854775807):SL w size (.slice (some ⟨g,0,none⟩) n c) n cs.toList:=by
 refine⟨_,_,rfl,hc,hc2,by simpa using hs,fun _=>⟨_,rfl,h.lt,fun j u hu=> ?_⟩⟩
 have e:(⟨g,0,none⟩:Addr).add j=⟨g,j,none⟩:=by
  unfold Addr.add
  by_cases hj:j=0
  ·subst hj;rfl
  ·rw[if_neg hj];simp
 rw[e,h.cell, ←hu];simp
end
section
variable {P:Program} {ops:Array Oper} {rest:List Oper} {o:Oper} {a:Act} {w:World} {Q:Exit→Act→World→Prop}
def wLdB (hgd:o.guard=none) (ty:TypeId) (x:Operand) (ho:o.op=.load ty x) (g:Nat) (hx:a.eval x=.pointer (some ⟨g,0,none⟩))
 {t:TypeId} {cs:Array Value} (hB:Blk w g t cs) (d:TypeDesc) (hu:P.underlying ty=some d) (hd:(match d with | .struct _ | .array _ _=>true | _=>false)=true)
 (n:Nat) (hs:(P.info? ty).map (·.size)=some n) (hn:cs.size=n) (h:wpList P ops Q rest (a.put o.dst (.agg cs)) w):wpList P ops Q (o::rest) a w :=
 wpList_load_row hgd ty x ho g hx t cs (0,0) d hB hu hd (by rw[hn];exact hs) h
def wStB (hgd:o.guard=none) (ty:TypeId) (x y:Operand) (ho:o.op=.store ty x y) (g:Nat) (cells:Array Value) (hx:a.eval x=.pointer (some ⟨g,0,none⟩)) (hy:a.eval y=.agg cells)
 {t:TypeId} {old:Array Value} (hB:Blk w g t old) (n:Nat) (hs:(P.info? ty).map (·.size)=some n) (hn:cells.size=n) (hold:old.size=n) (h1:cells.all (·.oneCell')=true)
 (h: ∀ w1,Blk w1 g t cells→w.grownBy w1 (some g)→wpList P ops Q rest (a.put o.dst undef) w1):wpList P ops Q (o::rest) a w :=
 wpList_store_row hgd ty x y ho g cells hx hy t old hB (by rw[hn];exact hs) (by rw[hn,hold]) h1
  (h _ (setRow_heap w g old cells t (0,0) hB) ⟨rfl,rfl,rfl,by simp,fun k hk hne=>setRow_other w g k cells (fun e=>hne (by rw[e]))⟩)
def yK {fn:Func} {R:Ending→World→Prop} {p u:Tmp} {ty:TypeId} (h:fn.results= #[.cell p ty,.tmp u]) (hdf:a.defers=[]) (g:Nat) {t:TypeId} {cs:Array Value}
 (hp:a.tmps.getD p undef=.pointer (some ⟨g,0,none⟩)) (hB:Blk w g t cs) (d:TypeDesc) (hu:P.underlying ty=some d) (hd:(match d with | .struct _ | .array _ _=>true | _=>false)=true)
 (n:Nat) (hs:(P.info? ty).map (·.size)=some n) (hn:cs.size=n) (hR:R (.returned (.tuple #[.agg cs,a.tmps.getD u undef])) w):bodyPost P fn R .ret a w:=by
 refine bodyPost_ret ?_ hdf hR;rw[results_cell_tmp h];have e:=run_loadVar_row (P:=P) w g t ty cs (0,0) d hB hu hd (by rw[hn];exact hs);simp[hp,asAddr,e,Result.andThen]
def zAy {fn:Func} {R:Ending→World→Prop} {p:Tmp} {ty:TypeId} (h:fn.results= #[.cell p ty]) (hdf:a.defers=[]) (g:Nat) {t:TypeId} {cs:Array Value}
 (hp:a.tmps.getD p undef=.pointer (some ⟨g,0,none⟩)) (hB:Blk w g t cs) (d:TypeDesc) (hu:P.underlying ty=some d) (hd:(match d with | .struct _ | .array _ _=>true | _=>false)=true)
 (n:Nat) (hs:(P.info? ty).map (·.size)=some n) (hn:cs.size=n) (hR:R (.returned (.agg cs)) w):bodyPost P fn R .ret a w :=
 bodyPost_ret (results_cell_row h _ _ g t cs (0,0) d hp hB hu hd (by rw[hn];exact hs)) hdf hR
end
def zCH {P:Program} (t e:TypeId) (n:Nat) (cs:Array Value) (i:Nat) (u:Value) (ht:P.underlying t=some (.array n e)) (k:IntKind) (he:P.underlying e=some (.int k)) (hs:(P.info? e).map (·.size)=some 1)
 (hi:i<n) (hu:cs[i]? =some u) (w:World):(Instr.index t (.agg cs) (.int .i64 (i:Int))).run P w=.ok u w:=by
 cases hq:P.info? e with
 | none=>simp[hq] at hs
 | some inf =>
   have hz:inf.size=1:=by simpa [hq] using hs
   have hb:(0:Int)≤i∧(i:Int)<n:=by omega
   have hagg:(isAgg e).run P w=.ok false w:=by
    unfold isAgg;rw[Sem.run_bind,run_underlying he w];rfl
   have hc:((0:Int)≤(i:Int)∧(i:Int)<(n:Int))=True:=by simp;omega
   simp only[Instr.index,asIntOf,Sem.run_bind,Sem.run_pure,Result.andThen_ok,run_underlying ht,hc,if_true];simp[sizeOf,typeInfo,hq,hz,part,hagg,hu]
section
variable {P:Program} {ops:Array Oper} {rest:List Oper} {o:Oper} {a:Act} {w:World} {Q:Exit→Act→World→Prop}
def wBox (hg:o.guard=none) (t:TypeId) (x:Operand) (ho:o.op=.box t x) (cs:Array Value) (hx:(a.eval x).cells=cs)
 (h: ∀ w1 g,Blk w1 g t cs→Ext w w1→w.heap.size≤g→wpList P ops Q rest (a.put o.dst (.pointer (some ⟨g,0,none⟩))) w1):wpList P ops Q (o::rest) a w:=by
 subst hx;refine wpList_plain hg fun K hK=> ?_
 unfold Oper.wp execOp;simp only[ho,Sem.run_bind,Instr.box,newVar,newRow,run_newObj_alloc,Sem.run_pure,Result.andThen_ok];exact hK _ _ (h _ _ (Blk.new w t _) ((Ext.refl w).alloc _) (wA5 _))
def jY (hg:o.guard=none) (t:TypeId) (ho:o.op=.alloc t) (z:Value) (hz:(P.info? t).bind (·.zero)=some z)
 (h: ∀ w1 g,Blk w1 g t z.cells→Ext w w1→w.heap.size≤g→wpList P ops Q rest (a.put o.dst (.pointer (some ⟨g,0,none⟩))) w1):wpList P ops Q (o::rest) a w:=by
 cases hq:P.info? t with
 | none=>simp[hq] at hz
 | some inf =>
   have hz':inf.zero=some z:=by simpa [hq] using hz
   have hzv:(zeroValue t).run P w=.ok z w:=by simp[zeroValue,typeInfo,hq,hz']
   refine wpList_plain hg fun K hK=> ?_
   unfold Oper.wp execOp;simp only[ho,Sem.run_bind,Instr.alloc,hzv,newVar,newRow,run_newObj_alloc,Sem.run_pure,Result.andThen_ok];exact hK _ _ (h _ _ (Blk.new w t _) ((Ext.refl w).alloc _) (wA5 _))
end
def zFX {P:Program} {ops:Array Oper} {rest:List Oper} {o:Oper} {a:Act} {w:World} {Q:Exit→Act→World→Prop} (hg:o.guard=none) (t:TypeId) (parts:Array (Nat×Operand)) (ho:o.op=.build t parts)
 (cs:Array Value) (hf:P.built t (parts.map fun (i,x)=>(i,a.eval x)).toList=some cs) (h:wpList P ops Q rest (a.put o.dst (.agg cs)) w):wpList P ops Q (o::rest) a w :=
 wpList_build hg t parts ho (by rw[hf];rfl) (by rw[hf];exact h)
def vN {P:Program} {ops:Array Oper} {rest:List Oper} {o:Oper} {a:Act} {w:World} {Q:Exit→Act→World→Prop} (hg:o.guard=none) (t:TypeId) (ho:o.op=.build t #[])
 (cs:Array Value) (hf:P.built t []=some cs) (h:wpList P ops Q rest (a.put o.dst (.agg cs)) w):wpList P ops Q (o::rest) a w :=
 zFX hg t #[] ho cs (by simpa using hf) h
def uE {P:Program} {ops:Array Oper} {rest:List Oper} {o:Oper} {a:Act} {w:World} {Q:Exit→Act→World→Prop} (hw:Region.wanted o (yielded ops a.tmps)=true)
 (h: ∀ K:Act→World→Prop,(∀ a w,wpList P ops Q rest a w→K a w)→o.wp P a w K Q):wpList P ops Q (o::rest) a w :=
 wpList_step fun K hK=>by rw[if_pos hw];exact h K hK
def zCd {P:Program} {ops:Array Oper} {rest:List Oper} {o:Oper} {a:Act} {w:World} {Q:Exit→Act→World→Prop} (hw:Region.wanted o (yielded ops a.tmps)=true)
 (ty:TypeId) (x:Operand) (ho:o.op=.load ty x) (g:Nat) (hx:a.eval x=.pointer (some ⟨g,0,none⟩))
 {t:TypeId} {cs:Array Value} (hB:Blk w g t cs) (d:TypeDesc) (hu:P.underlying ty=some d) (hd:(match d with | .struct _ | .array _ _=>true | _=>false)=true)
 (n:Nat) (hs:(P.info? ty).map (·.size)=some n) (hn:cs.size=n) (h:wpList P ops Q rest (a.put o.dst (.agg cs)) w):wpList P ops Q (o::rest) a w :=
 uE hw fun _ hK=>wp_load_row ty x ho g hx t cs (0,0) d hB hu hd (by rw[hn];exact hs) (hK _ _ h)
def wAlo' {P:Program} {ops:Array Oper} {rest:List Oper} {o:Oper} {a:Act} {w:World} {Q:Exit→Act→World→Prop} (hg:o.guard=none) (dst:Option Tmp) (hdst:o.dst=dst) (t:TypeId) (ho:o.op=.alloc t) (z:Value) (hz:(P.info? t).bind (·.zero)=some z)
 (h: ∀ w1 g,Blk w1 g t z.cells→Ext w w1→w.heap.size≤g→wpList P ops Q rest (a.put dst (.pointer (some ⟨g,0,none⟩))) w1):wpList P ops Q (o::rest) a w:=by
 subst hdst;exact jY hg t ho z hz h
def jN {P:Program} {ops:Array Oper} {rest:List Oper} {o:Oper} {a:Act} {w:World} {Q:Exit→Act→World→Prop} (hw:Region.wanted o (yielded ops a.tmps)=true) (t:TypeId) (ho:o.op=.build t #[])
 (cs:Array Value) (hf:P.built t []=some cs) (h:wpList P ops Q rest (a.put o.dst (.agg cs)) w):wpList P ops Q (o::rest) a w :=
 uE hw fun _ hK=>wp_build t #[] ho (by simp[hf]) (by simpa [hf] using hK _ _ h)
def Ext.grown {a w w':World} (h:Ext a w) {g:Nat} (hg:w.grownBy w' (some g)) (hB:a.heap.size≤g):Ext a w' :=
 Below.grown h hg h.size (fun k hk=>by injection hk with hk;omega)
def Ext.setCell {a w:World} (h:Ext a w) {p:Addr} (hp:a.heap.size≤p.block) (u:Value):Ext a (w.setCell p u):=Below.setCell h hp u
def vint {a b:Int} (h:a=b):Value.int .i64 a=Value.int .i64 b:=by rw[h]
def SL.drew {w:World} {size n:Nat} {v:Value} {xs:List Value} (h:SL w size v n xs):SL w.drew size v n xs:=h
structure zAY (R:World→World→Prop):Prop where
 refl: ∀ w,R w w
 trans: ∀ {a b c},R a b→R b c→R a c
def qS:zAY Ext:=⟨Ext.refl,fun h k=>Ext.trans h k⟩
section
variable {P:Program} {ops:Array Oper} {md:Region.Mode} {R:World→World→Prop}
def YieldsR (P:Program) (ops:Array Oper) (R:World→World→Prop) (o:Oper) (v:Value) (a:Act) (wc:World):Prop :=
 (Region.wanted o (yielded ops a.tmps)=true∧ ∀ w,R wc w→o.quietAt P a (R w) w v)∨(Region.wanted o (yielded ops a.tmps)=false∧v=undef)
def YieldsR.mono (L:zAY R) {o:Oper} {v:Value} {a:Act} {wc w:World} (h:YieldsR P ops R o v a wc) (hw:R wc w):YieldsR P ops R o v a w :=
 h.imp (fun ⟨h1,h2⟩=>⟨h1,fun w' h'=>h2 w' (L.trans hw h')⟩) id
def YieldsR.of_same {o:Oper} {v:Value} {a a':Act} {wc:World} (hy:YieldsR P ops R o v a wc) (he:execOp a'.eval o=execOp a.eval o)
 (hw:Region.wanted o (yielded ops a'.tmps)=Region.wanted o (yielded ops a.tmps)):YieldsR P ops R o v a' wc:=by
 unfold YieldsR Oper.quietAt at *;rw[he,hw];exact hy
def zOk (L:zAY R) {o:Oper} {a:Act} {v:Value} {w:World} {K:Act→World→Prop} {Q:Exit→Act→World→Prop} (h:o.quietAt P a (R w) w v) (hk: ∀ w',R w w'→K (a.put o.dst v) w'):o.wp P a w K Q:=by
 unfold Oper.quietAt at h;unfold Oper.wp;generalize (execOp a.eval o).run P w=r at *
 cases r with
 | ok n w' =>
   cases n<;>simp only[Oper.quietUpon] at h<;>simp only[Oper.upon]
   case value u =>
    obtain⟨e1,e2⟩:=h;rw[e1,e2];exact hk _ (L.refl _)
   case skip =>
    obtain⟨e1,e2⟩:=h;rw[e1, ←e2];exact hk _ (L.refl _)
   case enter f args =>
    obtain⟨e1,hc⟩:=h;rw[e1];exact hc.mono fun e w'' ⟨he,hw''⟩=>by subst he;exact hk _ hw''
 | halt x w'=>simp only[Oper.quietUpon] at h
def YieldsR.wpOp (L:zAY R) {i:Nat} {o:Oper} {v:Value} {a:Act} {wc w:World} {Q:Exit→Act→World→Prop} (hi:ops[i]? =some o) (hy:YieldsR P ops R o v a wc) (hw:R wc w)
 {K:Act→World→Prop} (h: ∀ w',R w w'→K (a.put o.dst v) w'):wpOp P ops Q i K a w:=by
 unfold Go.wpOp;simp only[hi];rcases hy with ⟨h1,h2⟩ | ⟨h1,rfl⟩
 ·simp only[h1,if_true];exact .inl (zOk L (h2 w hw) h)
 ·simp only[h1,wA6,if_false];exact h _ (L.refl _)
def zIK {j:Nat} {oi oj:Oper} {v:Value} {wc:World} {Q:Exit→Act→World→Prop} (hj:ops[j]? =some oj) (hap:oi.apart ops oj=true)
 (hsi: ∀ cs b,oi.op≠.select cs b) (hsj: ∀ cs b,oj.op≠.select cs b)
 (hQ: ∀ c a w,Q (.panic c) (a.put oi.dst v) w→Q (.panic c) a w) {K:Act→World→Prop} {a:Act} {w:World}
 (hy:YieldsR P ops R oi v a wc) (h:wpOp P ops Q j K (a.put oi.dst v) w) :
 wpOp P ops Q j (fun a' w'=>YieldsR P ops R oi v a' wc∧K (a'.put oi.dst v) w') a w:=by
 obtain⟨h1,h2,h3⟩:=Oper.apart_spec hap
 have keep: ∀ (a:Act),YieldsR P ops R oi v a wc→ ∀ u,YieldsR P ops R oi v (a.put oj.dst u) wc:=fun a hy u =>
  hy.of_same (execOp_put oi hsi a oj.dst u h3) (wanted_put oi a oj.dst u h3)
 have keepD: ∀ d,YieldsR P ops R oi v { a with defers:=d::a.defers } wc:=fun d=>hy.of_same rfl rfl
 unfold wpOp at *;simp only[hj] at *;rw[wanted_put oj a oi.dst v h1] at h;split
 ·rename_i hw;simp only[hw,if_true] at h;rcases h with h | ⟨hasks,hlets⟩
  case inr=>exact .inr ⟨by unfold Oper.asks at *;rw[execOp_put oj hsj a oi.dst v h1] at hasks;exact hasks,hlets⟩
  refine .inl ?_;unfold Oper.wp at *;rw[execOp_put oj hsj a oi.dst v h1] at h;generalize (execOp a.eval oj).run P w=r at *
  cases r with
  | ok n w' =>
    cases n<;>simp only[Oper.upon] at h ⊢
    case value u=>exact⟨keep a hy u,by rw[←Act.put_comm a v u h2];exact h⟩
    case skip=>exact⟨keep a hy _,by rw[←Act.put_comm a v undef h2];exact h⟩
    case defer d =>
     refine⟨keep _ (keepD d) _, ?_⟩;rw[←Act.put_comm _ v undef h2, ←Act.put_defers];exact h
    case enter f args =>
     refine Calls.mono h fun e w'' he=> ?_
     cases e with
     | returned u=>exact⟨keep a hy u,by rw[←Act.put_comm a v u h2];exact he⟩
     | panicked c=>exact hQ _ _ _ he
     | outgrown=>exact he
    case row row args=>exact Rows.mono h fun u w'' he=>⟨keep a hy u,by rw[←Act.put_comm a v u h2];exact he⟩
  | halt x w' =>
    cases x<;>simp only[Oper.upon] at h ⊢
    case panic u=>exact hQ _ _ _ h
 ·rename_i hw;simp only[hw] at h;exact⟨keep a hy _,by rw[←Act.put_comm a v undef h2];exact h⟩
def zFI (P:Program) (md:Region.Mode) (ops:Array Oper) (R:World→World→Prop) (Q:Exit→Act→World→Prop):Nat→Array Bool→Act→World→Prop
 | 0,listed,a,wc=>Region.ready md ops listed=[]∧ ∀ w,R wc w→Q .normal a w
 | f+1,listed,a,wc=>(Region.ready md ops listed=[]→ ∀ w,R wc w→Q .normal a w) ∧
   ∀ i∈Region.ready md ops listed, ∀ w,R wc w→wpOp P ops Q i (fun a' w'=>R w w'∧zFI P md ops R Q f (listed.setIfInBounds i true) a' w') a w
variable {Q:Exit→Act→World→Prop}
def zKP (L:zAY R): ∀ (f:Nat) (listed:Array Bool) (a:Act) (wc w:World),R wc w→zFI P md ops R Q f listed a wc→zFI P md ops R Q f listed a w
 | 0,_,_,_,_,hw,h=>⟨h.1,fun w' h'=>h.2 w' (L.trans hw h')⟩
 | _+1,_,_,_,_,hw,h=>⟨fun h0 w' h'=>h.1 h0 w' (L.trans hw h'),fun i hi w' h'=>h.2 i hi w' (L.trans hw h')⟩
def zLO (L:zAY R): ∀ (f:Nat) (listed:Array Bool) (a:Act) (wc w:World),R wc w→zFI P md ops R Q f listed a wc→wpAny P md ops Q f listed a w
 | 0,_,_,_,_,hw,h=>⟨h.1,h.2 _ hw⟩
 | f+1,_,_,_,_,hw,h=>⟨fun h0=>h.1 h0 _ hw,fun i hi=>wpOp_mono (fun a' w' h'=>zLO L f _ a' w' w' (L.refl _) h'.2) (h.2 i hi _ hw)⟩
def zQD (L:zAY R) {i:Nat} {oi:Oper} {v:Value} (hi:ops[i]? =some oi) (hsel: ∀ (j:Nat) (o:Oper) cs b,ops[j]? =some o→o.op≠.select cs b)
 (hQ: ∀ c a w,Q (.panic c) (a.put oi.dst v) w→Q (.panic c) a w) :
 ∀ (fuel:Nat) (listed:Array Bool) (a:Act) (wc:World),
  (∀ j oj,ops[j]? =some oj→j≠i→listed.getD j true=false→(∀ e∈oj.after,Region.binds md e=true→e.on≠i)→oi.apart ops oj=true) →
  i∈Region.ready md ops listed→YieldsR P ops R oi v a wc →
  zFI P md ops R Q fuel (listed.setIfInBounds i true) (a.put oi.dst v) wc→zFI P md ops R Q (fuel+1) listed a wc:=by
 intro fuel
 induction fuel with
 | zero =>
   intro listed a wc _ hr hy H;refine⟨fun h=>(by rw[h] at hr;cases hr),fun j hj w hw=> ?_⟩
   by_cases hji:j=i
   ·subst hji;exact hy.wpOp L hi hw fun w' h'=>⟨h',zKP L _ _ _ _ _ (L.trans hw h') H⟩
   ·have:=ready_mono hj hji;rw[H.1] at this;cases this
 | succ fuel ih =>
   intro listed a wc hfree hr hy H;refine⟨fun h=>(by rw[h] at hr;cases hr),fun j hj w hw=> ?_⟩
   by_cases hji:j=i
   ·subst hji;exact hy.wpOp L hi hw fun w' h'=>⟨h',zKP L _ _ _ _ _ (L.trans hw h') H⟩
   ·have h1:=H.2 j (ready_mono hj hji) w hw;obtain⟨hjun,oj,hoj,hall⟩:=mem_ready.1 hj
    have hnot: ∀ e∈oj.after,Region.binds md e=true→e.on≠i:=fun e he hb heq=>by
     have h1:=hall e he hb;have h0:=(mem_ready.1 hr).1;rw[heq] at h1;rcases wA3 i listed.size with h' | h'
     ·simp[h'] at h0 h1;rw[h0] at h1;cases h1
     ·simp[wA4 h'] at h1
    have h2:=zIK hoj (hfree j oj hoj hji hjun hnot) (fun cs b=>hsel i oi cs b hi) (fun cs b=>hsel j oj cs b hoj) hQ hy h1
    have hfree': ∀ k ok,ops[k]? =some ok→k≠i→(listed.setIfInBounds j true).getD k true=false →
     (∀ e∈ok.after,Region.binds md e=true→e.on≠i)→oi.apart ops ok=true:=fun k ok hk hki hun hno=>by
     refine hfree k ok hk hki ?_ hno
     by_cases hjk:j=k
     ·subst hjk;exact hjun
     ·rw[getD_set_ne true hjk] at hun;exact hun
    refine wpOp_mono (fun a' w' h3=>⟨h3.2.1,ih (listed.setIfInBounds j true) a' w' hfree' (ready_mono hr (Ne.symm hji)) (h3.1.mono L (L.trans hw h3.2.1)) ?_⟩) h2;rw[wA7 _ _ hji];exact h3.2.2
def zAF (P:Program) (md:Region.Mode) (ops:Array Oper) (R:World→World→Prop) (Q:Exit→Act→World→Prop):List Oper→Nat→Array Bool→Act→World→Prop
 | [],_,_,a,wc=> ∀ w,R wc w→Q .normal a w
 | o::rest,k,listed,a,wc =>
   (∃ v,YieldsR P ops R o v a wc∧zAF P md ops R Q rest (k+1) (listed.setIfInBounds k true) (a.put o.dst v) wc) ∨
   (Region.ready md ops listed=[k]∧ ∀ w,R wc w→wpOp P ops Q k (fun a' w'=>R w w'∧zAF P md ops R Q rest (k+1) (listed.setIfInBounds k true) a' w') a w)
def zHH (L:zAY R) (hs:Region.noSelect ops=true) (hQ: ∀ c (a:Act) d v w,Q (.panic c) (a.put d v) w→Q (.panic c) a w): ∀ (l:List Oper) (k:Nat) (listed:Array Bool) (a:Act) (wc:World),(∀ j,l[j]? =ops[k+j]?) →
 Region.lexFrom md ops l.length k listed=true→zAF P md ops R Q l k listed a wc→zFI P md ops R Q l.length listed a wc
 | [],_,_,_,_,_,hB,h=>⟨by simpa [Region.lexFrom] using hB,h⟩
 | o::l,k,listed,a,wc,hl,hB,h=>by
   have h0:ops[k]? =some o:=by simpa using (hl 0).symm
   simp only[wA8,Region.lexFrom,wA9] at hB;obtain⟨⟨hr,hf⟩,hB'⟩:=hB;have hl': ∀ j,l[j]? =ops[k+1+j]? :=fun j=>by have:=hl (j+1);simpa [wA0,wB0 1 j] using this
   rcases h with ⟨v,hy,hK⟩ | ⟨hone,hK⟩
   ·exact zQD L h0 (Region.noSelect_spec hs) (fun c a w=>hQ c a _ _ w) l.length listed a wc (Region.free_spec h0 hf) (by simpa using hr) hy
     (zHH L hs hQ l (k+1) _ _ _ hl' hB' hK)
   ·refine⟨fun h0=>(by rw[h0] at hone;cases hone),fun i hi w hw=> ?_⟩;rw[hone] at hi;have hik:i=k:=by simpa using hi
    subst hik;exact wpOp_mono (fun a' w' h'=>⟨h'.1,zHH L hs hQ l (i+1) _ _ _ hl' hB' h'.2⟩) (hK w hw)
def xO (QN:Act→World→Prop):Exit→Act→World→Prop
 | .normal,a,w=>QN a w
 | _,_,_=>False
def qI (L:zAY R) {id:Nat} {a:Act} {w:World} {l:List Oper} (hm:P.follows .mixedOrders=true) (hB:Region.lexB .any l.toArray=true)
 (h:zAF P .any l.toArray R (xO (fun a w=>Q .normal a w)) l 0 (Array.replicate l.length false) a w.drew):(Code.region id l.toArray true).wp P Q a w:=by
 simp only[Region.lexB,wA9] at hB;refine Code.wp_mono (Q:=xO (fun a w=>Q .normal a w)) (fun e a w h=> ?_) (wp_region_any hm (zLO L _ _ _ _ _ (L.refl _) ?_))
 ·cases e<;>first | exact h | exact (h:False).elim
 ·have:=zHH (md:=.any) L hB.1 (fun _ _ _ _ _ h=>h) l 0 (Array.replicate l.toArray.size false) a w.drew (by simp) (by simpa using hB.2) (by simpa using h);simpa using this
variable {o:Oper} {rest:List Oper} {k:Nat} {listed:Array Bool} {a:Act} {wc:World}
def vH {QN:Act→World→Prop} (h: ∀ w,R wc w→QN a w):zAF P md ops R (xO QN) [] k listed a wc:=h
def zBO (hw:Region.wanted o (yielded ops a.tmps)=true) (h: ∃ v,(∀ w,R wc w→o.quietAt P a (R w) w v)∧zAF P md ops R Q rest (k+1) (listed.setIfInBounds k true) (a.put o.dst v) wc):zAF P md ops R Q (o::rest) k listed a wc :=
 .inl (let ⟨v,h1,h2⟩:=h;⟨v,.inl ⟨hw,h1⟩,h2⟩)
def lx_at (hw:Region.wanted o (yielded ops a.tmps)=true) (v:Value) (h1: ∀ w,R wc w→o.quietAt P a (R w) w v) (h2:zAF P md ops R Q rest (k+1) (listed.setIfInBounds k true) (a.put o.dst v) wc):zAF P md ops R Q (o::rest) k listed a wc :=
 .inl ⟨v,.inl ⟨hw,h1⟩,h2⟩
def zBD (hw:Region.wanted o (yielded ops a.tmps)=false) (h:zAF P md ops R Q rest (k+1) (listed.setIfInBounds k true) (a.put o.dst undef) wc):zAF P md ops R Q (o::rest) k listed a wc :=
 .inl ⟨undef,.inr ⟨hw,rfl⟩,h⟩
def zI (hw:Region.wanted o (yielded ops a.tmps)=true) (v:Value) (h1: ∀ w,(execOp a.eval o).run P w=.ok (.value v) w) (h2:zAF P md ops R Q rest (k+1) (listed.setIfInBounds k true) (a.put o.dst v) wc):zAF P md ops R Q (o::rest) k listed a wc :=
 lx_at hw v (fun w _=>by unfold Oper.quietAt;rw[h1];exact⟨rfl,rfl⟩) h2
def xL (hw:Region.wanted o (yielded ops a.tmps)=true) (v:Value) (h1: ∀ w,R wc w→(execOp a.eval o).run P w=.ok (.value v) w) (h2:zAF P md ops R Q rest (k+1) (listed.setIfInBounds k true) (a.put o.dst v) wc):zAF P md ops R Q (o::rest) k listed a wc :=
 lx_at hw v (fun w hR=>by unfold Oper.quietAt;rw[h1 w hR];exact⟨rfl,rfl⟩) h2
def zGD (hw:Region.wanted o (yielded ops a.tmps)=true) (ty:TypeId) (x:Operand) (ho:o.op=.load ty x) (g:Nat) (hx:a.eval x=.pointer (some ⟨g,0,none⟩))
 {t:TypeId} {cs:Array Value} (hB: ∀ w,R wc w→Blk w g t cs) (d:TypeDesc) (hu:P.underlying ty=some d) (hd:(match d with | .struct _ | .array _ _=>true | _=>false)=true)
 (n:Nat) (hs:(P.info? ty).map (·.size)=some n) (hn:cs.size=n) (h:zAF P md ops R Q rest (k+1) (listed.setIfInBounds k true) (a.put o.dst (.agg cs)) wc):zAF P md ops R Q (o::rest) k listed a wc:=by
 refine xL hw _ (fun w hC=> ?_) h;unfold execOp;simp only[ho,hx,Instr.loadAt,Instr.sureAddr,Sem.run_bind,Sem.run_pure,Result.andThen_ok,run_loadVar_row w g t ty cs (0,0) d (hB w hC) hu hd (by rw[hn];exact hs)]
def zDn (hw : Region.wanted o (yielded ops a.tmps) = true) (f : FuncId) {fn : Func} (hf : P.funcs[f]? = some fn) (hname : (fn.name == "runtime.NumGoroutine") = false) (hb : fn.body.isSome = true) (xs : Array Operand) (ts : Array TypeId)
 (ho:o.op=.call { callee:=.value (.func f),args:=xs,argTypes:=ts }) (args:Array Value) (hx:xs.map a.eval=args) (v:Value)
 (hc: ∀ w,R wc w→Calls P f args w fun e w'=>e=.returned v∧R w w') (h:zAF P md ops R Q rest (k+1) (listed.setIfInBounds k true) (a.put o.dst v) wc):zAF P md ops R Q (o::rest) k listed a wc:=by
 obtain⟨c,hb⟩:=wB1.1 hb;have hn : ¬ fn.name = "runtime.NumGoroutine" := by simpa using hname
 refine lx_at hw v (fun w hR=> ?_) h;have he:a.eval (.func f)=.func (.func f) #[] #[]:=rfl;have hrun:(execOp a.eval o).run P w=.ok (.enter f args) w:=by simp[execOp,ho,resolve,hx,he,Deferred.ofValue,invoke,callFunc,hf,hb,hn]
 unfold Oper.quietAt;rw[hrun];exact⟨rfl,hc w hR⟩
end
section
variable {P:Program} {ops:Array Oper} {md:Region.Mode} {R:World→World→Prop}
def zDk (P:Program) (md:Region.Mode) (ops:Array Oper) (R:World→World→Prop) (Q:Exit→Act→World→Prop) (n:Nat) (F:Array Bool→Act→World→Prop):Nat→Array Bool→Act→World→Prop
 | 0,listed,a,wc=> ∀ w,R wc w→F listed a w
 | f+1,listed,a,wc=>Region.ready md ops listed≠[]∧ ∀ i∈Region.ready md ops listed,i<n∧ ∀ w,R wc w→wpOp P ops Q i (fun a' w'=>R w w'∧zDk P md ops R Q n F f (listed.setIfInBounds i true) a' w') a w
variable {Q:Exit→Act→World→Prop} {n:Nat} {F:Array Bool→Act→World→Prop}
def zII (L:zAY R): ∀ (f:Nat) (listed:Array Bool) (a:Act) (wc w:World),R wc w→zDk P md ops R Q n F f listed a wc→zDk P md ops R Q n F f listed a w
 | 0,_,_,_,_,hw,h=>fun w' h'=>h w' (L.trans hw h')
 | _+1,_,_,_,_,hw,h=>⟨h.1,fun i hi=>⟨(h.2 i hi).1,fun w' h'=>(h.2 i hi).2 w' (L.trans hw h')⟩⟩
def zKE {QN:Act→World→Prop} (h:LetsOut (xO QN)):False:=by
 obtain⟨a,w,h⟩:=h;exact h
def zIP {i:Nat} {K:Act→World→Prop} {QN:Act→World→Prop} {Q':Exit→Act→World→Prop} {a:Act} {w:World} (h:wpOp P ops (xO QN) i K a w):wpOp P ops Q' i K a w:=by
 have up: ∀ (o:Oper) (r:Result Next),o.upon P a K (xO QN) r→o.upon P a K Q' r:=by
  intro o r h
  cases r with
  | ok nx w' =>
    cases nx<;>simp only[Oper.upon] at h ⊢ <;>first
     | exact h
     | exact Calls.mono h (fun e w'' he=>by cases e<;>first | exact he | exact (he:False).elim | exact (zKE he).elim)
  | halt x w' =>
    cases x<;>simp only[Oper.upon] at h ⊢
    case panic u=>exact (h:False).elim
 unfold wpOp at *;split
 ·rename_i ho;simpa [ho] using h
 ·rename_i o ho;simp only[ho] at h;split
  ·rename_i hw;simp only[hw,if_true] at h;rcases h with h | ⟨_,h⟩
   ·exact .inl (up _ _ h)
   ·exact (zKE h).elim
  ·rename_i hw;simpa [hw] using h
def zKI (L:zAY R) {QN:Act→World→Prop} {Q':Exit→Act→World→Prop} {g:Nat} (hF: ∀ listed a w,F listed a w→wpAny P md ops Q' g listed a w) :
 ∀ (f:Nat) (listed:Array Bool) (a:Act) (wc:World),zDk P md ops R (xO QN) n F f listed a wc→ ∀ w,R wc w→wpAny P md ops Q' (f+g) listed a w
 | 0,listed,a,wc,h,w,hw=>by rw[wB2];exact hF _ _ _ (h w hw)
 | f+1,listed,a,wc,h,w,hw=>by
   rw[show f+1+g=(f+g)+1 by omega];exact⟨fun h0=>absurd h0 h.1,fun i hi=>zIP (QN:=QN) (wpOp_mono (fun a' w' h'=>zKI L hF f _ a' w' h'.2 w' (L.refl _)) ((h.2 i hi).2 w hw))⟩
def zOq (L:zAY R) {QN:Act→World→Prop} {i:Nat} {oi:Oper} {v:Value} (hi:ops[i]? =some oi) (hsel: ∀ (j:Nat) (o:Oper) cs b,ops[j]? =some o→o.op≠.select cs b)
 (hs:Region.sinkB md ops n=true) (hc:Region.chainB md ops n=true) (hn:n<ops.size) (hin:i<n)
 (hdone: ∀ listed a w,F listed a w→ ∀ j∈Region.ready md ops listed,n≤j) :
 ∀ (f:Nat) (listed:Array Bool) (a:Act) (wc:World),HeadInv md ops n listed →
  (∀ j oj,ops[j]? =some oj→j≠i→listed.getD j true=false→(∀ e∈oj.after,Region.binds md e=true→e.on≠i)→oi.apart ops oj=true) →
  i∈Region.ready md ops listed→YieldsR P ops R oi v a wc →
  zDk P md ops R (xO QN) n F f (listed.setIfInBounds i true) (a.put oi.dst v) wc→zDk P md ops R (xO QN) n F (f+1) listed a wc:=by
 intro f
 induction f with
 | zero =>
   intro listed a wc inv _ hr hy H;have hun:=(mem_ready.1 hr).1;refine⟨fun h=>(by rw[h] at hr;cases hr),fun j hj=> ?_⟩
   have hjn:j<n:=by
    rcases wA3 j n with h | h
    ·exact h
    ·exact absurd hj (tail_waits hs hc hn inv _ i rfl hin hun j h)
   refine⟨hjn,fun w hw=> ?_⟩
   by_cases hji:j=i
   ·subst hji;exact hy.wpOp L hi hw fun w' h'=>⟨h',zII L _ _ _ _ _ (L.trans hw h') H⟩
   ·have:=hdone _ _ _ (H w hw) j (ready_mono hj hji);omega
 | succ f ih =>
   intro listed a wc inv hfree hr hy H;have hun:=(mem_ready.1 hr).1;refine⟨fun h=>(by rw[h] at hr;cases hr),fun j hj=> ?_⟩
   have hjn:j<n:=by
    rcases wA3 j n with h | h
    ·exact h
    ·exact absurd hj (tail_waits hs hc hn inv _ i rfl hin hun j h)
   refine⟨hjn,fun w hw=> ?_⟩
   by_cases hji:j=i
   ·subst hji;exact hy.wpOp L hi hw fun w' h'=>⟨h',zII L _ _ _ _ _ (L.trans hw h') H⟩
   ·have h1:=(H.2 j (ready_mono hj hji)).2 w hw;obtain⟨hjun,oj,hoj,hall⟩:=mem_ready.1 hj
    have hnot: ∀ e∈oj.after,Region.binds md e=true→e.on≠i:=fun e he hb heq=>by
     have h1:=hall e he hb;rw[heq,getD_both hun] at h1;cases h1
    have h2:=zIK hoj (hfree j oj hoj hji hjun hnot) (fun cs b=>hsel i oi cs b hi) (fun cs b=>hsel j oj cs b hoj) (fun _ _ _ h=>h) hy h1
    have hfree': ∀ k ok,ops[k]? =some ok→k≠i→(listed.setIfInBounds j true).getD k true=false →
     (∀ e∈ok.after,Region.binds md e=true→e.on≠i)→oi.apart ops ok=true:=fun k ok hk hki hun hno=>by
     refine hfree k ok hk hki ?_ hno
     by_cases hjk:j=k
     ·subst hjk;exact hjun
     ·rw[getD_set_ne true hjk] at hun;exact hun
    refine wpOp_mono (fun a' w' h3=>⟨h3.2.1,ih (listed.setIfInBounds j true) a' w' (inv.set hj hjn) hfree' (ready_mono hr (Ne.symm hji)) (h3.1.mono L (L.trans hw h3.2.1)) ?_⟩) h2;rw[wA7 _ _ hji];exact h3.2.2
def zGI (L:zAY R) {QN:Act→World→Prop} {g:Nat} (hsel:Region.noSelect ops=true) (hs:Region.sinkB md ops n=true) (hc:Region.chainB md ops n=true) (hn:n<ops.size) :
 ∀ (l:List Oper) (k:Nat) (listed:Array Bool) (a:Act) (wc:World),(∀ j,j<l.length→l[j]? =ops[k+j]?)→k+l.length=n→HeadInv md ops n listed →
 Region.lexHead md ops g l.length k listed=true→zAF P md ops R (xO QN) l k listed a wc →
 zDk P md ops R (xO QN) n (fun listed' a' w'=>Region.seqB md ops g n listed'=true∧QN a' w') l.length listed a wc
 | [],k,listed,a,wc,_,hk,_,hB,h=>by
   have:k=n:=by simpa using hk
   subst this;exact fun w hw=>⟨by simpa [Region.lexHead] using hB,h w hw⟩
 | o::l,k,listed,a,wc,hl,hk,inv,hB,h=>by
   have h0:ops[k]? =some o:=by simpa using (hl 0 (by simp)).symm
   simp only[wA8,Region.lexHead,wA9] at hB;obtain⟨⟨hr,hf⟩,hB'⟩:=hB;have hkn:k<n:=by simp only[wA8] at hk;omega
   have hr':k∈Region.ready md ops listed:=by simpa using hr
   have hl': ∀ j,j<l.length→l[j]? =ops[k+1+j]? :=fun j hj=>by have:=hl (j+1) (by simp;omega);simpa [wA0,wB0 1 j] using this
   have hk':k+1+l.length=n:=by simp only[wA8] at hk;omega
   rcases h with ⟨v,hy,hK⟩ | ⟨hone,hK⟩
   ·exact zOq L h0 (Region.noSelect_spec hsel) hs hc hn hkn (fun listed' a' w' hL=>seqB_ready hL.1) l.length listed a wc inv (Region.free_spec h0 hf) hr' hy
     (zGI L hsel hs hc hn l (k+1) _ _ _ hl' hk' (inv.set hr' hkn) hB' hK)
   ·refine⟨fun h0=>(by rw[h0] at hone;cases hone),fun i hi=> ?_⟩;rw[hone] at hi;have hik:i=k:=by simpa using hi
    subst hik;exact⟨hkn,fun w hw=>wpOp_mono (fun a' w' h'=>⟨h'.1,zGI L hsel hs hc hn l (i+1) _ _ _ hl' hk' (inv.set hr' hkn) hB' h'.2⟩) (hK w hw)⟩
def zAi (L:zAY R) (n:Nat) {id:Nat} {a:Act} {w:World} {l:List Oper} (hm:P.follows .mixedOrders=true) (hB:Region.lexTailB .any l.toArray n=true)
 (h:zAF P .any l.toArray R (xO (fun a w=>wpList P l.toArray Q (l.drop n) a w)) (l.take n) 0 (Array.replicate l.length false) a w.drew):(Code.region id l.toArray true).wp P Q a w:=by
 simp only[Region.lexTailB,wA9,wB3] at hB;obtain⟨⟨⟨⟨hsel,hn⟩,hs⟩,hc⟩,hlex⟩:=hB;have hn':n<l.length:=by simpa using hn
 have htl:(l.take n).length=n:=by simp;omega
 have hdl:(l.drop n).length=l.toArray.size-n:=by simp
 have inv0:HeadInv .any l.toArray n (Array.replicate l.toArray.size false) :=
  ⟨by simp,fun j oj _ hl=>(by rw[getD_replicate_false] at hl;cases hl),fun t _ ht=>getD_in (by simpa using ht) (getD_replicate_false _ _)⟩
 have H:=zGI (md:=.any) (g:=l.toArray.size-n) L hsel hs hc hn (l.take n) 0 (Array.replicate l.toArray.size false) a w.drew (fun j hj=>by
  have hj':j<n:=by rw[htl] at hj;exact hj
  simp[hj']) (by simpa using htl) inv0 (by rw[htl];exact hlex) (by simpa using h)
 refine wp_region_any hm ?_
 have:=zKI (Q':=Q) (g:=l.toArray.size-n) L (fun listed a' w' hL=>by
  have:=wpAny_of_seq (md:=.any) (Q':=Q) (l.drop n) n listed a' w' (fun j=>by simp[wB4]) (by rw[hdl];exact hL.1) hL.2
  rwa [hdl] at this) _ _ _ _ H _ (L.refl _)
 rw[htl,show n+(l.toArray.size-n)=l.toArray.size by omega] at this;exact this
end
section
variable {P:Program} {ops:Array Oper} {md:Region.Mode} {I:World→Prop}
def Fixed (P:Program) (ops:Array Oper) (I:World→Prop) (o:Oper) (v:Value) (a:Act):Prop :=
 (Region.wanted o (yielded ops a.tmps)=true∧ ∀ w,I w→(execOp a.eval o).run P w=.ok (.value v) w)∨(Region.wanted o (yielded ops a.tmps)=false∧v=undef)
def Fixed.of_same {o:Oper} {v:Value} {a a':Act} (hy:Fixed P ops I o v a) (he:execOp a'.eval o=execOp a.eval o)
 (hw:Region.wanted o (yielded ops a'.tmps)=Region.wanted o (yielded ops a.tmps)):Fixed P ops I o v a':=by
 unfold Fixed at *;rw[he,hw];exact hy
def Fixed.wpOp {i:Nat} {o:Oper} {v:Value} {a:Act} {w:World} {Q:Exit→Act→World→Prop} (hi:ops[i]? =some o) (hy:Fixed P ops I o v a) (hw:I w)
 {K:Act→World→Prop} (h:K (a.put o.dst v) w):wpOp P ops Q i K a w:=by
 unfold Go.wpOp;simp only[hi];rcases hy with ⟨h1,h2⟩ | ⟨h1,rfl⟩
 ·simp only[h1,if_true];refine .inl ?_;unfold Oper.wp;rw[h2 w hw];exact h
 ·simp only[h1,wA6,if_false];exact h
def zJA {j:Nat} {oi oj:Oper} {v:Value} {Q:Exit→Act→World→Prop} (hj:ops[j]? =some oj) (hap:oi.apart ops oj=true)
 (hsi: ∀ cs b,oi.op≠.select cs b) (hsj: ∀ cs b,oj.op≠.select cs b)
 (hQ: ∀ c a w,Q (.panic c) (a.put oi.dst v) w→Q (.panic c) a w) {K:Act→World→Prop} {a:Act} {w:World}
 (hy:Fixed P ops I oi v a) (h:wpOp P ops Q j K (a.put oi.dst v) w) :
 wpOp P ops Q j (fun a' w'=>Fixed P ops I oi v a'∧K (a'.put oi.dst v) w') a w:=by
 obtain⟨h1,h2,h3⟩:=Oper.apart_spec hap
 have keep: ∀ (a:Act),Fixed P ops I oi v a→ ∀ u,Fixed P ops I oi v (a.put oj.dst u):=fun a hy u =>
  hy.of_same (execOp_put oi hsi a oj.dst u h3) (wanted_put oi a oj.dst u h3)
 have keepD: ∀ d,Fixed P ops I oi v { a with defers:=d::a.defers }:=fun d=>hy.of_same rfl rfl
 unfold wpOp at *;simp only[hj] at *;rw[wanted_put oj a oi.dst v h1] at h;split
 ·rename_i hw;simp only[hw,if_true] at h;rcases h with h | ⟨hasks,hlets⟩
  case inr=>exact .inr ⟨by unfold Oper.asks at *;rw[execOp_put oj hsj a oi.dst v h1] at hasks;exact hasks,hlets⟩
  refine .inl ?_;unfold Oper.wp at *;rw[execOp_put oj hsj a oi.dst v h1] at h;generalize (execOp a.eval oj).run P w=r at *
  cases r with
  | ok n w' =>
    cases n<;>simp only[Oper.upon] at h ⊢
    case value u=>exact⟨keep a hy u,by rw[←Act.put_comm a v u h2];exact h⟩
    case skip=>exact⟨keep a hy _,by rw[←Act.put_comm a v undef h2];exact h⟩
    case defer d =>
     refine⟨keep _ (keepD d) _, ?_⟩;rw[←Act.put_comm _ v undef h2, ←Act.put_defers];exact h
    case enter f args =>
     refine Calls.mono h fun e w'' he=> ?_
     cases e with
     | returned u=>exact⟨keep a hy u,by rw[←Act.put_comm a v u h2];exact he⟩
     | panicked c=>exact hQ _ _ _ he
     | outgrown=>exact he
    case row row args=>exact Rows.mono h fun u w'' he=>⟨keep a hy u,by rw[←Act.put_comm a v u h2];exact he⟩
  | halt x w' =>
    cases x<;>simp only[Oper.upon] at h ⊢
    case panic u=>exact hQ _ _ _ h
 ·rename_i hw;simp only[hw] at h;exact⟨keep a hy _,by rw[←Act.put_comm a v undef h2];exact h⟩
def vQ (P:Program) (md:Region.Mode) (ops:Array Oper) (I:World→Prop) (QN:Act→World→Prop):Nat→Array Bool→Act→World→Prop
 | 0,listed,a,w=>Region.ready md ops listed=[]∧QN a w
 | f+1,listed,a,w=>(Region.ready md ops listed=[]→QN a w) ∧
   ∀ i∈Region.ready md ops listed,wpOp P ops (xO QN) i (fun a' w'=>I w'∧vQ P md ops I QN f (listed.setIfInBounds i true) a' w') a w
variable {QN:Act→World→Prop}
def zLY: ∀ (f:Nat) (listed:Array Bool) (a:Act) (w:World),vQ P md ops I QN f listed a w→wpAny P md ops (xO QN) f listed a w
 | 0,_,_,_,h=>⟨h.1,h.2⟩
 | f+1,_,_,_,h=>⟨fun h0=>h.1 h0,fun i hi=>wpOp_mono (fun a' w' h'=>zLY f _ a' w' h'.2) (h.2 i hi)⟩
def zQo {i:Nat} {oi:Oper} {v:Value} (hi:ops[i]? =some oi) (hsel: ∀ (j:Nat) (o:Oper) cs b,ops[j]? =some o→o.op≠.select cs b) :
 ∀ (fuel:Nat) (listed:Array Bool) (a:Act) (w:World),
  (∀ j oj,ops[j]? =some oj→j≠i→listed.getD j true=false→(∀ e∈oj.after,Region.binds md e=true→e.on≠i)→oi.apart ops oj=true) →
  i∈Region.ready md ops listed→Fixed P ops I oi v a→I w →
  vQ P md ops I QN fuel (listed.setIfInBounds i true) (a.put oi.dst v) w→vQ P md ops I QN (fuel+1) listed a w:=by
 intro fuel
 induction fuel with
 | zero =>
   intro listed a w _ hr hy hI H;refine⟨fun h=>(by rw[h] at hr;cases hr),fun j hj=> ?_⟩
   by_cases hji:j=i
   ·subst hji;exact hy.wpOp hi hI ⟨hI,H⟩
   ·have:=ready_mono hj hji;rw[H.1] at this;cases this
 | succ fuel ih =>
   intro listed a w hfree hr hy hI H;refine⟨fun h=>(by rw[h] at hr;cases hr),fun j hj=> ?_⟩
   by_cases hji:j=i
   ·subst hji;exact hy.wpOp hi hI ⟨hI,H⟩
   ·have h1:=H.2 j (ready_mono hj hji);obtain⟨hjun,oj,hoj,hall⟩:=mem_ready.1 hj
    have hnot: ∀ e∈oj.after,Region.binds md e=true→e.on≠i:=fun e he hb heq=>by
     have h1:=hall e he hb;have h0:=(mem_ready.1 hr).1;rw[heq] at h1;rcases wA3 i listed.size with h' | h'
     ·simp[h'] at h0 h1;rw[h0] at h1;cases h1
     ·simp[wA4 h'] at h1
    have h2:=zJA hoj (hfree j oj hoj hji hjun hnot) (fun cs b=>hsel i oi cs b hi) (fun cs b=>hsel j oj cs b hoj) (fun _ _ _ h=>h) hy h1
    have hfree': ∀ k ok,ops[k]? =some ok→k≠i→(listed.setIfInBounds j true).getD k true=false →
     (∀ e∈ok.after,Region.binds md e=true→e.on≠i)→oi.apart ops ok=true:=fun k ok hk hki hun hno=>by
     refine hfree k ok hk hki ?_ hno
     by_cases hjk:j=k
     ·subst hjk;exact hjun
     ·rw[getD_set_ne true hjk] at hun;exact hun
    refine wpOp_mono (fun a' w' h3=>⟨h3.2.1,ih (listed.setIfInBounds j true) a' w' hfree' (ready_mono hr (Ne.symm hji)) h3.1 h3.2.1 ?_⟩) h2;rw[wA7 _ _ hji];exact h3.2.2
def qN {i:Nat} {o:Oper} {K:Act→World→Prop} {Q:Exit→Act→World→Prop} {a:Act} {w:World} (ho:ops[i]? =some o) (h:wpList P ops (xO K) [o] a w):wpOp P ops Q i K a w:=by
 refine zIP (QN:=K) ?_;unfold wpOp;simp only[ho];exact h
def oi_loud0 {k f:Nat} {o:Oper} {listed:Array Bool} {a:Act} {w:World} (hone:Region.ready md ops listed=[k]) (ho:ops[k]? =some o)
 (h:wpList P ops (xO fun a' w'=>I w'∧vQ P md ops I QN f (listed.setIfInBounds k true) a' w') [o] a w):vQ P md ops I QN (f+1) listed a w :=
 ⟨fun h0=>(by rw[h0] at hone;cases hone),fun i hi=>by
  rw[hone] at hi;have hik:i=k:=by simpa using hi
  subst hik
  exact qN ho h⟩
def oi_two0 {k l f:Nat} {o o2:Oper} {listed:Array Bool} {a:Act} {w:World} (hone:Region.ready md ops listed=[k,l]) (ho:ops[k]? =some o) (ho2:ops[l]? =some o2)
 (h:wpList P ops (xO fun a' w'=>I w'∧vQ P md ops I QN f (listed.setIfInBounds k true) a' w') [o] a w)
 (h2:wpList P ops (xO fun a' w'=>I w'∧vQ P md ops I QN f (listed.setIfInBounds l true) a' w') [o2] a w):vQ P md ops I QN (f+1) listed a w :=
 ⟨fun h0=>(by rw[h0] at hone;cases hone),fun i hi=>by
  rw[hone] at hi;have hik:i=k∨i=l:=by simpa using hi
  rcases hik with rfl | rfl
  ·exact qN ho h
  ·exact qN ho2 h2⟩
def oi_fix0 {k f:Nat} {o:Oper} {listed:Array Bool} {a:Act} {w:World} (hB:((Region.ready md ops listed).contains k&&Region.free md ops listed k&&Region.noSelect ops)=true) (ho:ops[k]? =some o)
 (hw:Region.wanted o (yielded ops a.tmps)=true) (v:Value) (h1: ∀ w,I w→(execOp a.eval o).run P w=.ok (.value v) w) (hI:I w)
 (h:vQ P md ops I QN f (listed.setIfInBounds k true) (a.put o.dst v) w):vQ P md ops I QN (f+1) listed a w:=by
 simp only[wA9] at hB;exact zQo ho (Region.noSelect_spec hB.2) f listed a w (Region.free_spec ho hB.1.2) (by simpa using hB.1.1) (.inl ⟨hw,h1⟩) hI h
section
variable {l0:List Oper}
def xM {k f:Nat} {o:Oper} {listed:Array Bool} {a:Act} {w:World} (hB:((Region.ready md l0.toArray listed).contains k&&Region.free md l0.toArray listed k&&Region.noSelect l0.toArray)=true) (ho:l0[k]? =some o)
 (hw:Region.wanted o (yielded l0.toArray a.tmps)=true) (v:Value) (h1: ∀ w,I w→(execOp a.eval o).run P w=.ok (.value v) w) (hI:I w)
 (h:vQ P md l0.toArray I QN f (listed.setIfInBounds k true) (a.put o.dst v) w):vQ P md l0.toArray I QN (f+1) listed a w:=oi_fix0 hB (by simpa using ho) hw v h1 hI h
def zJ {k f:Nat} {o:Oper} {listed:Array Bool} {a:Act} {w:World} (hB:((Region.ready md l0.toArray listed).contains k&&Region.free md l0.toArray listed k&&Region.noSelect l0.toArray)=true) (ho:l0[k]? =some o)
 (hw:Region.wanted o (yielded l0.toArray a.tmps)=true) (v:Value) (h1: ∀ w,(execOp a.eval o).run P w=.ok (.value v) w) (hI:I w)
 (h:vQ P md l0.toArray I QN f (listed.setIfInBounds k true) (a.put o.dst v) w):vQ P md l0.toArray I QN (f+1) listed a w:=xM hB ho hw v (fun w _=>h1 w) hI h
def qO {k f:Nat} {o:Oper} {listed:Array Bool} {a:Act} {w:World} (hone:Region.ready md l0.toArray listed=[k]) (ho:l0[k]? =some o)
 (h:wpList P l0.toArray (xO fun a' w'=>I w'∧vQ P md l0.toArray I QN f (listed.setIfInBounds k true) a' w') [o] a w):vQ P md l0.toArray I QN (f+1) listed a w:=oi_loud0 hone (by simpa using ho) h
def oi_two {k l f:Nat} {o o2:Oper} {listed:Array Bool} {a:Act} {w:World} (hone:Region.ready md l0.toArray listed=[k,l]) (ho:l0[k]? =some o) (ho2:l0[l]? =some o2)
 (h:wpList P l0.toArray (xO fun a' w'=>I w'∧vQ P md l0.toArray I QN f (listed.setIfInBounds k true) a' w') [o] a w)
 (h2:wpList P l0.toArray (xO fun a' w'=>I w'∧vQ P md l0.toArray I QN f (listed.setIfInBounds l true) a' w') [o2] a w):vQ P md l0.toArray I QN (f+1) listed a w:=oi_two0 hone (by simpa using ho) (by simpa using ho2) h h2
end
def jA (I:World→Prop) {id:Nat} {a:Act} {w:World} {l:List Oper} {Q:Exit→Act→World→Prop} (hm:P.follows .mixedOrders=true)
 (h:vQ P .any l.toArray I (fun a w=>Q .normal a w) l.length (Array.replicate l.length false) a w.drew):(Code.region id l.toArray true).wp P Q a w:=by
 refine Code.wp_mono (Q:=xO (fun a w=>Q .normal a w)) (fun e a w h=> ?_) (wp_region_any hm (zLY _ _ _ _ (by simpa using h)));cases e<;>first | exact h | exact (h:False).elim
def uX {listed:Array Bool} {a:Act} {w:World} (hone:Region.ready md ops listed=[]) (h:QN a w):vQ P md ops I QN 0 listed a w:=⟨hone,h⟩
end
section
variable {P:Program} {ops:Array Oper} {md:Region.Mode} {F:Nat→Bool} {I:World→Prop}
def jG (P:Program) (md:Region.Mode) (ops:Array Oper) (F:Nat→Bool) (I:World→Prop) (QN:Act→World→Prop):Nat→Array Bool→Act→World→Prop
 | 0,listed,a,w=>Region.ready md ops listed=[]∧QN a w
 | f+1,listed,a,w=>(Region.ready md ops listed=[]→QN a w) ∧
   ∀ i∈Region.ready md ops listed,wpOp P ops (xO QN) i (fun a' w'=>(F i=true→I w')∧jG P md ops F I QN f (listed.setIfInBounds i true) a' w') a w
variable {QN:Act→World→Prop}
def zJP (md:Region.Mode) (ops:Array Oper) (F:Nat→Bool) (k:Nat):Bool :=
 (List.range ops.size).all fun j=>F j ||match ops[j]? with | some oj=>oj.after.any (fun e=>Region.binds md e&&e.on ==k) | none=>true
def zRE {k:Nat} (h:zJP md ops F k=true): ∀ j oj,ops[j]? =some oj→F j=false→ ∃ e∈oj.after,Region.binds md e=true∧e.on=k:=by
 intro j oj hj hF;unfold zJP at h;rw[wB5] at h;have hjs:j<ops.size:=(wB6.1 hj).1;have:=h j (wB7.2 hjs);rw[hF,hj,wB8] at this;simp only[Array.any_eq_true] at this;obtain⟨x,hx,h2⟩:=this;simp only[wA9,beq_iff_eq] at h2;exact⟨oj.after[x],Array.getElem_mem hx,h2.1,h2.2⟩
def zLQ: ∀ (f:Nat) (listed:Array Bool) (a:Act) (w:World),jG P md ops F I QN f listed a w→wpAny P md ops (xO QN) f listed a w
 | 0,_,_,_,h=>⟨h.1,h.2⟩
 | f+1,_,_,_,h=>⟨fun h0=>h.1 h0,fun i hi=>wpOp_mono (fun a' w' h'=>zLQ f _ a' w' h'.2) (h.2 i hi)⟩
def zPr {i:Nat} {oi:Oper} {v:Value} (hF: ∀ j oj,ops[j]? =some oj→F j=false→ ∃ e∈oj.after,Region.binds md e=true∧e.on=i) (hi:ops[i]? =some oi) (hsel: ∀ (j:Nat) (o:Oper) cs b,ops[j]? =some o→o.op≠.select cs b) :
 ∀ (fuel:Nat) (listed:Array Bool) (a:Act) (w:World),
  (∀ j oj,ops[j]? =some oj→j≠i→listed.getD j true=false→(∀ e∈oj.after,Region.binds md e=true→e.on≠i)→oi.apart ops oj=true) →
  i∈Region.ready md ops listed→Fixed P ops I oi v a→I w →
  jG P md ops F I QN fuel (listed.setIfInBounds i true) (a.put oi.dst v) w→jG P md ops F I QN (fuel+1) listed a w:=by
 intro fuel
 induction fuel with
 | zero =>
   intro listed a w _ hr hy hI H;refine⟨fun h=>(by rw[h] at hr;cases hr),fun j hj=> ?_⟩
   by_cases hji:j=i
   ·subst hji;exact hy.wpOp hi hI ⟨fun _=>hI,H⟩
   ·have:=ready_mono hj hji;rw[H.1] at this;cases this
 | succ fuel ih =>
   intro listed a w hfree hr hy hI H;refine⟨fun h=>(by rw[h] at hr;cases hr),fun j hj=> ?_⟩
   by_cases hji:j=i
   ·subst hji;exact hy.wpOp hi hI ⟨fun _=>hI,H⟩
   ·have h1:=H.2 j (ready_mono hj hji);obtain⟨hjun,oj,hoj,hall⟩:=mem_ready.1 hj
    have hnot: ∀ e∈oj.after,Region.binds md e=true→e.on≠i:=fun e he hb heq=>by
     have h1:=hall e he hb;have h0:=(mem_ready.1 hr).1;rw[heq] at h1;rcases wA3 i listed.size with h' | h'
     ·simp[h'] at h0 h1;rw[h0] at h1;cases h1
     ·simp[wA4 h'] at h1
    have hFj:F j=true:=by
     cases hq:F j with
     | true=>rfl
     | false =>
       obtain⟨e,he,hb,heq⟩:=hF j oj hoj hq;exact absurd heq (hnot e he hb)
    have h2:=zJA hoj (hfree j oj hoj hji hjun hnot) (fun cs b=>hsel i oi cs b hi) (fun cs b=>hsel j oj cs b hoj) (fun _ _ _ h=>h) hy h1
    have hfree': ∀ k ok,ops[k]? =some ok→k≠i→(listed.setIfInBounds j true).getD k true=false →
     (∀ e∈ok.after,Region.binds md e=true→e.on≠i)→oi.apart ops ok=true:=fun k ok hk hki hun hno=>by
     refine hfree k ok hk hki ?_ hno
     by_cases hjk:j=k
     ·subst hjk;exact hjun
     ·rw[getD_set_ne true hjk] at hun;exact hun
    refine wpOp_mono (fun a' w' h3=>⟨h3.2.1,ih (listed.setIfInBounds j true) a' w' hfree' (ready_mono hr (Ne.symm hji)) h3.1 (h3.2.1 hFj) ?_⟩) h2;rw[wA7 _ _ hji];exact h3.2.2
def of_loud0 {k f:Nat} {o:Oper} {listed:Array Bool} {a:Act} {w:World} (hone:Region.ready md ops listed=[k]) (ho:ops[k]? =some o)
 (h:wpList P ops (xO fun a' w'=>(F k=true→I w')∧jG P md ops F I QN f (listed.setIfInBounds k true) a' w') [o] a w):jG P md ops F I QN (f+1) listed a w :=
 ⟨fun h0=>(by rw[h0] at hone;cases hone),fun i hi=>by
  rw[hone] at hi;have hik:i=k:=by simpa using hi
  subst hik
  exact qN ho h⟩
def of_two0 {k l f:Nat} {o o2:Oper} {listed:Array Bool} {a:Act} {w:World} (hone:Region.ready md ops listed=[k,l]) (ho:ops[k]? =some o) (ho2:ops[l]? =some o2)
 (h:wpList P ops (xO fun a' w'=>(F k=true→I w')∧jG P md ops F I QN f (listed.setIfInBounds k true) a' w') [o] a w)
 (h2:wpList P ops (xO fun a' w'=>(F l=true→I w')∧jG P md ops F I QN f (listed.setIfInBounds l true) a' w') [o2] a w):jG P md ops F I QN (f+1) listed a w :=
 ⟨fun h0=>(by rw[h0] at hone;cases hone),fun i hi=>by
  rw[hone] at hi;have hik:i=k∨i=l:=by simpa using hi
  rcases hik with rfl | rfl
  ·exact qN ho h
  ·exact qN ho2 h2⟩
def of_fix0 {k f:Nat} {o:Oper} {listed:Array Bool} {a:Act} {w:World} (hB:((Region.ready md ops listed).contains k&&Region.free md ops listed k&&Region.noSelect ops&&zJP md ops F k)=true) (ho:ops[k]? =some o)
 (hw:Region.wanted o (yielded ops a.tmps)=true) (v:Value) (h1: ∀ w,I w→(execOp a.eval o).run P w=.ok (.value v) w) (hI:I w)
 (h:jG P md ops F I QN f (listed.setIfInBounds k true) (a.put o.dst v) w):jG P md ops F I QN (f+1) listed a w:=by
 simp only[wA9] at hB;exact zPr (zRE hB.2) ho (Region.noSelect_spec hB.1.2) f listed a w (Region.free_spec ho hB.1.1.2) (by simpa using hB.1.1.1) (.inl ⟨hw,h1⟩) hI h
section
variable {l0:List Oper}
def of_fix {k f:Nat} {o:Oper} {listed:Array Bool} {a:Act} {w:World} (hB:((Region.ready md l0.toArray listed).contains k&&Region.free md l0.toArray listed k&&Region.noSelect l0.toArray&&zJP md l0.toArray F k)=true) (ho:l0[k]? =some o)
 (hw:Region.wanted o (yielded l0.toArray a.tmps)=true) (v:Value) (h1: ∀ w,I w→(execOp a.eval o).run P w=.ok (.value v) w) (hI:I w)
 (h:jG P md l0.toArray F I QN f (listed.setIfInBounds k true) (a.put o.dst v) w):jG P md l0.toArray F I QN (f+1) listed a w:=of_fix0 hB (by simpa using ho) hw v h1 hI h
def of_run {k f:Nat} {o:Oper} {listed:Array Bool} {a:Act} {w:World} (hB:((Region.ready md l0.toArray listed).contains k&&Region.free md l0.toArray listed k&&Region.noSelect l0.toArray&&zJP md l0.toArray F k)=true) (ho:l0[k]? =some o)
 (hw:Region.wanted o (yielded l0.toArray a.tmps)=true) (v:Value) (h1: ∀ w,(execOp a.eval o).run P w=.ok (.value v) w) (hI:I w)
 (h:jG P md l0.toArray F I QN f (listed.setIfInBounds k true) (a.put o.dst v) w):jG P md l0.toArray F I QN (f+1) listed a w:=of_fix hB ho hw v (fun w _=>h1 w) hI h
def xR {k f:Nat} {o:Oper} {listed:Array Bool} {a:Act} {w:World} (hone:Region.ready md l0.toArray listed=[k]) (ho:l0[k]? =some o)
 (h:wpList P l0.toArray (xO fun a' w'=>(F k=true→I w')∧jG P md l0.toArray F I QN f (listed.setIfInBounds k true) a' w') [o] a w):jG P md l0.toArray F I QN (f+1) listed a w:=of_loud0 hone (by simpa using ho) h
def zJM {k l f:Nat} {o o2:Oper} {listed:Array Bool} {a:Act} {w:World} (hone:Region.ready md l0.toArray listed=[k,l]) (ho:l0[k]? =some o) (ho2:l0[l]? =some o2)
 (h:wpList P l0.toArray (xO fun a' w'=>(F k=true→I w')∧jG P md l0.toArray F I QN f (listed.setIfInBounds k true) a' w') [o] a w)
 (h2:wpList P l0.toArray (xO fun a' w'=>(F l=true→I w')∧jG P md l0.toArray F I QN f (listed.setIfInBounds l true) a' w') [o2] a w):jG P md l0.toArray F I QN (f+1) listed a w:=of_two0 hone (by simpa using ho) (by simpa using ho2) h h2
end
def jB (F:Nat→Bool) (I:World→Prop) {id:Nat} {a:Act} {w:World} {l:List Oper} {Q:Exit→Act→World→Prop} (hm:P.follows .mixedOrders=true)
 (h:jG P .any l.toArray F I (fun a w=>Q .normal a w) l.length (Array.replicate l.length false) a w.drew):(Code.region id l.toArray true).wp P Q a w:=by
 refine Code.wp_mono (Q:=xO (fun a w=>Q .normal a w)) (fun e a w h=> ?_) (wp_region_any hm (zLQ _ _ _ _ (by simpa using h)));cases e<;>first | exact h | exact (h:False).elim
def vP {listed:Array Bool} {a:Act} {w:World} (hone:Region.ready md ops listed=[]) (h:QN a w):jG P md ops F I QN 0 listed a w:=⟨hone,h⟩
end
section
variable {P:Program} {ops:Array Oper} {md:Region.Mode} {F:Nat→Bool} {I:World→Prop} {QN:Act→World→Prop}
def zJI {J:World→Prop} {i:Nat} {oi:Oper} {v:Value} (Wt:Nat→Bool) (hWt: ∀ j oj,ops[j]? =some oj→Wt j=true→ ∃ e∈oj.after,Region.binds md e=true∧(e.on=i∨Wt e.on=true)) (hi:ops[i]? =some oi) (hsel: ∀ (j:Nat) (o:Oper) cs b,ops[j]? =some o→o.op≠.select cs b) :
 ∀ (fuel:Nat) (listed:Array Bool) (a:Act) (w:World),
  (∀ j,Wt j=true→listed.getD j true=false) →
  (∀ w,J w→F i=true→I w)→(∀ w,(∀ j oj,ops[j]? =some oj→listed.getD j true=false→j≠i→Wt j=true∨ ∀ w',(F j=true→I w')→J w→J w')) →
  (∀ j oj,ops[j]? =some oj→j≠i→listed.getD j true=false→(∀ e∈oj.after,Region.binds md e=true→e.on≠i)→oi.apart ops oj=true) →
  i∈Region.ready md ops listed→Fixed P ops J oi v a→J w →
  jG P md ops F I QN fuel (listed.setIfInBounds i true) (a.put oi.dst v) w→jG P md ops F I QN (fuel+1) listed a w:=by
 intro fuel
 induction fuel with
 | zero =>
   intro listed a w hL hJI _ _ hr hy hI H;refine⟨fun h=>(by rw[h] at hr;cases hr),fun j hj=> ?_⟩
   by_cases hji:j=i
   ·subst hji;exact hy.wpOp hi hI ⟨hJI w hI,H⟩
   ·have:=ready_mono hj hji;rw[H.1] at this;cases this
 | succ fuel ih =>
   intro listed a w hL hJI hK hfree hr hy hI H;refine⟨fun h=>(by rw[h] at hr;cases hr),fun j hj=> ?_⟩
   by_cases hji:j=i
   ·subst hji;exact hy.wpOp hi hI ⟨hJI w hI,H⟩
   ·have h1:=H.2 j (ready_mono hj hji);obtain⟨hjun,oj,hoj,hall⟩:=mem_ready.1 hj
    have hnot: ∀ e∈oj.after,Region.binds md e=true→e.on≠i:=fun e he hb heq=>by
     have h1:=hall e he hb;have h0:=(mem_ready.1 hr).1;rw[heq] at h1;rcases wA3 i listed.size with h' | h'
     ·simp[h'] at h0 h1;rw[h0] at h1;cases h1
     ·simp[wA4 h'] at h1
    have hjW:Wt j≠true:=fun hW=>by
     obtain⟨e,he,hb,h⟩:=hWt j oj hoj hW;rcases h with heq | h
     ·exact hnot e he hb heq
     ·have h1:=hall e he hb;have h2:=hL e.on h;rcases wA3 e.on listed.size with h' | h'
      ·simp[h'] at h1 h2;rw[h2] at h1;cases h1
      ·simp[wA4 h'] at h2
    have hstep: ∀ w',(F j=true→I w')→J w→J w':=by
     rcases hK w j oj hoj hjun hji with h | h
     ·exact absurd h hjW
     ·exact h
    have h2:=zJA hoj (hfree j oj hoj hji hjun hnot) (fun cs b=>hsel i oi cs b hi) (fun cs b=>hsel j oj cs b hoj) (fun _ _ _ h=>h) hy h1
    have hun': ∀ k,(listed.setIfInBounds j true).getD k true=false→listed.getD k true=false:=fun k hun=>by
     by_cases hjk:j=k
     ·subst hjk;exact hjun
     ·rwa [getD_set_ne true hjk] at hun
    have hfree': ∀ k ok,ops[k]? =some ok→k≠i→(listed.setIfInBounds j true).getD k true=false →
     (∀ e∈ok.after,Region.binds md e=true→e.on≠i)→oi.apart ops ok=true:=fun k ok hk hki hun hno=>hfree k ok hk hki (hun' k hun) hno
    refine wpOp_mono (fun a' w' h3=>⟨h3.2.1,ih (listed.setIfInBounds j true) a' w' (fun k hk=>by
     have hkj:j≠k:=fun h=>hjW (h ▸ hk)
     rw[getD_set_ne true hkj];exact hL k hk) hJI (fun w2 k ok hk hun hki=>hK w2 k ok hk (hun' k hun) hki) hfree' (ready_mono hr (Ne.symm hji)) h3.1 (hstep w' h3.2.1 hI) ?_⟩) h2
    rw[wA7 _ _ hji];exact h3.2.2
def zJf (md:Region.Mode) (ops:Array Oper) (k:Nat):List Nat :=
 (List.range ops.size).foldl (fun L j=>match ops[j]? with | some oj=>if oj.after.any (fun e=>Region.binds md e&&(e.on ==k ||L.contains e.on)) then j::L else L | none=>L) []
def zJU (md:Region.Mode) (ops:Array Oper) (listed:Array Bool) (k:Nat) (L:List Nat):Bool :=
 L.all fun j=> !(listed.getD j true)&&match ops[j]? with | some oj=>oj.after.any (fun e=>Region.binds md e&&(e.on ==k ||L.contains e.on)) | none=>false
def zME (md:Region.Mode) (ops:Array Oper) (F:Nat→Bool) (listed:Array Bool) (k:Nat):Bool :=
 zJU md ops listed k (zJf md ops k)&&(List.range ops.size).all fun j=>F j ||listed.getD j true ||j ==k ||(zJf md ops k).contains j
def zIq {listed:Array Bool} {k:Nat} {L:List Nat} (h:zJU md ops listed k L=true):(∀ j oj,ops[j]? =some oj→L.contains j=true→ ∃ e∈oj.after,Region.binds md e=true∧(e.on=k∨L.contains e.on=true))∧ ∀ j,L.contains j=true→listed.getD j true=false:=by
 unfold zJU at h;rw[wB5] at h;refine⟨fun j oj hj hc=> ?_,fun j hc=> ?_⟩
 ·have:=h j (by simpa using hc);rw[hj] at this;simp only[wA9,Array.any_eq_true] at this;obtain⟨-,x,hx,h2⟩:=this;simp only[wB9,beq_iff_eq] at h2;exact⟨oj.after[x],Array.getElem_mem hx,h2.1,h2.2⟩
 ·have:=h j (by simpa using hc);rw[wA9] at this;simpa using this.1
def zRc {listed:Array Bool} {k:Nat} (h:zME md ops F listed k=true): ∀ j oj,ops[j]? =some oj→listed.getD j true=false→j≠k→F j=false→(zJf md ops k).contains j=true:=by
 intro j oj hj hl hjk hF;unfold zME at h;rw[wA9,wB5] at h;have hjs:j<ops.size:=(wB6.1 hj).1;have:=h.2 j (wB7.2 hjs);rw[hF,hl,wB8,wB8,show (j ==k)=false by simpa using hjk,wB8] at this;exact this
section
variable {l0:List Oper}
def jR {k f:Nat} {o:Oper} {listed:Array Bool} {a:Act} {w:World} (hB:((Region.ready md l0.toArray listed).contains k&&Region.free md l0.toArray listed k&&Region.noSelect l0.toArray&&zME md l0.toArray F listed k)=true) (ho:l0[k]? =some o)
 (hw:Region.wanted o (yielded l0.toArray a.tmps)=true) (v:Value) (h1: ∀ w,I w→(execOp a.eval o).run P w=.ok (.value v) w) (hI:I w)
 (h:jG P md l0.toArray F I QN f (listed.setIfInBounds k true) (a.put o.dst v) w):jG P md l0.toArray F I QN (f+1) listed a w:=by
 simp only[wA9] at hB
 have hR:zJU md l0.toArray listed k (zJf md l0.toArray k)=true:=by
  have:=hB.2;unfold zME at this;rw[wA9] at this;exact this.1
 have hK: ∀ w j oj,l0.toArray[j]? =some oj→listed.getD j true=false→j≠k→(zJf md l0.toArray k).contains j=true∨ ∀ w',(F j=true→I w')→I w→I w':=fun w j oj hj hl hjk=>by
  cases hF:F j with
  | true=>exact .inr fun w' h _=>h rfl
  | false=>exact .inl (zRc hB.2 j oj hj hl hjk hF)
 have ho':l0.toArray[k]? =some o:=by simpa using ho
 exact zJI (J:=I) (fun j=>(zJf md l0.toArray k).contains j) (zIq hR).1 ho' (Region.noSelect_spec hB.1.2) f listed a w (zIq hR).2 (fun _ h _=>h) hK (Region.free_spec ho' hB.1.1.2) (by simpa using hB.1.1.1) (.inl ⟨hw,h1⟩) hI h
def zG {k f:Nat} {o:Oper} {listed:Array Bool} {a:Act} {w:World} (hB:((Region.ready md l0.toArray listed).contains k&&Region.free md l0.toArray listed k&&Region.noSelect l0.toArray&& !F k)=true) (ho:l0[k]? =some o)
 (hw:Region.wanted o (yielded l0.toArray a.tmps)=true) (v:Value) (h1: ∀ w,(execOp a.eval o).run P w=.ok (.value v) w)
 (h:jG P md l0.toArray F I QN f (listed.setIfInBounds k true) (a.put o.dst v) w):jG P md l0.toArray F I QN (f+1) listed a w:=by
 simp only[wA9] at hB;have hF:F k=false:=by simpa using hB.2
 have ho':l0.toArray[k]? =some o:=by simpa using ho
 exact zJI (J:=fun _=>True) (fun _=>false) (fun _ _ _ h=>by cases h) ho' (Region.noSelect_spec hB.1.2) f listed a w (fun _ h=>by cases h) (fun _ _ h=>by rw[hF] at h;cases h) (fun _ _ _ _ _ _=>.inr fun _ _ _=>trivial) (Region.free_spec ho' hB.1.1.2) (by simpa using hB.1.1.1) (.inl ⟨hw,fun w _=>h1 w⟩) trivial h
end
end
def ints (zs:List Int):List Value:=zs.map (Value.int .i64)
def zBn (zs:List Int) (k:Nat) (u:Value) (h:(ints zs)[k]? =some u): ∃ hk:k<zs.length,u=.int .i64 zs[k]:=by
 unfold ints at h;rw[wC0] at h;obtain⟨z,hz,rfl⟩:=wC1.1 h;obtain⟨hk,e⟩:=wC2.1 hz;exact⟨hk,by rw[e]⟩
def yA (zs:List Int):(ints zs).length=zs.length:=by simp[ints]
def zHp {α:Type} (xs ys:List α) (k:Nat) (h1:k<xs.length) (h2:k<ys.length) :
 xs.take (k+1)=ys.take (k+1)↔xs.take k=ys.take k∧xs[k]=ys[k]:=by
 rw[wC3 h1,wC3 h2];constructor
 ·intro h;have:=List.append_inj h (by simp;omega);exact⟨this.1,by simpa using this.2⟩
 ·rintro⟨a,b⟩;rw[a,b]
def eqInt_any (u v:Value) (xs ys:List Int) (w:World) (hu:SL w 1 u xs.length (ints xs)) (hv:SL w 1 v ys.length (ints ys)) :
 Calls Tryz.prog 26 #[u,v] w fun e w'=>e=.returned (.bool (decide (xs=ys)))∧w=w':=by
 have hu':=hu;have hv':=hv;obtain⟨A,c,rfl,hc1,hc2, -, -⟩:=hu';obtain⟨B,d,rfl,hd1,hd2, -, -⟩:=hv'
 by_cases hl:(xs.length:Int) !=ys.length
 ·go_enter Tryz.func26,Tryz.ntmps26;go_wp2
  go_ret;refine⟨?_,rfl⟩;have:xs≠ys:=by rintro rfl;simp at hl
  simp[this]
 ·have h9:(xs.length:Int)=ys.length:=by simpa using hl
  have hl':xs.length=ys.length:=by omega
  clear h9;have HL:=hl';have hn:((xs.length:Int) !=ys.length)=false:=by simpa using hl
  have HE:Hid (xs.length=ys.length):=HL;clear hl HL;go_enter Tryz.func26,Tryz.ntmps26;clear hl';go_wp2
  go_loop [14] (fun i=> ∃ k:Nat,k≤xs.length∧i=.int .i64 k∧xs.take k=ys.take k) (fun i=>xs.length-(intOf i).toNat)
  case atStart=>exact⟨0,by omega,rfl,by simp⟩
  case round =>
   obtain⟨k,hk,rfl,ht⟩:=hrel;have HT:Hid (xs.take k=ys.take k):=ht;clear ht
   by_cases hlt:k<xs.length
   ·have hlt2:k<ys.length:=by have:=HE.out;omega
    obtain⟨ad,u,rfl, -,hx,hcell⟩:=hu.at1 hlt;obtain⟨_,rfl⟩:=zBn _ _ _ hx;obtain⟨bd,u,rfl, -,hy,hcell2⟩:=hv.at1 hlt2;obtain⟨_,rfl⟩:=zBn _ _ _ hy;clear hx hy
    by_cases hq:xs[k]=ys[k]
    ·have hq':((xs[k]:Int) !=ys[k])=false:=by simpa using hq
     have HQ:Hid (xs[k]=ys[k]):=hq;clear hq;go_wp2
     go_round
     case rel=>exact⟨k+1,by omega,by go_num,(zHp _ _ _ hlt hlt2).2 ⟨HT.out,HQ.out⟩⟩
     case measure=>simp[intOf];omega
    ·have hq':((xs[k]:Int) !=ys[k])=true:=by simpa using hq
     go_wp2
     go_ret;refine⟨?_,rfl⟩;have:xs≠ys:=by rintro rfl;exact hq rfl
     simp[this]
   ·go_wp2
    go_ret;refine⟨?_,rfl⟩
    have e:xs=ys:=by
     have:=HT.out
     rwa [wC4 (by omega),wC4 (by have:=HE.out;omega)] at this
    simp[e]
end Go.Proofs.YtkggcjdlpendfaaGreatDoor
