import Derived.Test.YtkggcjdlpendfaaGreatDoorProg
import Derived.WalkKit
import Derived.Deep.AppendLies
import Derived.Deep.Draws
import Derived.WalkSpells
import Derived.WalkLawsBesides
import Derived.Deep.QuietTactic
import Derived.StillTail
import Derived.Deep.MidRow
set_option linter.all false
set_option maxRecDepth 20000
set_option maxHeartbeats 8000000
namespace Go.Proofs.YtkggcjdlpendfaaGreatDoor
open Go.RowKit Tryz
def gS (k : Tmp) {P ops Q b c d e f r a w} (h : wpList P ops Q (⟨some k, b, c, d, e, f⟩ :: r) a w) : wpList P ops Q (⟨some k, b, c, d, e, f⟩ :: r) a w := h
def gT (x y : Tmp) {P ops Q t b c d e r a w} (h : wpList P ops Q (⟨none, .store t (.tmp x) (.tmp y), b, c, d, e⟩ :: r) a w) : wpList P ops Q (⟨none, .store t (.tmp x) (.tmp y), b, c, d, e⟩ :: r) a w := h
def sA {α : Type} {l : List α} {i : Nat} {a : α} : l.toArray.setIfInBounds i a = (l.set i a).toArray := List.setIfInBounds_toArray ..
def sB {α : Type} {a b : α} {l : List α} {n : Nat} : (a :: l).set (n + 1) b = a :: l.set n b := List.set_cons_succ
def sC {α : Type} {a b : α} {l : List α} : (a :: l).set 0 b = b :: l := List.set_cons_zero
def sP {l : List Value} {d : List Deferred} {k : Tmp} {v : Value} : (Act.mk l.toArray d).put (some k) v = Act.mk (l.set k v).toArray d := by simp [Act.put]
abbrev wA0 := @Nat.add_assoc
abbrev wA1 := @Nat.lt_of_lt_of_le
abbrev wA2 := @List.getElem?_eq_getElem
abbrev wA3 := @Nat.lt_or_ge
abbrev wA4 := @Array.getElem?_eq_none
abbrev wA5 := @Nat.le_refl
abbrev wA6 := @Bool.false_eq_true
abbrev wA7 := @Array.setIfInBounds_comm
abbrev wA8 := @List.length_cons
abbrev wA9 := @Bool.and_eq_true
abbrev wB0 := @Nat.add_comm
abbrev wB1 := @Option.isSome_iff_exists
abbrev wB2 := @Nat.zero_add
abbrev wB3 := @decide_eq_true_eq
abbrev wB4 := @List.getElem?_drop
abbrev wB5 := @Int.natCast_mul
abbrev wB6 := @Int.natCast_add
abbrev wB7 := @List.getElem?_eq_some_iff
abbrev wB8 := @List.getElem?_take_of_lt
abbrev wB9 := @List.getElem?_map
abbrev wC0 := @Option.map_eq_some_iff
abbrev wC1 := @List.take_succ_eq_append_getElem
abbrev wC2 := @List.take_of_length_le
abbrev wC3 := @Int.mul_le_mul_of_nonneg_right
abbrev wC4 := @Int.mul_le_mul_of_nonneg_left
abbrev wC5 := @Int.add_mul
abbrev wC6 := @Bool.not_eq_true
abbrev wC7 := @List.getElem_mem
abbrev wC8 := @Bool.eq_iff_iff
abbrev wC9 := @Bool.not_eq_true'
abbrev wD0 := @Bool.or_eq_true
abbrev wD1 := @Array.all_eq_true_iff_forall_mem
abbrev wD2 := @List.mem_map
abbrev wD3 := @List.mem_append
abbrev wD4 := @List.findIdx?_eq_some_iff_getElem
abbrev wD5 := @List.mem_take_iff_getElem
abbrev wD6 := @List.findIdx?_eq_none_iff
abbrev wD7 := @Int.toNat_natCast
abbrev wD8 := @Nat.mul_one
abbrev wD9 := @Array.getElem?_eq_getElem
abbrev wE0 := @Nat.pow_succ
abbrev wE1 := @List.cons_append
abbrev wE2 := @List.length_append
abbrev wE3 := @Nat.add_mul
abbrev wE4 := @Nat.mul_assoc
abbrev wE5 := @Nat.mul_comm
abbrev wE6 := @Nat.mod_eq_of_lt
abbrev wE7 := @List.take_append_drop
abbrev wE8 := @List.length_drop
abbrev wE9 := @Nat.two_pow_pos
abbrev wF0 := @Nat.div_eq_of_lt
abbrev wF1 := @List.length_take
abbrev wF2 := @List.mem_range
abbrev wF3 := @Nat.pow_le_pow_right
abbrev wF4 := @List.drop_append_of_le_length
abbrev wF5 := @List.map_append
abbrev wF6 := @List.map_map
abbrev wF7 := @List.map_congr_left
abbrev wF8 := @List.take_append_of_le_length
abbrev wF9 := @Nat.mul_add
abbrev wG0 := @List.drop_drop
abbrev wG1 := @List.replicate_succ
abbrev wG2 := @List.flatMap_cons
abbrev wG3 := @List.drop_of_length_le
abbrev wG4 := @List.nil_append
abbrev wG5 := @List.range_succ
abbrev wG6 := @List.map_cons
abbrev wG7 := @List.map_nil
abbrev wG8 := @List.flatMap_nil
abbrev wG9 := @List.append_nil
abbrev wH0 := @List.drop_eq_getElem_cons
abbrev wH1 := @List.take_succ_cons
abbrev wH2 := @List.take_zero
abbrev wH3 := @List.getElem?_toArray
abbrev wH4 := @List.getElem?_append_left
abbrev wH5 := @List.sum_append
abbrev wH6 := @List.mem_of_mem_take
abbrev wH7 := @List.getD_eq_getElem?_getD
abbrev wH8 := @Nat.add_sub_cancel
abbrev wU4 := @Option.some.inj
abbrev wH9 := @List.getElem?_append_right
abbrev wI0 := @Nat.eq_zero_or_pos
abbrev wI1 := @List.eq_nil_of_length_eq_zero
abbrev wI2 := @List.map_toArray
abbrev wI3 := @List.all_eq_true
abbrev wI4 := @List.nodup_append
abbrev wI5 := @List.zipWith_cons_cons
abbrev wI6 := @List.mem_append_right
abbrev wI7 := @List.append_assoc
abbrev wI9 := @Array.getElem?_eq_some_iff
abbrev wJ1 := @Nat.le_trans
abbrev wN2 := @List.zipIdx_cons
abbrev wN3 := @Array.toList_setIfInBounds
abbrev wN4 := @List.take_add_one
abbrev wN5 := @Nat.one_mul
abbrev wJ2 := @Nat.mul_le_mul_left
abbrev wJ3 := @Int.emod_eq_of_lt
abbrev wJ4 := @Nat.zero_le
abbrev wJ5 := @Nat.and_two_pow_sub_one_eq_mod
abbrev wJ6 := @List.getElem?_cons_zero
abbrev wJ7 := @List.getElem?_cons_succ
abbrev wJ8 := @List.setIfInBounds_toArray
abbrev wJ9 := @List.set_cons_zero
abbrev wK0 := @List.set_cons_succ
abbrev wK1 := @List.drop_succ_cons
abbrev wK2 := @List.drop_zero
abbrev wK3 := @List.mem_of_find?_eq_some
abbrev wK4 := @List.mem_iff_getElem
abbrev wK5 := @List.getElem_zipWith
abbrev wK6 := @List.length_zipWith
abbrev wK7 := @List.find?_eq_some_iff_getElem
abbrev wK8 := @List.find?_eq_none
abbrev wK9 := @List.find?_append
abbrev wL0 := @List.find?_eq_some_iff_append
abbrev wL1 := @List.pairwise_append
abbrev wL2 := @List.pairwise_iff_getElem
abbrev wL3 := @List.getElem_of_mem
abbrev wL4 := @List.set_append_right
abbrev wL5 := @Nat.sub_self
abbrev wL6 := @List.getElem?_set
abbrev wL7 := @List.ext_getElem
abbrev wL8 := @List.getElem_map
abbrev wL9 := @List.getElem_range
abbrev wM0 := @List.mem_or_eq_of_mem_set
abbrev wM1 := @List.getElem?_set_ne
abbrev wM2 := @List.getElem_set
abbrev wM3 := @List.getElem?_replicate
abbrev wM4 := @List.mem_replicate
abbrev wM5 := @List.mem_singleton
abbrev wM6 := @List.range'_succ
abbrev wM7 := @List.mem_of_mem_drop
abbrev wM8 := @List.mem_of_getElem?
abbrev wM9 := @List.length_replicate
abbrev wN0 := @Option.getD_some
abbrev wN6 := @Nat.mod_lt
abbrev wN7 := @Int.le_refl
abbrev wN8 := @List.zipWith_append
abbrev wN9 := @List.drop_eq_nil_of_le
abbrev wO0 := @List.map_take
abbrev wO1 := @List.map_drop
abbrev wO2 := @List.getElem?_eq_none
abbrev wO5 := @Int.mul_nonneg
abbrev wO6 := @Nat.mul_le_mul
abbrev wO7 := @List.getElem?_range
abbrev wO8 := @Nat.min_le_right
abbrev wO9 := @Nat.mul_le_mul_right
abbrev wP0 := @List.take_length
abbrev wP1 := @List.flatMap_append
abbrev wP2 := @List.sum_cons
abbrev wI8 := @List.mem_cons
abbrev wP3 := @Nat.div_add_mod
abbrev wP4 := @Nat.add_mul_mod_self_right
abbrev wP5 := @Nat.div_lt_of_lt_mul
abbrev wP6 := @Nat.add_sub_cancel_left
abbrev wJ0 := @List.length_nil
abbrev wP7 := @List.length_eq_zero_iff
abbrev wP8 := @List.set_append_left
abbrev wP9 := @List.all_toArray
abbrev wQ0 := @List.getElem?_zipWith
abbrev wQ1 := @Int.mul_comm
abbrev wQ2 := @Int.mul_add
abbrev wQ3 := @Int.mul_assoc
abbrev wQ4 := @Int.mul_left_comm
abbrev wQ5 := @Int.le_trans
abbrev wQ6 := @Nat.le_of_not_lt
abbrev wQ7 := @List.pairwise_cons
abbrev wQ8 := @Nat.min_eq_left
abbrev wQ9 := @List.length_map
abbrev wU5 := @Function.comp_def
abbrev wR0 := @Nat.pos_of_ne_zero
abbrev wR1 := @Nat.min_eq_right
abbrev wR2 := @List.append_of_mem
abbrev wR3 := @List.count_append
abbrev wR4 := @List.count_pos_iff
abbrev wR5 := @List.pairwise_map
abbrev wR6 := @List.length_set
abbrev wR7 := @List.nodup_iff_pairwise_ne
abbrev wR8 := @List.not_mem_nil
abbrev wR9 := @List.mem_cons_of_mem
abbrev wS0 := @Nat.zero_mul
abbrev wS1 := @Int.toNat_of_nonneg
abbrev wS2 := @decide_eq_true
abbrev wS3 := @decide_eq_false
abbrev wS4 := @List.getElem_append_left
abbrev wS5 := @Nat.succ_mul
abbrev wS6 := @List.mem_flatMap
abbrev wS7 := @List.replicate_zero
abbrev wS8 := @List.fst_mem_of_mem_zipIdx
abbrev wS9 := @Array.getD_eq_getD_getElem?
abbrev wT0 := @Int.shiftRight_eq_div_pow
abbrev wT1 := @Int.fdiv_eq_ediv_of_nonneg
abbrev wT2 := @List.getElem?_append
abbrev wT3 := @List.mem_map_of_mem
abbrev wT4 := @Array.append_empty
abbrev wT5 := @List.append_toArray
abbrev wT6 := @Array.mem_of_getElem?
abbrev wT7 := @List.mem_append_left
abbrev wT8 := @List.mem_cons_self
abbrev wT9 := @List.range_eq_range'
abbrev wU0 := @List.foldr_cons
abbrev wU1 := @List.length_range
abbrev wU2 := @Int.eq_ofNat_of_zero_le
abbrev wU3 := @Int.emod_lt_of_pos
def yH (a:Addr) (n:Nat):(a.add n).block=a.block:=by unfold Addr.add;split<;>rfl
def zHz (a:Addr) (i j:Nat):(a.add i).add j=a.add (i+j):=by
 unfold Addr.add
 by_cases hi:i=0<;>by_cases hj:j=0<;>simp[hi,hj,wA0]
def SL (w:World) (size:Nat) (v:Value) (n:Nat) (xs:List Value):Prop :=
 ∃A c,v=.slice A n c∧n≤c∧c≤9223372036854775807∧xs.length=n*size∧(0<n→∃ad,A=some ad∧ad.block<w.heap.size∧∀j u,xs[j]? =some u→w.cell? (ad.add j)=some u)
def zA {p:Prop} (h:p):Hid p:=h
abbrev Ext (w w':World):Prop:=Below w.heap.size w w'
def Ext.refl (w:World):Ext w w:=Below.refl _ _
def Ext.trans {a b c:World} (h:Ext a b) (k:Ext b c):Ext a c:=Below.trans h (Below.mono k h.size)
def Ext.alloc {a w:World} (h:Ext a w) (o:Obj):Ext a (w.alloc o):=Below.alloc h h.size o
def Ext.drew {a w:World} (h:Ext a w):Ext a w.drew:=Below.drew h
def zLD {B:Nat} {a w:World} (h:Below B a w) (n:Nat):Below B a (w.drewN n):=⟨h.os,h.tape,h.output,h.size,h.block⟩
def SL.ext {w w':World} {size n:Nat} {v:Value} {xs:List Value} (h:SL w size v n xs) (hb:Ext w w'):SL w' size v n xs:=by obtain⟨A,c,rfl,h1,h1',h2,h3⟩:=h;refine⟨A,c,rfl,h1,h1',h2,λhn=> ?_⟩;obtain⟨ad,e,hlt,hc⟩:=h3 hn;exact⟨ad,e,wA1 hlt hb.size,λj u hu=>(hb.cell (by rw[yH];exact hlt)).trans (hc j u hu)⟩
def SL.nil (w:World) (size:Nat):SL w size (.slice none 0 0) 0 []:=⟨none,0,rfl,by omega,by omega,by simp,λh=>absurd h (by omega)⟩
def SL.at1 {w:World} {A:Option Addr} {n c:Nat} {xs:List Value} {k:Nat} (h:SL w 1 (.slice A n c) n xs) (hk:k<n) :
 ∃ad u,A=some ad∧ad.block<w.heap.size∧xs[k]? =some u∧w.cell? (ad.add k)=some u:=by
 obtain⟨A',c',e,_,_,h2,h3⟩:=h;injection e with e1 e2 e3
 subst e1;obtain⟨ad,ea,hb,hc⟩:=h3 (by omega);have hl:k<xs.length:=by omega
 exact⟨ad,xs[k],ea,hb,wA2 hl,hc k _ (wA2 hl)⟩
def Blk (w:World) (g:Nat) (t:TypeId) (cs:Array Value):Prop:=w.heap[g]? =some (.cells cs t (0,0))
section
variable {w w':World} {g:Nat} {t:TypeId} {cs:Array Value}
def Blk.lt (h:Blk w g t cs):g<w.heap.size:=by
 rcases wA3 g w.heap.size with hlt | hge
 ·exact hlt
 unfold Blk at h;rw[wA4 hge] at h;cases h
def Blk.cell (h:Blk w g t cs) (i:Nat):w.cell? ⟨g,i,none⟩=cs[i]? :=cell_of_row w g i cs t (0,0) h
def Blk.frozen (h:Blk w g t cs) (i:Nat):w.frozen? ⟨g,i,none⟩=false:=by unfold Blk at h;simp[World.frozen?,h]
def Blk.new (w:World) (t:TypeId) (cs:Array Value):Blk (w.alloc (.cells cs t)) w.heap.size t cs:=heap_alloc_new w _
def Blk.drew (h:Blk w g t cs):Blk w.drew g t cs:=h
def Blk.alloc (h:Blk w g t cs) (o:Obj):Blk (w.alloc o) g t cs:=(Below.heap_alloc w o g h.lt).trans h
def Blk.set_ (h:Blk w g t cs) (i:Nat) (u:Value):Blk (w.setCell ⟨g,i,none⟩ u) g t (cs.setIfInBounds i u):=by unfold Blk at h ⊢;simp[World.setCell,Array.getElem?_modify,h]
def Blk.far (h:Blk w g t cs) {p:Addr} (hp:g≠p.block) (u:Value):Blk (w.setCell p u) g t cs:=(Below.heap_setCell w p u g hp).trans h
def Blk.below {B:Nat} (h:Blk w g t cs) (hb:Below B w w') (hg:g<B):Blk w' g t cs:=(hb.block g hg).trans h
def Blk.ext (h:Blk w g t cs) (hb:Ext w w'):Blk w' g t cs:=h.below hb h.lt
def Blk.grown {row:Option Nat} (h:Blk w g t cs) (hb:w.grownBy w' row) (hg:some g≠row):Blk w' g t cs:=(hb.block g h.lt hg).trans h
def Blk.ne_ {g':Nat} {t':TypeId} {cs':Array Value} (h:Blk w g t cs) (h':Blk w g' t' cs') (hne:t≠t'):g≠g':=by
 rintro rfl;unfold Blk at h h';rw[h] at h';injection h' with h'
 injection h' with _ ht
 exact hne ht
def Blk.sl (h:Blk w g t cs) {size n c:Nat} (hs:cs.size=n*size) (hc:n≤c) (hc2:c≤9223372036854775807):SL w size (.slice (some ⟨g,0,none⟩) n c) n cs.toList:=by
 refine⟨_,_,rfl,hc,hc2,by simpa using hs,λ_=>⟨_,rfl,h.lt,λj u hu=> ?_⟩⟩
 have e:(⟨g,0,none⟩:Addr).add j=⟨g,j,none⟩:=by
  unfold Addr.add
  by_cases hj:j=0
  ·subst hj;rfl
  rw[if_neg hj];simp
 rw[e,h.cell, ←hu];simp
end
section
variable {P:Program} {ops:Array Oper} {rest:List Oper} {o:Oper} {a:Act} {w:World} {Q:Exit→Act→World→Prop}
def wLdB (hgd:o.guard=none) (ty:TypeId) (x:Operand) (ho:o.op=.load ty x) (g:Nat) (hx:a.eval x=.pointer (some ⟨g,0,none⟩))
 {t:TypeId} {cs:Array Value} (hB:Blk w g t cs) (d:TypeDesc) (hu:P.underlying ty=some d) (hd:(match d with | .struct _ | .array _ _=>true | _=>false)=true)
 (n:Nat) (hs:(P.info? ty).map (·.size)=some n) (hn:cs.size=n) (h:wpList P ops Q rest (a.put o.dst (.agg cs)) w):wpList P ops Q (o::rest) a w :=
 wpList_load_row hgd ty x ho g hx t cs (0,0) d hB hu hd (by rw[hn];exact hs) h
def wStB (hgd:o.guard=none) (ty:TypeId) (x y:Operand) (ho:o.op=.store ty x y) (g:Nat) (cells:Array Value) (hx:a.eval x=.pointer (some ⟨g,0,none⟩)) (hy:a.eval y=.agg cells)
 {t:TypeId} {old:Array Value} (hB:Blk w g t old) (n:Nat) (hs:(P.info? ty).map (·.size)=some n) (hn:cells.size=n) (hold:old.size=n) (h1:cells.all (·.oneCell')=true)
 (h:∀w1,Blk w1 g t cells→w.grownBy w1 (some g)→wpList P ops Q rest (a.put o.dst undef) w1):wpList P ops Q (o::rest) a w :=
 wpList_store_row hgd ty x y ho g cells hx hy t old hB (by rw[hn];exact hs) (by rw[hn,hold]) h1
  (h _ (setRow_heap w g old cells t (0,0) hB) ⟨rfl,rfl,rfl,by simp,λk hk hne=>setRow_other w g k cells (λe=>hne (by rw[e]))⟩)
def yN {fn:Func} {R:Ending→World→Prop} {p u:Tmp} {ty:TypeId} (h:fn.results= #[.cell p ty,.tmp u]) (hdf:a.defers=[]) (g:Nat) {t:TypeId} {cs:Array Value}
 (hp:a.tmps.getD p undef=.pointer (some ⟨g,0,none⟩)) (hB:Blk w g t cs) (d:TypeDesc) (hu:P.underlying ty=some d) (hd:(match d with | .struct _ | .array _ _=>true | _=>false)=true)
 (n:Nat) (hs:(P.info? ty).map (·.size)=some n) (hn:cs.size=n) (hR:R (.returned (.tuple #[.agg cs,a.tmps.getD u undef])) w):bodyPost P fn R .ret a w:=by refine bodyPost_ret ?_ hdf hR;rw[results_cell_tmp h];have e:=run_loadVar_row (P:=P) w g t ty cs (0,0) d hB hu hd (by rw[hn];exact hs);simp[hp,asAddr,e,Result.andThen]
def zCS {fn:Func} {R:Ending→World→Prop} {p:Tmp} {ty:TypeId} (h:fn.results= #[.cell p ty]) (hdf:a.defers=[]) (g:Nat) {t:TypeId} {cs:Array Value}
 (hp:a.tmps.getD p undef=.pointer (some ⟨g,0,none⟩)) (hB:Blk w g t cs) (d:TypeDesc) (hu:P.underlying ty=some d) (hd:(match d with | .struct _ | .array _ _=>true | _=>false)=true)
 (n:Nat) (hs:(P.info? ty).map (·.size)=some n) (hn:cs.size=n) (hR:R (.returned (.agg cs)) w):bodyPost P fn R .ret a w :=
 bodyPost_ret (results_cell_row h _ _ g t cs (0,0) d hp hB hu hd (by rw[hn];exact hs)) hdf hR
end
def zCb {P:Program} (t e:TypeId) (n:Nat) (cs:Array Value) (i:Nat) (u:Value) (ht:P.underlying t=some (.array n e)) (k:IntKind) (he:P.underlying e=some (.int k)) (hs:(P.info? e).map (·.size)=some 1)
 (hi:i<n) (hu:cs[i]? =some u) (w:World):(Instr.index t (.agg cs) (.int .i64 (i:Int))).run P w=.ok u w:=by
 cases hq:P.info? e with
 | none=>simp[hq] at hs
 | some inf =>
   have hz:inf.size=1:=by simpa [hq] using hs
   have hb:(0:Int)≤i∧(i:Int)<n:=by omega
   have hagg:(isAgg e).run P w=.ok false w:=by
    unfold isAgg;rw[Sem.run_bind,run_underlying he w];rfl
   have hc:((0:Int)≤(i:Int)∧(i:Int)<(n:Int))=True:=by simp;omega
   simp only[Instr.index,asIntOf,Sem.run_bind,Sem.run_pure,Result.andThen_ok,run_underlying ht,hc,if_true];simp[sizeOf,typeInfo,hq,hz,part,hagg,hu]
section
variable {P:Program} {ops:Array Oper} {rest:List Oper} {o:Oper} {a:Act} {w:World} {Q:Exit→Act→World→Prop}
def wBox (hg:o.guard=none) (t:TypeId) (x:Operand) (ho:o.op=.box t x) (cs:Array Value) (hx:(a.eval x).cells=cs)
 (h:∀w1 g,Blk w1 g t cs→Ext w w1→w.heap.size≤g→wpList P ops Q rest (a.put o.dst (.pointer (some ⟨g,0,none⟩))) w1):wpList P ops Q (o::rest) a w:=by
 subst hx;refine wpList_plain hg λK hK=> ?_
 unfold Oper.wp execOp;simp only[ho,Sem.run_bind,Instr.box,newVar,newRow,run_newObj_alloc,Sem.run_pure,Result.andThen_ok];exact hK _ _ (h _ _ (Blk.new w t _) ((Ext.refl w).alloc _) (wA5 _))
def vF (hg:o.guard=none) (t:TypeId) (ho:o.op=.alloc t) (z:Value) (hz:(P.info? t).bind (·.zero)=some z)
 (h:∀w1 g,Blk w1 g t z.cells→Ext w w1→w.heap.size≤g→wpList P ops Q rest (a.put o.dst (.pointer (some ⟨g,0,none⟩))) w1):wpList P ops Q (o::rest) a w:=by
 cases hq:P.info? t with
 | none=>simp[hq] at hz
 | some inf =>
   have hz':inf.zero=some z:=by simpa [hq] using hz
   have hzv:(zeroValue t).run P w=.ok z w:=by simp[zeroValue,typeInfo,hq,hz']
   refine wpList_plain hg λK hK=> ?_
   unfold Oper.wp execOp;simp only[ho,Sem.run_bind,Instr.alloc,hzv,newVar,newRow,run_newObj_alloc,Sem.run_pure,Result.andThen_ok];exact hK _ _ (h _ _ (Blk.new w t _) ((Ext.refl w).alloc _) (wA5 _))
end
def zFp {P:Program} {ops:Array Oper} {rest:List Oper} {o:Oper} {a:Act} {w:World} {Q:Exit→Act→World→Prop} (hg:o.guard=none) (t:TypeId) (parts:Array (Nat×Operand)) (ho:o.op=.build t parts)
 (cs:Array Value) (hf:P.built t (parts.map λ(i,x)=>(i,a.eval x)).toList=some cs) (h:wpList P ops Q rest (a.put o.dst (.agg cs)) w):wpList P ops Q (o::rest) a w :=
 wpList_build hg t parts ho (by rw[hf];rfl) (by rw[hf];exact h)
def vY {P:Program} {ops:Array Oper} {rest:List Oper} {o:Oper} {a:Act} {w:World} {Q:Exit→Act→World→Prop} (hg:o.guard=none) (t:TypeId) (ho:o.op=.build t #[])
 (cs:Array Value) (hf:P.built t []=some cs) (h:wpList P ops Q rest (a.put o.dst (.agg cs)) w):wpList P ops Q (o::rest) a w :=
 zFp hg t #[] ho cs (by simpa using hf) h
def uS {P:Program} {ops:Array Oper} {rest:List Oper} {o:Oper} {a:Act} {w:World} {Q:Exit→Act→World→Prop} (hw:Region.wanted o (yielded ops a.tmps)=true)
 (h:∀K:Act→World→Prop,(∀a w,wpList P ops Q rest a w→K a w)→o.wp P a w K Q):wpList P ops Q (o::rest) a w :=
 wpList_step λK hK=>by rw[if_pos hw];exact h K hK
def zFG {P:Program} {ops:Array Oper} {rest:List Oper} {o:Oper} {a:Act} {w:World} {Q:Exit→Act→World→Prop} (hw:Region.wanted o (yielded ops a.tmps)=true)
 (ty:TypeId) (x:Operand) (ho:o.op=.load ty x) (g:Nat) (hx:a.eval x=.pointer (some ⟨g,0,none⟩))
 {t:TypeId} {cs:Array Value} (hB:Blk w g t cs) (d:TypeDesc) (hu:P.underlying ty=some d) (hd:(match d with | .struct _ | .array _ _=>true | _=>false)=true)
 (n:Nat) (hs:(P.info? ty).map (·.size)=some n) (hn:cs.size=n) (h:wpList P ops Q rest (a.put o.dst (.agg cs)) w):wpList P ops Q (o::rest) a w :=
 uS hw λ_ hK=>wp_load_row ty x ho g hx t cs (0,0) d hB hu hd (by rw[hn];exact hs) (hK _ _ h)
def wAlo' {P:Program} {ops:Array Oper} {rest:List Oper} {o:Oper} {a:Act} {w:World} {Q:Exit→Act→World→Prop} (hg:o.guard=none) (dst:Option Tmp) (hdst:o.dst=dst) (t:TypeId) (ho:o.op=.alloc t) (z:Value) (hz:(P.info? t).bind (·.zero)=some z)
 (h:∀w1 g,Blk w1 g t z.cells→Ext w w1→w.heap.size≤g→wpList P ops Q rest (a.put dst (.pointer (some ⟨g,0,none⟩))) w1):wpList P ops Q (o::rest) a w:=by subst hdst;exact vF hg t ho z hz h
def jI {P:Program} {ops:Array Oper} {rest:List Oper} {o:Oper} {a:Act} {w:World} {Q:Exit→Act→World→Prop} (hw:Region.wanted o (yielded ops a.tmps)=true) (t:TypeId) (ho:o.op=.build t #[])
 (cs:Array Value) (hf:P.built t []=some cs) (h:wpList P ops Q rest (a.put o.dst (.agg cs)) w):wpList P ops Q (o::rest) a w :=
 uS hw λ_ hK=>wp_build t #[] ho (by simp[hf]) (by simpa [hf] using hK _ _ h)
def Ext.grown {a w w':World} (h:Ext a w) {g:Nat} (hg:w.grownBy w' (some g)) (hB:a.heap.size≤g):Ext a w' :=
 Below.grown h hg h.size (λk hk=>by injection hk with hk;omega)
def Ext.setCell {a w:World} (h:Ext a w) {p:Addr} (hp:a.heap.size≤p.block) (u:Value):Ext a (w.setCell p u):=Below.setCell h hp u
def vint {a b:Int} (h:a=b):Value.int .i64 a=Value.int .i64 b:=by rw[h]
def SL.drew {w:World} {size n:Nat} {v:Value} {xs:List Value} (h:SL w size v n xs):SL w.drew size v n xs:=h
structure zAi (R:World→World→Prop):Prop where
 refl:∀w,R w w
 trans:∀{a b c},R a b→R b c→R a c
def qM:zAi Ext:=⟨Ext.refl,λh k=>Ext.trans h k⟩
section
variable {P:Program} {ops:Array Oper} {md:Region.Mode} {R:World→World→Prop}
def YieldsR (P:Program) (ops:Array Oper) (R:World→World→Prop) (o:Oper) (v:Value) (a:Act) (wc:World):Prop :=
 (Region.wanted o (yielded ops a.tmps)=true∧∀w,R wc w→o.quietAt P a (R w) w v)∨(Region.wanted o (yielded ops a.tmps)=false∧v=undef)
def YieldsR.mono (L:zAi R) {o:Oper} {v:Value} {a:Act} {wc w:World} (h:YieldsR P ops R o v a wc) (hw:R wc w):YieldsR P ops R o v a w :=
 h.imp (λ⟨h1,h2⟩=>⟨h1,λw' h'=>h2 w' (L.trans hw h')⟩) id
def YieldsR.of_same {o:Oper} {v:Value} {a a':Act} {wc:World} (hy:YieldsR P ops R o v a wc) (he:execOp a'.eval o=execOp a.eval o)
 (hw:Region.wanted o (yielded ops a'.tmps)=Region.wanted o (yielded ops a.tmps)):YieldsR P ops R o v a' wc:=by unfold YieldsR Oper.quietAt at *;rw[he,hw];exact hy
def zQO (L:zAi R) {o:Oper} {a:Act} {v:Value} {w:World} {K:Act→World→Prop} {Q:Exit→Act→World→Prop} (h:o.quietAt P a (R w) w v) (hk:∀w',R w w'→K (a.put o.dst v) w'):o.wp P a w K Q:=by
 unfold Oper.quietAt at h;unfold Oper.wp;generalize (execOp a.eval o).run P w=r at *
 cases r with
 | ok n w' =>
   cases n<;>simp only[Oper.quietUpon] at h<;>simp only[Oper.upon]
   case value u =>
    obtain⟨e1,e2⟩:=h;rw[e1,e2];exact hk _ (L.refl _)
   case skip =>
    obtain⟨e1,e2⟩:=h;rw[e1, ←e2];exact hk _ (L.refl _)
   case enter f args =>
    obtain⟨e1,hc⟩:=h;rw[e1];exact hc.mono λe w'' ⟨he,hw''⟩=>by subst he;exact hk _ hw''
 | halt x w'=>simp only[Oper.quietUpon] at h
def YieldsR.wpOp (L:zAi R) {i:Nat} {o:Oper} {v:Value} {a:Act} {wc w:World} {Q:Exit→Act→World→Prop} (hi:ops[i]? =some o) (hy:YieldsR P ops R o v a wc) (hw:R wc w)
 {K:Act→World→Prop} (h:∀w',R w w'→K (a.put o.dst v) w'):wpOp P ops Q i K a w:=by
 unfold Go.wpOp;simp only[hi];rcases hy with ⟨h1,h2⟩ | ⟨h1,rfl⟩
 ·simp only[h1,if_true];exact .inl (zQO L (h2 w hw) h)
 simp only[h1,wA6,if_false];exact h _ (L.refl _)
def zJt {j:Nat} {oi oj:Oper} {v:Value} {wc:World} {Q:Exit→Act→World→Prop} (hj:ops[j]? =some oj) (hap:oi.apart ops oj=true)
 (hsi:∀cs b,oi.op≠.select cs b) (hsj:∀cs b,oj.op≠.select cs b)
 (hQ:∀c a w,Q (.panic c) (a.put oi.dst v) w→Q (.panic c) a w) {K:Act→World→Prop} {a:Act} {w:World}
 (hy:YieldsR P ops R oi v a wc) (h:wpOp P ops Q j K (a.put oi.dst v) w) :
 wpOp P ops Q j (λa' w'=>YieldsR P ops R oi v a' wc∧K (a'.put oi.dst v) w') a w:=by
 obtain⟨h1,h2,h3⟩:=Oper.apart_spec hap
 have keep:∀(a:Act),YieldsR P ops R oi v a wc→∀u,YieldsR P ops R oi v (a.put oj.dst u) wc:=λa hy u =>
  hy.of_same (execOp_put oi hsi a oj.dst u h3) (wanted_put oi a oj.dst u h3)
 have keepD:∀d,YieldsR P ops R oi v { a with defers:=d::a.defers } wc:=λd=>hy.of_same rfl rfl
 unfold wpOp at *;simp only[hj] at *;rw[wanted_put oj a oi.dst v h1] at h;split
 ·rename_i hw;simp only[hw,if_true] at h;rcases h with h | ⟨hasks,hlets⟩
  case inr=>exact .inr ⟨by unfold Oper.asks at *;rw[execOp_put oj hsj a oi.dst v h1] at hasks;exact hasks,hlets⟩
  refine .inl ?_;unfold Oper.wp at *;rw[execOp_put oj hsj a oi.dst v h1] at h;generalize (execOp a.eval oj).run P w=r at *
  cases r with
  | ok n w' =>
    cases n<;>simp only[Oper.upon] at h ⊢
    case value u=>exact⟨keep a hy u,by rw[←Act.put_comm a v u h2];exact h⟩
    case skip=>exact⟨keep a hy _,by rw[←Act.put_comm a v undef h2];exact h⟩
    case defer d =>
     refine⟨keep _ (keepD d) _, ?_⟩;rw[←Act.put_comm _ v undef h2, ←Act.put_defers];exact h
    case enter f args =>
     refine Calls.mono h λe w'' he=> ?_
     cases e with
     | returned u=>exact⟨keep a hy u,by rw[←Act.put_comm a v u h2];exact he⟩
     | panicked c=>exact hQ _ _ _ he
     | outgrown=>exact he
    case row row args=>exact Rows.mono h λu w'' he=>⟨keep a hy u,by rw[←Act.put_comm a v u h2];exact he⟩
  | halt x w' =>
    cases x<;>simp only[Oper.upon] at h ⊢
    case panic u=>exact hQ _ _ _ h
 rename_i hw;simp only[hw] at h;exact⟨keep a hy _,by rw[←Act.put_comm a v undef h2];exact h⟩
def zFw (P:Program) (md:Region.Mode) (ops:Array Oper) (R:World→World→Prop) (Q:Exit→Act→World→Prop):Nat→Array Bool→Act→World→Prop
 | 0,listed,a,wc=>Region.ready md ops listed=[]∧∀w,R wc w→Q .normal a w
 | f+1,listed,a,wc=>(Region.ready md ops listed=[]→∀w,R wc w→Q .normal a w) ∧
   ∀i∈Region.ready md ops listed,∀w,R wc w→wpOp P ops Q i (λa' w'=>R w w'∧zFw P md ops R Q f (listed.setIfInBounds i true) a' w') a w
variable {Q:Exit→Act→World→Prop}
def zLI (L:zAi R):∀(f:Nat) (listed:Array Bool) (a:Act) (wc w:World),R wc w→zFw P md ops R Q f listed a wc→zFw P md ops R Q f listed a w
 | 0,_,_,_,_,hw,h=>⟨h.1,λw' h'=>h.2 w' (L.trans hw h')⟩
 | _+1,_,_,_,_,hw,h=>⟨λh0 w' h'=>h.1 h0 w' (L.trans hw h'),λi hi w' h'=>h.2 i hi w' (L.trans hw h')⟩
def zMP (L:zAi R):∀(f:Nat) (listed:Array Bool) (a:Act) (wc w:World),R wc w→zFw P md ops R Q f listed a wc→wpAny P md ops Q f listed a w
 | 0,_,_,_,_,hw,h=>⟨h.1,h.2 _ hw⟩
 | f+1,_,_,_,_,hw,h=>⟨λh0=>h.1 h0 _ hw,λi hi=>wpOp_mono (λa' w' h'=>zMP L f _ a' w' w' (L.refl _) h'.2) (h.2 i hi _ hw)⟩
def zSk (L:zAi R) {i:Nat} {oi:Oper} {v:Value} (hi:ops[i]? =some oi) (hsel:∀(j:Nat) (o:Oper) cs b,ops[j]? =some o→o.op≠.select cs b)
 (hQ:∀c a w,Q (.panic c) (a.put oi.dst v) w→Q (.panic c) a w) :
 ∀(fuel:Nat) (listed:Array Bool) (a:Act) (wc:World),
  (∀j oj,ops[j]? =some oj→j≠i→listed.getD j true=false→(∀e∈oj.after,Region.binds md e=true→e.on≠i)→oi.apart ops oj=true) →
  i∈Region.ready md ops listed→YieldsR P ops R oi v a wc →
  zFw P md ops R Q fuel (listed.setIfInBounds i true) (a.put oi.dst v) wc→zFw P md ops R Q (fuel+1) listed a wc:=by
 intro fuel
 induction fuel with
 | zero =>
   intro listed a wc _ hr hy H;refine⟨λh=>(by rw[h] at hr;cases hr),λj hj w hw=> ?_⟩
   by_cases hji:j=i
   ·subst hji;exact hy.wpOp L hi hw λw' h'=>⟨h',zLI L _ _ _ _ _ (L.trans hw h') H⟩
   have:=ready_mono hj hji;rw[H.1] at this;cases this
 | succ fuel ih =>
   intro listed a wc hfree hr hy H;refine⟨λh=>(by rw[h] at hr;cases hr),λj hj w hw=> ?_⟩
   by_cases hji:j=i
   ·subst hji;exact hy.wpOp L hi hw λw' h'=>⟨h',zLI L _ _ _ _ _ (L.trans hw h') H⟩
   have h1:=H.2 j (ready_mono hj hji) w hw;obtain⟨hjun,oj,hoj,hall⟩:=mem_ready.1 hj
   have hnot:∀e∈oj.after,Region.binds md e=true→e.on≠i:=λe he hb heq=>by
    have h1:=hall e he hb;have h0:=(mem_ready.1 hr).1;rw[heq] at h1;rcases wA3 i listed.size with h' | h'
    ·simp[h'] at h0 h1;rw[h0] at h1;cases h1
    simp[wA4 h'] at h1
   have h2:=zJt hoj (hfree j oj hoj hji hjun hnot) (λcs b=>hsel i oi cs b hi) (λcs b=>hsel j oj cs b hoj) hQ hy h1
   have hfree':∀k ok,ops[k]? =some ok→k≠i→(listed.setIfInBounds j true).getD k true=false →
    (∀e∈ok.after,Region.binds md e=true→e.on≠i)→oi.apart ops ok=true:=λk ok hk hki hun hno=>by
    refine hfree k ok hk hki ?_ hno
    by_cases hjk:j=k
    ·subst hjk;exact hjun
    rw[getD_set_ne true hjk] at hun;exact hun
   refine wpOp_mono (λa' w' h3=>⟨h3.2.1,ih (listed.setIfInBounds j true) a' w' hfree' (ready_mono hr (Ne.symm hji)) (h3.1.mono L (L.trans hw h3.2.1)) ?_⟩) h2;rw[wA7 _ _ hji];exact h3.2.2
def zAS (P:Program) (md:Region.Mode) (ops:Array Oper) (R:World→World→Prop) (Q:Exit→Act→World→Prop):List Oper→Nat→Array Bool→Act→World→Prop
 | [],_,_,a,wc=>∀w,R wc w→Q .normal a w
 | o::rest,k,listed,a,wc =>
   (∃v,YieldsR P ops R o v a wc∧zAS P md ops R Q rest (k+1) (listed.setIfInBounds k true) (a.put o.dst v) wc) ∨
   (Region.ready md ops listed=[k]∧∀w,R wc w→wpOp P ops Q k (λa' w'=>R w w'∧zAS P md ops R Q rest (k+1) (listed.setIfInBounds k true) a' w') a w)
def zHb (L:zAi R) (hs:Region.noSelect ops=true) (hQ:∀c (a:Act) d v w,Q (.panic c) (a.put d v) w→Q (.panic c) a w):∀(l:List Oper) (k:Nat) (listed:Array Bool) (a:Act) (wc:World),(∀j,l[j]? =ops[k+j]?) →
 Region.lexFrom md ops l.length k listed=true→zAS P md ops R Q l k listed a wc→zFw P md ops R Q l.length listed a wc
 | [],_,_,_,_,_,hB,h=>⟨by simpa [Region.lexFrom] using hB,h⟩
 | o::l,k,listed,a,wc,hl,hB,h=>by
   have h0:ops[k]? =some o:=by simpa using (hl 0).symm
   simp only[wA8,Region.lexFrom,wA9] at hB;obtain⟨⟨hr,hf⟩,hB'⟩:=hB;have hl':∀j,l[j]? =ops[k+1+j]? :=λj=>by have:=hl (j+1);simpa [wA0,wB0 1 j] using this
   rcases h with ⟨v,hy,hK⟩ | ⟨hone,hK⟩
   ·exact zSk L h0 (Region.noSelect_spec hs) (λc a w=>hQ c a _ _ w) l.length listed a wc (Region.free_spec h0 hf) (by simpa using hr) hy
     (zHb L hs hQ l (k+1) _ _ _ hl' hB' hK)
   refine⟨λh0=>(by rw[h0] at hone;cases hone),λi hi w hw=> ?_⟩;rw[hone] at hi;have hik:i=k:=by simpa using hi
   subst hik;exact wpOp_mono (λa' w' h'=>⟨h'.1,zHb L hs hQ l (i+1) _ _ _ hl' hB' h'.2⟩) (hK w hw)
def xT (QN:Act→World→Prop):Exit→Act→World→Prop
 | .normal,a,w=>QN a w
 | _,_,_=>False
def xU (L:zAi R) {id:Nat} {a:Act} {w:World} {l:List Oper} (hm:P.follows .mixedOrders=true) (hB:Region.lexB .any l.toArray=true)
 (h:zAS P .any l.toArray R (xT (λa w=>Q .normal a w)) l 0 (Array.replicate l.length false) a w.drew):(Code.region id l.toArray true).wp P Q a w:=by
 simp only[Region.lexB,wA9] at hB;refine Code.wp_mono (Q:=xT (λa w=>Q .normal a w)) (λe a w h=> ?_) (wp_region_any hm (zMP L _ _ _ _ _ (L.refl _) ?_))
 ·cases e<;>first | exact h | exact (h:False).elim
 have:=zHb (md:=.any) L hB.1 (λ_ _ _ _ _ h=>h) l 0 (Array.replicate l.toArray.size false) a w.drew (by simp) (by simpa using hB.2) (by simpa using h);simpa using this
variable {o:Oper} {rest:List Oper} {k:Nat} {listed:Array Bool} {a:Act} {wc:World}
def jU {QN:Act→World→Prop} (h:∀w,R wc w→QN a w):zAS P md ops R (xT QN) [] k listed a wc:=h
def zBZ (hw:Region.wanted o (yielded ops a.tmps)=true) (h:∃v,(∀w,R wc w→o.quietAt P a (R w) w v)∧zAS P md ops R Q rest (k+1) (listed.setIfInBounds k true) (a.put o.dst v) wc):zAS P md ops R Q (o::rest) k listed a wc :=
 .inl (let ⟨v,h1,h2⟩:=h;⟨v,.inl ⟨hw,h1⟩,h2⟩)
def lx_at (hw:Region.wanted o (yielded ops a.tmps)=true) (v:Value) (h1:∀w,R wc w→o.quietAt P a (R w) w v) (h2:zAS P md ops R Q rest (k+1) (listed.setIfInBounds k true) (a.put o.dst v) wc):zAS P md ops R Q (o::rest) k listed a wc :=
 .inl ⟨v,.inl ⟨hw,h1⟩,h2⟩
def uK (hw:Region.wanted o (yielded ops a.tmps)=false) (h:zAS P md ops R Q rest (k+1) (listed.setIfInBounds k true) (a.put o.dst undef) wc):zAS P md ops R Q (o::rest) k listed a wc :=
 .inl ⟨undef,.inr ⟨hw,rfl⟩,h⟩
def zE (hw:Region.wanted o (yielded ops a.tmps)=true) (v:Value) (h1:∀w,(execOp a.eval o).run P w=.ok (.value v) w) (h2:zAS P md ops R Q rest (k+1) (listed.setIfInBounds k true) (a.put o.dst v) wc):zAS P md ops R Q (o::rest) k listed a wc :=
 lx_at hw v (λw _=>by unfold Oper.quietAt;rw[h1];exact⟨rfl,rfl⟩) h2
def xA (hw:Region.wanted o (yielded ops a.tmps)=true) (v:Value) (h1:∀w,R wc w→(execOp a.eval o).run P w=.ok (.value v) w) (h2:zAS P md ops R Q rest (k+1) (listed.setIfInBounds k true) (a.put o.dst v) wc):zAS P md ops R Q (o::rest) k listed a wc :=
 lx_at hw v (λw hR=>by unfold Oper.quietAt;rw[h1 w hR];exact⟨rfl,rfl⟩) h2
def zGq (hw:Region.wanted o (yielded ops a.tmps)=true) (ty:TypeId) (x:Operand) (ho:o.op=.load ty x) (g:Nat) (hx:a.eval x=.pointer (some ⟨g,0,none⟩))
 {t:TypeId} {cs:Array Value} (hB:∀w,R wc w→Blk w g t cs) (d:TypeDesc) (hu:P.underlying ty=some d) (hd:(match d with | .struct _ | .array _ _=>true | _=>false)=true)
 (n:Nat) (hs:(P.info? ty).map (·.size)=some n) (hn:cs.size=n) (h:zAS P md ops R Q rest (k+1) (listed.setIfInBounds k true) (a.put o.dst (.agg cs)) wc):zAS P md ops R Q (o::rest) k listed a wc:=by refine xA hw _ (λw hC=> ?_) h;unfold execOp;simp only[ho,hx,Instr.loadAt,Instr.sureAddr,Sem.run_bind,Sem.run_pure,Result.andThen_ok,run_loadVar_row w g t ty cs (0,0) d (hB w hC) hu hd (by rw[hn];exact hs)]
def zEY (hw : Region.wanted o (yielded ops a.tmps) = true) (f : FuncId) {fn : Func} (hf : P.funcs[f]? = some fn) (hname : (fn.name == "runtime.NumGoroutine") = false) (hb : fn.body.isSome = true) (xs : Array Operand) (ts : Array TypeId)
 (ho:o.op=.call { callee:=.value (.func f),args:=xs,argTypes:=ts }) (args:Array Value) (hx:xs.map a.eval=args) (v:Value)
 (hc:∀w,R wc w→Calls P f args w λe w'=>e=.returned v∧R w w') (h:zAS P md ops R Q rest (k+1) (listed.setIfInBounds k true) (a.put o.dst v) wc):zAS P md ops R Q (o::rest) k listed a wc:=by
 obtain⟨c,hb⟩:=wB1.1 hb;have hn : ¬ fn.name = "runtime.NumGoroutine" := by simpa using hname
 refine lx_at hw v (λw hR=> ?_) h;have he:a.eval (.func f)=.func (.func f) #[] #[]:=rfl;have hrun:(execOp a.eval o).run P w=.ok (.enter f args) w:=by simp[execOp,ho,resolve,hx,he,Deferred.ofValue,invoke,callFunc,hf,hb,hn]
 unfold Oper.quietAt;rw[hrun];exact⟨rfl,hc w hR⟩
end
section
variable {P:Program} {ops:Array Oper} {md:Region.Mode} {R:World→World→Prop}
def zEP (P:Program) (md:Region.Mode) (ops:Array Oper) (R:World→World→Prop) (Q:Exit→Act→World→Prop) (n:Nat) (F:Array Bool→Act→World→Prop):Nat→Array Bool→Act→World→Prop
 | 0,listed,a,wc=>∀w,R wc w→F listed a w
 | f+1,listed,a,wc=>Region.ready md ops listed≠[]∧∀i∈Region.ready md ops listed,i<n∧∀w,R wc w→wpOp P ops Q i (λa' w'=>R w w'∧zEP P md ops R Q n F f (listed.setIfInBounds i true) a' w') a w
variable {Q:Exit→Act→World→Prop} {n:Nat} {F:Array Bool→Act→World→Prop}
def zJV (L:zAi R):∀(f:Nat) (listed:Array Bool) (a:Act) (wc w:World),R wc w→zEP P md ops R Q n F f listed a wc→zEP P md ops R Q n F f listed a w
 | 0,_,_,_,_,hw,h=>λw' h'=>h w' (L.trans hw h')
 | _+1,_,_,_,_,hw,h=>⟨h.1,λi hi=>⟨(h.2 i hi).1,λw' h'=>(h.2 i hi).2 w' (L.trans hw h')⟩⟩
def zKo {QN:Act→World→Prop} (h:LetsOut (xT QN)):False:=by obtain⟨a,w,h⟩:=h;exact h
def zIu {i:Nat} {K:Act→World→Prop} {QN:Act→World→Prop} {Q':Exit→Act→World→Prop} {a:Act} {w:World} (h:wpOp P ops (xT QN) i K a w):wpOp P ops Q' i K a w:=by
 have up:∀(o:Oper) (r:Result Next),o.upon P a K (xT QN) r→o.upon P a K Q' r:=by
  intro o r h
  cases r with
  | ok nx w' =>
    cases nx<;>simp only[Oper.upon] at h ⊢ <;>first
     | exact h
     | exact Calls.mono h (λe w'' he=>by cases e<;>first | exact he | exact (he:False).elim | exact (zKo he).elim)
  | halt x w' =>
    cases x<;>simp only[Oper.upon] at h ⊢
    case panic u=>exact (h:False).elim
 unfold wpOp at *;split
 ·rename_i ho;simpa [ho] using h
 rename_i o ho;simp only[ho] at h;split
 ·rename_i hw;simp only[hw,if_true] at h;rcases h with h | ⟨_,h⟩
  ·exact .inl (up _ _ h)
  exact (zKo h).elim
 rename_i hw;simpa [hw] using h
def zKn (L:zAi R) {QN:Act→World→Prop} {Q':Exit→Act→World→Prop} {g:Nat} (hF:∀listed a w,F listed a w→wpAny P md ops Q' g listed a w) :
 ∀(f:Nat) (listed:Array Bool) (a:Act) (wc:World),zEP P md ops R (xT QN) n F f listed a wc→∀w,R wc w→wpAny P md ops Q' (f+g) listed a w
 | 0,listed,a,wc,h,w,hw=>by rw[wB2];exact hF _ _ _ (h w hw)
 | f+1,listed,a,wc,h,w,hw=>by
   rw[show f+1+g=(f+g)+1 by omega];exact⟨λh0=>absurd h0 h.1,λi hi=>zIu (QN:=QN) (wpOp_mono (λa' w' h'=>zKn L hF f _ a' w' h'.2 w' (L.refl _)) ((h.2 i hi).2 w hw))⟩
def zQW (L:zAi R) {QN:Act→World→Prop} {i:Nat} {oi:Oper} {v:Value} (hi:ops[i]? =some oi) (hsel:∀(j:Nat) (o:Oper) cs b,ops[j]? =some o→o.op≠.select cs b)
 (hs:Region.sinkB md ops n=true) (hc:Region.chainB md ops n=true) (hn:n<ops.size) (hin:i<n)
 (hdone:∀listed a w,F listed a w→∀j∈Region.ready md ops listed,n≤j) :
 ∀(f:Nat) (listed:Array Bool) (a:Act) (wc:World),HeadInv md ops n listed →
  (∀j oj,ops[j]? =some oj→j≠i→listed.getD j true=false→(∀e∈oj.after,Region.binds md e=true→e.on≠i)→oi.apart ops oj=true) →
  i∈Region.ready md ops listed→YieldsR P ops R oi v a wc →
  zEP P md ops R (xT QN) n F f (listed.setIfInBounds i true) (a.put oi.dst v) wc→zEP P md ops R (xT QN) n F (f+1) listed a wc:=by
 intro f
 induction f with
 | zero =>
   intro listed a wc inv _ hr hy H;have hun:=(mem_ready.1 hr).1;refine⟨λh=>(by rw[h] at hr;cases hr),λj hj=> ?_⟩
   have hjn:j<n:=by
    rcases wA3 j n with h | h
    ·exact h
    exact absurd hj (tail_waits hs hc hn inv _ i rfl hin hun j h)
   refine⟨hjn,λw hw=> ?_⟩
   by_cases hji:j=i
   ·subst hji;exact hy.wpOp L hi hw λw' h'=>⟨h',zJV L _ _ _ _ _ (L.trans hw h') H⟩
   have:=hdone _ _ _ (H w hw) j (ready_mono hj hji);omega
 | succ f ih =>
   intro listed a wc inv hfree hr hy H;have hun:=(mem_ready.1 hr).1;refine⟨λh=>(by rw[h] at hr;cases hr),λj hj=> ?_⟩
   have hjn:j<n:=by
    rcases wA3 j n with h | h
    ·exact h
    exact absurd hj (tail_waits hs hc hn inv _ i rfl hin hun j h)
   refine⟨hjn,λw hw=> ?_⟩
   by_cases hji:j=i
   ·subst hji;exact hy.wpOp L hi hw λw' h'=>⟨h',zJV L _ _ _ _ _ (L.trans hw h') H⟩
   have h1:=(H.2 j (ready_mono hj hji)).2 w hw;obtain⟨hjun,oj,hoj,hall⟩:=mem_ready.1 hj
   have hnot:∀e∈oj.after,Region.binds md e=true→e.on≠i:=λe he hb heq=>by
    have h1:=hall e he hb;rw[heq,getD_both hun] at h1;cases h1
   have h2:=zJt hoj (hfree j oj hoj hji hjun hnot) (λcs b=>hsel i oi cs b hi) (λcs b=>hsel j oj cs b hoj) (λ_ _ _ h=>h) hy h1
   have hfree':∀k ok,ops[k]? =some ok→k≠i→(listed.setIfInBounds j true).getD k true=false →
    (∀e∈ok.after,Region.binds md e=true→e.on≠i)→oi.apart ops ok=true:=λk ok hk hki hun hno=>by
    refine hfree k ok hk hki ?_ hno
    by_cases hjk:j=k
    ·subst hjk;exact hjun
    rw[getD_set_ne true hjk] at hun;exact hun
   refine wpOp_mono (λa' w' h3=>⟨h3.2.1,ih (listed.setIfInBounds j true) a' w' (inv.set hj hjn) hfree' (ready_mono hr (Ne.symm hji)) (h3.1.mono L (L.trans hw h3.2.1)) ?_⟩) h2;rw[wA7 _ _ hji];exact h3.2.2
def zGr (L:zAi R) {QN:Act→World→Prop} {g:Nat} (hsel:Region.noSelect ops=true) (hs:Region.sinkB md ops n=true) (hc:Region.chainB md ops n=true) (hn:n<ops.size) :
 ∀(l:List Oper) (k:Nat) (listed:Array Bool) (a:Act) (wc:World),(∀j,j<l.length→l[j]? =ops[k+j]?)→k+l.length=n→HeadInv md ops n listed →
 Region.lexHead md ops g l.length k listed=true→zAS P md ops R (xT QN) l k listed a wc →
 zEP P md ops R (xT QN) n (λlisted' a' w'=>Region.seqB md ops g n listed'=true∧QN a' w') l.length listed a wc
 | [],k,listed,a,wc,_,hk,_,hB,h=>by
   have:k=n:=by simpa using hk
   subst this;exact λw hw=>⟨by simpa [Region.lexHead] using hB,h w hw⟩
 | o::l,k,listed,a,wc,hl,hk,inv,hB,h=>by
   have h0:ops[k]? =some o:=by simpa using (hl 0 (by simp)).symm
   simp only[wA8,Region.lexHead,wA9] at hB;obtain⟨⟨hr,hf⟩,hB'⟩:=hB;have hkn:k<n:=by simp only[wA8] at hk;omega
   have hr':k∈Region.ready md ops listed:=by simpa using hr
   have hl':∀j,j<l.length→l[j]? =ops[k+1+j]? :=λj hj=>by have:=hl (j+1) (by simp;omega);simpa [wA0,wB0 1 j] using this
   have hk':k+1+l.length=n:=by simp only[wA8] at hk;omega
   rcases h with ⟨v,hy,hK⟩ | ⟨hone,hK⟩
   ·exact zQW L h0 (Region.noSelect_spec hsel) hs hc hn hkn (λlisted' a' w' hL=>seqB_ready hL.1) l.length listed a wc inv (Region.free_spec h0 hf) hr' hy
     (zGr L hsel hs hc hn l (k+1) _ _ _ hl' hk' (inv.set hr' hkn) hB' hK)
   refine⟨λh0=>(by rw[h0] at hone;cases hone),λi hi=> ?_⟩;rw[hone] at hi;have hik:i=k:=by simpa using hi
   subst hik;exact⟨hkn,λw hw=>wpOp_mono (λa' w' h'=>⟨h'.1,zGr L hsel hs hc hn l (i+1) _ _ _ hl' hk' (inv.set hr' hkn) hB' h'.2⟩) (hK w hw)⟩
def zAo (L:zAi R) (n:Nat) {id:Nat} {a:Act} {w:World} {l:List Oper} (hm:P.follows .mixedOrders=true) (hB:Region.lexTailB .any l.toArray n=true)
 (h:zAS P .any l.toArray R (xT (λa w=>wpList P l.toArray Q (l.drop n) a w)) (l.take n) 0 (Array.replicate l.length false) a w.drew):(Code.region id l.toArray true).wp P Q a w:=by
 simp only[Region.lexTailB,wA9,wB3] at hB;obtain⟨⟨⟨⟨hsel,hn⟩,hs⟩,hc⟩,hlex⟩:=hB;have hn':n<l.length:=by simpa using hn
 have htl:(l.take n).length=n:=by simp;omega
 have hdl:(l.drop n).length=l.toArray.size-n:=by simp
 have inv0:HeadInv .any l.toArray n (Array.replicate l.toArray.size false) :=
  ⟨by simp,λj oj _ hl=>(by rw[getD_replicate_false] at hl;cases hl),λt _ ht=>getD_in (by simpa using ht) (getD_replicate_false _ _)⟩
 have H:=zGr (md:=.any) (g:=l.toArray.size-n) L hsel hs hc hn (l.take n) 0 (Array.replicate l.toArray.size false) a w.drew (λj hj=>by
  have hj':j<n:=by rw[htl] at hj;exact hj
  simp[hj']) (by simpa using htl) inv0 (by rw[htl];exact hlex) (by simpa using h)
 refine wp_region_any hm ?_
 have:=zKn (Q':=Q) (g:=l.toArray.size-n) L (λlisted a' w' hL=>by
  have:=wpAny_of_seq (md:=.any) (Q':=Q) (l.drop n) n listed a' w' (λj=>by simp[wB4]) (by rw[hdl];exact hL.1) hL.2
  rwa [hdl] at this) _ _ _ _ H _ (L.refl _)
 rw[htl,show n+(l.toArray.size-n)=l.toArray.size by omega] at this;exact this
end
def zBy (op:BinOp) (x y:Operand) (v w:Int) (W:World):(eqGuard op 3 x y (.int .i64 v) (.int .i64 w)).run prog W=.ok () W:=by cases op<;>go_simp
def zIT (i d:Nat) (h:i<1000000000000) (hd:0<d) (W:World):(binOp .quo 3 (.int .i64 (i:Int)) (.int .i64 (d:Int))).run prog W=.ok (.int .i64 ((i/d:Nat):Int)) W:=by
 have h0:(0:Int)≤(i:Int):=by omega
 have h1:¬d=0:=by omega
 have h2:(i/d:Nat)≤i:=Nat.div_le_self _ _;have h5:∀q:Nat,q≤i→IntKind.i64.wrap (q:Int)=(q:Int):=λq hq=>IntWalk.i64_in _ (by omega)
 have h4:IntKind.i64.wrap ((i:Int)/(d:Int))=(i:Int)/(d:Int):=by rw[←Int.natCast_ediv];exact h5 _ h2
 have h3:(Int.tdiv (i:Int) (d:Int))=(i:Int)/(d:Int):=Int.tdiv_eq_ediv_of_nonneg h0;go_simp
def zHo (i d:Nat) (h:i<1000000000000) (hd:0<d) (W:World):(binOp .rem 3 (.int .i64 (i:Int)) (.int .i64 (d:Int))).run prog W=.ok (.int .i64 ((i%d:Nat):Int)) W:=by
 have h0:(0:Int)≤(i:Int):=by omega
 have h1:¬d=0:=by omega
 have h3:(Int.tmod (i:Int) (d:Int))=(i:Int)%(d:Int):=Int.tmod_eq_emod_of_nonneg h0;go_simp
def zFr (i d k:Nat) (h:i*d=k) (hk:k<1000000000000) (W:World):(binOp .mul 3 (.int .i64 (i:Int)) (.int .i64 (d:Int))).run prog W=.ok (.int .i64 (k:Int)) W:=by
 have h4:IntKind.i64.wrap ((i:Int)*(d:Int))=(k:Int):=by rw[←wB5,h];exact IntWalk.i64_in _ (by omega)
 go_simp
def zIR (i d:Nat) (h:i+d<1000000000000) (W:World):(binOp .add 3 (.int .i64 (i:Int)) (.int .i64 (d:Int))).run prog W=.ok (.int .i64 ((i+d:Nat):Int)) W:=by
 have h4:IntKind.i64.wrap ((i:Int)+(d:Int))=((i+d:Nat):Int):=by rw[←wB6];exact IntWalk.i64_in _ (by omega)
 go_simp
def zIO (i d:Nat) (h:i<1000000000000) (h2:d≤i) (W:World):(binOp .sub 3 (.int .i64 (i:Int)) (.int .i64 (d:Int))).run prog W=.ok (.int .i64 ((i-d:Nat):Int)) W:=by
 have h4:IntKind.i64.wrap ((i:Int)-(d:Int))=((i-d:Nat):Int):=by rw[←Int.natCast_sub h2];exact IntWalk.i64_in _ (by omega)
 go_simp
section
variable {P:Program} {md:Region.Mode} {ops:Array Oper} {R:World→World→Prop} {Q:Exit→Act→World→Prop} {rest:List Oper} {o:Oper} {k:Nat} {listed:Array Bool} {a:Act} {wc:World}
def zAU (hw:Region.wanted o (yielded ops a.tmps)=true) (op:BinOp) (t:TypeId) (x y:Operand) (t2:TypeId) (ho:o.op=.binOp op t x y t2) (vx vy:Value) (hx:a.eval x=vx) (hy:a.eval y=vy) (v:Value)
 (hg:∀w,(eqGuard op t x y vx vy).run P w=.ok () w) (hr:∀w,(binOp op t vx vy).run P w=.ok v w) (h:zAS P md ops R Q rest (k+1) (listed.setIfInBounds k true) (a.put o.dst v) wc):zAS P md ops R Q (o::rest) k listed a wc :=
 zE hw v (λw=>by simp[execOp,ho,hx,hy,hg,hr]) h
end
def zAg (w:World) (p:Addr) (cs:List Value):Prop:=∀j v,cs[j]? =some v→w.cell? (p.add j)=some v
section
variable {P:Program}
def zGT (w:World) (p:Addr) (ty:TypeId) (cs:List Value) (d:TypeDesc) (hc:zAg w p cs) (hu:P.underlying ty=some d) (hd:d.isRow=true) (hi:(P.info? ty).map (·.size)=some cs.length) :
 (loadVar ty p).run P w=.ok (.agg cs.toArray) w:=by
 have hl:(loadCells p cs.length).run P w=.ok cs.toArray w:=run_loadCells_list (P:=P) w p cs hc
 cases hq:P.info? ty with
 | none=>simp[hq] at hi
 | some i =>
   have hs:i.size=cs.length:=by simpa [hq] using hi
   have hagg:(isAgg ty).run P w=.ok true w:=by
    unfold isAgg;rw[Sem.run_bind,run_underlying hu w];cases d<;>simp_all
   simp[loadVar,Sem.run_bind,hagg,sizeOf,typeInfo,hq,hs,hl]
def yZ {ops:Array Oper} {rest:List Oper} {op:Oper} {a:Act} {w:World} {Q:Exit→Act→World→Prop} (hw:Region.wanted op (yielded ops a.tmps)=true) (ty:TypeId) (x:Operand) (ho:op.op=.load ty x)
 (p:Addr) (hx:a.eval x=.pointer (some p)) (cs:List Value) (d:TypeDesc) (hc:zAg w p cs) (hu:P.underlying ty=some d) (hd:d.isRow=true) (hi:(P.info? ty).map (·.size)=some cs.length)
 (h:wpList P ops Q rest (a.put op.dst (.agg cs.toArray)) w):wpList P ops Q (op::rest) a w :=
 uS hw λ_ hK=>by
  unfold Oper.wp execOp;simp only[ho,hx,Instr.loadAt,Instr.sureAddr,Sem.run_bind,Sem.run_pure,Result.andThen_ok,zGT w p ty cs d hc hu hd hi];exact hK _ _ h
def zLG {md:Region.Mode} {ops:Array Oper} {R:World→World→Prop} {Q:Exit→Act→World→Prop} {rest:List Oper} {o:Oper} {k:Nat} {listed:Array Bool} {a:Act} {wc:World} (hw:Region.wanted o (yielded ops a.tmps)=true) (ty:TypeId) (x:Operand) (ho:o.op=.load ty x)
 (p:Addr) (hx:a.eval x=.pointer (some p)) (cs:List Value) (d:TypeDesc) (hc:∀w,R wc w→zAg w p cs) (hu:P.underlying ty=some d) (hd:d.isRow=true) (hi:(P.info? ty).map (·.size)=some cs.length)
 (h:zAS P md ops R Q rest (k+1) (listed.setIfInBounds k true) (a.put o.dst (.agg cs.toArray)) wc):zAS P md ops R Q (o::rest) k listed a wc:=by refine xA hw _ (λw hC=> ?_) h;unfold execOp;simp only[ho,hx,Instr.loadAt,Instr.sureAddr,Sem.run_bind,Sem.run_pure,Result.andThen_ok,zGT w p ty cs d (hc w hC) hu hd hi]
end
def SL.part {w:World} {sz n c:Nat} {A:Option Addr} {xs:List Value} (h:SL w sz (.slice A n c) n xs) {k:Nat} (hk:k<n):∃ad,A=some ad∧ad.block<w.heap.size∧zAg w (ad.add (k*sz)) ((xs.drop (k*sz)).take sz):=by
 obtain⟨A',c',he,-,-,hl,hf⟩:=h;injection he with e1 e2 e3
 subst e1;obtain⟨ad,rfl,hb,hcell⟩:=hf (by omega);refine⟨ad,rfl,hb,λj v hv=> ?_⟩;rw[zHz];have hj:j<sz:=by have:=(wB7.1 hv).1;simp at this;omega
 rw[wB8 hj,wB4] at hv;exact hcell _ _ hv
def ints (zs:List Int):List Value:=zs.map (Value.int .i64)
def zCB (zs:List Int) (k:Nat) (u:Value) (h:(ints zs)[k]? =some u):∃hk:k<zs.length,u=.int .i64 zs[k]:=by unfold ints at h;rw[wB9] at h;obtain⟨z,hz,rfl⟩:=wC0.1 h;obtain⟨hk,e⟩:=wB7.1 hz;exact⟨hk,by rw[e]⟩
def yI (zs:List Int):(ints zs).length=zs.length:=by simp[ints]
def zId {α:Type} (xs ys:List α) (k:Nat) (h1:k<xs.length) (h2:k<ys.length) :
 xs.take (k+1)=ys.take (k+1)↔xs.take k=ys.take k∧xs[k]=ys[k]:=by
 rw[wC1 h1,wC1 h2];constructor
 ·intro h;have:=List.append_inj h (by simp;omega);exact⟨this.1,by simpa using this.2⟩
 rintro⟨a,b⟩;rw[a,b]
def eqInt_any (u v:Value) (xs ys:List Int) (w:World) (hu:SL w 1 u xs.length (ints xs)) (hv:SL w 1 v ys.length (ints ys)) :
 Calls prog 26 #[u,v] w λe w'=>e=.returned (.bool (decide (xs=ys)))∧w=w':=by
 have hu':=hu;have hv':=hv;obtain⟨A,c,rfl,hc1,hc2,-,-⟩:=hu';obtain⟨B,d,rfl,hd1,hd2,-,-⟩:=hv'
 by_cases hl:(xs.length:Int) !=ys.length
 ·go_enter func26,ntmps26;go_wp2
  go_ret;refine⟨?_,rfl⟩;have:xs≠ys:=by rintro rfl;simp at hl
  simp[this]
 have h9:(xs.length:Int)=ys.length:=by simpa using hl
 have hl':xs.length=ys.length:=by omega
 clear h9;have HL:=hl';have hn:((xs.length:Int) !=ys.length)=false:=by simpa using hl
 have HE:Hid (xs.length=ys.length):=HL;clear hl HL;go_enter func26,ntmps26;clear hl';go_wp2
 go_loop [14] (λi=>∃k:Nat,k≤xs.length∧i=.int .i64 k∧xs.take k=ys.take k) (λi=>xs.length-(intOf i).toNat)
 case atStart=>exact⟨0,by omega,rfl,by simp⟩
 case round =>
  obtain⟨k,hk,rfl,ht⟩:=hrel;have HT:Hid (xs.take k=ys.take k):=ht;clear ht
  by_cases hlt:k<xs.length
  ·have hlt2:k<ys.length:=by have:=HE.out;omega
   obtain⟨ad,u,rfl,-,hx,hcell⟩:=hu.at1 hlt;obtain⟨_,rfl⟩:=zCB _ _ _ hx;obtain⟨bd,u,rfl,-,hy,hcell2⟩:=hv.at1 hlt2;obtain⟨_,rfl⟩:=zCB _ _ _ hy;clear hx hy
   by_cases hq:xs[k]=ys[k]
   ·have hq':((xs[k]:Int) !=ys[k])=false:=by simpa using hq
    have HQ:Hid (xs[k]=ys[k]):=hq;clear hq;go_wp2
    go_round
    case rel=>exact⟨k+1,by omega,by go_num,(zId _ _ _ hlt hlt2).2 ⟨HT.out,HQ.out⟩⟩
    case measure=>simp[intOf];omega
   have hq':((xs[k]:Int) !=ys[k])=true:=by simpa using hq
   go_wp2
   go_ret;refine⟨?_,rfl⟩;have:xs≠ys:=by rintro rfl;exact hq rfl
   simp[this]
  go_wp2
  go_ret;refine⟨?_,rfl⟩
  have e:xs=ys:=by
   have:=HT.out
   rwa [wC2 (by omega),wC2 (by have:=HE.out;omega)] at this
  simp[e]
def rp (n d:Int):Int:=(2*n+d)/(2*d)
def rnd (n d:Int):Int:=if n<0 then -(rp (-n) d) else rp n d
def zGR (n d:Int) (h0:0≤n) (hd:1≤d):0≤rp n d∧rp n d≤n+1:=by
 unfold rp;constructor
 ·exact Int.ediv_nonneg (by omega) (by omega)
 have h1:(2*n+d)/(2*d)*(2*d)≤2*n+d:=Int.ediv_mul_le _ (by omega);generalize (2*n+d)/(2*d)=q at *;refine Int.not_lt.1 λhq=> ?_
 have h2:(n+2)*(2*d)≤q*(2*d):=wC3 (by omega) (by omega);have h3:n*2≤n*(2*d):=wC4 (by omega) h0;rw[wC5] at h2;omega
def zUY (n d:Int) (hd:1≤d): -(n.natAbs:Int)-1≤rnd n d∧rnd n d≤n.natAbs+1:=by
 unfold rnd;split
 ·have:=zGR (-n) d (by omega) hd;omega
 have:=zGR n d (by omega) hd;omega
def jY (n lo hi:Int):Int:=if n<lo then lo else if hi<n then hi else n
def zIW (n lo hi:Int) (h:lo≤hi):lo≤jY n lo hi∧jY n lo hi≤hi:=by unfold jY;split<;>(try split)<;>omega
def min_max (n lo hi:Int) (h:lo≤hi):min (max n lo) hi=jY n lo hi:=by unfold jY;split<;>(try split)<;>omega
def inB (n lo hi:Int):Bool:=decide (lo≤n∧n≤hi)
def uJ {n lo hi:Int}:inB n lo hi=true↔lo≤n∧n≤hi:=by simp[inB]
def zCe {n lo hi:Int}:inB n lo hi=false↔n<lo∨hi<n:=by rw[←wC6,uJ];omega
def zR (zs:List Int) (lo hi:Int):Bool:=zs.all λz=>inB z lo hi
def yJ {zs:List Int} {lo hi:Int}:zR zs lo hi=true↔ ∀z∈zs,lo≤z∧z≤hi:=by simp[zR,uJ]
def zRs {zs:List Int} {lo hi:Int} {k:Nat} (hk:k<zs.length) (h:inB zs[k] lo hi=false):zR zs lo hi=false:=by rw[←wC6,yJ];intro hh;have:=uJ.2 (hh _ (wC7 hk));rw[this] at h;cases h
def allIn_not {zs:List Int} {lo hi:Int}:(!zs.any λz=>decide (z<lo) ||decide (hi<z))=zR zs lo hi:=by rw[wC8,yJ];simp only[wC9,List.any_eq_false,wD0,wB3];exact⟨λh z hz=>by have:=h z hz;omega,λh z hz=>by have:=h z hz;omega⟩
def zDk {zs:List Int} {lo hi:Int}:(zs.any λz=> !inB z lo hi)= !zR zs lo hi:=by simp[zR,List.all_eq_not_any_not]
def zKO:(prog.info? 3).map (·.size)=some 1:=by kernel_rfl
def bv (zs:List Int):Array Value:=(ints zs).toArray
def zK (zs:List Int):(bv zs).size=zs.length:=by simp[bv,yI]
def jQ (zs:List Int) (k:Nat) (h:k<zs.length):(bv zs)[k]? =some (.int .i64 zs[k]):=by simp[bv,ints,h]
def xR (zs:List Int):(bv zs).all (·.oneCell')=true:=by simp only[bv,wD1];intro v hv;simp only[List.mem_toArray,ints,wD2] at hv;obtain⟨z,-,rfl⟩:=hv;rfl
def zAE (zs:List Int) (k:Nat) (z:Int):(bv zs).setIfInBounds k (.int .i64 z)=bv (zs.set k z):=by simp[bv,ints,List.map_set]
def Blk.bsl {w:World} {g:Nat} {T:TypeId} {zs:List Int} {c:Nat} (h:Blk w g T (bv zs)) (hc:zs.length≤c) (hc2:c≤9223372036854775807) :
 SL w 1 (.slice (some ⟨g,0,none⟩) zs.length c) zs.length (Go.Proofs.YtkggcjdlpendfaaGreatDoor.ints zs):=by have:=h.sl (size:=1) (n:=zs.length) (c:=c) (by simp[zK]) hc hc2;simpa [bv] using this
def zHW {zs:List Int} {lo hi:Int} {k:Nat} (h:∀z∈zs.take k,lo≤z∧z≤hi) (hk:k<zs.length) (hz:lo≤zs[k]∧zs[k]≤hi):∀z∈zs.take (k+1),lo≤z∧z≤hi:=by
 rw[wC1 hk];intro z hz';rcases wD3.1 hz' with h1 | h1
 ·exact h z h1
 simp at h1;subst h1;exact hz
def uN (P:Program) (f:FuncId):Prop:=∀(args:Array Value) (w:World),(callFunc f args).run P w=.ok (.enter f args) w
def zAd {P : Program} {f : FuncId} {fn : Func} {c : Code} (hf : P.funcs[f]? = some fn) (hname : (fn.name == "runtime.NumGoroutine") = false) (hb : fn.body = some c) : uN P f := by
 intro args w;have hn : ¬ fn.name = "runtime.NumGoroutine" := by simpa using hname
 simp[callFunc,hf,hb,hn]
def zHf (p:Int→Bool) (zs:List Int):Int:=match zs.findIdx? p with | some k=>k | none=> -1
def zQU (g:Nat) (cap:Array Value) (p:Int→Bool) (eg:uN prog g) (v:Value) (zs:List Int) (w:World) (hs:SL w 1 v zs.length (ints zs))
 (hp:∀z∈zs,Calls prog g (#[.int .i64 z]++cap) w λe w'=>e=.returned (.bool (p z))∧w=w') :
 Calls prog 140 #[v,.func (.func g) #[] cap] w λe w'=>e=.returned (.int .i64 (zHf p zs))∧w=w':=by
 have hs':=hs;obtain⟨A,c,rfl,hc1,hc2,-,-⟩:=hs';go_enter func140,ntmps140;go_wp2_with fail
 go_loop [8] (λi=>∃k:Nat,k≤zs.length∧i=.int .i64 k∧∀z∈zs.take k,p z=false) (λi=>zs.length-(intOf i).toNat)
 case atStart=>exact⟨0,by omega,rfl,by simp⟩
 case round =>
  obtain⟨k,hk,rfl,ht⟩:=hrel;have HT:Hid (∀z∈zs.take k,p z=false):=ht;clear ht
  by_cases hlt:k<zs.length
  ·obtain⟨ad,u,rfl,-,hx,hcell⟩:=hs.at1 hlt;obtain⟨_,rfl⟩:=zCB _ _ _ hx;clear hx;have hcall:=hp zs[k] (wC7 _);have HC:Hid (Calls prog g (#[.int .i64 zs[k]]++cap) w λe w'=>e=.returned (.bool (p zs[k]))∧w=w'):=hcall;have HP:Hid (∀z∈zs,Calls prog g (#[.int .i64 z]++cap) w λe w'=>e=.returned (.bool (p z))∧w=w'):=hp;clear hcall hp;unfold uN at eg
   by_cases hz:p zs[k]=true
   ·have hfin:zHf p zs=k:=by
     unfold zHf
     have:zs.findIdx? p=some k:=by
      rw[wD4];refine⟨hlt,hz,λj hj=> ?_⟩
      have:=HT.out zs[j] (by
       rw[wD5]
       exact⟨j,by omega,rfl⟩)
      simp[this]
     rw[this]
    have HF:=zA hfin;clear hfin;go_wp2_with fail;refine HC.out.mono ?_;rintro e w' ⟨rfl,rfl⟩;rw[hz];clear hz;go_wp2
    go_ret;exact⟨by rw[HF.out];rfl,rfl⟩
   have hz':p zs[k]=false:=by simpa using hz
   have HZ:=zA hz';clear hz;go_wp2_with fail;refine HC.out.mono ?_;rintro e w' ⟨rfl,rfl⟩;rw[hz'];clear hz';go_wp2
   go_round
   case rel =>
    refine⟨k+1,by omega,by go_num,λz hz=> ?_⟩;rw[wC1 hlt] at hz;rcases wD3.1 hz with h1 | h1
    ·exact HT.out z h1
    simp at h1;subst h1;exact HZ.out
   case measure=>simp[intOf];omega
  have hfin:zHf p zs= -1:=by
   unfold zHf
   have:zs.findIdx? p=none:=by
    rw[wD6];have h:=HT.out
    rwa [wC2 (by omega)] at h
   rw[this]
  have HF:=zA hfin;clear hfin;go_wp2
  go_ret;exact⟨by rw[HF.out];rfl,rfl⟩
def idxOf_ge (p:Int→Bool) (zs:List Int):decide (zHf p zs≥0)=zs.any p:=by
 unfold zHf
 cases h:zs.findIdx? p with
 | none =>
   have:zs.any p=false:=by rw[List.any_eq_false];intro x hx;have:=wD6.1 h x hx;simp[this]
   simp[this]
 | some k =>
   have:zs.any p=true:=by
    rw[List.any_eq_true];obtain⟨hk,hp,-⟩:=wD4.1 h;exact⟨_,wC7 hk,hp⟩
   simp[this]
def vH (g:Nat) (cap:Array Value) (p:Int→Bool) (eg:uN prog g) (v:Value) (zs:List Int) (w:World) (hs:SL w 1 v zs.length (ints zs))
 (hp:∀z∈zs,Calls prog g (#[.int .i64 z]++cap) w λe w'=>e=.returned (.bool (p z))∧w=w') :
 Calls prog 88 #[v,.func (.func g) #[] cap] w λe w'=>e=.returned (.bool (zs.any p))∧w=w':=by
 have HP:=zA hp;have HG:=zA eg;clear hp eg;go_enter func88,ntmps88;go_wp2_with (go_at_call 140;refine (zQU g cap p HG.out v zs _ hs HP.out).mono ?_;rintro e w' ⟨rfl,rfl⟩)
 go_ret;exact⟨by rw[←idxOf_ge];rfl,rfl⟩
def zGk (cs:Array Value) (i:Nat) (u:Value) (hi:i<64) (hu:cs[i]? =some u) (w:World):(Instr.index 33 (.agg cs) (.int .i64 (i:Int))).run prog w=.ok u w :=
 zCb _ _ 64 cs i u underlying33 _ underlying3 zKO hi hu w
def zJ:(prog.info? 33).map (·.size)=some 64:=by kernel_rfl
def zHX (x y z:Int) (h:IntKind.i64.wrap (x*y)=z) (W:World):(binOp .mul 3 (.int .i64 x) (.int .i64 y)).run prog W=.ok (.int .i64 z) W:=by subst h;go_simp
def zEW (x y z:Int) (h:IntKind.i64.wrap (x+y)=z) (W:World):(binOp .add 3 (.int .i64 x) (.int .i64 y)).run prog W=.ok (.int .i64 z) W:=by subst h;go_simp
def run_indexI (g n:Nat) (h:n<64) (W:World):(Instr.indexAt 33 (.pointer (some ⟨g,0,none⟩)) (.int .i64 (n:Int))).run prog W=.ok (.pointer (some ⟨g,n,none⟩)) W:=by
 have h0:(0:Int)≤(n:Int):=by omega
 have h1:(n:Int)<64:=by omega
 go_simp
def run_loadI (W:World) (p:Addr) (z:Int) (h:W.cell? p=some (.int .i64 z)):(Instr.loadAt 3 (.pointer (some p))).run prog W=.ok (.int .i64 z) W:=by go_simp
def guardI (op:BinOp) (x y:Operand) (v w:Int) (W:World):(eqGuard op 3 x y (.int .i64 v) (.int .i64 w)).run prog W=.ok () W:=by cases op<;>go_simp
def wp_storeI {o:Oper} {a:Act} {w:World} {K:Act→World→Prop} {Q:Exit→Act→World→Prop} (x y:Operand) (ho:o.op=.store 3 x y) (p:Addr) (z:Int) (hx:a.eval x=.pointer (some p)) (hy:a.eval y=.int .i64 z)
 (u:Value) (hc:w.cell? p=some u) (hf:w.frozen? p=false) (h:K (a.put o.dst undef) (w.setCell p (.int .i64 z))):o.wp prog a w K Q:=by
 unfold Oper.wp execOp;simp only[ho,hx,hy];go_simp
 exact h
section
variable {o:Oper} {a:Act}
def zD {P:Program} {x:Operand} (ho:o.op=.move x) {v:Value} (hx:a.eval x=v) (w:World):(execOp a.eval o).run P w=.ok (.value v) w:=by simp[execOp,ho,hx]
def zW {P:Program} {x:Operand} (ho:o.op=.assign x) {v:Value} (hx:a.eval x=v) (w:World):(execOp a.eval o).run P w=.ok (.value v) w:=by simp[execOp,ho,hx]
def jO {op:BinOp} {x y:Operand} {t2:TypeId} (ho:o.op=.binOp op 3 x y t2) {m n:Int} (hx:a.eval x=.int .i64 m) (hy:a.eval y=.int .i64 n) {v:Value}
 (hr:∀w,(binOp op 3 (.int .i64 m) (.int .i64 n)).run prog w=.ok v w) (w:World):(execOp a.eval o).run prog w=.ok (.value v) w:=by simp[execOp,ho,hx,hy,zBy,hr]
def yL {x y:Operand} {t2:TypeId} (ho:o.op=.binOp .add 3 x y t2) {i d:Nat} (hx:a.eval x=.int .i64 (i:Int)) (hy:a.eval y=.int .i64 (d:Int)) (h:i+d<1000000000000) (w:World) :
 (execOp a.eval o).run prog w=.ok (.value (.int .i64 ((i+d:Nat):Int))) w:=jO ho hx hy (zIR i d h) w
def xP {x y:Operand} {t2:TypeId} (ho:o.op=.binOp .sub 3 x y t2) {i d:Nat} (hx:a.eval x=.int .i64 (i:Int)) (hy:a.eval y=.int .i64 (d:Int)) (h:i<1000000000000) (h2:d≤i) (w:World) :
 (execOp a.eval o).run prog w=.ok (.value (.int .i64 ((i-d:Nat):Int))) w:=jO ho hx hy (zIO i d h h2) w
def zCc {x y:Operand} {t2:TypeId} (ho:o.op=.binOp .mul 3 x y t2) {i d:Nat} (hx:a.eval x=.int .i64 (i:Int)) (hy:a.eval y=.int .i64 (d:Int)) (h:i*d<1000000000000) (w:World) :
 (execOp a.eval o).run prog w=.ok (.value (.int .i64 ((i*d:Nat):Int))) w:=jO ho hx hy (zFr i d _ rfl h) w
def zDf {x y:Operand} {t2:TypeId} (ho:o.op=.binOp .quo 3 x y t2) {i d:Nat} (hx:a.eval x=.int .i64 (i:Int)) (hy:a.eval y=.int .i64 (d:Int)) (h:i<1000000000000) (h2:0<d) (w:World) :
 (execOp a.eval o).run prog w=.ok (.value (.int .i64 ((i/d:Nat):Int))) w:=jO ho hx hy (zIT i d h h2) w
def zNv {x y:Operand} {t2:TypeId} (ho:o.op=.binOp .rem 3 x y t2) {i d:Nat} (hx:a.eval x=.int .i64 (i:Int)) (hy:a.eval y=.int .i64 (d:Int)) (h:i<1000000000000) (h2:0<d) (w:World) :
 (execOp a.eval o).run prog w=.ok (.value (.int .i64 ((i%d:Nat):Int))) w:=jO ho hx hy (zHo i d h h2) w
def zVN {x y:Operand} {t2:TypeId} (ho:o.op=.binOp .add 3 x y t2) {i d:Int} (hx:a.eval x=.int .i64 i) (hy:a.eval y=.int .i64 d) (h: -9223372036854775808≤i+d∧i+d≤9223372036854775807) (w:World) :
 (execOp a.eval o).run prog w=.ok (.value (.int .i64 (i+d))) w:=jO ho hx hy (zEW i d _ (IntWalk.i64_in _ h)) w
def run_subI (x y z:Int) (h:IntKind.i64.wrap (x-y)=z) (W:World):(binOp .sub 3 (.int .i64 x) (.int .i64 y)).run prog W=.ok (.int .i64 z) W:=by subst h;go_simp
def zNu {x y:Operand} {t2:TypeId} (ho:o.op=.binOp .sub 3 x y t2) {i d:Int} (hx:a.eval x=.int .i64 i) (hy:a.eval y=.int .i64 d) (h: -9223372036854775808≤i-d∧i-d≤9223372036854775807) (w:World) :
 (execOp a.eval o).run prog w=.ok (.value (.int .i64 (i-d))) w:=jO ho hx hy (run_subI i d _ (IntWalk.i64_in _ h)) w
def ex_mulI {x y:Operand} {t2:TypeId} (ho:o.op=.binOp .mul 3 x y t2) {i d:Int} (hx:a.eval x=.int .i64 i) (hy:a.eval y=.int .i64 d) (h: -9223372036854775808≤i*d∧i*d≤9223372036854775807) (w:World) :
 (execOp a.eval o).run prog w=.ok (.value (.int .i64 (i*d))) w:=jO ho hx hy (zHX i d _ (IntWalk.i64_in _ h)) w
def zKb {x y:Operand} {ats:Array TypeId} (ho:o.op=.call { callee:=.builtin .min,args:= #[x,y],argTypes:=ats }) {i d:Nat} (hx:a.eval x=.int .i64 (i:Int)) (hy:a.eval y=.int .i64 (d:Int)) (w:World) :
 (execOp a.eval o).run prog w=.ok (.value (.int .i64 ((min i d:Nat):Int))) w:=by simp[execOp,ho,hx,hy,resolve,invoke,builtin,Builtin.min_,Builtin.min2];split<;>omega
def ex_maxI {x y:Operand} {ats:Array TypeId} (ho:o.op=.call { callee:=.builtin .max,args:= #[x,y],argTypes:=ats }) {i d:Int} (hx:a.eval x=.int .i64 i) (hy:a.eval y=.int .i64 d) (w:World) :
 (execOp a.eval o).run prog w=.ok (.value (.int .i64 (max i d))) w:=by
 have e:(if i<d then d else i)=max i d:=by split<;>omega
 simp[execOp,ho,hx,hy,resolve,invoke,builtin,Builtin.max_,Builtin.max2,e]
def ex_minI {x y:Operand} {ats:Array TypeId} (ho:o.op=.call { callee:=.builtin .min,args:= #[x,y],argTypes:=ats }) {i d:Int} (hx:a.eval x=.int .i64 i) (hy:a.eval y=.int .i64 d) (w:World) :
 (execOp a.eval o).run prog w=.ok (.value (.int .i64 (min i d))) w:=by
 have e:(if d<i then d else i)=min i d:=by split<;>omega
 simp[execOp,ho,hx,hy,resolve,invoke,builtin,Builtin.min_,Builtin.min2,e]
def yR {P:Program} {x:Operand} {n:Nat} (ho:o.op=.extract x n) {vs:Array Value} (hx:a.eval x=.tuple vs) {v:Value} (hv:vs[n]? =some v) (w:World):(execOp a.eval o).run P w=.ok (.value v) w:=by simp[execOp,ho,hx,Instr.extract,hv]
def guardG (op:BinOp) (t:TypeId) (x y:Operand) (k k':IntKind) (v w:Int) {P:Program} (W:World):(eqGuard op t x y (.int k v) (.int k' w)).run P W=.ok () W:=by cases op<;>simp[eqGuard]
def zJS {P:Program} {op:BinOp} {t:TypeId} {x y:Operand} {t2:TypeId} (ho:o.op=.binOp op t x y t2) {m n:Int} (hx:a.eval x=.int .i64 m) (hy:a.eval y=.int .i64 n) {b:Bool}
 (hr:∀w,(binOp op t (.int .i64 m) (.int .i64 n)).run P w=.ok (.bool b) w) (w:World):(execOp a.eval o).run P w=.ok (.value (.bool b)) w:=by simp[execOp,ho,hx,hy,guardG,hr]
def yB {P:Program} {t:TypeId} {x y:Operand} {t2:TypeId} (ho:o.op=.binOp .lss t x y t2) {m n:Int} (hx:a.eval x=.int .i64 m) (hy:a.eval y=.int .i64 n) {b:Bool} (h:decide (m<n)=b) (w:World) :
 (execOp a.eval o).run P w=.ok (.value (.bool b)) w:=zJS ho hx hy (λw=>by subst h;simp[binOp,Op.intCmp]) w
def xY {P:Program} {t:TypeId} {x y:Operand} {t2:TypeId} (ho:o.op=.binOp .gtr t x y t2) {m n:Int} (hx:a.eval x=.int .i64 m) (hy:a.eval y=.int .i64 n) {b:Bool} (h:decide (n<m)=b) (w:World) :
 (execOp a.eval o).run P w=.ok (.value (.bool b)) w:=zJS ho hx hy (λw=>by subst h;simp[binOp,Op.intCmp]) w
def zJB {P:Program} {t:TypeId} {x y:Operand} {t2:TypeId} (ho:o.op=.binOp .leq t x y t2) {m n:Int} (hx:a.eval x=.int .i64 m) (hy:a.eval y=.int .i64 n) {b:Bool} (h:decide (m≤n)=b) (w:World) :
 (execOp a.eval o).run P w=.ok (.value (.bool b)) w:=zJS ho hx hy (λw=>by subst h;simp[binOp,Op.intCmp]) w
def uZ {P:Program} {t:TypeId} {x y:Operand} {t2:TypeId} (ho:o.op=.binOp .eql t x y t2) {m n:Int} (hx:a.eval x=.int .i64 m) (hy:a.eval y=.int .i64 n) {b:Bool} (h:decide (m=n)=b) (w:World) :
 (execOp a.eval o).run P w=.ok (.value (.bool b)) w:=zJS ho hx hy (λw=>by subst h;by_cases e:m=n<;>simp[binOp,Op.intCmp,e]) w
def jW {P:Program} {t:TypeId} {x y:Operand} {t2:TypeId} (ho:o.op=.binOp .neq t x y t2) {m n:Int} (hx:a.eval x=.int .i64 m) (hy:a.eval y=.int .i64 n) {b:Bool} (h:decide (m≠n)=b) (w:World) :
 (execOp a.eval o).run P w=.ok (.value (.bool b)) w:=zJS ho hx hy (λw=>by subst h;by_cases e:m=n<;>simp[binOp,Op.intCmp,e]) w
def zJl {P:Program} {t:TypeId} {x:Operand} (ho:o.op=.unOp .not t x) {b:Bool} (hx:a.eval x=.bool b) (w:World):(execOp a.eval o).run P w=.ok (.value (.bool (!b))) w:=by simp[execOp,ho,hx,Op.unary]
def zCg {P:Program} {c x y:Operand} (ho:o.op=.pick c x y) {b:Bool} (hb:a.eval c=.bool b) {v:Value} (hv:(if b then a.eval x else a.eval y)=v) (w:World):(execOp a.eval o).run P w=.ok (.value v) w:=by subst hv;simp[execOp,ho,hb,asBool]
def zOi {P:Program} {t:TypeId} (ho:o.op=.build t #[]) {cs:Array Value} (hf:P.built t []=some cs) (w:World):(execOp a.eval o).run P w=.ok (.value (.agg cs)) w:=by simp only[execOp,ho,Sem.run_bind,run_build w t (#[].map λ(i,x)=>(i,a.eval x)) cs (by simpa using hf),Result.andThen_ok,Sem.run_pure]
def zPx {P:Program} {e:TypeId} {sz:Nat} (hs:(P.info? e).map (·.size)=some sz) (w:World):(sizeOf e).run P w=.ok sz w:=by
 cases hq:P.info? e with
 | none=>simp[hq] at hs
 | some i=>have hz:i.size=sz:=by simpa [hq] using hs
           simp[sizeOf,typeInfo,hq,hz]
def qP {P:Program} {t e:TypeId} {sz:Nat} (ht:P.underlying t=some (.slice e)) (hs:(P.info? e).map (·.size)=some sz) {x ix:Operand} (ho:o.op=.indexAddr t x ix) {ad:Addr} {n c i:Nat} {k:IntKind} (hx:a.eval x=.slice (some ad) n c) (hi:a.eval ix=.int k (i:Int)) (h:i<n) (w:World) :
 (execOp a.eval o).run P w=.ok (.value (.pointer (some (ad.add (i*sz))))) w:=by
 have hc:((0:Int)≤(i:Int)∧(i:Int)<(n:Int))=True:=by simp;omega
 simp only[execOp,ho,hx,hi,Instr.indexAt,Sem.run_bind,run_underlying ht,Result.andThen_ok,asIntOf,Sem.run_pure,hc,if_true,zPx hs,wD7]
def ex_ixArr {P:Program} {t e:TypeId} {sz m:Nat} (ht:P.underlying t=some (.array m e)) (hs:(P.info? e).map (·.size)=some sz) {x ix:Operand} (ho:o.op=.indexAddr t x ix) {ad:Addr} {i:Nat} {k:IntKind} (hx:a.eval x=.pointer (some ad)) (hi:a.eval ix=.int k (i:Int)) (h:i<m) (w:World) :
 (execOp a.eval o).run P w=.ok (.value (.pointer (some (ad.add (i*sz))))) w:=by
 have hc:((0:Int)≤(i:Int)∧(i:Int)<(m:Int))=True:=by simp;omega
 simp only[execOp,ho,hx,hi,Instr.indexAt,Instr.sureAddr,Sem.run_bind,run_underlying ht,Result.andThen_ok,asIntOf,Sem.run_pure,hc,if_true,zPx hs,wD7]
def zBe (g m n:Nat):(⟨g,m,none⟩:Addr).add n=⟨g,m+n,none⟩:=by
 unfold Addr.add
 by_cases hn:n=0
 ·subst hn;rfl
 rw[if_neg hn]
def zFs {P:Program} {t e:TypeId} {sz:Nat} (ht:P.underlying t=some (.slice e)) (hs:(P.info? e).map (·.size)=some sz) {x ix:Operand} (ho:o.op=.indexAddr t x ix) {g m n c i:Nat} {k:IntKind} (hx:a.eval x=.slice (some ⟨g,m,none⟩) n c) (hi:a.eval ix=.int k (i:Int)) (h:i<n) (w:World) :
 (execOp a.eval o).run P w=.ok (.value (.pointer (some ⟨g,m+i*sz,none⟩))) w:=by rw[←zBe];exact qP ht hs ho hx hi h w
def zPW {P:Program} {t e:TypeId} {sz m:Nat} (ht:P.underlying t=some (.array m e)) (hs:(P.info? e).map (·.size)=some sz) {x ix:Operand} (ho:o.op=.indexAddr t x ix) {g b i:Nat} {k:IntKind} (hx:a.eval x=.pointer (some ⟨g,b,none⟩)) (hi:a.eval ix=.int k (i:Int)) (h:i<m) (w:World) :
 (execOp a.eval o).run P w=.ok (.value (.pointer (some ⟨g,b+i*sz,none⟩))) w:=by rw[←zBe];exact ex_ixArr ht hs ho hx hi h w
def ex_ixSl1 {P:Program} {t e:TypeId} (ht:P.underlying t=some (.slice e)) (hs:(P.info? e).map (·.size)=some 1) {x ix:Operand} (ho:o.op=.indexAddr t x ix) {g m n c i:Nat} {k:IntKind} (hx:a.eval x=.slice (some ⟨g,m,none⟩) n c) (hi:a.eval ix=.int k (i:Int)) (h:i<n) (w:World) :
 (execOp a.eval o).run P w=.ok (.value (.pointer (some ⟨g,m+i,none⟩))) w:=by
 have:=zFs ht hs ho hx hi h w
 rwa [wD8] at this
def zAH {P:Program} {t e:TypeId} (ht:P.underlying t=some (.slice e)) (hs:(P.info? e).map (·.size)=some 1) {x ix:Operand} (ho:o.op=.indexAddr t x ix) {g n c i:Nat} {k:IntKind} (hx:a.eval x=.slice (some ⟨g,0,none⟩) n c) (hi:a.eval ix=.int k (i:Int)) (h:i<n) (w:World) :
 (execOp a.eval o).run P w=.ok (.value (.pointer (some ⟨g,i,none⟩))) w:=by
 have:=ex_ixSl1 ht hs ho hx hi h w
 rwa [wB2] at this
def ex_ixArr1 {P:Program} {t e:TypeId} {m:Nat} (ht:P.underlying t=some (.array m e)) (hs:(P.info? e).map (·.size)=some 1) {x ix:Operand} (ho:o.op=.indexAddr t x ix) {g b i:Nat} {k:IntKind} (hx:a.eval x=.pointer (some ⟨g,b,none⟩)) (hi:a.eval ix=.int k (i:Int)) (h:i<m) (w:World) :
 (execOp a.eval o).run P w=.ok (.value (.pointer (some ⟨g,b+i,none⟩))) w:=by
 have:=zPW ht hs ho hx hi h w
 rwa [wD8] at this
def zJJ {P:Program} {t e:TypeId} {m:Nat} (ht:P.underlying t=some (.array m e)) (hs:(P.info? e).map (·.size)=some 1) {x ix:Operand} (ho:o.op=.indexAddr t x ix) {g i:Nat} {k:IntKind} (hx:a.eval x=.pointer (some ⟨g,0,none⟩)) (hi:a.eval ix=.int k (i:Int)) (h:i<m) (w:World) :
 (execOp a.eval o).run P w=.ok (.value (.pointer (some ⟨g,i,none⟩))) w:=by
 have:=ex_ixArr1 ht hs ho hx hi h w
 rwa [wB2] at this
def zS {x:Operand} (ho:o.op=.load 3 x) {p:Addr} (hx:a.eval x=.pointer (some p)) {z:Int} {w:World} (h:w.cell? p=some (.int .i64 z)):(execOp a.eval o).run prog w=.ok (.value (.int .i64 z)) w:=by simp[execOp,ho,hx,run_loadI w p z h]
end
def jM:(prog.info? 3).map (·.size)=some 1:=by kernel_rfl
section
variable {P:Program} {ops:Array Oper} {Q:Exit→Act→World→Prop} {rest:List Oper} {o:Oper} {a:Act} {w:World}
def zB (hg:o.guard=none) (v:Value) (h1:∀w,(execOp a.eval o).run P w=.ok (.value v) w) (h:wpList P ops Q rest (a.put o.dst v) w):wpList P ops Q (o::rest) a w :=
 wpList_plain hg λ_ hK=>by unfold Oper.wp;rw[h1];exact hK _ _ h
def xV (hw:Region.wanted o (yielded ops a.tmps)=true) (v:Value) (h1:∀w,(execOp a.eval o).run P w=.ok (.value v) w) (h:wpList P ops Q rest (a.put o.dst v) w):wpList P ops Q (o::rest) a w :=
 uS hw λ_ hK=>by unfold Oper.wp;rw[h1];exact hK _ _ h
def zBU (hw:Region.wanted o (yielded ops a.tmps)=true) (v:Value) (h1:(execOp a.eval o).run P w=.ok (.value v) w) (h:wpList P ops Q rest (a.put o.dst v) w):wpList P ops Q (o::rest) a w :=
 uS hw λ_ hK=>by unfold Oper.wp;rw[h1];exact hK _ _ h
def yU (hg:o.guard=none) (v:Value) (h1:(execOp a.eval o).run P w=.ok (.value v) w) (h:wpList P ops Q rest (a.put o.dst v) w):wpList P ops Q (o::rest) a w :=
 wpList_plain hg λ_ hK=>by unfold Oper.wp;rw[h1];exact hK _ _ h
end
def zAc {ops:Array Oper} {Q:Exit→Act→World→Prop} {rest:List Oper} {o:Oper} {a:Act} {w:World} (hg:o.guard=none) (x y:Operand) (ho:o.op=.store 3 x y) (g i:Nat) (z:Int) (hx:a.eval x=.pointer (some ⟨g,i,none⟩)) (hy:a.eval y=.int .i64 z)
 {t:TypeId} {cs:Array Value} (hB:Blk w g t cs) (hi:i<cs.size) (h:wpList prog ops Q rest (a.put o.dst undef) (w.setCell ⟨g,i,none⟩ (.int .i64 z))):wpList prog ops Q (o::rest) a w :=
 wpList_plain hg λ_ hK=>wp_storeI x y ho ⟨g,i,none⟩ z hx hy _ ((hB.cell i).trans (wD9 hi)) (hB.frozen i) (hK _ _ h)
