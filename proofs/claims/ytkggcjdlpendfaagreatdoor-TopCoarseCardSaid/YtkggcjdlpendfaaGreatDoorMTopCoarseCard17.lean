/- Contracts of the functions that the law reaches, part 17. -/
import Derived.Test.YtkggcjdlpendfaaGreatDoorMTopCoarseCard16
namespace Go.Proofs.YtkggcjdlpendfaaGreatDoor
set_option linter.unusedVariables false
set_option linter.unusedSimpArgs false
set_option maxRecDepth 20000
set_option maxHeartbeats 8000000
open Go.RowKit
abbrev Pk:=Int×Value
def jJ (L:List Pk):List Value:=L.flatMap fun p=>[.int .i64 p.1,p.2]
def pkV (p:Pk):Array Value:= #[.int .i64 p.1,p.2]
theorem zDs (L:List Pk):(jJ L).length=2*L.length:=by
 induction L with
 | nil=>rfl
 | cons p L ih=>simp only[jJ,wJ0,wF1,wA8,wL7] at ih ⊢;omega
theorem zJy (a b:List Pk):jJ (a++b)=jJ a++jJ b:=by simp[jJ]
theorem zHT (L:List Pk) (i:Nat) (h:i<L.length) (p:Pk):jJ (L.set i p)=jJ (L.take i)++([.int .i64 p.1,p.2]++jJ (L.drop (i+1))):=by
 rw[List.set_eq_take_append_cons_drop,if_pos h,zJy]
 rfl
theorem zGg (L:List Pk) (i:Nat) (h:i<L.length):jJ L=jJ (L.take i)++([.int .i64 L[i].1,L[i].2]++jJ (L.drop (i+1))):=by
 have:=zHT L i h L[i]
 rwa [List.set_getElem_self] at this
def DS (w:World) (gd:Nat) (L:List Pk) (rest:List Value):Prop:=Blk w gd 188 (jJ L++rest).toArray
theorem zEO:(Tryz.prog.info? 188).map (·.size)=some 2:=by kernel_rfl
section
variable {ops:Array Oper} {rest:List Oper} {o:Oper} {ac:Act} {w:World} {Q:Exit→Act→World→Prop}
theorem xO {x:Operand} (ho:o.op=.load 188 x) {gd:Nat} {L:List Pk} {tl:List Value} (hB:DS w gd L tl) {i:Nat} (hi:i<L.length) (hx:ac.eval x=.pointer (some ⟨gd,i*2,none⟩)) :
 (execOp ac.eval o).run Tryz.prog w=.ok (.value (.agg (pkV L[i]))) w:=by
 have hr:w.rangeAt gd (i*2) [.int .i64 L[i].1,L[i].2]:=by
  unfold DS at hB
  rw[zGg L i hi,wG0,wG0] at hB
  have hl:(jJ (L.take i)).length=i*2:=by rw[zDs,wI4];omega
  intro j v hv
  rw[hB.cell,wH2,wG5 (by omega),hl,show i*2+j-i*2=j by omega,wG4 (wC2.1 hv).1]
  exact hv
 unfold execOp
 simp only[ho,hx,Instr.loadAt,Instr.sureAddr,Sem.run_bind,Sem.run_pure,Result.andThen_ok,run_loadVar_mid w gd (i*2) 188 _ _ hr Tryz.underlying188 rfl zEO]
 rfl
theorem zAh (hgd:o.guard=none) (x y:Operand) (ho:o.op=.store 188 x y) (gd:Nat) (L:List Pk) (tl:List Value) (hB:DS w gd L tl) (i:Nat) (hi:i<L.length) (p:Pk) (h1:p.2.oneCell'=true) (hx:ac.eval x=.pointer (some ⟨gd,i*2,none⟩)) (hy:ac.eval y=.agg (pkV p))
 (h: ∀ w1,DS w1 gd (L.set i p) tl→Upd (fun b=>b=gd) w w1→wpList Tryz.prog ops Q rest (ac.put o.dst undef) w1):wpList Tryz.prog ops Q (o::rest) ac w:=by
 unfold DS at hB h
 rw[zGg L i hi,wG0,wG0] at hB
 refine vB hgd _ x y ho gd (i*2) [.int .i64 p.1,p.2] hx hy hB (by rw[zDs,wI4];omega) rfl zEO (fun v hv=> ?_) (fun w1 k1 k2=>h w1 ?_ k2)
 ·simp at hv
  rcases hv with rfl | rfl
  ·rfl
  ·exact h1
 ·rw[zHT L i hi p,wG0,wG0]
  exact k1
end
def uW (a b:Int):Int:=if a<b then -1 else if b<a then 1 else 0
theorem zLw (a:Int) (w:World):Calls Tryz.prog 208 #[.int .i64 a] w fun e w'=>e=.returned (.bool false)∧w=w':=by
 go_enter Tryz.func208,Tryz.ntmps208
 go_wp2_with ((with_reducible apply gS 5);refine zB rfl (.bool false) (zAK rfl rfl rfl (by simp)) ?_)
 go_ret
 exact⟨rfl,rfl⟩
theorem zOw (a b:Int) (w:World):Calls Tryz.prog 182 #[.int .i64 a,.int .i64 b] w fun e w'=>e=.returned (.int .i64 (uW a b))∧w=w':=by
 have h1:=zA (zLw a w)
 have h2:=zA (zLw b w)
 by_cases hab:a<b
 ·have e:uW a b= -1:=by unfold uW;rw[if_pos hab]
  rw[e]
  go_enter Tryz.func182,Tryz.ntmps182
  go_wp2_with (first
   | (go_at_call 208;(with_reducible refine h1.out.mono ?_);rintro e w1 ⟨rfl,rfl⟩)
   | (go_at_call 208;(with_reducible refine h2.out.mono ?_);rintro e w1 ⟨rfl,rfl⟩)
   | ((with_reducible apply gS 16);refine zB rfl (.bool true) (zR rfl rfl rfl (by simpa using hab)) ?_))
  go_ret
  exact⟨rfl,rfl⟩
 ·by_cases hba:b<a
  ·have e:uW a b=1:=by unfold uW;rw[if_neg hab,if_pos hba]
   rw[e]
   go_enter Tryz.func182,Tryz.ntmps182
   go_wp2_with (first
    | (go_at_call 208;(with_reducible refine h1.out.mono ?_);rintro e w1 ⟨rfl,rfl⟩)
    | (go_at_call 208;(with_reducible refine h2.out.mono ?_);rintro e w1 ⟨rfl,rfl⟩)
    | ((with_reducible apply gS 16);refine zB rfl (.bool false) (zR rfl rfl rfl (by simpa using hab)) ?_)
    | ((with_reducible apply gS 19);refine zB rfl (.bool true) (xP rfl rfl rfl (by simpa using hba)) ?_))
   go_ret
   exact⟨rfl,rfl⟩
  ·have e:uW a b=0:=by unfold uW;rw[if_neg hab,if_neg hba]
   rw[e]
   go_enter Tryz.func182,Tryz.ntmps182
   go_wp2_with (first
    | (go_at_call 208;(with_reducible refine h1.out.mono ?_);rintro e w1 ⟨rfl,rfl⟩)
    | (go_at_call 208;(with_reducible refine h2.out.mono ?_);rintro e w1 ⟨rfl,rfl⟩)
    | ((with_reducible apply gS 16);refine zB rfl (.bool false) (zR rfl rfl rfl (by simpa using hab)) ?_)
    | ((with_reducible apply gS 19);refine zB rfl (.bool false) (xP rfl rfl rfl (by simpa using hba)) ?_))
   go_ret
   exact⟨rfl,rfl⟩
theorem zAA (p q:Pk) (w:World):Calls Tryz.prog 148 #[.agg (pkV p),.agg (pkV q)] w fun e w'=>e=.returned (.int .i64 (uW p.1 q.1))∧Ext w w':=by
 have HC:=zA (fun W=>zOw p.1 q.1 W)
 have c1:=zA (fun (W:World) g (h:Blk W g 188 (pkV p))=>h.cell 0)
 have c2:=zA (fun (W:World) g (h:Blk W g 188 (pkV q))=>h.cell 0)
 obtain⟨a,s⟩:=p
 obtain⟨b,t⟩:=q
 generalize hp:pkV (a,s)=pv at *
 generalize hq:pkV (b,t)=qv at *
 have e1:pv[0]? =some (.int .i64 a):=by rw[←hp];rfl
 have e2:qv[0]? =some (.int .i64 b):=by rw[←hq];rfl
 rw[e1] at c1
 rw[e2] at c2
 dsimp only at HC
 clear hp hq e1 e2
 go_enter Tryz.func148,Tryz.ntmps148
 go_wp2_with (first
  | ((with_reducible apply gS 2);refine wBox rfl 188 (.tmp 0) rfl pv rfl ?_;intro w1 g1 hb1 hx1 hg1)
  | ((with_reducible apply gS 3);refine wBox rfl 188 (.tmp 1) rfl qv rfl ?_;intro w2 g2 hb2 hx2 hg2;have k1:=c1.out _ _ (hb1.ext hx2);have k2:=c2.out _ _ hb2)
  | ((with_reducible apply gS 6);refine yW rfl (.int .i64 a) (zQ rfl rfl k1) ?_)
  | ((with_reducible apply gS 8);refine yW rfl (.int .i64 b) (zQ rfl rfl k2) ?_)
  | (go_at_call 182;(with_reducible refine (HC.out _).mono ?_);rintro e w3 ⟨rfl,rfl⟩))
 go_ret
 exact⟨rfl,hx1.trans hx2⟩
theorem zDZ:zAP Tryz.prog 148:=⟨_,Tryz.func148,rfl,rfl⟩
end Go.Proofs.YtkggcjdlpendfaaGreatDoor
namespace Go.Proofs.YtkggcjdlpendfaaGreatDoor.SM
set_option linter.unusedVariables false
set_option linter.unusedSimpArgs false
set_option maxRecDepth 20000
set_option maxHeartbeats 8000000
section
variable {α:Type} (d:α) (wt:α→Int)
def at_ (M:List α) (x:Nat):α:=M.getD x d
def wA (M:List α) (x:Nat):Int:=wt (at_ d M x)
def swp (M:List α) (i j:Nat):List α:=(M.set i (at_ d M j)).set j (at_ d M i)
theorem zHH (M:List α) (x:Nat) (h:x<M.length):at_ d M x=M[x]:=by simp[at_,h]
theorem zFF (M:List α) (i j x:Nat) (hi:i<M.length) (hj:j<M.length):at_ d (swp d M i j) x=if x=j then at_ d M i else if x=i then at_ d M j else at_ d M x:=by
 unfold swp
 simp only[at_,List.getD_eq_getElem?_getD,List.getElem?_set]
 by_cases hxj:x=j
 ·subst hxj
  simp[hj]
 ·have hjx: ¬j=x:=fun h=>hxj h.symm
  by_cases hxi:x=i
  ·subst hxi
   simp[hxj,hjx,hi]
  ·have hix: ¬i=x:=fun h=>hxi h.symm
   simp[hxj,hxi,hjx,hix]
theorem zFv (M:List α) (i j:Nat) (hi:i<M.length) (hj:j<M.length):(swp d M i j).Perm M:=by
 have h:=Array.swap_perm (xs:=M.toArray) (i:=i) (j:=j) (by simpa using hi) (by simpa using hj)
 have e:(M.toArray.swap i j (by simpa using hi) (by simpa using hj)).toList=swp d M i j:=by
  simp[swp,zHH d M i hi,zHH d M j hj]
 have:=Array.perm_iff_toList_perm.1 h
 rwa [e] at this
structure Seg (L M:List α) (a b:Nat):Prop where
 perm:M.Perm L
 out: ∀ x,x<a∨b≤x→at_ d M x=at_ d L x
 val: ∀ x,a≤x→x<b→ ∃ y,a≤y∧y<b∧at_ d M x=at_ d L y
theorem Seg.refl (L:List α) (a b:Nat):Seg d L L a b:=⟨.refl _,fun _ _=>rfl,fun x h1 h2=>⟨x,h1,h2,rfl⟩⟩
theorem Seg.trans {L M N:List α} {a b:Nat} (h:Seg d L M a b) (k:Seg d M N a b):Seg d L N a b:=⟨k.perm.trans h.perm,fun x hx=>(k.out x hx).trans (h.out x hx),fun x h1 h2=>by
 obtain⟨y,p1,p2,e⟩:=k.val x h1 h2
 obtain⟨z,q1,q2,f⟩:=h.val y p1 p2
 exact⟨z,q1,q2,e.trans f⟩⟩
theorem Seg.wide {L M:List α} {a b a' b':Nat} (h:Seg d L M a b) (h1:a'≤a) (h2:b≤b'):Seg d L M a' b':=⟨h.perm,fun x hx=>h.out x (by omega),fun x p q=>by
 by_cases hx:a≤x∧x<b
 ·obtain⟨y,p1,p2,e⟩:=h.val x hx.1 hx.2
  exact⟨y,by omega,by omega,e⟩
 ·exact⟨x,p,q,h.out x (by omega)⟩⟩
theorem Seg.len {L M:List α} {a b:Nat} (h:Seg d L M a b):M.length=L.length:=h.perm.length_eq
theorem Seg.swp {L:List α} {a b i j:Nat} (hi:i<L.length) (hj:j<L.length) (h1:a≤i) (h2:i<b) (h3:a≤j) (h4:j<b):Seg d L (swp d L i j) a b :=
 ⟨zFv d L i j hi hj,fun x hx=>by rw[zFF d L i j x hi hj,if_neg (by omega),if_neg (by omega)],fun x p q=>by
  rw[zFF d L i j x hi hj]
  split
  ·exact⟨i,h1,h2,rfl⟩
  ·split
   ·exact⟨j,h3,h4,rfl⟩
   ·exact⟨x,p,q,rfl⟩⟩
def Sorted (M:List α) (a b:Nat):Prop:= ∀ x y,a≤x→x<y→y<b→wA d wt M x≤wA d wt M y
theorem Sorted.of_out {L M:List α} {a b a' b':Nat} (h:Sorted d wt L a b) (hs:Seg d L M a' b') (hd:b≤a'∨b'≤a):Sorted d wt M a b:=fun x y h1 h2 h3=>by
 unfold wA
 rw[hs.out x (by omega),hs.out y (by omega)]
 exact h x y h1 h2 h3
theorem Sorted.sub {M:List α} {a b a' b':Nat} (h:Sorted d wt M a b) (h1:a≤a') (h2:b'≤b):Sorted d wt M a' b':=fun x y p q r=>h x y (by omega) q (by omega)
structure Ins (M:List α) (a j i:Nat):Prop where
 rest: ∀ x y,a≤x→x<y→y≤i→x≠j→y≠j→wA d wt M x≤wA d wt M y
 up: ∀ y,j<y→y≤i→wA d wt M j≤wA d wt M y
theorem Ins.start {M:List α} {a i:Nat} (h:Sorted d wt M a i):Ins d wt M a i i:=⟨fun x y h1 h2 h3 h4 h5=>h x y h1 h2 (by omega),fun y h1 h2=>by omega⟩
theorem Ins.step {M:List α} {a j i:Nat} (h:Ins d wt M a j i) (hj:a<j) (hji:j≤i) (hi:i<M.length) (hl:wA d wt M j<wA d wt M (j-1)):Ins d wt (swp d M j (j-1)) a (j-1) i:=by
 have hw: ∀ x,wA d wt (swp d M j (j-1)) x=if x=j-1 then wA d wt M j else if x=j then wA d wt M (j-1) else wA d wt M x:=fun x=>by
  unfold wA
  rw[zFF d M j (j-1) x (by omega) (by omega)]
  split
  ·rfl
  ·split<;>rfl
 refine⟨fun x y h1 h2 h3 h4 h5=> ?_,fun y h1 h2=> ?_⟩
 ·rw[hw,hw,if_neg h4,if_neg h5]
  by_cases hxj:x=j
  ·rw[if_pos hxj,if_neg (by omega)]
   exact h.rest (j-1) y (by omega) (by omega) h3 (by omega) (by omega)
  ·rw[if_neg hxj]
   by_cases hyj:y=j
   ·rw[if_pos hyj]
    exact h.rest x (j-1) h1 (by omega) (by omega) hxj (by omega)
   ·rw[if_neg hyj]
    exact h.rest x y h1 h2 h3 hxj hyj
 ·rw[hw,hw,if_pos rfl,if_neg (by omega)]
  by_cases hyj:y=j
  ·rw[if_pos hyj]
   omega
  ·rw[if_neg hyj]
   exact h.up y (by omega) h2
theorem Ins.stop {M:List α} {a j i:Nat} (h:Ins d wt M a j i) (hd:j=a∨wA d wt M (j-1)≤wA d wt M j) (haj:a≤j):Sorted d wt M a (i+1):=fun x y h1 h2 h3=>by
 by_cases hxj:x=j
 ·subst hxj
  exact h.up y h2 (by omega)
 ·by_cases hyj:y=j
  ·subst hyj
   rcases hd with hd | hd
   ·omega
   ·by_cases hx:x=y-1
    ·subst hx;exact hd
    ·exact Int.le_trans (h.rest x (y-1) h1 (by omega) (by omega) hxj (by omega)) hd
  ·exact h.rest x y h1 h2 (by omega) hxj hyj
theorem Sorted.join {M:List α} {a m b:Nat} (h1:Sorted d wt M a m) (h2:Sorted d wt M m b) (h: ∀ x y,a≤x→x<m→m≤y→y<b→wA d wt M x≤wA d wt M y):Sorted d wt M a b:=fun x y p q r=>by
 by_cases hx:x<m
 ·by_cases hy:y<m
  ·exact h1 x y p q hy
  ·exact h x y p hx (by omega) r
 ·exact h2 x y (by omega) q r
end
end Go.Proofs.YtkggcjdlpendfaaGreatDoor.SM
namespace Go.Proofs.YtkggcjdlpendfaaGreatDoor
set_option linter.unusedVariables false
set_option linter.unusedSimpArgs false
set_option maxRecDepth 20000
set_option maxHeartbeats 8000000
open Go.RowKit
section
open SM
def pk0:Pk:=(0,.slice none 0 0)
abbrev pw:Pk→Int:=Prod.fst
def OnesP (L:List Pk):Prop:= ∀ p∈L,p.2.oneCell'=true
theorem OnesP.perm {L M:List Pk} (h:OnesP L) (hp:M.Perm L):OnesP M:=fun p hq=>h p (hp.subset hq)
theorem DS.ext {w w':World} {gd:Nat} {L:List Pk} {tl:List Value} (h:DS w gd L tl) (hx:Ext w w'):DS w' gd L tl:=Blk.ext h hx
theorem yZ {o:Oper} {a:Act} {x ix:Operand} (ho:o.op=.indexAddr 189 x ix) {g n c i:Nat} (hx:a.eval x=.slice (some ⟨g,0,none⟩) n c) (hi:a.eval ix=.int .i64 (i:Int)) (h:i<n) (w:World) :
 (execOp a.eval o).run Tryz.prog w=.ok (.value (.pointer (some ⟨g,i*2,none⟩))) w:=by
 have:=zEH Tryz.underlying189 zEO ho hx hi h w
 rwa [wB2] at this
theorem zBi {P:Program} {md:Region.Mode} {ops:Array Oper} {R:World→World→Prop} {Q:Exit→Act→World→Prop} {rest:List Oper} {o:Oper} {k:Nat} {listed:Array Bool} {a:Act} {wc:World} (hw:Region.wanted o (yielded ops a.tmps)=true) (x:Operand) (xs:Array Operand) (ts:Array TypeId)
 (ho:o.op=.call { callee:=.value x,args:=xs,argTypes:=ts }) {f:FuncId} {cap:Array Value} (hr:a.eval x=.func (.func f) #[] cap) (hm:zAP P f) (args:Array Value) (hx:xs.map a.eval++cap=args) (v:Value)
 (hc: ∀ w,R wc w→Calls P f args w fun e w'=>e=.returned v∧R w w') (h:uU P md ops R Q rest (k+1) (listed.setIfInBounds k true) (a.put o.dst v) wc):uU P md ops R Q (o::rest) k listed a wc:=by
 refine lx_at hw v (fun w hR=> ?_) h
 unfold Oper.quietAt
 rw[xI x xs ts ho hr hm args hx w]
 exact⟨rfl,hc w hR⟩
theorem zJr (M:List Pk) (i j:Nat) (hi:i<M.length) (hj:j<M.length):(M.set i M[j]).set j M[i]=swp pk0 M i j:=by
 unfold swp
 rw[zHH pk0 M i hi,zHH pk0 M j hj]
theorem uK (M:List Pk) (i:Nat) (h:i<M.length):wA pk0 pw M i=M[i].1:=by unfold wA;rw[zHH pk0 M i h]
theorem zBm (a b:Int):decide (uW a b<0)=decide (a<b):=by
 rw[wE2,wB3,wB3]
 unfold uW
 split
 ·omega
 ·split<;>omega
def zDY (gd:Nat) (L:List Pk) (tl:List Value) (a b:Nat) (w:World) (e:Ending) (w':World):Prop:=e=.returned (.tuple #[])∧ ∃ M,DS w' gd M tl∧Seg pk0 L M a b∧Sorted pk0 pw M a b∧Upd (fun x=>x=gd) w w'
theorem zPp (gd:Nat) (L:List Pk) (tl:List Value) (n c a b:Nat) (w:World) (hn:L.length=n) (hn2:n≤1000000) (hab:a≤b) (hbn:b≤n) (hone:OnesP L) (hD:DS w gd L tl) :
 Calls Tryz.prog 206 #[.slice (some ⟨gd,0,none⟩) n c,.int .i64 (a:Int),.int .i64 (b:Int),.func (.func 148) #[] #[]] w (zDY gd L tl a b w):=by
 have HN:=zA hn
 have HONE:=zA hone
 clear hn hone
 have hs0:Sorted pk0 pw L a (a+1):=fun x y h1 h2 h3=>by omega
 go_enter Tryz.func206,Tryz.ntmps206
 go_upto_region 1 with ((with_reducible apply gS 11);refine zB rfl (.int .i64 ((a+1:Nat):Int)) (zZ (i:=a) (d:=1) rfl rfl rfl (by omega)) ?_)
 go_loopw [8] (fun iv wr=> ∃ (i:Nat) (M:List Pk),a+1≤i∧(i≤b∨i=a+1)∧iv=.int .i64 (i:Int)∧DS wr gd M tl∧Seg pk0 L M a b∧Sorted pk0 pw M a i∧Upd (fun x=>x=gd) w wr) (fun i _=>b+1-(intOf i).toNat)
 case atStart=>exact⟨a+1,L,by omega,.inr rfl,rfl,hD,Seg.refl pk0 L a b,hs0,Upd.refl _ w⟩
 case round =>
  clear hD hs0
  obtain⟨i,M,hai,hib,rfl,hD,hseg,hsor,hu⟩:=hrel
  by_cases hlt:i<b
  ·have hins:=Ins.start pk0 pw hsor
   go_upto_region 4 with ((with_reducible apply gS 14);refine zB rfl (.bool true) (zR rfl rfl rfl (by simpa using hlt)) ?_)
   go_loopw [9] (fun jv wr=> ∃ (j:Nat) (M:List Pk),a≤j∧j≤i∧jv=.int .i64 (j:Int)∧DS wr gd M tl∧Seg pk0 L M a b∧Ins pk0 pw M a j i∧Upd (fun x=>x=gd) w wr) (fun j _=>(intOf j).toNat)
   case atStart=>exact⟨i,M,by omega,by omega,rfl,hD,hseg,hins,hu⟩
   case round =>
    clear hD hseg hsor hins hu
    obtain⟨j,M,haj,hji,rfl,hD,hseg,hins,hu⟩:=hrel
    have hml:M.length=n:=hseg.len.trans HN.out
    have hone:=HONE.out.perm hseg.perm
    have hDd:DS wr.drew gd M tl:=Blk.drew hD
    by_cases hja:a<j
    ·by_cases hls:wA pk0 pw M j<wA pk0 pw M (j-1)
     ·have hB:decide (uW (M[j]'(by omega)).1 (M[j-1]'(by omega)).1<0)=true:=by
       rw[zBm, ←uK M j (by omega), ←uK M (j-1) (by omega)]
       simpa using hls
      go_wp2_with fail
      refine xW xX (by kernel_rfl) (by kernel_rfl) ?_
      refine zE (by rfl) (.int .i64 (j:Int)) (zC rfl rfl) ?_
      simp only[Act.put,sA,sB,sC]
      refine zE (by rfl) (.int .i64 (a:Int)) (zC rfl rfl) ?_
      simp only[Act.put,sA,sB,sC]
      refine zE (by rfl) (.bool true) (xP rfl rfl rfl (by simp;omega)) ?_
      simp only[Act.put,sA,sB,sC]
      refine zE (by rfl) (.bool true) (zC rfl rfl) ?_
      simp only[Act.put,sA,sB,sC]
      refine zE (by rfl) (.func (.func 148) #[] #[]) (zC rfl rfl) ?_
      simp only[Act.put,sA,sB,sC]
      refine zE (by rfl) (.slice (some ⟨gd,0,none⟩) n c) (zC rfl rfl) ?_
      simp only[Act.put,sA,sB,sC]
      refine zE (by rfl) (.int .i64 (j:Int)) (zC rfl rfl) ?_
      simp only[Act.put,sA,sB,sC]
      refine zE (by rfl) (.pointer (some ⟨gd,j*2,none⟩)) (yZ rfl rfl rfl (by omega)) ?_
      simp only[Act.put,sA,sB,sC]
      refine yV (by rfl) (.agg (pkV M[j])) (fun W hW=>xO rfl (hDd.ext hW) (by omega) rfl) ?_
      simp only[Act.put,sA,sB,sC]
      refine zE (by rfl) (.slice (some ⟨gd,0,none⟩) n c) (zC rfl rfl) ?_
      simp only[Act.put,sA,sB,sC]
      refine zE (by rfl) (.int .i64 (j:Int)) (zC rfl rfl) ?_
      simp only[Act.put,sA,sB,sC]
      refine zE (by rfl) (.int .i64 ((j-1:Nat):Int)) (xA (i:=j) (d:=1) rfl rfl rfl (by omega) (by omega)) ?_
      simp only[Act.put,sA,sB,sC]
      refine zE (by rfl) (.pointer (some ⟨gd,(j-1)*2,none⟩)) (yZ rfl rfl rfl (by omega)) ?_
      simp only[Act.put,sA,sB,sC]
      refine yV (by rfl) (.agg (pkV M[j-1])) (fun W hW=>xO rfl (hDd.ext hW) (by omega) rfl) ?_
      simp only[Act.put,sA,sB,sC]
      refine zBi (by rfl) _ _ _ rfl rfl zDZ #[.agg (pkV M[j]),.agg (pkV M[j-1])] (by simp[Act.eval]) (.int .i64 (uW M[j].1 M[j-1].1)) (fun W h=>zAA _ _ W) ?_
      simp only[Act.put,sA,sB,sC]
      refine zE (by rfl) (.bool true) (zR rfl rfl rfl hB) ?_
      simp only[Act.put,sA,sB,sC]
      refine zE (by rfl) (.bool true) (zKx rfl rfl rfl) ?_
      simp only[Act.put,sA,sB,sC]
      refine jA ?_
      intro w4 hx4
      have hDD:DS w4.drew gd M tl:=Blk.drew (hDd.ext hx4)
      have hu4:Upd (fun x=>x=gd) w w4.drew:=(hu.drew.trans (Upd.of_ext (S:=fun _=>False) hx4) (fun _ h=>h.elim)).drew
      go_wp2_with fail
      refine jQ (fun k=>k ==9 ||k ==13) (fun W=>DS W gd M tl) (by kernel_rfl) ?_
      refine zI (k:=0) (by kernel_rfl) rfl (by rfl) (.slice (some ⟨gd,0,none⟩) n c) (zC rfl rfl) ?_
      simp only[Act.put,sA,sB,sC]
      refine zI (k:=1) (by kernel_rfl) rfl (by rfl) (.int .i64 (j:Int)) (zC rfl rfl) ?_
      simp only[Act.put,sA,sB,sC]
      refine zI (k:=2) (by kernel_rfl) rfl (by rfl) (.slice (some ⟨gd,0,none⟩) n c) (zC rfl rfl) ?_
      simp only[Act.put,sA,sB,sC]
      refine zI (k:=3) (by kernel_rfl) rfl (by rfl) (.int .i64 (j:Int)) (zC rfl rfl) ?_
      simp only[Act.put,sA,sB,sC]
      refine zI (k:=4) (by kernel_rfl) rfl (by rfl) (.int .i64 ((j-1:Nat):Int)) (xA (i:=j) (d:=1) rfl rfl rfl (by omega) (by omega)) ?_
      simp only[Act.put,sA,sB,sC]
      refine zI (k:=5) (by kernel_rfl) rfl (by rfl) (.slice (some ⟨gd,0,none⟩) n c) (zC rfl rfl) ?_
      simp only[Act.put,sA,sB,sC]
      refine zI (k:=6) (by kernel_rfl) rfl (by rfl) (.int .i64 (j:Int)) (zC rfl rfl) ?_
      simp only[Act.put,sA,sB,sC]
      refine zI (k:=7) (by kernel_rfl) rfl (by rfl) (.int .i64 ((j-1:Nat):Int)) (xA (i:=j) (d:=1) rfl rfl rfl (by omega) (by omega)) ?_
      simp only[Act.put,sA,sB,sC]
      refine zI (k:=8) (by kernel_rfl) rfl (by rfl) (.pointer (some ⟨gd,(j-1)*2,none⟩)) (yZ rfl rfl rfl (by omega)) ?_
      simp only[Act.put,sA,sB,sC]
      refine zI (k:=10) (by kernel_rfl) rfl (by rfl) (.slice (some ⟨gd,0,none⟩) n c) (zC rfl rfl) ?_
      simp only[Act.put,sA,sB,sC]
      refine zI (k:=11) (by kernel_rfl) rfl (by rfl) (.int .i64 (j:Int)) (zC rfl rfl) ?_
      simp only[Act.put,sA,sB,sC]
      refine zI (k:=12) (by kernel_rfl) rfl (by rfl) (.pointer (some ⟨gd,j*2,none⟩)) (yZ rfl rfl rfl (by omega)) ?_
      simp only[Act.put,sA,sB,sC]
      refine jW (k:=9) (by kernel_rfl) rfl (by rfl) (.agg (pkV M[j-1])) (fun W hW=>xO rfl hW (by omega) rfl) hDD ?_
      simp only[Act.put,sA,sB,sC]
      refine jW (k:=13) (by kernel_rfl) rfl (by rfl) (.agg (pkV M[j])) (fun W hW=>xO rfl hW (by omega) rfl) hDD ?_
      simp only[Act.put,sA,sB,sC]
      refine zI (k:=14) (by kernel_rfl) rfl (by rfl) (.pointer (some ⟨gd,j*2,none⟩)) (yZ rfl rfl rfl (by omega)) ?_
      simp only[Act.put,sA,sB,sC]
      refine xQ (k:=15) (by kernel_rfl) rfl ?_
      refine zAh rfl _ _ rfl gd M tl hDD j (by omega) M[j-1] (hone _ (wE1 _)) rfl rfl ?_
      intro w5 hD5 hu5
      refine zU ⟨fun h=>(by cases h), ?_⟩
      simp only[Act.put,sA,sB,sC]
      refine zI (k:=16) (by kernel_rfl) rfl (by rfl) (.pointer (some ⟨gd,(j-1)*2,none⟩)) (yZ rfl rfl rfl (by omega)) ?_
      simp only[Act.put,sA,sB,sC]
      refine xQ (k:=17) (by kernel_rfl) rfl ?_
      refine zAh rfl _ _ rfl gd (M.set j M[j-1]) tl hD5 (j-1) (by rw[wO0];omega) M[j] (hone _ (wE1 _)) rfl rfl ?_
      intro w6 hD6 hu6
      refine zU ⟨fun h=>(by cases h), ?_⟩
      simp only[Act.put,sA,sB,sC]
      refine uP (by kernel_rfl) ?_
      have hD7:DS w6 gd (swp pk0 M j (j-1)) tl:=by rw[←zJr M j (j-1) (by omega) (by omega)];exact hD6
      have hu7:=(hu4.trans hu5 (fun x h=>.inl h)).trans hu6 (fun x h=>.inl h)
      go_wp2_with ((with_reducible apply gS 36);refine zB rfl (.int .i64 ((j-1:Nat):Int)) (xA (i:=j) (d:=1) rfl rfl rfl (by omega) (by omega)) ?_)
      go_roundw
      case rel=>exact⟨j-1,swp pk0 M j (j-1),by omega,by omega,by go_num,hD7,hseg.trans pk0 (Seg.swp pk0 (by omega) (by omega) (by omega) (by omega) (by omega) (by omega)),hins.step pk0 pw hja hji (by omega) hls,hu7⟩
      case measure=>simp[intOf];omega
     ·have hB:decide (uW (M[j]'(by omega)).1 (M[j-1]'(by omega)).1<0)=false:=by
       rw[zBm, ←uK M j (by omega), ←uK M (j-1) (by omega)]
       simpa using hls
      have hfin:=hins.stop pk0 pw (.inr (by omega)) haj
      go_wp2_with fail
      refine xW xX (by kernel_rfl) (by kernel_rfl) ?_
      refine zE (by rfl) (.int .i64 (j:Int)) (zC rfl rfl) ?_
      simp only[Act.put,sA,sB,sC]
      refine zE (by rfl) (.int .i64 (a:Int)) (zC rfl rfl) ?_
      simp only[Act.put,sA,sB,sC]
      refine zE (by rfl) (.bool true) (xP rfl rfl rfl (by simp;omega)) ?_
      simp only[Act.put,sA,sB,sC]
      refine zE (by rfl) (.bool true) (zC rfl rfl) ?_
      simp only[Act.put,sA,sB,sC]
      refine zE (by rfl) (.func (.func 148) #[] #[]) (zC rfl rfl) ?_
      simp only[Act.put,sA,sB,sC]
      refine zE (by rfl) (.slice (some ⟨gd,0,none⟩) n c) (zC rfl rfl) ?_
      simp only[Act.put,sA,sB,sC]
      refine zE (by rfl) (.int .i64 (j:Int)) (zC rfl rfl) ?_
      simp only[Act.put,sA,sB,sC]
      refine zE (by rfl) (.pointer (some ⟨gd,j*2,none⟩)) (yZ rfl rfl rfl (by omega)) ?_
      simp only[Act.put,sA,sB,sC]
      refine yV (by rfl) (.agg (pkV M[j])) (fun W hW=>xO rfl (hDd.ext hW) (by omega) rfl) ?_
      simp only[Act.put,sA,sB,sC]
      refine zE (by rfl) (.slice (some ⟨gd,0,none⟩) n c) (zC rfl rfl) ?_
      simp only[Act.put,sA,sB,sC]
      refine zE (by rfl) (.int .i64 (j:Int)) (zC rfl rfl) ?_
      simp only[Act.put,sA,sB,sC]
      refine zE (by rfl) (.int .i64 ((j-1:Nat):Int)) (xA (i:=j) (d:=1) rfl rfl rfl (by omega) (by omega)) ?_
      simp only[Act.put,sA,sB,sC]
      refine zE (by rfl) (.pointer (some ⟨gd,(j-1)*2,none⟩)) (yZ rfl rfl rfl (by omega)) ?_
      simp only[Act.put,sA,sB,sC]
      refine yV (by rfl) (.agg (pkV M[j-1])) (fun W hW=>xO rfl (hDd.ext hW) (by omega) rfl) ?_
      simp only[Act.put,sA,sB,sC]
      refine zBi (by rfl) _ _ _ rfl rfl zDZ #[.agg (pkV M[j]),.agg (pkV M[j-1])] (by simp[Act.eval]) (.int .i64 (uW M[j].1 M[j-1].1)) (fun W h=>zAA _ _ W) ?_
      simp only[Act.put,sA,sB,sC]
      refine zE (by rfl) (.bool false) (zR rfl rfl rfl hB) ?_
      simp only[Act.put,sA,sB,sC]
      refine zE (by rfl) (.bool false) (zKx rfl rfl rfl) ?_
      simp only[Act.put,sA,sB,sC]
      refine jA ?_
      intro w4 hx4
      have hD4:=hDd.ext hx4
      have hu4:Upd (fun x=>x=gd) w w4:=hu.drew.trans (Upd.of_ext (S:=fun _=>False) hx4) (fun _ h=>h.elim)
      go_wp2_with ((with_reducible apply gS 16);refine zB rfl (.int .i64 ((i+1:Nat):Int)) (zZ (i:=i) (d:=1) rfl rfl rfl (by omega)) ?_)
      go_roundw
      case rel=>exact⟨i+1,M,by omega,.inl (by omega),by go_num,hD4,hseg,hfin,hu4⟩
      case measure=>simp[intOf];omega
    ·obtain rfl:a=j:=by omega
     have hfin:=hins.stop pk0 pw (.inl rfl) haj
     go_wp2_with fail
     refine xW xX (by kernel_rfl) (by kernel_rfl) ?_
     refine zE (by rfl) (.int .i64 (a:Int)) (zC rfl rfl) ?_
     simp only[Act.put,sA,sB,sC]
     refine zE (by rfl) (.int .i64 (a:Int)) (zC rfl rfl) ?_
     simp only[Act.put,sA,sB,sC]
     refine zE (by rfl) (.bool false) (xP rfl rfl rfl (by simp)) ?_
     simp only[Act.put,sA,sB,sC]
     refine zE (by rfl) (.bool false) (zC rfl rfl) ?_
     simp only[Act.put,sA,sB,sC]
     refine zAe (by rfl) ?_
     simp only[Act.put,sA,sB,sC]
     refine zAe (by rfl) ?_
     simp only[Act.put,sA,sB,sC]
     refine zAe (by rfl) ?_
     simp only[Act.put,sA,sB,sC]
     refine zAe (by rfl) ?_
     simp only[Act.put,sA,sB,sC]
     refine zAe (by rfl) ?_
     simp only[Act.put,sA,sB,sC]
     refine zAe (by rfl) ?_
     simp only[Act.put,sA,sB,sC]
     refine zAe (by rfl) ?_
     simp only[Act.put,sA,sB,sC]
     refine zAe (by rfl) ?_
     simp only[Act.put,sA,sB,sC]
     refine zAe (by rfl) ?_
     simp only[Act.put,sA,sB,sC]
     refine zAe (by rfl) ?_
     simp only[Act.put,sA,sB,sC]
     refine zAe (by rfl) ?_
     simp only[Act.put,sA,sB,sC]
     refine zAe (by rfl) ?_
     simp only[Act.put,sA,sB,sC]
     refine zE (by rfl) (.bool false) (zKx rfl rfl rfl) ?_
     simp only[Act.put,sA,sB,sC]
     refine jA ?_
     intro w4 hx4
     have hD4:=hDd.ext hx4
     have hu4:Upd (fun x=>x=gd) w w4:=hu.drew.trans (Upd.of_ext (S:=fun _=>False) hx4) (fun _ h=>h.elim)
     go_wp2_with ((with_reducible apply gS 16);refine zB rfl (.int .i64 ((i+1:Nat):Int)) (zZ (i:=i) (d:=1) rfl rfl rfl (by omega)) ?_)
     go_roundw
     case rel=>exact⟨i+1,M,by omega,.inl (by omega),by go_num,hD4,hseg,hfin,hu4⟩
     case measure=>simp[intOf];omega
  ·go_wp2_with ((with_reducible apply gS 14);refine zB rfl (.bool false) (zR rfl rfl rfl (by simpa using hlt)) ?_)
   go_end0
   exact⟨rfl,M,hD,hseg,hsor.sub pk0 pw (wA5 _) (by omega),hu⟩
end
theorem u64_in (n:Nat) (h:n<1099511627776):IntKind.u64.wrap (n:Int)=(n:Int):=by
 simp[IntKind.wrap,IntKind.bits,IntKind.signed]
 omega
theorem run_toU (n:Nat) (h:n<1099511627776) (W:World):(convert 3 116 (.int .i64 (n:Int))).run Tryz.prog W=.ok (.int .u64 (n:Int)) W:=by
 simp[convert,run_underlying Tryz.underlying3,run_underlying Tryz.underlying116,Conv.intToInt,u64_in n h]
theorem run_ofU (n:Nat) (h:n<1099511627776) (W:World):(convert 116 3 (.int .u64 (n:Int))).run Tryz.prog W=.ok (.int .i64 (n:Int)) W:=by
 have e:IntKind.i64.wrap (n:Int)=(n:Int):=IntWalk.i64_in _ (by omega)
 simp[convert,run_underlying Tryz.underlying3,run_underlying Tryz.underlying116,Conv.intToInt,e]
section
variable {o:Oper} {a:Act}
theorem zEQ {x:Operand} (ho:o.op=.convert 3 116 x) {n:Nat} (hx:a.eval x=.int .i64 (n:Int)) (h:n<1099511627776) (w:World):(execOp a.eval o).run Tryz.prog w=.ok (.value (.int .u64 (n:Int))) w:=by
 simp only[execOp,ho,hx,Sem.run_bind,run_toU n h,Result.andThen_ok,Sem.run_pure]
theorem zEF {x:Operand} (ho:o.op=.convert 116 3 x) {n:Nat} (hx:a.eval x=.int .u64 (n:Int)) (h:n<1099511627776) (w:World):(execOp a.eval o).run Tryz.prog w=.ok (.value (.int .i64 (n:Int))) w:=by
 simp only[execOp,ho,hx,Sem.run_bind,run_ofU n h,Result.andThen_ok,Sem.run_pure]
theorem zCH {x y:Operand} {t2:TypeId} (ho:o.op=.binOp .shr 116 x y t2) {n:Nat} (hx:a.eval x=.int .u64 (n:Int)) (hy:a.eval y=.int .u64 1) (w:World):(execOp a.eval o).run Tryz.prog w=.ok (.value (.int .u64 ((n/2:Nat):Int))) w:=by
 have e:(n:Int) >>>(1:Nat)=((n/2:Nat):Int):=by rw[wO1];rfl
 have h8:IntKind.u64.bits=64:=rfl
 simp[execOp,ho,hx,hy,eqGuard,binOp,Op.shift,e,h8]
 exact wO2 _ (by decide)
end
end Go.Proofs.YtkggcjdlpendfaaGreatDoor
namespace Go.Proofs.YtkggcjdlpendfaaGreatDoor.SM
set_option linter.unusedVariables false
set_option linter.unusedSimpArgs false
set_option maxRecDepth 20000
set_option maxHeartbeats 8000000
section
variable {α:Type} (d:α)
def Swapped (L M:List α) (a b k:Nat):Prop:=M.Perm L∧ ∀ x,at_ d M x=if a≤x∧x<a+k then at_ d L (x-a+b) else if b≤x∧x<b+k then at_ d L (x-b+a) else at_ d L x
theorem Swapped.zero (L:List α) (a b:Nat):Swapped d L L a b 0:=⟨.refl _,fun x=>by rw[if_neg (by omega),if_neg (by omega)]⟩
theorem Swapped.step {L M:List α} {a b k:Nat} (h:Swapped d L M a b k) (hab:a+k<b) (hb:b+k<L.length):Swapped d L (swp d M (a+k) (b+k)) a b (k+1):=by
 have hl:=h.1.length_eq
 refine⟨(zFv d M _ _ (by omega) (by omega)).trans h.1,fun x=> ?_⟩
 rw[zFF d M _ _ x (by omega) (by omega)]
 by_cases h1:x=b+k
 ·rw[if_pos h1,h.2,if_neg (by omega),if_neg (by omega),if_neg (by omega),if_pos (by omega)]
  congr 1
  omega
 ·rw[if_neg h1]
  by_cases h2:x=a+k
  ·rw[if_pos h2,h.2,if_neg (by omega),if_neg (by omega),if_pos (by omega)]
   congr 1
   omega
  ·rw[if_neg h2,h.2]
   by_cases h3:a≤x∧x<a+k
   ·rw[if_pos h3,if_pos (by omega)]
   ·rw[if_neg h3,if_neg (show ¬(a≤x∧x<a+(k+1)) by omega)]
    by_cases h4:b≤x∧x<b+k
    ·rw[if_pos h4,if_pos (by omega)]
    ·rw[if_neg h4,if_neg (by omega)]
def zAb (L:List α) (a m b x:Nat):α:=if a≤x∧x<b then (if x-a<b-m then at_ d L (m+(x-a)) else at_ d L (a+(x-a-(b-m)))) else at_ d L x
structure Rot (L M:List α) (a m b i j:Nat):Prop where
 perm:M.Perm L
 out: ∀ x,x<m-i∨m+j≤x→at_ d M x=zAb d L a m b x
 win: ∀ k,k<i+j→zAb d L a m b (m-i+k)=at_ d M (if k<j then m+k else m-i+(k-j))
theorem Rot.start (L:List α) (a m b:Nat) (h1:a≤m) (h2:m≤b):Rot d L L a m b (m-a) (b-m):=by
 refine⟨.refl _,fun x hx=> ?_,fun k hk=> ?_⟩
 ·unfold zAb
  rw[if_neg (by omega)]
 ·unfold zAb
  rw[if_pos (by omega)]
  have e:m-(m-a)+k-a=k:=by omega
  rw[e]
  by_cases hkj:k<b-m
  ·rw[if_pos hkj,if_pos hkj]
  ·rw[if_neg hkj,if_neg hkj]
   congr 1
   omega
theorem Rot.left {L M N:List α} {a m b i j:Nat} (h:Rot d L M a m b i j) (hij:j<i) (him:i≤m) (hs:Swapped d M N (m-i) m j):Rot d L N a m b (i-j) j:=by
 refine⟨hs.1.trans h.perm,fun x hx=> ?_,fun k hk=> ?_⟩
 ·rw[hs.2]
  by_cases h1:m-i≤x∧x<m-i+j
  ·rw[if_pos h1]
   have:=h.win (x-(m-i)) (by omega)
   rw[if_pos (by omega),show m-i+(x-(m-i))=x by omega] at this
   rw[this]
   congr 1
   omega
  ·rw[if_neg h1,if_neg (by omega)]
   exact h.out x (by omega)
 ·have hw:=h.win (j+k) (by omega)
  rw[if_neg (by omega),show m-i+(j+k)=m-(i-j)+k by omega] at hw
  rw[hw,hs.2]
  by_cases hkj:k<j
  ·rw[if_pos hkj,if_neg (by omega),if_pos (by omega)]
   congr 1
   omega
  ·rw[if_neg hkj,if_neg (by omega),if_neg (by omega)]
   congr 1
   omega
theorem Rot.right {L M N:List α} {a m b i j:Nat} (h:Rot d L M a m b i j) (hij:i<j) (him:i≤m) (hs:Swapped d M N (m-i) (m+j-i) i):Rot d L N a m b i (j-i):=by
 refine⟨hs.1.trans h.perm,fun x hx=> ?_,fun k hk=> ?_⟩
 ·rw[hs.2]
  by_cases h1:m+j-i≤x∧x<m+j-i+i
  ·rw[if_neg (by omega),if_pos h1]
   have:=h.win (x-(m-i)) (by omega)
   rw[if_neg (by omega),show m-i+(x-(m-i))=x by omega] at this
   rw[this]
   congr 1
   omega
  ·rw[if_neg (by omega),if_neg h1]
   exact h.out x (by omega)
 ·have hw:=h.win k (by omega)
  rw[hw,hs.2]
  by_cases hkj:k<j-i
  ·rw[if_pos (show k<j by omega),if_pos hkj,if_neg (by omega),if_neg (by omega)]
  ·rw[if_neg hkj,if_pos (show k<j by omega),if_pos (by omega)]
   congr 1
   omega
theorem Rot.last {L M N:List α} {a m b i:Nat} (h:Rot d L M a m b i i) (him:i≤m) (hs:Swapped d M N (m-i) m i):N.Perm L∧ ∀ x,at_ d N x=zAb d L a m b x:=by
 refine⟨hs.1.trans h.perm,fun x=> ?_⟩
 rw[hs.2]
 by_cases h1:m-i≤x∧x<m-i+i
 ·rw[if_pos h1]
  have:=h.win (x-(m-i)) (by omega)
  rw[if_pos (by omega),show m-i+(x-(m-i))=x by omega] at this
  rw[this]
  congr 1
  omega
 ·rw[if_neg h1]
  by_cases h2:m≤x∧x<m+i
  ·rw[if_pos h2]
   have:=h.win (x-(m-i)) (by omega)
   rw[if_neg (by omega),show m-i+(x-(m-i))=x by omega] at this
   rw[this]
   congr 1
   omega
  ·rw[if_neg h2]
   exact h.out x (by omega)
end
end Go.Proofs.YtkggcjdlpendfaaGreatDoor.SM
namespace Go.Proofs.YtkggcjdlpendfaaGreatDoor.SM
set_option linter.unusedVariables false
set_option linter.unusedSimpArgs false
set_option maxRecDepth 20000
set_option maxHeartbeats 8000000
section
variable {α:Type} (d:α) (wt:α→Int)
theorem rot_seg {L N:List α} {a m b:Nat} (h:N.Perm L∧ ∀ x,at_ d N x=zAb d L a m b x) (h1:a≤m) (h2:m≤b):Seg d L N a b :=
 ⟨h.1,fun x hx=>by rw[h.2];unfold zAb;rw[if_neg (by omega)],fun x p q=>by
  rw[h.2]
  unfold zAb
  rw[if_pos ⟨p,q⟩]
  split
  ·exact⟨_,by omega,by omega,rfl⟩
  ·exact⟨_,by omega,by omega,rfl⟩⟩
structure Found (M:List α) (a m b mid s:Nat):Prop where
 lo:(if mid<m then mid+m-b else a)≤s
 hi:s≤(if mid<m then mid else m)
 below:s=(if mid<m then mid+m-b else a)∨wA d wt M (s-1)≤wA d wt M (mid+m-s)
 above:s=(if mid<m then mid else m)∨wA d wt M (mid+m-s-1)≤wA d wt M s
theorem Found.at_ {M:List α} {a m b mid s:Nat} (ham:a<m) (hmb:m<b) (k1:2*mid≤a+b) (k2:a+b<2*mid+2) (h:Found d wt M a m b mid s) :
 (s≤m∧a≤s∧s≤mid∧mid+m-s≤b∧m≤mid+m-s)∧((s=a∨mid+m-s=b)∨wA d wt M (s-1)≤wA d wt M (mid+m-s))∧((s=m∨mid+m-s=m)∨wA d wt M (mid+m-s-1)≤wA d wt M s):=by
 obtain⟨lo,hi,bel,abv⟩:=h
 by_cases hq:mid<m
 ·rw[if_pos hq] at lo hi bel abv
  refine⟨by omega, ?_, ?_⟩
  ·rcases bel with h | h
   ·exact .inl (.inr (by omega))
   ·exact .inr h
  ·rcases abv with h | h
   ·exact .inl (.inr (by omega))
   ·exact .inr h
 ·rw[if_neg hq] at lo hi bel abv
  refine⟨by omega, ?_, ?_⟩
  ·rcases bel with h | h
   ·exact .inl (.inl (by omega))
   ·exact .inr h
  ·rcases abv with h | h
   ·exact .inl (.inl (by omega))
   ·exact .inr h
theorem halves {M N:List α} {a m b mid s:Nat} (ham:a<m) (hmb:m<b) (k1:2*mid≤a+b) (k2:a+b<2*mid+2) (h1:Sorted d wt M a m) (h2:Sorted d wt M m b) (hf:Found d wt M a m b mid s) (hN: ∀ x,at_ d N x=zAb d M s m (mid+m-s) x) :
 Sorted d wt N a s∧Sorted d wt N s mid∧Sorted d wt N mid (mid+m-s)∧Sorted d wt N (mid+m-s) b ∧
 ∀ x y,a≤x→x<mid→mid≤y→y<b→wA d wt N x≤wA d wt N y:=by
 obtain⟨⟨c1,c2,c3,c4,c5⟩,bel,abv⟩:=hf.at_ d wt ham hmb k1 k2
 have hm1:a≤mid:=by omega
 have hm2:mid<b:=by omega
 obtain⟨e,he⟩: ∃ e,mid+m-s=e:=⟨_,rfl⟩
 rw[he] at hN bel abv c4 c5
 rw[he]
 have hes:e-m=mid-s:=by omega
 -- what N holds
 have n1: ∀ x,x<s→wA d wt N x=wA d wt M x:=fun x hx=>by unfold wA;rw[hN];unfold zAb;rw[if_neg (by omega)]
 have n2: ∀ x,s≤x→x<mid→wA d wt N x=wA d wt M (m+(x-s)):=fun x h1 h2=>by unfold wA;rw[hN];unfold zAb;rw[if_pos (by omega),if_pos (by omega)]
 have n3: ∀ x,mid≤x→x<e→wA d wt N x=wA d wt M (s+(x-mid)):=fun x h1 h2=>by
  unfold wA;rw[hN];unfold zAb;rw[if_pos (by omega),if_neg (by omega)]
  congr 2
  omega
 have n4: ∀ x,e≤x→wA d wt N x=wA d wt M x:=fun x hx=>by unfold wA;rw[hN];unfold zAb;rw[if_neg (by omega)]
 have b1: ∀ x y,a≤x→x<s→e≤y→y<b→wA d wt M x≤wA d wt M y:=fun x y p q r t=>by
  rcases bel with h | h
  ·exfalso
   omega
  ·have q1:wA d wt M x≤wA d wt M (s-1):=by
    by_cases hx:x=s-1
    ·rw[hx];exact Int.le_refl _
    ·exact h1 x (s-1) p (by omega) (by omega)
   have q2:wA d wt M e≤wA d wt M y:=by
    by_cases hy:y=e
    ·rw[hy];exact Int.le_refl _
    ·exact h2 e y (by omega) (by omega) t
   omega
 have b2: ∀ x y,m≤x→x<e→s≤y→y<m→wA d wt M x≤wA d wt M y:=fun x y p q r t=>by
  rcases abv with h | h
  ·exfalso
   omega
  ·have q1:wA d wt M x≤wA d wt M (e-1):=by
    by_cases hx:x=e-1
    ·rw[hx];exact Int.le_refl _
    ·exact h2 x (e-1) p (by omega) (by omega)
   have q2:wA d wt M s≤wA d wt M y:=by
    by_cases hy:y=s
    ·rw[hy];exact Int.le_refl _
    ·exact h1 s y (by omega) (by omega) t
   omega
 refine⟨fun x y p q r=> ?_,fun x y p q r=> ?_,fun x y p q r=> ?_,fun x y p q r=> ?_,fun x y p q r t=> ?_⟩
 ·rw[n1 x (by omega),n1 y r];exact h1 x y p q (by omega)
 ·rw[n2 x p (by omega),n2 y (by omega) r];exact h2 _ _ (by omega) (by omega) (by omega)
 ·rw[n3 x p (by omega),n3 y (by omega) r];exact h1 _ _ (by omega) (by omega) (by omega)
 ·rw[n4 x p,n4 y (by omega)];exact h2 x y (by omega) q r
 ·by_cases hx:x<s<;>by_cases hy:y<e
  ·rw[n1 x hx,n3 y r hy];by_cases hxy:x=s+(y-mid)
   ·rw[hxy];exact Int.le_refl _
   ·exact h1 _ _ p (by omega) (by omega)
  ·rw[n1 x hx,n4 y (by omega)];exact b1 x y p hx (by omega) t
  ·rw[n2 x (by omega) q,n3 y r hy];exact b2 _ _ (by omega) (by omega) (by omega) (by omega)
  ·rw[n2 x (by omega) q,n4 y (by omega)];by_cases hxy:m+(x-s)=y
   ·rw[hxy];exact Int.le_refl _
   ·exact h2 _ _ (by omega) (by omega) t
theorem zMm {N N1 N2:List α} {a mid b:Nat} (hc: ∀ x y,a≤x→x<mid→mid≤y→y<b→wA d wt N x≤wA d wt N y) (k1:Seg d N N1 a mid) (s1:Sorted d wt N1 a mid) (k2:Seg d N1 N2 mid b) (s2:Sorted d wt N2 mid b) (hm1:a≤mid) (hm2:mid≤b):Sorted d wt N2 a b:=by
 refine Sorted.join d wt (s1.of_out d wt k2 (.inl (Nat.le_refl _))) s2 (fun x y p q r t=> ?_)
 obtain⟨x',p1,p2,e1⟩:=k1.val x p q
 obtain⟨y',q1,q2,e2⟩:=k2.val y r t
 have f1:wA d wt N2 x=wA d wt N x':=by unfold wA;rw[k2.out x (by omega),e1]
 have f2:wA d wt N2 y=wA d wt N y':=by unfold wA;rw[e2,k1.out y' (by omega)]
 rw[f1,f2]
 exact hc x' y' p1 p2 q1 q2
structure GoneUp (L M:List α) (a k:Nat):Prop where
 perm:M.Perm L
 at_: ∀ x,at_ d M x=if x=k then SM.at_ d L a else if a≤x∧x<k then SM.at_ d L (x+1) else SM.at_ d L x
theorem GoneUp.start (L:List α) (a:Nat):GoneUp d L L a a:=⟨.refl _,fun x=>by
 by_cases h:x=a
 ·rw[if_pos h,h]
 ·rw[if_neg h,if_neg (by omega)]⟩
theorem GoneUp.step {L M:List α} {a k:Nat} (h:GoneUp d L M a k) (hak:a≤k) (hk:k+1<L.length):GoneUp d L (swp d M k (k+1)) a (k+1):=by
 have hl:=h.perm.length_eq
 refine⟨(zFv d M _ _ (by omega) (by omega)).trans h.perm,fun x=> ?_⟩
 rw[zFF d M _ _ x (by omega) (by omega)]
 by_cases h1:x=k+1
 ·rw[if_pos h1,if_pos h1,h.at_,if_pos rfl]
 ·rw[if_neg h1,if_neg h1]
  by_cases h2:x=k
  ·rw[if_pos h2,if_pos (by omega),h.at_,if_neg (by omega),if_neg (by omega),h2]
  ·rw[if_neg h2,h.at_,if_neg h2]
   by_cases h3:a≤x∧x<k
   ·rw[if_pos h3,if_pos (by omega)]
   ·rw[if_neg h3,if_neg (by omega)]
theorem GoneUp.seg {L M:List α} {a k b:Nat} (h:GoneUp d L M a k) (hak:a≤k) (hk:k<b):Seg d L M a b :=
 ⟨h.perm,fun x hx=>by rw[h.at_,if_neg (by omega),if_neg (by omega)],fun x p q=>by
  rw[h.at_]
  split
  ·exact⟨a,by omega,by omega,rfl⟩
  ·split
   ·exact⟨x+1,by omega,by omega,rfl⟩
   ·exact⟨x,p,q,rfl⟩⟩
theorem GoneUp.sorted {L M:List α} {a b i:Nat} (hs:Sorted d wt L (a+1) b) (hi:a+1≤i) (hib:i≤b) (h1:i=a+1∨wA d wt L (i-1)≤wA d wt L a) (h2:i=b∨wA d wt L a≤wA d wt L i) (h:GoneUp d L M a (i-1)):Sorted d wt M a b:=by
 have hw: ∀ x,wA d wt M x=if x=i-1 then wA d wt L a else if a≤x∧x<i-1 then wA d wt L (x+1) else wA d wt L x:=fun x=>by
  unfold wA
  rw[h.at_]
  split
  ·rfl
  ·split<;>rfl
 have lo: ∀ x,a<x→x<i→wA d wt L x≤wA d wt L a:=fun x p q=>by
  rcases h1 with h1 | h1
  ·omega
  ·by_cases hx:x=i-1
   ·rw[hx];exact h1
   ·exact Int.le_trans (hs x (i-1) (by omega) (by omega) (by omega)) h1
 have hi': ∀ y,i≤y→y<b→wA d wt L a≤wA d wt L y:=fun y p q=>by
  rcases h2 with h2 | h2
  ·omega
  ·by_cases hy:y=i
   ·rw[hy];exact h2
   ·exact Int.le_trans h2 (hs i y (by omega) (by omega) q)
 intro x y p q r
 rw[hw,hw]
 by_cases hx:x=i-1
 ·rw[if_pos hx,if_neg (by omega),if_neg (by omega)]
  exact hi' y (by omega) r
 ·rw[if_neg hx]
  by_cases hx2:x<i-1
  ·rw[if_pos ⟨p,hx2⟩]
   by_cases hy:y=i-1
   ·rw[if_pos hy]
    exact lo (x+1) (by omega) (by omega)
   ·rw[if_neg hy]
    by_cases hy2:y<i-1
    ·rw[if_pos ⟨by omega,hy2⟩]
     exact hs _ _ (by omega) (by omega) (by omega)
    ·rw[if_neg (by omega)]
     exact hs _ _ (by omega) (by omega) r
  ·rw[if_neg (by omega),if_neg (by omega),if_neg (by omega)]
   exact hs _ _ (by omega) q r
structure GoneDown (L M:List α) (m k:Nat):Prop where
 perm:M.Perm L
 at_: ∀ x,at_ d M x=if x=k then SM.at_ d L m else if k<x∧x≤m then SM.at_ d L (x-1) else SM.at_ d L x
theorem GoneDown.start (L:List α) (m:Nat):GoneDown d L L m m:=⟨.refl _,fun x=>by
 by_cases h:x=m
 ·rw[if_pos h,h]
 ·rw[if_neg h,if_neg (by omega)]⟩
theorem GoneDown.step {L M:List α} {m k:Nat} (h:GoneDown d L M m k) (hk0:0<k) (hkm:k≤m) (hm:m<L.length):GoneDown d L (swp d M k (k-1)) m (k-1):=by
 have hl:=h.perm.length_eq
 refine⟨(zFv d M _ _ (by omega) (by omega)).trans h.perm,fun x=> ?_⟩
 rw[zFF d M _ _ x (by omega) (by omega)]
 by_cases h1:x=k-1
 ·rw[if_pos h1,if_pos h1,h.at_,if_pos rfl]
 ·rw[if_neg h1,if_neg h1]
  by_cases h2:x=k
  ·rw[if_pos h2,if_pos (by omega),h.at_,if_neg (by omega),if_neg (by omega),h2]
  ·rw[if_neg h2,h.at_,if_neg h2]
   by_cases h3:k<x∧x≤m
   ·rw[if_pos h3,if_pos (by omega)]
   ·rw[if_neg h3,if_neg (by omega)]
theorem GoneDown.seg {L M:List α} {a m k b:Nat} (h:GoneDown d L M m k) (hak:a≤k) (hkm:k≤m) (hm:m<b):Seg d L M a b :=
 ⟨h.perm,fun x hx=>by rw[h.at_,if_neg (by omega),if_neg (by omega)],fun x p q=>by
  rw[h.at_]
  split
  ·exact⟨m,by omega,by omega,rfl⟩
  ·split
   ·exact⟨x-1,by omega,by omega,rfl⟩
   ·exact⟨x,p,q,rfl⟩⟩
theorem GoneDown.sorted {L M:List α} {a m i:Nat} (hs:Sorted d wt L a m) (hi:a≤i) (him:i≤m) (h1:i=a∨wA d wt L (i-1)≤wA d wt L m) (h2:i=m∨wA d wt L m≤wA d wt L i) (h:GoneDown d L M m i):Sorted d wt M a (m+1):=by
 have hw: ∀ x,wA d wt M x=if x=i then wA d wt L m else if i<x∧x≤m then wA d wt L (x-1) else wA d wt L x:=fun x=>by
  unfold wA
  rw[h.at_]
  split
  ·rfl
  ·split<;>rfl
 have lo: ∀ x,a≤x→x<i→wA d wt L x≤wA d wt L m:=fun x p q=>by
  rcases h1 with h1 | h1
  ·omega
  ·by_cases hx:x=i-1
   ·rw[hx];exact h1
   ·exact Int.le_trans (hs x (i-1) (by omega) (by omega) (by omega)) h1
 have hi': ∀ y,i≤y→y<m→wA d wt L m≤wA d wt L y:=fun y p q=>by
  rcases h2 with h2 | h2
  ·omega
  ·by_cases hy:y=i
   ·rw[hy];exact h2
   ·exact Int.le_trans h2 (hs i y (by omega) (by omega) q)
 intro x y p q r
 rw[hw,hw]
 by_cases hx:x=i
 ·rw[if_pos hx,if_neg (by omega),if_pos (by omega)]
  exact hi' (y-1) (by omega) (by omega)
 ·rw[if_neg hx]
  by_cases hx2:i<x
  ·rw[if_pos (by omega),if_neg (by omega),if_pos (by omega)]
   exact hs _ _ (by omega) (by omega) (by omega)
  ·rw[if_neg (by omega)]
   by_cases hy:y=i
   ·rw[if_pos hy]
    exact lo x p (by omega)
   ·rw[if_neg hy]
    by_cases hy2:i<y
    ·rw[if_pos (by omega)]
     by_cases hxy:x=y-1
     ·omega
     ·exact hs _ _ p (by omega) (by omega)
    ·rw[if_neg (by omega)]
     exact hs _ _ p q (by omega)
end
end Go.Proofs.YtkggcjdlpendfaaGreatDoor.SM
