/- Contracts of the functions that the law reaches, part 27. -/
import Derived.Test.YtkggcjdlpendfaaGreatDoorMTopCoarseCard26
namespace Go.Proofs.YtkggcjdlpendfaaGreatDoor
set_option linter.unusedVariables false
set_option linter.unusedSimpArgs false
set_option maxRecDepth 20000
set_option maxHeartbeats 8000000
open Go.RowKit
theorem zBq:(Tryz.prog.info? 42).map (·.size)=some 17:=by kernel_rfl
structure FC where
 wd:Int
 hi:Int
 pt:Int
 qs:List Int
 cs1:List Int
 xs1:List Int
 cs2:List Int
 xs2:List Int
 ev:Int
 data:List Nat
def FC.zero:FC:=⟨0,0,0,List.replicate 64 0,List.replicate 16 0,[],List.replicate 16 0,[],0,[]⟩
def FC.cells (F:FC) (s1 s2 sd:Value):Array Value:=(yN F.wd F.hi F.pt F.qs (zT F.cs1 s1) (zT F.cs2 s2) F.ev sd).toArray
def FC.at_ (F:FC) (w:World) (s1 s2 sd:Value):Prop:=SL w 1 s1 F.xs1.length (ints F.xs1)∧SL w 1 s2 F.xs2.length (ints F.xs2)∧SL w 1 sd F.data.length (zD F.data)
def FC.shaped (F:FC):Prop:=F.qs.length=64∧F.cs1.length=16∧F.cs2.length=16
theorem FC.at_.ext {F:FC} {w w':World} {s1 s2 sd:Value} (h:F.at_ w s1 s2 sd) (hx:Ext w w'):F.at_ w' s1 s2 sd:=⟨h.1.ext hx,h.2.1.ext hx,h.2.2.ext hx⟩
theorem FC.size {F:FC} (h:F.shaped) (s1 s2 sd:Value):(F.cells s1 s2 sd).size=103:=zDa _ _ _ _ _ _ _ _ h.1 (zS _ _ h.2.1) (zS _ _ h.2.2)
theorem zIb:FC.zero.shaped:=⟨rfl,rfl,rfl⟩
def zFile:Array Value:=FC.zero.cells (.slice none 0 0) (.slice none 0 0) (.slice none 0 0)
theorem zero_at (w:World):FC.zero.at_ w (.slice none 0 0) (.slice none 0 0) (.slice none 0 0):=⟨SL.nil w 1,SL.nil w 1,SL.nil w 1⟩
theorem zBj:(Tryz.prog.info? 47).bind (·.zero)=some (.agg zFile):=by kernel_rfl
theorem zDx:Tryz.prog.built 47 []=some zFile:=by
 show _=_
 kernel_rfl
theorem zBR:zFile.size=103:=by unfold zFile;exact FC.size zIb _ _ _
theorem zIC (wd hi pt ev:Int) (qs:List Int) (t1 t2:List Value) (sd:Value):(yN wd hi pt qs t1 t2 ev sd).toArray=(ints [wd,hi,pt]++(ints qs++(t1++t2++[.int .i64 ev,sd]))).toArray:=by simp[yN]
theorem cells_1 (wd hi pt ev:Int) (qs:List Int) (t1 t2:List Value) (sd:Value):(yN wd hi pt qs t1 t2 ev sd).toArray=((ints [wd,hi,pt]++ints qs)++(t1++(t2++[.int .i64 ev,sd]))).toArray:=by simp[yN]
theorem cells_2 (wd hi pt ev:Int) (qs:List Int) (t1 t2:List Value) (sd:Value):(yN wd hi pt qs t1 t2 ev sd).toArray=((ints [wd,hi,pt]++ints qs++t1)++(t2++[.int .i64 ev,sd])).toArray:=by simp[yN]
theorem cells_d (wd hi pt ev:Int) (qs:List Int) (t1 t2:List Value) (sd u:Value) (hq:qs.length=64) (h1:t1.length=17) (h2:t2.length=17):(yN wd hi pt qs t1 t2 ev sd).toArray.setIfInBounds 102 u=(yN wd hi pt qs t1 t2 ev u).toArray:=by
 have e: ∀ s,(yN wd hi pt qs t1 t2 ev s).toArray=((ints [wd,hi,pt]++ints qs++t1++t2++[Value.int .i64 ev])++([s]++[])).toArray:=fun s=>by simp[yN]
 rw[e sd,e u]
 exact zOR _ _ _ 102 0 u (by simp[zY,hq,h1,h2]) (by simp)
theorem q_set (wd hi pt ev:Int) (qs:List Int) (t1 t2:List Value) (sd:Value) (k:Nat) (z:Int) (h:k<qs.length):(yN wd hi pt qs t1 t2 ev sd).toArray.setIfInBounds (3+k) (.int .i64 z)=(yN wd hi pt (qs.set k z) t1 t2 ev sd).toArray:=by
 rw[zIC,zIC,zOR _ _ _ 3 k _ rfl (by rw[zY];exact h)]
 unfold ints
 rw[List.map_set]
theorem zFe (cs:List Int) (A:Option Addr) (k c:Nat): ∀ v∈zT cs (.slice A k c),v.oneCell'=true:=by
 intro v hv
 unfold zT at hv
 rcases wE5.1 hv with hv | hv
 ·exact qR _ v hv
 ·simp at hv;subst hv;rfl
theorem zEA (F:FC) (A B C:Option Addr) (a b c d e f:Nat):(F.cells (.slice A a b) (.slice B c d) (.slice C e f)).all (·.oneCell')=true:=by
 unfold FC.cells yN
 rw[wO9,wB5]
 intro v hv
 simp only[wE5] at hv
 rcases hv with (((hv | hv) | hv) | hv) | hv
 ·exact qR _ v hv
 ·exact qR _ v hv
 ·exact zFe _ _ _ _ v hv
 ·exact zFe _ _ _ _ v hv
 ·simp at hv;rcases hv with rfl | rfl<;>rfl
theorem zCg:zFile.all (·.oneCell')=true:=zEA _ _ _ _ _ _ _ _ _ _
section
variable {ops:Array Oper} {rest:List Oper} {o:Oper} {ac:Act} {w:World} {Q:Exit→Act→World→Prop}
theorem store_q (hgd:o.guard=none) (x y:Operand) (ho:o.op=.store 33 x y) (gf:Nat) (F:FC) (hF:F.shaped) (s1 s2 sd:Value) (q:List Int) (hq:q.length=64) (hx:ac.eval x=.pointer (some ⟨gf,3,none⟩)) (hy:ac.eval y=.agg (bv q))
 (hB:Blk w gf 47 (F.cells s1 s2 sd)) (h: ∀ w1,Blk w1 gf 47 (FC.cells { F with qs:=q } s1 s2 sd)→Upd (fun b=>b=gf) w w1→wpList Tryz.prog ops Q rest (ac.put o.dst undef) w1):wpList Tryz.prog ops Q (o::rest) ac w:=by
 unfold FC.cells at hB h
 rw[zIC] at hB
 refine vB hgd _ x y ho gf 3 (ints q) hx hy hB rfl (by rw[zY,zY,hq,hF.1]) (by rw[zY,hq];exact zF) (qR q) (fun w1 h1 h2=>h w1 ?_ h2)
 rw[zIC]
 exact h1
theorem store_t1 (hgd:o.guard=none) (x y:Operand) (ho:o.op=.store 42 x y) (gf:Nat) (F:FC) (hF:F.shaped) (s1 s2 sd:Value) (cs xs:List Int) (hcs:cs.length=16) (A:Option Addr) (k c:Nat) (hx:ac.eval x=.pointer (some ⟨gf,67,none⟩)) (hy:ac.eval y=.agg (yG cs (.slice A k c)))
 (hB:Blk w gf 47 (F.cells s1 s2 sd)) (h: ∀ w1,Blk w1 gf 47 (FC.cells { F with cs1:=cs,xs1:=xs } (.slice A k c) s2 sd)→Upd (fun b=>b=gf) w w1→wpList Tryz.prog ops Q rest (ac.put o.dst undef) w1):wpList Tryz.prog ops Q (o::rest) ac w:=by
 unfold FC.cells at hB h
 rw[cells_1] at hB
 refine vB hgd _ x y ho gf 67 (zT cs (.slice A k c)) hx hy hB (by simp[zY,hF.1]) (by rw[zS _ _ hF.2.1,zS _ _ hcs]) (by rw[zS _ _ hcs];exact zBq) (zFe cs A k c) (fun w1 h1 h2=>h w1 ?_ h2)
 rw[cells_1]
 exact h1
theorem store_t2 (hgd:o.guard=none) (x y:Operand) (ho:o.op=.store 42 x y) (gf:Nat) (F:FC) (hF:F.shaped) (s1 s2 sd:Value) (cs xs:List Int) (hcs:cs.length=16) (A:Option Addr) (k c:Nat) (hx:ac.eval x=.pointer (some ⟨gf,84,none⟩)) (hy:ac.eval y=.agg (yG cs (.slice A k c)))
 (hB:Blk w gf 47 (F.cells s1 s2 sd)) (h: ∀ w1,Blk w1 gf 47 (FC.cells { F with cs2:=cs,xs2:=xs } s1 (.slice A k c) sd)→Upd (fun b=>b=gf) w w1→wpList Tryz.prog ops Q rest (ac.put o.dst undef) w1):wpList Tryz.prog ops Q (o::rest) ac w:=by
 unfold FC.cells at hB h
 rw[cells_2] at hB
 refine vB hgd _ x y ho gf 84 (zT cs (.slice A k c)) hx hy hB (by simp[zY,hF.1,zS _ _ hF.2.1]) (by rw[zS _ _ hF.2.2,zS _ _ hcs]) (by rw[zS _ _ hcs];exact zBq) (zFe cs A k c) (fun w1 h1 h2=>h w1 ?_ h2)
 rw[cells_2]
 exact h1
theorem load_q (hgd:o.guard=none) (x:Operand) (ho:o.op=.load 33 x) (gf:Nat) (F:FC) (hF:F.shaped) (s1 s2 sd:Value) (hx:ac.eval x=.pointer (some ⟨gf,3,none⟩))
 (hB:Blk w gf 47 (F.cells s1 s2 sd)) (h:wpList Tryz.prog ops Q rest (ac.put o.dst (.agg (bv F.qs))) w):wpList Tryz.prog ops Q (o::rest) ac w:=by
 unfold FC.cells at hB
 exact wpList_load_mid hgd _ x ho gf 3 hx (ints F.qs) _ (zBg hB hF.1 (zS _ _ hF.2.1) (zS _ _ hF.2.2)).q Tryz.underlying33 rfl (by rw[zY,hF.1];exact zF) h
theorem store_qk (hgd:o.guard=none) (x y:Operand) (ho:o.op=.store 3 x y) (gf:Nat) (F:FC) (hF:F.shaped) (s1 s2 sd:Value) (k:Nat) (hk:k<64) (z:Int) (hx:ac.eval x=.pointer (some ⟨gf,3+k,none⟩)) (hy:ac.eval y=.int .i64 z)
 (hB:Blk w gf 47 (F.cells s1 s2 sd)) (h: ∀ w1,Blk w1 gf 47 (FC.cells { F with qs:=F.qs.set k z } s1 s2 sd)→Upd (fun b=>b=gf) w w1→wpList Tryz.prog ops Q rest (ac.put o.dst undef) w1):wpList Tryz.prog ops Q (o::rest) ac w:=by
 refine uI hgd x y ho gf (3+k) z hx hy hB (by rw[FC.size hF];omega) (h _ ?_ ((Upd.refl (fun b=>b=gf) w).setCell (p:=⟨gf,3+k,none⟩) rfl _))
 have:=hB.set_ (3+k) (.int .i64 z)
 unfold FC.cells at this ⊢
 rwa [q_set _ _ _ _ _ _ _ _ _ _ (by rw[hF.1];exact hk)] at this
theorem wl_storeB {i:Nat} {A:Option Addr} {n c:Nat} (hg:o.guard=none) (x y:Operand) (ho:o.op=.store 45 x y) (g:Nat) (hx:ac.eval x=.pointer (some ⟨g,i,none⟩)) (hy:ac.eval y=.slice A n c)
 {t:TypeId} {cs:Array Value} (hB:Blk w g t cs) (hi:i<cs.size) (h:wpList Tryz.prog ops Q rest (ac.put o.dst undef) (w.setCell ⟨g,i,none⟩ (.slice A n c))):wpList Tryz.prog ops Q (o::rest) ac w :=
 wpList_plain hg fun _ hK=>by
  have hc:=(hB.cell i).trans (wF0 hi)
  have hf:=hB.frozen i
  unfold Oper.wp execOp
  simp only[ho,hx,hy]
  go_simp
  exact hK _ _ h
theorem zKr (hgd:o.guard=none) (x y:Operand) (ho:o.op=.store 45 x y) (gf:Nat) (F:FC) (hF:F.shaped) (s1 s2 sd:Value) (data:List Nat) (A:Option Addr) (n c:Nat) (hx:ac.eval x=.pointer (some ⟨gf,102,none⟩)) (hy:ac.eval y=.slice A n c)
 (hB:Blk w gf 47 (F.cells s1 s2 sd)) (h: ∀ w1,Blk w1 gf 47 (FC.cells { F with data:=data } s1 s2 (.slice A n c))→Upd (fun b=>b=gf) w w1→wpList Tryz.prog ops Q rest (ac.put o.dst undef) w1):wpList Tryz.prog ops Q (o::rest) ac w:=by
 refine wl_storeB hgd x y ho gf hx hy hB (by rw[FC.size hF];omega) (h _ ?_ ((Upd.refl (fun b=>b=gf) w).setCell (p:=⟨gf,102,none⟩) rfl _))
 have:=hB.set_ 102 (.slice A n c)
 unfold FC.cells at this ⊢
 rwa [cells_d _ _ _ _ _ _ _ _ _ hF.1 (zS _ _ hF.2.1) (zS _ _ hF.2.2)] at this
end
theorem zMJ (off:Nat): ∀ (news old a b:List Value) (k:Nat),a.length=off+k→old.length=news.length →
 (news.zipIdx k).foldl (fun cs (x:Value×Nat)=>cs.setIfInBounds (off+x.2) x.1) (a++(old++b)).toArray=(a++(news++b)).toArray
 | [],old,a,b,k,_,h=>by
   have:old=[]:=wN7.1 (by simpa using h)
   subst this
   rfl
 | v::news,[],a,b,k,_,h=>by simp at h
 | v::news,o::old,a,b,k,ha,h=>by
   rw[wD2,List.foldl_cons]
   dsimp only
   rw[wM3,wF6 _ _ (by omega),show off+k-a.length=0 by omega,wK6,wF9]
   have:=zMJ off news old (a++[v]) b (k+1) (by simp;omega) (by simpa using h)
   rw[show a++v::(old++b)=(a++[v])++(old++b) by simp,this]
   simp
theorem zCa (place:Nat→Option (Nat×Nat)) (i off:Nat) (v:Value) (news:List Value) (rest:List (Nat×Value)) (a old b:List Value) (hp:place i=some (off,news.length)) (hv:v.cells=news.toArray) (ha:a.length=off) (ho:old.length=news.length) :
 Instr.fill place (a++(old++b)).toArray ((i,v)::rest)=Instr.fill place (a++(news++b)).toArray rest:=by
 rw[Instr.fill,hp]
 dsimp only
 rw[hv,if_neg (by simp;omega)]
 congr 1
 rw[←Array.foldl_toList,Array.toList_zipIdx]
 exact zMJ off news old a b 0 (by omega) ho
def placesF:List (Nat×Nat):=[(0,1),(1,1),(2,1),(3,64),(67,34),(101,1),(102,1)]
theorem zQE (parts:List (Nat×Value)):Tryz.prog.built 47 parts=Instr.fill (placesF.toArray[·]?) zFile parts:=by
 show _=_
 kernel_rfl
theorem zKO (wd hi pt ev:Int) (qs:List Int) (hq:qs.length=64) (t1 t2:List Value) (h1:t1.length=17) (h2:t2.length=17) :
 Tryz.prog.built 47 [(0,.int .i64 wd),(1,.int .i64 hi),(2,.int .i64 pt),(3,.agg (bv qs)),(5,.int .i64 ev),(4,.agg (t1++t2).toArray)]=some (yN wd hi pt qs t1 t2 ev (.slice none 0 0)).toArray:=by
 rw[zQE]
 obtain⟨zq,hzq⟩: ∃ l,l=ints (List.replicate 64 0):=⟨_,rfl⟩
 obtain⟨zt,hzt⟩: ∃ l,l=zT (List.replicate 16 0) (.slice none 0 0)++zT (List.replicate 16 0) (.slice none 0 0):=⟨_,rfl⟩
 have l1:zq.length=64:=by rw[hzq];simp[zY]
 have l2:zt.length=34:=by rw[hzt];rfl
 have e:zFile=([]++([Value.int .i64 0]++([Value.int .i64 0,Value.int .i64 0]++(zq++(zt++[Value.int .i64 0,Value.slice none 0 0])))):List Value).toArray:=by
  rw[hzq,hzt]
  simp[zFile,FC.zero,FC.cells,yN,ints]
 rw[e,zCa _ 0 0 _ [.int .i64 wd] _ _ _ _ (by rfl) (by rfl) (by rfl) (by rfl)]
 have e1:([]++([Value.int .i64 wd]++([.int .i64 0,.int .i64 0]++(zq++(zt++[.int .i64 0,.slice none 0 0])))):List Value).toArray=([Value.int .i64 wd]++([.int .i64 0]++([.int .i64 0]++(zq++(zt++[.int .i64 0,.slice none 0 0])))):List Value).toArray:=by simp
 rw[e1]
 rw[zCa _ 1 1 _ [.int .i64 hi] _ _ _ _ (by rfl) (by rfl) (by rfl) (by rfl)]
 have e2:([Value.int .i64 wd]++([.int .i64 hi]++([.int .i64 0]++(zq++(zt++[.int .i64 0,.slice none 0 0])))):List Value).toArray=([Value.int .i64 wd,.int .i64 hi]++([.int .i64 0]++(zq++(zt++[.int .i64 0,.slice none 0 0]))):List Value).toArray:=by simp
 rw[e2]
 rw[zCa _ 2 2 _ [.int .i64 pt] _ _ _ _ (by rfl) (by rfl) (by rfl) (by rfl)]
 have e3:([Value.int .i64 wd,.int .i64 hi]++([.int .i64 pt]++(zq++(zt++[.int .i64 0,.slice none 0 0]))):List Value).toArray=([Value.int .i64 wd,.int .i64 hi,.int .i64 pt]++(zq++(zt++[.int .i64 0,.slice none 0 0])):List Value).toArray:=by simp
 rw[e3]
 rw[zCa _ 3 3 (.agg (bv qs)) (ints qs) _ _ _ _ (by rw[zY,hq];rfl) (by rfl) (by rfl) (by rw[zY,l1,hq])]
 have e4:([Value.int .i64 wd,.int .i64 hi,.int .i64 pt]++(ints qs++(zt++[.int .i64 0,.slice none 0 0])):List Value).toArray=(([Value.int .i64 wd,.int .i64 hi,.int .i64 pt]++ints qs++zt)++([.int .i64 0]++[.slice none 0 0]):List Value).toArray:=by simp
 rw[e4]
 rw[zCa _ 5 101 _ [.int .i64 ev] _ _ _ _ (by rfl) (by rfl) (by simp[zY,hq,l2]) (by rfl)]
 have e5:(([Value.int .i64 wd,.int .i64 hi,.int .i64 pt]++ints qs++zt)++([.int .i64 ev]++[.slice none 0 0]):List Value).toArray=(([Value.int .i64 wd,.int .i64 hi,.int .i64 pt]++ints qs)++(zt++[.int .i64 ev,.slice none 0 0]):List Value).toArray:=by simp
 rw[e5]
 rw[zCa _ 4 67 (.agg (t1++t2).toArray) (t1++t2) _ _ _ _ (by rw[wF1,h1,h2];rfl) (by rfl) (by simp[zY,hq]) (by rw[wF1,h1,h2,l2])]
 simp[Instr.fill,yN,ints]
section
def EncF (wd hi:Int) (L:List (List Int)) (q:List Int) (nn E:Int) (F:FC):Prop :=
 if (zX wd hi L q).1≠0 then E=(zX wd hi L q).1∧F=FC.zero
 else if nn<0∨100<nn then E=1∧F=FC.zero
 else ∃ cs1 xs1 cs2 xs2,zDL (jS (zX wd hi L q).2.1 nn.toNat (zX wd hi L q).2.2 (yK (zX wd hi L q).2.1 nn.toNat)).1 cs1 xs1∧zDL (jS (zX wd hi L q).2.1 nn.toNat (zX wd hi L q).2.2 (yK (zX wd hi L q).2.1 nn.toNat)).2 cs2 xs2∧cs1.length=16∧cs2.length=16 ∧
  E=(zBE cs1 xs1 cs2 xs2 nn (zX wd hi L q).2.1 (zX wd hi L q).2.2).1∧F=if E=0 then ⟨wd,hi,L.length,q,cs1,xs1,cs2,xs2,nn,(zBE cs1 xs1 cs2 xs2 nn (zX wd hi L q).2.1 (zX wd hi L q).2.2).2⟩ else FC.zero
def NewB (w:World) (v:Value):Prop:= ∀ b,v.ownBlock=some b→w.heap.size≤b
theorem zOk (w:World):NewB w (.slice none 0 0):=fun b h=>by cases h
def EncIs (wd hi:Int) (L:List (List Int)) (q:List Int) (nn:Int) (w:World) (e:Ending) (w':World):Prop :=
 ∃ E F s1 s2 sd,e=.returned (.tuple #[.agg (F.cells s1 s2 sd),.int .i64 E])∧F.shaped∧F.at_ w' s1 s2 sd∧EncF wd hi L q nn E F∧Ext w w'∧NewB w s1∧NewB w s2
theorem EncIs.zero {wd hi:Int} {L:List (List Int)} {q:List Int} {nn E:Int} {w w':World} (h:EncF wd hi L q nn E FC.zero) (hx:Ext w w'):EncIs wd hi L q nn w (.returned (.tuple #[.agg zFile,.int .i64 E])) w' :=
 ⟨E,FC.zero,_,_,_,rfl,zIb,zero_at w',h,hx,zOk w,zOk w⟩
attribute [local irreducible] bv zX jS yK zBE zFile

theorem fenc_bad (wd hi:Int) (L:List (List Int)) (A:Option Addr) (n c:Nat) (q:List Int) (hq:q.length=64) (nn:Int) (w:World) (hr:RowsS w A n c L) (hE:(zX wd hi L q).1≠0) :
 Calls Tryz.prog 17 #[.agg (yX wd hi (.slice A n c)),.agg (bv q),.int .i64 nn] w (EncIs wd hi L q nn w):=by
 have H1:=zA (fun W (h:Ext w W)=>zBz wd hi L A n c q hq W (hr.ext h))
 have HR:=zA (fun W (h:Ext w W)=>EncIs.zero (wd:=wd) (hi:=hi) (L:=L) (q:=q) (nn:=nn) (E:=(zX wd hi L q).1) (w:=w) (w':=W) (by unfold EncF;rw[if_pos hE];exact⟨rfl,rfl⟩) h)
 have hzb:decide ((zX wd hi L q).1=0)=false:=by simpa using hE
 have hps:=zA (vC wd hi (.slice A n c))
 have hqs:=zA (show (bv q).size=64 by rw[zJ,hq])
 have hzs:=zA zBR
 have hz0:=zBj
 have hbf:=zA zDx
 unfold FrmIs at H1
 generalize zX wd hi L q=z at *
 obtain⟨E,m,Z⟩:=z
 dsimp only at H1 HR hzb hE
 have HE:=zA hE
 generalize yX wd hi (.slice A n c)=pv at *
 generalize bv q=qv at *
 clear hE hr hq
 go_enter Tryz.func17,Tryz.ntmps17
 go_wp2_with (first
  | ((with_reducible apply gS 3);refine wBox rfl 31 (.tmp 0) rfl pv rfl ?_;intro w1 g1 hb1 hx1 hg1)
  | ((with_reducible apply gS 4);refine wBox rfl 33 (.tmp 1) rfl qv rfl ?_;intro w2 g2 hb2 hx2 hg2;have hb12:=hb1.ext hx2;have hx12:=hx1.trans hx2)
  | ((with_reducible apply gS 6);refine wAlo' rfl (some 6) rfl 47 rfl _ hz0 ?_;intro w3 g0 hb0 hx3 hg0;have hb13:=hb12.ext hx3;have hb23:=hb2.ext hx3;have hx13:=hx12.trans hx3)
  | ((with_reducible apply gS 12);refine wLdB rfl 31 (.tmp 3) rfl g1 rfl hb13 _ Tryz.underlying31 rfl 3 jL hps.out ?_)
  | ((with_reducible apply gS 13);refine wLdB rfl 33 (.tmp 4) rfl g2 rfl hb23 _ Tryz.underlying33 rfl 64 zF hqs.out ?_)
  | (go_at_call 13;(with_reducible refine (H1.out _ hx13).mono ?_);rintro e4 w4 ⟨B4,d4,rfl,hs4,hx4⟩)
  | ((with_reducible apply gS 18);refine zB rfl (.bool false) (zAB rfl rfl rfl hzb) ?_)
  | ((with_reducible apply gS 28);refine zB rfl (.bool true) (zAK rfl rfl rfl (by simpa using HE.out)) ?_)
  | ((with_reducible apply gS 29);refine qH (by rfl) 47 rfl _ hbf.out ?_)
  | ((with_reducible apply gT 6 29);refine wStB rfl 47 (.tmp 6) (.tmp 29) rfl g0 zFile rfl rfl (hb0.ext hx4) 103 yI hzs.out hzs.out zCg ?_;intro w5 hb5 hg5))
 exact yB rfl rfl g0 rfl hb5 _ Tryz.underlying47 rfl 103 yI hzs.out (HR.out _ ((hx13.trans hx4).grown hg5 (by have:=hx12.size;omega)))

theorem fenc_low (wd hi:Int) (L:List (List Int)) (A:Option Addr) (n c:Nat) (q:List Int) (hq:q.length=64) (nn:Int) (w:World) (hr:RowsS w A n c L) (hE:(zX wd hi L q).1=0) (hn:nn<0) :
 Calls Tryz.prog 17 #[.agg (yX wd hi (.slice A n c)),.agg (bv q),.int .i64 nn] w (EncIs wd hi L q nn w):=by
 have H1:=zA (fun W (h:Ext w W)=>zBz wd hi L A n c q hq W (hr.ext h))
 have HR:=zA (fun W (h:Ext w W)=>EncIs.zero (wd:=wd) (hi:=hi) (L:=L) (q:=q) (nn:=nn) (E:=1) (w:=w) (w':=W) (by unfold EncF;rw[if_neg (by simpa using hE),if_pos (by omega)];exact⟨rfl,rfl⟩) h)
 have hps:=zA (vC wd hi (.slice A n c))
 have hqs:=zA (show (bv q).size=64 by rw[zJ,hq])
 have hzs:=zA zBR
 have hz0:=zBj
 have hbf:=zA zDx
 unfold FrmIs at H1
 generalize zX wd hi L q=z at *
 obtain⟨E,m,Z⟩:=z
 dsimp only at H1 HR hE
 subst hE
 have HN:=zA hn
 generalize yX wd hi (.slice A n c)=pv at *
 generalize bv q=qv at *
 clear hr hq hn
 go_enter Tryz.func17,Tryz.ntmps17
 go_wp2_with (first
  | ((with_reducible apply gS 3);refine wBox rfl 31 (.tmp 0) rfl pv rfl ?_;intro w1 g1 hb1 hx1 hg1)
  | ((with_reducible apply gS 4);refine wBox rfl 33 (.tmp 1) rfl qv rfl ?_;intro w2 g2 hb2 hx2 hg2;have hb12:=hb1.ext hx2;have hx12:=hx1.trans hx2)
  | ((with_reducible apply gS 6);refine wAlo' rfl (some 6) rfl 47 rfl _ hz0 ?_;intro w3 g0 hb0 hx3 hg0;have hb13:=hb12.ext hx3;have hb23:=hb2.ext hx3;have hx13:=hx12.trans hx3)
  | ((with_reducible apply gS 12);refine wLdB rfl 31 (.tmp 3) rfl g1 rfl hb13 _ Tryz.underlying31 rfl 3 jL hps.out ?_)
  | ((with_reducible apply gS 13);refine wLdB rfl 33 (.tmp 4) rfl g2 rfl hb23 _ Tryz.underlying33 rfl 64 zF hqs.out ?_)
  | (go_at_call 13;(with_reducible refine (H1.out _ hx13).mono ?_);rintro e4 w4 ⟨B4,d4,rfl,hs4,hx4⟩)
  | ((with_reducible apply gS 21);refine xC (by rfl) (.bool true) (zR rfl rfl rfl (wK3 HN.out)) ?_)
  | ((with_reducible apply gS 29);refine qH (by rfl) 47 rfl _ hbf.out ?_)
  | ((with_reducible apply gT 6 29);refine wStB rfl 47 (.tmp 6) (.tmp 29) rfl g0 zFile rfl rfl (hb0.ext hx4) 103 yI hzs.out hzs.out zCg ?_;intro w5 hb5 hg5))
 exact yB rfl rfl g0 rfl hb5 _ Tryz.underlying47 rfl 103 yI hzs.out (HR.out _ ((hx13.trans hx4).grown hg5 (by have:=hx12.size;omega)))

theorem fenc_high (wd hi:Int) (L:List (List Int)) (A:Option Addr) (n c:Nat) (q:List Int) (hq:q.length=64) (nn:Int) (w:World) (hr:RowsS w A n c L) (hE:(zX wd hi L q).1=0) (hn: ¬nn<0∧100<nn) :
 Calls Tryz.prog 17 #[.agg (yX wd hi (.slice A n c)),.agg (bv q),.int .i64 nn] w (EncIs wd hi L q nn w):=by
 have H1:=zA (fun W (h:Ext w W)=>zBz wd hi L A n c q hq W (hr.ext h))
 have HR:=zA (fun W (h:Ext w W)=>EncIs.zero (wd:=wd) (hi:=hi) (L:=L) (q:=q) (nn:=nn) (E:=1) (w:=w) (w':=W) (by unfold EncF;rw[if_neg (by simpa using hE),if_pos (by omega)];exact⟨rfl,rfl⟩) h)
 have hps:=zA (vC wd hi (.slice A n c))
 have hqs:=zA (show (bv q).size=64 by rw[zJ,hq])
 have hzs:=zA zBR
 have hz0:=zBj
 have hbf:=zA zDx
 unfold FrmIs at H1
 generalize zX wd hi L q=z at *
 obtain⟨E,m,Z⟩:=z
 dsimp only at H1 HR hE
 subst hE
 have H21:Hid (decide (nn<0)=false):=zA (wK4 hn.1)
 have H24:Hid (decide ((100:Int)<nn)=true):=zA (wK3 hn.2)
 generalize yX wd hi (.slice A n c)=pv at *
 generalize bv q=qv at *
 clear hr hq hn
 go_enter Tryz.func17,Tryz.ntmps17
 go_wp2_with (first
  | ((with_reducible apply gS 3);refine wBox rfl 31 (.tmp 0) rfl pv rfl ?_;intro w1 g1 hb1 hx1 hg1)
  | ((with_reducible apply gS 4);refine wBox rfl 33 (.tmp 1) rfl qv rfl ?_;intro w2 g2 hb2 hx2 hg2;have hb12:=hb1.ext hx2;have hx12:=hx1.trans hx2)
  | ((with_reducible apply gS 6);refine wAlo' rfl (some 6) rfl 47 rfl _ hz0 ?_;intro w3 g0 hb0 hx3 hg0;have hb13:=hb12.ext hx3;have hb23:=hb2.ext hx3;have hx13:=hx12.trans hx3)
  | ((with_reducible apply gS 12);refine wLdB rfl 31 (.tmp 3) rfl g1 rfl hb13 _ Tryz.underlying31 rfl 3 jL hps.out ?_)
  | ((with_reducible apply gS 13);refine wLdB rfl 33 (.tmp 4) rfl g2 rfl hb23 _ Tryz.underlying33 rfl 64 zF hqs.out ?_)
  | (go_at_call 13;(with_reducible refine (H1.out _ hx13).mono ?_);rintro e4 w4 ⟨B4,d4,rfl,hs4,hx4⟩)
  | ((with_reducible apply gS 21);refine xC (by rfl) (.bool false) (zR rfl rfl rfl H21.out) ?_)
  | ((with_reducible apply gS 24);refine xC (by rfl) (.bool true) (xP rfl rfl rfl H24.out) ?_)
  | ((with_reducible apply gS 29);refine qH (by rfl) 47 rfl _ hbf.out ?_)
  | ((with_reducible apply gT 6 29);refine wStB rfl 47 (.tmp 6) (.tmp 29) rfl g0 zFile rfl rfl (hb0.ext hx4) 103 yI hzs.out hzs.out zCg ?_;intro w5 hb5 hg5))
 exact yB rfl rfl g0 rfl hb5 _ Tryz.underlying47 rfl 103 yI hzs.out (HR.out _ ((hx13.trans hx4).grown hg5 (by have:=hx12.size;omega)))
end
end Go.Proofs.YtkggcjdlpendfaaGreatDoor
namespace Go.Proofs.YtkggcjdlpendfaaGreatDoor.BM
set_option linter.unusedVariables false
set_option linter.unusedSimpArgs false
set_option maxRecDepth 20000
set_option maxHeartbeats 8000000
def Good (p:Pack):Prop:=p.1=1∧p.2.count 0=1∧ ∀ s∈p.2,s= -1∨s=0
def zP:Pack:=(0,[-1])
theorem zIq:Good (1,[0]):=⟨rfl,by decide,fun s h=>by simp at h;exact .inr h⟩
theorem good_more {p:Pack} (h:Good p):Good (0+p.1,[-1]++p.2):=by
 refine⟨by rw[Nat.zero_add];exact h.1, ?_,fun s hs=> ?_⟩
 ·show ([-1]++p.2).count 0=1
  rw[List.count_append,h.2.1]
  decide
 ·rcases List.mem_append.1 hs with h1 | h1
  ·simp at h1;exact .inl h1
  ·exact h.2.2 s h1
theorem zKN {L r:List Pack} (hp:L.Perm (zP::r)) (hs:(L.map (·.1)).Pairwise (· ≤ ·)) (hr: ∀ p∈r,Good p): ∃ l,L=zP::l∧l.Perm r:=by
 cases L with
 | nil=>exact absurd hp.length_eq (by simp)
 | cons x l =>
   have hx:x=zP:=by
    have h1:zP∈x::l:=hp.symm.subset (by simp)
    rcases List.mem_cons.1 (hp.subset (List.mem_cons_self (a:=x) (l:=l))) with h2 | h2
    ·exact h2
    ·have h3:=(hr x h2).1
     rcases List.mem_cons.1 h1 with h4 | h4
     ·exact h4.symm
     ·rw[List.map_cons,List.pairwise_cons] at hs
      have h5:=hs.1 zP.1 (List.mem_map.2 ⟨zP,h4,rfl⟩)
      have h6:zP.1=0:=rfl
      omega
   subst hx
   exact⟨l,rfl,hp.cons_inv⟩
theorem zRG {S:List Pack} (hS:S=[zP,(1,[0])]): ∀ {f L},Reach S f L→ ∃ p r,L=zP::p::r∧r.length≤1∧Good p:=by
 intro f L h
 induction h with
 | zero=>exact⟨(1,[0]),[],hS,by simp,zIq⟩
 | step h1 h2 h3 ih =>
   obtain⟨p,r,rfl,hr,hg⟩:=ih
   have hpr:pairP (zP::p::r)=[(0+p.1,[-1]++p.2)]:=by
    cases r with
    | nil=>rfl
    | cons x r=>cases r with
      | nil=>rfl
      | cons y r=>simp at hr
   rw[hpr,hS] at h2
   have h4:=h2.trans (show ([(0+p.1,[-1]++p.2)]++[zP,(1,[0])]).Perm (zP::[(0+p.1,[-1]++p.2),(1,[0])]) from List.Perm.swap _ _ _)
   have hgo: ∀ q∈[((0+p.1,[-1]++p.2):Pack),(1,[0])],Good q:=fun q hq=>by
    simp only[List.mem_cons,List.not_mem_nil,or_false] at hq
    rcases hq with rfl | rfl
    ·exact good_more hg
    ·exact zIq
   obtain⟨l,rfl,hl⟩:=zKN h4 h3 hgo
   have hll:=hl.length_eq
   cases l with
   | nil=>simp at hll
   | cons q l=>exact⟨q,l,rfl,by simp at hll;omega,hgo q (hl.subset List.mem_cons_self)⟩
theorem filt_same {f g:Int→Nat} {n:Nat} (h: ∀ j,j<n→f (j:Int)=g (j:Int)) (k:Nat):filt f k n=filt g k n:=by
 unfold filt
 refine List.filter_congr fun s hs=> ?_
 obtain⟨j,hj,rfl⟩:=List.mem_map.1 hs
 rw[show f (Int.ofNat j)=g (Int.ofNat j) from h j (List.mem_range.1 hj)]
theorem tabs_same {f g:Int→Nat} {n:Nat} (h: ∀ j,j<n→f (j:Int)=g (j:Int)):csN f n 16 0=csN g n 16 0∧xsN f n 16 0=xsN g n 16 0:=by
 have hf:=fun k=>filt_same h k
 refine⟨?_, ?_⟩
 ·unfold csN
  refine List.map_congr_left fun j hj=> ?_
  have:=List.mem_range.1 hj
  rw[if_pos this,if_pos this,hf]
 ·unfold xsN
  rw[show filt f 16 0=filt g 16 0 from rfl,show (fun j=>filt f j n)=(fun j=>filt g j n) from funext hf]
theorem made_one {counts cs xs:List Int} (hM:Made counts cs xs) (h1:singN counts counts.length=[zP,(1,[0])]) :
 cs=csN (fun s=>if s=0 then 1 else 0) counts.length 16 0∧xs=xsN (fun s=>if s=0 then 1 else 0) counts.length 16 0:=by
 obtain⟨S,L,hS,hso,hR,hcs,hxs⟩:=hM
 rw[h1] at hS
 obtain⟨l,e,hl⟩:=zKN hS hso (fun p hp=>by simp at hp;subst hp;exact zIq)
 have hl1:l=[(1,[0])]:=List.perm_singleton.1 hl
 rw[hl1] at e
 obtain⟨p,r,hL, -,hg⟩:=zRG e hR
 have ht:L.take (2*S.length-2)=[zP,p]:=by rw[e,hL];rfl
 rw[ht] at hcs hxs
 have hf: ∀ j,j<counts.length→(cont [zP,p]).count ((j:Nat):Int)=(fun s:Int=>if s=0 then 1 else 0) (j:Int):=fun j _=>by
  have hc:cont [zP,p]=[-1]++p.2:=by simp[cont,zP]
  rw[hc,List.count_append]
  have h0:List.count ((j:Nat):Int) [-1]=0:=by
   rw[List.count_eq_zero]
   simp
  rw[h0,Nat.zero_add]
  dsimp only
  by_cases hj:j=0
  ·subst hj
   exact hg.2.1
  ·rw[if_neg (by omega),List.count_eq_zero]
   intro hm
   rcases hg.2.2 _ hm with h | h<;>omega
 obtain⟨t1,t2⟩:=tabs_same (f:=fun s=>(cont [zP,p]).count s) (g:=fun s=>if s=0 then 1 else 0) hf
 exact⟨hcs.trans t1,hxs.trans t2⟩
end Go.Proofs.YtkggcjdlpendfaaGreatDoor.BM
namespace Go.Proofs.YtkggcjdlpendfaaGreatDoor
set_option linter.unusedVariables false
set_option linter.unusedSimpArgs false
set_option maxRecDepth 20000
set_option maxHeartbeats 8000000
open Go.RowKit
def PR (w:World) (gr:Nat) (rs:List Nat) (sh:Bool):Prop :=
 ∃ (A:Option Addr) (c:Nat),Blk w gr 119 #[.slice A rs.length c,.bool sh]∧SL w 1 (.slice A rs.length c) rs.length (zD rs)∧(0<rs.length→ ∀ ad,A=some ad→ad.block<gr)
theorem PR.ext {w w':World} {gr:Nat} {rs:List Nat} {sh:Bool} (h:PR w gr rs sh) (hx:Ext w w'):PR w' gr rs sh:=by
 obtain⟨A,c,h1,h2,h3⟩:=h
 exact⟨A,c,h1.ext hx,h2.ext hx,h3⟩
theorem PR.upd {S:Nat→Prop} {w w':World} {gr:Nat} {rs:List Nat} {sh:Bool} (h:PR w gr rs sh) (hu:Upd S w w') (hS: ∀ x,S x→gr<x):PR w' gr rs sh:=by
 obtain⟨A,c,h1,h2,h3⟩:=h
 exact⟨A,c,hu.blk h1 (fun e=>by have:=hS _ e;omega),h2.upd0 hu (fun h0 ad e hx=>by have:=hS _ hx;have:=h3 h0 ad e;omega),h3⟩
theorem PR.flag {w:World} {gr:Nat} {rs:List Nat} {sh:Bool} (h:PR w gr rs sh):w.cell? ⟨gr,1,none⟩=some (.bool sh):=by
 obtain⟨A,c,h1,h2,h3⟩:=h
 exact h1.cell 1
theorem PR.lt {w:World} {gr:Nat} {rs:List Nat} {sh:Bool} (h:PR w gr rs sh):gr<w.heap.size:=by
 obtain⟨A,c,h1,h2,h3⟩:=h
 exact h1.lt
theorem sizeU8:(Tryz.prog.info? 5).map (·.size)=some 1:=by kernel_rfl
theorem zQl (gr:Nat) (A:Option Addr) (c:Nat) (sh:Bool) (w:World) (hB:Blk w gr 119 #[.slice A 0 c,.bool sh]) :
 Calls Tryz.prog 81 #[.pointer (some ⟨gr,0,none⟩)] w fun e w'=>e=.returned (.int .i64 0)∧Blk w' gr 119 #[.slice A 0 c,.bool true]∧Upd (fun b=>b=gr) w w':=by
 have hc0:w.cell? ⟨gr,0,none⟩=some (.slice A 0 c):=hB.cell 0
 have hc1:w.cell? ⟨gr,1,none⟩=some (.bool sh):=hB.cell 1
 have hf1:=hB.frozen 1
 have hset:=hB.set_ 1 (.bool true)
 have hu:=(Upd.refl (fun b=>b=gr) w).setCell (p:=⟨gr,1,none⟩) rfl (.bool true)
 go_enter Tryz.func81,Tryz.ntmps81
 go_wp2
 go_ret
 exact⟨rfl,hset,hu⟩
theorem zPK (gr:Nat) (A:Option Addr) (c b:Nat) (rs:List Nat) (sh:Bool) (w:World) (hb:b<256) (hB:Blk w gr 119 #[.slice A (rs.length+1) c,.bool sh]) (hs:SL w 1 (.slice A (rs.length+1) c) (rs.length+1) (zD (b::rs))) (X:Option Addr) (hX:Hid (X=if c=1 then A else A.map (·.add 1))) :
 Calls Tryz.prog 81 #[.pointer (some ⟨gr,0,none⟩)] w fun e w'=>e=.returned (.int .i64 (b:Int))∧Blk w' gr 119 #[.slice X rs.length (c-1),.bool sh]∧Upd (fun b=>b=gr) w w':=by
 obtain⟨ad,u,rfl,hlt,hu0,hcl⟩:=hs.at1 (k:=0) (by omega)
 have hub:u=.int .u8 (b:Int):=by simpa [zD] using hu0.symm
 subst hub
 obtain⟨A',c',he,hcap,hcap2, -, -⟩:=hs
 injection he with e1 e2 e3
 subst e1 e3
 have hc0:w.cell? ⟨gr,0,none⟩=some (.slice (some ad) (rs.length+1) c):=hB.cell 0
 have hc1:w.cell? ⟨gr,1,none⟩=some (.bool sh):=hB.cell 1
 have hf0:=hB.frozen 0
 have hset:=hB.set_ 0 (.slice X rs.length (c-1))
 have hu:=(Upd.refl (fun b=>b=gr) w).setCell (p:=⟨gr,0,none⟩) rfl (.slice X rs.length (c-1))
 have HB:=zA hB
 clear hB
 generalize rs.length=n at *
 have HSL:Hid (∀ (o:Oper) (a:Act) (x lo:Operand),o.op=.slice 45 x (some lo) none none→a.eval x=.slice (some ad) (n+1) c→a.eval lo=.int .i64 1→ ∀ W,(execOp a.eval o).run Tryz.prog W=.ok (.value (.slice X n (c-1))) W):=zA (fun o a x lo h1 h2 h3 W=>by
  have:=zLN (l:=1) h1 h2 h3 (by omega) hcap W
  rw[hX.out]
  exact this)
 clear hX
 go_enter Tryz.func81,Tryz.ntmps81
 go_wp2_with (first
  | ((with_reducible apply gS 9);refine zB rfl (.bool false) (zAB rfl rfl rfl (by simp;omega)) ?_)
  | ((with_reducible apply gS 17);refine zB rfl (.pointer (some (ad.add (0*1)))) (jG (i:=0) Tryz.underlying45 sizeU8 rfl rfl rfl (by omega)) ?_)
  | ((with_reducible apply gS 18);refine yW rfl (.int .u8 (b:Int)) (zJB rfl rfl hcl) ?_)
  | ((with_reducible apply gS 19);refine zB rfl (.int .i64 (b:Int)) (zKV rfl rfl (zGt b hb)) ?_)
  | ((with_reducible apply gS 25);refine zB rfl (.slice X n (c-1)) (HSL.out _ _ _ _ rfl rfl rfl) ?_))
 go_ret
 exact⟨rfl,hset,hu⟩
theorem zQr (gr:Nat) (rs:List Nat) (sh:Bool) (w:World) (hlt: ∀ b∈rs,b<256) (h:PR w gr rs sh) :
 Calls Tryz.prog 81 #[.pointer (some ⟨gr,0,none⟩)] w fun e w'=>e=.returned (.int .i64 ((rs.headD 0:Nat):Int))∧PR w' gr rs.tail (sh ||rs.isEmpty)∧Upd (fun b=>b=gr) w w':=by
 obtain⟨A,c,hB,hs,hne⟩:=h
 cases rs with
 | nil =>
   refine (zQl gr A c sh w hB).mono ?_
   rintro e w' ⟨rfl,h1,h2⟩
   obtain⟨A',c',he,hcap,hcap2, -, -⟩:=hs
   injection he with e1 e2 e3
   subst e3
   refine⟨rfl,⟨A,c,by simpa using h1,⟨A,c,rfl,hcap,hcap2,rfl,fun h=>by simp at h⟩,fun h=>by simp at h⟩,h2⟩
 | cons b rs =>
   refine (zPK gr A c b rs sh w (hlt b (by simp)) hB hs _ (zA rfl)).mono ?_
   rintro e w' ⟨rfl,h1,h2⟩
   have hs2:=hs.sub (l:=1) (h:=rs.length+1) (by omega) (by simp)
   have e2:((zD (b::rs)).drop 1).take (rs.length+1-1)=zD rs:=by simp[zD,wC4]
   rw[e2,wI6] at hs2
   have hblk:0<rs.length→ ∀ ad,(if c=1 then A else A.map (·.add 1))=some ad→ad.block<gr:=fun h0 ad e=>by
    split at e
    ·exact hne (by simp) ad e
    ·cases A with
     | none=>cases e
     | some a0 =>
       injection e with e
       subst e
       rw[yH]
       exact hne (by simp) a0 rfl
   refine⟨rfl,⟨_,_,by simpa using h1,hs2.upd0 h2 (fun h0 ad e=>Nat.ne_of_lt (hblk h0 ad e)),hblk⟩,h2⟩
theorem tblv_set (xs:List Int) (s:Value) (k:Nat) (z:Int) (h:k<xs.length):(yG xs s).setIfInBounds k (.int .i64 z)=yG (xs.set k z) s:=by
 unfold yG ints
 rw[wM3,wN8 _ _ (by simpa using h),List.map_set]
theorem zeroTblv:(Tryz.prog.info? 42).bind (·.zero)=some (.agg (yG (List.replicate 16 0) (.slice none 0 0))):=uO
theorem elt_intP:Elt Tryz.prog 22 3 1 8:=⟨Tryz.underlying22,by kernel_rfl,by omega⟩
theorem zeroIP:((Tryz.prog.info? 3).bind (·.zero)).isSome=true:=by kernel_rfl
theorem tblNeI:3≠42:=by decide
theorem tblv_get (xs:List Int) (s:Value) (k:Nat) (h:k<xs.length):(yG xs s)[k]? =some (.int .i64 xs[k]):=by
 unfold yG ints
 simp[wO6,h]
theorem tblv_one' (cs:List Int) (A:Option Addr) (k c:Nat):(yG cs (.slice A k c)).all (·.oneCell')=true:=by
 unfold yG ints
 simp[Value.oneCell']
theorem zOL (cs:List Int) (s u:Value) (h:cs.length=16):(yG cs s).setIfInBounds 16 u=yG cs u:=by
 unfold yG
 rw[wM3,wF6 _ _ (by rw[zY,h];omega),zY,h]
 rfl
end Go.Proofs.YtkggcjdlpendfaaGreatDoor
