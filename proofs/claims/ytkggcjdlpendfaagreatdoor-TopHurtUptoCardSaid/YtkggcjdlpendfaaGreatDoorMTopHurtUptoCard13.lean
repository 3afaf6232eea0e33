import Derived.Test.YtkggcjdlpendfaaGreatDoorMTopHurtUptoCard12
set_option linter.all false
set_option maxRecDepth 20000
set_option maxHeartbeats 8000000
namespace Go.Proofs.YtkggcjdlpendfaaGreatDoor
open Go.RowKit Tryz
section
def elt_span:Elt prog 136 139 2 16:=⟨underlying136,by kernel_rfl,by omega⟩
def vE:(prog.info? 139).map (·.size)=some 2:=by kernel_rfl
def zCM:(prog.info? 139).bind (·.zero)=some (.agg (bv [0,0])):=by kernel_rfl
def zJa:((prog.info? 139).bind (·.zero)).isSome=true:=by rw[zCM];rfl
def zJu (x y:Int):prog.built 139 [(0,.int .i64 x),(1,.int .i64 y)]=some (bv [x,y]):=by
 show _=_
 kernel_rfl
def zOF {w:World} {g sz:Nat} {t:TypeId} {zs:List Int} (h:Blk w g t (bv zs)) (hz:zs.length=sz):SL w sz (.slice (some ⟨g,0,none⟩) 1 1) 1 (ints zs):=by have:=h.sl (size:=sz) (n:=1) (c:=1) (by rw[zK,hz];omega) (by omega) (by omega);simpa [bv] using this
attribute [local irreducible] bv jG yM zL
def zPC (n e:Nat) (hn:n≤1000000) (he:e≤1000000) (w:World) :
 Calls prog 99 #[.int .i64 (n:Int),.int .i64 (e:Int)] w λen w'=>∃B d,en=.returned (.slice B (zL n e) d)∧SL w' 2 (.slice B (zL n e) d) (zL n e) (ints (jG n e (zL n e)))∧(∀ad,B=some ad→w.heap.size≤ad.block)∧Ext w w':=by
 by_cases h:e=0∨n=0
 ·obtain⟨hE,hK⟩:=zDm h
  have hL:jG n e 1=[0,(n:Int)]:=by
   simp only[jG,wG4,hE];simp
  rw[hK,hL];have hs:Hid ((bv [0,(n:Int)]).size=2):=zA (by rw[zK];rfl);clear hE hK hL
  by_cases h0:e=0
  ·have H8:Hid (decide ((e:Int)=0)=true):=zA (by rw[wB3];omega);clear h h0;go_enter func99,ntmps99
   go_wp2_with (first
    | ((with_reducible apply gS 8);refine zB rfl (.bool true) (uZ rfl rfl rfl H8.out) ?_)
    | ((with_reducible apply gS 14);refine zB rfl (.agg (bv [0,(n:Int)])) (zAN rfl rfl rfl (zJu _ _)) ?_)
    | ((with_reducible apply gS 15);refine wLit1 rfl 136 139 (.tmp 14) rfl (some 15) rfl underlying136 2 vE zJa _ rfl hs.out (by omega) (by omega) ?_;intro w1 g hb1 hx1 hg1))
   go_ret;exact⟨_,_,rfl,zOF hb1 rfl,(λad q=>by injection q with q;subst q;exact hg1),hx1⟩
  have H8:Hid (decide ((e:Int)=0)=false):=zA (by rw[decide_eq_false_iff_not];omega);have H11:Hid (decide ((n:Int)=0)=true):=zA (by rw[wB3];omega);clear h h0;go_enter func99,ntmps99
  go_wp2_with (first
   | ((with_reducible apply gS 8);refine zB rfl (.bool false) (uZ rfl rfl rfl H8.out) ?_)
   | ((with_reducible apply gS 11);refine xV (by rfl) (.bool true) (uZ rfl rfl rfl H11.out) ?_)
   | ((with_reducible apply gS 14);refine zB rfl (.agg (bv [0,(n:Int)])) (zAN rfl rfl rfl (zJu _ _)) ?_)
   | ((with_reducible apply gS 15);refine wLit1 rfl 136 139 (.tmp 14) rfl (some 15) rfl underlying136 2 vE zJa _ rfl hs.out (by omega) (by omega) ?_;intro w1 g hb1 hx1 hg1))
  go_ret;exact⟨_,_,rfl,zOF hb1 rfl,(λad q=>by injection q with q;subst q;exact hg1),hx1⟩
 have HE:=zA (zFn h).1;have HLT:=zA (λi=>zFi (i:=i) h);have HKL:=zA (zEO (n:=n) (e:=e));have HE0:Hid (0<e):=zA (by omega);have H8:Hid (decide ((e:Int)=0)=false):=zA (by rw[decide_eq_false_iff_not];omega);have H11:Hid (decide ((n:Int)=0)=false):=zA (by rw[decide_eq_false_iff_not];omega)
 have how:OwnV w w.heap.size 139 2 (.slice none 0 0) 0 (ints (jG n e 0)):=by
  have h0:jG n e 0=[]:=by unfold jG;rfl
  rw[h0];exact OwnV.nil _ _ _ _
 have hn':=hn;clear h;obtain⟨K,hK⟩:∃K,zL n e=K:=⟨_,rfl⟩
 rw[hK] at HLT HKL ⊢;clear hK;go_enter func99,ntmps99
 go_wp2_with (first
  | ((with_reducible apply gS 8);refine zB rfl (.bool false) (uZ rfl rfl rfl H8.out) ?_)
  | ((with_reducible apply gS 11);refine xV (by rfl) (.bool false) (uZ rfl rfl rfl H11.out) ?_))
 go_loopw [5,6] (λx iv wr=>∃(k p:Nat),Hid (p=k*e∧k≤K)∧p≤n+e∧iv=.int .i64 (p:Int)∧OwnV wr w.heap.size 139 2 x k (ints (jG n e k))∧Ext w wr) (λ_ i _=>n+e-(intOf i).toNat)
 case atStart=>exact⟨0,0,zA (by omega),by omega,rfl,how,Ext.refl _⟩
 case round =>
  clear how;obtain⟨k,p,HP,hpn,rfl,⟨OA,oc,rfl,hown⟩,hx⟩:=hrel
  by_cases hlt:p<n
  ·obtain⟨p2,hp2⟩:∃q,p+e=q:=⟨_,rfl⟩
   obtain⟨mn,hmn⟩:∃q,min p2 n=q:=⟨_,rfl⟩
   have hs:Hid ((bv [(p:Int),(mn:Int)]).size=2):=zA (by rw[zK];rfl);have hk1:k<K:=by have h1:=HP.out;exact (HLT.out k).2 (by rw[←h1.1];exact hlt)
   have hk2:k≤1000001:=by have h1:=HKL.out;omega
   have HNX:Hid (jG n e (k+1)=jG n e k++[(p:Int),(mn:Int)]):=zA (by
    have h1:=HP.out;have h2:k*yM n e=p:=by rw[HE.out,h1.1]
    rw[jG,h2,HE.out,hp2,hmn])
   have HP2:Hid (p2=(k+1)*e∧k+1≤K):=zA (by have h1:=HP.out;rw[wS5, ←h1.1];omega);have HPP:=zA hp2;have hp3:p<p2:=by have:=HE0.out;omega
   have hp4:p2≤n+e:=by omega
   clear hp2
   go_wp2_with (first
    | ((with_reducible apply gS 26);refine zB rfl (.int .i64 (p2:Int)) (by rw[←HPP.out];exact yL (i:=p) (d:=e) rfl rfl rfl (by omega)) ?_)
    | ((with_reducible apply gS 28);refine zB rfl (.int .i64 (mn:Int)) (by rw[←hmn];exact zKb (i:=p2) (d:=n) rfl rfl rfl) ?_)
    | ((with_reducible apply gS 29);refine zB rfl (.agg (bv [(p:Int),(mn:Int)])) (zAN rfl rfl rfl (zJu _ _)) ?_)
    | ((with_reducible apply gS 30);refine wLit1 rfl 136 139 (.tmp 29) rfl (some 30) rfl underlying136 2 vE zJa _ rfl hs.out (by omega) (by omega) ?_;intro w1 g hb1 hx1 hg1;have ho1:=yE hown hx1)
    | ((with_reducible apply gS 31);at_builtin;refine wApf elt_span rfl (.tmp 22) (.tmp 30) rfl w.heap.size (.slice OA k oc) k (ints (jG n e k)) rfl ho1 _ 1 (ints [(p:Int),(mn:Int)]) rfl (zOF hb1 rfl) (qK _) (by omega) (by omega) (by have:=hx.size;have:=hx1.size;omega) ?_;intro A4 c4 w4 ho4 hgr4 hor4;have hx4:=(hx.trans hx1).grown' hgr4 (λb hb=>(ho1.lt b hb).1))
    | ((with_reducible apply gS 21);refine zB rfl (.int .i64 (p2:Int)) (by rw[←HPP.out];exact yL (i:=p) (d:=e) rfl rfl rfl (by omega)) ?_))
   go_roundw
   case rel=>exact⟨k+1,p2,HP2,hp4,rfl,⟨A4,c4,rfl,by rw[HNX.out,vP];exact ho4⟩,hx4⟩
   case measure=>simp[intOf];omega
  have hk:k=K:=by
   have h1:=HP.out;have h2:¬k<K:=λh=>hlt (by rw[h1.1];exact (HLT.out k).1 h)
   omega
  subst hk;go_wp2_with fail;go_ret;exact⟨_,_,rfl,(jC hown).1,(jC hown).2,hx⟩
def zGa (n e:Nat) (hn:n≤1000000) (he:e≤1000000) (w:World) :
 Calls prog 99 #[.int .i64 (n:Int),.int .i64 (e:Int)] w λen w'=>∃B d,en=.returned (.slice B (zL n e) d)∧SL w' 2 (.slice B (zL n e) d) (zL n e) (ints (jG n e (zL n e)))∧Ext w w' :=
 (zPC n e hn he w).mono λ_ _ ⟨B,d,h1,h2,_,h3⟩=>⟨B,d,h1,h2,h3⟩
end
abbrev Pk:=Int×Value
def vS (L:List Pk):List Value:=L.flatMap λp=>[.int .i64 p.1,p.2]
def pkV (p:Pk):Array Value:= #[.int .i64 p.1,p.2]
def zFO (L:List Pk):(vS L).length=2*L.length:=by
 induction L with
 | nil=>rfl
 | cons p L ih=>simp only[vS,wG2,wE2,wA8,wJ0] at ih ⊢;omega
def zNS (a b:List Pk):vS (a++b)=vS a++vS b:=by simp[vS]
def zJk (L:List Pk) (i:Nat) (h:i<L.length) (p:Pk):vS (L.set i p)=vS (L.take i)++([.int .i64 p.1,p.2]++vS (L.drop (i+1))):=by rw[List.set_eq_take_append_cons_drop,if_pos h,zNS];rfl
def zJO (L:List Pk) (i:Nat) (h:i<L.length):vS L=vS (L.take i)++([.int .i64 L[i].1,L[i].2]++vS (L.drop (i+1))):=by
 have:=zJk L i h L[i]
 rwa [List.set_getElem_self] at this
def DS (w:World) (gd:Nat) (L:List Pk) (rest:List Value):Prop:=Blk w gd 188 (vS L++rest).toArray
def zFq:(prog.info? 188).map (·.size)=some 2:=by kernel_rfl
section
variable {ops:Array Oper} {rest:List Oper} {o:Oper} {ac:Act} {w:World} {Q:Exit→Act→World→Prop}
def qE {x:Operand} (ho:o.op=.load 188 x) {gd:Nat} {L:List Pk} {tl:List Value} (hB:DS w gd L tl) {i:Nat} (hi:i<L.length) (hx:ac.eval x=.pointer (some ⟨gd,i*2,none⟩)) :
 (execOp ac.eval o).run prog w=.ok (.value (.agg (pkV L[i]))) w:=by
 have hr:w.rangeAt gd (i*2) [.int .i64 L[i].1,L[i].2]:=by
  unfold DS at hB;rw[zJO L i hi,wI7,wI7] at hB;have hl:(vS (L.take i)).length=i*2:=by rw[zFO,wF1];omega
  intro j v hv;rw[hB.cell,wH3,wH9 (by omega),hl,show i*2+j-i*2=j by omega,wH4 (wB7.1 hv).1];exact hv
 unfold execOp;simp only[ho,hx,Instr.loadAt,Instr.sureAddr,Sem.run_bind,Sem.run_pure,Result.andThen_ok,run_loadVar_mid w gd (i*2) 188 _ _ hr underlying188 rfl zFq];rfl
def zBW (hgd:o.guard=none) (x y:Operand) (ho:o.op=.store 188 x y) (gd:Nat) (L:List Pk) (tl:List Value) (hB:DS w gd L tl) (i:Nat) (hi:i<L.length) (p:Pk) (h1:p.2.oneCell'=true) (hx:ac.eval x=.pointer (some ⟨gd,i*2,none⟩)) (hy:ac.eval y=.agg (pkV p))
 (h:∀w1,DS w1 gd (L.set i p) tl→Upd (λb=>b=gd) w w1→wpList prog ops Q rest (ac.put o.dst undef) w1):wpList prog ops Q (o::rest) ac w:=by
 unfold DS at hB h;rw[zJO L i hi,wI7,wI7] at hB;refine uE hgd _ x y ho gd (i*2) [.int .i64 p.1,p.2] hx hy hB (by rw[zFO,wF1];omega) rfl zFq (λv hv=> ?_) (λw1 k1 k2=>h w1 ?_ k2)
 ·simp at hv;rcases hv with rfl | rfl
  ·rfl
  exact h1
 rw[zJk L i hi p,wI7,wI7];exact k1
end
def zAZ (a b:Int):Int:=if a<b then -1 else if b<a then 1 else 0
def zPv (a:Int) (w:World):Calls prog 208 #[.int .i64 a] w λe w'=>e=.returned (.bool false)∧w=w':=by
 go_enter func208,ntmps208;go_wp2_with ((with_reducible apply gS 5);refine zB rfl (.bool false) (jW rfl rfl rfl (by simp)) ?_)
 go_ret;exact⟨rfl,rfl⟩
def zSp (a b:Int) (w:World):Calls prog 182 #[.int .i64 a,.int .i64 b] w λe w'=>e=.returned (.int .i64 (zAZ a b))∧w=w':=by
 have h1:=zA (zPv a w);have h2:=zA (zPv b w)
 by_cases hab:a<b
 ·have e:zAZ a b= -1:=by unfold zAZ;rw[if_pos hab]
  rw[e];go_enter func182,ntmps182
  go_wp2_with (first
   | (go_at_call 208;(with_reducible refine h1.out.mono ?_);rintro e w1 ⟨rfl,rfl⟩)
   | (go_at_call 208;(with_reducible refine h2.out.mono ?_);rintro e w1 ⟨rfl,rfl⟩)
   | ((with_reducible apply gS 16);refine zB rfl (.bool true) (yB rfl rfl rfl (by simpa using hab)) ?_))
  go_ret;exact⟨rfl,rfl⟩
 by_cases hba:b<a
 ·have e:zAZ a b=1:=by unfold zAZ;rw[if_neg hab,if_pos hba]
  rw[e];go_enter func182,ntmps182
  go_wp2_with (first
   | (go_at_call 208;(with_reducible refine h1.out.mono ?_);rintro e w1 ⟨rfl,rfl⟩)
   | (go_at_call 208;(with_reducible refine h2.out.mono ?_);rintro e w1 ⟨rfl,rfl⟩)
   | ((with_reducible apply gS 16);refine zB rfl (.bool false) (yB rfl rfl rfl (by simpa using hab)) ?_)
   | ((with_reducible apply gS 19);refine zB rfl (.bool true) (xY rfl rfl rfl (by simpa using hba)) ?_))
  go_ret;exact⟨rfl,rfl⟩
 have e:zAZ a b=0:=by unfold zAZ;rw[if_neg hab,if_neg hba]
 rw[e];go_enter func182,ntmps182
 go_wp2_with (first
  | (go_at_call 208;(with_reducible refine h1.out.mono ?_);rintro e w1 ⟨rfl,rfl⟩)
  | (go_at_call 208;(with_reducible refine h2.out.mono ?_);rintro e w1 ⟨rfl,rfl⟩)
  | ((with_reducible apply gS 16);refine zB rfl (.bool false) (yB rfl rfl rfl (by simpa using hab)) ?_)
  | ((with_reducible apply gS 19);refine zB rfl (.bool false) (xY rfl rfl rfl (by simpa using hba)) ?_))
 go_ret;exact⟨rfl,rfl⟩
def zAe (p q:Pk) (w:World):Calls prog 148 #[.agg (pkV p),.agg (pkV q)] w λe w'=>e=.returned (.int .i64 (zAZ p.1 q.1))∧Ext w w':=by
 have HC:=zA (λW=>zSp p.1 q.1 W);have c1:=zA (λ(W:World) g (h:Blk W g 188 (pkV p))=>h.cell 0);have c2:=zA (λ(W:World) g (h:Blk W g 188 (pkV q))=>h.cell 0);obtain⟨a,s⟩:=p;obtain⟨b,t⟩:=q;generalize hp:pkV (a,s)=pv at *;generalize hq:pkV (b,t)=qv at *;have e1:pv[0]? =some (.int .i64 a):=by rw[←hp];rfl
 have e2:qv[0]? =some (.int .i64 b):=by rw[←hq];rfl
 rw[e1] at c1;rw[e2] at c2;dsimp only at HC;clear hp hq e1 e2;go_enter func148,ntmps148
 go_wp2_with (first
  | ((with_reducible apply gS 2);refine wBox rfl 188 (.tmp 0) rfl pv rfl ?_;intro w1 g1 hb1 hx1 hg1)
  | ((with_reducible apply gS 3);refine wBox rfl 188 (.tmp 1) rfl qv rfl ?_;intro w2 g2 hb2 hx2 hg2;have k1:=c1.out _ _ (hb1.ext hx2);have k2:=c2.out _ _ hb2)
  | ((with_reducible apply gS 6);refine yU rfl (.int .i64 a) (zS rfl rfl k1) ?_)
  | ((with_reducible apply gS 8);refine yU rfl (.int .i64 b) (zS rfl rfl k2) ?_)
  | (go_at_call 182;(with_reducible refine (HC.out _).mono ?_);rintro e w3 ⟨rfl,rfl⟩))
 go_ret;exact⟨rfl,hx1.trans hx2⟩
def zEz:zAn prog 148:=⟨_,func148,rfl,rfl⟩
end Go.Proofs.YtkggcjdlpendfaaGreatDoor
namespace Go.Proofs.YtkggcjdlpendfaaGreatDoor.SM
open Tryz
section
variable {α:Type} (d:α) (wt:α→Int)
def at_ (M:List α) (x:Nat):α:=M.getD x d
def wA (M:List α) (x:Nat):Int:=wt (at_ d M x)
def swp (M:List α) (i j:Nat):List α:=(M.set i (at_ d M j)).set j (at_ d M i)
def zKA (M:List α) (x:Nat) (h:x<M.length):at_ d M x=M[x]:=by simp[at_,h]
def zHP (M:List α) (i j x:Nat) (hi:i<M.length) (hj:j<M.length):at_ d (swp d M i j) x=if x=j then at_ d M i else if x=i then at_ d M j else at_ d M x:=by
 unfold swp;simp only[at_,List.getD_eq_getElem?_getD,List.getElem?_set]
 by_cases hxj:x=j
 ·subst hxj;simp[hj]
 have hjx:¬j=x:=λh=>hxj h.symm
 by_cases hxi:x=i
 ·subst hxi;simp[hxj,hjx,hi]
 have hix:¬i=x:=λh=>hxi h.symm
 simp[hxj,hxi,hjx,hix]
def zHr (M:List α) (i j:Nat) (hi:i<M.length) (hj:j<M.length):(swp d M i j).Perm M:=by
 have h:=Array.swap_perm (xs:=M.toArray) (i:=i) (j:=j) (by simpa using hi) (by simpa using hj)
 have e:(M.toArray.swap i j (by simpa using hi) (by simpa using hj)).toList=swp d M i j:=by
  simp[swp,zKA d M i hi,zKA d M j hj]
 have:=Array.perm_iff_toList_perm.1 h
 rwa [e] at this
structure Seg (L M:List α) (a b:Nat):Prop where
 perm:M.Perm L
 out:∀x,x<a∨b≤x→at_ d M x=at_ d L x
 val:∀x,a≤x→x<b→∃y,a≤y∧y<b∧at_ d M x=at_ d L y
def Seg.refl (L:List α) (a b:Nat):Seg d L L a b:=⟨.refl _,λ_ _=>rfl,λx h1 h2=>⟨x,h1,h2,rfl⟩⟩
def Seg.trans {L M N:List α} {a b:Nat} (h:Seg d L M a b) (k:Seg d M N a b):Seg d L N a b:=⟨k.perm.trans h.perm,λx hx=>(k.out x hx).trans (h.out x hx),λx h1 h2=>by
 obtain⟨y,p1,p2,e⟩:=k.val x h1 h2;obtain⟨z,q1,q2,f⟩:=h.val y p1 p2
 exact⟨z,q1,q2,e.trans f⟩⟩
def Seg.wide {L M:List α} {a b a' b':Nat} (h:Seg d L M a b) (h1:a'≤a) (h2:b≤b'):Seg d L M a' b':=⟨h.perm,λx hx=>h.out x (by omega),λx p q=>by
 by_cases hx:a≤x∧x<b
 ·obtain⟨y,p1,p2,e⟩:=h.val x hx.1 hx.2;exact⟨y,by omega,by omega,e⟩
 ·exact⟨x,p,q,h.out x (by omega)⟩⟩
def Seg.len {L M:List α} {a b:Nat} (h:Seg d L M a b):M.length=L.length:=h.perm.length_eq
def Seg.swp {L:List α} {a b i j:Nat} (hi:i<L.length) (hj:j<L.length) (h1:a≤i) (h2:i<b) (h3:a≤j) (h4:j<b):Seg d L (swp d L i j) a b :=
 ⟨zHr d L i j hi hj,λx hx=>by rw[zHP d L i j x hi hj,if_neg (by omega),if_neg (by omega)],λx p q=>by
  rw[zHP d L i j x hi hj];split
  ·exact⟨i,h1,h2,rfl⟩
  ·split
   ·exact⟨j,h3,h4,rfl⟩
   ·exact⟨x,p,q,rfl⟩⟩
def Sorted (M:List α) (a b:Nat):Prop:=∀x y,a≤x→x<y→y<b→wA d wt M x≤wA d wt M y
def Sorted.of_out {L M:List α} {a b a' b':Nat} (h:Sorted d wt L a b) (hs:Seg d L M a' b') (hd:b≤a'∨b'≤a):Sorted d wt M a b:=λx y h1 h2 h3=>by
 unfold wA;rw[hs.out x (by omega),hs.out y (by omega)];exact h x y h1 h2 h3
def Sorted.sub {M:List α} {a b a' b':Nat} (h:Sorted d wt M a b) (h1:a≤a') (h2:b'≤b):Sorted d wt M a' b':=λx y p q r=>h x y (by omega) q (by omega)
structure Ins (M:List α) (a j i:Nat):Prop where
 rest:∀x y,a≤x→x<y→y≤i→x≠j→y≠j→wA d wt M x≤wA d wt M y
 up:∀y,j<y→y≤i→wA d wt M j≤wA d wt M y
def Ins.start {M:List α} {a i:Nat} (h:Sorted d wt M a i):Ins d wt M a i i:=⟨λx y h1 h2 h3 h4 h5=>h x y h1 h2 (by omega),λy h1 h2=>by omega⟩
def Ins.step {M:List α} {a j i:Nat} (h:Ins d wt M a j i) (hj:a<j) (hji:j≤i) (hi:i<M.length) (hl:wA d wt M j<wA d wt M (j-1)):Ins d wt (swp d M j (j-1)) a (j-1) i:=by
 have hw:∀x,wA d wt (swp d M j (j-1)) x=if x=j-1 then wA d wt M j else if x=j then wA d wt M (j-1) else wA d wt M x:=λx=>by
  unfold wA;rw[zHP d M j (j-1) x (by omega) (by omega)];split
  ·rfl
  split<;>rfl
 refine⟨λx y h1 h2 h3 h4 h5=> ?_,λy h1 h2=> ?_⟩
 ·rw[hw,hw,if_neg h4,if_neg h5]
  by_cases hxj:x=j
  ·rw[if_pos hxj,if_neg (by omega)];exact h.rest (j-1) y (by omega) (by omega) h3 (by omega) (by omega)
  rw[if_neg hxj]
  by_cases hyj:y=j
  ·rw[if_pos hyj];exact h.rest x (j-1) h1 (by omega) (by omega) hxj (by omega)
  rw[if_neg hyj];exact h.rest x y h1 h2 h3 hxj hyj
 rw[hw,hw,if_pos rfl,if_neg (by omega)]
 by_cases hyj:y=j
 ·rw[if_pos hyj];omega
 rw[if_neg hyj];exact h.up y (by omega) h2
def Ins.stop {M:List α} {a j i:Nat} (h:Ins d wt M a j i) (hd:j=a∨wA d wt M (j-1)≤wA d wt M j) (haj:a≤j):Sorted d wt M a (i+1):=λx y h1 h2 h3=>by
 by_cases hxj:x=j
 ·subst hxj;exact h.up y h2 (by omega)
 by_cases hyj:y=j
 ·subst hyj;rcases hd with hd | hd
  ·omega
  by_cases hx:x=y-1
  ·subst hx;exact hd
  exact Int.le_trans (h.rest x (y-1) h1 (by omega) (by omega) hxj (by omega)) hd
 exact h.rest x y h1 h2 (by omega) hxj hyj
def Sorted.join {M:List α} {a m b:Nat} (h1:Sorted d wt M a m) (h2:Sorted d wt M m b) (h:∀x y,a≤x→x<m→m≤y→y<b→wA d wt M x≤wA d wt M y):Sorted d wt M a b:=λx y p q r=>by
 by_cases hx:x<m
 ·by_cases hy:y<m
  ·exact h1 x y p q hy
  exact h x y p hx (by omega) r
 exact h2 x y (by omega) q r
end
end Go.Proofs.YtkggcjdlpendfaaGreatDoor.SM
namespace Go.Proofs.YtkggcjdlpendfaaGreatDoor
open Go.RowKit Tryz
section
open SM
def pk0:Pk:=(0,.slice none 0 0)
abbrev pw:Pk→Int:=Prod.fst
def OnesP (L:List Pk):Prop:=∀p∈L,p.2.oneCell'=true
def OnesP.perm {L M:List Pk} (h:OnesP L) (hp:M.Perm L):OnesP M:=λp hq=>h p (hp.subset hq)
def DS.ext {w w':World} {gd:Nat} {L:List Pk} {tl:List Value} (h:DS w gd L tl) (hx:Ext w w'):DS w' gd L tl:=Blk.ext h hx
def xQ {o:Oper} {a:Act} {x ix:Operand} (ho:o.op=.indexAddr 189 x ix) {g n c i:Nat} (hx:a.eval x=.slice (some ⟨g,0,none⟩) n c) (hi:a.eval ix=.int .i64 (i:Int)) (h:i<n) (w:World) :
 (execOp a.eval o).run prog w=.ok (.value (.pointer (some ⟨g,i*2,none⟩))) w:=by
 have:=zFs underlying189 zFq ho hx hi h w
 rwa [wB2] at this
def zCv {P:Program} {md:Region.Mode} {ops:Array Oper} {R:World→World→Prop} {Q:Exit→Act→World→Prop} {rest:List Oper} {o:Oper} {k:Nat} {listed:Array Bool} {a:Act} {wc:World} (hw:Region.wanted o (yielded ops a.tmps)=true) (x:Operand) (xs:Array Operand) (ts:Array TypeId)
 (ho:o.op=.call { callee:=.value x,args:=xs,argTypes:=ts }) {f:FuncId} {cap:Array Value} (hr:a.eval x=.func (.func f) #[] cap) (hm:zAn P f) (args:Array Value) (hx:xs.map a.eval++cap=args) (v:Value)
 (hc:∀w,R wc w→Calls P f args w λe w'=>e=.returned v∧R w w') (h:zAS P md ops R Q rest (k+1) (listed.setIfInBounds k true) (a.put o.dst v) wc):zAS P md ops R Q (o::rest) k listed a wc:=by refine lx_at hw v (λw hR=> ?_) h;unfold Oper.quietAt;rw[xL x xs ts ho hr hm args hx w];exact⟨rfl,hc w hR⟩
def zMz (M:List Pk) (i j:Nat) (hi:i<M.length) (hj:j<M.length):(M.set i M[j]).set j M[i]=swp pk0 M i j:=by unfold swp;rw[zKA pk0 M i hi,zKA pk0 M j hj]
def zAQ (M:List Pk) (i:Nat) (h:i<M.length):wA pk0 pw M i=M[i].1:=by unfold wA;rw[zKA pk0 M i h]
def zCz (a b:Int):decide (zAZ a b<0)=decide (a<b):=by
 rw[wC8,wB3,wB3];unfold zAZ;split
 ·omega
 split<;>omega
def zFC (gd:Nat) (L:List Pk) (tl:List Value) (a b:Nat) (w:World) (e:Ending) (w':World):Prop:=e=.returned (.tuple #[])∧∃M,DS w' gd M tl∧Seg pk0 L M a b∧Sorted pk0 pw M a b∧Upd (λx=>x=gd) w w'
def zTH (gd:Nat) (L:List Pk) (tl:List Value) (n c a b:Nat) (w:World) (hn:L.length=n) (hn2:n≤1000000) (hab:a≤b) (hbn:b≤n) (hone:OnesP L) (hD:DS w gd L tl) :
 Calls prog 206 #[.slice (some ⟨gd,0,none⟩) n c,.int .i64 (a:Int),.int .i64 (b:Int),.func (.func 148) #[] #[]] w (zFC gd L tl a b w):=by
 have HN:=zA hn;have HONE:=zA hone;clear hn hone;have hs0:Sorted pk0 pw L a (a+1):=λx y h1 h2 h3=>by omega
 go_enter func206,ntmps206;go_upto_region 1 with ((with_reducible apply gS 11);refine zB rfl (.int .i64 ((a+1:Nat):Int)) (yL (i:=a) (d:=1) rfl rfl rfl (by omega)) ?_)
 go_loopw [8] (λiv wr=>∃(i:Nat) (M:List Pk),a+1≤i∧(i≤b∨i=a+1)∧iv=.int .i64 (i:Int)∧DS wr gd M tl∧Seg pk0 L M a b∧Sorted pk0 pw M a i∧Upd (λx=>x=gd) w wr) (λi _=>b+1-(intOf i).toNat)
 case atStart=>exact⟨a+1,L,by omega,.inr rfl,rfl,hD,Seg.refl pk0 L a b,hs0,Upd.refl _ w⟩
 case round =>
  clear hD hs0;obtain⟨i,M,hai,hib,rfl,hD,hseg,hsor,hu⟩:=hrel
  by_cases hlt:i<b
  ·have hins:=Ins.start pk0 pw hsor;go_upto_region 4 with ((with_reducible apply gS 14);refine zB rfl (.bool true) (yB rfl rfl rfl (by simpa using hlt)) ?_)
   go_loopw [9] (λjv wr=>∃(j:Nat) (M:List Pk),a≤j∧j≤i∧jv=.int .i64 (j:Int)∧DS wr gd M tl∧Seg pk0 L M a b∧Ins pk0 pw M a j i∧Upd (λx=>x=gd) w wr) (λj _=>(intOf j).toNat)
   case atStart=>exact⟨i,M,by omega,by omega,rfl,hD,hseg,hins,hu⟩
   case round =>
    clear hD hseg hsor hins hu;obtain⟨j,M,haj,hji,rfl,hD,hseg,hins,hu⟩:=hrel;have hml:M.length=n:=hseg.len.trans HN.out;have hone:=HONE.out.perm hseg.perm;have hDd:DS wr.drew gd M tl:=Blk.drew hD
    by_cases hja:a<j
    ·by_cases hls:wA pk0 pw M j<wA pk0 pw M (j-1)
     ·have hB:decide (zAZ (M[j]'(by omega)).1 (M[j-1]'(by omega)).1<0)=true:=by
       rw[zCz, ←zAQ M j (by omega), ←zAQ M (j-1) (by omega)];simpa using hls
      go_wp2_with fail;refine xU qM (by kernel_rfl) (by kernel_rfl) ?_;refine zE (by rfl) (.int .i64 (j:Int)) (zD rfl rfl) ?_;simp only[sP,sB,sC];refine zE (by rfl) (.int .i64 (a:Int)) (zD rfl rfl) ?_;simp only[sP,sB,sC];refine zE (by rfl) (.bool true) (xY rfl rfl rfl (by simp;omega)) ?_;simp only[sP,sB,sC];refine zE (by rfl) (.bool true) (zD rfl rfl) ?_;simp only[sP,sB,sC];refine zE (by rfl) (.func (.func 148) #[] #[]) (zD rfl rfl) ?_;simp only[sP,sB,sC];refine zE (by rfl) (.slice (some ⟨gd,0,none⟩) n c) (zD rfl rfl) ?_;simp only[sP,sB,sC];refine zE (by rfl) (.int .i64 (j:Int)) (zD rfl rfl) ?_;simp only[sP,sB,sC];refine zE (by rfl) (.pointer (some ⟨gd,j*2,none⟩)) (xQ rfl rfl rfl (by omega)) ?_;simp only[sP,sB,sC];refine xA (by rfl) (.agg (pkV M[j])) (λW hW=>qE rfl (hDd.ext hW) (by omega) rfl) ?_;simp only[sP,sB,sC];refine zE (by rfl) (.slice (some ⟨gd,0,none⟩) n c) (zD rfl rfl) ?_;simp only[sP,sB,sC];refine zE (by rfl) (.int .i64 (j:Int)) (zD rfl rfl) ?_;simp only[sP,sB,sC];refine zE (by rfl) (.int .i64 ((j-1:Nat):Int)) (xP (i:=j) (d:=1) rfl rfl rfl (by omega) (by omega)) ?_;simp only[sP,sB,sC];refine zE (by rfl) (.pointer (some ⟨gd,(j-1)*2,none⟩)) (xQ rfl rfl rfl (by omega)) ?_;simp only[sP,sB,sC];refine xA (by rfl) (.agg (pkV M[j-1])) (λW hW=>qE rfl (hDd.ext hW) (by omega) rfl) ?_;simp only[sP,sB,sC];refine zCv (by rfl) _ _ _ rfl rfl zEz #[.agg (pkV M[j]),.agg (pkV M[j-1])] (by simp[Act.eval]) (.int .i64 (zAZ M[j].1 M[j-1].1)) (λW h=>zAe _ _ W) ?_;simp only[Act.put,sA,sB,sC];refine zE (by rfl) (.bool true) (yB rfl rfl rfl hB) ?_;simp only[sP,sB,sC];refine zE (by rfl) (.bool true) (zCg rfl rfl rfl) ?_;simp only[sP,sB,sC];refine jU ?_;intro w4 hx4;have hDD:DS w4.drew gd M tl:=Blk.drew (hDd.ext hx4);have hu4:Upd (λx=>x=gd) w w4.drew:=(hu.drew.trans (Upd.of_ext (S:=λ_=>False) hx4) (λ_ h=>h.elim)).drew;go_wp2_with fail;refine vI (λk=>k ==9 ||k ==13) (λW=>DS W gd M tl) (by kernel_rfl) ?_;refine zI (k:=0) (by kernel_rfl) rfl (by rfl) (.slice (some ⟨gd,0,none⟩) n c) (zD rfl rfl) ?_;simp only[sP,sB,sC];refine zI (k:=1) (by kernel_rfl) rfl (by rfl) (.int .i64 (j:Int)) (zD rfl rfl) ?_;simp only[sP,sB,sC];refine zI (k:=2) (by kernel_rfl) rfl (by rfl) (.slice (some ⟨gd,0,none⟩) n c) (zD rfl rfl) ?_;simp only[sP,sB,sC];refine zI (k:=3) (by kernel_rfl) rfl (by rfl) (.int .i64 (j:Int)) (zD rfl rfl) ?_;simp only[sP,sB,sC];refine zI (k:=4) (by kernel_rfl) rfl (by rfl) (.int .i64 ((j-1:Nat):Int)) (xP (i:=j) (d:=1) rfl rfl rfl (by omega) (by omega)) ?_;simp only[sP,sB,sC];refine zI (k:=5) (by kernel_rfl) rfl (by rfl) (.slice (some ⟨gd,0,none⟩) n c) (zD rfl rfl) ?_;simp only[sP,sB,sC];refine zI (k:=6) (by kernel_rfl) rfl (by rfl) (.int .i64 (j:Int)) (zD rfl rfl) ?_;simp only[sP,sB,sC];refine zI (k:=7) (by kernel_rfl) rfl (by rfl) (.int .i64 ((j-1:Nat):Int)) (xP (i:=j) (d:=1) rfl rfl rfl (by omega) (by omega)) ?_;simp only[sP,sB,sC];refine zI (k:=8) (by kernel_rfl) rfl (by rfl) (.pointer (some ⟨gd,(j-1)*2,none⟩)) (xQ rfl rfl rfl (by omega)) ?_;simp only[sP,sB,sC];refine zI (k:=10) (by kernel_rfl) rfl (by rfl) (.slice (some ⟨gd,0,none⟩) n c) (zD rfl rfl) ?_;simp only[sP,sB,sC];refine zI (k:=11) (by kernel_rfl) rfl (by rfl) (.int .i64 (j:Int)) (zD rfl rfl) ?_;simp only[sP,sB,sC];refine zI (k:=12) (by kernel_rfl) rfl (by rfl) (.pointer (some ⟨gd,j*2,none⟩)) (xQ rfl rfl rfl (by omega)) ?_;simp only[sP,sB,sC];refine vR (k:=9) (by kernel_rfl) rfl (by rfl) (.agg (pkV M[j-1])) (λW hW=>qE rfl hW (by omega) rfl) hDD ?_;simp only[Act.put,sA,sB,sC];refine vR (k:=13) (by kernel_rfl) rfl (by rfl) (.agg (pkV M[j])) (λW hW=>qE rfl hW (by omega) rfl) hDD ?_;simp only[Act.put,sA,sB,sC];refine zI (k:=14) (by kernel_rfl) rfl (by rfl) (.pointer (some ⟨gd,j*2,none⟩)) (xQ rfl rfl rfl (by omega)) ?_;simp only[sP,sB,sC];refine xZ (k:=15) (by kernel_rfl) rfl ?_;refine zBW rfl _ _ rfl gd M tl hDD j (by omega) M[j-1] (hone _ (wC7 _)) rfl rfl ?_;intro w5 hD5 hu5;refine zZ ⟨λh=>(by cases h), ?_⟩;simp only[Act.put,sA,sB,sC];refine zI (k:=16) (by kernel_rfl) rfl (by rfl) (.pointer (some ⟨gd,(j-1)*2,none⟩)) (xQ rfl rfl rfl (by omega)) ?_;simp only[sP,sB,sC];refine xZ (k:=17) (by kernel_rfl) rfl ?_;refine zBW rfl _ _ rfl gd (M.set j M[j-1]) tl hD5 (j-1) (by rw[wR6];omega) M[j] (hone _ (wC7 _)) rfl rfl ?_;intro w6 hD6 hu6;refine zZ ⟨λh=>(by cases h), ?_⟩;simp only[Act.put,sA,sB,sC];refine zAK (by kernel_rfl) ?_;have hD7:DS w6 gd (swp pk0 M j (j-1)) tl:=by rw[←zMz M j (j-1) (by omega) (by omega)];exact hD6
      have hu7:=(hu4.trans hu5 (λx h=>.inl h)).trans hu6 (λx h=>.inl h);go_wp2_with ((with_reducible apply gS 36);refine zB rfl (.int .i64 ((j-1:Nat):Int)) (xP (i:=j) (d:=1) rfl rfl rfl (by omega) (by omega)) ?_)
      go_roundw
      case rel=>exact⟨j-1,swp pk0 M j (j-1),by omega,by omega,by go_num,hD7,hseg.trans pk0 (Seg.swp pk0 (by omega) (by omega) (by omega) (by omega) (by omega) (by omega)),hins.step pk0 pw hja hji (by omega) hls,hu7⟩
      case measure=>simp[intOf];omega
     have hB:decide (zAZ (M[j]'(by omega)).1 (M[j-1]'(by omega)).1<0)=false:=by
      rw[zCz, ←zAQ M j (by omega), ←zAQ M (j-1) (by omega)];simpa using hls
     have hfin:=hins.stop pk0 pw (.inr (by omega)) haj;go_wp2_with fail;refine xU qM (by kernel_rfl) (by kernel_rfl) ?_;refine zE (by rfl) (.int .i64 (j:Int)) (zD rfl rfl) ?_;simp only[sP,sB,sC];refine zE (by rfl) (.int .i64 (a:Int)) (zD rfl rfl) ?_;simp only[sP,sB,sC];refine zE (by rfl) (.bool true) (xY rfl rfl rfl (by simp;omega)) ?_;simp only[sP,sB,sC];refine zE (by rfl) (.bool true) (zD rfl rfl) ?_;simp only[sP,sB,sC];refine zE (by rfl) (.func (.func 148) #[] #[]) (zD rfl rfl) ?_;simp only[sP,sB,sC];refine zE (by rfl) (.slice (some ⟨gd,0,none⟩) n c) (zD rfl rfl) ?_;simp only[sP,sB,sC];refine zE (by rfl) (.int .i64 (j:Int)) (zD rfl rfl) ?_;simp only[sP,sB,sC];refine zE (by rfl) (.pointer (some ⟨gd,j*2,none⟩)) (xQ rfl rfl rfl (by omega)) ?_;simp only[sP,sB,sC];refine xA (by rfl) (.agg (pkV M[j])) (λW hW=>qE rfl (hDd.ext hW) (by omega) rfl) ?_;simp only[sP,sB,sC];refine zE (by rfl) (.slice (some ⟨gd,0,none⟩) n c) (zD rfl rfl) ?_;simp only[sP,sB,sC];refine zE (by rfl) (.int .i64 (j:Int)) (zD rfl rfl) ?_;simp only[sP,sB,sC];refine zE (by rfl) (.int .i64 ((j-1:Nat):Int)) (xP (i:=j) (d:=1) rfl rfl rfl (by omega) (by omega)) ?_;simp only[sP,sB,sC];refine zE (by rfl) (.pointer (some ⟨gd,(j-1)*2,none⟩)) (xQ rfl rfl rfl (by omega)) ?_;simp only[sP,sB,sC];refine xA (by rfl) (.agg (pkV M[j-1])) (λW hW=>qE rfl (hDd.ext hW) (by omega) rfl) ?_;simp only[sP,sB,sC];refine zCv (by rfl) _ _ _ rfl rfl zEz #[.agg (pkV M[j]),.agg (pkV M[j-1])] (by simp[Act.eval]) (.int .i64 (zAZ M[j].1 M[j-1].1)) (λW h=>zAe _ _ W) ?_;simp only[Act.put,sA,sB,sC];refine zE (by rfl) (.bool false) (yB rfl rfl rfl hB) ?_;simp only[sP,sB,sC];refine zE (by rfl) (.bool false) (zCg rfl rfl rfl) ?_;simp only[sP,sB,sC];refine jU ?_;intro w4 hx4;have hD4:=hDd.ext hx4;have hu4:Upd (λx=>x=gd) w w4:=hu.drew.trans (Upd.of_ext (S:=λ_=>False) hx4) (λ_ h=>h.elim);go_wp2_with ((with_reducible apply gS 16);refine zB rfl (.int .i64 ((i+1:Nat):Int)) (yL (i:=i) (d:=1) rfl rfl rfl (by omega)) ?_)
     go_roundw
     case rel=>exact⟨i+1,M,by omega,.inl (by omega),by go_num,hD4,hseg,hfin,hu4⟩
     case measure=>simp[intOf];omega
    obtain rfl:a=j:=by omega
    have hfin:=hins.stop pk0 pw (.inl rfl) haj;go_wp2_with fail;refine xU qM (by kernel_rfl) (by kernel_rfl) ?_;refine zE (by rfl) (.int .i64 (a:Int)) (zD rfl rfl) ?_;simp only[sP,sB,sC];refine zE (by rfl) (.int .i64 (a:Int)) (zD rfl rfl) ?_;simp only[sP,sB,sC];refine zE (by rfl) (.bool false) (xY rfl rfl rfl (by simp)) ?_;simp only[sP,sB,sC];refine zE (by rfl) (.bool false) (zD rfl rfl) ?_;simp only[sP,sB,sC];refine uK (by rfl) ?_;simp only[sP,sB,sC];refine uK (by rfl) ?_;simp only[sP,sB,sC];refine uK (by rfl) ?_;simp only[sP,sB,sC];refine uK (by rfl) ?_;simp only[sP,sB,sC];refine uK (by rfl) ?_;simp only[sP,sB,sC];refine uK (by rfl) ?_;simp only[sP,sB,sC];refine uK (by rfl) ?_;simp only[sP,sB,sC];refine uK (by rfl) ?_;simp only[sP,sB,sC];refine uK (by rfl) ?_;simp only[sP,sB,sC];refine uK (by rfl) ?_;simp only[sP,sB,sC];refine uK (by rfl) ?_;simp only[sP,sB,sC];refine uK (by rfl) ?_;simp only[sP,sB,sC];refine zE (by rfl) (.bool false) (zCg rfl rfl rfl) ?_;simp only[sP,sB,sC];refine jU ?_;intro w4 hx4;have hD4:=hDd.ext hx4;have hu4:Upd (λx=>x=gd) w w4:=hu.drew.trans (Upd.of_ext (S:=λ_=>False) hx4) (λ_ h=>h.elim);go_wp2_with ((with_reducible apply gS 16);refine zB rfl (.int .i64 ((i+1:Nat):Int)) (yL (i:=i) (d:=1) rfl rfl rfl (by omega)) ?_)
    go_roundw
    case rel=>exact⟨i+1,M,by omega,.inl (by omega),by go_num,hD4,hseg,hfin,hu4⟩
    case measure=>simp[intOf];omega
  go_wp2_with ((with_reducible apply gS 14);refine zB rfl (.bool false) (yB rfl rfl rfl (by simpa using hlt)) ?_)
  go_end0
  exact⟨rfl,M,hD,hseg,hsor.sub pk0 pw (wA5 _) (by omega),hu⟩
end
def u64_in (n:Nat) (h:n<1099511627776):IntKind.u64.wrap (n:Int)=(n:Int):=by simp[IntKind.wrap,IntKind.bits,IntKind.signed];omega
def run_toU (n:Nat) (h:n<1099511627776) (W:World):(convert 3 116 (.int .i64 (n:Int))).run prog W=.ok (.int .u64 (n:Int)) W:=by simp[convert,run_underlying underlying3,run_underlying underlying116,Conv.intToInt,u64_in n h]
def run_ofU (n:Nat) (h:n<1099511627776) (W:World):(convert 116 3 (.int .u64 (n:Int))).run prog W=.ok (.int .i64 (n:Int)) W:=by have e:IntKind.i64.wrap (n:Int)=(n:Int):=IntWalk.i64_in _ (by omega);simp[convert,run_underlying underlying3,run_underlying underlying116,Conv.intToInt,e]
section
variable {o:Oper} {a:Act}
def zGJ {x:Operand} (ho:o.op=.convert 3 116 x) {n:Nat} (hx:a.eval x=.int .i64 (n:Int)) (h:n<1099511627776) (w:World):(execOp a.eval o).run prog w=.ok (.value (.int .u64 (n:Int))) w:=by simp only[execOp,ho,hx,Sem.run_bind,run_toU n h,Result.andThen_ok,Sem.run_pure]
def zFt {x:Operand} (ho:o.op=.convert 116 3 x) {n:Nat} (hx:a.eval x=.int .u64 (n:Int)) (h:n<1099511627776) (w:World):(execOp a.eval o).run prog w=.ok (.value (.int .i64 (n:Int))) w:=by simp only[execOp,ho,hx,Sem.run_bind,run_ofU n h,Result.andThen_ok,Sem.run_pure]
def zDW {x y:Operand} {t2:TypeId} (ho:o.op=.binOp .shr 116 x y t2) {n:Nat} (hx:a.eval x=.int .u64 (n:Int)) (hy:a.eval y=.int .u64 1) (w:World):(execOp a.eval o).run prog w=.ok (.value (.int .u64 ((n/2:Nat):Int))) w:=by
 have e:(n:Int) >>>(1:Nat)=((n/2:Nat):Int):=by rw[wT0];rfl
 have h8:IntKind.u64.bits=64:=rfl;simp[execOp,ho,hx,hy,eqGuard,binOp,Op.shift,e,h8];exact wT1 _ (by decide)
end
end Go.Proofs.YtkggcjdlpendfaaGreatDoor
namespace Go.Proofs.YtkggcjdlpendfaaGreatDoor.SM
open Tryz
section
variable {α:Type} (d:α)
def Swapped (L M:List α) (a b k:Nat):Prop:=M.Perm L∧∀x,at_ d M x=if a≤x∧x<a+k then at_ d L (x-a+b) else if b≤x∧x<b+k then at_ d L (x-b+a) else at_ d L x
def Swapped.zero (L:List α) (a b:Nat):Swapped d L L a b 0:=⟨.refl _,λx=>by rw[if_neg (by omega),if_neg (by omega)]⟩
def Swapped.step {L M:List α} {a b k:Nat} (h:Swapped d L M a b k) (hab:a+k<b) (hb:b+k<L.length):Swapped d L (swp d M (a+k) (b+k)) a b (k+1):=by
 have hl:=h.1.length_eq;refine⟨(zHr d M _ _ (by omega) (by omega)).trans h.1,λx=> ?_⟩;rw[zHP d M _ _ x (by omega) (by omega)]
 by_cases h1:x=b+k
 ·rw[if_pos h1,h.2,if_neg (by omega),if_neg (by omega),if_neg (by omega),if_pos (by omega)];congr 1
  omega
 rw[if_neg h1]
 by_cases h2:x=a+k
 ·rw[if_pos h2,h.2,if_neg (by omega),if_neg (by omega),if_pos (by omega)];congr 1
  omega
 rw[if_neg h2,h.2]
 by_cases h3:a≤x∧x<a+k
 ·rw[if_pos h3,if_pos (by omega)]
 rw[if_neg h3,if_neg (show ¬(a≤x∧x<a+(k+1)) by omega)]
 by_cases h4:b≤x∧x<b+k
 ·rw[if_pos h4,if_pos (by omega)]
 rw[if_neg h4,if_neg (by omega)]
def zBL (L:List α) (a m b x:Nat):α:=if a≤x∧x<b then (if x-a<b-m then at_ d L (m+(x-a)) else at_ d L (a+(x-a-(b-m)))) else at_ d L x
structure Rot (L M:List α) (a m b i j:Nat):Prop where
 perm:M.Perm L
 out:∀x,x<m-i∨m+j≤x→at_ d M x=zBL d L a m b x
 win:∀k,k<i+j→zBL d L a m b (m-i+k)=at_ d M (if k<j then m+k else m-i+(k-j))
def Rot.start (L:List α) (a m b:Nat) (h1:a≤m) (h2:m≤b):Rot d L L a m b (m-a) (b-m):=by
 refine⟨.refl _,λx hx=> ?_,λk hk=> ?_⟩
 ·unfold zBL;rw[if_neg (by omega)]
 unfold zBL;rw[if_pos (by omega)];have e:m-(m-a)+k-a=k:=by omega
 rw[e]
 by_cases hkj:k<b-m
 ·rw[if_pos hkj,if_pos hkj]
 rw[if_neg hkj,if_neg hkj];congr 1
 omega
def Rot.left {L M N:List α} {a m b i j:Nat} (h:Rot d L M a m b i j) (hij:j<i) (him:i≤m) (hs:Swapped d M N (m-i) m j):Rot d L N a m b (i-j) j:=by
 refine⟨hs.1.trans h.perm,λx hx=> ?_,λk hk=> ?_⟩
 ·rw[hs.2]
  by_cases h1:m-i≤x∧x<m-i+j
  ·rw[if_pos h1];have:=h.win (x-(m-i)) (by omega);rw[if_pos (by omega),show m-i+(x-(m-i))=x by omega] at this;rw[this];congr 1
   omega
  rw[if_neg h1,if_neg (by omega)];exact h.out x (by omega)
 have hw:=h.win (j+k) (by omega);rw[if_neg (by omega),show m-i+(j+k)=m-(i-j)+k by omega] at hw;rw[hw,hs.2]
 by_cases hkj:k<j
 ·rw[if_pos hkj,if_neg (by omega),if_pos (by omega)];congr 1
  omega
 rw[if_neg hkj,if_neg (by omega),if_neg (by omega)];congr 1
 omega
def Rot.right {L M N:List α} {a m b i j:Nat} (h:Rot d L M a m b i j) (hij:i<j) (him:i≤m) (hs:Swapped d M N (m-i) (m+j-i) i):Rot d L N a m b i (j-i):=by
 refine⟨hs.1.trans h.perm,λx hx=> ?_,λk hk=> ?_⟩
 ·rw[hs.2]
  by_cases h1:m+j-i≤x∧x<m+j-i+i
  ·rw[if_neg (by omega),if_pos h1];have:=h.win (x-(m-i)) (by omega);rw[if_neg (by omega),show m-i+(x-(m-i))=x by omega] at this;rw[this];congr 1
   omega
  rw[if_neg (by omega),if_neg h1];exact h.out x (by omega)
 have hw:=h.win k (by omega);rw[hw,hs.2]
 by_cases hkj:k<j-i
 ·rw[if_pos (show k<j by omega),if_pos hkj,if_neg (by omega),if_neg (by omega)]
 rw[if_neg hkj,if_pos (show k<j by omega),if_pos (by omega)];congr 1
 omega
def Rot.last {L M N:List α} {a m b i:Nat} (h:Rot d L M a m b i i) (him:i≤m) (hs:Swapped d M N (m-i) m i):N.Perm L∧∀x,at_ d N x=zBL d L a m b x:=by
 refine⟨hs.1.trans h.perm,λx=> ?_⟩;rw[hs.2]
 by_cases h1:m-i≤x∧x<m-i+i
 ·rw[if_pos h1];have:=h.win (x-(m-i)) (by omega);rw[if_pos (by omega),show m-i+(x-(m-i))=x by omega] at this;rw[this];congr 1
  omega
 rw[if_neg h1]
 by_cases h2:m≤x∧x<m+i
 ·rw[if_pos h2];have:=h.win (x-(m-i)) (by omega);rw[if_neg (by omega),show m-i+(x-(m-i))=x by omega] at this;rw[this];congr 1
  omega
 rw[if_neg h2];exact h.out x (by omega)
end
end Go.Proofs.YtkggcjdlpendfaaGreatDoor.SM
namespace Go.Proofs.YtkggcjdlpendfaaGreatDoor.SM
open Tryz
section
variable {α:Type} (d:α) (wt:α→Int)
def rot_seg {L N:List α} {a m b:Nat} (h:N.Perm L∧∀x,at_ d N x=zBL d L a m b x) (h1:a≤m) (h2:m≤b):Seg d L N a b :=
 ⟨h.1,λx hx=>by rw[h.2];unfold zBL;rw[if_neg (by omega)],λx p q=>by
  rw[h.2];unfold zBL;rw[if_pos ⟨p,q⟩];split
  ·exact⟨_,by omega,by omega,rfl⟩
  ·exact⟨_,by omega,by omega,rfl⟩⟩
structure Found (M:List α) (a m b mid s:Nat):Prop where
 lo:(if mid<m then mid+m-b else a)≤s
 hi:s≤(if mid<m then mid else m)
 below:s=(if mid<m then mid+m-b else a)∨wA d wt M (s-1)≤wA d wt M (mid+m-s)
 above:s=(if mid<m then mid else m)∨wA d wt M (mid+m-s-1)≤wA d wt M s
def Found.at_ {M:List α} {a m b mid s:Nat} (ham:a<m) (hmb:m<b) (k1:2*mid≤a+b) (k2:a+b<2*mid+2) (h:Found d wt M a m b mid s) :
 (s≤m∧a≤s∧s≤mid∧mid+m-s≤b∧m≤mid+m-s)∧((s=a∨mid+m-s=b)∨wA d wt M (s-1)≤wA d wt M (mid+m-s))∧((s=m∨mid+m-s=m)∨wA d wt M (mid+m-s-1)≤wA d wt M s):=by
 obtain⟨lo,hi,bel,abv⟩:=h
 by_cases hq:mid<m
 ·rw[if_pos hq] at lo hi bel abv;refine⟨by omega, ?_, ?_⟩
  ·rcases bel with h | h
   ·exact .inl (.inr (by omega))
   exact .inr h
  rcases abv with h | h
  ·exact .inl (.inr (by omega))
  exact .inr h
 rw[if_neg hq] at lo hi bel abv;refine⟨by omega, ?_, ?_⟩
 ·rcases bel with h | h
  ·exact .inl (.inl (by omega))
  exact .inr h
 rcases abv with h | h
 ·exact .inl (.inl (by omega))
 exact .inr h
def halves {M N:List α} {a m b mid s:Nat} (ham:a<m) (hmb:m<b) (k1:2*mid≤a+b) (k2:a+b<2*mid+2) (h1:Sorted d wt M a m) (h2:Sorted d wt M m b) (hf:Found d wt M a m b mid s) (hN:∀x,at_ d N x=zBL d M s m (mid+m-s) x) :
 Sorted d wt N a s∧Sorted d wt N s mid∧Sorted d wt N mid (mid+m-s)∧Sorted d wt N (mid+m-s) b ∧
 ∀x y,a≤x→x<mid→mid≤y→y<b→wA d wt N x≤wA d wt N y:=by
 obtain⟨⟨c1,c2,c3,c4,c5⟩,bel,abv⟩:=hf.at_ d wt ham hmb k1 k2
 have hm1:a≤mid:=by omega
 have hm2:mid<b:=by omega
 obtain⟨e,he⟩:∃e,mid+m-s=e:=⟨_,rfl⟩
 rw[he] at hN bel abv c4 c5;rw[he];have hes:e-m=mid-s:=by omega
 -- what N holds
 have n1:∀x,x<s→wA d wt N x=wA d wt M x:=λx hx=>by unfold wA;rw[hN];unfold zBL;rw[if_neg (by omega)]
 have n2:∀x,s≤x→x<mid→wA d wt N x=wA d wt M (m+(x-s)):=λx h1 h2=>by unfold wA;rw[hN];unfold zBL;rw[if_pos (by omega),if_pos (by omega)]
 have n3:∀x,mid≤x→x<e→wA d wt N x=wA d wt M (s+(x-mid)):=λx h1 h2=>by
  unfold wA;rw[hN];unfold zBL;rw[if_pos (by omega),if_neg (by omega)];congr 2
  omega
 have n4:∀x,e≤x→wA d wt N x=wA d wt M x:=λx hx=>by unfold wA;rw[hN];unfold zBL;rw[if_neg (by omega)]
 have b1:∀x y,a≤x→x<s→e≤y→y<b→wA d wt M x≤wA d wt M y:=λx y p q r t=>by
  rcases bel with h | h
  ·exfalso
   omega
  have q1:wA d wt M x≤wA d wt M (s-1):=by
   by_cases hx:x=s-1
   ·rw[hx];exact Int.le_refl _
   exact h1 x (s-1) p (by omega) (by omega)
  have q2:wA d wt M e≤wA d wt M y:=by
   by_cases hy:y=e
   ·rw[hy];exact Int.le_refl _
   exact h2 e y (by omega) (by omega) t
  omega
 have b2:∀x y,m≤x→x<e→s≤y→y<m→wA d wt M x≤wA d wt M y:=λx y p q r t=>by
  rcases abv with h | h
  ·exfalso
   omega
  have q1:wA d wt M x≤wA d wt M (e-1):=by
   by_cases hx:x=e-1
   ·rw[hx];exact Int.le_refl _
   exact h2 x (e-1) p (by omega) (by omega)
  have q2:wA d wt M s≤wA d wt M y:=by
   by_cases hy:y=s
   ·rw[hy];exact Int.le_refl _
   exact h1 s y (by omega) (by omega) t
  omega
 refine⟨λx y p q r=> ?_,λx y p q r=> ?_,λx y p q r=> ?_,λx y p q r=> ?_,λx y p q r t=> ?_⟩
 ·rw[n1 x (by omega),n1 y r];exact h1 x y p q (by omega)
 ·rw[n2 x p (by omega),n2 y (by omega) r];exact h2 _ _ (by omega) (by omega) (by omega)
 ·rw[n3 x p (by omega),n3 y (by omega) r];exact h1 _ _ (by omega) (by omega) (by omega)
 ·rw[n4 x p,n4 y (by omega)];exact h2 x y (by omega) q r
 by_cases hx:x<s<;>by_cases hy:y<e
 ·rw[n1 x hx,n3 y r hy];by_cases hxy:x=s+(y-mid)
  ·rw[hxy];exact Int.le_refl _
  exact h1 _ _ p (by omega) (by omega)
 ·rw[n1 x hx,n4 y (by omega)];exact b1 x y p hx (by omega) t
 ·rw[n2 x (by omega) q,n3 y r hy];exact b2 _ _ (by omega) (by omega) (by omega) (by omega)
 rw[n2 x (by omega) q,n4 y (by omega)];by_cases hxy:m+(x-s)=y
 ·rw[hxy];exact Int.le_refl _
 exact h2 _ _ (by omega) (by omega) t
def zQZ {N N1 N2:List α} {a mid b:Nat} (hc:∀x y,a≤x→x<mid→mid≤y→y<b→wA d wt N x≤wA d wt N y) (k1:Seg d N N1 a mid) (s1:Sorted d wt N1 a mid) (k2:Seg d N1 N2 mid b) (s2:Sorted d wt N2 mid b) (hm1:a≤mid) (hm2:mid≤b):Sorted d wt N2 a b:=by
 refine Sorted.join d wt (s1.of_out d wt k2 (.inl (Nat.le_refl _))) s2 (λx y p q r t=> ?_);obtain⟨x',p1,p2,e1⟩:=k1.val x p q;obtain⟨y',q1,q2,e2⟩:=k2.val y r t;have f1:wA d wt N2 x=wA d wt N x':=by unfold wA;rw[k2.out x (by omega),e1]
 have f2:wA d wt N2 y=wA d wt N y':=by unfold wA;rw[e2,k1.out y' (by omega)]
 rw[f1,f2];exact hc x' y' p1 p2 q1 q2
structure GoneUp (L M:List α) (a k:Nat):Prop where
 perm:M.Perm L
 at_:∀x,at_ d M x=if x=k then SM.at_ d L a else if a≤x∧x<k then SM.at_ d L (x+1) else SM.at_ d L x
def GoneUp.start (L:List α) (a:Nat):GoneUp d L L a a:=⟨.refl _,λx=>by
 by_cases h:x=a
 ·rw[if_pos h,h]
 ·rw[if_neg h,if_neg (by omega)]⟩
def GoneUp.step {L M:List α} {a k:Nat} (h:GoneUp d L M a k) (hak:a≤k) (hk:k+1<L.length):GoneUp d L (swp d M k (k+1)) a (k+1):=by
 have hl:=h.perm.length_eq;refine⟨(zHr d M _ _ (by omega) (by omega)).trans h.perm,λx=> ?_⟩;rw[zHP d M _ _ x (by omega) (by omega)]
 by_cases h1:x=k+1
 ·rw[if_pos h1,if_pos h1,h.at_,if_pos rfl]
 rw[if_neg h1,if_neg h1]
 by_cases h2:x=k
 ·rw[if_pos h2,if_pos (by omega),h.at_,if_neg (by omega),if_neg (by omega),h2]
 rw[if_neg h2,h.at_,if_neg h2]
 by_cases h3:a≤x∧x<k
 ·rw[if_pos h3,if_pos (by omega)]
 rw[if_neg h3,if_neg (by omega)]
def GoneUp.seg {L M:List α} {a k b:Nat} (h:GoneUp d L M a k) (hak:a≤k) (hk:k<b):Seg d L M a b :=
 ⟨h.perm,λx hx=>by rw[h.at_,if_neg (by omega),if_neg (by omega)],λx p q=>by
  rw[h.at_];split
  ·exact⟨a,by omega,by omega,rfl⟩
  ·split
   ·exact⟨x+1,by omega,by omega,rfl⟩
   ·exact⟨x,p,q,rfl⟩⟩
def GoneUp.sorted {L M:List α} {a b i:Nat} (hs:Sorted d wt L (a+1) b) (hi:a+1≤i) (hib:i≤b) (h1:i=a+1∨wA d wt L (i-1)≤wA d wt L a) (h2:i=b∨wA d wt L a≤wA d wt L i) (h:GoneUp d L M a (i-1)):Sorted d wt M a b:=by
 have hw:∀x,wA d wt M x=if x=i-1 then wA d wt L a else if a≤x∧x<i-1 then wA d wt L (x+1) else wA d wt L x:=λx=>by
  unfold wA;rw[h.at_];split
  ·rfl
  split<;>rfl
 have lo:∀x,a<x→x<i→wA d wt L x≤wA d wt L a:=λx p q=>by
  rcases h1 with h1 | h1
  ·omega
  by_cases hx:x=i-1
  ·rw[hx];exact h1
  exact Int.le_trans (hs x (i-1) (by omega) (by omega) (by omega)) h1
 have hi':∀y,i≤y→y<b→wA d wt L a≤wA d wt L y:=λy p q=>by
  rcases h2 with h2 | h2
  ·omega
  by_cases hy:y=i
  ·rw[hy];exact h2
  exact Int.le_trans h2 (hs i y (by omega) (by omega) q)
 intro x y p q r;rw[hw,hw]
 by_cases hx:x=i-1
 ·rw[if_pos hx,if_neg (by omega),if_neg (by omega)];exact hi' y (by omega) r
 rw[if_neg hx]
 by_cases hx2:x<i-1
 ·rw[if_pos ⟨p,hx2⟩]
  by_cases hy:y=i-1
  ·rw[if_pos hy];exact lo (x+1) (by omega) (by omega)
  rw[if_neg hy]
  by_cases hy2:y<i-1
  ·rw[if_pos ⟨by omega,hy2⟩];exact hs _ _ (by omega) (by omega) (by omega)
  rw[if_neg (by omega)];exact hs _ _ (by omega) (by omega) r
 rw[if_neg (by omega),if_neg (by omega),if_neg (by omega)];exact hs _ _ (by omega) q r
structure GoneDown (L M:List α) (m k:Nat):Prop where
 perm:M.Perm L
 at_:∀x,at_ d M x=if x=k then SM.at_ d L m else if k<x∧x≤m then SM.at_ d L (x-1) else SM.at_ d L x
def GoneDown.start (L:List α) (m:Nat):GoneDown d L L m m:=⟨.refl _,λx=>by
 by_cases h:x=m
 ·rw[if_pos h,h]
 ·rw[if_neg h,if_neg (by omega)]⟩
def GoneDown.step {L M:List α} {m k:Nat} (h:GoneDown d L M m k) (hk0:0<k) (hkm:k≤m) (hm:m<L.length):GoneDown d L (swp d M k (k-1)) m (k-1):=by
 have hl:=h.perm.length_eq;refine⟨(zHr d M _ _ (by omega) (by omega)).trans h.perm,λx=> ?_⟩;rw[zHP d M _ _ x (by omega) (by omega)]
 by_cases h1:x=k-1
 ·rw[if_pos h1,if_pos h1,h.at_,if_pos rfl]
 rw[if_neg h1,if_neg h1]
 by_cases h2:x=k
 ·rw[if_pos h2,if_pos (by omega),h.at_,if_neg (by omega),if_neg (by omega),h2]
 rw[if_neg h2,h.at_,if_neg h2]
 by_cases h3:k<x∧x≤m
 ·rw[if_pos h3,if_pos (by omega)]
 rw[if_neg h3,if_neg (by omega)]
def GoneDown.seg {L M:List α} {a m k b:Nat} (h:GoneDown d L M m k) (hak:a≤k) (hkm:k≤m) (hm:m<b):Seg d L M a b :=
 ⟨h.perm,λx hx=>by rw[h.at_,if_neg (by omega),if_neg (by omega)],λx p q=>by
  rw[h.at_];split
  ·exact⟨m,by omega,by omega,rfl⟩
  ·split
   ·exact⟨x-1,by omega,by omega,rfl⟩
   ·exact⟨x,p,q,rfl⟩⟩
def GoneDown.sorted {L M:List α} {a m i:Nat} (hs:Sorted d wt L a m) (hi:a≤i) (him:i≤m) (h1:i=a∨wA d wt L (i-1)≤wA d wt L m) (h2:i=m∨wA d wt L m≤wA d wt L i) (h:GoneDown d L M m i):Sorted d wt M a (m+1):=by
 have hw:∀x,wA d wt M x=if x=i then wA d wt L m else if i<x∧x≤m then wA d wt L (x-1) else wA d wt L x:=λx=>by
  unfold wA;rw[h.at_];split
  ·rfl
  split<;>rfl
 have lo:∀x,a≤x→x<i→wA d wt L x≤wA d wt L m:=λx p q=>by
  rcases h1 with h1 | h1
  ·omega
  by_cases hx:x=i-1
  ·rw[hx];exact h1
  exact Int.le_trans (hs x (i-1) (by omega) (by omega) (by omega)) h1
 have hi':∀y,i≤y→y<m→wA d wt L m≤wA d wt L y:=λy p q=>by
  rcases h2 with h2 | h2
  ·omega
  by_cases hy:y=i
  ·rw[hy];exact h2
  exact Int.le_trans h2 (hs i y (by omega) (by omega) q)
 intro x y p q r;rw[hw,hw]
 by_cases hx:x=i
 ·rw[if_pos hx,if_neg (by omega),if_pos (by omega)];exact hi' (y-1) (by omega) (by omega)
 rw[if_neg hx]
 by_cases hx2:i<x
 ·rw[if_pos (by omega),if_neg (by omega),if_pos (by omega)];exact hs _ _ (by omega) (by omega) (by omega)
 rw[if_neg (by omega)]
 by_cases hy:y=i
 ·rw[if_pos hy];exact lo x p (by omega)
 rw[if_neg hy]
 by_cases hy2:i<y
 ·rw[if_pos (by omega)]
  by_cases hxy:x=y-1
  ·omega
  exact hs _ _ p (by omega) (by omega)
 rw[if_neg (by omega)];exact hs _ _ p q (by omega)
end
end Go.Proofs.YtkggcjdlpendfaaGreatDoor.SM
namespace Go.Proofs.YtkggcjdlpendfaaGreatDoor
open Go.RowKit Tryz
section
open SM
def symL_any (gd:Nat) (L:List Pk) (tl:List Value) (n c a b:Nat) (w:World) (hn:L.length=n) (hn2:n≤1000000) (hab:a+1<b) (hbn:b≤n) (hone:OnesP L) (hD:DS w gd L tl) (h2:Sorted pk0 pw L (a+1) b) :
 Calls prog 207 #[.slice (some ⟨gd,0,none⟩) n c,.int .i64 (a:Int),.int .i64 ((a+1:Nat):Int),.int .i64 (b:Int),.func (.func 148) #[] #[]] w (zFC gd L tl a b w):=by
 have HN:=zA hn;have HONE:=zA hone;have HS2:=zA h2;clear hn hone h2;go_enter func207,ntmps207
 go_upto_region 3 with (first
  | ((with_reducible apply gS 27);refine zB rfl (.int .i64 ((a+1-a:Nat):Int)) (xP rfl rfl rfl (by omega) (by omega)) ?_)
  | ((with_reducible apply gS 28);refine zB rfl (.bool true) (uZ rfl rfl rfl (by simp)) ?_))
 go_loopw [10,11] (λiv jv wr=>∃(i j:Nat),a+1≤i∧i≤j∧j≤b∧iv=.int .i64 (i:Int)∧jv=.int .i64 (j:Int)∧DS wr gd L tl∧(i=a+1∨wA pk0 pw L (i-1)≤wA pk0 pw L a)∧(j=b∨wA pk0 pw L a≤wA pk0 pw L j)∧Upd (λx=>x=gd) w wr) (λi j _=>(intOf j).toNat-(intOf i).toNat)
 case atStart=>exact⟨a+1,b,by omega,by omega,by omega,rfl,rfl,hD,.inl rfl,.inl rfl,Upd.refl _ w⟩
 case round =>
  clear hD;obtain⟨i,j,hai,hij,hjb,rfl,rfl,hD,hlo,hhi,hu⟩:=hrel;have hml:=HN.out
  by_cases hlt:i<j
  ·have hDd:DS wr.drew gd L tl:=Blk.drew hD;obtain⟨h,hh,hh1,hh2⟩:∃h,(i+j)/2=h∧i≤h∧h<j:=⟨_,rfl,by omega,by omega⟩
   by_cases hls:wA pk0 pw L h<wA pk0 pw L a
   ·have hB:decide (zAZ (L[h]'(by omega)).1 (L[a]'(by omega)).1<0)=true:=by
     rw[zCz, ←zAQ L h (by omega), ←zAQ L a (by omega)];simpa using hls
    go_wp2_with (first
     | ((with_reducible apply gS 33);refine zB rfl (.bool true) (yB rfl rfl rfl (by simpa using hlt)) ?_)
     | ((with_reducible apply gS 36);refine zB rfl (.int .i64 ((i+j:Nat):Int)) (yL rfl rfl rfl (by omega)) ?_)
     | ((with_reducible apply gS 37);refine zB rfl (.int .u64 ((i+j:Nat):Int)) (zGJ rfl rfl (by omega)) ?_)
     | ((with_reducible apply gS 38);refine zB rfl (.int .u64 ((h:Nat):Int)) (by rw[←hh];exact zDW rfl rfl rfl) ?_)
     | ((with_reducible apply gS 39);refine zB rfl (.int .i64 ((h:Nat):Int)) (zFt rfl rfl (by omega)) ?_))
    refine xU qM (by kernel_rfl) (by kernel_rfl) ?_;refine zE (by rfl) (.func (.func 148) #[] #[]) (zD rfl rfl) ?_;simp only[sP,sB,sC];refine zE (by rfl) (.slice (some ⟨gd,0,none⟩) n c) (zD rfl rfl) ?_;simp only[sP,sB,sC];refine zE (by rfl) (.int .i64 ((h:Nat):Int)) (zD rfl rfl) ?_;simp only[sP,sB,sC];refine zE (by rfl) (.pointer (some ⟨gd,(h)*2,none⟩)) (xQ rfl rfl rfl (by omega)) ?_;simp only[sP,sB,sC];refine xA (by rfl) (.agg (pkV (L[h]'(by omega)))) (λW hW=>qE rfl (hDd.ext hW) (by omega) rfl) ?_;simp only[sP,sB,sC];refine zE (by rfl) (.slice (some ⟨gd,0,none⟩) n c) (zD rfl rfl) ?_;simp only[sP,sB,sC];refine zE (by rfl) (.int .i64 ((a:Nat):Int)) (zD rfl rfl) ?_;simp only[sP,sB,sC];refine zE (by rfl) (.pointer (some ⟨gd,(a)*2,none⟩)) (xQ rfl rfl rfl (by omega)) ?_;simp only[sP,sB,sC];refine xA (by rfl) (.agg (pkV (L[a]'(by omega)))) (λW hW=>qE rfl (hDd.ext hW) (by omega) rfl) ?_;simp only[sP,sB,sC];refine zCv (by rfl) _ _ _ rfl rfl zEz #[.agg (pkV (L[h]'(by omega))),.agg (pkV (L[a]'(by omega)))] (by simp[Act.eval]) (.int .i64 (zAZ (L[h]'(by omega)).1 (L[a]'(by omega)).1)) (λW h=>zAe _ _ W) ?_;simp only[Act.put,sA,sB,sC];refine zE (by rfl) (.bool true) (yB rfl rfl rfl hB) ?_;simp only[sP,sB,sC];refine jU ?_;intro w4 hx4;have hD4:=hDd.ext hx4;have hu4:Upd (λx=>x=gd) w w4:=hu.drew.trans (Upd.of_ext (S:=λ_=>False) hx4) (λ_ h=>h.elim);go_wp2_with ((with_reducible apply gS 52);refine zB rfl (.int .i64 ((h+1:Nat):Int)) (yL (i:=h) (d:=1) rfl rfl rfl (by omega)) ?_)
    go_roundw
    case rel=>exact⟨h+1,j,by omega,by omega,hjb,by go_num,rfl,hD4,.inr (by rw[wH8];omega),hhi,hu4⟩
    case measure=>simp[intOf];omega
   have hB:decide (zAZ (L[h]'(by omega)).1 (L[a]'(by omega)).1<0)=false:=by
    rw[zCz, ←zAQ L h (by omega), ←zAQ L a (by omega)];simpa using hls
   go_wp2_with (first
    | ((with_reducible apply gS 33);refine zB rfl (.bool true) (yB rfl rfl rfl (by simpa using hlt)) ?_)
    | ((with_reducible apply gS 36);refine zB rfl (.int .i64 ((i+j:Nat):Int)) (yL rfl rfl rfl (by omega)) ?_)
    | ((with_reducible apply gS 37);refine zB rfl (.int .u64 ((i+j:Nat):Int)) (zGJ rfl rfl (by omega)) ?_)
    | ((with_reducible apply gS 38);refine zB rfl (.int .u64 ((h:Nat):Int)) (by rw[←hh];exact zDW rfl rfl rfl) ?_)
    | ((with_reducible apply gS 39);refine zB rfl (.int .i64 ((h:Nat):Int)) (zFt rfl rfl (by omega)) ?_))
   refine xU qM (by kernel_rfl) (by kernel_rfl) ?_;refine zE (by rfl) (.func (.func 148) #[] #[]) (zD rfl rfl) ?_;simp only[sP,sB,sC];refine zE (by rfl) (.slice (some ⟨gd,0,none⟩) n c) (zD rfl rfl) ?_;simp only[sP,sB,sC];refine zE (by rfl) (.int .i64 ((h:Nat):Int)) (zD rfl rfl) ?_;simp only[sP,sB,sC];refine zE (by rfl) (.pointer (some ⟨gd,(h)*2,none⟩)) (xQ rfl rfl rfl (by omega)) ?_;simp only[sP,sB,sC];refine xA (by rfl) (.agg (pkV (L[h]'(by omega)))) (λW hW=>qE rfl (hDd.ext hW) (by omega) rfl) ?_;simp only[sP,sB,sC];refine zE (by rfl) (.slice (some ⟨gd,0,none⟩) n c) (zD rfl rfl) ?_;simp only[sP,sB,sC];refine zE (by rfl) (.int .i64 ((a:Nat):Int)) (zD rfl rfl) ?_;simp only[sP,sB,sC];refine zE (by rfl) (.pointer (some ⟨gd,(a)*2,none⟩)) (xQ rfl rfl rfl (by omega)) ?_;simp only[sP,sB,sC];refine xA (by rfl) (.agg (pkV (L[a]'(by omega)))) (λW hW=>qE rfl (hDd.ext hW) (by omega) rfl) ?_;simp only[sP,sB,sC];refine zCv (by rfl) _ _ _ rfl rfl zEz #[.agg (pkV (L[h]'(by omega))),.agg (pkV (L[a]'(by omega)))] (by simp[Act.eval]) (.int .i64 (zAZ (L[h]'(by omega)).1 (L[a]'(by omega)).1)) (λW h=>zAe _ _ W) ?_;simp only[Act.put,sA,sB,sC];refine zE (by rfl) (.bool false) (yB rfl rfl rfl hB) ?_;simp only[sP,sB,sC];refine jU ?_;intro w4 hx4;have hD4:=hDd.ext hx4;have hu4:Upd (λx=>x=gd) w w4:=hu.drew.trans (Upd.of_ext (S:=λ_=>False) hx4) (λ_ h=>h.elim);go_wp2_with fail;go_roundw
   case rel=>exact⟨i,h,hai,by omega,by omega,rfl,rfl,hD4,hlo,.inr (by omega),hu4⟩
   case measure=>simp[intOf];omega
  obtain rfl:i=j:=by omega
  have hg0:=GoneUp.start pk0 L a;go_upto_region 9 with ((with_reducible apply gS 33);refine zB rfl (.bool false) (yB rfl rfl rfl (by simp)) ?_)
  go_loopw [13] (λkv wr=>∃(k:Nat) (M:List Pk),a≤k∧k≤i-1∧kv=.int .i64 (k:Int)∧DS wr gd M tl∧GoneUp pk0 L M a k∧Upd (λx=>x=gd) w wr) (λk _=>i-(intOf k).toNat)
  case atStart=>exact⟨a,L,by omega,by omega,rfl,hD,hg0,hu⟩
  case round =>
   clear hD hg0 hu;obtain⟨k,M,hak,hki,rfl,hD,hg,hu⟩:=hrel;have hMl:M.length=n:=hg.perm.length_eq.trans HN.out;have hone:=HONE.out.perm hg.perm
   by_cases hlk:k<i-1
   ·go_wp2_with (first
     | ((with_reducible apply gS 57);refine zB rfl (.int .i64 ((i-1:Nat):Int)) (xP (i:=i) (d:=1) rfl rfl rfl (by omega) (by omega)) ?_)
     | ((with_reducible apply gS 58);refine zB rfl (.bool true) (yB rfl rfl rfl (by simpa using hlk)) ?_))
    have hDD:DS wr.drew gd M tl:=Blk.drew hD;have hu4:=hu.drew;refine vI (λk=>k ==9 ||k ==13) (λW=>DS W gd M tl) (by kernel_rfl) ?_;refine zI (k:=0) (by kernel_rfl) rfl (by rfl) (.slice (some ⟨gd,0,none⟩) n c) (zD rfl rfl) ?_;simp only[sP,sB,sC];refine zI (k:=1) (by kernel_rfl) rfl (by rfl) (.int .i64 ((k:Nat):Int)) (zD rfl rfl) ?_;simp only[sP,sB,sC];refine zI (k:=2) (by kernel_rfl) rfl (by rfl) (.slice (some ⟨gd,0,none⟩) n c) (zD rfl rfl) ?_;simp only[sP,sB,sC];refine zI (k:=3) (by kernel_rfl) rfl (by rfl) (.int .i64 ((k:Nat):Int)) (zD rfl rfl) ?_;simp only[sP,sB,sC];refine zI (k:=4) (by kernel_rfl) rfl (by rfl) (.int .i64 ((k+1:Nat):Int)) (yL (i:=k) (d:=1) rfl rfl rfl (by omega)) ?_;simp only[sP,sB,sC];refine zI (k:=5) (by kernel_rfl) rfl (by rfl) (.slice (some ⟨gd,0,none⟩) n c) (zD rfl rfl) ?_;simp only[sP,sB,sC];refine zI (k:=6) (by kernel_rfl) rfl (by rfl) (.int .i64 ((k:Nat):Int)) (zD rfl rfl) ?_;simp only[sP,sB,sC];refine zI (k:=7) (by kernel_rfl) rfl (by rfl) (.int .i64 ((k+1:Nat):Int)) (yL (i:=k) (d:=1) rfl rfl rfl (by omega)) ?_;simp only[sP,sB,sC];refine zI (k:=8) (by kernel_rfl) rfl (by rfl) (.pointer (some ⟨gd,(k+1)*2,none⟩)) (xQ rfl rfl rfl (by omega)) ?_;simp only[sP,sB,sC];refine zI (k:=10) (by kernel_rfl) rfl (by rfl) (.slice (some ⟨gd,0,none⟩) n c) (zD rfl rfl) ?_;simp only[sP,sB,sC];refine zI (k:=11) (by kernel_rfl) rfl (by rfl) (.int .i64 ((k:Nat):Int)) (zD rfl rfl) ?_;simp only[sP,sB,sC];refine zI (k:=12) (by kernel_rfl) rfl (by rfl) (.pointer (some ⟨gd,(k)*2,none⟩)) (xQ rfl rfl rfl (by omega)) ?_;simp only[sP,sB,sC];refine vR (k:=9) (by kernel_rfl) rfl (by rfl) (.agg (pkV M[k+1])) (λW hW=>qE rfl hW (by omega) rfl) hDD ?_;simp only[Act.put,sA,sB,sC];refine vR (k:=13) (by kernel_rfl) rfl (by rfl) (.agg (pkV M[k])) (λW hW=>qE rfl hW (by omega) rfl) hDD ?_;simp only[Act.put,sA,sB,sC];refine zI (k:=14) (by kernel_rfl) rfl (by rfl) (.pointer (some ⟨gd,(k)*2,none⟩)) (xQ rfl rfl rfl (by omega)) ?_;simp only[sP,sB,sC];refine xZ (k:=15) (by kernel_rfl) rfl ?_;refine zBW rfl _ _ rfl gd M tl hDD (k) (by omega) M[k+1] (hone _ (wC7 _)) rfl rfl ?_;intro w5 hD5 hu5;refine zZ ⟨λh=>(by cases h), ?_⟩;simp only[Act.put,sA,sB,sC];refine zI (k:=16) (by kernel_rfl) rfl (by rfl) (.pointer (some ⟨gd,(k+1)*2,none⟩)) (xQ rfl rfl rfl (by omega)) ?_;simp only[sP,sB,sC];refine xZ (k:=17) (by kernel_rfl) rfl ?_;refine zBW rfl _ _ rfl gd (M.set (k) M[k+1]) tl hD5 (k+1) (by rw[wR6];omega) M[k] (hone _ (wC7 _)) rfl rfl ?_;intro w6 hD6 hu6;refine zZ ⟨λh=>(by cases h), ?_⟩;simp only[Act.put,sA,sB,sC];refine zAK (by kernel_rfl) ?_;have hD7:DS w6 gd (swp pk0 M k (k+1)) tl:=by rw[←zMz M k (k+1) (by omega) (by omega)];exact hD6
    have hu7:=(hu4.trans hu5 (λx h=>.inl h)).trans hu6 (λx h=>.inl h);go_wp2_with ((with_reducible apply gS 60);refine zB rfl (.int .i64 ((k+1:Nat):Int)) (yL (i:=k) (d:=1) rfl rfl rfl (by omega)) ?_)
    go_roundw
    case rel=>exact⟨k+1,swp pk0 M k (k+1),by omega,by omega,by go_num,hD7,hg.step pk0 hak (by omega),hu7⟩
    case measure=>simp[intOf];omega
   obtain rfl:k=i-1:=by omega
   go_wp2_with (first
    | ((with_reducible apply gS 57);refine zB rfl (.int .i64 ((i-1:Nat):Int)) (xP (i:=i) (d:=1) rfl rfl rfl (by omega) (by omega)) ?_)
    | ((with_reducible apply gS 58);refine zB rfl (.bool false) (yB rfl rfl rfl (by simp)) ?_))
   go_end0
   exact⟨rfl,M,hD,hg.seg pk0 hak (by omega),GoneUp.sorted pk0 pw HS2.out (by omega) hjb hlo hhi hg,hu⟩
