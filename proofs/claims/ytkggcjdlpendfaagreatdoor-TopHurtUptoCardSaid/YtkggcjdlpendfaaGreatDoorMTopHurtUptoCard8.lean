import Derived.Test.YtkggcjdlpendfaaGreatDoorMTopHurtUptoCard7
set_option linter.all false
set_option maxRecDepth 20000
set_option maxHeartbeats 8000000
namespace Go.Proofs.YtkggcjdlpendfaaGreatDoor
open Go.RowKit Tryz
def zCx:(prog.info? 42).map (·.size)=some 17:=by kernel_rfl
structure FC where
 wd:Int
 hi:Int
 pt:Int
 qs:List Int
 cs1:List Int
 xs1:List Int
 cs2:List Int
 xs2:List Int
 ev:Int
 data:List Nat
def FC.zero:FC:=⟨0,0,0,List.replicate 64 0,List.replicate 16 0,[],List.replicate 16 0,[],0,[]⟩
def FC.cells (F:FC) (s1 s2 sd:Value):Array Value:=(xG F.wd F.hi F.pt F.qs (zV F.cs1 s1) (zV F.cs2 s2) F.ev sd).toArray
def FC.at_ (F:FC) (w:World) (s1 s2 sd:Value):Prop:=SL w 1 s1 F.xs1.length (ints F.xs1)∧SL w 1 s2 F.xs2.length (ints F.xs2)∧SL w 1 sd F.data.length (zF F.data)
def FC.shaped (F:FC):Prop:=F.qs.length=64∧F.cs1.length=16∧F.cs2.length=16
def FC.at_.ext {F:FC} {w w':World} {s1 s2 sd:Value} (h:F.at_ w s1 s2 sd) (hx:Ext w w'):F.at_ w' s1 s2 sd:=⟨h.1.ext hx,h.2.1.ext hx,h.2.2.ext hx⟩
def FC.size {F:FC} (h:F.shaped) (s1 s2 sd:Value):(F.cells s1 s2 sd).size=103:=zFA _ _ _ _ _ _ _ _ h.1 (zU _ _ h.2.1) (zU _ _ h.2.2)
def zKy:FC.zero.shaped:=⟨rfl,rfl,rfl⟩
def zFile:Array Value:=FC.zero.cells (.slice none 0 0) (.slice none 0 0) (.slice none 0 0)
def zero_at (w:World):FC.zero.at_ w (.slice none 0 0) (.slice none 0 0) (.slice none 0 0):=⟨SL.nil w 1,SL.nil w 1,SL.nil w 1⟩
def zCH:(prog.info? 47).bind (·.zero)=some (.agg zFile):=by kernel_rfl
def zFj:prog.built 47 []=some zFile:=by
 show _=_
 kernel_rfl
def zBb:zFile.size=103:=by unfold zFile;exact FC.size zKy _ _ _
def zKX (wd hi pt ev:Int) (qs:List Int) (t1 t2:List Value) (sd:Value):(xG wd hi pt qs t1 t2 ev sd).toArray=(ints [wd,hi,pt]++(ints qs++(t1++t2++[.int .i64 ev,sd]))).toArray:=by simp[xG]
def cells_1 (wd hi pt ev:Int) (qs:List Int) (t1 t2:List Value) (sd:Value):(xG wd hi pt qs t1 t2 ev sd).toArray=((ints [wd,hi,pt]++ints qs)++(t1++(t2++[.int .i64 ev,sd]))).toArray:=by simp[xG]
def cells_2 (wd hi pt ev:Int) (qs:List Int) (t1 t2:List Value) (sd:Value):(xG wd hi pt qs t1 t2 ev sd).toArray=((ints [wd,hi,pt]++ints qs++t1)++(t2++[.int .i64 ev,sd])).toArray:=by simp[xG]
def cells_d (wd hi pt ev:Int) (qs:List Int) (t1 t2:List Value) (sd u:Value) (hq:qs.length=64) (h1:t1.length=17) (h2:t2.length=17):(xG wd hi pt qs t1 t2 ev sd).toArray.setIfInBounds 102 u=(xG wd hi pt qs t1 t2 ev u).toArray:=by
 have e:∀s,(xG wd hi pt qs t1 t2 ev s).toArray=((ints [wd,hi,pt]++ints qs++t1++t2++[Value.int .i64 ev])++([s]++[])).toArray:=λs=>by simp[xG]
 rw[e sd,e u];exact zRw _ _ _ 102 0 u (by simp[yI,hq,h1,h2]) (by simp)
def q_set (wd hi pt ev:Int) (qs:List Int) (t1 t2:List Value) (sd:Value) (k:Nat) (z:Int) (h:k<qs.length):(xG wd hi pt qs t1 t2 ev sd).toArray.setIfInBounds (3+k) (.int .i64 z)=(xG wd hi pt (qs.set k z) t1 t2 ev sd).toArray:=by rw[zKX,zKX,zRw _ _ _ 3 k _ rfl (by rw[yI];exact h)];unfold ints;rw[List.map_set]
def zHa (cs:List Int) (A:Option Addr) (k c:Nat):∀v∈zV cs (.slice A k c),v.oneCell'=true:=by
 intro v hv;unfold zV at hv;rcases wD3.1 hv with hv | hv
 ·exact qK _ v hv
 simp at hv;subst hv;rfl
def zEd (F:FC) (A B C:Option Addr) (a b c d e f:Nat):(F.cells (.slice A a b) (.slice B c d) (.slice C e f)).all (·.oneCell')=true:=by
 unfold FC.cells xG;rw[wP9,wI3];intro v hv;simp only[wD3] at hv;rcases hv with (((hv | hv) | hv) | hv) | hv
 ·exact qK _ v hv
 ·exact qK _ v hv
 ·exact zHa _ _ _ _ v hv
 ·exact zHa _ _ _ _ v hv
 simp at hv;rcases hv with rfl | rfl<;>rfl
def zDn:zFile.all (·.oneCell')=true:=zEd _ _ _ _ _ _ _ _ _ _
section
variable {ops:Array Oper} {rest:List Oper} {o:Oper} {ac:Act} {w:World} {Q:Exit→Act→World→Prop}
def store_q (hgd:o.guard=none) (x y:Operand) (ho:o.op=.store 33 x y) (gf:Nat) (F:FC) (hF:F.shaped) (s1 s2 sd:Value) (q:List Int) (hq:q.length=64) (hx:ac.eval x=.pointer (some ⟨gf,3,none⟩)) (hy:ac.eval y=.agg (bv q))
 (hB:Blk w gf 47 (F.cells s1 s2 sd)) (h:∀w1,Blk w1 gf 47 (FC.cells { F with qs:=q } s1 s2 sd)→Upd (λb=>b=gf) w w1→wpList prog ops Q rest (ac.put o.dst undef) w1):wpList prog ops Q (o::rest) ac w:=by unfold FC.cells at hB h;rw[zKX] at hB;refine uE hgd _ x y ho gf 3 (ints q) hx hy hB rfl (by rw[yI,yI,hq,hF.1]) (by rw[yI,hq];exact zJ) (qK q) (λw1 h1 h2=>h w1 ?_ h2);rw[zKX];exact h1
def store_t1 (hgd:o.guard=none) (x y:Operand) (ho:o.op=.store 42 x y) (gf:Nat) (F:FC) (hF:F.shaped) (s1 s2 sd:Value) (cs xs:List Int) (hcs:cs.length=16) (A:Option Addr) (k c:Nat) (hx:ac.eval x=.pointer (some ⟨gf,67,none⟩)) (hy:ac.eval y=.agg (yY cs (.slice A k c)))
 (hB:Blk w gf 47 (F.cells s1 s2 sd)) (h:∀w1,Blk w1 gf 47 (FC.cells { F with cs1:=cs,xs1:=xs } (.slice A k c) s2 sd)→Upd (λb=>b=gf) w w1→wpList prog ops Q rest (ac.put o.dst undef) w1):wpList prog ops Q (o::rest) ac w:=by unfold FC.cells at hB h;rw[cells_1] at hB;refine uE hgd _ x y ho gf 67 (zV cs (.slice A k c)) hx hy hB (by simp[yI,hF.1]) (by rw[zU _ _ hF.2.1,zU _ _ hcs]) (by rw[zU _ _ hcs];exact zCx) (zHa cs A k c) (λw1 h1 h2=>h w1 ?_ h2);rw[cells_1];exact h1
def store_t2 (hgd:o.guard=none) (x y:Operand) (ho:o.op=.store 42 x y) (gf:Nat) (F:FC) (hF:F.shaped) (s1 s2 sd:Value) (cs xs:List Int) (hcs:cs.length=16) (A:Option Addr) (k c:Nat) (hx:ac.eval x=.pointer (some ⟨gf,84,none⟩)) (hy:ac.eval y=.agg (yY cs (.slice A k c)))
 (hB:Blk w gf 47 (F.cells s1 s2 sd)) (h:∀w1,Blk w1 gf 47 (FC.cells { F with cs2:=cs,xs2:=xs } s1 (.slice A k c) sd)→Upd (λb=>b=gf) w w1→wpList prog ops Q rest (ac.put o.dst undef) w1):wpList prog ops Q (o::rest) ac w:=by unfold FC.cells at hB h;rw[cells_2] at hB;refine uE hgd _ x y ho gf 84 (zV cs (.slice A k c)) hx hy hB (by simp[yI,hF.1,zU _ _ hF.2.1]) (by rw[zU _ _ hF.2.2,zU _ _ hcs]) (by rw[zU _ _ hcs];exact zCx) (zHa cs A k c) (λw1 h1 h2=>h w1 ?_ h2);rw[cells_2];exact h1
def load_q (hgd:o.guard=none) (x:Operand) (ho:o.op=.load 33 x) (gf:Nat) (F:FC) (hF:F.shaped) (s1 s2 sd:Value) (hx:ac.eval x=.pointer (some ⟨gf,3,none⟩))
 (hB:Blk w gf 47 (F.cells s1 s2 sd)) (h:wpList prog ops Q rest (ac.put o.dst (.agg (bv F.qs))) w):wpList prog ops Q (o::rest) ac w:=by unfold FC.cells at hB;exact wpList_load_mid hgd _ x ho gf 3 hx (ints F.qs) _ (zBX hB hF.1 (zU _ _ hF.2.1) (zU _ _ hF.2.2)).q underlying33 rfl (by rw[yI,hF.1];exact zJ) h
def store_qk (hgd:o.guard=none) (x y:Operand) (ho:o.op=.store 3 x y) (gf:Nat) (F:FC) (hF:F.shaped) (s1 s2 sd:Value) (k:Nat) (hk:k<64) (z:Int) (hx:ac.eval x=.pointer (some ⟨gf,3+k,none⟩)) (hy:ac.eval y=.int .i64 z)
 (hB:Blk w gf 47 (F.cells s1 s2 sd)) (h:∀w1,Blk w1 gf 47 (FC.cells { F with qs:=F.qs.set k z } s1 s2 sd)→Upd (λb=>b=gf) w w1→wpList prog ops Q rest (ac.put o.dst undef) w1):wpList prog ops Q (o::rest) ac w:=by
 refine zAc hgd x y ho gf (3+k) z hx hy hB (by rw[FC.size hF];omega) (h _ ?_ ((Upd.refl (λb=>b=gf) w).setCell (p:=⟨gf,3+k,none⟩) rfl _));have:=hB.set_ (3+k) (.int .i64 z);unfold FC.cells at this ⊢
 rwa [q_set _ _ _ _ _ _ _ _ _ _ (by rw[hF.1];exact hk)] at this
def wl_storeB {i:Nat} {A:Option Addr} {n c:Nat} (hg:o.guard=none) (x y:Operand) (ho:o.op=.store 45 x y) (g:Nat) (hx:ac.eval x=.pointer (some ⟨g,i,none⟩)) (hy:ac.eval y=.slice A n c)
 {t:TypeId} {cs:Array Value} (hB:Blk w g t cs) (hi:i<cs.size) (h:wpList prog ops Q rest (ac.put o.dst undef) (w.setCell ⟨g,i,none⟩ (.slice A n c))):wpList prog ops Q (o::rest) ac w :=
 wpList_plain hg λ_ hK=>by
  have hc:=(hB.cell i).trans (wD9 hi);have hf:=hB.frozen i;unfold Oper.wp execOp;simp only[ho,hx,hy];go_simp
  exact hK _ _ h
def zFf (hgd:o.guard=none) (x y:Operand) (ho:o.op=.store 45 x y) (gf:Nat) (F:FC) (hF:F.shaped) (s1 s2 sd:Value) (data:List Nat) (A:Option Addr) (n c:Nat) (hx:ac.eval x=.pointer (some ⟨gf,102,none⟩)) (hy:ac.eval y=.slice A n c)
 (hB:Blk w gf 47 (F.cells s1 s2 sd)) (h:∀w1,Blk w1 gf 47 (FC.cells { F with data:=data } s1 s2 (.slice A n c))→Upd (λb=>b=gf) w w1→wpList prog ops Q rest (ac.put o.dst undef) w1):wpList prog ops Q (o::rest) ac w:=by
 refine wl_storeB hgd x y ho gf hx hy hB (by rw[FC.size hF];omega) (h _ ?_ ((Upd.refl (λb=>b=gf) w).setCell (p:=⟨gf,102,none⟩) rfl _));have:=hB.set_ 102 (.slice A n c);unfold FC.cells at this ⊢
 rwa [cells_d _ _ _ _ _ _ _ _ _ hF.1 (zU _ _ hF.2.1) (zU _ _ hF.2.2)] at this
end
def zDt (A:Option Addr) (c l:Nat):Option Addr:=if c=l then A else A.map (·.add (l*64))
def SL.subK {w:World} {A:Option Addr} {n c l h:Nat} {xs:List Value} (hs:SL w 64 (.slice A n c) n xs) (hl:l≤h) (hh:h≤n) :
 SL w 64 (.slice (zDt A c l) (h-l) (c-l)) (h-l) ((xs.drop (l*64)).take ((h-l)*64)):=by
 obtain⟨A',c',e,h1,h2,h3,h4⟩:=hs;injection e with e1 e2 e3
 subst e1 e3;have h5:l*64+(h-l)*64≤n*64:=by rw[←wE3];exact wO9 _ (by omega)
 refine⟨_,_,rfl,by omega,by omega,by rw[wF1,wE8,h3];omega,λh0=> ?_⟩;obtain⟨ad,rfl,hb,hc⟩:=h4 (by omega);unfold zDt;rw[if_neg (by omega)];refine⟨ad.add (l*64),rfl,by rw[yH];exact hb,λj u hu=> ?_⟩;rw[zHz];refine hc _ _ ?_;have hj:j<(h-l)*64:=by have:=(wB7.1 hu).1;rw[wF1] at this;omega
 rwa [wB8 hj,wB4] at hu
def run_subK (A:Option Addr) (n c l h:Nat) (hl:l≤h) (hh:h≤n) (hc:n≤c) (w:World) :
 (Instr.slice 25 (.slice A n c) (some (.int .i64 (l:Int))) (some (.int .i64 (h:Int))) none).run prog w=.ok (.slice (zDt A c l) (h-l) (c-l)) w:=by
 have e1:((l:Int)≤(h:Int)):=by omega
 have e2:((h:Int)≤(c:Int)):=by omega
 have e3:l≤c:=by omega
 unfold zDt;go_simp
def run_subF (A:Option Addr) (n c l:Nat) (hh:l≤n) (hc:n≤c) (w:World) :
 (Instr.slice 25 (.slice A n c) (some (.int .i64 (l:Int))) none none).run prog w=.ok (.slice (zDt A c l) (n-l) (c-l)) w:=by
 have e1:((l:Int)≤(n:Int)):=by omega
 have e2:((n:Int)≤(c:Int)):=by omega
 have e3:l≤c:=by omega
 unfold zDt;go_simp
section
variable {o:Oper} {a:Act}
def ex_subK {x lo hi:Operand} (ho:o.op=.slice 25 x (some lo) (some hi) none) {A:Option Addr} {n c l h:Nat} (hx:a.eval x=.slice A n c) (h1:a.eval lo=.int .i64 (l:Int)) (h2:a.eval hi=.int .i64 (h:Int)) (hl:l≤h) (hh:h≤n) (hc:n≤c) (w:World) :
 (execOp a.eval o).run prog w=.ok (.value (.slice (zDt A c l) (h-l) (c-l))) w:=by simp[execOp,ho,hx,h1,h2,Instr.sliceAt,Sem.run_bind,run_underlying underlying25,run_subK A n c l h hl hh hc w]
def ex_subF {x lo:Operand} (ho:o.op=.slice 25 x (some lo) none none) {A:Option Addr} {n c l:Nat} (hx:a.eval x=.slice A n c) (h1:a.eval lo=.int .i64 (l:Int)) (hh:l≤n) (hc:n≤c) (w:World) :
 (execOp a.eval o).run prog w=.ok (.value (.slice (zDt A c l) (n-l) (c-l))) w:=by simp[execOp,ho,hx,h1,Instr.sliceAt,Sem.run_bind,run_underlying underlying25,run_subF A n c l hh hc w]
end
def tfrom:Int→Int→Int→Four:=λy u v=>zAf frM [y,u,v]
def tfrom_by:zGy 115 tfrom:=λa b c w=>zSd a b c w
def goesFrom:zAn prog 115:=⟨_,func115,rfl,rfl⟩
def zCZ (zs:List Int):List Int:=zs.map λz=>jY z (-40000) 40000
def zFL (zs:List Int):(zCZ zs).length=zs.length:=by simp[zCZ]
def shB (b q:List Int):List Int:=zCZ (uB frC (vN upF b q 2047).1).1
def shB_len (b q:List Int):(shB b q).length=64:=by rw[shB,zFL];exact zCl frC _
def zAp (q X:List Int):Nat→List Int
 | 0=>[]
 | k+1=>zAp q X k++shB (qF X k) q
def zEV (q X:List Int):∀k,(zAp q X k).length=k*64
 | 0=>rfl
 | k+1=>by rw[zAp,wE2,zEV q X k,shB_len];omega
def clampL_in (zs:List Int):∀z∈zCZ zs,-40000≤z∧z≤40000:=by intro z hz;obtain⟨y,-,rfl⟩:=wD2.1 hz;exact zIW y _ _ (by omega)
def mapS_in (q X:List Int):∀k,∀z∈zAp q X k,-40000≤z∧z≤40000
 | 0,z,hz=>by cases hz
 | k+1,z,hz=>by
   rw[zAp] at hz;rcases wD3.1 hz with h | h
   ·exact mapS_in q X k z h
   exact clampL_in _ z h
def sect (X:List Int) (n k:Nat):List Int:=(X.drop (k*n*64)).take (n*64)
def zAB (q X:List Int) (a b k:Nat):List Int:=zIE (zAp q (sect X (zT a b) k) (zT a b)) a b
def zFP (q X:List Int) (a b k:Nat):(zAB q X a b k).length=a*b:=zJb _ _ _
def zBS (q X:List Int) (a b p:Nat):List (List Int):=(List.range p).map (zAB q X a b)
def zTV (q X:List Int) (a b p:Nat):(zBS q X a b p).length=p:=by simp[zBS]
def zRY (q X:List Int) (a b p:Nat):∀l∈zBS q X a b p,l.length=a*b:=by intro l hl;obtain⟨k,-,rfl⟩:=wD2.1 hl;exact zFP q X a b k
def zAh (q X:List Int) (a b p:Nat):List (List Int):=zCW tfrom (zBS q X a b p)
def zLP {a b:Nat} (a1:1≤a) (a2:a≤64) (b1:1≤b) (b2:b≤64):xX a b=0:=by unfold xX;rw[if_pos];simp[inB];omega
def zUz (q X:List Int) (a b:Nat) (a1:1≤a) (a2:a≤64) (b1:1≤b) (b2:b≤64):zDz (zT a b) (zAp q X (zT a b)) a b (xX a b)=0:=by unfold zDz;rw[if_pos (zLP a1 a2 b1 b2)];simp only[wD7];rw[if_pos (yJ.2 (mapS_in q X _))];simp
def zBx {a b:Nat} (a2:a≤64) (b2:b≤64):zT a b≤64:=by
 unfold zT;have h1:(a+7)/8≤8:=by omega
 have h2:(b+7)/8≤8:=by omega
 exact wO6 h1 h2
def cutN_pos {a b:Nat} (a1:1≤a) (b1:1≤b):1≤zT a b:=by
 unfold zT;have h1:1≤(a+7)/8:=by omega
 have h2:1≤(b+7)/8:=by omega
 exact wO6 h1 h2
def PicIs (wd hi:Int) (L:List (List Int)) (w:World) (e:Ending) (w':World):Prop:=∃B k d,e=.returned (.agg (yX wd hi (.slice B k d)))∧RowsF w' w.heap.size B k d L∧Ext w w'
def builtPicS (a b:Int):prog.built 31 [(0,.int .i64 a),(1,.int .i64 b)]=some (yX a b (.slice none 0 0)):=by
 show _=_
 kernel_rfl
def zFW:prog.built 31 []=some (yX 0 0 (.slice none 0 0)):=by
 show _=_
 kernel_rfl
def zDc:(prog.info? 31).bind (·.zero)=some (.agg (yX 0 0 (.slice none 0 0))):=by kernel_rfl
def zBQ (a b:Int) (A:Option Addr) (n c:Nat):(yX a b (.slice A n c)).all (·.oneCell')=true:=by simp[yX,Value.oneCell']
def elt_rowS:Elt prog 29 22 1 24:=⟨underlying29,by kernel_rfl,by omega⟩
def join_show (q X:List Int) (a b:Nat) (a1:1≤a) (a2:a≤64) (b1:1≤b) (b2:b≤64) (k:Nat) (v:Value) (W:World) (h:SL W 64 v (zT a b) (ints (zAp q (sect X (zT a b) k) (zT a b)))) :
 Calls prog 114 #[v,.int .i64 (a:Int),.int .i64 (b:Int)] W λe W'=>∃D d,e=.returned (.tuple #[.slice D (a*b) d,.int .i64 0])∧SL W' 1 (.slice D (a*b) d) (a*b) (ints (zAB q X a b k))∧Ext W W'∧∀ad,D=some ad→W.heap.size≤ad.block :=
 (join_any _ _ v a b W h (zEV _ _ _)).mono λe W' h=>by
   unfold zHO at h;rw[zUz q _ a b a1 a2 b1 b2,if_pos rfl,if_pos rfl] at h;simp only[wD7] at h;obtain⟨D,m,d,he,rfl,h1,h2,h3⟩:=h;exact⟨D,d,he,h1,h2,h3⟩
def planes_ok {q X:List Int} {a b p:Nat} (hp:p=1∨p=3):(zBS q X a b p).length=1∨(zBS q X a b p).length=3:=by rw[zTV];exact hp
def area_le {a b:Nat} (a2:a≤64) (b2:b≤64):a*b≤1000000:=wJ1 (wO6 a2 b2) (by omega)
def turn_show (q X:List Int) (a b p:Nat) (a2:a≤64) (b2:b≤64) (hp:p=1∨p=3) (W:World) (B:Nat) (hB:B≤W.heap.size) (A:Option Addr) (n c:Nat) (h:PartsAt W B (.slice A n c) (zBS q X a b p)) :
 Calls prog 38 #[.slice A n c,.func (.func 115) #[] #[]] W (TurnF (zAh q X a b p) B W) :=
 zUd 115 tfrom tfrom_by goesFrom A n c _ (a*b) W (planes_ok hp) (zRY q X a b p) (area_le a2 b2) B hB h.far
def SL.sect {w:World} {A:Option Addr} {m c n k lo:Nat} {X:List Int} (h:SL w 64 (.slice A m c) m (ints X)) (hlo:k*n=lo) (hm:lo+n≤m):SL w 64 (.slice (zDt A c lo) n (c-lo)) n (ints (sect X n k)):=by
 have:=h.subK (l:=lo) (h:=lo+n) (by omega) hm;rw[wP6] at this;unfold Go.Proofs.YtkggcjdlpendfaaGreatDoor.sect;rw[hlo];unfold ints at this ⊢
 rwa [←wO1, ←wO0] at this
def sect_len {X:List Int} {m n k lo:Nat} (hX:X.length=m*64) (hlo:k*n=lo) (hm:lo+n≤m):(sect X n k).length=n*64:=by unfold sect;rw[wF1,wE8,hX,hlo];have:=wO9 64 hm;rw[wE3] at this;omega
def zAq (P:List Int) (i:Nat):List Int:=zCZ (P.take i)++P.drop i
def clampM_0 (P:List Int):zAq P 0=P:=by simp[zAq,zCZ]
def zUI (P:List Int) (h:P.length=64):zAq P 64=zCZ P:=by unfold zAq;rw[wC2 (by omega),wN9 (by omega),wG9]
def zUb (P:List Int) (i:Nat) (h:P.length=64) (hi:i≤64):(zAq P i).length=64:=by unfold zAq;rw[wE2,zFL,wF1,wE8];omega
def zUt (P:List Int) (i:Nat) (z:Int) (hz:P[i]? =some z):(zAq P i).set i (jY z (-40000) 40000)=zAq P (i+1):=by
 have hi:i<P.length:=(wB7.1 hz).1;have hzi:P[i]=z:=by rw[wA2 hi] at hz;exact wU4 hz
 unfold zAq;have hl:(zCZ (P.take i)).length=i:=by rw[zFL,wF1];omega
 rw[wL4 _ _ (by omega),hl,wL5,wH0 hi,wJ9,wC1 hi];simp[zCZ,hzi]
def bv_get {xs:List Int} {i:Nat} {z:Int} (h:xs[i]? =some z):(bv xs)[i]? =some (.int .i64 z):=by unfold bv ints;rw[wH3,wB9,h];rfl
def zMc {ops:Array Oper} {Q:Exit→Act→World→Prop} {rest:List Oper} {o:Oper} {a:Act} {w:World} (hg:o.guard=none) (x y:Operand) (ho:o.op=.store 29 x y) (g i:Nat) (A:Option Addr) (n c:Nat) (hx:a.eval x=.pointer (some ⟨g,i,none⟩)) (hy:a.eval y=.slice A n c)
 {t:TypeId} {cs:Array Value} (hB:Blk w g t cs) (hi:i<cs.size) (h:wpList prog ops Q rest (a.put o.dst undef) (w.setCell ⟨g,i,none⟩ (.slice A n c))):wpList prog ops Q (o::rest) a w :=
 wpList_plain hg λ_ hK=>by
  have hc:=(hB.cell i).trans (wD9 hi);have hf:=hB.frozen i;unfold Oper.wp execOp;simp only[ho,hx,hy];go_simp
  exact hK _ _ h
def picV_set (a b:Int) (u v:Value):(yX a b u).setIfInBounds 2 v=yX a b v:=rfl
def zDy (n:Nat) (f g:Nat→Int):zY n (λk=>f k+g k)=zY n f+zY n g:=by
 induction n with
 | zero=>rfl
 | succ n ih=>rw[jR,jR,jR,ih];omega
def zFV (m n:Nat) (f:Nat→Nat→Int):zY m (λr=>zY n (f r))=zY n (λc=>zY m (λr=>f r c)):=by
 induction m with
 | zero =>
   show (0:Int)=zY n (λ_=>0)
   induction n with
   | zero=>rfl
   | succ n ih=>rw[jR, ←ih];rfl
 | succ m ih =>
   rw[jR,ih, ←zDy];rfl
def ext64 {A B:List Int} (ha:A.length=64) (hb:B.length=64) (h:∀i,i<64→A.getD i 0=B.getD i 0):A=B:=by
 refine wL7 (by omega) λi h1 h2=> ?_
 have:=h i (by omega)
 rwa [wH7,wH7,wA2 h1,wA2 h2,wN0,wN0] at this
def getD_zip (F:Int→Int→Int) {a b:List Int} (ha:a.length=64) (hb:b.length=64) (i:Nat) (h:i<64):(List.zipWith F a b).getD i 0=F (a.getD i 0) (b.getD i 0):=by simp[wH7,wQ0,ha,hb,h]
def zJw (X:List Int) (j i:Nat) (hi:i<64):X.getD (j*64+i) 0=(qF X j).getD i 0:=by unfold qF;rw[wH7,wH7,wB8 hi,wB4]
def zRN {X Y:List Int} {k j:Nat} (hX:X.length=k*64) (hj:j<k):qF (X++Y) j=qF X j:=by unfold qF;rw[wF4 (by omega),wF8 (by rw[wE8];omega)]
def zOX {X Y:List Int} {k:Nat} (hX:X.length=k*64) (hY:Y.length=64):qF (X++Y) k=Y:=by unfold qF;rw[List.drop_left' hX,wC2 (by omega)]
def zPB (q X:List Int) (hq:q.length=64):∀(n j:Nat),j<n→qF (zAa q X n) j=blkF (qF X j) q
 | 0,j,h=>by omega
 | n+1,j,h=>by
   rw[zAa]
   by_cases hj:j=n
   ·subst hj;exact zOX (zEN q X hq j) (zLl _ q hq)
   rw[zRN (zEN q X hq n) (by omega)];exact zPB q X hq n j (by omega)
def zOo (q X:List Int):∀(n j:Nat),j<n→qF (zAp q X n) j=shB (qF X j) q
 | 0,j,h=>by omega
 | n+1,j,h=>by
   rw[zAp]
   by_cases hj:j=n
   ·subst hj;exact zOX (zEV q X j) (shB_len _ q)
   rw[zRN (zEV q X n) (by omega)];exact zOo q X n j (by omega)
def zCV (n:Nat) (f:Nat→Int) (c:Int):c*zY n f=zY n (λk=>c*f k):=by rw[wQ1,zFJ];exact jD _ _ _ λk _=>wQ1 _ _
def zDa (n:Nat) (f g:Nat→Int) (h:∀k,k<n→f k≤g k):zY n f≤zY n g:=by
 induction n with
 | zero=>exact wN7 _
 | succ n ih =>
   have a:=ih λk hk=>h k (by omega)
   have b:=h n (by omega);rw[jR,jR];omega
def sq_sum (n:Nat) (f:Nat→Int):zY n f*zY n f=zY n (λx=>zY n (λy=>f x*f y)):=by rw[zFJ];exact jD _ _ _ λx _=>zCV n f (f x)
def zGQ (a:Int):0≤a*a:=by
 rcases Int.le_total 0 a with h | h
 ·exact wO5 h h
 have:=wO5 (show 0≤ -a by omega) (show 0≤ -a by omega)
 rwa [Int.neg_mul_neg] at this
def zPX (a b:Int):2*(a*b)≤a*a+b*b∧ -(2*(a*b))≤a*a+b*b:=by have h1:=zGQ (a-b);have h2:=zGQ (a+b);rw[Int.sub_mul,Int.mul_sub,Int.mul_sub] at h1;rw[wC5,wQ2,wQ2] at h2;have hc:b*a=a*b:=wQ1 _ _;rw[hc] at h1 h2;omega
def cross_le (g a b:Int):2*(g*(a*b))≤(g.natAbs:Int)*(a*a+b*b):=by
 obtain⟨h1,h2⟩:=zPX a b;rcases Int.le_total 0 g with h | h
 ·have e:(g.natAbs:Int)=g:=Int.natAbs_of_nonneg h;rw[e, ←wQ3,wQ1 2 g,wQ3];exact wC4 h1 h
 have e:(g.natAbs:Int)= -g:=by omega
 have:=wC4 h2 (show 0≤ -g by omega);rw[e, ←wQ3,wQ1 2 g,wQ3]
 rwa [Int.neg_mul_neg] at this
def zCi (B:Nat→Nat→Int) (x y:Nat):Int:=zY 8 (λu=>B u x*B u y)
def gram_le (B:Nat→Nat→Int) (M:Int) (h:∀x,x<8→zY 8 (λy=>((zCi B x y).natAbs:Int))≤M) (v:Nat→Int) :
 zY 8 (λu=>zY 8 (λx=>B u x*v x)*zY 8 (λx=>B u x*v x))≤M*zY 8 (λx=>v x*v x):=by
 have e1:zY 8 (λu=>zY 8 (λx=>B u x*v x)*zY 8 (λx=>B u x*v x))=zY 8 (λx=>zY 8 (λy=>zCi B x y*(v x*v y))):=by
  have:zY 8 (λu=>zY 8 (λx=>B u x*v x)*zY 8 (λx=>B u x*v x))=zY 8 (λu=>zY 8 (λx=>zY 8 (λy=>B u x*v x*(B u y*v y)))):=jD _ _ _ λu _=>sq_sum 8 _
  rw[this,zFV];refine jD _ _ _ λx _=> ?_
  rw[zFV];refine jD _ _ _ λy _=> ?_
  unfold zCi;rw[zFJ];refine jD _ _ _ λu _=> ?_
  rw[wQ3,wQ3,wQ4 (v x)]
 have e2:2*zY 8 (λx=>zY 8 (λy=>zCi B x y*(v x*v y)))≤zY 8 (λx=>zY 8 (λy=>((zCi B x y).natAbs:Int)*(v x*v x+v y*v y))):=by
  rw[zCV];refine zDa _ _ _ λx _=> ?_
  rw[zCV];exact zDa _ _ _ λy _=>cross_le _ _ _
 have hsym:∀x y,zCi B x y=zCi B y x:=λx y=>jD _ _ _ λu _=>wQ1 _ _
 have e3:zY 8 (λx=>zY 8 (λy=>((zCi B x y).natAbs:Int)*(v x*v x+v y*v y)))=2*zY 8 (λx=>zY 8 (λy=>((zCi B x y).natAbs:Int))*(v x*v x)):=by
  have a1:zY 8 (λx=>zY 8 (λy=>((zCi B x y).natAbs:Int)*(v x*v x+v y*v y)))=zY 8 (λx=>zY 8 (λy=>((zCi B x y).natAbs:Int)*(v x*v x)))+zY 8 (λx=>zY 8 (λy=>((zCi B x y).natAbs:Int)*(v y*v y))):=by
   rw[←zDy];refine jD _ _ _ λx _=> ?_
   rw[←zDy];exact jD _ _ _ λy _=>wQ2 _ _ _
  have a2:zY 8 (λx=>zY 8 (λy=>((zCi B x y).natAbs:Int)*(v y*v y)))=zY 8 (λx=>zY 8 (λy=>((zCi B x y).natAbs:Int)*(v x*v x))):=by
   rw[zFV];refine jD _ _ _ λx _=>jD _ _ _ λy _=> ?_
   rw[hsym]
  have a3:zY 8 (λx=>zY 8 (λy=>((zCi B x y).natAbs:Int)*(v x*v x)))=zY 8 (λx=>zY 8 (λy=>((zCi B x y).natAbs:Int))*(v x*v x)):=jD _ _ _ λx _=>(zFJ 8 _ _).symm
  rw[a1,a2,a3];omega
 have e4:zY 8 (λx=>zY 8 (λy=>((zCi B x y).natAbs:Int))*(v x*v x))≤M*zY 8 (λx=>v x*v x):=by
  rw[zCV];exact zDa _ _ _ λx hx=>wC3 (h x hx) (zGQ _)
 rw[e1];omega
def zUW:∀x,x<8→zY 8 (λy=>((zCi zCA x y).natAbs:Int))≤67130000:=by decide+kernel
def uV (b:List Int):Int:=zY 64 (λk=>b.getD k 0*b.getD k 0)
def zIh (b:List Int):uV (jH toC b)≤67130000*uV b:=by
 unfold uV
 have e1:zY 64 (λk=>(jH toC b).getD k 0*(jH toC b).getD k 0)=zY 8 (λr=>zY 8 (λk=>vV toC b r k 8*vV toC b r k 8)):=by
  rw[show 64=8*8 from rfl,zNd];refine jD _ _ _ λr hr=>jD _ _ _ λk hk=> ?_
  rw[alongZ_at _ _ _ (by omega),show (8*r+k)/8=r by omega,show (8*r+k)%8=k by omega]
 have e2:zY 64 (λk=>b.getD k 0*b.getD k 0)=zY 8 (λr=>zY 8 (λk=>b.getD (8*r+k) 0*b.getD (8*r+k) 0)):=by
  rw[show 64=8*8 from rfl,zNd]
 rw[e1,e2,zFV,zCV];refine zDa _ _ _ λr hr=> ?_
 have:=gram_le zCA 67130000 zUW (λx=>b.getD (8*r+x) 0)
 have e3:zY 8 (λk=>vV toC b k r 8*vV toC b k r 8)=zY 8 (λu=>zY 8 (λx=>zCA u x*b.getD (8*r+x) 0)*zY 8 (λx=>zCA u x*b.getD (8*r+x) 0)):=by
  refine jD _ _ _ λu _=> ?_
  have:vV toC b u r 8=zY 8 (λx=>zCA u x*b.getD (8*r+x) 0):=jD _ _ _ λx _=>wQ1 _ _
  rw[this]
 rw[e3];exact this
def round_sq (D n c:Int) (hD:0≤D) (h:2*(D*c.natAbs)≤2*n.natAbs+D):1024*(D*D)*(c*c)≤1028*(n*n)+65792*(D*D):=by
 have hc:c*c=(c.natAbs:Int)*c.natAbs:=Int.natAbs_mul_self.symm;have hn:n*n=(n.natAbs:Int)*n.natAbs:=Int.natAbs_mul_self.symm;rw[hc,hn];have c0:(0:Int)≤c.natAbs:=Int.natCast_nonneg _;have n0:(0:Int)≤n.natAbs:=Int.natCast_nonneg _;generalize (c.natAbs:Int)=k at *;generalize (n.natAbs:Int)=m at *;have hk:0≤2*(D*k):=wO5 (by omega) (wO5 hD c0);have h1:=Int.mul_le_mul h h hk (by omega);have h2:=(zPX m (128*D)).1
 have e1:2*(D*k)*(2*(D*k))=4*(D*D*(k*k)):=by
  rw[wQ3 2,wQ4 (D*k) 2,wQ3 D k (D*k),wQ4 k D k, ←wQ3 D D];omega
 have e2:(2*m+D)*(2*m+D)=4*(m*m)+4*(m*D)+D*D:=by
  have a1:D*m=m*D:=wQ1 _ _;rw[wC5,wQ2,wQ2,wQ3 2 m (2*m),wQ4 m 2 m,wQ3 2 m D,wQ4 D 2 m,a1];omega
 have e3:m*(128*D)=128*(m*D):=wQ4 _ _ _
 have e4:128*D*(128*D)=16384*(D*D):=by
  rw[wQ3 128,wQ4 D 128];omega
 rw[e1,e2] at h1;rw[e3,e4] at h2;rw[wQ3 1024];generalize D*D*(k*k)=X at *;generalize m*D=Y at *;omega
def rp_two (n d:Int) (h0:0≤n) (hd:1≤d):0≤rp n d∧2*(d*rp n d)≤2*n+d∧rp n d≤n:=by
 have hb:=zGR n d h0 hd;have h1:(2*n+d)/(2*d)*(2*d)≤2*n+d:=Int.ediv_mul_le _ (by omega)
 have h2:2*(d*rp n d)≤2*n+d:=by
  have e:2*(d*rp n d)=rp n d*(2*d):=by rw[←wQ3,wQ1]
  rw[e];exact h1
 refine⟨hb.1,h2,Int.not_lt.1 λhq=> ?_⟩;have h3:=wC4 (show n+1≤rp n d by omega) (show 0≤d by omega);have h4:=wC3 hd h0;rw[wQ2,Int.mul_one] at h3;rw[Int.one_mul] at h4;generalize d*n=p at *;generalize d*rp n d=r at *;omega
def rnd_two (n d:Int) (hd:1≤d):2*(d*(rnd n d).natAbs)≤2*n.natAbs+d∧(rnd n d).natAbs≤n.natAbs:=by
 unfold rnd
 by_cases h:n<0
 ·rw[if_pos h];obtain⟨a,b,c⟩:=rp_two (-n) d (by omega) hd;have e:((-(rp (-n) d)).natAbs:Int)=rp (-n) d:=by omega
  have e2:(n.natAbs:Int)= -n:=by omega
  rw[e,e2];exact⟨b,by omega⟩
 rw[if_neg h];obtain⟨a,b,c⟩:=rp_two n d (by omega) hd;have e:((rp n d).natAbs:Int)=rp n d:=by omega
 have e2:(n.natAbs:Int)=n:=by omega
 rw[e,e2];exact⟨b,by omega⟩
def sq_le {a b:Int} (h:a.natAbs≤b.natAbs):a*a≤b*b:=by have ha:a*a=(a.natAbs:Int)*a.natAbs:=Int.natAbs_mul_self.symm;have hb:b*b=(b.natAbs:Int)*b.natAbs:=Int.natAbs_mul_self.symm;rw[ha,hb];exact Int.mul_le_mul (by omega) (by omega) (by omega) (by omega)
def down_sq (n d:Int) (hd:1≤d):zBO n d*zBO n d≤n*n:=by
 refine sq_le ?_;have:=(rnd_two n d hd).2;unfold zBO jY;split
 ·omega
 split
 ·omega
 exact this
def energy_le (a b:List Int) (h:∀k,k<64→a.getD k 0*a.getD k 0≤b.getD k 0*b.getD k 0):uV a≤uV b:=zDa _ _ _ h
def zTg (b:List Int) (hb:uV b≤1048576):uV (zFU toC b)≤1057500:=by
 have h1:=zIh (jH toC b);have h2:=zIh b
 have h3:1024*(67108864*67108864)*uV (zFU toC b)≤1028*uV (jH toC (jH toC b))+65792*(67108864*67108864)*64:=by
  unfold uV;rw[zCV,zCV];have e:(65792*(67108864*67108864)*64:Int)=zY 64 (λ_=>65792*(67108864*67108864)):=by decide+kernel
  rw[e, ←zDy];refine zDa _ _ _ λk hk=> ?_
  have hg:(zFU toC b).getD k 0=roundF ((jH toC (jH toC b)).getD k 0):=by
   unfold zFU;rw[wH7,wB9,wH7,wA2 (by rw[zED];exact hk)];rfl
  rw[hg];exact round_sq 67108864 _ _ (by omega) (rnd_two _ 67108864 (by omega)).1
 omega
def zRh (b:List Int) (hb:∀z∈b,-128≤z∧z≤127):uV b≤1048576:=by
 have:uV b≤zY 64 (λ_=>16384):=by
  refine zDa _ _ _ λk _=> ?_
  have hz: -128≤b.getD k 0∧b.getD k 0≤128:=by
   rw[wH7]
   by_cases h:k<b.length
   ·rw[wA2 h];have:=hb _ (wC7 h);exact⟨this.1,by show b[k]≤128;omega⟩
   rw[wO2 (by omega)];decide
  exact sq_le (b:=128) (by omega)
 exact this
def zUn (b q:List Int) (hb:∀z∈b,-128≤z∧z≤127) (hbl:b.length=64) (hq:q.length=64) (hq1:zR q 1 255=true):uV (blkF b q)≤1057500:=by
 have h1:uV (uB toC b).1≤1057500:=by
  unfold uB;split
  ·exact zTg b (zRh b hb)
  decide+kernel
 have hz:=zCl toC b;unfold blkF;generalize (uB toC b).1=z at *;unfold vN;rw[hq1,if_pos rfl];split
 ·refine wQ5 (energy_le _ z λk hk=> ?_) h1;rw[getD_zip zBO hz hq k hk];refine down_sq _ _ ?_;have:=yJ.1 hq1 (q.getD k 0) (by rw[wH7,wA2 (by omega)];exact wC7 _);omega
 decide+kernel
def zDL (s:Int):Nat :=
 if s=0 then 4 else if s=8 then 2 else if s=7 then 2 else if s=6 then 3 else if s=5 then 4 else if s=4 then 5 else if s=3 then 6 else if s=2 then 7 else if s=1 then 8 else if s=9 then 4 else if s=10 then 15
 else if 16<s∧s<25 then 10 else if s=25 then 12 else 16
def zEE (f:Int→Nat) (t:Tok):Int:=16384*((f t.1:Int)+t.2.1)
def sumP (f:Int→Nat) (l:List Tok):Int:=(l.map (zEE f)).foldr (· + ·) 0
def zLa (f:Int→Nat):sumP f []=0:=rfl
def zDl (f:Int→Nat) (t:Tok) (l:List Tok):sumP f (t::l)=zEE f t+sumP f l:=rfl
def zSe (f:Int→Nat):∀a b:List Tok,sumP f (a++b)=sumP f a+sumP f b
 | [],b=>by rw[wG4,zLa,Int.zero_add]
 | t::a,b=>by rw[wE1,zDl,zDl,zSe f a b];omega
def size_sq (n:Int) (h0:n≠0) (hn: -2047≤n∧n≤2047):∃s:Nat,(vM n).1=(s:Int)∧1≤s∧s≤11∧((4 ^ (s-1):Nat):Int)≤n*n:=by
 obtain⟨-,-,h3⟩:=zER n (by omega) (by omega);obtain⟨h1,h2⟩:=h3 h0;refine⟨szN n,by unfold vM;rw[if_pos (by omega)],h1, ?_, ?_⟩
 ·refine wQ6 λhlt=> ?_
  have:=wF3 (n:=2) (by omega) (show 11≤szN n-1 by omega);have e:(2:Nat) ^ 11=2048:=by decide
  omega
 have hsq:n*n=((n.natAbs*n.natAbs:Nat):Int):=by rw[wB5];exact Int.natAbs_mul_self.symm
 rw[hsq];have h4:=wO6 h2 h2;rw[←Nat.mul_pow] at h4
 exact_mod_cast h4
def zUq:∀r:Fin 16,∀s:Fin 12,1≤s.val→(16384*((zDL (16*(r.val:Int)+(s.val:Int)):Int)+(s.val:Int)):Int)≤139264*((r.val:Int)+1)+((4 ^ (s.val-1):Nat):Int)+8192:=by decide+kernel
def zOj (r:Nat) (hr:r<16) (n:Int) (h0:n≠0) (hn: -2047≤n∧n≤2047):zEE zDL (qZ (r:Int) n)≤139264*((r:Int)+1)+n*n+8192:=by obtain⟨s,e,s1,s2,hs⟩:=size_sq n h0 hn;have:=zUq ⟨r,hr⟩ ⟨s,by omega⟩ s1;unfold zEE qZ;rw[e];dsimp only at this ⊢;generalize ((4 ^ (s-1):Nat):Int)=q at *;generalize n*n=u at *;omega
def phi (l:List Int):Int:=(l.map λc=>139264+c*c).foldr (· + ·) 0
def zRz (c:Int) (l:List Int):phi (c::l)=139264+c*c+phi l:=rfl
def sumP_long (m:Nat):sumP zDL (List.replicate m long)=262144*(m:Int):=by
 induction m with
 | zero=>rfl
 | succ m ih =>
   rw[wG1,zDl,ih];have:zEE zDL long=262144:=by decide+kernel
   rw[this];omega
def zIK:∀(l:List Int) (run:Nat),(∀c∈l,-2047≤c∧c≤2047)→sumP zDL (vC run l)≤139264*(run:Int)+phi l+8192*((vC run l).length:Int)
 | [],run,_=>by
   rw[vC]
   by_cases h:0<run
   ·rw[if_pos h,zDl,zLa];have:zEE zDL (0,0,0)=65536:=by decide+kernel
    rw[this];simp only[wA8,wJ0];show _≤139264*(run:Int)+0+_
    omega
   rw[if_neg h,zLa];show (0:Int)≤139264*(run:Int)+0+_
   omega
 | n::l,run,hl=>by
   have hn:=hl n (by simp);have hr:∀c∈l,-2047≤c∧c≤2047:=λc hc=>hl c (by simp[hc])
   rw[vC,zRz]
   by_cases h0:n=0
   ·subst h0;rw[if_pos rfl];have:=zIK l (run+1) hr;omega
   rw[if_neg h0,zSe,zDl,sumP_long,wE2,wM9,wA8];have h1:=zIK l 0 hr;have h2:=zOj (run%16) (wN6 _ (by omega)) n h0 hn;generalize n*n=u at *;generalize phi l=w at *;generalize sumP zDL (vC 0 l)=v at *;generalize zEE zDL (qZ ((run%16:Nat):Int) n)=y at *;generalize (vC 0 l).length=z at *;omega
end Go.Proofs.YtkggcjdlpendfaaGreatDoor
namespace Go.Proofs.YtkggcjdlpendfaaGreatDoor.BM
open Tryz
def pre (l:List Nat) (a:Nat):Nat:=(l.take a).sum
def zCp (x:Nat) (l:List Nat) (k:Nat):pre (x::l) (k+1)=x+pre l k:=by simp[pre]
def pre_all (l:List Nat):pre l l.length=l.sum:=by simp[pre]
def zQm (l:List Nat) {a b:Nat} (h:a≤b):pre l a≤pre l b:=by
 induction l generalizing a b with
 | nil=>simp[pre]
 | cons x l ih =>
   cases a with
   | zero=>simp[pre]
   | succ a=>cases b with
     | zero=>omega
     | succ b=>rw[zCp,zCp];have:=ih (a:=a) (b:=b) (by omega);omega
def zLJ:∀(k:Nat) (x:Nat) (l:List Nat),(x::l).Pairwise (· ≤ ·)→k≤l.length→pre (x::l) k≤pre l k
 | 0,x,l,_,_=>by simp[pre]
 | k+1,x,[],_,h=>by simp at h
 | k+1,x,y::l,h,hk=>by
   rw[zCp,zCp];rw[List.pairwise_cons] at h;have h1:=h.1 y (by simp);have h2:=zLJ k y l h.2 (by simpa using hk);omega
def pre_sub {l:List Nat} (h:l.Pairwise (· ≤ ·)) {s:List Nat} (hs:s.Sublist l):pre l s.length≤s.sum:=by
 induction hs with
 | slnil=>simp[pre]
 | cons x hs ih =>
   have h2:=(List.pairwise_cons.1 h).2;have:=zLJ _ x _ h hs.length_le;exact Nat.le_trans this (ih h2)
 | cons_cons x hs ih =>
   have h2:=(List.pairwise_cons.1 h).2;have:=ih h2;simp only[List.length_cons,List.sum_cons,zCp];omega
def zRk {l p q:List Nat} (h:l.Pairwise (· ≤ ·)) (hp:l.Perm (p++q)):pre l p.length≤p.sum:=by
 obtain⟨p',h1,h2⟩:=List.exists_perm_sublist (List.sublist_append_left p q) hp.symm;have:=pre_sub h h2
 rwa [h1.length_eq,h1.sum_nat] at this
def zCR:List Nat→List Nat
 | x::y::r=>(x+y)::zCR r
 | _=>[]
def zGU:∀l:List Nat,(zCR l).length=l.length/2
 | []=>rfl
 | [_]=>(by simp[zCR])
 | x::y::r=>by simp[zCR,zGU r];omega
def zOw:∀(l:List Nat) (b:Nat),2*b≤l.length→pre (zCR l) b=pre l (2*b)
 | _,0,_=>by simp[pre]
 | [],b+1,h=>by simp at h
 | [_],b+1,h=>by simp at h;omega
 | x::y::r,b+1,h=>by
   have:=zOw r b (by simp at h;omega);rw[zCR,zCp,this,show 2*(b+1)=2*b+1+1 by omega,zCp,zCp];omega
structure Rows (ws:List Nat) (R:Nat→List Nat):Prop where
 zero:R 0=ws
 sorted:∀f,(R f).Pairwise (· ≤ ·)
 next:∀f,(R (f+1)).Perm (zCR (R f)++ws)
section
variable {ws:List Nat} {R:Nat→List Nat}
def Rows.len (h:Rows ws R) (f:Nat):(R (f+1)).length=(R f).length/2+ws.length:=by rw[(h.next f).length_eq,List.length_append,zGU]
def Rows.merge (h:Rows ws R) (f a b:Nat) (ha:a≤ws.length) (hb:2*b≤(R f).length):pre (R (f+1)) (a+b)≤pre ws a+pre (R f) (2*b):=by
 have hb':b≤(zCR (R f)).length:=by rw[zGU];omega
 have hp:(R (f+1)).Perm (((zCR (R f)).take b++ws.take a)++((zCR (R f)).drop b++ws.drop a)):=by
  refine (h.next f).trans ?_
  have e1:zCR (R f)++ws=(zCR (R f)).take b++((zCR (R f)).drop b++(ws.take a++ws.drop a)):=by
   rw[←List.append_assoc,List.take_append_drop,List.take_append_drop]
  rw[e1,List.append_assoc];refine List.Perm.append_left _ ?_;rw[←List.append_assoc, ←List.append_assoc];exact List.Perm.append_right _ List.perm_append_comm
 have:=zRk (h.sorted (f+1)) hp;rw[List.length_append,List.length_take,List.length_take,List.sum_append] at this;rw[←zOw _ _ hb];simp only[pre] at this ⊢;rw[Nat.min_eq_left ha,Nat.min_eq_left hb',Nat.add_comm] at this;omega
end
def zFa (far:Nat) (g:Nat→Nat):Nat→Nat
 | 0=>min far (g 0)
 | m+1=>min (zFa far g m) (g (m+1))
def zRI (far:Nat) (g:Nat→Nat):∀(m c:Nat),c≤m→zFa far g m≤g c
 | 0,c,h=>by
   obtain rfl:c=0:=by omega
   exact Nat.min_le_right _ _
 | m+1,c,h=>by
   unfold zFa
   by_cases hc:c=m+1
   ·subst hc;exact Nat.min_le_right _ _
   exact Nat.le_trans (Nat.min_le_left _ _) (zRI far g m c (by omega))
def zME (far:Nat) (g:Nat→Nat):∀m,zFa far g m<far→∃c,c≤m∧zFa far g m=g c
 | 0,h=>by
   unfold zFa at h ⊢;exact⟨0,by omega,by omega⟩
 | m+1,h=>by
   unfold zFa at h ⊢
   by_cases hc:g (m+1)≤zFa far g m
   ·exact⟨m+1,by omega,by omega⟩
   obtain⟨c,h1,h2⟩:=zME far g m (by omega);exact⟨c,by omega,by omega⟩
def D (W:Nat→Nat) (far:Nat):Nat→Nat→Nat→Nat
 | 0,left,m=>if left≤m then 0 else far
 | f+1,left,m=>if left≤m then 0 else zFa far (λc=>W (left-c)+D W far f (left-c) (min (2*(m-c)) (left-c))) m
def D_fit (W:Nat→Nat) (far f left m:Nat) (h:left≤m):D W far f left m=0:=by cases f<;>simp[D,h]
section
variable {ws:List Nat} {R:Nat→List Nat}
def D_low (h:Rows ws R) (far:Nat):∀(f left m:Nat),left≤ws.length→m<left→D (pre ws) far (f+1) left m<far →
 2*(left-m)≤(R f).length∧pre (R f) (2*(left-m))≤D (pre ws) far (f+1) left m
 | 0,left,m,hl,hm,hf=>by
   have hf0:=hf;rw[D,if_neg (by omega)] at hf ⊢;obtain⟨c,hc,e⟩:=zME _ _ _ hf;rw[e] at hf ⊢;rw[h.zero]
   by_cases hfit:left-c≤min (2*(m-c)) (left-c)
   ·rw[D,if_pos hfit] at hf ⊢;refine⟨by omega, ?_⟩;have:=zQm ws (a:=2*(left-m)) (b:=left-c) (by omega);omega
   rw[D,if_neg hfit] at hf;omega
 | f+1,left,m,hl,hm,hf=>by
   rw[D,if_neg (by omega)] at hf ⊢;obtain⟨c,hc,e⟩:=zME _ _ _ hf;rw[e] at hf ⊢
   by_cases hfit:left-c≤min (2*(m-c)) (left-c)
   ·rw[D_fit _ _ _ _ _ hfit] at hf ⊢;have hk:2*(left-m)≤left-c:=by omega
    have h1:pre (R (f+1)) (2*(left-m))≤pre ws (2*(left-m))+pre (R f) (2*0):=h.merge f (2*(left-m)) 0 (by omega) (by omega);have e0:pre (R f) (2*0)=0:=rfl;have h2:=zQm ws (a:=2*(left-m)) (b:=left-c) hk;exact⟨by rw[h.len];omega,by omega⟩
   have hm':min (2*(m-c)) (left-c)=2*(m-c):=by omega
   rw[hm'] at hf ⊢ hfit;obtain⟨h1,h2⟩:=D_low h far f (left-c) (2*(m-c)) (by omega) (by omega) (by omega);have h3:=h.merge f (left-c) (left-c-2*(m-c)) (by omega) h1;rw[show left-c+(left-c-2*(m-c))=2*(left-m) by omega] at h3;exact⟨by rw[h.len];omega,by omega⟩
def low (h:Rows ws R) (far f:Nat) (hn:2≤ws.length) (hf:D (pre ws) far (f+1) ws.length 2<far) :
 pre (R (f+1)) (2*ws.length-2)≤pre ws ws.length+D (pre ws) far (f+1) ws.length 2:=by
 by_cases h2:ws.length=2
 ·have h1:=h.merge f 2 0 (by omega) (by omega);have e0:pre (R f) (2*0)=0:=rfl;rw[h2];rw[show 2*2-2=2+0 by rfl];omega
 obtain⟨h1,h3⟩:=D_low h far f ws.length 2 (by omega) (by omega) hf;have h4:=h.merge f ws.length (ws.length-2) (by omega) h1;rw[show ws.length+(ws.length-2)=2*ws.length-2 by omega] at h4;omega
end
def zBK (f:Nat) (X:List (Nat×Nat)):Nat:=(X.map λx=>2 ^ (f-x.2)).sum
def cost (X:List (Nat×Nat)):Nat:=(X.map λx=>x.1*x.2).sum
def wsum (X:List (Nat×Nat)):Nat:=(X.map (·.1)).sum
def deeper (X:List (Nat×Nat)):List (Nat×Nat):=(X.filter λx=>decide (0<x.2)).map λx=>(x.1,x.2-1)
def zMM (X:List (Nat×Nat)):(deeper X).length≤X.length:=by rw[deeper,List.length_map];exact List.length_filter_le _ _
def zGs:∀X:List (Nat×Nat),cost X=wsum (deeper X)+cost (deeper X)
 | []=>rfl
 | (w,0)::X=>by
   have:=zGs X;simp only[cost,wsum,deeper,List.map_cons,List.sum_cons] at this ⊢;rw[List.filter_cons_of_neg (by simp)];omega
 | (w,e+1)::X=>by
   have:=zGs X;simp only[cost,wsum,deeper,List.map_cons,List.sum_cons] at this ⊢;rw[List.filter_cons_of_pos (by simp)];simp only[List.map_cons,List.sum_cons,Nat.add_sub_cancel];have e2:w*(e+1)=w+w*e:=by rw[Nat.mul_succ];omega
   omega
def zGD (f:Nat):∀X:List (Nat×Nat),(∀x∈X,x.2≤f+1)→zBK (f+1) X=(X.length-(deeper X).length)*2 ^ (f+1)+zBK f (deeper X)
 | [],_=>by simp[zBK,deeper]
 | (w,0)::X,h=>by
   have ih:=zGD f X (λx hx=>h x (by simp[hx]));have hl:=zMM X;simp only[zBK,deeper,List.map_cons,List.sum_cons] at ih ⊢;rw[List.filter_cons_of_neg (by simp),ih,List.length_cons];simp only[deeper] at hl;rw[show X.length+1-_=(X.length-(List.map (λx:Nat×Nat=>(x.1,x.2-1)) (List.filter (λx=>decide (0<x.2)) X)).length)+1 by omega,Nat.add_mul];simp;omega
 | (w,e+1)::X,h=>by
   have ih:=zGD f X (λx hx=>h x (by simp[hx]));simp only[zBK,deeper,List.map_cons,List.sum_cons] at ih ⊢;rw[List.filter_cons_of_pos (by simp),ih];simp only[List.map_cons,List.sum_cons,List.length_cons,Nat.add_sub_add_right,Nat.add_sub_cancel];omega
def kraft_le (f:Nat) (X:List (Nat×Nat)):zBK f X≤X.length*2 ^ f:=by
 induction X with
 | nil=>simp[zBK]
 | cons x X ih =>
   simp only[zBK,List.map_cons,List.sum_cons,List.length_cons,Nat.add_mul] at ih ⊢;have:=Nat.pow_le_pow_right (show 0<2 by omega) (show f-x.2≤f by omega);omega
def Part (ws:List Nat) (X:List (Nat×Nat)):Prop:=∃q,ws.Perm (X.map (·.1)++q)
def Part.deeper {ws:List Nat} {X:List (Nat×Nat)} (h:Part ws X):Part ws (deeper X):=by obtain⟨q,hq⟩:=h;refine⟨(X.filter λx=> !decide (0<x.2)).map (·.1)++q,hq.trans ?_⟩;rw[←List.append_assoc];refine List.Perm.append_right _ ?_;have h1:=(List.filter_append_perm (λx:Nat×Nat=>decide (0<x.2)) X).symm.map (·.1);rw[List.map_append] at h1;simpa [BM.deeper,List.map_map,Function.comp_def] using h1
def Part.pre {ws:List Nat} {X:List (Nat×Nat)} (hs:ws.Pairwise (· ≤ ·)) (h:Part ws X):pre ws X.length≤wsum X:=by
 obtain⟨q,hq⟩:=h;have:=zRk hs hq
 rwa [List.length_map] at this
def D_high {ws:List Nat} (hs:ws.Pairwise (· ≤ ·)) (far:Nat):∀(f:Nat) (X:List (Nat×Nat)) (m:Nat),Part ws X→(∀x∈X,x.2≤f)→zBK f X≤m*2 ^ f→D (BM.pre ws) far f X.length m≤cost X
 | 0,X,m,_,_,hk=>by
   have:zBK 0 X=X.length:=by
    clear hk
    induction X with
    | nil=>rfl
    | cons x X ih =>
      have ih:=ih (by obtain⟨q,hq⟩:= ‹Part ws (x::X)›;exact⟨x.1::q,hq.trans (by simpa using List.perm_middle.symm)⟩) (λy hy=> ‹∀y∈x::X,y.2≤0› y (by simp[hy]));simp only[zBK,List.map_cons,List.sum_cons,List.length_cons] at ih ⊢;rw[ih];simp;omega
   rw[this] at hk;rw[D_fit _ _ _ _ _ (by omega)];omega
 | f+1,X,m,hp,he,hk=>by
   rw[D]
   by_cases hfit:X.length≤m
   ·rw[if_pos hfit];omega
   rw[if_neg hfit];have hl:=zMM X;have h1:=zGD f X he;have h2:=kraft_le f (deeper X);rw[h1] at hk;have hpos:0<2 ^ f:=Nat.pos_of_ne_zero (by simp);have e2:2 ^ (f+1)=2*2 ^ f:=by rw[Nat.pow_succ];omega
   obtain⟨c,hc⟩:∃c,X.length-(deeper X).length=c:=⟨_,rfl⟩
   rw[hc] at hk h1
   have hcm:c≤m:=by
    refine Nat.le_of_mul_le_mul_right (Nat.le_trans (Nat.le_add_right _ _) hk) (Nat.pos_of_ne_zero (by simp))
   have hkr:zBK f (deeper X)≤(2*(m-c))*2 ^ f:=by
    have e3:m*2 ^ (f+1)=c*2 ^ (f+1)+(m-c)*2 ^ (f+1):=by rw[←Nat.add_mul];congr 1;omega
    rw[e3] at hk;have e4:(m-c)*2 ^ (f+1)=2*(m-c)*2 ^ f:=by rw[e2,Nat.mul_comm 2 (m-c),Nat.mul_assoc]
    omega
   have hlen:X.length-c=(deeper X).length:=by omega
   have hm':zBK f (deeper X)≤min (2*(m-c)) (deeper X).length*2 ^ f:=by
    rcases Nat.le_total (2*(m-c)) (deeper X).length with h | h
    ·rw[Nat.min_eq_left h];exact hkr
    rw[Nat.min_eq_right h];exact h2
   have ih:=D_high hs far f (deeper X) _ hp.deeper (λx hx=>by
    rw[deeper] at hx;obtain⟨y,hy,rfl⟩:=List.mem_map.1 hx;have:=he y ((List.mem_filter.1 hy).1);show y.2-1≤f
    omega) hm'
   have h3:=zRI far (λc=>BM.pre ws (X.length-c)+D (BM.pre ws) far f (X.length-c) (min (2*(m-c)) (X.length-c))) m c hcm;simp only[hlen] at h3;have h4:=hp.deeper.pre hs;have h5:=zGs X;omega
end Go.Proofs.YtkggcjdlpendfaaGreatDoor.BM
namespace Go.Proofs.YtkggcjdlpendfaaGreatDoor.BM
open Tryz
abbrev Pack:=Nat×List Int
def pairP:List Pack→List Pack
 | x::y::r=>(x.1+y.1,x.2++y.2)::pairP r
 | _=>[]
def prs:List Pack→List (Pack×Pack)
 | x::y::r=>(x,y)::prs r
 | _=>[]
def comb (p:Pack×Pack):Pack:=(p.1.1+p.2.1,p.1.2++p.2.2)
def zBj (Z:List (Pack×Pack)):List Pack:=Z.flatMap λp=>[p.1,p.2]
def zPd:∀L,pairP L=(prs L).map comb
 | []=>rfl
 | [_]=>rfl
 | x::y::r=>by simp[pairP,prs,comb,zPd r]
def zSD:∀L:List Pack,∃r,L=zBj (prs L)++r
 | []=>⟨[],rfl⟩
 | [x]=>⟨[x],rfl⟩
 | x::y::r=>by
   obtain⟨q,h⟩:=zSD r;exact⟨q,by simp only[prs,zBj,List.flatMap_cons,List.cons_append,List.nil_append] at h ⊢;rw[←h]⟩
def zFD:∀L:List Pack,(pairP L).map (·.1)=zCR (L.map (·.1))
 | []=>rfl
 | [_]=>rfl
 | x::y::r=>by simp[pairP,zCR,zFD r]
def perm_lift {α β:Type} (f:α→β) {l' m:List β} (h:l'.Perm m):∀l:List α,m=l.map f→∃l'':List α,l''.Perm l∧l''.map f=l':=by
 induction h with
 | nil =>
   intro l hl;have:l=[]:=by cases l with | nil=>rfl | cons a b=>simp at hl
   subst this;exact⟨[],.nil,rfl⟩
 | cons x _ ih =>
   intro l hl
   cases l with
   | nil=>simp at hl
   | cons a l =>
     simp only[List.map_cons,List.cons.injEq] at hl;obtain⟨l'',h1,h2⟩:=ih l hl.2;exact⟨a::l'',h1.cons a,by simp[h2,hl.1]⟩
 | swap x y l0 =>
   intro l hl
   match l,hl with
   | a::b::l,hl =>
     simp only[List.map_cons,List.cons.injEq] at hl;exact⟨b::a::l,.swap _ _ _,by simp[hl.1,hl.2.1,hl.2.2]⟩
 | trans _ _ ih1 ih2 =>
   intro l hl;obtain⟨l2,h1,h2⟩:=ih2 l hl;obtain⟨l3,h3,h4⟩:=ih1 l2 h2.symm;exact⟨l3,h3.trans h1,h4⟩
def zHh {α:Type}:∀(T U A B:List α),(T++U).Perm (A++B)→∃T1 T2 A' B',T.Perm (T1++T2)∧A.Perm (T1++A')∧B.Perm (T2++B')
 | [],U,A,B,_=>⟨[],[],A,B,.nil,.refl _,.refl _⟩
 | x::T,U,A,B,h=>by
   have hx:x∈A++B:=h.subset (by simp);rcases List.mem_append.1 hx with hA | hB
   ·obtain⟨s,t,rfl⟩:=List.append_of_mem hA
    have h1:(x::(T++U)).Perm (x::((s++t)++B)):=by
     refine (show (x::T++U).Perm _ from h).trans ?_;rw[List.append_assoc,List.append_assoc];exact List.perm_middle
    obtain⟨T1,T2,A',B',p1,p2,p3⟩:=zHh T U (s++t) B (List.Perm.cons_inv h1);exact⟨x::T1,T2,A',B',p1.cons x,List.perm_middle.trans (p2.cons x),p3⟩
   obtain⟨s,t,rfl⟩:=List.append_of_mem hB
   have h1:(x::(T++U)).Perm (x::(A++(s++t))):=by
    refine (show (x::T++U).Perm _ from h).trans ?_;rw[←List.append_assoc, ←List.append_assoc];exact List.perm_middle
   obtain⟨T1,T2,A',B',p1,p2,p3⟩:=zHh T U A (s++t) (List.Perm.cons_inv h1);exact⟨T1,x::T2,A',B',(p1.cons x).trans List.perm_middle.symm,p2,List.perm_middle.trans (p3.cons x)⟩
def cont (T:List Pack):List Int:=T.flatMap (·.2)
def cont_perm {T U:List Pack} (h:T.Perm U):(cont T).Perm (cont U):=h.flatMap_right _
def zLB (T U:List Pack):cont (T++U)=cont T++cont U:=by simp[cont]
def zMd:∀Z:List (Pack×Pack),cont (zBj Z)=cont (Z.map comb)
 | []=>rfl
 | p::Z=>by
   have:=zMd Z;simp only[cont,zBj,List.flatMap_cons,List.map_cons,comb,List.cons_append,List.nil_append,List.append_assoc] at this ⊢;rw[this]
def pair_part {L T A:List Pack} (h:(pairP L).Perm (T++A)):∃V W,L.Perm (V++W)∧V.length=2*T.length∧cont V=cont T:=by
 rw[zPd] at h;obtain⟨Z,hz,e⟩:=perm_lift comb h.symm (prs L) rfl;obtain⟨Z1,Z2,rfl,e1,e2⟩:=List.map_eq_append_iff.1 e;obtain⟨r,hr⟩:=zSD L
 have hf:(zBj (prs L)).Perm (zBj Z1++zBj Z2):=by
  have:(zBj (Z1++Z2)).Perm (zBj (prs L)):=hz.flatMap_right _;rw[show zBj (Z1++Z2)=zBj Z1++zBj Z2 by simp[zBj]] at this;exact this.symm
 refine⟨zBj Z1,zBj Z2++r, ?_, ?_,by rw[zMd,e1]⟩
 ·rw[hr];refine (hf.append_right r).trans ?_;rw[List.append_assoc]
 rw[←e1,List.length_map];clear hf e e1 hz
 induction Z1 with
 | nil=>rfl
 | cons p Z ih=>simp only[zBj,List.flatMap_cons,List.length_append,List.length_cons,List.length_nil] at ih ⊢;omega
structure PRows (S:List Pack) (P:Nat→List Pack):Prop where
 zero:P 0=S
 next:∀f,(P (f+1)).Perm (pairP (P f)++S)
def xB:List (List Int)→Nat
 | []=>0
 | S::r=>S.length*2 ^ r.length+xB r
def zEb (wt:Int→Nat) (s:Int):Pack:=(wt s,[s])
def zJo (wt:Int→Nat):∀Z:List Int,cont (Z.map (zEb wt))=Z
 | []=>rfl
 | s::Z=>by have:=zJo wt Z;simp only[cont,List.map_cons,List.flatMap_cons,zEb] at this ⊢;rw[this];rfl
def zPu {wt:Int→Nat} {syms:List Int} {T U S:List Pack} (hS:S.Perm (syms.map (zEb wt))) (h:S.Perm (T++U)):∃Z r,syms.Perm (Z++r)∧T=Z.map (zEb wt):=by obtain⟨Z,hz,e⟩:=perm_lift (zEb wt) (h.symm.trans hS) syms rfl;obtain⟨Z1,Z2,rfl,e1,e2⟩:=List.map_eq_append_iff.1 e;exact⟨Z1,Z2,hz.symm,e1.symm⟩
def levels {wt:Int→Nat} {syms:List Int} {S:List Pack} {P:Nat→List Pack} (hS:S.Perm (syms.map (zEb wt))) (h:PRows S P):∀(f:Nat) (T U:List Pack),(P f).Perm (T++U) →
 ∃Ss:List (List Int),Ss.length=f+1∧(cont T).Perm Ss.flatten∧(∀Z∈Ss,∃r,syms.Perm (Z++r))∧xB Ss=T.length*2 ^ f
 | 0,T,U,hp=>by
   rw[h.zero] at hp;obtain⟨Z,r,hz,rfl⟩:=zPu hS hp;refine⟨[Z],rfl,by rw[zJo];simp,λY hY=>by simp at hY;subst hY;exact⟨r,hz⟩,by simp[xB]⟩
 | f+1,T,U,hp=>by
   obtain⟨T1,T2,A',B',p1,p2,p3⟩:=zHh T U _ _ (hp.symm.trans (h.next f));obtain⟨V,W,hv,hl,hc⟩:=pair_part p2;obtain⟨Ss,k1,k2,k3,k4⟩:=levels hS h f V W hv;obtain⟨Z,r,hz,rfl⟩:=zPu hS p3;refine⟨Z::Ss,by simp[k1], ?_, ?_, ?_⟩
   ·have:=cont_perm p1;rw[zLB,zJo, ←hc] at this;refine this.trans (List.perm_append_comm.trans ?_);rw[List.flatten_cons];exact k2.append_left Z
   ·intro Y hY;rcases List.mem_cons.1 hY with rfl | hY
    ·exact⟨r,hz⟩
    exact k3 Y hY
   have hT:=p1.length_eq;rw[List.length_append,List.length_map] at hT;rw[xB,k1,k4,hl,hT,Nat.pow_succ];rw[show 2*T1.length*2 ^ f=T1.length*(2 ^ f*2) by rw[Nat.mul_comm 2 T1.length,Nat.mul_assoc,Nat.mul_comm 2]];rw[Nat.add_mul];omega
def qT:List (List Int)→Int→Nat
 | [],_=>0
 | S::r,s=>(if s∈S then 1 else 0)+qT r s
def zNh:∀(Ss:List (List Int)) (s:Int),qT Ss s≤Ss.length
 | [],_=>Nat.le_refl _
 | S::r,s=>by
   have:=zNh r s;rw[qT,List.length_cons];split<;>omega
def zMo {syms Z r:List Int} (hn:syms.Nodup) (h:syms.Perm (Z++r)):Z.Nodup∧(∀s∈Z,s∈syms):=by have:=h.nodup_iff.1 hn;exact⟨(List.nodup_append.1 this).1,λs hs=>h.symm.subset (by simp[hs])⟩
def zJi {syms:List Int} (hn:syms.Nodup):∀(Ss:List (List Int)),(∀Z∈Ss,∃r,syms.Perm (Z++r))→∀s,Ss.flatten.count s=qT Ss s
 | [],_,s=>rfl
 | Z::r,h,s=>by
   obtain⟨q,hq⟩:=h Z (by simp);have hz:=(zMo hn hq).1;rw[List.flatten_cons,List.count_append,zJi hn r (λY hY=>h Y (by simp[hY])) s,qT]
   by_cases hs:s∈Z
   ·have h1:=List.nodup_iff_count.1 hz s;have h2:=List.count_pos_iff.2 hs;rw[if_pos hs];omega
   rw[if_neg hs,List.count_eq_zero_of_not_mem hs]
def yC (l:List Int) (g:Int→Nat):Nat:=(l.map g).sum
def zNV {a b:List Int} (h:a.Perm b) (g:Int→Nat):yC a g=yC b g:=(h.map g).sum_nat
def zBt (a b:List Int) (g:Int→Nat):yC (a++b) g=yC a g+yC b g:=by simp[yC]
def zIH {l:List Int} {g k:Int→Nat} (h:∀s∈l,g s≤k s):yC l g≤yC l k:=by
 induction l with
 | nil=>exact Nat.le_refl _
 | cons x l ih =>
   have h1:=h x (by simp);have h2:=ih (λs hs=>h s (by simp[hs]));simp only[yC,List.map_cons,List.sum_cons] at h2 ⊢;omega
def zCu {l:List Int} {g k:Int→Nat} (h:∀s∈l,g s=k s):yC l g=yC l k:=by have:l.map g=l.map k:=List.map_congr_left h;simp[yC,this]
def zGN (l:List Int) (g k:Int→Nat):yC l (λs=>g s+k s)=yC l g+yC l k:=by
 induction l with
 | nil=>rfl
 | cons x l ih=>simp only[yC,List.map_cons,List.sum_cons] at ih ⊢;omega
def zAY (l:List Int) (c:Nat):yC l (λ_=>c)=l.length*c:=by
 induction l with
 | nil=>simp[yC]
 | cons x l ih=>simp only[yC,List.map_cons,List.sum_cons,List.length_cons,Nat.add_mul] at ih ⊢;omega
def zIi {syms:List Int} (hn:syms.Nodup):∀(Ss:List (List Int)),(∀Z∈Ss,∃r,syms.Perm (Z++r))→xB Ss+yC syms (λs=>2 ^ (Ss.length-qT Ss s))≤syms.length*2 ^ Ss.length
 | [],_=>by
   have:yC syms (λs=>2 ^ (([]:List (List Int)).length-qT [] s))=yC syms (λ_=>1):=zCu (λs _=>by simp[qT]);rw[this,zAY];simp[xB]
 | Z::r,h=>by
   have ih:=zIi hn r (λY hY=>h Y (by simp[hY]));obtain⟨q,hq⟩:=h Z (by simp);have hnq:=hq.nodup_iff.1 hn;obtain⟨-,-,hd⟩:=List.nodup_append.1 hnq;rw[zNV hq,zBt] at ih ⊢;have hl:=hq.length_eq;rw[List.length_append] at hl
   have h1:yC Z (λs=>2 ^ ((Z::r).length-qT (Z::r) s))=yC Z (λs=>2 ^ (r.length-qT r s)):=zCu (λs hs=>by
    rw[qT,if_pos hs,List.length_cons];congr 1
    omega)
   have h2:yC q (λs=>2 ^ ((Z::r).length-qT (Z::r) s))≤yC q (λs=>2 ^ (r.length-qT r s))+q.length*2 ^ r.length:=by
    rw[←zAY, ←zGN];refine zIH (λs hs=> ?_);have hns:s∉Z:=λhz=>hd s hz s hs rfl
    rw[qT,if_neg hns,List.length_cons,Nat.zero_add];have hc:=zNh r s;rw[show r.length+1-qT r s=(r.length-qT r s)+1 by omega,Nat.pow_succ];have:=Nat.pow_le_pow_right (show 0<2 by omega) (show r.length-qT r s≤r.length by omega);omega
   have hw:xB (Z::r)=Z.length*2 ^ r.length+xB r:=rfl;have hp:2 ^ (Z::r).length=2 ^ r.length*2:=by rw[List.length_cons,Nat.pow_succ]
   rw[hw,hp,hl,h1];rw[hl] at ih
   have e:(Z.length+q.length)*(2 ^ r.length*2)=(Z.length+q.length)*2 ^ r.length+(Z.length*2 ^ r.length+q.length*2 ^ r.length):=by
    rw[←Nat.mul_assoc,Nat.mul_comm _ 2, ←Nat.add_mul];omega
   rw[e];omega
def sumOn_one {l:List Int} (hn:l.Nodup) (g:Int→Nat) (x:Int) (hx:x∈l):yC l (λs=>g s*if x=s then 1 else 0)=g x:=by
 induction l with
 | nil=>cases hx
 | cons y l ih =>
   rw[List.nodup_cons] at hn;simp only[yC,List.map_cons,List.sum_cons] at ih ⊢
   by_cases h:x=y
   ·subst h
    have:(l.map λs=>g s*if x=s then 1 else 0)=l.map λ_=>0:=List.map_congr_left (λs hs=>by
     have:x≠s:=λh=>hn.1 (h ▸ hs)
     simp[this])
    rw[this,if_pos rfl];have h0:=zAY l 0;unfold yC at h0;rw[h0];omega
   rw[if_neg h,ih hn.2 (by simpa [h] using hx)];omega
def zGl {syms:List Int} (hn:syms.Nodup) (g:Int→Nat):∀(C:List Int),(∀s∈C,s∈syms)→yC C g=yC syms (λs=>g s*C.count s)
 | [],_=>by
   have:yC syms (λs=>g s*([]:List Int).count s)=yC syms (λ_=>0):=zCu (λs _=>by simp);rw[this,zAY];rfl
 | x::C,h=>by
   have ih:=zGl hn g C (λs hs=>h s (by simp[hs]));have h1:=sumOn_one hn g x (h x (by simp))
   have e:yC syms (λs=>g s*(x::C).count s)=yC syms (λs=>g s*C.count s+g s*if x=s then 1 else 0):=zCu (λs _=>by
    rw[List.count_cons,Nat.mul_add]
    simp only[beq_iff_eq])
   rw[e,zGN,h1, ←ih];simp only[yC,List.map_cons,List.sum_cons];omega
def zMU {wt:Int→Nat}:∀L:List Pack,(∀p∈L,p.1=yC p.2 wt)→∀p∈pairP L,p.1=yC p.2 wt
 | [],_,p,hp=>by simp[pairP] at hp
 | [_],_,p,hp=>by simp[pairP] at hp
 | x::y::r,h,p,hp=>by
   rw[pairP] at hp;rcases List.mem_cons.1 hp with rfl | hp
   ·rw[zBt, ←h x (by simp), ←h y (by simp)]
   exact zMU r (λq hq=>h q (by simp[hq])) p hp
def zPw {wt:Int→Nat} {syms:List Int} {S:List Pack} {P:Nat→List Pack} (hS:S.Perm (syms.map (zEb wt))) (h:PRows S P):∀f,∀p∈P f,p.1=yC p.2 wt
 | 0,p,hp=>by
   rw[h.zero] at hp;obtain⟨s,-,rfl⟩:=List.mem_map.1 (hS.subset hp);simp[zEb,yC]
 | f+1,p,hp=>by
   rcases List.mem_append.1 ((h.next f).subset hp) with hp | hp
   ·exact zMU _ (zPw hS h f) p hp
   obtain⟨s,-,rfl⟩:=List.mem_map.1 (hS.subset hp);simp[zEb,yC]
def zKk {wt:Int→Nat}:∀T:List Pack,(∀p∈T,p.1=yC p.2 wt)→(T.map (·.1)).sum=yC (cont T) wt
 | [],_=>rfl
 | p::T,h=>by
   have ih:=zKk T (λq hq=>h q (by simp[hq]));have e:cont (p::T)=p.2++cont T:=rfl;rw[List.map_cons,List.sum_cons,ih,e,zBt, ←h p (by simp)]
def packages {wt:Int→Nat} {syms:List Int} {S:List Pack} {P:Nat→List Pack} (hn:syms.Nodup) (h2:2≤syms.length) (hS:S.Perm (syms.map (zEb wt))) (h:PRows S P)
 (hs:∀f,((P f).map (·.1)).Pairwise (· ≤ ·)) (hlen:2*syms.length-2≤(P 15).length) (far:Nat) :
 let C:=cont ((P 15).take (2*syms.length-2))
 let F:=pre ((P 15).map (·.1)) (2*syms.length-2)
 (∀s∈C,s∈syms)∧(∀s∈syms,1≤C.count s∧C.count s≤16)∧yC syms (λs=>2 ^ (16-C.count s))≤2 ^ 16∧yC syms (λs=>wt s*C.count s)=F ∧
 (F<far→pre (S.map (·.1)) syms.length+D (pre (S.map (·.1))) far 15 syms.length 2=F):=by
 intro C F;have hT:(P 15).Perm ((P 15).take (2*syms.length-2)++(P 15).drop (2*syms.length-2)):=by rw[List.take_append_drop]
 obtain⟨Ss,k1,k2,k3,k4⟩:=levels hS h 15 _ _ hT;have hTl:((P 15).take (2*syms.length-2)).length=2*syms.length-2:=by rw[List.length_take];omega
 rw[hTl] at k4;have hcount:∀s,C.count s=qT Ss s:=λs=>by rw[k2.count_eq s,zJi hn Ss k3 s]
 have hCs:∀s∈C,s∈syms:=λs hs=>by
  obtain⟨Z,hZ,hsZ⟩:=List.mem_flatten.1 (k2.subset hs);obtain⟨r,hr⟩:=k3 Z hZ;exact (zMo hn hr).2 s hsZ
 have hk:yC syms (λs=>2 ^ (16-C.count s))≤2 ^ 16:=by
  have:=zIi hn Ss k3;rw[k4,k1] at this;have e:yC syms (λs=>2 ^ (15+1-qT Ss s))=yC syms (λs=>2 ^ (16-C.count s)):=zCu (λs _=>by rw[hcount]);rw[e] at this
  have e2:syms.length*2 ^ (15+1)=(2*syms.length-2)*2 ^ 15+2 ^ 16:=by
   have:2*syms.length=(2*syms.length-2)+2:=by omega
   rw[show syms.length*2 ^ (15+1)=(2*syms.length)*2 ^ 15 by rw[Nat.pow_succ];omega,this,Nat.add_mul];simp
  omega
 have hle:∀s,C.count s≤16:=λs=>by rw[hcount];have:=zNh Ss s;omega
 have hone:∀s∈syms,1≤C.count s:=λs hs=>by
  rcases Nat.eq_zero_or_pos (C.count s) with h0 | h0
  ·exfalso
   obtain⟨a,b,rfl⟩:=List.append_of_mem hs;have hl:1≤(a++b).length:=by simp at h2 ⊢;omega
   rw[zNV (List.perm_middle:(a++s::b).Perm (s::(a++b)))] at hk;have e:yC (s::(a++b)) (λs=>2 ^ (16-C.count s))=2 ^ (16-C.count s)+yC (a++b) (λs=>2 ^ (16-C.count s)):=rfl;have hp:yC (a++b) (λ_=>1)≤yC (a++b) (λs=>2 ^ (16-C.count s)):=zIH (λ_ _=>Nat.pos_of_ne_zero (by simp));rw[zAY] at hp;rw[e,h0] at hk;omega
  exact h0
 have hF:yC syms (λs=>wt s*C.count s)=F:=by
  rw[←zGl hn wt C hCs, ←zKk _ (λp hp=>zPw hS h 15 p (List.mem_of_mem_take hp))];show _=((((P 15).map (·.1)).take (2*syms.length-2))).sum
  rw[List.map_take]
 refine⟨hCs,λs hs=>⟨hone s hs,hle s⟩,hk,hF,λhfar=> ?_⟩;have hws:(S.map (·.1)).length=syms.length:=by rw[List.length_map,hS.length_eq,List.length_map]
 have hR:Rows (S.map (·.1)) (λf=>(P f).map (·.1)):=⟨by rw[h.zero],hs,λf=>by
  have:=(h.next f).map (·.1);rw[List.map_append,zFD] at this
  exact this⟩
 -- the table's road of the packages' own lengths
 have hsor:(S.map (·.1)).Pairwise (· ≤ ·):=by have:=hs 0;rwa [h.zero] at this
 let X:List (Nat×Nat):=syms.map λs=>(wt s,C.count s-1)
 have hXp:Part (S.map (·.1)) X:=⟨[],by
  rw[List.append_nil];have:=hS.map (·.1);rw[List.map_map] at this;rw[List.map_map]
  exact this⟩
 have hX1:∀x∈X,x.2≤15:=λx hx=>by
  obtain⟨s,hs,rfl⟩:=List.mem_map.1 hx;have:=hle s;show C.count s-1≤15
  omega
 have hXk:zBK 15 X≤2*2 ^ 15:=by
  have e:zBK 15 X=yC syms (λs=>2 ^ (16-C.count s)):=by
   unfold zBK;rw[List.map_map]
   have:syms.map ((λx:Nat×Nat=>2 ^ (15-x.2)) ∘ λs=>(wt s,C.count s-1))=syms.map λs=>2 ^ (16-C.count s):=List.map_congr_left (λs hs=>by
    have:=hone s hs;show 2 ^ (15-(C.count s-1))=_
    congr 1
    omega)
   rw[this];rfl
  rw[e];exact hk
 have hXl:X.length=syms.length:=List.length_map _;have hi:=D_high hsor far 15 X 2 hXp hX1 hXk;rw[hXl] at hi
 have hcost:pre (S.map (·.1)) syms.length+cost X=F:=by
  have e1:pre (S.map (·.1)) syms.length=yC syms wt:=by
   rw[←hws,pre_all,(hS.map (·.1)).sum_nat,List.map_map];rfl
  have e2:cost X=yC syms (λs=>wt s*(C.count s-1)):=by
   unfold cost;rw[List.map_map];rfl
  rw[e1,e2, ←zGN, ←hF];refine zCu (λs hs=> ?_);have:=hone s hs;obtain⟨c,hc⟩:∃c,C.count s=c+1:=⟨C.count s-1,by omega⟩
  rw[hc,Nat.add_sub_cancel,Nat.mul_add];omega
 have hlow:D (pre (S.map (·.1))) far 15 (S.map (·.1)).length 2<far→pre ((P 15).map (·.1)) (2*(S.map (·.1)).length-2)≤pre (S.map (·.1)) (S.map (·.1)).length+D (pre (S.map (·.1))) far 15 (S.map (·.1)).length 2:=λhf=>low hR far 14 (by omega) hf
 rw[hws] at hlow;have hlow2:=hlow (by omega);show pre (S.map (·.1)) syms.length+_=F
 have hF2:F=pre ((P 15).map (·.1)) (2*syms.length-2):=rfl;omega
