import Derived.RangeFuncNested
import Derived.RangeFuncBound
import Derived.RangeFuncCalls
import Derived.RangeFuncLeaves
import Derived.OwnWalkIn
import Derived.TacticsInMore
import Derived.LoopNIn
import Derived.LoopIn
import Derived.Test.YtkggcjdlpendfaaGreatDoorMTopFewestCard21
set_option linter.all false
set_option maxRecDepth 20000
set_option maxHeartbeats 8000000
namespace Go.Proofs.YtkggcjdlpendfaaGreatDoor
open Go.RowKit
def tfrom:Int→Int→Int→Four:=fun y u v=>zAU frM [y,u,v]
def tfrom_by:zGU 115 tfrom:=fun a b c w=>zQK a b c w
def goesFrom:zAp Tryz.prog 115:=⟨_,Tryz.func115,rfl,rfl⟩
def zCD (zs:List Int):List Int:=zs.map fun z=>vF z (-40000) 40000
def zEt (zs:List Int):(zCD zs).length=zs.length:=by simp[zCD]
def shB (b q:List Int):List Int:=zCD (uN frC (vI upF b q 2047).1).1
def shB_len (b q:List Int):(shB b q).length=64:=by rw[shB,zEt];exact zCy frC _
def zAu (q X:List Int):Nat→List Int
 | 0=>[]
 | k+1=>zAu q X k++shB (uC X k) q
def zGu (q X:List Int): ∀ k,(zAu q X k).length=k*64
 | 0=>rfl
 | k+1=>by rw[zAu,wF3,zGu q X k,shB_len];omega
def clampL_in (zs:List Int): ∀ z∈zCD zs, -40000≤z∧z≤40000:=by
 intro z hz;obtain⟨y, -,rfl⟩:=wD6.1 hz;exact zHy y _ _ (by omega)
def mapS_in (q X:List Int): ∀ k, ∀ z∈zAu q X k, -40000≤z∧z≤40000
 | 0,z,hz=>by cases hz
 | k+1,z,hz=>by
   rw[zAu] at hz;rcases wE6.1 hz with h | h
   ·exact mapS_in q X k z h
   ·exact clampL_in _ z h
def sect (X:List Int) (n k:Nat):List Int:=(X.drop (k*n*64)).take (n*64)
def zFY (q X:List Int) (a b k:Nat):List Int:=zJi (zAu q (sect X (qD a b) k) (qD a b)) a b
def zLL (q X:List Int) (a b k:Nat):(zFY q X a b k).length=a*b:=zIc _ _ _
def zBC (q X:List Int) (a b p:Nat):List (List Int):=(List.range p).map (zFY q X a b)
def zRk (q X:List Int) (a b p:Nat):(zBC q X a b p).length=p:=by simp[zBC]
def zPH (q X:List Int) (a b p:Nat): ∀ l∈zBC q X a b p,l.length=a*b:=by
 intro l hl;obtain⟨k, -,rfl⟩:=wD6.1 hl;exact zLL q X a b k
def zDZ (q X:List Int) (a b p:Nat):List (List Int):=zBy tfrom (zBC q X a b p)
def zQl {a b:Nat} (a1:1≤a) (a2:a≤64) (b1:1≤b) (b2:b≤64):xW a b=0:=by
 unfold xW;rw[if_pos];simp[inB];omega
def zTH (q X:List Int) (a b:Nat) (a1:1≤a) (a2:a≤64) (b1:1≤b) (b2:b≤64):zDU (qD a b) (zAu q X (qD a b)) a b (xW a b)=0:=by
 unfold zDU;rw[if_pos (zQl a1 a2 b1 b2)];simp only[wF0];rw[if_pos (yD.2 (mapS_in q X _))];simp
def zGQ {a b:Nat} (a2:a≤64) (b2:b≤64):qD a b≤64:=by
 unfold qD;have h1:(a+7)/8≤8:=by omega
 have h2:(b+7)/8≤8:=by omega
 exact wI6 h1 h2
def cutN_pos {a b:Nat} (a1:1≤a) (b1:1≤b):1≤qD a b:=by
 unfold qD;have h1:1≤(a+7)/8:=by omega
 have h2:1≤(b+7)/8:=by omega
 exact wI6 h1 h2
def PicIs (wd hi:Int) (L:List (List Int)) (w:World) (e:Ending) (w':World):Prop:= ∃ B k d,e=.returned (.agg (xG wd hi (.slice B k d)))∧RowsF w' w.heap.size B k d L∧Ext w w'
def builtPicS (a b:Int):Tryz.prog.built 31 [(0,.int .i64 a),(1,.int .i64 b)]=some (xG a b (.slice none 0 0)):=by
 show _=_
 kernel_rfl
def zLH:Tryz.prog.built 31 []=some (xG 0 0 (.slice none 0 0)):=by
 show _=_
 kernel_rfl
def zHU:(Tryz.prog.info? 31).bind (·.zero)=some (.agg (xG 0 0 (.slice none 0 0))):=by kernel_rfl
def zFE (a b:Int) (A:Option Addr) (n c:Nat):(xG a b (.slice A n c)).all (·.oneCell')=true:=by simp[xG,Value.oneCell']
def elt_rowS:Elt Tryz.prog 29 22 1 24:=⟨Tryz.underlying29,by kernel_rfl,by omega⟩
def join_show (q X:List Int) (a b:Nat) (a1:1≤a) (a2:a≤64) (b1:1≤b) (b2:b≤64) (k:Nat) (v:Value) (W:World) (h:SL W 64 v (qD a b) (ints (zAu q (sect X (qD a b) k) (qD a b)))) :
 Calls Tryz.prog 114 #[v,.int .i64 (a:Int),.int .i64 (b:Int)] W fun e W'=> ∃ D d,e=.returned (.tuple #[.slice D (a*b) d,.int .i64 0])∧SL W' 1 (.slice D (a*b) d) (a*b) (ints (zFY q X a b k))∧Ext W W'∧ ∀ ad,D=some ad→W.heap.size≤ad.block :=
 (join_any _ _ v a b W h (zGu _ _ _)).mono fun e W' h=>by
   unfold zGe at h;rw[zTH q _ a b a1 a2 b1 b2,if_pos rfl,if_pos rfl] at h;simp only[wF0] at h;obtain⟨D,m,d,he,rfl,h1,h2,h3⟩:=h;exact⟨D,d,he,h1,h2,h3⟩
def planes_ok {q X:List Int} {a b p:Nat} (hp:p=1∨p=3):(zBC q X a b p).length=1∨(zBC q X a b p).length=3:=by rw[zRk];exact hp
def area_le {a b:Nat} (a2:a≤64) (b2:b≤64):a*b≤1000000:=wD1 (wI6 a2 b2) (by omega)
def turn_show (q X:List Int) (a b p:Nat) (a2:a≤64) (b2:b≤64) (hp:p=1∨p=3) (W:World) (B:Nat) (hB:B≤W.heap.size) (A:Option Addr) (n c:Nat) (h:PartsAt W B (.slice A n c) (zBC q X a b p)) :
 Calls Tryz.prog 38 #[.slice A n c,.func (.func 115) #[] #[]] W (TurnF (zDZ q X a b p) B W) :=
 zSk 115 tfrom tfrom_by goesFrom A n c _ (a*b) W (planes_ok hp) (zPH q X a b p) (area_le a2 b2) B hB h.far
def SL.sect {w:World} {A:Option Addr} {m c n k lo:Nat} {X:List Int} (h:SL w 64 (.slice A m c) m (ints X)) (hlo:k*n=lo) (hm:lo+n≤m):SL w 64 (.slice (zCL A c lo) n (c-lo)) n (ints (sect X n k)):=by
 have:=h.subK (l:=lo) (h:=lo+n) (by omega) hm;rw[wO6] at this;unfold Go.Proofs.YtkggcjdlpendfaaGreatDoor.sect;rw[hlo];unfold ints at this ⊢
 rwa [←wH2, ←wH1] at this
def sect_len {X:List Int} {m n k lo:Nat} (hX:X.length=m*64) (hlo:k*n=lo) (hm:lo+n≤m):(sect X n k).length=n*64:=by
 unfold sect;rw[wI8,wK1,hX,hlo];have:=wJ0 64 hm;rw[wJ8] at this;omega
def zAo (P:List Int) (i:Nat):List Int:=zCD (P.take i)++P.drop i
def clampM_0 (P:List Int):zAo P 0=P:=by simp[zAo,zCD]
def zSU (P:List Int) (h:P.length=64):zAo P 64=zCD P:=by unfold zAo;rw[wC4 (by omega),wG5 (by omega),wG6]
def zSH (P:List Int) (i:Nat) (h:P.length=64) (hi:i≤64):(zAo P i).length=64:=by
 unfold zAo;rw[wF3,zEt,wI8,wK1];omega
def zSm (P:List Int) (i:Nat) (z:Int) (hz:P[i]? =some z):(zAo P i).set i (vF z (-40000) 40000)=zAo P (i+1):=by
 have hi:i<P.length:=(wC2.1 hz).1;have hzi:P[i]=z:=by rw[wA2 hi] at hz;exact Option.some.inj hz
 unfold zAo;have hl:(zCD (P.take i)).length=i:=by rw[zEt,wI8];omega
 rw[wF8 _ _ (by omega),hl,wF9,wG3 hi,wG1,wC3 hi];simp[zCD,hzi]
def bv_get {xs:List Int} {i:Nat} {z:Int} (h:xs[i]? =some z):(bv xs)[i]? =some (.int .i64 z):=by
 unfold bv ints;rw[wH5,wC0,h];rfl
def zLv {ops:Array Oper} {Q:Exit→Act→World→Prop} {rest:List Oper} {o:Oper} {a:Act} {w:World} (hg:o.guard=none) (x y:Operand) (ho:o.op=.store 29 x y) (g i:Nat) (A:Option Addr) (n c:Nat) (hx:a.eval x=.pointer (some ⟨g,i,none⟩)) (hy:a.eval y=.slice A n c)
 {t:TypeId} {cs:Array Value} (hB:Blk w g t cs) (hi:i<cs.size) (h:wpList Tryz.prog ops Q rest (a.put o.dst undef) (w.setCell ⟨g,i,none⟩ (.slice A n c))):wpList Tryz.prog ops Q (o::rest) a w :=
 wpList_plain hg fun _ hK=>by
  have hc:=(hB.cell i).trans (wF2 hi);have hf:=hB.frozen i;unfold Oper.wp execOp;simp only[ho,hx,hy];go_simp
  exact hK _ _ h
def picV_set (a b:Int) (u v:Value):(xG a b u).setIfInBounds 2 v=xG a b v:=rfl
def upon_in {l n:Nat} {P:Program} {o:Oper} {a:Act} {K K':Act→World→Prop} {Q:Exit→Act→World→Prop} (hK: ∀ a w,K a w→K' a w) (r:Result Next) (h:o.upon P a K Q r):o.uponIn (Fence.wide.inRound l) n P a K' Q r:=by
 cases r with
 | ok v w' =>
   cases v with
   | value v=>exact hK _ _ h
   | skip=>exact hK _ _ h
   | defer d=>exact hK _ _ h
   | enter f args =>
     refine⟨fun q=>(by cases q),CallsIn.inRound l (callsIn_wide.2 (Calls.mono h ?_))⟩;intro e w'' h
     cases e with
     | returned v=>exact hK _ _ h
     | panicked ch=>exact h
     | outgrown=>exact h
   | row row args =>
     refine⟨fun q=>(by cases q),fun c cs _=> ?_⟩;obtain⟨v,w',r,s⟩:=h c cs;exact⟨v,w',hK _ _ r,stepsIn_wide.2 s⟩
   | _=>exact h.elim
 | halt h0 w' =>
   cases h0 with
   | panic v=>exact h
   | _=>exact h.elim
def wl_in {l n:Nat} {P:Program} {ops:Array Oper} {Q:Exit→Act→World→Prop} (hQ: ¬LetsOut Q): ∀ (rest:List Oper) (a:Act) (w:World),(rest.all fun o=>match o.op with | .defer _=>false | _=>true)=true→wpList P ops Q rest a w→wpListIn (Fence.wide.inRound l) n P ops Q rest a w
 | [],_,_,_,h=>h
 | o::rest,a,w,hd,h=>by
   rw[List.all_cons,wA9] at hd;have hdo: ∀ c,o.op≠.defer c:=fun c e=>by have:=hd.1;rw[e] at this;cases this
   unfold wpList at h;unfold wpListIn;split
   ·rename_i hw;rw[if_pos hw] at h;rcases h with h | h
    ·refine⟨fun f _=>trivial, ?_⟩;show o.uponIn _ n P a _ Q ((o.semAt (some l) a.eval).run P w)
     rw[Oper.semAt_some l _ o hdo];exact upon_in (fun a w h=>wl_in hQ rest a w hd.2 h) _ h
    ·exact absurd h.2 hQ
   ·rename_i hw;rw[if_neg hw] at h;exact⟨fun f _=>trivial,wl_in hQ rest _ _ hd.2 h⟩
def jP {l n id:Nat} {P:Program} {L:List Oper} {Q:Exit→Act→World→Prop} {a:Act} {w:World} (hQ: ¬LetsOut Q) (hd:(L.all fun o=>match o.op with | .defer _=>false | _=>true)=true) (h:wpList P L.toArray Q L a w) :
 (Code.region id L.toArray false).wpIn (Fence.wide.inRound l) n P Q a w:=wpIn_region_lit (wl_in hQ L a w hd h)
section
open Go.RowKit Go.Shelf
attribute [local go_sem] Oper.semAt_some
def ext_grown {w w':World} (h:Ext w w'):w.grownBy w' none:=⟨h.os,h.tape,h.output,h.size,fun k hk _=>h.block k hk⟩
def zBR {n:Nat} {P:Program} {ops:Array Oper} {Q:Exit→Act→World→Prop} {rest:List Oper} {o:Oper} {a:Act} {w:World} (hg:o.guard=none) (v:Value) (h1:(execOp a.eval o).run P w=.ok (.value v) w)
 (h:wpListIn Fence.wide n P ops Q rest (a.put o.dst v) w):wpListIn Fence.wide n P ops Q (o::rest) a w :=
 wpListIn_plain hg fun K hK=>⟨fun _ _=>trivial,by
  show o.uponIn _ n P a K Q ((execOp a.eval o).run P w)
  rw[h1]
  exact hK _ _ h⟩
def zFx {o:Oper} {a:Act} {x:Operand} (ho:o.op=.load 25 x) {p:Addr} (hx:a.eval x=.pointer (some p)) {A:Option Addr} {n c:Nat} {w:World} (h:w.cell? p=some (.slice A n c)):(execOp a.eval o).run Tryz.prog w=.ok (.value (.slice A n c)) w:=by
 have hr:(loadVar 25 p).run Tryz.prog w=.ok (.slice A n c) w:=by
  have hi:(Tryz.prog.info? 25).map (·.size)=some 1:=by kernel_rfl
  simp[loadVar,Sem.run_bind,isAgg,run_underlying Tryz.underlying25,run_load,h]
 simp[execOp,ho,hx,Instr.loadAt,Instr.sureAddr,Sem.run_bind,hr]
def zFr (A:Addr) (n k:Nat):Value:=.slice (some (A.add (k*n*64))) n n
def run_subM0 (A:Addr) (m c l h:Nat) (hn:l<h) (hh:h≤m) (hc:m≤c) (w:World) :
 (Instr.slice 25 (.slice (some A) m c) (some (.int .i64 (l:Int))) (some (.int .i64 (h:Int))) (some (.int .i64 (h:Int)))).run Tryz.prog w=.ok (.slice (some (A.add (l*64))) (h-l) (h-l)) w:=by
 have e1:((l:Int)≤(h:Int)):=by omega
 have e2:((h:Int)≤(c:Int)):=by omega
 have e4: ¬h=l:=by omega
 have e5:l≤h:=by omega
 go_simp
def run_subM (A:Addr) (m c l n:Nat) (hn:1≤n) (hh:l+n≤m) (hc:m≤c) (w:World) :
 (Instr.slice 25 (.slice (some A) m c) (some (.int .i64 (l:Int))) (some (.int .i64 ((l+n:Nat):Int))) (some (.int .i64 ((l+n:Nat):Int)))).run Tryz.prog w=.ok (.slice (some (A.add (l*64))) n n) w:=by
 have:=run_subM0 A m c l (l+n) (by omega) hh hc w
 rwa [wO6] at this
def ex_subM {o:Oper} {a:Act} {x lo hi mx:Operand} (ho:o.op=.slice 25 x (some lo) (some hi) (some mx)) {A:Addr} {m c l n h:Nat} (hx:a.eval x=.slice (some A) m c) (h1:a.eval lo=.int .i64 (l:Int)) (h2:a.eval hi=.int .i64 (h:Int)) (h3:a.eval mx=.int .i64 (h:Int)) (hlh:l+n=h) (hn:1≤n) (hh:h≤m) (hc:m≤c) (w:World) :
 (execOp a.eval o).run Tryz.prog w=.ok (.value (.slice (some (A.add (l*64))) n n)) w:=by
 subst hlh;simp only[execOp,ho,hx,h1,h2,h3,Instr.sliceAt,Sem.run_bind,run_underlying Tryz.underlying25,Option.map_some,run_subM A m c l n hn hh hc w,Result.andThen_ok,Sem.run_pure]
def chunk_any (A:Option Addr) (m c n:Nat) (hn:1≤n) (w:World) :
 Calls Tryz.prog 111 #[.slice A m c,.int .i64 (n:Int)] w fun e w'=> ∃ g1 g2,e=.returned (.func (.func 165) #[] #[.pointer (some ⟨g1,0,none⟩),.pointer (some ⟨g2,0,none⟩)])∧Blk w' g1 25 #[.slice A m c]∧Blk w' g2 3 #[.int .i64 (n:Int)]∧w.heap.size≤g1∧w.heap.size≤g2∧Ext w w':=by
 have hn1:decide ((n:Int)<1)=false:=by rw[decide_eq_false_iff_not];omega
 go_enter Tryz.func111,Tryz.ntmps111
 go_wp2_with (first
  | ((with_reducible apply gS 2);refine wBox rfl 25 (.tmp 0) rfl #[.slice A m c] rfl ?_;intro w1 g1 hb1 hx1 hg1)
  | ((with_reducible apply gS 3);refine wBox rfl 3 (.tmp 1) rfl #[.int .i64 (n:Int)] rfl ?_;intro w2 g2 hb2 hx2 hg2;have hb12:=hb1.ext hx2;have hc2:w2.cell? ⟨g2,0,none⟩=some (.int .i64 (n:Int)):=hb2.cell 0)
  | ((with_reducible apply gS 5);refine xC rfl (.int .i64 (n:Int)) (zV rfl rfl hc2) ?_)
  | ((with_reducible apply gS 6);refine zB rfl (.bool false) (zZ rfl rfl rfl hn1) ?_))
 go_ret;exact⟨g1,g2,rfl,hb12,hb2,hg1,wD1 hx1.size hg2,hx1.trans hx2⟩
end
section
open Go.RowKit Go.Shelf
attribute [local go_sem] Oper.semAt_some
def KpC (n₀ g1 g2:Nat) (W W':World):Prop:=Below n₀ W W'∧W'.heap[g1]? =W.heap[g1]? ∧W'.heap[g2]? =W.heap[g2]?
def KpC.trans {n₀ g1 g2:Nat} {A B C:World} (h:KpC n₀ g1 g2 A B) (k:KpC n₀ g1 g2 B C):KpC n₀ g1 g2 A C:=⟨h.1.trans k.1,k.2.1.trans h.2.1,k.2.2.trans h.2.2⟩
def zTA {β:Type} {B:Nat} {J:β→World→Prop} (h:AbidesFrom B J) {s:β} {W W':World} (hs:J s W) (hx:Ext W W'):J s W':=h s W W' none hs (ext_grown hx) (fun _ e=>by cases e)
def finTake {p k:Nat} (hk:k<p):(List.finRange p).take (k+1)=(List.finRange p).take k++[⟨k,hk⟩]:=by
 rw[wC3 (by simpa using hk)];simp
set_option maxRecDepth 100000 in
def chunk1_in (N l g1 g2 n₀ B:Nat) (A:Addr) (m c n p:Nat) (hn:1≤n) (hm:m=p*n) (hmc:m≤c) (hm4:m≤100000) (J Jx:List (Fin p)→World→Prop) (hJ:AbidesFrom B J) (hJx:AbidesFrom B Jx)
 (hY: ∀ pre (x:Fin p) W1,J pre W1→pre.length<p→YieldAt Fence.wide (N-1) Tryz.prog l #[zFr A n x.1] W1 fun e W'=>(e=.returned (.bool true)∧J (pre++[x]) W'∧KpC n₀ g1 g2 W1 W')∨(e=.returned (.bool false)∧Jx (pre++[x]) W'))
 (W:World) (hb1:Blk W g1 25 #[.slice (some A) m c]) (hb2:Blk W g2 3 #[.int .i64 (n:Int)]) (h0:J [] W) :
 CallsIn Fence.wide N Tryz.prog 165 #[.func (.yield l) #[] #[],.pointer (some ⟨g1,0,none⟩),.pointer (some ⟨g2,0,none⟩)] W fun e W'=>(∃ v,e=.returned v) ∧
  ((∃ ys,ys=List.finRange p∧J ys W')∨(∃ pre,True∧Jx pre W')):=by
 have HM:=zA hm;clear hm;refine callsIn_of_wp Tryz.func165 rfl trivial ?_ rfl;simp only[Tryz.ntmps165,List.size_toArray,wA8,wM9,Nat.reduceAdd,Nat.reduceSub,Array.replicate_succ,Array.replicate_zero,List.push_toArray,wR5,wL5,wL4]
 gi_wp2
 gi_loopw [4] (fun iv wr=> ∃ k lo:Nat,k≤p∧Hid (k*n=lo)∧iv=.int .i64 (lo:Int)∧J ((List.finRange p).take k) wr∧Blk wr g1 25 #[.slice (some A) m c]∧Blk wr g2 3 #[.int .i64 (n:Int)])
  (fun iv _=>m-(intOf iv).toNat)
 case atStart=>exact⟨0,0,by omega,zA (by simp),rfl,by simpa using h0,hb1,hb2⟩
 case round =>
  clear hb1 hb2 h0;obtain⟨k,lo,hk,HLO,rfl,hJs,hb1,hb2⟩:=hrel;have hc1:wr.cell? ⟨g1,0,none⟩=some (.slice (some A) m c):=hb1.cell 0;have hc2:wr.cell? ⟨g2,0,none⟩=some (.int .i64 (n:Int)):=hb2.cell 0
  by_cases hkp:k<p
  ·have hlm:lo+n≤m:=by
    rw[HM.out, ←HLO.out];have:=wJ0 n (show k+1≤p by omega);rw[wJ8] at this;omega
   have hlt:decide ((lo:Int)<(m:Int))=true:=by rw[wB3];omega
   have HPV:Hid (zFr A n k=.slice (some (A.add (lo*64))) n n):=zA (by unfold zFr;rw[HLO.out])
   gi_wp2_with (first
    | ((with_reducible show wpListIn _ _ _ _ _ (⟨some 7,_,_,_,_,_⟩::_) _ _);refine zBR rfl (.slice (some A) m c) (zFx rfl rfl hc1) ?_)
    | ((with_reducible show wpListIn _ _ _ _ _ (⟨some 9,_,_,_,_,_⟩::_) _ _);refine zBR rfl (.bool true) (zZ rfl rfl rfl hlt _) ?_))
   have hbd1: ∀ w',Ext wr.drew w'→w'.cell? ⟨g1,0,none⟩=some (.slice (some A) m c):=fun w' h=>(h.cell (p:=⟨g1,0,none⟩) hb1.lt).trans hc1
   have hbd2: ∀ w',Ext wr.drew w'→w'.cell? ⟨g2,0,none⟩=some (.int .i64 (n:Int)):=fun w' h=>(h.cell (p:=⟨g2,0,none⟩) hb2.lt).trans hc2
   refine wpIn_wide.2 ?_;refine qI qS (by kernel_rfl) (by kernel_rfl) ?_;simp only[Act.put,sA,sB,sC];refine xL (by rfl) (.int .i64 (n:Int)) (fun W hW=>zV rfl rfl (hbd2 W hW)) ?_;simp only[sP,sB,sC];refine xL (by rfl) (.slice (some A) m c) (fun W hW=>zFx rfl rfl (hbd1 W hW)) ?_;simp only[sP,sB,sC];refine zI (by rfl) (.int .i64 (lo:Int)) (zC rfl rfl) ?_;simp only[sP,sB,sC];refine zI (by rfl) (.slice (zCL (some A) c lo) (m-lo) (c-lo)) (ex_subF rfl rfl rfl (by omega) hmc) ?_;simp only[sP,sB,sC];refine zI (by rfl) (.int .i64 ((m-lo:Nat):Int)) (ex_lenB rfl rfl) ?_;simp only[sP,sB,sC];refine zI (by rfl) (.int .i64 ((min n (m-lo):Nat):Int)) (zEz rfl rfl rfl) ?_;simp only[sP,sB,sC];refine zI (by rfl) (.int .i64 (n:Int)) (by rw[show n=min n (m-lo) by omega];exact zW rfl (by rw[show min (min n (m-lo)) (m-lo)=min n (m-lo) by omega];rfl)) ?_;simp only[sP,sB,sC];refine vH ?_;intro w9 hx9;have hJ9:=zTA hJ hJs ((Ext.refl wr).drew.trans hx9);have hb19:Blk w9 g1 25 #[.slice (some A) m c]:=hb1.drew.ext hx9;have hb29:Blk w9 g2 3 #[.int .i64 (n:Int)]:=hb2.drew.ext hx9;have hc19:=hbd1 w9 hx9;obtain⟨hh,hhe⟩: ∃ hh,lo+n=hh:=⟨_,rfl⟩
   have HH:=zA hhe;have hhm:hh≤m:=by omega
   clear hhe hbd1 hbd2 hc1 hc2 hb1 hb2 hJs;obtain⟨fn,tmps,assign,body,hy,hR⟩:=hY _ ⟨k,hkp⟩ w9 hJ9 (by simp;omega);rw[←finTake hkp] at hR;dsimp only at hy;generalize hpv:zFr A n k=pv at *
   gi_wp2_with (first
    | ((with_reducible show wpListIn _ _ _ _ _ (⟨some 20,_,_,_,_,_⟩::_) _ _);refine zBR rfl (.slice (some A) m c) (zFx rfl rfl hc19) ?_)
    | ((with_reducible show wpListIn _ _ _ _ _ (⟨some 24,_,_,_,_,_⟩::_) _ _);refine zBR rfl (.int .i64 (hh:Int)) (by rw[←HH.out];exact yH (i:=lo) (d:=n) rfl rfl rfl (by omega) _) ?_)
    | ((with_reducible show wpListIn _ _ _ _ _ (⟨some 27,_,_,_,_,_⟩::_) _ _);refine zBR rfl (.int .i64 (hh:Int)) (by rw[←HH.out];exact yH (i:=lo) (d:=n) rfl rfl rfl (by omega) _) ?_)
    | ((with_reducible show wpListIn _ _ _ _ _ (⟨some 28,_,_,_,_,_⟩::_) _ _);refine zBR rfl pv (by rw[HPV.out];exact ex_subM rfl rfl rfl rfl rfl HH.out hn hhm hmc _) ?_))
   refine⟨fun h=>(by cases h),hR.mono ?_⟩;rintro e W3 (⟨rfl,hJ3,hk3⟩ | ⟨rfl,hJx3⟩)
   ·have hb13:Blk W3 g1 25 #[.slice (some A) m c]:=hk3.2.1.trans hb19;have hb23:Blk W3 g2 3 #[.int .i64 (n:Int)]:=hk3.2.2.trans hb29;have hc23:W3.cell? ⟨g2,0,none⟩=some (.int .i64 (n:Int)):=hb23.cell 0
    gi_wp2_with (first
     | ((with_reducible show wpListIn _ _ _ _ _ (⟨some 11,_,_,_,_,_⟩::_) _ _);refine zBR rfl (.int .i64 (n:Int)) (zV rfl rfl hc23) ?_)
     | ((with_reducible show wpListIn _ _ _ _ _ (⟨some 12,_,_,_,_,_⟩::_) _ _);refine zBR rfl (.int .i64 (hh:Int)) (by rw[←HH.out];exact yH (i:=lo) (d:=n) rfl rfl rfl (by omega) _) ?_))
    go_roundw
    case rel=>exact⟨k+1,hh,by omega,zA (by rw[wJ8,HLO.out,wD5,HH.out]),by go_num,hJ3,hb13,hb23⟩
    case measure=>simp[intOf];have:=HH.out;omega
   ·gi_wp2
    refine bodyPost_ret (results_none rfl _ _ _) rfl ?_;exact⟨⟨_,rfl⟩,.inr ⟨_,trivial,hJx3⟩⟩
  ·have ekp:k=p:=by omega
   have elo:lo=m:=by rw[←HLO.out,HM.out,ekp]
   subst elo;have hlt:decide ((lo:Int)<(lo:Int))=false:=by rw[decide_eq_false_iff_not];omega
   have hJz:J (List.finRange p) wr:=by rw[ekp,wC4 (by simp)] at hJs;exact hJs
   gi_wp2_with (first
    | ((with_reducible show wpListIn _ _ _ _ _ (⟨some 7,_,_,_,_,_⟩::_) _ _);refine zBR rfl (.slice (some A) lo c) (zFx rfl rfl hc1) ?_)
    | ((with_reducible show wpListIn _ _ _ _ _ (⟨some 9,_,_,_,_,_⟩::_) _ _);refine zBR rfl (.bool false) (zZ rfl rfl rfl hlt _) ?_))
   go_end0
   exact⟨⟨_,rfl⟩,.inl ⟨_,rfl,hJz⟩⟩
def zRo (N g1 g2 n₀:Nat) (A:Addr) (m c n p:Nat) (hn:1≤n) (hm:m=p*n) (hmc:m≤c) (hm4:m≤100000) (w:World) (hb1:Blk w g1 25 #[.slice (some A) m c]) (hb2:Blk w g2 3 #[.int .i64 (n:Int)]) :
 SeqStopsK Fence.wide N Tryz.prog 165 #[.pointer (some ⟨g1,0,none⟩),.pointer (some ⟨g2,0,none⟩)] (fun x:Fin p=> #[zFr A n x.1]) (KpC n₀ g1 g2) (fun ys=>ys=List.finRange p) (fun _=>True) p w:=fun l J Jx W hW hJ hJx hY h0 =>
 chunk1_in N l g1 g2 n₀ W.heap.size A m c n p hn hm hmc hm4 J Jx hJ hJx hY W (hb1.ext hW) (hb2.ext hW) h0
end
section
open Go.RowKit Go.Shelf
def range_one {α:Type} {P:Program} {n:Nat} {g:Operand} {assign body:Code} {p q:Tmp} {Q:Exit→Act→World→Prop} {a:Act} {w:World} {gf:Nat} {lb:Array Value} (hg:a.eval g=.func (.func gf) #[] lb) (eg: ∀ args w,(callFunc gf args).run P w=.ok (.enter gf args) w)
 {enc:α→Value} {Kp:World→World→Prop} {S:List α→Prop} {N:Nat} {w0:World} (hseq:SeqStopsK Fence.wide (n-1) P gf lb (fun x=> #[enc x]) Kp S (fun _=>True) N w0) (h1:1≤n)
 (hKt: ∀ {A B C:World},Kp A B→Kp B C→Kp A C) (hKb: ∀ (W:World) (l:Nat) (o o':Obj),w.heap.size≤l→W.heap[l]? =some o→o.isCells=false→o.isWalk=false→Kp W (W.putObj l o')) (hb0:Below w0.heap.size w0 w)
 (I:List α→World→Prop) (hI:OwnFrom w.heap.size I) (h0:I [] w)
 (hassign: ∀ (l:Nat) (x:α) (W:World) (K:Act→World→Prop),K { tmps:=(a.tmps.setIfInBounds p (enc x)).setIfInBounds q (enc x),defers:=[] } W→assign.wpIn (Fence.wide.inRound l) (n-1-1) P (Exit.then K (fun _ _ _=>False)) { tmps:=a.tmps.setIfInBounds p (enc x),defers:=[] } W)
 (hbody: ∀ (l:Nat) (pre:List α) (x:α) (W:World),I pre W→pre.length<N→body.wpIn (Fence.wide.inRound l) (n-1-1) P (ownPostG w.heap.size Kp I (fun _ _ _=>False) (pre++[x]) W) { tmps:=(a.tmps.setIfInBounds p (enc x)).setIfInBounds q (enc x),defers:=[] } W)
 (hdone: ∀ (D:Nat) (xs:List α) (W:World),w.heap.size≤D→S xs→I xs W→W.heap[D]? =some (.deferred (some []))→Q .normal { a with defers:={ target:=.collected D,args:= #[] }::a.defers } W) :
 (Code.rangeFunc g #[p] assign body).wp P Q a w :=
 (wpIn_wide (n:=n)).1 (wpIn_rangeFunc_ownG (ps:= #[p]) (assign:=assign) rfl h1 hg trivial eg hseq hKt hKb hb0 (fun _=>rfl) I (fun _ _ _=>False) hI (fun _ _ _ _ _ hs _ _=>hs) h0
   (fun x=>{ tmps:=(a.tmps.setIfInBounds p (enc x)).setIfInBounds q (enc x),defers:=[] })
   (fun l x W K hK=>by have:=hassign l x W K hK;simpa using this) hbody hdone (fun _ _ _ _ _ _ h _=>h.elim))
section
variable {X Y:World} {row:Option Nat}
def zDf {g:Nat} {T:TypeId} {cs:Array Value} (h:Blk X g T cs) (hg:X.grownBy Y row) (hr: ∀ r,row=some r→ ∃ o:Obj,X.heap[r]? =some o∧o.isCells=false):Blk Y g T cs :=
 (hg.block g h.lt (fun e=>by
   obtain⟨o,h1,h2⟩:=hr g e.symm;unfold Blk at h;rw[h] at h1;injection h1 with h1
   subst h1
   cases h2)).trans h
def zMa {size n c:Nat} {A:Option Addr} {xs:List Value} (h:SL X size (.slice A n c) n xs) (hg:X.grownBy Y row) (hr: ∀ r,row=some r→ ∃ o:Obj,X.heap[r]? =some o∧o.isCells=false):SL Y size (.slice A n c) n xs:=by
 obtain⟨A',c',e,h1,h1',h2,h3⟩:=h;injection e with e1 e2 e3
 subst e1 e3;refine⟨A,c,rfl,h1,h1',h2,fun hn=> ?_⟩;obtain⟨ad,ea,hlt,hc⟩:=h3 hn;exact⟨ad,ea,wA1 hlt hg.size,fun j u hj=>cell_kept (hc j u hj) hg hr⟩
def zRz {B:Nat} {v:Value} {L:List (List Int)} (h:PartsAt X B v L) (hg:X.grownBy Y row) (hr: ∀ r,row=some r→ ∃ o:Obj,X.heap[r]? =some o∧o.isCells=false):PartsAt Y B v L:=by
 obtain⟨A,c,vs,rfl,ho,hp⟩:=h;refine⟨A,c,vs,rfl,vM ho (zO hg) (fun b hb e=> ?_),fun k l hl=> ?_⟩
 ·obtain⟨cs,h1⟩:=zDI ho b hb;obtain⟨o,h2,h3⟩:=hr b e;rw[h1] at h2;injection h2 with h2
  subst h2;cases h3
 ·obtain⟨D,d,e,hs,hd⟩:=hp k l hl;exact⟨D,d,e,zMa hs hg hr,fun ad ea=>by obtain⟨h1,h2,h3⟩:=hd ad ea;exact⟨h1,wA1 h2 hg.size,h3⟩⟩
end
def zOl {S:Nat→Prop} {B:Nat} {W W':World} (hu:Upd S W W') (hS: ∀ x,S x→ ∃ cs T r,W.heap[x]? =some (.cells cs T r)):KeepsFrom B W W' :=
 ⟨hu.size,fun k o _ hk ho=>by
  refine (hu.block k (wB6.1 hk).1 (fun h=> ?_)).trans hk;obtain⟨cs,T,r,h1⟩:=hS k h;rw[h1] at hk;injection hk with hk
  subst hk
  cases ho⟩
end
section
open Go.RowKit Go.Shelf
def finPlanes (q X:List Int) (a b p:Nat):(List.finRange p).map (fun x:Fin p=>zFY q X a b x.1)=zBC q X a b p:=by
 unfold zBC;apply wH9
 ·simp
 ·intro i h1 h2;simp
def SL.recap {w:World} {sz n c c':Nat} {A:Option Addr} {xs:List Value} (h:SL w sz (.slice A n c) n xs) (h1:n≤c') (h2:c'≤9223372036854775807):SL w sz (.slice A n c') n xs:=by
 obtain⟨A',d,e, -, -,h5,h6⟩:=h;injection e with e1 e2 e3
 subst e1;exact⟨A,c',rfl,h1,h2,h5,h6⟩
def part_sl {w:World} {ad:Addr} {m c n p k:Nat} {X:List Int} (hs:SL w 64 (.slice (some ad) m c) m (ints X)) (hm:m=p*n) (hk:k<p) (hn:1≤n) (hn2:n≤100000) (hcm:m≤c) (hX:X.length=m*64) :
 SL w 64 (.slice (some (ad.add (k*n*64))) n n) n (ints (sect X n k))∧(sect X n k).length=n*64:=by
 have hlm:k*n+n≤m:=by
  rw[hm];have:=wJ0 n (show k+1≤p by omega);rw[wJ8] at this;omega
 have:=hs.sect rfl hlm;unfold zCL at this;rw[if_neg (by omega)] at this;exact⟨this.recap (wA5 _) (by omega),sect_len hX rfl hlm⟩
def ex_ixB {o:Oper} {a:Act} {x ix:Operand} (ho:o.op=.indexAddr 25 x ix) {g n c i:Nat} (hx:a.eval x=.slice (some ⟨g,0,none⟩) n c) (hi:a.eval ix=.int .i64 (i:Int)) (h:i<n) (w:World) :
 (execOp a.eval o).run Tryz.prog w=.ok (.value (.pointer (some ⟨g,i*64,none⟩))) w:=by
 have:=zFW (m:=0) Tryz.underlying25 zH ho hx hi h w
 rwa [wB2] at this
def Upd.mono_ {S S':Nat→Prop} {w w':World} (h:Upd S w w') (hS: ∀ x,S x→S' x):Upd S' w w':=⟨h.os,h.tape,h.output,h.size,fun b hb hn=>h.block b hb (fun q=>hn (hS b q))⟩
def rows_kept {X Y:World} {row:Option Nat} {A:Option Addr} {n c B:Nat} {L:List (List Int)} (h:RowsF X B A n c L) (hg:X.grownBy Y row) (hr: ∀ r,row=some r→ ∃ o:Obj,X.heap[r]? =some o∧o.isCells=false):RowsF Y B A n c L:=by
 obtain⟨vs,h1,h2,h4,h3⟩:=h;refine⟨vs,zMa h1 hg hr,h2,h4,fun k l hl=> ?_⟩;obtain⟨D,d,e,hs,hd⟩:=h3 k l hl;exact⟨D,d,e,zMa hs hg hr,hd⟩
def zeroLL:(Tryz.prog.info? 29).bind (·.zero)=some (.slice none 0 0):=by kernel_rfl
def zOc:uB Tryz.prog 165:=zAW Tryz.func165 (by kernel_rfl) rfl
attribute [local irreducible] zAu sect shB zFY zBC zDZ
attribute [local go_sem] Oper.semAt_some
set_option maxRecDepth 100000 in
def shown_any (F:FC) (hF:F.shaped) (s1 s2 sd:Value) (a b p:Nat) (hw:F.wd=a) (hh:F.hi=b) (hp:F.pt=p) (a1:1≤a) (a2:a≤64) (b1:1≤b) (b2:b≤64) (hp13:p=1∨p=3) (A:Option Addr) (m c:Nat) (X:List Int) (hm:m=p*qD a b) (w:World) (hs:SL w 64 (.slice A m c) m (ints X)) :
 Calls Tryz.prog 57 #[.agg (F.cells s1 s2 sd),.slice A m c] w (PicIs a b (zDZ F.qs X a b p) w):=by
 have HF:=zA (fun W g (h:Blk W g 47 (F.cells s1 s2 sd))=>zBu h hF.1 (zU _ _ hF.2.1) (zU _ _ hF.2.2));have hts:=zA (FC.size hF s1 s2 sd);have hq:=hF.1;rw[hw,hh,hp] at HF;generalize F.qs=q at *;generalize F.cells s1 s2 sd=fv at *;have hcm:m≤c:=by obtain⟨_,_,e,h1,_⟩:=hs;injection e with _ e2 e3;omega
 have hXl:X.length=m*64:=by obtain⟨_,_,_,_,_,h1,_⟩:=hs;simpa [ints] using h1
 have HJ:=zA (fun k v W h=>join_show q X a b a1 a2 b1 b2 k v W h);have HT:=zA (fun W B hB A n c h=>turn_show q X a b p a2 b2 hp13 W B hB A n c h);unfold TurnF at HT;have HU:Hid (∀ (P:List Int) W,P.length=64→Calls Tryz.prog 112 #[.agg (bv P),.agg (ints q).toArray] W fun e w'=>e=.returned (.tuple #[.agg (bv (vI upF P q 2047).1),.int .i64 (vI upF P q 2047).2])∧Ext W w'):=zA (fun P W h=>up_any P q W h hq);have HWV:=zA (fun (P:List Int) W (h:P.length=64)=>zOx P W h);have HPF:Hid (∀ PL:Nat→List Int,zFY q X a b=PL→(List.finRange p).map (fun x:Fin p=>PL x.1)=zBC q X a b p):=zA (fun PL h=>by rw[←h];exact finPlanes q X a b p);have HL:=zA (fun k=>zLL q X a b k);have hab:a*b≤4096:=wI6 a2 b2;have hn1:1≤qD a b:=cutN_pos a1 b1;have hn64:=zGQ a2 b2;have hp3:p≤3:=by omega
 have HQ64:=zA hq;have hqs:(ints q).length=64:=by rw[yA,hq]
 generalize zDZ q X a b p=SZ at *;generalize hPZ:zBC q X a b p=PZ at *;have HPF:=zA (HPF.out _ rfl);generalize hPl:zFY q X a b=PL at *;generalize qD a b=n at *;have hpn:p*n≤192:=wD1 (wI6 hp3 hn64) (by omega);have HMN:=zA hm;have hm192:m≤192:=by omega
 clear hm;have hpn0:(xG a b (.slice none 0 0)).size=3:=rfl;have HPB:=zA (builtPicS a b);have HP1:=zA (fun A n c=>zFE a b A n c);have HPC:=zA (fun (W:World) g v (h:Blk W g 31 (xG a b v))=>zBH h);have HPSZ:=zA (fun v=>vX a b v);have HPSET:=zA (fun u v=>picV_set a b u v);have HZP:=zHU;have hz0s:Hid ((Value.agg (xG 0 0 (.slice none 0 0))).cells.size=3):=zA rfl;obtain⟨pz,hpz⟩: ∃ pz,xG 0 0 (.slice none 0 0)=pz:=⟨_,rfl⟩
 rw[hpz] at HZP hz0s;obtain⟨pic,hpic⟩: ∃ pic:Value→Array Value,pic=xG a b:=⟨_,rfl⟩
 have HRET:Hid (∀ W B k d,RowsF W w.heap.size B k d SZ→Ext w W→PicIs a b SZ w (.returned (.agg (pic (.slice B k d)))) W):=zA (fun W B k d h hx=>⟨B,k,d,by rw[hpic],h,hx⟩);rw[←hpic] at hpn0 HPB HP1 HPC HPSZ HPSET;clear hw hh hp hF hpz hpic hPZ hPl;have hm1:1≤m:=by rw[HMN.out];exact wI6 (show 1≤p by omega) hn1
 have hsub0:=hs
 obtain⟨ad,hA,hadb⟩: ∃ ad,A=some ad∧ad.block<w.heap.size:=by
  obtain⟨A',c',e,_,_,_,h4⟩:=hs;injection e with e1 e2 e3
  subst e1;obtain⟨ad,ea,hb, -⟩:=h4 (by omega);exact⟨ad,ea,hb⟩
 subst hA;clear hsub0;have HDV:Hid (m/p=n):=zA (by rw[HMN.out];exact Nat.mul_div_cancel_left n (by omega));have HCH:=zA (fun W=>chunk_any (some ad) m c n hn1 W);refine (callsIn_wide (n:=8)).1 ?_;refine callsIn_of_wp_marks Tryz.func57 rfl trivial ?_ rfl;simp only[Tryz.ntmps57,List.size_toArray,wA8,wM9,Nat.reduceAdd,Nat.reduceSub,Array.replicate_succ,Array.replicate_zero,List.push_toArray,wR5,wL5,wL4];refine wpIn_wide.2 ?_
 go_wp2_with (first
  | ((with_reducible apply gS 2);refine wBox rfl 47 (.tmp 0) rfl fv rfl ?_;intro w1 gf hb1 hx1 hgf;have hf1:=HF.out _ _ hb1)
  | ((with_reducible apply gS 4);refine wAlo' rfl (some 4) rfl 31 rfl _ HZP ?_;intro w2 gr hr2 hx2 hgr;have hb2:=hb1.ext hx2;have hf2:=HF.out _ _ hb2;have hx12:=hx1.trans hx2)
  | ((with_reducible apply gS 16);refine xC rfl (.int .i64 (a:Int)) (zV rfl rfl hf2.c0) ?_)
  | ((with_reducible apply gS 18);refine xC rfl (.int .i64 (b:Int)) (zV rfl rfl hf2.c1) ?_)
  | ((with_reducible apply gS 19);refine wpList_buildTo rfl 31 _ rfl (some 19) rfl (pic (.slice none 0 0)) (by simp only[wC7,wC8,wC9];exact HPB.out) ?_)
  | ((with_reducible apply gS 5);refine wAlo' rfl (some 5) rfl 31 rfl _ HZP ?_;intro w3 gp hp3' hx3 hgp)
  | ((with_reducible apply gT 5 19);refine wStB rfl 31 (.tmp 5) (.tmp 19) rfl gp (pic (.slice none 0 0)) rfl rfl hp3' 3 jT hpn0 hz0s.out (HP1.out _ _ _) ?_;intro w4 hp4 hg4;have hx24:=hx3.grown hg4 hgp;have hb4:=hb2.ext hx24;have hr4:=hr2.ext hx24;have hx14:=hx12.trans hx24)
  | ((with_reducible apply gS 6);refine wAlo' rfl (some 6) rfl 29 rfl _ zeroLL ?_;intro w5 g6 hb65 hx5 hg6;have hb5:=hb4.ext hx5;have hr5:=hr4.ext hx5;have hp5:=hp4.ext hx5;have hf5:=HF.out _ _ hb5;have hx15:=hx14.trans hx5)
  | ((with_reducible apply gS 24);refine xC rfl (.int .i64 (p:Int)) (zV rfl rfl hf5.c2) ?_)
  | ((with_reducible apply gS 25);refine zB rfl (.int .i64 (n:Int)) (by rw[←HDV.out];exact ex_quoN (i:=m) (d:=p) rfl rfl rfl (by omega) (by omega)) ?_)
  | (go_at_call 111;(with_reducible refine (HCH.out _).mono ?_);rintro e w6 ⟨g1,g2,rfl,hc16,hc26,hg1,hg2,hx6⟩;have hb6:=hb5.ext hx6;have hr6:=hr5.ext hx6;have hp6:=hp5.ext hx6;have hb66:=hb65.ext hx6;have hx16:=hx15.trans hx6))
 have hgp0:w.heap.size≤gp:=by have:=hx12.size;omega
 have hgr0:w.heap.size≤gr:=by have:=hx1.size;omega
 have hg60:w.heap.size≤g6:=by have:=hx14.size;omega
 have hgpB:gp<w5.heap.size:=hp5.lt;have hgfB:gf<w5.heap.size:=hb5.lt;have hgrB:gr<w5.heap.size:=hr5.lt;have hg6B:g6<w5.heap.size:=hb65.lt;have hgfp:gf≠gp:=by have:=hb2.lt;omega
 have hgrp:gr≠gp:=by have:=hr2.lt;omega
 have hgf6:gf≠g6:=by have:=hb4.lt;omega
 have hgr6:gr≠g6:=by have:=hr4.lt;omega
 have hgp6:gp≠g6:=by have:=hp4.lt;omega
 have h56:w5.heap.size≤w6.heap.size:=hx6.size;have hgf0:w.heap.size≤gf:=hgf;obtain⟨I,hIe⟩: ∃ I:List (Fin p)→World→Prop,I=fun pre W=> ∃ v,PartsAt W w5.heap.size v (pre.map fun x=>PL x.1)∧Blk W g6 29 #[v]∧Blk W gf 47 fv∧Blk W gp 31 (pic (.slice none 0 0))∧Blk W gr 31 pz∧Blk W g1 25 #[.slice (some ad) m c]∧Blk W g2 3 #[.int .i64 (n:Int)]∧Ext w W∧w6.heap.size≤W.heap.size:=⟨_,rfl⟩
 have HIe:=zA hIe;clear hIe
 have hI:OwnFrom w6.heap.size I:=by
  rw[HIe.out];rintro s U V row ⟨v,q1,q2,q3,q4,q5,q6,q7,q8,q9⟩ hg hr;have hr': ∀ r,row=some r→ ∃ o:Obj,U.heap[r]? =some o∧o.isCells=false:=fun r e=>(hr r e).2
  exact⟨v,zRz q1 hg hr',zDf q2 hg hr',zDf q3 hg hr',zDf q4 hg hr',zDf q5 hg hr',zDf q6 hg hr',zDf q7 hg hr',Below.grown q8 hg q8.size (fun y hy=>by have:=(hr y hy).1;have:=hx16.size;omega),wD1 q9 hg.size⟩
 have hI0:I [] w6:=by
  rw[HIe.out];exact⟨.slice none 0 0,PartsAt.nil _ _,hb66,hb6,hp6,hr6,hc16,hc26,hx16,wA5 _⟩
 have hKb: ∀ (W:World) (l:Nat) (o o':Obj),w6.heap.size≤l→W.heap[l]? =some o→o.isCells=false→o.isWalk=false→KpC w.heap.size g1 g2 W (W.putObj l o'):=fun W l o o' hl ho hc hw =>
  ⟨belowK_b hx16.size W l o o' hl ho hc hw,World.putObj_heap_other (by have:=hc16.lt;omega),World.putObj_heap_other (by have:=hc26.lt;omega)⟩
 refine range_one (n:=8) (p:=27) (q:=7) rfl zOc (enc:=fun x:Fin p=>zFr ad n x.1) (zRo 7 g1 g2 w.heap.size ad m c n p hn1 HMN.out hcm (by omega) w6 hc16 hc26) (by omega) KpC.trans hKb (Below.refl _ _) I hI hI0 ?assign ?body ?done
 case assign =>
  intro l x W K hK;simp only[wN6,wN7,wG1] at hK ⊢
  gi_wp2
  exact hK
 case done =>
  intro D xs W hD hS hi hdef;subst hS;rw[HIe.out] at hi;obtain⟨v,hpa,hb6w,hbw,hpw,hrw, -, -,hxw,hszw⟩:=hi;rw[HPF.out] at hpa;obtain⟨PA,pc,rfl⟩:=hpa.form;generalize hnp:PZ.length=np at *;have hc6:W.cell? ⟨g6,0,none⟩=some (.slice PA np pc):=hb6w.cell 0;have HTZ:=zA (HT.out W w5.heap.size (by omega) PA np pc hpa);have hDlt:D<W.heap.size:=(wB6.1 hdef).1
  go_wp2_with (first
   | ((with_reducible apply gS 78);refine xC rfl (.slice PA np pc) (zEN rfl rfl hc6) ?_)
   | (go_at_call 38;(with_reducible refine HTZ.out.mono ?_);rintro e w16 ⟨TB,tk,td,rfl,hrows,hx16'⟩;have hp16:=hpw.ext hx16';have hr16:=hrw.ext hx16';have hdef16:=(hx16'.block D hDlt).trans hdef)
   | ((with_reducible apply gT 80 79);refine zLv rfl (.tmp 80) (.tmp 79) rfl gp 2 TB tk td rfl rfl hp16 (by rw[HPSZ.out];omega) ?_;have hU:=(Upd.refl (fun x=>x=gp) w16).setCell (p:=⟨gp,2,none⟩) rfl (.slice TB tk td);have hpbz:=hp16.set_ 2 (.slice TB tk td);rw[HPSET.out] at hpbz;have hrz:=hU.blk hr16 (fun e=>hgrp e);have hrows7:=hrows.upd hU (fun x e=>by omega);have hx7:=(hxw.trans hx16').setCell (p:=⟨gp,2,none⟩) hgp0 (.slice TB tk td);have hdef17:=(hU.block D (by have:=hx16'.size;omega) (fun e=>by omega)).trans hdef16;generalize w16.setCell ⟨gp,2,none⟩ (.slice TB tk td)=w7 at *)
   | ((with_reducible apply gS 81);refine wLdB rfl 31 (.tmp 5) rfl gp rfl hpbz _ Tryz.underlying31 rfl 3 jT (HPSZ.out _) ?_)
   | ((with_reducible apply gT 4 81);refine wStB rfl 31 (.tmp 4) (.tmp 81) rfl gr (pic (.slice TB tk td)) rfl rfl hrz 3 jT (HPSZ.out _) hz0s.out (HP1.out _ _ _) ?_;intro w8 hb8 hg8;have hU8:=zO hg8;have hrows8:=hrows7.upd hU8 (fun x e=>by injection e with e;omega);have hx8:=hx7.grown hg8 hgr0;have hdef18:=(hU8.block D (wB6.1 hdef17).1 (fun e=>by injection e with e;omega)).trans hdef17))
  refine⟨by simp,.inl ⟨_,_,rfl,run_takeDeferred hdef18, ?_⟩⟩;have hUd:Upd (fun x=>x=D) w8 (w8.putObj D (.deferred none)):=(zO (grownBy_putObj' w8 D (.deferred none))).mono_ (fun x e=>by injection e with e;exact e.symm);have hb9:=hUd.blk hb8 (fun e=>by omega);have hgd: ∀ r,some D=some r→ ∃ o:Obj,w8.heap[r]? =some o∧o.isCells=false:=fun r e=>by cases e;exact⟨_,hdef18,rfl⟩
  have hrows9:=rows_kept (hrows8.mono (show w.heap.size≤w5.heap.size by omega)) (grownBy_putObj' w8 D (.deferred none)) hgd;have hx9:=hUd.ext hx8 (fun x e=>by rw[e];have:=hx16.size;omega);exact⟨_,results_cell_row rfl _ _ gr _ _ (0,0) _ rfl hb9 Tryz.underlying31 rfl (by rw[HPSZ.out];exact jT),HRET.out _ _ _ _ hrows9 hx9⟩
 case body =>
  intro l pre x W hi hlt;simp only[wN6,wN7,wG1];rw[HIe.out] at hi;obtain⟨v,hpa,hb6w,hbw,hpw,hrw,hc1w,hc2w,hxw,hszw⟩:=hi;obtain⟨k,hkp⟩:=x;obtain⟨hsub,hYl⟩:=part_sl hs HMN.out hkp hn1 (by omega) hcm hXl;have HJk:=zA (HJ.out k);obtain⟨cd,hcd⟩: ∃ cd,ad.add (k*n*64)=cd:=⟨_,rfl⟩
  have hpv:zFr ad n k=.slice (some cd) n n:=by unfold zFr;rw[hcd]
  dsimp only;rw[hpv];rw[hcd] at hsub;have hsubH:=zA (hsub.ext hxw);generalize sect X n k=Y at *;clear hcd hpv hsub;refine wpIn_block ?_;refine wpIn_seq_k fun K0 hK0=> ?_
  refine jP (fun ⟨_,_,h⟩=>h) (by rfl) ?_
  go_wp2_with (first
   | ((with_reducible apply gS 30);refine zEa rfl (some 30) rfl _ _ rfl n (by omega) rfl rfl ?_;intro w7 gB hbB hx7 hgB))
  have hbB0:Blk w7 gB 33 (bv (zAu q Y 0++List.replicate ((n-0)*64) 0)):=by unfold zAu;simpa using hbB
  refine wpIn_seq_k fun K1 hK1=> ?_
  refine wpIn_seq_k fun K2 hK2=> ?_
  refine jP (fun ⟨_,_,h⟩=>h) (by rfl) ?_;go_wp2_with fail;refine wpIn_block ?_
  gi_loopw [33] (fun iv wr=> ∃ j:Nat,j≤n∧iv=.int .i64 (j:Int)∧Blk wr gB 33 (bv (zAu q Y j++List.replicate ((n-j)*64) 0))∧Ext W wr) (fun iv _=>n-(intOf iv).toNat)
  case atStart=>exact⟨0,by omega,rfl,hbB0,hx7⟩
  case round =>
   clear hbB hbB0;obtain⟨j,hj,rfl,hbj,hxj⟩:=hrel;obtain⟨w0,rfl⟩: ∃ w0,w0=wr:=⟨_,rfl⟩
   by_cases hjn:j<n
   ·obtain⟨bd,hbd,hbb,hca⟩:=(hsubH.out.ext hxj).part hjn;have hca':=zPE hca;injection hbd with hbd
    subst hbd;have hpl:(uC Y j).length=64:=by unfold uC;rw[wI8,wK1,hYl];omega
    have HMS:Hid (zAu q Y (j+1)=zAu q Y j++shB (uC Y j) q):=zA (by rw[zAu]);have HSB:Hid (shB (uC Y j) q=zCD (uN frC (vI upF (uC Y j) q 2047).1).1):=zA (by unfold shB;rfl);generalize uC Y j=P at *;have HUP:=zA (fun W=>HU.out P W hpl);have hul:=zFh upF P q 2047 hpl HQ64.out;have HWP:=zA (fun W=>HWV.out (vI upF P q 2047).1 W hul);have hwl:=zCy frC (vI upF P q 2047).1;generalize (uN frC (vI upF P q 2047).1).2=ew at *;generalize (uN frC (vI upF P q 2047).1).1=P3 at *;generalize (vI upF P q 2047).2=eu at *;generalize (vI upF P q 2047).1=P2 at *;rw[HSB.out] at HMS;clear hca HSB;have s1:=zA ((zK P).trans hpl);have s2:=zA ((zK P2).trans hul);have s3:=zA ((zK P3).trans hwl);have o1:=zA (xE P);have o2:=zA (xE P2);have o3:=zA (xE P3);have hipl:(ints P).length=64:=by rw[yA,hpl]
    have hzs:Hid ((Value.agg (bv yO)).cells.size=64):=zA zero48c;have hbz:=hbw.ext hxj;have hltj:decide ((j:Int)<(n:Int))=true:=by rw[wB3];omega
    refine wpIn_seq_k fun K3 hK3=> ?_
    refine jP (fun ⟨_,_,h⟩=>h) (by rfl) ?_
    go_wp2_with (first
     | ((with_reducible apply gS 34);refine zB rfl (.bool true) (zZ rfl rfl rfl hltj) ?_))
    refine wpIn_seq_k fun K4 hK4=> ?_
    refine wpIn_cond_true rfl (wpIn_skip (hK4 _ _ ?_));refine wpIn_seq_k fun K5 hK5=> ?_
    refine wpIn_block ?_;refine wpIn_seq_k fun K6 hK6=> ?_
    refine jP (fun ⟨_,_,h⟩=>h) (by rfl) ?_
    go_wp2_with (first
     | ((with_reducible apply gS 36);refine zB rfl (.pointer (some (cd.add (j*64)))) (vJ (i:=j) Tryz.underlying25 zH rfl rfl rfl hjn) ?_)
     | ((with_reducible apply gS 37);refine yI (by rfl) 33 (.tmp 36) rfl (cd.add (j*64)) rfl (ints P) _ hca' Tryz.underlying33 rfl (by rw[hipl];exact zH) ?_)
     | ((with_reducible apply gS 10);refine wAlo' rfl (some 10) rfl 33 rfl _ qU ?_;intro w8 g8 hb8 hx8 hg8)
     | ((with_reducible apply gT 10 37);refine wStB rfl 33 (.tmp 10) (.tmp 37) rfl g8 (bv P) rfl rfl hb8 64 zH s1.out hzs.out o1.out ?_;intro w9 hb9 hg9;have hx9:=hx8.grown hg9 hg8;have hbz9:=hbz.ext hx9;have hf9:=HF.out _ _ hbz9))
    refine wpIn_seq_k fun K7 hK7=> ?_
    refine jP (fun ⟨_,_,h⟩=>h) (by rfl) ?_
    go_wp2_with (first
     | ((with_reducible apply gS 39);refine wLdB rfl 33 (.tmp 10) rfl g8 rfl hb9 _ Tryz.underlying33 rfl 64 zH s1.out ?_)
     | ((with_reducible apply gS 41);refine wpList_load_mid rfl 33 (.tmp 40) rfl gf 3 rfl (ints q) _ hf9.q Tryz.underlying33 rfl (by rw[hqs];exact zH) ?_)
     | (go_at_call 112;(with_reducible refine (HUP.out _).mono ?_);rintro e w10 ⟨rfl,hx10⟩;have hxa:=hx9.trans hx10;have hb10:=hb9.ext hx10)
     | ((with_reducible apply gT 10 43);refine wStB rfl 33 (.tmp 10) (.tmp 43) rfl g8 (bv P2) rfl rfl hb10 64 zH s2.out s1.out o2.out ?_;intro w11 hb11 hg11;have hxb:=hxa.grown hg11 hg8))
    refine wpIn_seq_k fun K8 hK8=> ?_
    refine jP (fun ⟨_,_,h⟩=>h) (by rfl) ?_
    go_wp2_with (first
     | ((with_reducible apply gS 46);refine wLdB rfl 33 (.tmp 10) rfl g8 rfl hb11 _ Tryz.underlying33 rfl 64 zH s2.out ?_)
     | (go_at_call 113;(with_reducible refine (HWP.out _).mono ?_);rintro e w12 ⟨rfl,hx12'⟩;have hxc:=hxb.trans hx12';have hb12:=hb11.ext hx12')
     | ((with_reducible apply gT 10 48);refine wStB rfl 33 (.tmp 10) (.tmp 48) rfl g8 (bv P3) rfl rfl hb12 64 zH s3.out s2.out o3.out ?_;intro w13 hb13 hg13;have hxd:=hxc.grown hg13 hg8))
    refine wpIn_seq_k fun K9 hK9=> ?_
    refine wpIn_seq_k fun K10 hK10=> ?_
    refine jP (fun ⟨_,_,h⟩=>h) (by rfl) ?_
    go_wp2_with (first
     | ((with_reducible apply gS 50);refine wLdB rfl 33 (.tmp 10) rfl g8 rfl hb13 _ Tryz.underlying33 rfl 64 zH s3.out ?_))
    refine wpIn_block ?_;have hc0:Blk w13 g8 33 (bv (zAo P3 0)):=by rw[clampM_0];exact hb13
    clear hb8 hx8 hb9 hx9 hg9 hbz9 hf9 hx10 hxa hb10 hb11 hg11 hxb hx12' hxc hb12 hb13 hg13 hca'
    gi_loopw [51] (fun iv wi=> ∃ i:Nat,i≤64∧iv=.int .i64 (i:Int)∧Blk wi g8 33 (bv (zAo P3 i))∧Ext w0 wi) (fun iv _=>64-(intOf iv).toNat)
    case atStart=>exact⟨0,by omega,rfl,hc0,hxd⟩
    case round =>
     clear hc0 hxd;obtain⟨i,hi,rfl,hbi,hxi⟩:=hrel;obtain⟨wi,rfl⟩: ∃ wi,wi=wr:=⟨_,rfl⟩
     by_cases hi64:i<64
     ·have hlti:decide ((i:Int)<64)=true:=by rw[wB3];omega
      refine wpIn_seq_k fun K11 hK11=> ?_
      refine jP (fun ⟨_,_,h⟩=>h) (by rfl) ?_
      go_wp2_with (first
       | ((with_reducible apply gS 52);refine zB rfl (.bool true) (zZ rfl rfl rfl hlti) ?_))
      refine wpIn_seq_k fun K12 hK12=> ?_
      refine wpIn_cond_true rfl (wpIn_skip (hK12 _ _ ?_));obtain⟨z,hz⟩: ∃ z,P3[i]? =some z:=⟨P3[i]'(by omega),wA2 (by omega)⟩
      have hz3:=bv_get hz;have hsz:i<(bv (zAo P3 i)).size:=by rw[zK,zSH P3 i hwl hi];exact hi64
      have hset:=zA (by rw[jO,zSm P3 i z hz]:(bv (zAo P3 i)).setIfInBounds i (.int .i64 (vF z (-40000) 40000))=bv (zAo P3 (i+1)));have HCL:=zA (fun W=>zHF z 40000 W (by omega) (by omega));generalize vF z (-40000) 40000=cz at *;generalize bv (zAo P3 i)=c0 at *;obtain⟨c1,hc1⟩: ∃ c1,bv (zAo P3 (i+1))=c1:=⟨_,rfl⟩
      rw[hc1] at hset;have HC1:=zA hc1;clear hc1;refine wpIn_seq_k fun K13 hK13=> ?_
      refine wpIn_block ?_;refine wpIn_seq_k fun K14 hK14=> ?_
      refine jP (fun ⟨_,_,h⟩=>h) (by rfl) ?_
      go_wp2_with (first
       | ((with_reducible apply gS 54);refine zB rfl (.int .i64 z) (ex_idx Tryz.underlying33 Tryz.underlying3 qW rfl (cs:=bv P3) (i:=i) rfl rfl hi64 hz3) ?_))
      refine jP (fun ⟨_,_,h⟩=>h) (by rfl) ?_
      go_wp2_with (first
       | (go_at_call 96;(with_reducible refine (HCL.out _).mono ?_);rintro e w9 ⟨rfl,rfl⟩)
       | ((with_reducible apply gS 58);refine zB rfl (.pointer (some ⟨g8,i,none⟩)) (zIV Tryz.underlying33 qW rfl rfl rfl hi64) ?_)
       | ((with_reducible apply gT 58 57);refine uK rfl (.tmp 58) (.tmp 57) rfl g8 i cz rfl rfl hbi hsz ?_))
      have hbn:=hbi.set_ i (.int .i64 cz);rw[hset.out] at hbn;have hxn:=hxi.setCell (p:=⟨g8,i,none⟩) hg8 (.int .i64 cz);refine jP (fun ⟨_,_,h⟩=>h) (by rfl) ?_;go_wp2_with fail
      try simp only[Act.put]
      go_roundw
      case rel=>exact⟨i+1,by omega,by go_num,by rw[HC1.out];exact hbn,hxn⟩
      case measure=>simp[intOf];omega
     ·obtain rfl:i=64:=by omega
      have hlti:decide (((64:Nat):Int)<64)=false:=by decide
      rw[zSU P3 hwl] at hbi;have hcl:(zCD P3).length=64:=by rw[zEt,hwl]
      generalize zCD P3=P4 at *;have s4:=zA ((zK P4).trans hcl);have hms:(ints (zAu q Y j)).length=j*64:=by rw[yA,zGu]
      have hbj':Blk wi gB 33 (ints (zAu q Y j)++(ints (List.replicate 64 0)++ints (List.replicate ((n-(j+1))*64) 0))).toArray:=by
       have e:bv (zAu q Y j++List.replicate ((n-j)*64) 0)=(ints (zAu q Y j)++(ints (List.replicate 64 0)++ints (List.replicate ((n-(j+1))*64) 0))).toArray:=by
        have e1:List.replicate ((n-j)*64) (0:Int)=List.replicate 64 0++List.replicate ((n-(j+1))*64) 0:=by
         rw[List.replicate_append_replicate];congr 1
         omega
        unfold bv;rw[e1,uR,uR]
       rw[←e];exact hbj.ext hxi
      have H4:Hid (bv P4=(ints P4).toArray):=zA rfl;refine wpIn_seq_k fun K11 hK11=> ?_
      refine jP (fun ⟨_,_,h⟩=>h) (by rfl) ?_
      go_wp2_with (first
       | ((with_reducible apply gS 52);refine zB rfl (.bool false) (zZ rfl rfl rfl hlti) ?_))
      refine wpIn_seq_k fun K12 hK12=> ?_
      refine wpIn_cond_false rfl (wpIn_exit ?_);simp only[Exit.then,Exit.inBlock, ↓reduceIte,Nat.reduceEqDiff];refine hK9 _ _ ?_;refine jP (fun ⟨_,_,h⟩=>h) (by rfl) ?_
      go_wp2_with (first
       | ((with_reducible apply gS 62);refine wLdB rfl 33 (.tmp 10) rfl g8 rfl hbi _ Tryz.underlying33 rfl 64 zH s4.out ?_)
       | ((with_reducible apply gS 63);refine zB rfl (.pointer (some ⟨gB,j*64,none⟩)) (ex_ixB rfl rfl rfl hjn) ?_)
       | ((with_reducible apply gT 63 62);refine vT rfl 33 (.tmp 63) (.tmp 62) rfl gB (j*64) (ints P4) rfl (by first | rfl | exact congrArg Value.agg H4.out) hbj' hms (by rw[yA,yA,hcl];simp) (by rw[yA,hcl];exact zH) (qY P4) ?_;intro w15 hb15 hu15))
      have hbn:Blk w15 gB 33 (bv (zAu q Y (j+1)++List.replicate ((n-(j+1))*64) 0)):=by
       have e:bv (zAu q Y (j+1)++List.replicate ((n-(j+1))*64) 0)=(ints (zAu q Y j)++(ints P4++ints (List.replicate ((n-(j+1))*64) 0))).toArray:=by
        unfold bv;rw[HMS.out,uR,uR,wG2]
       rw[e];exact hb15
      have hxn:=hu15.ext (hxj.trans hxi) (fun x e=>by rw[e];exact hgB);refine jP (fun ⟨_,_,h⟩=>h) (by rfl) ?_;go_wp2_with fail;go_roundw
      case rel=>exact⟨j+1,by omega,by go_num,hbn,hxn⟩
      case measure=>simp[intOf];omega
   ·obtain rfl:j=n:=by omega
    have hltj:decide ((j:Int)<(j:Int))=false:=by rw[decide_eq_false_iff_not];omega
    rw[wF9,wQ0,wP0,wG6] at hbj
    have hob:SL w0 64 (.slice (some ⟨gB,0,none⟩) j j) j (ints (zAu q Y j)):=by
     have:=hbj.sl (size:=64) (n:=j) (c:=j) (by rw[zK,zGu]) (wA5 _) (by omega);simpa [bv] using this
    have hJ0:=zA (HJk.out (.slice (some ⟨gB,0,none⟩) j j) w0 hob);have hbz:=hbw.ext hxj;have hfz:=HF.out _ _ hbz;have hb6z:=hb6w.ext hxj;obtain⟨PA,pc,rfl⟩:=hpa.form;simp only[wQ3] at hpa hb6z hb6w;have hnp:pre.length<p:=hlt;have hpaz:=hpa.ext hxj;have hL1:(PL k).length=a*b:=HL.out k;obtain⟨vsW,hovW, -, -⟩:=hpa.own;generalize hplk:PL k=pl at *;generalize hnpl:pre.length=np at *;refine wpIn_seq_k fun K3 hK3=> ?_
    refine jP (fun ⟨_,_,h⟩=>h) (by rfl) ?_
    go_wp2_with (first
     | ((with_reducible apply gS 34);refine zB rfl (.bool false) (zZ rfl rfl rfl hltj) ?_))
    refine wpIn_seq_k fun K4 hK4=> ?_
    refine wpIn_cond_false rfl (wpIn_exit ?_);simp only[Exit.then,Exit.inBlock, ↓reduceIte,Nat.reduceEqDiff];refine hK1 _ _ ?_;refine wpIn_seq_k fun K20 hK20=> ?_
    refine jP (fun ⟨_,_,h⟩=>h) (by rfl) ?_
    go_wp2_with (first
     | ((with_reducible apply gS 68);refine xC rfl (.int .i64 (a:Int)) (zV rfl rfl hfz.c0) ?_)
     | ((with_reducible apply gS 70);refine xC rfl (.int .i64 (b:Int)) (zV rfl rfl hfz.c1) ?_)
     | (go_at_call 114;(with_reducible refine hJ0.out.mono ?_);rintro e w16 ⟨D,d,rfl,hD,hx16',hDf⟩;have hb616:=hb6z.ext hx16';have hpa16:=hpaz.ext hx16';have hxW16:=hxj.trans hx16';have hc616:w16.cell? ⟨g6,0,none⟩=some (.slice PA np pc):=hb616.cell 0))
    refine jP (fun ⟨_,_,h⟩=>h) (by rfl) ?_
    go_wp2_with (first
     | ((with_reducible apply gS 74);refine xC rfl (.slice PA np pc) (zEN rfl rfl hc616) ?_)
     | ((with_reducible apply gS 76);refine wLit1 rfl 29 22 (.tmp 75) rfl (some 76) rfl Tryz.underlying29 1 zAb (by kernel_rfl) (.slice D (a*b) d) rfl rfl (by omega) (by omega) ?_;intro w17 g17 hb17 hx17 hg17;have hpa17:=hpa16.ext hx17;have hb617:=hb616.ext hx17;have hxW17:=hxW16.trans hx17;obtain⟨vs,hov, -,hnext⟩:=hpa17.own)
     | ((with_reducible apply gS 77);refine wApf elt_rowS rfl (.tmp 74) (.tmp 76) rfl w5.heap.size (.slice PA np pc) np vs rfl hov _ 1 [.slice D (a*b) d] rfl (hb17.sl (size:=1) (n:=1) (c:=1) rfl (by omega) (by omega)) (by simp[Value.oneCell']) (by omega) (by omega) (by have:=hxW17.size;omega) ?_;intro A9 c9 w19 ho9 hg9 hr9;have hu9:=zO hg9;have hb619:=hu9.blk hb617 (fun q=>by have:=(hov.lt _ q).1;omega))
     | ((with_reducible apply gT 6 77);refine zLv rfl (.tmp 6) (.tmp 77) rfl g6 0 A9 (np+1) c9 rfl rfl hb619 (by simp) ?_))
    have hD7:=hD.ext hx17;have hWw0:=hxj.size
    have hpn9:=hnext A9 c9 w19 pl D d (by rw[hL1];exact ho9) hg9 hr9 (by rw[hL1];exact hD7) (fun ad' e=>by
     have h1:=hDf ad' e;subst e;obtain⟨_,_,e2, -, -,h5,h6⟩:=hD7;obtain⟨ad2,e3,h7, -⟩:=h6 (Nat.mul_pos a1 b1);injection e2 with e2
     rw[←e2] at e3;injection e3 with e3
     rw[←e3] at h7
     exact⟨by omega,h7,fun q=>by have:=(hovW.lt _ q).2;omega⟩)
    have hU19:Upd (fun x=>x=g6∨(Value.slice PA np pc).ownBlock=some x) W w19:=(Upd.of_ext hxW17).grown hg9 (fun b hb=>.inl (.inr hb));have hU:=hU19.setCell (p:=⟨g6,0,none⟩) (.inl rfl) (.slice A9 (np+1) c9);have hUs:=(Upd.refl (fun x=>x=g6) w19).setCell (p:=⟨g6,0,none⟩) rfl (.slice A9 (np+1) c9);have hpz:=hpn9.upd hUs (fun x e=>by omega);have hb6n:=hb619.set_ 0 (.slice A9 (np+1) c9);have hrow: ∀ x,(Value.slice PA np pc).ownBlock=some x→w5.heap.size≤x:=fun x h=>(hovW.lt x h).1
    have hw5:=hx15.size
    have hSB: ∀ x,(x=g6∨(Value.slice PA np pc).ownBlock=some x)→w.heap.size≤x:=fun x h=>by
     rcases h with h | h
     ·rw[h];exact hg60
     ·have:=hrow x h;omega
    have hS1: ¬(g1=g6∨(Value.slice PA np pc).ownBlock=some g1):=fun h=>by
     rcases h with h | h
     ·omega
     ·exact zAS hovW hc1w (by decide) h.symm
    have hS2: ¬(g2=g6∨(Value.slice PA np pc).ownBlock=some g2):=fun h=>by
     rcases h with h | h
     ·omega
     ·exact zAS hovW hc2w (by decide) h.symm
    have hSf: ∀ x,x<w5.heap.size→x≠g6→ ¬(x=g6∨(Value.slice PA np pc).ownBlock=some x):=fun x hx hne h=>by
     rcases h with h | h
     ·exact hne h
     ·have:=hrow x h;omega
    show KeepsFrom w6.heap.size W _∧KpC w.heap.size g1 g2 W _∧I (pre++[⟨k,hkp⟩]) _
    refine⟨zOl hU (fun x h=> ?_),⟨hU.below hSB hxw.size,hU.block g1 hc1w.lt hS1,hU.block g2 hc2w.lt hS2⟩, ?_⟩
    ·rcases h with h | h
     ·rw[h];exact⟨_,_,_,hb6w⟩
     ·obtain⟨cs,hcs⟩:=zDI hovW x h;exact⟨_,_,_,hcs⟩
    ·rw[HIe.out];refine⟨.slice A9 (np+1) c9, ?_,hb6n,hU.blk hbw (hSf gf hgfB hgf6),hU.blk hpw (hSf gp hgpB hgp6),hU.blk hrw (hSf gr hgrB hgr6),hU.blk hc1w hS1,hU.blk hc2w hS2,hU.ext hxw hSB,wD1 hszw hU.size⟩;have e:(pre++[(⟨k,hkp⟩:Fin p)]).map (fun x=>PL x.1)=pre.map (fun x=>PL x.1)++[pl]:=by rw[wH4,wC8,wC9,hplk]
     rw[e];exact hpz
end
def PdIs (E wd hi:Int) (L:List (List Int)) (w:World) (e:Ending) (w':World):Prop:= ∃ B k d,e=.returned (.tuple #[.agg (xG wd hi (.slice B k d)),.int .i64 E])∧RowsS w' B k d L∧Ext w w'
def rows_far {S:Nat→Prop} {w w':World} {B n c:Nat} {A:Option Addr} {L:List (List Int)} (h:RowsF w B A n c L) (hu:Upd S w w') (hS: ∀ x,S x→x<B):RowsS w' A n c L:=(h.upd hu hS).rows
def zNo:zAp Tryz.prog 56:=⟨_,Tryz.func56,rfl,rfl⟩
def zKJ:zAp Tryz.prog 63:=⟨_,Tryz.func63,rfl,rfl⟩
def zNr (F:FC) (hF:F.shaped) (s1 s2 sd:Value) (a b p nb m:Nat) (hw:F.wd=a) (hh:F.hi=b) (hp:F.pt=p) (a1:1≤a) (a2:a≤64) (b1:1≤b) (b2:b≤64) (hp13:p=1∨p=3) (hnb:qD a b=nb) (hm:nb*p=m) (w:World) :
 Calls Tryz.prog 56 #[.agg (F.cells s1 s2 sd)] w fun e w'=>e=.returned (.int .i64 (m:Int))∧Ext w w':=by
 have HF:=zA (fun W g (h:Blk W g 47 (F.cells s1 s2 sd))=>zBu h hF.1 (zU _ _ hF.2.1) (zU _ _ hF.2.2));rw[hw,hh,hp] at HF;have hs0:=zQl a1 a2 b1 b2
 have HM:Hid (∀ W,Calls Tryz.prog 65 #[.int .i64 (a:Int),.int .i64 (b:Int)] W fun e w'=>e=.returned (.tuple #[.int .i64 (nb:Int),.int .i64 0])∧Ext W w'):=zA (fun W=>by
  have:=zFK a b W;have e:zCn a b=(nb:Int):=by unfold zCn;rw[if_pos hs0, ←hnb];unfold qD;simp
  rw[e,hs0] at this
  exact this)
 have hn64:=zGQ a2 b2;rw[hnb] at hn64;have HMN:=zA hm
 have hm192:m≤192:=by
  rw[←hm];exact wD1 (wI6 hn64 (show p≤3 by omega)) (by omega)
 generalize F.cells s1 s2 sd=fv at *;clear hw hh hp hs0 hm hnb hF;go_enter Tryz.func56,Tryz.ntmps56
 go_wp2_with (first
  | ((with_reducible apply gS 1);refine wBox rfl 47 (.tmp 0) rfl fv rfl ?_;intro w1 gf hb1 hx1 hgf;have hf1:=HF.out _ _ hb1)
  | ((with_reducible apply gS 7);refine xC rfl (.int .i64 (a:Int)) (zV rfl rfl hf1.c0) ?_)
  | ((with_reducible apply gS 9);refine xC rfl (.int .i64 (b:Int)) (zV rfl rfl hf1.c1) ?_)
  | (go_at_call 65;(with_reducible refine (HM.out _).mono ?_);rintro e w3 ⟨rfl,hx3⟩;have hf3:=HF.out _ _ (hb1.ext hx3))
  | ((with_reducible apply gS 15);refine xC rfl (.int .i64 (p:Int)) (zV rfl rfl hf3.c2) ?_)
  | ((with_reducible apply gS 16);refine zB rfl (.int .i64 (m:Int)) (by rw[←HMN.out];exact zCI (i:=nb) (d:=p) rfl rfl rfl (by rw[HMN.out];omega)) ?_))
 go_ret;exact⟨rfl,hx1.trans hx3⟩
def zRW {wd hi pt:Int} {qs:List Int} {z1 z2 ev:Int} {n:Nat} (h:zDl wd hi pt qs z1 z2 ev n=0) :
 ∃ a b p:Nat,wd=a∧hi=b∧pt=p∧1≤a∧a≤64∧1≤b∧b≤64∧(p=1∨p=3)∧0≤ev∧ev≤100∧zR qs 1 255=true∧z1=0∧z2=0∧n≤90000:=by
 unfold zDl at h;split at h
 ·rename_i hc;simp only[wA9] at hc;obtain⟨k1,k2,k3,hp⟩:=zHC hc.1;rw[jS] at k1 k2 k3
  by_cases h1:z1=0
  ·rw[if_pos h1] at h
   by_cases h2:z2=0
   ·rw[if_pos h2] at h
    by_cases h3:90000<n
    ·rw[if_pos h3] at h;cases h
    ·exact⟨wd.toNat,hi.toNat,pt.toNat,by omega,by omega,by omega,by omega,by omega,by omega,by omega,by omega,k3.1,k3.2,hc.2,h1,h2,by omega⟩
   ·rw[if_neg h2] at h;exact absurd h h2
  ·rw[if_neg h1] at h;exact absurd h h1
 ·cases h
end Go.Proofs.YtkggcjdlpendfaaGreatDoor
