/- Contracts of the functions that the law reaches, part 33. -/
import Derived.RangeFuncNested
import Derived.RangeFuncBound
import Derived.RangeFuncCalls
import Derived.RangeFuncLeaves
import Derived.OwnWalkIn
import Derived.TacticsInMore
import Derived.LoopNIn
import Derived.LoopIn
import Derived.Test.YtkggcjdlpendfaaGreatDoorMTopCoarseCard32
namespace Go.Proofs.YtkggcjdlpendfaaGreatDoor
set_option linter.unusedVariables false
set_option linter.unusedSimpArgs false
set_option maxRecDepth 20000
set_option maxHeartbeats 8000000
open Go.RowKit
def tfrom:Int→Int→Int→Four:=fun y u v=>uX frM [y,u,v]
theorem tfrom_by:zEy 115 tfrom:=fun a b c w=>zOh a b c w
theorem goesFrom:zAP Tryz.prog 115:=⟨_,Tryz.func115,rfl,rfl⟩
def zBX (zs:List Int):List Int:=zs.map fun z=>qZ z (-40000) 40000
theorem zDk (zs:List Int):(zBX zs).length=zs.length:=by simp[zBX]
def shB (b q:List Int):List Int:=zBX (vD frC (jF upF b q 2047).1).1
theorem shB_len (b q:List Int):(shB b q).length=64:=by rw[shB,zDk];exact zCU frC _
def zAW (q X:List Int):Nat→List Int
 | 0=>[]
 | k+1=>zAW q X k++shB (jV X k) q
theorem zGH (q X:List Int): ∀ k,(zAW q X k).length=k*64
 | 0=>rfl
 | k+1=>by rw[zAW,wF1,zGH q X k,shB_len];omega
theorem clampL_in (zs:List Int): ∀ z∈zBX zs, -40000≤z∧z≤40000:=by
 intro z hz
 obtain⟨y, -,rfl⟩:=wD6.1 hz
 exact zGS y _ _ (by omega)
theorem mapS_in (q X:List Int): ∀ k, ∀ z∈zAW q X k, -40000≤z∧z≤40000
 | 0,z,hz=>by cases hz
 | k+1,z,hz=>by
   rw[zAW] at hz
   rcases wE5.1 hz with h | h
   ·exact mapS_in q X k z h
   ·exact clampL_in _ z h
def sect (X:List Int) (n k:Nat):List Int:=(X.drop (k*n*64)).take (n*64)
def zEN (q X:List Int) (a b k:Nat):List Int:=zHy (zAW q (sect X (yY a b) k) (yY a b)) a b
theorem zJQ (q X:List Int) (a b k:Nat):(zEN q X a b k).length=a*b:=zHS _ _ _
def zAd (q X:List Int) (a b p:Nat):List (List Int):=(List.range p).map (zEN q X a b)
theorem zPE (q X:List Int) (a b p:Nat):(zAd q X a b p).length=p:=by simp[zAd]
theorem zNL (q X:List Int) (a b p:Nat): ∀ l∈zAd q X a b p,l.length=a*b:=by
 intro l hl
 obtain⟨k, -,rfl⟩:=wD6.1 hl
 exact zJQ q X a b k
def zCo (q X:List Int) (a b p:Nat):List (List Int):=zBM tfrom (zAd q X a b p)
theorem zNy {a b:Nat} (a1:1≤a) (a2:a≤64) (b1:1≤b) (b2:b≤64):xJ a b=0:=by
 unfold xJ
 rw[if_pos]
 simp[inB]
 omega
theorem zPt (q X:List Int) (a b:Nat) (a1:1≤a) (a2:a≤64) (b1:1≤b) (b2:b≤64):zCu (yY a b) (zAW q X (yY a b)) a b (xJ a b)=0:=by
 unfold zCu
 rw[if_pos (zNy a1 a2 b1 b2)]
 simp only[wE8]
 rw[if_pos (yD.2 (mapS_in q X _))]
 simp
theorem zEt {a b:Nat} (a2:a≤64) (b2:b≤64):yY a b≤64:=by
 unfold yY
 have h1:(a+7)/8≤8:=by omega
 have h2:(b+7)/8≤8:=by omega
 exact wI3 h1 h2
theorem cutN_pos {a b:Nat} (a1:1≤a) (b1:1≤b):1≤yY a b:=by
 unfold yY
 have h1:1≤(a+7)/8:=by omega
 have h2:1≤(b+7)/8:=by omega
 exact wI3 h1 h2
def PicIs (wd hi:Int) (L:List (List Int)) (w:World) (e:Ending) (w':World):Prop:= ∃ B k d,e=.returned (.agg (yX wd hi (.slice B k d)))∧RowsF w' w.heap.size B k d L∧Ext w w'
theorem builtPicS (a b:Int):Tryz.prog.built 31 [(0,.int .i64 a),(1,.int .i64 b)]=some (yX a b (.slice none 0 0)):=by
 show _=_
 kernel_rfl
theorem zJi:Tryz.prog.built 31 []=some (yX 0 0 (.slice none 0 0)):=by
 show _=_
 kernel_rfl
theorem zFg:(Tryz.prog.info? 31).bind (·.zero)=some (.agg (yX 0 0 (.slice none 0 0))):=by kernel_rfl
theorem zEC (a b:Int) (A:Option Addr) (n c:Nat):(yX a b (.slice A n c)).all (·.oneCell')=true:=by simp[yX,Value.oneCell']
theorem elt_rowS:Elt Tryz.prog 29 22 1 24:=⟨Tryz.underlying29,by kernel_rfl,by omega⟩
theorem join_show (q X:List Int) (a b:Nat) (a1:1≤a) (a2:a≤64) (b1:1≤b) (b2:b≤64) (k:Nat) (v:Value) (W:World) (h:SL W 64 v (yY a b) (ints (zAW q (sect X (yY a b) k) (yY a b)))) :
 Calls Tryz.prog 114 #[v,.int .i64 (a:Int),.int .i64 (b:Int)] W fun e W'=> ∃ D d,e=.returned (.tuple #[.slice D (a*b) d,.int .i64 0])∧SL W' 1 (.slice D (a*b) d) (a*b) (ints (zEN q X a b k))∧Ext W W'∧ ∀ ad,D=some ad→W.heap.size≤ad.block :=
 (join_any _ _ v a b W h (zGH _ _ _)).mono fun e W' h=>by
   unfold zEw at h
   rw[zPt q _ a b a1 a2 b1 b2,if_pos rfl,if_pos rfl] at h
   simp only[wE8] at h
   obtain⟨D,m,d,he,rfl,h1,h2,h3⟩:=h
   exact⟨D,d,he,h1,h2,h3⟩
theorem planes_ok {q X:List Int} {a b p:Nat} (hp:p=1∨p=3):(zAd q X a b p).length=1∨(zAd q X a b p).length=3:=by rw[zPE];exact hp
theorem area_le {a b:Nat} (a2:a≤64) (b2:b≤64):a*b≤1000000:=wD1 (wI3 a2 b2) (by omega)
theorem turn_show (q X:List Int) (a b p:Nat) (a2:a≤64) (b2:b≤64) (hp:p=1∨p=3) (W:World) (B:Nat) (hB:B≤W.heap.size) (A:Option Addr) (n c:Nat) (h:PartsAt W B (.slice A n c) (zAd q X a b p)) :
 Calls Tryz.prog 38 #[.slice A n c,.func (.func 115) #[] #[]] W (TurnF (zCo q X a b p) B W) :=
 zQF 115 tfrom tfrom_by goesFrom A n c _ (a*b) W (planes_ok hp) (zNL q X a b p) (area_le a2 b2) B hB h.far
theorem SL.sect {w:World} {A:Option Addr} {m c n k lo:Nat} {X:List Int} (h:SL w 64 (.slice A m c) m (ints X)) (hlo:k*n=lo) (hm:lo+n≤m):SL w 64 (.slice (zCp A c lo) n (c-lo)) n (ints (sect X n k)):=by
 have:=h.subK (l:=lo) (h:=lo+n) (by omega) hm
 rw[wN0] at this
 unfold Go.Proofs.YtkggcjdlpendfaaGreatDoor.sect
 rw[hlo]
 unfold ints at this ⊢
 rwa [←wG9, ←wG8] at this
theorem sect_len {X:List Int} {m n k lo:Nat} (hX:X.length=m*64) (hlo:k*n=lo) (hm:lo+n≤m):(sect X n k).length=n*64:=by
 unfold sect
 rw[wI4,wJ4,hX,hlo]
 have:=wI5 64 hm
 rw[wJ1] at this
 omega
def zAN (P:List Int) (i:Nat):List Int:=zBX (P.take i)++P.drop i
theorem clampM_0 (P:List Int):zAN P 0=P:=by simp[zAN,zBX]
theorem zRH (P:List Int) (h:P.length=64):zAN P 64=zBX P:=by unfold zAN;rw[wC4 (by omega),wG2 (by omega),wG3]
theorem zQd (P:List Int) (i:Nat) (h:P.length=64) (hi:i≤64):(zAN P i).length=64:=by
 unfold zAN
 rw[wF1,zDk,wI4,wJ4]
 omega
theorem zRF (P:List Int) (i:Nat) (z:Int) (hz:P[i]? =some z):(zAN P i).set i (qZ z (-40000) 40000)=zAN P (i+1):=by
 have hi:i<P.length:=(wC2.1 hz).1
 have hzi:P[i]=z:=by rw[wA2 hi] at hz;exact Option.some.inj hz
 unfold zAN
 have hl:(zBX (P.take i)).length=i:=by rw[zDk,wI4];omega
 rw[wF6 _ _ (by omega),hl,wF7,wG1 hi,wF9,wC3 hi]
 simp[zBX,hzi]
theorem bv_get {xs:List Int} {i:Nat} {z:Int} (h:xs[i]? =some z):(bv xs)[i]? =some (.int .i64 z):=by
 unfold bv ints
 rw[wH2,wC0,h]
 rfl
theorem zKL {ops:Array Oper} {Q:Exit→Act→World→Prop} {rest:List Oper} {o:Oper} {a:Act} {w:World} (hg:o.guard=none) (x y:Operand) (ho:o.op=.store 29 x y) (g i:Nat) (A:Option Addr) (n c:Nat) (hx:a.eval x=.pointer (some ⟨g,i,none⟩)) (hy:a.eval y=.slice A n c)
 {t:TypeId} {cs:Array Value} (hB:Blk w g t cs) (hi:i<cs.size) (h:wpList Tryz.prog ops Q rest (a.put o.dst undef) (w.setCell ⟨g,i,none⟩ (.slice A n c))):wpList Tryz.prog ops Q (o::rest) a w :=
 wpList_plain hg fun _ hK=>by
  have hc:=(hB.cell i).trans (wF0 hi)
  have hf:=hB.frozen i
  unfold Oper.wp execOp
  simp only[ho,hx,hy]
  go_simp
  exact hK _ _ h
theorem picV_set (a b:Int) (u v:Value):(yX a b u).setIfInBounds 2 v=yX a b v:=rfl
theorem upon_in {l n:Nat} {P:Program} {o:Oper} {a:Act} {K K':Act→World→Prop} {Q:Exit→Act→World→Prop} (hK: ∀ a w,K a w→K' a w) (r:Result Next) (h:o.upon P a K Q r):o.uponIn (Fence.wide.inRound l) n P a K' Q r:=by
 cases r with
 | ok v w' =>
   cases v with
   | value v=>exact hK _ _ h
   | skip=>exact hK _ _ h
   | defer d=>exact hK _ _ h
   | enter f args =>
     refine⟨fun q=>(by cases q),CallsIn.inRound l (callsIn_wide.2 (Calls.mono h ?_))⟩
     intro e w'' h
     cases e with
     | returned v=>exact hK _ _ h
     | panicked ch=>exact h
     | outgrown=>exact h
   | row row args =>
     refine⟨fun q=>(by cases q),fun c cs _=> ?_⟩
     obtain⟨v,w',r,s⟩:=h c cs
     exact⟨v,w',hK _ _ r,stepsIn_wide.2 s⟩
   | _=>exact h.elim
 | halt h0 w' =>
   cases h0 with
   | panic v=>exact h
   | _=>exact h.elim
theorem wl_in {l n:Nat} {P:Program} {ops:Array Oper} {Q:Exit→Act→World→Prop} (hQ: ¬LetsOut Q): ∀ (rest:List Oper) (a:Act) (w:World),(rest.all fun o=>match o.op with | .defer _=>false | _=>true)=true→wpList P ops Q rest a w→wpListIn (Fence.wide.inRound l) n P ops Q rest a w
 | [],_,_,_,h=>h
 | o::rest,a,w,hd,h=>by
   rw[List.all_cons,wA9] at hd
   have hdo: ∀ c,o.op≠.defer c:=fun c e=>by have:=hd.1;rw[e] at this;cases this
   unfold wpList at h
   unfold wpListIn
   split
   ·rename_i hw
    rw[if_pos hw] at h
    rcases h with h | h
    ·refine⟨fun f _=>trivial, ?_⟩
     show o.uponIn _ n P a _ Q ((o.semAt (some l) a.eval).run P w)
     rw[Oper.semAt_some l _ o hdo]
     exact upon_in (fun a w h=>wl_in hQ rest a w hd.2 h) _ h
    ·exact absurd h.2 hQ
   ·rename_i hw
    rw[if_neg hw] at h
    exact⟨fun f _=>trivial,wl_in hQ rest _ _ hd.2 h⟩
theorem qT {l n id:Nat} {P:Program} {L:List Oper} {Q:Exit→Act→World→Prop} {a:Act} {w:World} (hQ: ¬LetsOut Q) (hd:(L.all fun o=>match o.op with | .defer _=>false | _=>true)=true) (h:wpList P L.toArray Q L a w) :
 (Code.region id L.toArray false).wpIn (Fence.wide.inRound l) n P Q a w:=wpIn_region_lit (wl_in hQ L a w hd h)
section
open Go.RowKit Go.Shelf
attribute [local go_sem] Oper.semAt_some
theorem ext_grown {w w':World} (h:Ext w w'):w.grownBy w' none:=⟨h.os,h.tape,h.output,h.size,fun k hk _=>h.block k hk⟩
theorem zAp {n:Nat} {P:Program} {ops:Array Oper} {Q:Exit→Act→World→Prop} {rest:List Oper} {o:Oper} {a:Act} {w:World} (hg:o.guard=none) (v:Value) (h1:(execOp a.eval o).run P w=.ok (.value v) w)
 (h:wpListIn Fence.wide n P ops Q rest (a.put o.dst v) w):wpListIn Fence.wide n P ops Q (o::rest) a w :=
 wpListIn_plain hg fun K hK=>⟨fun _ _=>trivial,by
  show o.uponIn _ n P a K Q ((execOp a.eval o).run P w)
  rw[h1]
  exact hK _ _ h⟩
theorem zEV {o:Oper} {a:Act} {x:Operand} (ho:o.op=.load 25 x) {p:Addr} (hx:a.eval x=.pointer (some p)) {A:Option Addr} {n c:Nat} {w:World} (h:w.cell? p=some (.slice A n c)):(execOp a.eval o).run Tryz.prog w=.ok (.value (.slice A n c)) w:=by
 have hr:(loadVar 25 p).run Tryz.prog w=.ok (.slice A n c) w:=by
  have hi:(Tryz.prog.info? 25).map (·.size)=some 1:=by kernel_rfl
  simp[loadVar,Sem.run_bind,isAgg,run_underlying Tryz.underlying25,run_load,h]
 simp[execOp,ho,hx,Instr.loadAt,Instr.sureAddr,Sem.run_bind,hr]
def zEj (A:Addr) (n k:Nat):Value:=.slice (some (A.add (k*n*64))) n n
theorem run_subM0 (A:Addr) (m c l h:Nat) (hn:l<h) (hh:h≤m) (hc:m≤c) (w:World) :
 (Instr.slice 25 (.slice (some A) m c) (some (.int .i64 (l:Int))) (some (.int .i64 (h:Int))) (some (.int .i64 (h:Int)))).run Tryz.prog w=.ok (.slice (some (A.add (l*64))) (h-l) (h-l)) w:=by
 have e1:((l:Int)≤(h:Int)):=by omega
 have e2:((h:Int)≤(c:Int)):=by omega
 have e4: ¬h=l:=by omega
 have e5:l≤h:=by omega
 go_simp
theorem run_subM (A:Addr) (m c l n:Nat) (hn:1≤n) (hh:l+n≤m) (hc:m≤c) (w:World) :
 (Instr.slice 25 (.slice (some A) m c) (some (.int .i64 (l:Int))) (some (.int .i64 ((l+n:Nat):Int))) (some (.int .i64 ((l+n:Nat):Int)))).run Tryz.prog w=.ok (.slice (some (A.add (l*64))) n n) w:=by
 have:=run_subM0 A m c l (l+n) (by omega) hh hc w
 rwa [wN0] at this
theorem ex_subM {o:Oper} {a:Act} {x lo hi mx:Operand} (ho:o.op=.slice 25 x (some lo) (some hi) (some mx)) {A:Addr} {m c l n h:Nat} (hx:a.eval x=.slice (some A) m c) (h1:a.eval lo=.int .i64 (l:Int)) (h2:a.eval hi=.int .i64 (h:Int)) (h3:a.eval mx=.int .i64 (h:Int)) (hlh:l+n=h) (hn:1≤n) (hh:h≤m) (hc:m≤c) (w:World) :
 (execOp a.eval o).run Tryz.prog w=.ok (.value (.slice (some (A.add (l*64))) n n)) w:=by
 subst hlh
 simp only[execOp,ho,hx,h1,h2,h3,Instr.sliceAt,Sem.run_bind,run_underlying Tryz.underlying25,Option.map_some,run_subM A m c l n hn hh hc w,Result.andThen_ok,Sem.run_pure]
theorem chunk_any (A:Option Addr) (m c n:Nat) (hn:1≤n) (w:World) :
 Calls Tryz.prog 111 #[.slice A m c,.int .i64 (n:Int)] w fun e w'=> ∃ g1 g2,e=.returned (.func (.func 165) #[] #[.pointer (some ⟨g1,0,none⟩),.pointer (some ⟨g2,0,none⟩)])∧Blk w' g1 25 #[.slice A m c]∧Blk w' g2 3 #[.int .i64 (n:Int)]∧w.heap.size≤g1∧w.heap.size≤g2∧Ext w w':=by
 have hn1:decide ((n:Int)<1)=false:=by rw[decide_eq_false_iff_not];omega
 go_enter Tryz.func111,Tryz.ntmps111
 go_wp2_with (first
  | ((with_reducible apply gS 2);refine wBox rfl 25 (.tmp 0) rfl #[.slice A m c] rfl ?_;intro w1 g1 hb1 hx1 hg1)
  | ((with_reducible apply gS 3);refine wBox rfl 3 (.tmp 1) rfl #[.int .i64 (n:Int)] rfl ?_;intro w2 g2 hb2 hx2 hg2;have hb12:=hb1.ext hx2;have hc2:w2.cell? ⟨g2,0,none⟩=some (.int .i64 (n:Int)):=hb2.cell 0)
  | ((with_reducible apply gS 5);refine yW rfl (.int .i64 (n:Int)) (zQ rfl rfl hc2) ?_)
  | ((with_reducible apply gS 6);refine zB rfl (.bool false) (zR rfl rfl rfl hn1) ?_))
 go_ret
 exact⟨g1,g2,rfl,hb12,hb2,hg1,wD1 hx1.size hg2,hx1.trans hx2⟩
end
section
open Go.RowKit Go.Shelf
attribute [local go_sem] Oper.semAt_some
def KpC (n₀ g1 g2:Nat) (W W':World):Prop:=Below n₀ W W'∧W'.heap[g1]? =W.heap[g1]? ∧W'.heap[g2]? =W.heap[g2]?
theorem KpC.trans {n₀ g1 g2:Nat} {A B C:World} (h:KpC n₀ g1 g2 A B) (k:KpC n₀ g1 g2 B C):KpC n₀ g1 g2 A C:=⟨h.1.trans k.1,k.2.1.trans h.2.1,k.2.2.trans h.2.2⟩
theorem zQR {β:Type} {B:Nat} {J:β→World→Prop} (h:AbidesFrom B J) {s:β} {W W':World} (hs:J s W) (hx:Ext W W'):J s W':=h s W W' none hs (ext_grown hx) (fun _ e=>by cases e)
theorem finTake {p k:Nat} (hk:k<p):(List.finRange p).take (k+1)=(List.finRange p).take k++[⟨k,hk⟩]:=by
 rw[wC3 (by simpa using hk)]
 simp
set_option maxRecDepth 100000 in
theorem chunk1_in (N l g1 g2 n₀ B:Nat) (A:Addr) (m c n p:Nat) (hn:1≤n) (hm:m=p*n) (hmc:m≤c) (hm4:m≤100000) (J Jx:List (Fin p)→World→Prop) (hJ:AbidesFrom B J) (hJx:AbidesFrom B Jx)
 (hY: ∀ pre (x:Fin p) W1,J pre W1→pre.length<p→YieldAt Fence.wide (N-1) Tryz.prog l #[zEj A n x.1] W1 fun e W'=>(e=.returned (.bool true)∧J (pre++[x]) W'∧KpC n₀ g1 g2 W1 W')∨(e=.returned (.bool false)∧Jx (pre++[x]) W'))
 (W:World) (hb1:Blk W g1 25 #[.slice (some A) m c]) (hb2:Blk W g2 3 #[.int .i64 (n:Int)]) (h0:J [] W) :
 CallsIn Fence.wide N Tryz.prog 165 #[.func (.yield l) #[] #[],.pointer (some ⟨g1,0,none⟩),.pointer (some ⟨g2,0,none⟩)] W fun e W'=>(∃ v,e=.returned v) ∧
  ((∃ ys,ys=List.finRange p∧J ys W')∨(∃ pre,True∧Jx pre W')):=by
 have HM:=zA hm
 clear hm
 refine callsIn_of_wp Tryz.func165 rfl trivial ?_ rfl
 simp only[Tryz.ntmps165,List.size_toArray,wA8,wL7,Nat.reduceAdd,Nat.reduceSub,Array.replicate_succ,Array.replicate_zero,List.push_toArray,wP3,wK7,wK6]
 gi_wp2
 gi_loopw [4] (fun iv wr=> ∃ k lo:Nat,k≤p∧Hid (k*n=lo)∧iv=.int .i64 (lo:Int)∧J ((List.finRange p).take k) wr∧Blk wr g1 25 #[.slice (some A) m c]∧Blk wr g2 3 #[.int .i64 (n:Int)])
  (fun iv _=>m-(intOf iv).toNat)
 case atStart=>exact⟨0,0,by omega,zA (by simp),rfl,by simpa using h0,hb1,hb2⟩
 case round =>
  clear hb1 hb2 h0
  obtain⟨k,lo,hk,HLO,rfl,hJs,hb1,hb2⟩:=hrel
  have hc1:wr.cell? ⟨g1,0,none⟩=some (.slice (some A) m c):=hb1.cell 0
  have hc2:wr.cell? ⟨g2,0,none⟩=some (.int .i64 (n:Int)):=hb2.cell 0
  by_cases hkp:k<p
  ·have hlm:lo+n≤m:=by
    rw[HM.out, ←HLO.out]
    have:=wI5 n (show k+1≤p by omega)
    rw[wJ1] at this
    omega
   have hlt:decide ((lo:Int)<(m:Int))=true:=by rw[wB3];omega
   have HPV:Hid (zEj A n k=.slice (some (A.add (lo*64))) n n):=zA (by unfold zEj;rw[HLO.out])
   gi_wp2_with (first
    | ((with_reducible show wpListIn _ _ _ _ _ (⟨some 7,_,_,_,_,_⟩::_) _ _);refine zAp rfl (.slice (some A) m c) (zEV rfl rfl hc1) ?_)
    | ((with_reducible show wpListIn _ _ _ _ _ (⟨some 9,_,_,_,_,_⟩::_) _ _);refine zAp rfl (.bool true) (zR rfl rfl rfl hlt _) ?_))
   have hbd1: ∀ w',Ext wr.drew w'→w'.cell? ⟨g1,0,none⟩=some (.slice (some A) m c):=fun w' h=>(h.cell (p:=⟨g1,0,none⟩) hb1.lt).trans hc1
   have hbd2: ∀ w',Ext wr.drew w'→w'.cell? ⟨g2,0,none⟩=some (.int .i64 (n:Int)):=fun w' h=>(h.cell (p:=⟨g2,0,none⟩) hb2.lt).trans hc2
   refine wpIn_wide.2 ?_
   refine xW xX (by kernel_rfl) (by kernel_rfl) ?_
   simp only[Act.put,sA,sB,sC]
   refine yV (by rfl) (.int .i64 (n:Int)) (fun W hW=>zQ rfl rfl (hbd2 W hW)) ?_
   simp only[Act.put,sA,sB,sC]
   refine yV (by rfl) (.slice (some A) m c) (fun W hW=>zEV rfl rfl (hbd1 W hW)) ?_
   simp only[Act.put,sA,sB,sC]
   refine zE (by rfl) (.int .i64 (lo:Int)) (zC rfl rfl) ?_
   simp only[Act.put,sA,sB,sC]
   refine zE (by rfl) (.slice (zCp (some A) c lo) (m-lo) (c-lo)) (ex_subF rfl rfl rfl (by omega) hmc) ?_
   simp only[Act.put,sA,sB,sC]
   refine zE (by rfl) (.int .i64 ((m-lo:Nat):Int)) (ex_lenB rfl rfl) ?_
   simp only[Act.put,sA,sB,sC]
   refine zE (by rfl) (.int .i64 ((min n (m-lo):Nat):Int)) (zHs rfl rfl rfl) ?_
   simp only[Act.put,sA,sB,sC]
   refine zE (by rfl) (.int .i64 (n:Int)) (by rw[show n=min n (m-lo) by omega];exact zW rfl (by rw[show min (min n (m-lo)) (m-lo)=min n (m-lo) by omega];rfl)) ?_
   simp only[Act.put,sA,sB,sC]
   refine jA ?_
   intro w9 hx9
   have hJ9:=zQR hJ hJs ((Ext.refl wr).drew.trans hx9)
   have hb19:Blk w9 g1 25 #[.slice (some A) m c]:=hb1.drew.ext hx9
   have hb29:Blk w9 g2 3 #[.int .i64 (n:Int)]:=hb2.drew.ext hx9
   have hc19:=hbd1 w9 hx9
   obtain⟨hh,hhe⟩: ∃ hh,lo+n=hh:=⟨_,rfl⟩
   have HH:=zA hhe
   have hhm:hh≤m:=by omega
   clear hhe hbd1 hbd2 hc1 hc2 hb1 hb2 hJs
   obtain⟨fn,tmps,assign,body,hy,hR⟩:=hY _ ⟨k,hkp⟩ w9 hJ9 (by simp;omega)
   rw[←finTake hkp] at hR
   dsimp only at hy
   generalize hpv:zEj A n k=pv at *
   gi_wp2_with (first
    | ((with_reducible show wpListIn _ _ _ _ _ (⟨some 20,_,_,_,_,_⟩::_) _ _);refine zAp rfl (.slice (some A) m c) (zEV rfl rfl hc19) ?_)
    | ((with_reducible show wpListIn _ _ _ _ _ (⟨some 24,_,_,_,_,_⟩::_) _ _);refine zAp rfl (.int .i64 (hh:Int)) (by rw[←HH.out];exact zZ (i:=lo) (d:=n) rfl rfl rfl (by omega) _) ?_)
    | ((with_reducible show wpListIn _ _ _ _ _ (⟨some 27,_,_,_,_,_⟩::_) _ _);refine zAp rfl (.int .i64 (hh:Int)) (by rw[←HH.out];exact zZ (i:=lo) (d:=n) rfl rfl rfl (by omega) _) ?_)
    | ((with_reducible show wpListIn _ _ _ _ _ (⟨some 28,_,_,_,_,_⟩::_) _ _);refine zAp rfl pv (by rw[HPV.out];exact ex_subM rfl rfl rfl rfl rfl HH.out hn hhm hmc _) ?_))
   refine⟨fun h=>(by cases h),hR.mono ?_⟩
   rintro e W3 (⟨rfl,hJ3,hk3⟩ | ⟨rfl,hJx3⟩)
   ·have hb13:Blk W3 g1 25 #[.slice (some A) m c]:=hk3.2.1.trans hb19
    have hb23:Blk W3 g2 3 #[.int .i64 (n:Int)]:=hk3.2.2.trans hb29
    have hc23:W3.cell? ⟨g2,0,none⟩=some (.int .i64 (n:Int)):=hb23.cell 0
    gi_wp2_with (first
     | ((with_reducible show wpListIn _ _ _ _ _ (⟨some 11,_,_,_,_,_⟩::_) _ _);refine zAp rfl (.int .i64 (n:Int)) (zQ rfl rfl hc23) ?_)
     | ((with_reducible show wpListIn _ _ _ _ _ (⟨some 12,_,_,_,_,_⟩::_) _ _);refine zAp rfl (.int .i64 (hh:Int)) (by rw[←HH.out];exact zZ (i:=lo) (d:=n) rfl rfl rfl (by omega) _) ?_))
    go_roundw
    case rel=>exact⟨k+1,hh,by omega,zA (by rw[wJ1,HLO.out,wD5,HH.out]),by go_num,hJ3,hb13,hb23⟩
    case measure=>simp[intOf];have:=HH.out;omega
   ·gi_wp2
    refine bodyPost_ret (results_none rfl _ _ _) rfl ?_
    exact⟨⟨_,rfl⟩,.inr ⟨_,trivial,hJx3⟩⟩
  ·have ekp:k=p:=by omega
   have elo:lo=m:=by rw[←HLO.out,HM.out,ekp]
   subst elo
   have hlt:decide ((lo:Int)<(lo:Int))=false:=by rw[decide_eq_false_iff_not];omega
   have hJz:J (List.finRange p) wr:=by rw[ekp,wC4 (by simp)] at hJs;exact hJs
   gi_wp2_with (first
    | ((with_reducible show wpListIn _ _ _ _ _ (⟨some 7,_,_,_,_,_⟩::_) _ _);refine zAp rfl (.slice (some A) lo c) (zEV rfl rfl hc1) ?_)
    | ((with_reducible show wpListIn _ _ _ _ _ (⟨some 9,_,_,_,_,_⟩::_) _ _);refine zAp rfl (.bool false) (zR rfl rfl rfl hlt _) ?_))
   go_end0
   exact⟨⟨_,rfl⟩,.inl ⟨_,rfl,hJz⟩⟩
theorem zPe (N g1 g2 n₀:Nat) (A:Addr) (m c n p:Nat) (hn:1≤n) (hm:m=p*n) (hmc:m≤c) (hm4:m≤100000) (w:World) (hb1:Blk w g1 25 #[.slice (some A) m c]) (hb2:Blk w g2 3 #[.int .i64 (n:Int)]) :
 SeqStopsK Fence.wide N Tryz.prog 165 #[.pointer (some ⟨g1,0,none⟩),.pointer (some ⟨g2,0,none⟩)] (fun x:Fin p=> #[zEj A n x.1]) (KpC n₀ g1 g2) (fun ys=>ys=List.finRange p) (fun _=>True) p w:=fun l J Jx W hW hJ hJx hY h0 =>
 chunk1_in N l g1 g2 n₀ W.heap.size A m c n p hn hm hmc hm4 J Jx hJ hJx hY W (hb1.ext hW) (hb2.ext hW) h0
end
section
open Go.RowKit Go.Shelf
theorem range_one {α:Type} {P:Program} {n:Nat} {g:Operand} {assign body:Code} {p q:Tmp} {Q:Exit→Act→World→Prop} {a:Act} {w:World} {gf:Nat} {lb:Array Value} (hg:a.eval g=.func (.func gf) #[] lb) (eg: ∀ args w,(callFunc gf args).run P w=.ok (.enter gf args) w)
 {enc:α→Value} {Kp:World→World→Prop} {S:List α→Prop} {N:Nat} {w0:World} (hseq:SeqStopsK Fence.wide (n-1) P gf lb (fun x=> #[enc x]) Kp S (fun _=>True) N w0) (h1:1≤n)
 (hKt: ∀ {A B C:World},Kp A B→Kp B C→Kp A C) (hKb: ∀ (W:World) (l:Nat) (o o':Obj),w.heap.size≤l→W.heap[l]? =some o→o.isCells=false→o.isWalk=false→Kp W (W.putObj l o')) (hb0:Below w0.heap.size w0 w)
 (I:List α→World→Prop) (hI:OwnFrom w.heap.size I) (h0:I [] w)
 (hassign: ∀ (l:Nat) (x:α) (W:World) (K:Act→World→Prop),K { tmps:=(a.tmps.setIfInBounds p (enc x)).setIfInBounds q (enc x),defers:=[] } W→assign.wpIn (Fence.wide.inRound l) (n-1-1) P (Exit.then K (fun _ _ _=>False)) { tmps:=a.tmps.setIfInBounds p (enc x),defers:=[] } W)
 (hbody: ∀ (l:Nat) (pre:List α) (x:α) (W:World),I pre W→pre.length<N→body.wpIn (Fence.wide.inRound l) (n-1-1) P (ownPostG w.heap.size Kp I (fun _ _ _=>False) (pre++[x]) W) { tmps:=(a.tmps.setIfInBounds p (enc x)).setIfInBounds q (enc x),defers:=[] } W)
 (hdone: ∀ (D:Nat) (xs:List α) (W:World),w.heap.size≤D→S xs→I xs W→W.heap[D]? =some (.deferred (some []))→Q .normal { a with defers:={ target:=.collected D,args:= #[] }::a.defers } W) :
 (Code.rangeFunc g #[p] assign body).wp P Q a w :=
 (wpIn_wide (n:=n)).1 (wpIn_rangeFunc_ownG (ps:= #[p]) (assign:=assign) rfl h1 hg trivial eg hseq hKt hKb hb0 (fun _=>rfl) I (fun _ _ _=>False) hI (fun _ _ _ _ _ hs _ _=>hs) h0
   (fun x=>{ tmps:=(a.tmps.setIfInBounds p (enc x)).setIfInBounds q (enc x),defers:=[] })
   (fun l x W K hK=>by have:=hassign l x W K hK;simpa using this) hbody hdone (fun _ _ _ _ _ _ h _=>h.elim))
section
variable {X Y:World} {row:Option Nat}
theorem zDF {g:Nat} {T:TypeId} {cs:Array Value} (h:Blk X g T cs) (hg:X.grownBy Y row) (hr: ∀ r,row=some r→ ∃ o:Obj,X.heap[r]? =some o∧o.isCells=false):Blk Y g T cs :=
 (hg.block g h.lt (fun e=>by
   obtain⟨o,h1,h2⟩:=hr g e.symm
   unfold Blk at h
   rw[h] at h1
   injection h1 with h1
   subst h1
   cases h2)).trans h
theorem zKt {size n c:Nat} {A:Option Addr} {xs:List Value} (h:SL X size (.slice A n c) n xs) (hg:X.grownBy Y row) (hr: ∀ r,row=some r→ ∃ o:Obj,X.heap[r]? =some o∧o.isCells=false):SL Y size (.slice A n c) n xs:=by
 obtain⟨A',c',e,h1,h1',h2,h3⟩:=h
 injection e with e1 e2 e3
 subst e1 e3
 refine⟨A,c,rfl,h1,h1',h2,fun hn=> ?_⟩
 obtain⟨ad,ea,hlt,hc⟩:=h3 hn
 exact⟨ad,ea,wA1 hlt hg.size,fun j u hj=>cell_kept (hc j u hj) hg hr⟩
theorem zQC {B:Nat} {v:Value} {L:List (List Int)} (h:PartsAt X B v L) (hg:X.grownBy Y row) (hr: ∀ r,row=some r→ ∃ o:Obj,X.heap[r]? =some o∧o.isCells=false):PartsAt Y B v L:=by
 obtain⟨A,c,vs,rfl,ho,hp⟩:=h
 refine⟨A,c,vs,rfl,jP ho (zL hg) (fun b hb e=> ?_),fun k l hl=> ?_⟩
 ·obtain⟨cs,h1⟩:=zCX ho b hb
  obtain⟨o,h2,h3⟩:=hr b e
  rw[h1] at h2
  injection h2 with h2
  subst h2
  cases h3
 ·obtain⟨D,d,e,hs,hd⟩:=hp k l hl
  exact⟨D,d,e,zKt hs hg hr,fun ad ea=>by obtain⟨h1,h2,h3⟩:=hd ad ea;exact⟨h1,wA1 h2 hg.size,h3⟩⟩
end
theorem zMi {S:Nat→Prop} {B:Nat} {W W':World} (hu:Upd S W W') (hS: ∀ x,S x→ ∃ cs T r,W.heap[x]? =some (.cells cs T r)):KeepsFrom B W W' :=
 ⟨hu.size,fun k o _ hk ho=>by
  refine (hu.block k (wB6.1 hk).1 (fun h=> ?_)).trans hk
  obtain⟨cs,T,r,h1⟩:=hS k h
  rw[h1] at hk
  injection hk with hk
  subst hk
  cases ho⟩
end
end Go.Proofs.YtkggcjdlpendfaaGreatDoor
