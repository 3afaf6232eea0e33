import Derived.Test.YtkggcjdlpendfaaGreatDoorMTopHurtUptoCard4
set_option linter.all false
set_option maxRecDepth 20000
set_option maxHeartbeats 8000000
namespace Go.Proofs.YtkggcjdlpendfaaGreatDoor
open Go.RowKit Tryz
section
def infoRow:∃i,prog.info? 22=some i∧i.zero=some (.slice none 0 0)∧i.size=1∧i.bytes=24:=by
 have h1:(prog.info? 22).map (λi=>(i.zero,i.size,i.bytes))=some (some (.slice none 0 0),1,24):=by kernel_rfl
 cases hq:prog.info? 22 with
 | none=>rw[hq] at h1;cases h1
 | some i =>
   rw[hq] at h1;simp at h1;exact⟨i,rfl,h1.1,h1.2.1,h1.2.2⟩
def madeRows:madeCells (Value.slice none 0 0).cells 3= #[.slice none 0 0,.slice none 0 0,.slice none 0 0]:=by
 show _=_
 kernel_rfl
def zMQ {ops:Array Oper} {rest:List Oper} {o:Oper} {a:Act} {w:World} {Q:Exit→Act→World→Prop} (hg:o.guard=none) (dst:Option Tmp) (hdst:o.dst=dst) (x y:Operand) (ho:o.op=.makeSlice 29 x y)
 (hx:a.eval x=.int .i64 3) (hy:a.eval y=.int .i64 3)
 (h:∀w1 g,Blk w1 g 22 #[.slice none 0 0,.slice none 0 0,.slice none 0 0]→Ext w w1→w.heap.size≤g→wpList prog ops Q rest (a.put dst (.slice (some ⟨g,0,none⟩) 3 3)) w1):wpList prog ops Q (o::rest) a w:=by
 subst hdst;obtain⟨i,hi,hz,hs,hb⟩:=infoRow;have hr:=run_makeSlice (P:=prog) w 29 22 i (.slice none 0 0) underlying29 hi hz .i64 .i64 3 3 (by omega) (wN7 _) (by rw[hs];decide) (by rw[hb];decide) (by omega);rw[hs,show (3:Int).toNat*1=3 by decide,madeRows] at hr;refine wpList_plain hg λ_ hK=> ?_
 unfold Oper.wp execOp;simp only[ho,hx,hy,Sem.run_bind,hr,Result.andThen_ok,Sem.run_pure];exact hK _ _ (h _ _ (Blk.new w _ _) ((Ext.refl w).alloc _) (wA5 _))
def zMn (A:Option Addr) (n c:Nat) (L:List (List Int)) (F:Value) (w:World) (hr:RowsS w A n c L) (hn:n≠3) (hN:n≤1000000) :
 Calls prog 38 #[.slice A n c,F] w λe w'=>e=.returned (.slice A n c)∧w'=w:=by
 have H10:Hid (decide ((n:Int)≠3)=true):=zA (by rw[wB3];omega);clear hr hn;go_enter func38,ntmps38
 go_wp2_with (first
  | ((with_reducible apply gS 10);refine zB rfl (.bool true) (jW rfl rfl rfl H10.out) ?_))
 go_ret;exact⟨rfl,rfl⟩
def rowK (j k N h:Nat):Value:=if j<k then .slice (some ⟨h,0,none⟩) N N else .slice none 0 0
def rowsK (k N h0 h1 h2:Nat):Array Value:= #[rowK 0 k N h0,rowK 1 k N h1,rowK 2 k N h2]
def zPZ (k N h0 h1 h2 g:Nat) (hk:k<3):∃a0 a1 a2,(rowsK k N h0 h1 h2).setIfInBounds k (.slice (some ⟨g,0,none⟩) N N)=rowsK (k+1) N a0 a1 a2∧a0=(if k=0 then g else h0)∧a1=(if k=1 then g else h1)∧a2=(if k=2 then g else h2):=by
 refine⟨_,_,_, ?_,rfl,rfl,rfl⟩;have:k=0∨k=1∨k=2:=by omega
 rcases this with rfl | rfl | rfl<;>rfl
def zDQ (N i:Nat) (X:List Int):List Int:=X++List.replicate (N-i) 0
def zLR (N i:Nat) (X:List Int) (z:Int) (hX:X.length=i) (hi:i<N):(zDQ N i X).set i z=zDQ N (i+1) (X++[z]):=by unfold zDQ;rw[wL4 _ _ (by omega),hX,wL5,show N-i=(N-(i+1))+1 by omega,wG1,wJ9,wI7];rfl
def zLS (N i:Nat) (X:List Int) (hX:X.length=i) (hi:i≤N):(zDQ N i X).length=N:=by unfold zDQ;rw[wE2,wM9];omega
attribute [local irreducible] jN
def zIj (f:FuncId) (t:Int→Int→Int→Four) (hf:zGy f t) (hgo:zAn prog f) (A:Option Addr) (c:Nat) (la lb lc:List Int) (N:Nat) (ha:la.length=N) (hb:lb.length=N) (hc:lc.length=N) (hN:N≤1000000) (w:World) (hr:RowsS w A 3 c [la,lb,lc]) :
 Calls prog 38 #[.slice A 3 c,.func (.func f) #[] #[]] w λe w'=>∃B k d,e=.returned (.slice B k d)∧RowsF w' w.heap.size B k d [jN (·.1) t la lb lc N,jN (·.2.1) t la lb lc N,jN (·.2.2.1) t la lb lc N]∧Ext w w':=by
 have HF:=zA hf;obtain⟨pd,r0,B0,d0,rfl,hl0,hpb,hc0,hs0⟩:=hr.get (k:=0) (by omega);obtain⟨pd1,r1,B1,d1,hp1,hl1,-,hc1,hs1⟩:=hr.get (k:=1) (by omega);obtain⟨pd2,r2,B2,d2,hp2,hl2,-,hc2,hs2⟩:=hr.get (k:=2) (by omega);injection hl0 with hl0
 injection hl1 with hl1
 injection hl2 with hl2
 injection hp1 with hp1
 injection hp2 with hp2
 subst hl0 hl1 hl2 hp1 hp2;rw[ha] at hc0;rw[hb] at hc1;rw[hc] at hc2;have HC0:=zA (λW (h:Ext w W)=>(h.cell (p:=pd.add 0) (by rw[yH];exact hpb)).trans hc0);have HC1:=zA (λW (h:Ext w W)=>(h.cell (p:=pd.add 1) (by rw[yH];exact hpb)).trans hc1);have HC2:=zA (λW (h:Ext w W)=>(h.cell (p:=pd.add 2) (by rw[yH];exact hpb)).trans hc2)
 have HCK:=zA (λk (hk:k<3) W (h:Ext w W)=>(show ∃B d,W.cell? (pd.add (k*1))=some (.slice B N d) by
  rw[wD8];have:k=0∨k=1∨k=2:=by omega
  rcases this with rfl | rfl | rfl
  ·exact⟨_,_,HC0.out W h⟩
  ·exact⟨_,_,HC1.out W h⟩
  ·exact⟨_,_,HC2.out W h⟩))
 have HRO0:=zA (λi (h:i<N)=>row_at hs0 (by rw[ha];exact h));have HRO1:=zA (λi (h:i<N)=>row_at hs1 (by rw[hb];exact h));have HRO2:=zA (λi (h:i<N)=>row_at hs2 (by rw[hc];exact h));have H10:Hid (decide ((3:Int)≠3)=false):=zA (by decide);clear hf hr hc0 hc1 hc2 hs0 hs1 hs2 ha hb hc;go_enter func38,ntmps38
 go_wp2_with (first
  | ((with_reducible apply gS 10);refine zB rfl (.bool false) (jW rfl rfl rfl H10.out) ?_)
  | ((with_reducible apply gS 12);refine zMQ rfl (some 12) rfl _ _ rfl rfl rfl ?_;intro w1 g0 hb1 hx1 hg1))
 have hbi:Blk w1 g0 22 (rowsK 0 N 0 0 0):=hb1;clear hb1
 go_loopw [15] (λiv wr=>∃(k h0 h1 h2:Nat),k≤3∧iv=.int .i64 (k:Int)∧Blk wr g0 22 (rowsK k N h0 h1 h2)∧(0<k→Blk wr h0 3 (bv (List.replicate N 0))∧g0<h0)∧(1<k→Blk wr h1 3 (bv (List.replicate N 0))∧h0<h1)∧(2<k→Blk wr h2 3 (bv (List.replicate N 0))∧h1<h2)∧Ext w wr) (λi _=>3-(intOf i).toNat)
 case atStart=>exact⟨0,0,0,0,by omega,rfl,hbi,λh=>absurd h (by omega),λh=>absurd h (by omega),λh=>absurd h (by omega),hx1⟩
 case round =>
  clear hbi hx1;obtain⟨k,h0,h1,h2,hk,rfl,hbg,q0,q1,q2,hx⟩:=hrel
  by_cases hk3:k<3
  ·obtain⟨Bk,dk,hck⟩:=HCK.out k hk3 wr hx;obtain⟨a0,a1,a2,hset,ea0,ea1,ea2⟩:=zPZ k N h0 h1 h2 wr.heap.size hk3;have hgs:=hbg.lt
   go_wp2_with (first
    | ((with_reducible apply gS 22);refine zB rfl (.pointer (some (pd.add (k*1)))) (qP (i:=k) underlying29 uL rfl rfl rfl hk3) ?_)
    | ((with_reducible apply gS 23);refine yU rfl (.slice Bk N dk) (jV rfl rfl hck) ?_)
    | ((with_reducible apply gS 25);refine uH rfl (some 25) rfl _ _ rfl N hN rfl rfl ?_;intro w5 g5 hb5 hx5 hg5;have hbg5:=hbg.ext hx5)
    | ((with_reducible apply gS 26);refine zB rfl (.pointer (some ⟨g0,k,none⟩)) (zAH (i:=k) underlying29 uL rfl rfl rfl hk3) ?_)
    | ((with_reducible apply gT 26 25);refine zIx rfl _ _ rfl g0 k (some ⟨g5,0,none⟩) N N rfl rfl hbg5 (show k<3 from hk3) ?_;have hus:=(Upd.refl (λb=>b=g0) w5).setCell (p:=⟨g0,k,none⟩) rfl (.slice (some ⟨g5,0,none⟩) N N);have hb6:=hbg5.set_ k (.slice (some ⟨g5,0,none⟩) N N);have hx6:=hus.ext (hx.trans hx5) (λy hy=>by have:=hg1;omega);have hb56:=hus.blk hb5 (by omega);generalize w5.setCell ⟨g0,k,none⟩ (.slice (some ⟨g5,0,none⟩) N N)=w6 at *))
   obtain⟨a0,a1,a2,hset,ea0,ea1,ea2⟩:=zPZ k N h0 h1 h2 g5 hk3;rw[hset] at hb6;go_roundw
   case rel =>
    refine⟨k+1,a0,a1,a2,by omega,by go_num,hb6, ?_, ?_, ?_,hx6⟩
    ·intro _;rw[ea0];split
     ·exact⟨hb56,by omega⟩
     obtain⟨p1,p2⟩:=q0 (by omega);exact⟨hus.blk (p1.ext hx5) (by omega),p2⟩
    ·intro _;rw[ea0,ea1];rw[if_neg (show ¬k=0 by omega)];obtain⟨p1,p2⟩:=q0 (by omega);split
     ·exact⟨hb56,by have:=p1.lt;omega⟩
     obtain⟨p3,p4⟩:=q1 (by omega);exact⟨hus.blk (p3.ext hx5) (by omega),p4⟩
    intro _;rw[ea1,ea2];rw[if_neg (show ¬k=1 by omega)];obtain⟨p1,p2⟩:=q1 (by omega);obtain⟨p3,p4⟩:=q0 (by omega);rw[if_pos (show k=2 by omega)];exact⟨hb56,by have:=p1.lt;omega⟩
   case measure=>simp[intOf];omega
  obtain rfl:k=3:=by omega
  obtain⟨hb0,hg0⟩:=q0 (by omega);obtain⟨hb1,hg1'⟩:=q1 (by omega);obtain⟨hb2,hg2'⟩:=q2 (by omega);have hbg':Blk wr g0 22 #[.slice (some ⟨h0,0,none⟩) N N,.slice (some ⟨h1,0,none⟩) N N,.slice (some ⟨h2,0,none⟩) N N]:=hbg;have T0:∀s:Four→Int,jN s t la lb lc 0=[]:=λs=>by rw[jN]
  have hbr0:Blk wr h0 3 (bv (zDQ N 0 (jN (·.1) t la lb lc 0))):=by rw[T0];exact hb0
  have hbr1:Blk wr h1 3 (bv (zDQ N 0 (jN (·.2.1) t la lb lc 0))):=by rw[T0];exact hb1
  have hbr2:Blk wr h2 3 (bv (zDQ N 0 (jN (·.2.2.1) t la lb lc 0))):=by rw[T0];exact hb2
  clear q0 q1 q2 hbg hb0 hb1 hb2;have hcl:=HC0.out wr hx
  go_wp2_with (first
   | ((with_reducible apply gS 29);refine zB rfl (.pointer (some (pd.add (0*1)))) (qP (i:=0) underlying29 uL rfl rfl rfl (by omega)) ?_)
   | ((with_reducible apply gS 30);refine yU rfl (.slice B0 N d0) (jV rfl rfl hcl) ?_))
  clear T0 hcl
  go_loopw [32] (λiv wq=>∃i:Nat,i≤N∧iv=.int .i64 (i:Int)∧Blk wq g0 22 #[.slice (some ⟨h0,0,none⟩) N N,.slice (some ⟨h1,0,none⟩) N N,.slice (some ⟨h2,0,none⟩) N N]∧Blk wq h0 3 (bv (zDQ N i (jN (·.1) t la lb lc i)))∧Blk wq h1 3 (bv (zDQ N i (jN (·.2.1) t la lb lc i)))∧Blk wq h2 3 (bv (zDQ N i (jN (·.2.2.1) t la lb lc i)))∧Ext w wq) (λi _=>N-(intOf i).toNat)
  case atStart=>exact⟨0,by omega,rfl,hbg',hbr0,hbr1,hbr2,hx⟩
  case round =>
   clear hbg' hbr0 hbr1 hbr2 hx;obtain⟨i,hi,rfl,hbg,hb0,hb1,hb2,hx⟩:=hrel
   by_cases hlt:i<N
   ·obtain⟨q0,rfl,hqb0,hqc0⟩:=HRO0.out i hlt;obtain⟨q1,rfl,hqb1,hqc1⟩:=HRO1.out i hlt;obtain⟨q2,rfl,hqb2,hqc2⟩:=HRO2.out i hlt;have HQ0:=zA (λW (h:Ext w W)=>(h.cell (p:=q0.add i) (by rw[yH];exact hqb0)).trans hqc0);have HQ1:=zA (λW (h:Ext w W)=>(h.cell (p:=q1.add i) (by rw[yH];exact hqb1)).trans hqc1);have HQ2:=zA (λW (h:Ext w W)=>(h.cell (p:=q2.add i) (by rw[yH];exact hqb2)).trans hqc2);clear hqb0 hqc0 hqb1 hqc1 hqb2 hqc2;generalize hpa:la.getD i 0=pa at *;generalize hpb':lb.getD i 0=pb at *;generalize hpc:lc.getD i 0=pc at *;have HTN:Hid (∀s:Four→Int,jN s t la lb lc (i+1)=jN s t la lb lc i++[s (t pa pb pc)]):=zA (λs=>by rw[jN,hpa,hpb',hpc]);have HTL:=zA (λs:Four→Int=>uP s t la lb lc i);have HFC:=zA (λW=>HF.out pa pb pc W);clear hpa hpb' hpc;obtain⟨z0,z1,z2,z3⟩:Four:=t pa pb pc;generalize ht:t pa pb pc=z at *;obtain⟨z0,z1,z2,z3⟩:=z;dsimp only at HFC;have HT0:=zA (HTN.out (·.1));have HT1:=zA (HTN.out (·.2.1));have HT2:=zA (HTN.out (·.2.2.1));have HL0:=zA (HTL.out (·.1));have HL1:=zA (HTL.out (·.2.1));have HL2:=zA (HTL.out (·.2.2.1));dsimp only at HT0 HT1 HT2;clear HTN ht HTL;generalize jN (·.1) t la lb lc i=X0 at *;generalize jN (·.2.1) t la lb lc i=X1 at *;generalize jN (·.2.2.1) t la lb lc i=X2 at *;have hs0:i<(bv (zDQ N i X0)).size:=by rw[zK,zLS N i X0 HL0.out (by omega)];exact hlt
    have hs1:i<(bv (zDQ N i X1)).size:=by rw[zK,zLS N i X1 HL1.out (by omega)];exact hlt
    have hs2:i<(bv (zDQ N i X2)).size:=by rw[zK,zLS N i X2 HL2.out (by omega)];exact hlt
    go_wp2_with fail;have hI:Ext w wr.drew∧Blk wr.drew g0 22 #[.slice (some ⟨h0,0,none⟩) N N,.slice (some ⟨h1,0,none⟩) N N,.slice (some ⟨h2,0,none⟩) N N]:=⟨hx.drew,hbg.drew⟩
    refine qR (λW=>Ext w W∧Blk W g0 22 #[.slice (some ⟨h0,0,none⟩) N N,.slice (some ⟨h1,0,none⟩) N N,.slice (some ⟨h2,0,none⟩) N N]) (by kernel_rfl) ?_;refine zG (k:=0) (by kernel_rfl) rfl (by rfl) (.slice (some ⟨g0,0,none⟩) 3 3) (zD rfl rfl) hI ?_;simp only[sP,sB,sC];refine zG (k:=1) (by kernel_rfl) rfl (by rfl) (.pointer (some ⟨g0,0,none⟩)) (zAH (i:=0) underlying29 uL rfl rfl rfl (by omega)) hI ?_;simp only[sP,sB,sC];refine xE (k:=2) (by kernel_rfl) rfl (by rfl) (.slice (some ⟨h0,0,none⟩) N N) (λW hW=>jV rfl rfl (by rw[hW.2.cell];rfl)) hI ?_;simp only[Act.put,sA,sB,sC];refine zG (k:=3) (by kernel_rfl) rfl (by rfl) (.int .i64 (i:Int)) (zD rfl rfl) hI ?_;simp only[sP,sB,sC];refine zG (k:=4) (by kernel_rfl) rfl (by rfl) (.slice (some ⟨g0,0,none⟩) 3 3) (zD rfl rfl) hI ?_;simp only[sP,sB,sC];refine zG (k:=5) (by kernel_rfl) rfl (by rfl) (.pointer (some ⟨g0,1,none⟩)) (zAH (i:=1) underlying29 uL rfl rfl rfl (by omega)) hI ?_;simp only[sP,sB,sC];refine xE (k:=6) (by kernel_rfl) rfl (by rfl) (.slice (some ⟨h1,0,none⟩) N N) (λW hW=>jV rfl rfl (by rw[hW.2.cell];rfl)) hI ?_;simp only[Act.put,sA,sB,sC];refine zG (k:=7) (by kernel_rfl) rfl (by rfl) (.int .i64 (i:Int)) (zD rfl rfl) hI ?_;simp only[sP,sB,sC];refine zG (k:=8) (by kernel_rfl) rfl (by rfl) (.slice (some ⟨g0,0,none⟩) 3 3) (zD rfl rfl) hI ?_;simp only[sP,sB,sC];refine zG (k:=9) (by kernel_rfl) rfl (by rfl) (.pointer (some ⟨g0,2,none⟩)) (zAH (i:=2) underlying29 uL rfl rfl rfl (by omega)) hI ?_;simp only[sP,sB,sC];refine xE (k:=10) (by kernel_rfl) rfl (by rfl) (.slice (some ⟨h2,0,none⟩) N N) (λW hW=>jV rfl rfl (by rw[hW.2.cell];rfl)) hI ?_;simp only[Act.put,sA,sB,sC];refine zG (k:=11) (by kernel_rfl) rfl (by rfl) (.int .i64 (i:Int)) (zD rfl rfl) hI ?_;simp only[sP,sB,sC];refine zG (k:=12) (by kernel_rfl) rfl (by rfl) (.func (.func f) #[] #[]) (zD rfl rfl) hI ?_;simp only[sP,sB,sC];refine zG (k:=13) (by kernel_rfl) rfl (by rfl) (.slice (some pd) 3 c) (zD rfl rfl) hI ?_;simp only[sP,sB,sC];refine zG (k:=14) (by kernel_rfl) rfl (by rfl) (.pointer (some (pd.add (0*1)))) (qP (i:=0) underlying29 uL rfl rfl rfl (by omega)) hI ?_;simp only[sP,sB,sC];refine xE (k:=15) (by kernel_rfl) rfl (by rfl) (.slice (some q0) N d0) (λW hW=>jV rfl rfl (HC0.out W hW.1)) hI ?_;simp only[Act.put,sA,sB,sC];refine zG (k:=16) (by kernel_rfl) rfl (by rfl) (.int .i64 (i:Int)) (zD rfl rfl) hI ?_;simp only[sP,sB,sC];refine zG (k:=17) (by kernel_rfl) rfl (by rfl) (.pointer (some (q0.add (i*1)))) (qP underlying22 jM rfl rfl rfl hlt) hI ?_;simp only[sP,sB,sC];refine xE (k:=18) (by kernel_rfl) rfl (by rfl) (.int .i64 pa) (λW hW=>zS rfl rfl (by rw[wD8];exact HQ0.out W hW.1)) hI ?_;simp only[Act.put,sA,sB,sC];refine zG (k:=19) (by kernel_rfl) rfl (by rfl) (.slice (some pd) 3 c) (zD rfl rfl) hI ?_;simp only[sP,sB,sC];refine zG (k:=20) (by kernel_rfl) rfl (by rfl) (.pointer (some (pd.add (1*1)))) (qP (i:=1) underlying29 uL rfl rfl rfl (by omega)) hI ?_;simp only[sP,sB,sC];refine xE (k:=21) (by kernel_rfl) rfl (by rfl) (.slice (some q1) N d1) (λW hW=>jV rfl rfl (HC1.out W hW.1)) hI ?_;simp only[Act.put,sA,sB,sC];refine zG (k:=22) (by kernel_rfl) rfl (by rfl) (.int .i64 (i:Int)) (zD rfl rfl) hI ?_;simp only[sP,sB,sC];refine zG (k:=23) (by kernel_rfl) rfl (by rfl) (.pointer (some (q1.add (i*1)))) (qP underlying22 jM rfl rfl rfl hlt) hI ?_;simp only[sP,sB,sC];refine xE (k:=24) (by kernel_rfl) rfl (by rfl) (.int .i64 pb) (λW hW=>zS rfl rfl (by rw[wD8];exact HQ1.out W hW.1)) hI ?_;simp only[Act.put,sA,sB,sC];refine zG (k:=25) (by kernel_rfl) rfl (by rfl) (.slice (some pd) 3 c) (zD rfl rfl) hI ?_;simp only[sP,sB,sC];refine zG (k:=26) (by kernel_rfl) rfl (by rfl) (.pointer (some (pd.add (2*1)))) (qP (i:=2) underlying29 uL rfl rfl rfl (by omega)) hI ?_;simp only[sP,sB,sC];refine xE (k:=27) (by kernel_rfl) rfl (by rfl) (.slice (some q2) N d2) (λW hW=>jV rfl rfl (HC2.out W hW.1)) hI ?_;simp only[Act.put,sA,sB,sC];refine zG (k:=28) (by kernel_rfl) rfl (by rfl) (.int .i64 (i:Int)) (zD rfl rfl) hI ?_;simp only[sP,sB,sC];refine zG (k:=29) (by kernel_rfl) rfl (by rfl) (.pointer (some (q2.add (i*1)))) (qP underlying22 jM rfl rfl rfl hlt) hI ?_;simp only[sP,sB,sC];refine xE (k:=30) (by kernel_rfl) rfl (by rfl) (.int .i64 pc) (λW hW=>zS rfl rfl (by rw[wD8];exact HQ2.out W hW.1)) hI ?_;simp only[Act.put,sA,sB,sC];refine qI (k:=31) (by kernel_rfl) rfl ?_;refine xK (by rfl) (xL _ _ _ rfl rfl hgo #[.int .i64 pa,.int .i64 pb,.int .i64 pc] (by simp[Act.eval])) ?_;refine (HFC.out _).mono ?_;rintro e9 w9 ⟨rfl,hx9⟩;have c0:=hb0.drew.ext hx9;have c1:=hb1.drew.ext hx9;have c2:=hb2.drew.ext hx9;have hI:Ext w w9∧Blk w9 g0 22 #[.slice (some ⟨h0,0,none⟩) N N,.slice (some ⟨h1,0,none⟩) N N,.slice (some ⟨h2,0,none⟩) N N]:=⟨hI.1.trans hx9,hI.2.ext hx9⟩
    refine⟨_,rfl,zZ ⟨hI, ?_⟩⟩;clear hx hbg hb0 hb1 hb2 hx9;simp only[Act.put,sA,sB,sC];refine zG (k:=32) (by kernel_rfl) rfl (by rfl) (.tuple #[.int .i64 z0,.int .i64 z1,.int .i64 z2,.int .i64 z3]) (zD rfl rfl) hI ?_;simp only[sP,sB,sC];refine zG (k:=33) (by kernel_rfl) rfl (by rfl) (.int .i64 z0) (yR rfl rfl rfl) hI ?_;simp only[sP,sB,sC];refine zG (k:=34) (by kernel_rfl) rfl (by rfl) (.int .i64 z1) (yR rfl rfl rfl) hI ?_;simp only[sP,sB,sC];refine zG (k:=35) (by kernel_rfl) rfl (by rfl) (.int .i64 z2) (yR rfl rfl rfl) hI ?_;simp only[sP,sB,sC];refine zG (k:=36) (by kernel_rfl) rfl (by rfl) (.int .i64 z3) (yR rfl rfl rfl) hI ?_;simp only[sP,sB,sC];refine zG (k:=37) (by kernel_rfl) rfl (by rfl) (.pointer (some ⟨h0,i,none⟩)) (zAH (i:=i) underlying22 jM rfl rfl rfl hlt) hI ?_;simp only[sP,sB,sC];refine qI (k:=38) (by kernel_rfl) rfl ?_;refine zAc rfl _ _ rfl h0 i z0 rfl rfl c0 hs0 ?_;have u0:=(Upd.refl (λb=>b=h0) w9).setCell (p:=⟨h0,i,none⟩) rfl (.int .i64 z0);have n0:=c0.set_ i (.int .i64 z0);rw[zAE,zLR N i X0 z0 HL0.out hlt] at n0;have m01:=u0.blk c1 (by omega);have m02:=u0.blk c2 (by omega);have hI:Ext w (World.setCell w9 ⟨h0,i,none⟩ (.int .i64 z0))∧Blk (World.setCell w9 ⟨h0,i,none⟩ (.int .i64 z0)) g0 22 #[.slice (some ⟨h0,0,none⟩) N N,.slice (some ⟨h1,0,none⟩) N N,.slice (some ⟨h2,0,none⟩) N N]:=⟨u0.ext hI.1 (λy hy=>by omega),u0.blk hI.2 (by omega)⟩
    generalize World.setCell w9 ⟨h0,i,none⟩ (.int .i64 z0)=v0 at *;refine zZ ⟨hI, ?_⟩;simp only[Act.put,sA,sB,sC];refine zG (k:=39) (by kernel_rfl) rfl (by rfl) (.pointer (some ⟨h1,i,none⟩)) (zAH (i:=i) underlying22 jM rfl rfl rfl hlt) hI ?_;simp only[sP,sB,sC];refine qI (k:=40) (by kernel_rfl) rfl ?_;refine zAc rfl _ _ rfl h1 i z1 rfl rfl m01 hs1 ?_;have u1:=(Upd.refl (λb=>b=h1) v0).setCell (p:=⟨h1,i,none⟩) rfl (.int .i64 z1);have n1:=m01.set_ i (.int .i64 z1);rw[zAE,zLR N i X1 z1 HL1.out hlt] at n1;have m10:=u1.blk n0 (by omega);have m12:=u1.blk m02 (by omega);have hI:Ext w (World.setCell v0 ⟨h1,i,none⟩ (.int .i64 z1))∧Blk (World.setCell v0 ⟨h1,i,none⟩ (.int .i64 z1)) g0 22 #[.slice (some ⟨h0,0,none⟩) N N,.slice (some ⟨h1,0,none⟩) N N,.slice (some ⟨h2,0,none⟩) N N]:=⟨u1.ext hI.1 (λy hy=>by omega),u1.blk hI.2 (by omega)⟩
    generalize World.setCell v0 ⟨h1,i,none⟩ (.int .i64 z1)=v1 at *;refine zZ ⟨hI, ?_⟩;simp only[Act.put,sA,sB,sC];refine zG (k:=41) (by kernel_rfl) rfl (by rfl) (.pointer (some ⟨h2,i,none⟩)) (zAH (i:=i) underlying22 jM rfl rfl rfl hlt) hI ?_;simp only[sP,sB,sC];refine qI (k:=42) (by kernel_rfl) rfl ?_;refine zAc rfl _ _ rfl h2 i z2 rfl rfl m12 hs2 ?_;have u2:=(Upd.refl (λb=>b=h2) v1).setCell (p:=⟨h2,i,none⟩) rfl (.int .i64 z2);have n2:=m12.set_ i (.int .i64 z2);rw[zAE,zLR N i X2 z2 HL2.out hlt] at n2;have m20:=u2.blk m10 (by omega);have m21:=u2.blk n1 (by omega);have hI:Ext w (World.setCell v1 ⟨h2,i,none⟩ (.int .i64 z2))∧Blk (World.setCell v1 ⟨h2,i,none⟩ (.int .i64 z2)) g0 22 #[.slice (some ⟨h0,0,none⟩) N N,.slice (some ⟨h1,0,none⟩) N N,.slice (some ⟨h2,0,none⟩) N N]:=⟨u2.ext hI.1 (λy hy=>by omega),u2.blk hI.2 (by omega)⟩
    generalize World.setCell v1 ⟨h2,i,none⟩ (.int .i64 z2)=v2 at *;refine zZ ⟨hI, ?_⟩;simp only[Act.put,sA,sB,sC];refine uA (by kernel_rfl) ?_;go_wp2_with fail;go_roundw
    case rel=>exact⟨i+1,by omega,by go_num,hI.2,by rw[HT0.out];exact m20,by rw[HT1.out];exact m21,by rw[HT2.out];exact n2,hI.1⟩
    case measure=>simp[intOf];omega
   have hiN:i=N:=by omega
   subst hiN;go_wp2_with fail;go_ret;have e:∀X:List Int,zDQ i i X=X:=λX=>by unfold zDQ;simp
   rw[e] at hb0 hb1 hb2;refine⟨_,3,3,rfl,rows_mkF hbg (by omega) ⟨_,_,by rw[uP], ?_,λad e=>by cases e;show _≤h0;omega⟩ ⟨_,_,by rw[uP], ?_,λad e=>by cases e;show _≤h1;omega⟩ ⟨_,_,by rw[uP], ?_,λad e=>by cases e;show _≤h2;omega⟩,hx⟩
   ·have:=hb0.sl (size:=1) (n:=i) (c:=i) (by rw[zK,uP];omega) (wA5 _) (by omega);rw[uP];exact this
   ·have:=hb1.sl (size:=1) (n:=i) (c:=i) (by rw[zK,uP];omega) (wA5 _) (by omega);rw[uP];exact this
   have:=hb2.sl (size:=1) (n:=i) (c:=i) (by rw[zK,uP];omega) (wA5 _) (by omega);rw[uP];exact this
end
def TurnIs (L:List (List Int)) (w:World) (e:Ending) (w':World):Prop:=∃B k d,e=.returned (.slice B k d)∧RowsS w' B k d L∧Ext w w'
def zTt (f:FuncId) (t:Int→Int→Int→Four) (hf:zGy f t) (hgo:zAn prog f) (A:Option Addr) (n c:Nat) (L:List (List Int)) (N:Nat) (w:World) (hL:L.length=1∨L.length=3) (hN:∀l∈L,l.length=N) (hb:N≤1000000) (hr:RowsS w A n c L) :
 Calls prog 38 #[.slice A n c,.func (.func f) #[] #[]] w (TurnIs (zCW t L) w):=by
 have hn:=hr.len;rcases hL with h1 | h3
 ·rw[zJZ t (by omega)];exact (zMn A n c L _ w hr (by omega) (by omega)).mono λe w' h=>⟨A,n,c,h.1,by rw[h.2];exact hr,by rw[h.2];exact Ext.refl _⟩
 obtain⟨a,b,cc,rfl⟩:=zLj h3;obtain rfl:n=3:=by rw[←hn];rfl
 have ha:=hN a (by simp);have hb':=hN b (by simp);have hc:=hN cc (by simp);unfold zCW;dsimp only;rw[ha];exact (zIj f t hf hgo A c a b cc N ha hb' hc hb w hr).mono λe w' h=>by obtain⟨B,k,d,e1,h1,h2⟩:=h;exact⟨B,k,d,e1,h1.rows,h2⟩
def TurnF (L:List (List Int)) (B:Nat) (w:World) (e:Ending) (w':World):Prop:=∃A k d,e=.returned (.slice A k d)∧RowsF w' B A k d L∧Ext w w'
def zUd (f:FuncId) (t:Int→Int→Int→Four) (hf:zGy f t) (hgo:zAn prog f) (A:Option Addr) (n c:Nat) (L:List (List Int)) (N:Nat) (w:World) (hL:L.length=1∨L.length=3) (hN:∀l∈L,l.length=N) (hb:N≤1000000) (B:Nat) (hB:B≤w.heap.size) (hr:RowsF w B A n c L) :
 Calls prog 38 #[.slice A n c,.func (.func f) #[] #[]] w (TurnF (zCW t L) B w):=by
 have hn:=hr.rows.len;rcases hL with h1 | h3
 ·rw[zJZ t (by omega)];exact (zMn A n c L _ w hr.rows (by omega) (by omega)).mono λe w' h=>⟨A,n,c,h.1,by rw[h.2];exact hr,by rw[h.2];exact Ext.refl _⟩
 obtain⟨a,b,cc,rfl⟩:=zLj h3;obtain rfl:n=3:=by rw[←hn];rfl
 have ha:=hN a (by simp);have hb':=hN b (by simp);have hc:=hN cc (by simp);unfold zCW;dsimp only;rw[ha];exact (zIj f t hf hgo A c a b cc N ha hb' hc hb w hr.rows).mono λe w' h=>by obtain⟨D,k,d,e1,h1,h2⟩:=h;exact⟨D,k,d,e1,h1.mono hB,h2⟩
def zPy (t:Int→Int→Int→Four) (L:List (List Int)) (h:L.length=1∨L.length=3):(zCW t L).length≤3:=by
 rcases h with h | h
 ·rw[zJZ t (by omega)];omega
 obtain⟨a,b,c,rfl⟩:=zLj h;exact wA5 _
def zUJ (W:World) (p:Addr) (A:Option Addr) (n c:Nat) (h:W.cell? p=some (.slice A n c)):(Instr.loadAt 29 (.pointer (some p))).run prog W=.ok (.slice A n c) W:=by go_simp
def zFB {o:Oper} {a:Act} {x:Operand} (ho:o.op=.load 29 x) {p:Addr} (hx:a.eval x=.pointer (some p)) {A:Option Addr} {n c:Nat} {w:World} (h:w.cell? p=some (.slice A n c)):(execOp a.eval o).run prog w=.ok (.value (.slice A n c)) w:=by simp[execOp,ho,hx,zUJ w p A n c h]
def zOD (g1 g2:Nat) (z lo hi:Int) (w:World) (h1:w.cell? ⟨g1,0,none⟩=some (.int .i64 lo)) (h2:w.cell? ⟨g2,0,none⟩=some (.int .i64 hi)) :
 Calls prog 98 (#[.int .i64 z]++ #[.pointer (some ⟨g1,0,none⟩),.pointer (some ⟨g2,0,none⟩)]) w λe w'=>e=.returned (.bool (decide (z<lo) ||decide (hi<z)))∧w=w':=by
 by_cases h:z<lo
 ·have h':decide (z<lo)=true:=by simpa using h
  go_enter func98,ntmps98;go_wp2
  go_ret;exact⟨by rw[h'];rfl,rfl⟩
 have h':decide (z<lo)=false:=by simpa using h
 go_enter func98,ntmps98;go_wp2
 go_ret;exact⟨by simp,rfl⟩
def zVI:uN prog 98:=zAd func98 (by kernel_rfl) rfl
def zFF (zs:List Int) (lo hi:Int) (w:World) (hz:zs.length=64) :
 Calls prog 43 #[.agg (bv zs),.int .i64 lo,.int .i64 hi] w λe w'=>e=.returned (.bool (zR zs lo hi))∧Ext w w':=by
 have HZ:Hid (zs.length=64):=hz;have hs:=(zK zs).trans hz;have HS:Hid ((bv zs).size=64):=hs;have hmf:∀(fn:Fn) (first cap:Array Value) (w:World),(Instr.makeFunc fn first cap).run prog w=.ok (.func fn first cap) w:=λ_ _ _ _=>rfl
 have hcont:=vH 98 #[.pointer (some ⟨w.heap.size+1,0,none⟩),.pointer (some ⟨w.heap.size+1+1,0,none⟩)] (λz=>decide (z<lo) ||decide (hi<z)) zVI
  (.slice (some ⟨w.heap.size,0,none⟩) 64 64) zs (((w.alloc (.cells (bv zs) 33)).alloc (.cells #[.int .i64 lo] 3)).alloc (.cells #[.int .i64 hi] 3))
  (by
    have h:=(((Blk.new w 33 (bv zs)).alloc (.cells #[.int .i64 lo] 3)).alloc (.cells #[.int .i64 hi] 3)).bsl (c:=64) (by omega) (by omega)
    rwa [hz] at h ⊢)
  (λz _=>zOD (w.heap.size+1) (w.heap.size+1+1) z lo hi _ (by
    have h:=((Blk.new (w.alloc (.cells (bv zs) 33)) 3 #[.int .i64 lo]).alloc (.cells #[.int .i64 hi] 3)).cell 0
    rwa [World.size_alloc] at h) (by
    have h:=(Blk.new ((w.alloc (.cells (bv zs) 33)).alloc (.cells #[.int .i64 lo] 3)) 3 #[.int .i64 hi]).cell 0
    rwa [World.size_alloc,World.size_alloc] at h))
 have HC:=zA hcont;generalize hcs:bv zs=cs at *;clear hs hz hcs hcont;go_enter func43,ntmps43;go_wp2_with fail;refine HC.out.mono ?_;rintro e w' ⟨rfl,rfl⟩;go_wp2_with fail;go_ret;refine⟨?_,((Ext.refl w).alloc _).alloc _ |>.alloc _⟩;rw[←allIn_not];rfl
def zDK (zs:List Int) (w:World) (hz:zs.length=64) :
 Calls prog 15 #[.agg (bv zs)] w λe w'=>e=.returned (.int .i64 (if zR zs 1 255 then 0 else 1))∧Ext w w':=by
 have hs:=(zK zs).trans hz;have HS:Hid ((bv zs).size=64):=hs;have hc:=zA (λW=>zFF zs 1 255 W hz);generalize hcs:bv zs=cs at *;clear hs hz hcs
 cases hb:zR zs 1 255 with
 | true =>
   rw[hb] at hc;go_enter func15,ntmps15;go_wp2_with (first | (refine wLdB rfl 33 _ rfl _ rfl (Blk.new w 33 cs) _ underlying33 rfl 64 zJ HS.out ?_) | (go_at_call 43;refine (hc.out _).mono ?_;rintro e w' ⟨rfl,hx⟩))
   go_ret;exact⟨rfl,((Ext.refl w).alloc _).trans hx⟩
 | false =>
   rw[hb] at hc;go_enter func15,ntmps15;go_wp2_with (first | (refine wLdB rfl 33 _ rfl _ rfl (Blk.new w 33 cs) _ underlying33 rfl 64 zJ HS.out ?_) | (go_at_call 43;refine (hc.out _).mono ?_;rintro e w' ⟨rfl,hx⟩))
   go_ret;exact⟨rfl,((Ext.refl w).alloc _).trans hx⟩
set_option maxHeartbeats 400000
def zip_set (F:Int→Int→Int) (zs qs:List Int) (k:Nat) (hz:k<zs.length) (hq:k<qs.length) :
 (List.zipWith F (zs.take k) (qs.take k)++zs.drop k).set k (F zs[k] qs[k])=List.zipWith F (zs.take (k+1)) (qs.take (k+1))++zs.drop (k+1):=by
 have hl:(List.zipWith F (zs.take k) (qs.take k)).length=k:=by simp;omega
 rw[wL4 _ _ (by omega),hl,wL5,wH0 hz,wJ9,wC1 hz,wC1 hq,
  wN8 (by simp;omega)]
 simp
def zip_len (F:Int→Int→Int) (zs qs:List Int) (k:Nat) (hz:zs.length=64) (hq:qs.length=64) (hk:k≤64):(List.zipWith F (zs.take k) (qs.take k)++zs.drop k).length=64:=by simp;omega
def both_in (g:Nat) (F:Int→Int→Int) (eg:uN prog g) (zs qs:List Int) (most:Int) (w:World) (hz:zs.length=64) (hq:qs.length=64) (hm0:0≤most) (hm:most≤1000000000)
 (h1:zR qs 1 255=true) (h2:zR zs (-most) most=true)
 (hF:∀n d W,-most≤n→n≤most→1≤d→d≤255→Calls prog g (#[.int .i64 n,.int .i64 d]++ #[]) W λe w'=>e=.returned (.int .i64 (F n d))∧W=w') :
 Calls prog 94 #[.agg (bv zs),.agg (bv qs),.int .i64 most,.func (.func g) #[] #[]] w λe w'=>e=.returned (.tuple #[.agg (bv (List.zipWith F zs qs)),.int .i64 0])∧Ext w w':=by
 have HC:=zA (λW=>zDK qs W hq);have HW:=zA (λW=>zFF zs (-most) most W hz);rw[h1] at HC;rw[h2] at HW;have HZ:=zA hz;have HQ:=zA hq;have hsz:=zA ((zK zs).trans hz);have hsq:=zA ((zK qs).trans hq);have H1:=zA h1;have H2:=zA h2;have HF:=zA hF;unfold uN at eg;clear hz hq h1 h2 hF;generalize hzc:bv zs=cz at *;generalize hqc:bv qs=cq at *;have HZC:=zA hzc;have HQC:=zA hqc;clear hzc hqc;go_enter func94,ntmps94
 go_wp2_with (first
  | (refine wBox rfl 33 (.tmp 0) rfl cz rfl ?_;intro w1 gz hbz1 hx1 hgz)
  | (refine wBox rfl 33 (.tmp 1) rfl cq rfl ?_;intro w2 gq hbq2 hx2 hgq;have hbz2:=hbz1.ext hx2)
  | (refine vF rfl 33 rfl _ jX ?_;intro w3 gr hbr3 hx3 hgr;have hbz3:=hbz2.ext hx3;have hbq3:=hbq2.ext hx3)
  | (refine wLdB rfl 33 (.tmp 5) rfl _ rfl hbq3 _ underlying33 rfl 64 zJ hsq.out ?_)
  | (go_at_call 15;refine (HC.out _).mono ?_;rintro e w4 ⟨rfl,hx4⟩;have hbz4:=hbz3.ext hx4;have hbq4:=hbq3.ext hx4;have hbr4:=hbr3.ext hx4)
  | (refine wLdB rfl 33 (.tmp 4) rfl _ rfl hbz4 _ underlying33 rfl 64 zJ hsz.out ?_)
  | (go_at_call 43;refine (HW.out _).mono ?_;rintro e w5 ⟨rfl,hx5⟩;have hbz5:=hbz4.ext hx5;have hbq5:=hbq4.ext hx5;have hbr5:=hbr4.ext hx5)
  | (refine wLdB rfl 33 (.tmp 4) rfl _ rfl hbz5 _ underlying33 rfl 64 zJ hsz.out ?_))
 have hne1:gz≠gq:=by have:=hbz1.lt;omega
 have hne2:gz≠gr:=by have:=hbz2.lt;omega
 have hxx:Ext w w5:=((((hx1.trans hx2).trans hx3).trans hx4).trans hx5)
 have hw0:w.heap.size≤w1.heap.size:=hx1.size;have hw02:w.heap.size≤gr:=by have:=hx2.size;omega
 clear hbz1 hbz2 hbz3 hbz4 hbq2 hbq3 hbq4 hbr3 hbr4 hx1 hx2 hx3 hx4 hx5
 go_loopw [27] (λi wr=>∃k:Nat,k≤64∧i=.int .i64 k∧Blk wr gz 33 (bv (List.zipWith F (zs.take k) (qs.take k)++zs.drop k))∧Blk wr gq 33 cq∧Blk wr gr 33 (bv xC)∧Ext w wr) (λi _=>64-(intOf i).toNat)
 case atStart=>exact⟨0,by omega,rfl,by rw[←HZC.out] at hbz5;simpa using hbz5,hbq5,hbr5,hxx⟩
 case round =>
  obtain⟨k,hk,rfl,hb1,hb2,hb3,hxr⟩:=hrel
  by_cases hlt:k<64
  ·have hzl:k<zs.length:=by have:=HZ.out;omega
   have hql:k<qs.length:=by have:=HQ.out;omega
   have hix:=λW=>zGk cz k (.int .i64 zs[k]) hlt (by rw[←HZC.out];exact jQ zs k hzl) W
   have hlq:wr.cell? ⟨gq,k,none⟩=some (.int .i64 qs[k]):=(hb2.cell k).trans (by rw[←HQC.out];exact jQ qs k hql);have hz0:=yJ.1 H2.out zs[k] (wC7 hzl);have hq0:=yJ.1 H1.out qs[k] (wC7 hql);have hcall:=zA (λW=>HF.out zs[k] qs[k] W hz0.1 hz0.2 hq0.1 hq0.2)
   obtain⟨old,hold⟩:∃u,wr.cell? ⟨gz,k,none⟩=some u:=by
    rw[hb1.cell k];have hl:=zip_len F zs qs k HZ.out HQ.out hk;exact⟨_,jQ _ k (by omega)⟩
   have hfr:=hb1.frozen k;clear hz0 hq0;go_wp2_with fail;refine (hcall.out _).mono ?_;rintro e w' ⟨rfl,rfl⟩;go_wp2_with fail;go_roundw
   case rel =>
    refine⟨k+1,by omega,by go_num, ?_,hb2.far (p:=⟨gz,k,none⟩) (by simpa using hne1.symm) _,hb3.far (p:=⟨gz,k,none⟩) (by simpa using hne2.symm) _,hxr.setCell (by omega) _⟩;have:=hb1.set_ k (.int .i64 (F zs[k] qs[k]))
    rwa [zAE,zip_set F zs qs k hzl hql] at this
   case measure=>simp[intOf];omega
  obtain rfl:k=64:=by omega
  have hfin:List.zipWith F (zs.take 64) (qs.take 64)++zs.drop 64=List.zipWith F zs qs:=by
   rw[wC2 (by have:=HZ.out;omega),wC2 (by have:=HQ.out;omega),wN9 (by have:=HZ.out;omega),wG9]
  have hlz:(bv (List.zipWith F zs qs)).size=64:=by have:=HZ.out;have:=HQ.out;rw[zK];simp;omega
  rw[hfin] at hb1;have hone:=xR (List.zipWith F zs qs);generalize hcr:bv (List.zipWith F zs qs)=cr at *;have HCR:=zA hcr;have hlz':=zA hlz;have hone':=zA hone;clear hfin hlz hone hcr
  go_wp2_with (first
   | (refine wLdB rfl 33 (.tmp 4) rfl _ rfl hb1 _ underlying33 rfl 64 zJ hlz'.out ?_)
   | (refine wStB rfl 33 (.tmp 8) (.tmp 40) rfl _ _ rfl rfl hb3 64 zJ hlz'.out (by rw[zK];rfl) hone'.out ?_;intro w7 hb7 hg7))
  refine yN rfl rfl _ rfl hb7 _ underlying33 rfl 64 zJ hlz'.out ⟨by rw[HCR.out];rfl,hxr.grown hg7 hw02⟩

def zRS (g:Nat) (zs qs:List Int) (most:Int) (w:World) (hz:zs.length=64) (hq:qs.length=64) (hm0:0≤most) (hm:most≤1000000000)
 (h:zR qs 1 255=false∨(zR qs 1 255=true∧zR zs (-most) most=false)) :
 Calls prog 94 #[.agg (bv zs),.agg (bv qs),.int .i64 most,.func (.func g) #[] #[]] w λe w'=>e=.returned (.tuple #[.agg (bv xC),.int .i64 1])∧Ext w w':=by
 have HC:=zA (λW=>zDK qs W hq);have HW:=zA (λW=>zFF zs (-most) most W hz);have hsz:=zA ((zK zs).trans hz);have hsq:=zA ((zK qs).trans hq);have hs0:Hid ((bv xC).size=64):=zA (by rw[zK];rfl);have ho0:=zA (xR xC);have hbt:=zA built48;generalize bv zs=cz at *;generalize bv qs=cq at *;generalize hc0:bv xC=c0 at *;have HC0:=zA hc0;clear hz hq hc0;rcases h with h | ⟨h,h2⟩
 ·rw[h] at HC;clear h;go_enter func94,ntmps94
  go_wp2_with (first
   | (refine wBox rfl 33 (.tmp 0) rfl cz rfl ?_;intro w1 gz hbz1 hx1 hgz)
   | (refine wBox rfl 33 (.tmp 1) rfl cq rfl ?_;intro w2 gq hbq2 hx2 hgq;have hbz2:=hbz1.ext hx2)
   | (refine vF rfl 33 rfl _ jX ?_;intro w3 gr hbr3 hx3 hgr;have hbz3:=hbz2.ext hx3;have hbq3:=hbq2.ext hx3)
   | (refine wLdB rfl 33 (.tmp 5) rfl _ rfl hbq3 _ underlying33 rfl 64 zJ hsq.out ?_)
   | (go_at_call 15;refine (HC.out _).mono ?_;rintro e w4 ⟨rfl,hx4⟩;have hbr4:=hbr3.ext hx4)
   | (refine vY rfl 33 rfl _ hbt.out ?_)
   | (refine wStB rfl 33 (.tmp 8) (.tmp 17) rfl _ _ rfl rfl hbr4 64 zJ hs0.out (by rw[show (Value.agg (bv xC)).cells=bv xC from rfl,HC0.out];exact hs0.out) ho0.out ?_;intro w7 hb7 hg7))
  exact yN rfl rfl _ rfl hb7 _ underlying33 rfl 64 zJ hs0.out ⟨rfl,(((hx1.trans hx2).trans hx3).trans hx4).grown hg7 (by have:=hx1.size;have:=hx2.size;omega)⟩
 rw[h] at HC;rw[h2] at HW;clear h h2;go_enter func94,ntmps94
 go_wp2_with (first
  | (refine wBox rfl 33 (.tmp 0) rfl cz rfl ?_;intro w1 gz hbz1 hx1 hgz)
  | (refine wBox rfl 33 (.tmp 1) rfl cq rfl ?_;intro w2 gq hbq2 hx2 hgq;have hbz2:=hbz1.ext hx2)
  | (refine vF rfl 33 rfl _ jX ?_;intro w3 gr hbr3 hx3 hgr;have hbz3:=hbz2.ext hx3;have hbq3:=hbq2.ext hx3)
  | (refine wLdB rfl 33 (.tmp 5) rfl _ rfl hbq3 _ underlying33 rfl 64 zJ hsq.out ?_)
  | (go_at_call 15;refine (HC.out _).mono ?_;rintro e w4 ⟨rfl,hx4⟩;have hbz4:=hbz3.ext hx4;have hbr4:=hbr3.ext hx4)
  | (refine wLdB rfl 33 (.tmp 4) rfl _ rfl hbz4 _ underlying33 rfl 64 zJ hsz.out ?_)
  | (go_at_call 43;refine (HW.out _).mono ?_;rintro e w5 ⟨rfl,hx5⟩;have hbr5:=hbr4.ext hx5)
  | (refine vY rfl 33 rfl _ hbt.out ?_)
  | (refine wStB rfl 33 (.tmp 8) (.tmp 25) rfl _ _ rfl rfl hbr5 64 zJ hs0.out (by rw[show (Value.agg (bv xC)).cells=bv xC from rfl,HC0.out];exact hs0.out) ho0.out ?_;intro w7 hb7 hg7))
 exact yN rfl rfl _ rfl hb7 _ underlying33 rfl 64 zJ hs0.out ⟨rfl,((((hx1.trans hx2).trans hx3).trans hx4).trans hx5).grown hg7 (by have:=hx1.size;have:=hx2.size;omega)⟩
def vN (F:Int→Int→Int) (zs qs:List Int) (most:Int):List Int×Int :=
 if zR qs 1 255 then (if zR zs (-most) most then (List.zipWith F zs qs,0) else (xC,1)) else (xC,1)
def zSQ (g:Nat) (F:Int→Int→Int) (eg:uN prog g) (zs qs:List Int) (most:Int) (w:World) (hz:zs.length=64) (hq:qs.length=64) (hm0:0≤most) (hm:most≤1000000000)
 (hF:∀n d W,-most≤n→n≤most→1≤d→d≤255→Calls prog g (#[.int .i64 n,.int .i64 d]++ #[]) W λe w'=>e=.returned (.int .i64 (F n d))∧W=w') :
 Calls prog 94 #[.agg (bv zs),.agg (bv qs),.int .i64 most,.func (.func g) #[] #[]] w λe w'=>e=.returned (.tuple #[.agg (bv (vN F zs qs most).1),.int .i64 (vN F zs qs most).2])∧Ext w w':=by
 unfold vN
 cases h1:zR qs 1 255 with
 | false=>simpa using zRS g zs qs most w hz hq hm0 hm (Or.inl h1)
 | true =>
   cases h2:zR zs (-most) most with
   | false=>simpa using zRS g zs qs most w hz hq hm0 hm (Or.inr ⟨h1,h2⟩)
   | true=>simpa using both_in g F eg zs qs most w hz hq hm0 hm h1 h2 hF
def qF (X:List Int) (k:Nat):List Int:=(X.drop (k*64)).take 64
def zero48c:(Value.agg (bv xC)).cells.size=64:=by rw[show (Value.agg (bv xC)).cells=bv xC from rfl,zK];rfl
def zSU {w:World} {A:Addr} {Z:List Int} {j:Nat} (h:zAg w A (((ints Z).drop (j*64)).take 64)):zAg w A (ints (qF Z j)):=by
 have e:((ints Z).drop (j*64)).take 64=ints (qF Z j):=by unfold ints qF;rw[List.map_drop.symm,List.map_take.symm]
 rw[←e];exact h
def PartsAt (w:World) (B:Nat) (v:Value) (L:List (List Int)):Prop :=
 ∃A c vs,v=.slice A L.length c∧w.ownsRow B 22 1 (.slice A L.length c) L.length vs∧∀(k:Nat) (l:List Int),L[k]? =some l→∃D d,vs[k]? =some (.slice D l.length d)∧SL w 1 (.slice D l.length d) l.length (ints l)∧∀ad,D=some ad→B≤ad.block∧ad.block<w.heap.size∧(Value.slice A L.length c).ownBlock≠some ad.block
def PartsAt.nil (w:World) (B:Nat):PartsAt w B (.slice none 0 0) []:=⟨none,0,[],rfl,World.ownsRow_nil _ _ _ _,λk l h=>by simp at h⟩
def PartsAt.form {w:World} {B:Nat} {v:Value} {L:List (List Int)} (h:PartsAt w B v L):∃A c,v=.slice A L.length c:=⟨_,_,h.choose_spec.choose_spec.choose_spec.1⟩
def PartsAt.ext {w w':World} {B:Nat} {v:Value} {L:List (List Int)} (h:PartsAt w B v L) (hx:Ext w w'):PartsAt w' B v L:=by obtain⟨A,c,vs,rfl,ho,hp⟩:=h;refine⟨A,c,vs,rfl,yE ho hx,λk l hl=> ?_⟩;obtain⟨D,d,e,hs,hd⟩:=hp k l hl;exact⟨D,d,e,hs.ext hx,λad ea=>by obtain⟨h1,h2,h3⟩:=hd ad ea;exact⟨h1,wA1 h2 hx.size,h3⟩⟩
def PartsAt.upd {S:Nat→Prop} {w w':World} {B:Nat} {v:Value} {L:List (List Int)} (h:PartsAt w B v L) (hu:Upd S w w') (hS:∀x,S x→x<B):PartsAt w' B v L:=by obtain⟨A,c,vs,rfl,ho,hp⟩:=h;refine⟨A,c,vs,rfl,qV ho hu (λb hb hs=>by have:=(ho.lt b hb).1;have:=hS b hs;omega),λk l hl=> ?_⟩;obtain⟨D,d,e,hs,hd⟩:=hp k l hl;exact⟨D,d,e,hs.upd hu (λad ea hs2=>by have:=(hd ad ea).1;have:=hS _ hs2;omega),λad ea=>by obtain⟨h1,h2,h3⟩:=hd ad ea;exact⟨h1,wA1 h2 hu.size,h3⟩⟩
def PartsAt.far {w:World} {B:Nat} {A:Option Addr} {n c:Nat} {L:List (List Int)} (h:PartsAt w B (.slice A n c) L):RowsF w B A n c L:=by
 obtain⟨A',c',vs,e,ho,hp⟩:=h;injection e with e1 e2 e3
 subst e1 e2 e3;refine⟨vs,(jC ho).1,rfl,(jC ho).2,λk l hl=> ?_⟩;obtain⟨D,d,e,hs,hd⟩:=hp k l hl;exact⟨D,d,e,hs,λad ea=>(hd ad ea).1⟩
def PartsAt.own {w:World} {B:Nat} {A:Option Addr} {n c:Nat} {L:List (List Int)} (h:PartsAt w B (.slice A n c) L):∃vs,w.ownsRow B 22 1 (.slice A n c) n vs∧n=L.length∧∀A' c' w' l D d,w'.ownsRow B 22 1 (.slice A' (n+1) c') (n+1) (vs++[.slice D l.length d])→w.grownBy w' (Value.slice A n c).ownBlock→(A'.map (·.block)=(Value.slice A n c).ownBlock∨A'.map (·.block)=some w.heap.size) →
 SL w 1 (.slice D l.length d) l.length (ints l)→(∀ad,D=some ad→B≤ad.block∧ad.block<w.heap.size∧(Value.slice A n c).ownBlock≠some ad.block)→PartsAt w' B (.slice A' (n+1) c') (L++[l]):=by
 obtain⟨A',c',vs,e,ho,hp⟩:=h;injection e with e1 e2 e3
 subst e1 e2 e3;refine⟨vs,ho,rfl,λA' c' w' l D d ho' hg hr hs hd=> ?_⟩;have hu:=zM hg;have hvl:vs.length=L.length:=by have:=ho.1;omega
 have hne:∀ad:Addr,ad.block<w.heap.size→(Value.slice A L.length c).ownBlock≠some ad.block→(Value.slice A' (L.length+1) c').ownBlock≠some ad.block:=λad h2 h3 q=>by
  rw[zCT] at q;rcases hr with h | h
  ·rw[h] at q;exact h3 q
  rw[h] at q;injection q with q;omega
 refine⟨A',c',vs++[.slice D l.length d],by simp,by simpa using ho',λk l' hl=> ?_⟩;have hll:(L++[l]).length=L.length+1:=by simp
 rw[hll]
 by_cases hk:k<L.length
 ·rw[wH4 hk] at hl;obtain⟨D',d',e',hs',hd'⟩:=hp k l' hl;refine⟨D',d',by rw[wH4 (by omega)];exact e',hs'.upd hu (λad ea h=>(hd' ad ea).2.2 h),λad ea=> ?_⟩;obtain⟨h1,h2,h3⟩:=hd' ad ea;exact⟨h1,wA1 h2 hu.size,hne ad h2 h3⟩
 have hk2:k=L.length:=by
  have:=(wB7.1 hl).1;simp at this;omega
 subst hk2;rw[wH9 (wA5 _),wL5] at hl;injection hl with hl
 subst hl;refine⟨D,d,by rw[wH9 (by omega),hvl,wL5];rfl,hs.upd hu (λad ea h=>(hd ad ea).2.2 h),λad ea=> ?_⟩;obtain⟨h1,h2,h3⟩:=hd ad ea;exact⟨h1,wA1 h2 hu.size,hne ad h2 h3⟩
def zPP (n d:Int) (w:World) (h0:0≤n) (hn:n≤1000000000000000000) (hd:1≤d) (hd2:d≤1000000000000000000) :
 Calls prog 97 #[.int .i64 n,.int .i64 d] w λe w'=>e=.returned (.int .i64 (rp n d))∧w=w':=by go_enter func97,ntmps97;go_wp2_with fail;go_ret;exact⟨rfl,rfl⟩
def zIp (n d:Int) (w:World) (hn1: -1000000000000000000≤n) (hn:n≤1000000000000000000) (hd:1≤d) (hd2:d≤1000000000000000000) :
 Calls prog 97 #[.int .i64 n,.int .i64 d] w λe w'=>e=.returned (.int .i64 (rnd n d))∧w=w':=by
 by_cases h:n<0
 ·have hb:=zGR (-n) d (by omega) hd;obtain⟨hb1,hb2⟩:=hb;go_enter func97,ntmps97;go_wp2_with (go_at_call 97;refine (zPP _ _ _ (by omega) (by omega) hd hd2).mono ?_;rintro e w' ⟨rfl,rfl⟩)
  go_ret;exact⟨by simp[rnd,h],rfl⟩
 unfold rnd;rw[if_neg h];exact zPP n d w (by omega) hn hd hd2
def zHt (n most:Int) (w:World) (h0:0≤most) (h1:most≤1000000000000000000) :
 Calls prog 96 #[.int .i64 n,.int .i64 most] w λe w'=>e=.returned (.int .i64 (jY n (-most) most))∧w=w':=by
 have hd:n< -most∨(-most≤n∧n≤most)∨most<n:=by omega
 rcases hd with hd | ⟨hd1,hd2⟩ | hd
 ·have e:jY n (-most) most= -most:=by unfold jY;rw[if_pos hd]
  rw[e];clear e;go_enter func96,ntmps96;go_wp2
  all_goals
   go_ret;refine⟨?_,rfl⟩
   first
    | rfl
    | (show Ending.returned (.int .i64 (min (max n (-most)) most))=_;congr 2;omega)
 ·have e:jY n (-most) most=n:=by unfold jY;rw[if_neg (by omega),if_neg (by omega)]
  rw[e];clear e;go_enter func96,ntmps96;go_wp2
  all_goals
   go_ret;refine⟨?_,rfl⟩
   first
    | (show Ending.returned (.int .i64 (min (max n (-most)) most))=_;congr 2;omega)
    | (congr 2;try omega)
 have e:jY n (-most) most=most:=by unfold jY;rw[if_neg (by omega),if_pos hd]
 rw[e];clear e;have hd':¬n< -most:=by omega
 go_enter func96,ntmps96;go_wp2
 all_goals
  go_ret;refine⟨?_,rfl⟩
  first
   | rfl
   | (show Ending.returned (.int .i64 (min (max n (-most)) most))=_;congr 2;omega)
set_option maxRecDepth 20000
def size65:(prog.info? 125).map (·.size)=some 12:=by kernel_rfl
def zKN:(prog.info? 124).map (·.size)=some 4:=by kernel_rfl
def size66:(prog.info? 126).map (·.size)=some 3:=by kernel_rfl
def zero66:(prog.info? 126).bind (·.zero)=some (.agg (bv [0,0,0])):=by kernel_rfl
def zero64_:(prog.info? 124).bind (·.zero)=some (.agg (bv [0,0,0,0])):=by kernel_rfl
def zCy {fn:Func} {t u v x:Tmp} (h:fn.results= #[.tmp t,.tmp u,.tmp v,.tmp x]) (tmps:Array Value) (P:Program) (w:World) :
 (results fn tmps).run P w=.ok (.tuple #[tmps.getD t undef,tmps.getD u undef,tmps.getD v undef,tmps.getD x undef]) w:=by simp[results,h]
def vO (m:List Int) (i:Nat):List Int:=(m.drop (i*4)).take 4
def zBi (m l:List Int) (i:Nat) (k:Nat):Int:=(vO m i).getD 3 0+(List.zipWith (· * ·) ((vO m i).take k) (l.take k)).sum
def zBr (m l:List Int) (i:Nat):Int:=jY (rnd (zBi m l i 3) 65536) 0 255
def zLZ (m:List Int) (hm:m.length=12) (i:Nat) (hi:i<3):(vO m i).length=4:=by simp[vO];omega
def zKI (m:List Int) (M:Int) (hb:∀z∈m,-M≤z∧z≤M) (i:Nat):∀z∈vO m i,-M≤z∧z≤M :=
 λz hz=>hb z (wM7 (wH6 hz))
def zOg (m l:List Int) (i k:Nat) (h1:k<(vO m i).length) (h2:k<l.length):zBi m l i (k+1)=zBi m l i k+(vO m i)[k]*l[k]:=by unfold zBi;rw[wC1 h1,wC1 h2,wN8 (by simp;omega)];simp;omega
def msum_bd (m l:List Int) (M:Int) (hM:0≤M) (hb:∀z∈m,-M≤z∧z≤M) (hm:m.length=12) (hl:l.length=3) (hlb:zR l 0 255=true) (i:Nat) (hi:i<3) :
 ∀k,k≤3→ -(M+k*(M*255))≤zBi m l i k∧zBi m l i k≤M+k*(M*255):=by
 intro k;have hrl:=zLZ m hm i hi
 induction k with
 | zero =>
   intro _;have h3:3<(vO m i).length:=by omega
   have:zBi m l i 0=(vO m i)[3]:=by simp[zBi,h3]
   have:=zKI m M hb i _ (wC7 h3);omega
 | succ k ih =>
   intro hk;have h1:k<(vO m i).length:=by omega
   have h2:k<l.length:=by omega
   have:=ih (by omega);rw[zOg m l i k h1 h2];obtain⟨a1,a2⟩:=zKI m M hb i _ (wC7 h1);obtain⟨b1,b2⟩:=yJ.1 hlb _ (wC7 h2);generalize (vO m i)[k]=x at *;generalize l[k]=y at *;have e1:x*y≤M*y:=wC3 a2 b1;have e2:M*y≤M*255:=wC4 b2 hM;have e3: -M*y≤x*y:=wC3 a1 b1;rw[Int.neg_mul] at e3;have e4:((k+1:Nat):Int)*(M*255)=k*(M*255)+M*255:=by rw[Int.natCast_succ,wC5,Int.one_mul]
   omega
def zIZ (m:List Int) (i:Nat) (hi:i<3) (w:World):(Instr.index 125 (.agg (bv m)) (.int .i64 (i:Int))).run prog w=.ok (.agg (bv (vO m i))) w:=by
 have hc:((0:Int)≤(i:Int)∧(i:Int)<((3:Nat):Int))=True:=by simp;omega
 have hso:(sizeOf 124).run prog w=.ok 4 w:=by
  cases hq:prog.info? 124 with
  | none=>have:=zKN;simp[hq] at this
  | some inf =>
    have:inf.size=4:=by have:=zKN;simpa [hq] using this
    simp[sizeOf,typeInfo,hq,this]
 have e:(bv m).extract (i*4) (i*4+4)=bv (vO m i):=by
  simp[bv,ints,vO,List.extract_toArray,List.extract_eq_take_drop,wO0,wO1]
 simp only[Instr.index,asIntOf,Sem.run_bind,Sem.run_pure,Result.andThen_ok,run_underlying underlying125,hc,if_true];simp[part,hso,e]
def mvals_set (m l:List Int) (i:Nat) (hi:i<3):((List.range i).map (zBr m l)++List.replicate (3-i) 0).set i (zBr m l i)=(List.range (i+1)).map (zBr m l)++List.replicate (3-(i+1)) 0:=by
 have hl:((List.range i).map (zBr m l)).length=i:=by simp
 rw[wL4 _ _ (by omega),hl,wL5];obtain⟨j,hj⟩:∃j,3-i=j+1:=⟨3-i-1,by omega⟩
 have hj2:3-(i+1)=j:=by omega
 rw[hj,hj2,wG1,wJ9,wG5,wF5];simp
def zLA (cs:Array Value) (i:Nat) (u:Value) (hi:i<3) (hu:cs[i]? =some u) (w:World):(Instr.index 126 (.agg cs) (.int .i64 (i:Int))).run prog w=.ok u w :=
 zCb _ _ 3 cs i u underlying126 _ underlying3 zKO hi hu w
def three_in (m l:List Int) (w:World) (hm:m.length=12) (hl:l.length=3) (hmb:∀z∈m,-20000000≤z∧z≤20000000) (hlb:zR l 0 255=true) :
 Calls prog 86 #[.agg (bv m),.agg (bv l)] w λe w'=>e=.returned (.tuple #[.int .i64 (zBr m l 0),.int .i64 (zBr m l 1),.int .i64 (zBr m l 2),.int .i64 0])∧Ext w w':=by
 have HL:=zA hl;have HLB:=zA (yJ.1 hlb);have hsm:=zA ((zK m).trans hm);have hsl:=zA ((zK l).trans hl);have HRL:=zA (λi hi=>zLZ m hm i hi);have HRB:=zA (zKI m 20000000 hmb);have HSB:=zA (msum_bd m l 20000000 (by omega) hmb hm hl hlb);have HIR:=zA (λi hi W=>zIZ m i hi W);generalize hcm:bv m=cm at *;generalize hcl:bv l=cl at *;have HCL:=zA hcl;clear hcm hcl hm hl hmb hlb;go_enter func86,ntmps86
 go_wp2_with (first
  | (refine wBox rfl 125 (.tmp 0) rfl cm rfl ?_;intro w1 gm hbm1 hx1 hgm)
  | (refine wBox rfl 126 (.tmp 1) rfl cl rfl ?_;intro w2 gl hbl2 hx2 hgl;have hbm2:=hbm1.ext hx2)
  | (refine wAlo' rfl (some 8) rfl 126 rfl _ zero66 ?_;intro w3 go hbo3 hx3 hgo;have hbm3:=hbm2.ext hx3;have hbl3:=hbl2.ext hx3)
  | (refine wLdB rfl 125 (.tmp 2) rfl _ rfl hbm3 _ underlying125 rfl 12 size65 hsm.out ?_))
 have hne:go≠gl:=by have:=hbl2.lt;omega
 have hgo':w.heap.size≤go:=by have:=hx1.size;have:=hx2.size;omega
 have hxx:=(hx1.trans hx2).trans hx3;clear hbm1 hbm2 hbm3 hbl2 hx1 hx2 hx3
 go_loopw [15] (λi wr=>∃k:Nat,k≤3∧i=.int .i64 k∧Blk wr gl 126 cl∧Blk wr go 126 (bv ((List.range k).map (zBr m l)++List.replicate (3-k) 0))∧Ext w wr) (λi _=>3-(intOf i).toNat)
 case atStart=>exact⟨0,by omega,rfl,hbl3,hbo3,hxx⟩
 case round =>
  obtain⟨k,hk,rfl,hb1,hb2,hx⟩:=hrel
  by_cases hlt:k<3
  ·have hix:=HIR.out k hlt;have hrl:=HRL.out k hlt;have hrs:=zA ((zK (vO m k)).trans hrl);have hro:=zA (xR (vO m k));have hz4:Hid ((Value.agg (bv [0,0,0,0])).cells.size=4):=zA rfl;have hrz:=zero64_;have HRZ:=zA hrz;have h3:3<(vO m k).length:=by omega
   have hr3:=zA (jQ (vO m k) 3 h3);have HRK:=zA (λj (hj:j<(vO m k).length)=>jQ (vO m k) j hj);clear hrz;generalize bv (vO m k)=cr at *
   go_wp2_with (first
    | (refine wAlo' rfl (some 10) rfl 124 rfl _ HRZ.out ?_;intro w4 gr hbr4 hx4 hgr)
    | (refine wStB rfl 124 (.tmp 10) (.tmp 18) rfl _ _ rfl rfl hbr4 4 zKN hrs.out hz4.out hro.out ?_;intro w5 hbr5 hg5;have hl3:w5.cell? ⟨gr,3,none⟩=some (.int .i64 (vO m k)[3]):=(hbr5.cell 3).trans hr3.out;have hbl5:=(hb1.ext hx4).grown hg5 (by have:=hb1.lt;simp;omega);have hbo5:=(hb2.ext hx4).grown hg5 (by have:=hb2.lt;simp;omega))
    | (refine wLdB rfl 126 (.tmp 3) rfl _ rfl hbl5 _ underlying126 rfl 3 size66 hsl.out ?_))
   have hgr':w.heap.size≤gr:=by have:=hx.size;omega
   have hx5:=(hx.trans hx4).grown hg5 hgr';clear hb1 hb2 hx hx4 hg5 hbr4;have hs0:zBi m l k 0=(vO m k)[3]:=by simp[zBi,h3]
   have HS0:=zA hs0;clear hs0
   go_loop [11,22] (λs j=>∃n:Nat,n≤3∧j=.int .i64 n∧s=.int .i64 (zBi m l k n)) (λ_ j=>3-(intOf j).toNat)
   case atStart=>exact⟨0,by omega,rfl,by rw[HS0.out]⟩
   case round =>
    obtain⟨n,hn,rfl,rfl⟩:=hrel
    by_cases hlt2:n<3
    ·have hnl:n<l.length:=by have:=HL.out;omega
     have hnr:n<(vO m k).length:=by omega
     have hix2:=zLA cl n (.int .i64 l[n]) hlt2 (by rw[←HCL.out];exact jQ l n hnl);have hrn:w5.cell? ⟨gr,n,none⟩=some (.int .i64 (vO m k)[n]):=(hbr5.cell n).trans (HRK.out n hnr);obtain⟨l1,l2⟩:=HLB.out _ (wC7 hnl);obtain⟨r1,r2⟩:=HRB.out k _ (wC7 hnr);obtain⟨s1,s2⟩:=HSB.out k hlt n hn;have HN:=zA (zOg m l k n hnr hnl);generalize (vO m k)[n]=x at *;generalize l[n]=y at *;have e1:x*y≤20000000*y:=wC3 r2 l1;have e3: -20000000*y≤x*y:=wC3 r1 l1;generalize zBi m l k n=s at *;go_wp2_with fail;go_round
     case rel=>exact⟨n+1,by omega,by go_num,by rw[HN.out]⟩
     case measure=>simp[intOf];omega
    obtain rfl:n=3:=by omega
    obtain⟨s1,s2⟩:=HSB.out k hlt 3 hn;obtain⟨q1,q2⟩:=zUY (zBi m l k 3) 65536 (by omega);have HR:=zA (λW=>zIp (zBi m l k 3) 65536 W (by omega) (by omega) (by omega) (by omega));have HM2:Hid (min (max (rnd (zBi m l k 3) 65536) 0) 255=zBr m l k):=zA (by unfold zBr jY;(repeat' split)<;>omega);have HM:Hid ((if 255<(if rnd (zBi m l k 3) 65536<0 then 0 else rnd (zBi m l k 3) 65536) then 255 else (if rnd (zBi m l k 3) 65536<0 then 0 else rnd (zBi m l k 3) 65536))=zBr m l k):=zA (by unfold zBr jY;(repeat' split)<;>omega)
    obtain⟨old,hold⟩:∃u,w5.cell? ⟨go,k,none⟩=some u:=by
     rw[hbo5.cell k];have hl:((List.range k).map (zBr m l)++List.replicate (3-k) 0).length=3:=by simp;omega
     exact⟨_,jQ _ k (by omega)⟩
    have hfr:=hbo5.frozen k;generalize rnd (zBi m l k 3) 65536=r at *;generalize zBi m l k 3=s at *;go_wp2_with (go_at_call 97;(with_reducible refine (HR.out _).mono ?_);rintro e w' ⟨rfl,rfl⟩)
    first
     | rw[HM.out]
     | rw[HM2.out]
    go_roundw
    case rel =>
     refine⟨k+1,by omega,by go_num,hbl5.far (p:=⟨go,k,none⟩) (by simpa using hne.symm) _, ?_,hx5.setCell (by omega) _⟩;have:=hbo5.set_ k (.int .i64 (zBr m l k));rw[zAE,mvals_set m l k hlt] at this;exact this
    case measure=>simp[intOf];omega
  have ek:k=3:=by omega
  rw[ek] at hb2;have hc0:wr.cell? ⟨go,0,none⟩=some (.int .i64 (zBr m l 0)):=(hb2.cell 0).trans (by rfl);have hc1:wr.cell? ⟨go,1,none⟩=some (.int .i64 (zBr m l 1)):=(hb2.cell 1).trans (by rfl);have hc2:wr.cell? ⟨go,2,none⟩=some (.int .i64 (zBr m l 2)):=(hb2.cell 2).trans (by rfl);go_wp2_with fail;go_quiet (fail)
  go_wp2_with fail
  (try simp only[Exit.inBlock,Exit.then]);refine bodyPost_ret (zCy rfl _ _ _) rfl ?_;exact⟨rfl,hx.trans (zLD (Ext.refl wr) nq)⟩
def three_out (m l:List Int) (w:World) (hm:m.length=12) (hl:l.length=3) (hmb:∀z∈m,-20000000≤z∧z≤20000000) (hlb:zR l 0 255=false) :
 Calls prog 86 #[.agg (bv m),.agg (bv l)] w λe w'=>e=.returned (.tuple #[.int .i64 0,.int .i64 0,.int .i64 0,.int .i64 1])∧Ext w w':=by
 have HL:=zA hl;have HLB:=zA hlb;have hsm:=zA ((zK m).trans hm);have hsl:=zA ((zK l).trans hl);have hrl:=zLZ m hm 0 (by omega);have HRB:=zA (zKI m 20000000 hmb 0);have HIR:=λW=>zIZ m 0 (by omega) W
 generalize hcm:bv m=cm at *;generalize hcl:bv l=cl at *;have HCL:=zA hcl;clear hcm hcl hm hl hmb hlb;have hrs:=zA ((zK (vO m 0)).trans hrl);have hro:=zA (xR (vO m 0));have hz4:Hid ((Value.agg (bv [0,0,0,0])).cells.size=4):=zA rfl;have hrz:=zero64_;have HRZ:=zA hrz;have h3:3<(vO m 0).length:=by omega
 have hr3:=zA (jQ (vO m 0) 3 h3);have HRK:=zA (λj (hj:j<(vO m 0).length)=>jQ (vO m 0) j hj);clear hrz;generalize bv (vO m 0)=cr at *;go_enter func86,ntmps86
 go_wp2_with (first
  | (refine wBox rfl 125 (.tmp 0) rfl cm rfl ?_;intro w1 gm hbm1 hx1 hgm)
  | (refine wBox rfl 126 (.tmp 1) rfl cl rfl ?_;intro w2 gl hbl2 hx2 hgl;have hbm2:=hbm1.ext hx2)
  | (refine wAlo' rfl (some 8) rfl 126 rfl _ zero66 ?_;intro w3 go hbo3 hx3 hgo;have hbm3:=hbm2.ext hx3;have hbl3:=hbl2.ext hx3)
  | (refine wLdB rfl 125 (.tmp 2) rfl _ rfl hbm3 _ underlying125 rfl 12 size65 hsm.out ?_))
 have hxx:=(hx1.trans hx2).trans hx3;clear hbm1 hbm2 hbm3 hbl2 hx1 hx2 hx3
 go_loopw [15] (λi wr=>i=.int .i64 0∧Blk wr gl 126 cl∧Ext w wr) (λi _=>3-(intOf i).toNat)
 case atStart=>exact⟨rfl,hbl3,hxx⟩
 case round =>
  obtain⟨rfl,hb1,hx⟩:=hrel;have hix:∀W,(Instr.index 125 (.agg cm) (.int .i64 0)).run prog W=.ok (.agg cr) W:=HIR
  go_wp2_with (first
   | (refine wAlo' rfl (some 10) rfl 124 rfl _ HRZ.out ?_;intro w4 gr hbr4 hx4 hgr)
   | (refine wStB rfl 124 (.tmp 10) (.tmp 18) rfl _ _ rfl rfl hbr4 4 zKN hrs.out hz4.out hro.out ?_;intro w5 hbr5 hg5;have hl3:w5.cell? ⟨gr,3,none⟩=some (.int .i64 (vO m 0)[3]):=(hbr5.cell 3).trans hr3.out;have hbl5:=(hb1.ext hx4).grown hg5 (by have:=hb1.lt;simp;omega))
   | (refine wLdB rfl 126 (.tmp 3) rfl _ rfl hbl5 _ underlying126 rfl 3 size66 hsl.out ?_))
  have hgr':w.heap.size≤gr:=by have:=hx.size;omega
  have hx5:=(hx.trans hx4).grown hg5 hgr';clear hb1 hx hx4 hg5 hbr4;obtain⟨b1,b2⟩:=HRB.out _ (wC7 h3)
  go_loop [11,22] (λs j=>∃n:Nat,n≤3∧j=.int .i64 n∧(∃z:Int,s=.int .i64 z∧ -(20000000+n*(20000000*255))≤z∧z≤20000000+n*(20000000*255))∧∀z∈l.take n,0≤z∧z≤255) (λ_ j=>3-(intOf j).toNat)
  case atStart=>exact⟨0,by omega,rfl,⟨_,rfl,by omega,by omega⟩,by simp⟩
  case round =>
   obtain⟨n,hn,rfl,⟨s,rfl,s1,s2⟩,hin⟩:=hrel
   by_cases hlt2:n<3
   ·have hnl:n<l.length:=by have:=HL.out;omega
    have hnr:n<(vO m 0).length:=by omega
    have hix2:=zLA cl n (.int .i64 l[n]) hlt2 (by rw[←HCL.out];exact jQ l n hnl);have hrn:w5.cell? ⟨gr,n,none⟩=some (.int .i64 (vO m 0)[n]):=(hbr5.cell n).trans (HRK.out n hnr);obtain⟨r1,r2⟩:=HRB.out _ (wC7 hnr);have HIN:=zA hin;clear hin
    by_cases h0:l[n]<0
    ·clear s1 s2;go_wp2_with fail
     (try simp only[Exit.inBlock,Exit.then]);refine bodyPost_ret (zCy rfl _ _ _) rfl ?_;exact⟨rfl,hx5⟩
    by_cases h1:255<l[n]
    ·clear s1 s2;go_wp2_with fail
     (try simp only[Exit.inBlock,Exit.then]);refine bodyPost_ret (zCy rfl _ _ _) rfl ?_;exact⟨rfl,hx5⟩
    have HN:=zA (zHW HIN.out hnl (lo:=0) (hi:=255) ⟨by omega,by omega⟩);generalize (vO m 0)[n]=x at *;generalize l[n]=y at *;have e1:x*y≤20000000*y:=wC3 r2 (by omega);have e3: -20000000*y≤x*y:=wC3 r1 (by omega);go_wp2_with fail;go_round
    case rel=>exact⟨n+1,by omega,by go_num,⟨_,rfl,by omega,by omega⟩,HN.out⟩
    case measure=>simp[intOf];omega
   exfalso
   have:=HLB.out;rw[←wC6,yJ] at this;refine this λz hz=>hin z ?_
   rwa [wC2 (by have:=HL.out;omega)]
def zAf (m l:List Int):Int×Int×Int×Int:=if zR l 0 255 then (zBr m l 0,zBr m l 1,zBr m l 2,0) else (0,0,0,1)
def zPR (m l:List Int) (w:World) (hm:m.length=12) (hl:l.length=3) (hmb:∀z∈m,-20000000≤z∧z≤20000000) :
 Calls prog 86 #[.agg (bv m),.agg (bv l)] w λe w'=>e=.returned (.tuple #[.int .i64 (zAf m l).1,.int .i64 (zAf m l).2.1,.int .i64 (zAf m l).2.2.1,.int .i64 (zAf m l).2.2.2])∧Ext w w':=by
 unfold zAf
 cases h1:zR l 0 255 with
 | false=>simpa using three_out m l w hm hl hmb h1
 | true=>simpa using three_in m l w hm hl hmb h1
set_option maxRecDepth 20000
def toM:List Int:=[19595,38470,7471,0,-11059,-21709,32768,8388608,32768,-27439,-5329,8388608]
def zUC (r g b:Int) (w:World):Calls prog 39 #[.int .i64 r,.int .i64 g,.int .i64 b] w λe w'=>e=.returned (.tuple #[.int .i64 (zAf toM [r,g,b]).1,.int .i64 (zAf toM [r,g,b]).2.1,.int .i64 (zAf toM [r,g,b]).2.2.1,.int .i64 (zAf toM [r,g,b]).2.2.2])∧Ext w w':=by
 have HT:=zA (λW=>zPR toM [r,g,b] W rfl rfl (by decide));have e1:bv toM= #[.int .i64 19595,.int .i64 38470,.int .i64 7471,.int .i64 0,.int .i64 (-11059),.int .i64 (-21709),.int .i64 32768,.int .i64 8388608,.int .i64 32768,.int .i64 (-27439),.int .i64 (-5329),.int .i64 8388608]:=rfl;have e2:bv [r,g,b]= #[.int .i64 r,.int .i64 g,.int .i64 b]:=rfl;rw[e1,e2] at HT;clear e1 e2;generalize zAf toM [r,g,b]=t at *;go_enter func39,ntmps39
 go_wp2_with (first
  | (go_at_call 86;(with_reducible refine (HT.out _).mono ?_);rintro e w1 ⟨rfl,hx1⟩))
 (try simp only[Exit.inBlock,Exit.then]);refine bodyPost_ret (zCy rfl _ _ _) rfl ?_;exact⟨rfl,hx1⟩
def frM:List Int:=[65536,0,91881,-11760768,65536,-22554,-46802,8877568,65536,116130,0,-14864640]
def zSd (y u v:Int) (w:World):Calls prog 115 #[.int .i64 y,.int .i64 u,.int .i64 v] w λe w'=>e=.returned (.tuple #[.int .i64 (zAf frM [y,u,v]).1,.int .i64 (zAf frM [y,u,v]).2.1,.int .i64 (zAf frM [y,u,v]).2.2.1,.int .i64 (zAf frM [y,u,v]).2.2.2])∧Ext w w':=by
 have HT:=zA (λW=>zPR frM [y,u,v] W rfl rfl (by decide));have e1:bv frM= #[.int .i64 65536,.int .i64 0,.int .i64 91881,.int .i64 (-11760768),.int .i64 65536,.int .i64 (-22554),.int .i64 (-46802),.int .i64 8877568,.int .i64 65536,.int .i64 116130,.int .i64 0,.int .i64 (-14864640)]:=rfl;have e2:bv [y,u,v]= #[.int .i64 y,.int .i64 u,.int .i64 v]:=rfl;rw[e1,e2] at HT;clear e1 e2;generalize zAf frM [y,u,v]=t at *;go_enter func115,ntmps115
 go_wp2_with (first
  | (go_at_call 86;(with_reducible refine (HT.out _).mono ?_);rintro e w1 ⟨rfl,hx1⟩))
 (try simp only[Exit.inBlock,Exit.then]);refine bodyPost_ret (zCy rfl _ _ _) rfl ?_;exact⟨rfl,hx1⟩
def zY:Nat→(Nat→Int)→Int
 | 0,_=>0
 | n+1,f=>zY n f+f n
def jR (n:Nat) (f:Nat→Int):zY (n+1) f=zY n f+f n:=rfl
def jD (n:Nat) (f g:Nat→Int) (h:∀k,k<n→f k=g k):zY n f=zY n g:=by
 induction n with
 | zero=>rfl
 | succ n ih=>rw[jR,jR,ih λk hk=>h k (by omega),h n (by omega)]
def sumTo_add (m n:Nat) (f:Nat→Int):zY (m+n) f=zY m f+zY n (λk=>f (m+k)):=by
 induction n with
 | zero=>simp[zY]
 | succ n ih=>rw[←wA0,jR,ih,jR];omega
def zNd (n:Nat) (f:Nat→Int):zY (8*n) f=zY n (λr=>zY 8 (λk=>f (8*r+k))):=by
 induction n with
 | zero=>rfl
 | succ n ih=>rw[show 8*(n+1)=8*n+8 by omega,sumTo_add,ih,jR n]
def zFJ (n:Nat) (f:Nat→Int) (c:Int):zY n f*c=zY n (λk=>f k*c):=by
 induction n with
 | zero=>simp[zY]
 | succ n ih=>rw[jR,jR,wC5,ih]
def sumTo_bd (n:Nat) (f:Nat→Int) (M:Int) (h:∀k,k<n→ -M≤f k∧f k≤M): -(n*M)≤zY n f∧zY n f≤n*M:=by
 induction n with
 | zero=>simp[zY]
 | succ n ih =>
   have a:=ih λk hk=>h k (by omega)
   have b:=h n (by omega);rw[jR,Int.natCast_succ,wC5,Int.one_mul];omega
def vV (C:Nat→Nat→Int) (b:List Int) (i row k:Nat):Int:=zY k (λk=>b.getD (8*row+k) 0*C i k)
def jH (C:Nat→Nat→Int) (b:List Int):List Int:=(List.range 64).map λm=>vV C b (m/8) (m%8) 8
def zED (C:Nat→Nat→Int) (b:List Int):(jH C b).length=64:=by simp[jH]
def alongZ_at (C:Nat→Nat→Int) (b:List Int) (m:Nat) (h:m<64):(jH C b).getD m 0=vV C b (m/8) (m%8) 8:=by simp[jH,h]
def term_bd (x y M K:Int) (hM:0≤M) (h1: -M≤x) (h2:x≤M) (h3: -K≤y) (h4:y≤K): -(M*K)≤x*y∧x*y≤M*K:=by
 have hK:0≤K:=by omega
 rcases Int.le_total 0 y with hy | hy
 ·have e1:x*y≤M*y:=wC3 h2 hy;have e2:M*y≤M*K:=wC4 h4 hM;have e3: -M*y≤x*y:=wC3 h1 hy;rw[Int.neg_mul] at e3;omega
 have e1:x*(-y)≤M*(-y):=wC3 h2 (by omega);have e2:M*(-y)≤M*K:=wC4 (by omega) hM;have e3: -M*(-y)≤x*(-y):=wC3 h1 (by omega);simp only[Int.mul_neg,Int.neg_mul,Int.neg_neg] at e1 e2 e3;omega
def zMs (C:Nat→Nat→Int) (b:List Int) (M:Int) (hM:0≤M) (hb:∀z∈b,-M≤z∧z≤M) (hC:∀i k,i<8→k<8→ -4096≤C i k∧C i k≤4096) (i row k:Nat) (hi:i<8) (hk:k≤8) :
 -(8*(M*4096))≤vV C b i row k∧vV C b i row k≤8*(M*4096):=by
 have:=sumTo_bd k (λk=>b.getD (8*row+k) 0*C i k) (M*4096) (λj hj=>by
  have hz: -M≤b.getD (8*row+j) 0∧b.getD (8*row+j) 0≤M:=by
   rw[wH7];rcases wA3 (8*row+j) b.length with h | h
   ·rw[wA2 h];exact hb _ (wC7 h)
   ·rw[wO2 h];simp;omega
  have hc:=hC i j hi (by omega)
  exact term_bd _ _ M 4096 hM hz.1 hz.2 hc.1 hc.2)
 have h0:0≤M*4096:=wO5 hM (by omega);have h1:(k:Int)*(M*4096)≤8*(M*4096):=wC3 (by omega) h0;unfold vV;omega
def zOW (C:Nat→Nat→Int) (b:List Int) (M:Int) (hM:0≤M) (hb:∀z∈b,-M≤z∧z≤M) (hC:∀i k,i<8→k<8→ -4096≤C i k∧C i k≤4096) :
 ∀z∈jH C b,-(8*(M*4096))≤z∧z≤8*(M*4096):=by
 intro z hz;unfold jH at hz;obtain⟨m,hm,rfl⟩:=wD2.1 hz;have:m<64:=by simpa using hm
 exact zMs C b M hM hb hC _ _ 8 (by omega) (by omega)
def zGZ (C:Nat→Nat→Int) (b:List Int) (row i k m:Nat):Int :=
 if m%8<row then vV C b (m/8) (m%8) 8
 else if m%8=row then (if m/8<i then vV C b (m/8) (m%8) 8 else if m/8=i then vV C b (m/8) (m%8) k else 0) else 0
def zAJ (C:Nat→Nat→Int) (b:List Int) (row i k:Nat):List Int:=(List.range 64).map (zGZ C b row i k)
def range_set (f g:Nat→Int) (m0:Nat) (v:Int) (_:m0<64) (h1:g m0=v) (h2:∀m,m≠m0→g m=f m):((List.range 64).map f).set m0 v=(List.range 64).map g:=by
 refine wL7 (by simp) λm h3 h4=> ?_
 rw[wM2];split
 ·next h=>subst h;simp[h1]
 next h=>simp[h2 m (λe=>h e.symm)]
def partL_len (C:Nat→Nat→Int) (b:List Int) (row i k:Nat):(zAJ C b row i k).length=64:=by simp[zAJ]
def zTe (C:Nat→Nat→Int) (b:List Int):zAJ C b 0 0 0=List.replicate 64 0:=by
 refine wL7 (by simp[zAJ]) λm h1 h2=> ?_
 simp only[zAJ,wL8,wL9,List.getElem_replicate];unfold zGZ vV;split
 ·omega
 split
 ·split
  ·omega
  split<;>rfl
 rfl
def partL_end (C:Nat→Nat→Int) (b:List Int):zAJ C b 8 0 0=jH C b:=by
 refine wF7 λm hm=> ?_
 have:m<64:=by simpa using hm
 unfold zGZ;rw[if_pos (by omega)]
def partL_row (C:Nat→Nat→Int) (b:List Int) (row:Nat):zAJ C b row 8 0=zAJ C b (row+1) 0 0:=by
 refine wF7 λm hm=> ?_
 have:m<64:=by simpa using hm
 unfold zGZ
 by_cases h1:m%8<row
 ·rw[if_pos h1,if_pos (by omega)]
 rw[if_neg h1]
 by_cases h2:m%8=row
 ·rw[if_pos h2,if_pos (by omega),if_pos (by omega)]
 rw[if_neg h2,if_neg (by omega)];split
 ·rw[if_neg (by omega)];split<;>rfl
 rfl
def zTN (C:Nat→Nat→Int) (b:List Int) (row i:Nat):zAJ C b row i 8=zAJ C b row (i+1) 0:=by
 refine wF7 λm hm=> ?_
 have:m<64:=by simpa using hm
 unfold zGZ
 by_cases h1:m%8<row
 ·rw[if_pos h1,if_pos h1]
 rw[if_neg h1,if_neg h1]
 by_cases h2:m%8=row
 ·rw[if_pos h2,if_pos h2]
  by_cases h3:m/8<i
  ·rw[if_pos h3,if_pos (by omega)]
  rw[if_neg h3]
  by_cases h4:m/8=i
  ·rw[if_pos h4,if_pos (by omega)]
  rw[if_neg h4,if_neg (by omega)];split<;>rfl
 rw[if_neg h2,if_neg h2]
def partL_at (C:Nat→Nat→Int) (b:List Int) (row i k:Nat) (hr:row<8) (_:i<8) (h:8*i+row<(zAJ C b row i k).length):(zAJ C b row i k)[8*i+row]=vV C b i row k:=by simp only[zAJ,wL8,wL9];unfold zGZ;rw[if_neg (by omega),if_pos (by omega),if_neg (by omega),if_pos (by omega),show (8*i+row)/8=i by omega,show (8*i+row)%8=row by omega]
def partL_set (C:Nat→Nat→Int) (b:List Int) (row i k:Nat) (hr:row<8) (_:i<8):(zAJ C b row i k).set (8*i+row) (vV C b i row (k+1))=zAJ C b row i (k+1):=by
 refine range_set _ _ _ _ (by omega) ?_ ?_
 ·unfold zGZ;rw[if_neg (by omega),if_pos (by omega),if_neg (by omega),if_pos (by omega),show (8*i+row)/8=i by omega,show (8*i+row)%8=row by omega]
 intro m hm;unfold zGZ
 by_cases h1:m%8<row
 ·rw[if_pos h1,if_pos h1]
 rw[if_neg h1,if_neg h1]
 by_cases h2:m%8=row
 ·rw[if_pos h2,if_pos h2]
  by_cases h3:m/8<i
  ·rw[if_pos h3,if_pos h3]
  rw[if_neg h3,if_neg h3,if_neg (by omega),if_neg (by omega)]
 rw[if_neg h2,if_neg h2]
def zSM (C:Nat→Nat→Int) (b:List Int) (i row k:Nat):vV C b i row (k+1)=vV C b i row k+b.getD (8*row+k) 0*C i k:=rfl
