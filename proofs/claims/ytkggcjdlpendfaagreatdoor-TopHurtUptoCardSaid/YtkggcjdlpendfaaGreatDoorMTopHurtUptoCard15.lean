import Derived.Test.YtkggcjdlpendfaaGreatDoorMTopHurtUptoCard14
set_option linter.all false
set_option maxRecDepth 20000
set_option maxHeartbeats 8000000
namespace Go.Proofs.YtkggcjdlpendfaaGreatDoor
open Go.RowKit Tryz
section
def zeroI1:((prog.info? 3).bind (·.zero)).isSome=true:=by kernel_rfl
def zOG:((prog.info? 188).bind (·.zero)).isSome=true:=by kernel_rfl
def builtPk (z:Int) (A:Option Addr) (n c:Nat):prog.built 188 [(0,.int .i64 z),(1,.slice A n c)]=some (pkV (z,.slice A n c)):=by
 show _=_
 kernel_rfl
def zHq {o:Oper} {a:Act} {x y:Operand} (ho:o.op=.build 188 #[(0,x),(1,y)]) {z:Int} {A:Option Addr} {n c:Nat} (hx:a.eval x=.int .i64 z) (hy:a.eval y=.slice A n c) (w:World):(execOp a.eval o).run prog w=.ok (.value (.agg (pkV (z,.slice A n c)))) w:=by simp only[execOp,ho,Sem.run_bind,run_build w 188 (#[(0,x),(1,y)].map λ(i,x)=>(i,a.eval x)) (pkV (z,.slice A n c)) (by simpa [hx,hy] using builtPk z A n c),Result.andThen_ok,Sem.run_pure]
def OwnP.lit {w:World} {B g:Nat} {q:FPk} (h:Blk w g 188 (pkV (zCE q))) (hq:IntsAt w q.2 q.1.2) (hB:B≤g):OwnP w B (some ⟨g,0,none⟩) 1 1 [q] :=
 OwnP.of_ds rfl (tl:=[]) h rfl (wA5 _) (by unfold maxLen;omega) hB (λp hp=>by rw[wM5.1 hp];exact hq)
def OwnP.far {w:World} {B m k gp:Nat} {C:Option Addr} {Q:List FPk} {cs:Array Value} (h:OwnP w B C m k Q) (hb:Blk w gp 42 cs):(Value.slice C m k).ownBlock≠some gp:=λe=>by
 obtain⟨ds,k⟩:=h.typed gp e;exact absurd (zPa k hb) (by decide)
def DS.cells {w:World} {g:Nat} {L:List Pk} {tl:List Value} (h:DS w g L tl) (i:Nat) (hi:i<L.length):w.cell? ⟨g,i*2,none⟩=some (.int .i64 L[i].1)∧w.cell? ⟨g,i*2+1,none⟩=some L[i].2:=by
 unfold DS at h;rw[zJO L i hi,wI7,wI7] at h;have hl:(vS (L.take i)).length=i*2:=by rw[zFO,wF1];omega
 constructor
 ·rw[h.cell,wH3,wH9 (by omega),hl,wL5];rfl
 rw[h.cell,wH3,wH9 (by omega),hl,show i*2+1-i*2=1 by omega];rfl
def zFI {w w':World} {a:Addr} {v:Value} (hx:Ext w w') (h:w.cell? a=some v):w'.cell? a=some v:=by
 have hlt:a.block<w.heap.size:=by
  rcases wA3 a.block w.heap.size with q | q
  ·exact q
  unfold World.cell? at h;rw[wA4 q] at h;cases h
 exact (hx.cell hlt).trans h
def IntsAt.sl {w:World} {A:Option Addr} {a c:Nat} {xs:List Int} (h:IntsAt w (.slice A a c) xs) (hl:xs.length=a):SL w 1 (.slice A a c) a (ints xs):=by
 have:=h.1
 rwa [hl] at this
def OwnP.base {w:World} {B B' m k g:Nat} {Q:List FPk} (h:OwnP w B (some ⟨g,0,none⟩) m k Q) (hB:B'≤B):OwnP w B' (some ⟨g,0,none⟩) m k Q:=by obtain⟨tl,hD,h1,h2,h3,h4⟩:=h.ds;exact OwnP.of_ds h.len hD h1 h2 h3 (by omega) h.all
def zUS:zAn prog 150:=⟨_,func150,rfl,rfl⟩
def zRn {ops:Array Oper} {rest:List Oper} {o:Oper} {a:Act} {w:World} {Q:Exit→Act→World→Prop} (hg:o.guard=none) (x y:Operand) (ho:o.op=.buildSlice 29 2 #[(0,x),(1,y)]) (dst:Option Tmp) (hdst:o.dst=dst)
 (A1 A2:Option Addr) (a1 c1 a2 c2:Nat) (hx:a.eval x=.slice A1 a1 c1) (hy:a.eval y=.slice A2 a2 c2)
 (h:∀w1 g,Blk w1 g 22 #[.slice A1 a1 c1,.slice A2 a2 c2]→Ext w w1→w.heap.size≤g→wpList prog ops Q rest (a.put dst (.slice (some ⟨g,0,none⟩) 2 2)) w1):wpList prog ops Q (o::rest) a w:=by
 refine Go.Great.wpList_buildSliceTo hg 29 22 2 #[(0,x),(1,y)] ho _ rfl dst hdst underlying29 #[.slice A1 a1 c1,.slice A2 a2 c2] ?_ (h _ _ (Blk.new w _ _) ((Ext.refl w).alloc _) (wA5 _));simp only[wI2,wG6,wG7,hx,hy];show _=_
 kernel_rfl
attribute [local irreducible] BM.singN vS BM.lenF
def make_good (counts:List Int) (A:Option Addr) (n c:Nat) (hn:counts.length=n) (w:World) (hv:SL w 1 (.slice A n c) n (ints counts)) (hb:qQ counts=0) :
 Calls prog 101 #[.slice A n c] w λe w'=>∃cs xs B d,e=.returned (.tuple #[.agg (yY cs (.slice B xs.length d)),.int .i64 0])∧BM.Made counts cs xs∧cs.length=16∧w'.ownsRow w.heap.size 3 1 (.slice B xs.length d) xs.length (ints xs)∧Ext w w':=by
 have HB:=zA (λW (hx:Ext w W)=>zNZ counts (.slice A n c) W (by rw[hn];exact hv.ext hx));rw[hb] at HB;obtain⟨b1,b2⟩:=zGn hb;have HIN:=zA (yJ.1 b2);rw[hn] at b1;have HN:=zA hn;have hs0:BM.singN counts 0=[(0,[-1])]:=by rw[BM.singN]
 have HSS:=zA (λi=>(show BM.singN counts (i+1)=BM.singN counts i++(if 0<counts.getD i 0 then [((counts.getD i 0).toNat,[(i:Int)])] else []) by rw[BM.singN]));have HSM:=zA (BM.singN_mem counts (λz hz=>(HIN.out z hz).2));clear hb b2 hn;go_enter func101,ntmps101
 go_upto_region 6 with (first
  | ((with_reducible apply gS 2);refine wAlo' rfl (some 2) rfl 42 rfl _ zLY ?_;intro w1 gp hp1 hx1 hgp)
  | (go_at_call 49;(with_reducible refine (HB.out _ hx1).mono ?_);rintro e w2 ⟨rfl,rfl⟩)
  | ((with_reducible apply gS 25);refine wLit1 rfl 22 3 _ rfl (some 25) rfl underlying22 1 jM zeroI1 (.int .i64 (-1)) rfl rfl (by omega) (by omega) ?_;intro w3 g3 hb3 hx3 hg3)
  | ((with_reducible apply gS 26);refine zB rfl (.agg (pkV (0,.slice (some ⟨g3,0,none⟩) 1 1))) (zHq rfl rfl rfl) ?_)
  | ((with_reducible apply gS 27);refine wLit1 rfl 189 188 _ rfl (some 27) rfl underlying189 2 zFq zOG (.agg (pkV (0,.slice (some ⟨g3,0,none⟩) 1 1))) rfl rfl (by omega) (by omega) ?_;intro w4 g4 hb4 hx4 hg4))
 have hx24:=hx3.trans hx4;have hx04:=hx1.trans hx24;have hp4:=hp1.ext hx24;have hq0:IntsAt w4 (.slice (some ⟨g3,0,none⟩) 1 1) [-1]:=(IntsAt.lit hb3).ext hx4;have ho0:OwnP w4 w.heap.size (some ⟨g4,0,none⟩) 1 1 [((0,[-1]),.slice (some ⟨g3,0,none⟩) 1 1)]:=OwnP.lit hb4 hq0 (by have:=(hx1.trans hx3).size;omega);clear hb3 hb4 hq0 hx3 hx4
 go_loopw [5,30] (λsv iv wr=>∃(i m k:Nat) (C:Option Addr) (Q:List FPk),i≤n∧iv=.int .i64 (i:Int)∧sv=.slice C m k∧OwnP wr w.heap.size C m k Q∧Hid (Q.map (·.1)=BM.singN counts i)∧m≤i+1∧1≤m∧Blk wr gp 42 (yY (List.replicate 16 0) (.slice none 0 0))∧Ext w wr) (λ_ i _=>n-(intOf i).toNat)
 case atStart=>exact⟨0,1,1,some ⟨g4,0,none⟩,[((0,[-1]),.slice (some ⟨g3,0,none⟩) 1 1)],by omega,rfl,rfl,ho0,zA (by rw[hs0];rfl),by omega,by omega,hp4,hx04⟩
 case round =>
  clear ho0 hp4 hx04 hp1 hx24 hx1;obtain⟨i,m,k,C,Q,hi,rfl,rfl,hQ,HQM,hmi,h1m,hp,hx⟩:=hrel
  by_cases hlt:i<n
  ·obtain⟨ad,u,rfl,hab,hxk,hcell⟩:=(hv.ext hx).at1 hlt;obtain⟨hkl,rfl⟩:=zCB _ _ _ hxk;have hz1:=HIN.out _ (wC7 hkl);have hss:=HSS.out i;rw[show counts.getD i 0=counts[i] by simp[hkl]] at hss;generalize counts[i]=z8 at *;obtain⟨z,rfl⟩:∃z:Nat,z8=(z:Int):=⟨z8.toNat,by omega⟩
   clear hxk
   by_cases hp0:0<z
   ·rw[if_pos (by omega),wD7] at hss;have HSU:=zA hss;clear hss
    go_wp2_with (first
     | ((with_reducible apply gS 36);refine zB rfl (.bool true) (xY rfl rfl rfl (by simpa using hp0)) ?_)
     | ((with_reducible apply gS 40);refine wLit1 rfl 22 3 _ rfl (some 40) rfl underlying22 1 jM zeroI1 (.int .i64 (i:Int)) rfl rfl (by omega) (by omega) ?_;intro w5 g5 hb5 hx5 hg5)
     | ((with_reducible apply gS 41);refine zB rfl (.agg (pkV ((z:Int),.slice (some ⟨g5,0,none⟩) 1 1))) (zHq rfl rfl rfl) ?_)
     | ((with_reducible apply gS 42);refine wLit1 rfl 189 188 _ rfl (some 42) rfl underlying189 2 zFq zOG (.agg (pkV ((z:Int),.slice (some ⟨g5,0,none⟩) 1 1))) rfl rfl (by omega) (by omega) ?_;intro w6 g6 hb6 hx6 hg6;have hx56:=hx5.trans hx6;have hQ6:=hQ.ext hx56;have hR6:=OwnP.lit (q:=((z,[(i:Int)]),.slice (some ⟨g5,0,none⟩) 1 1)) (B:=0) hb6 ((IntsAt.lit hb5).ext hx6) (wJ4 _);have hsz6:=(hx.trans hx56).size)
     | ((with_reducible apply gS 43);refine wApf zNW rfl _ _ rfl w.heap.size _ _ _ rfl hQ6.own _ 1 _ rfl hR6.sl (zEg hR6.all.ones) (by omega) (by omega) (by omega) ?_;intro C7 k7 w7 ho7 hg7 hr7))
    have hQ7:=hQ6.app hR6.all rfl ho7 hg7;have hp7:=(zM hg7).blk (hp.ext hx56) (hQ6.far (hp.ext hx56));have hx7:=(zM hg7).ext (hx.trans hx56) (λx h=>(hQ6.own.lt x h).1);go_roundw
    case rel=>exact⟨i+1,m+1,k7,C7,Q++[((z,[(i:Int)]),.slice (some ⟨g5,0,none⟩) 1 1)],by omega,by go_num,rfl,hQ7,zA (by rw[wF5,HQM.out,HSU.out];rfl),by omega,by omega,hp7,hx7⟩
    case measure=>simp[intOf];omega
   rw[if_neg (by omega),wG9] at hss;have HSU:=zA hss;clear hss;go_wp2_with ((with_reducible apply gS 36);refine zB rfl (.bool false) (xY rfl rfl rfl (by simpa using hp0)) ?_)
   go_roundw
   case rel=>exact⟨i+1,m,k,C,Q,by omega,by go_num,rfl,hQ,zA (by rw[HQM.out,HSU.out]),by omega,by omega,hp,hx⟩
   case measure=>simp[intOf];omega
  obtain rfl:i=n:=by omega
  obtain⟨gs,rfl,hBs⟩:=hQ.addr h1m
  go_upto_region 14 with (first
   | ((with_reducible apply gS 31);refine zB rfl (.bool false) (yB rfl rfl rfl (by simp)) ?_)
   | (go_at_call 147;(with_reducible refine (zOc hQ (by omega)).mono ?_);rintro e w5 ⟨rfl,S,hS,hSp,hSs,hu5⟩)
   | (go_at_call 149;(with_reducible refine (zTu hS (by omega) (by omega)).mono ?_);rintro e w6 ⟨gr,k6,rfl,hR,hx6⟩))
  have hp6:=(hu5.blk hp (λe=>hQ.far hp (by rw[e];rfl))).ext hx6;have hxw6:=(hu5.ext hx (λx h=>by omega)).trans hx6;have hS6:=hS.ext hx6
  --<rows>
  have HPL:Hid ((S.map (·.1)).Perm (BM.singN counts i)):=zA (by rw[←HQM.out];exact hSp.map _);have HSO:Hid (((S.map (·.1)).map (·.1)).Pairwise (· ≤ ·)):=zA (by rw[wF6];exact hSs);have HS1:Hid (∀p∈S.map (·.1),p.2.length≤1∧p.1≤9999):=zA (λp hp=>by have:=HSM.out i p (HPL.out.subset hp);omega);have HSL:Hid ((S.map (·.1)).length=m):=zA (by rw[wQ9,hS.len]);have hgs5:gs<w5.heap.size:=by obtain⟨tl,hD,-⟩:=hS.ds;exact Blk.lt hD
  have hgr5:gr≠gs:=by obtain⟨tl,hD,h1,h2,h3,h4⟩:=hR.ds;omega
  have HR0:Hid (BM.Reach (S.map (·.1)) 0 (S.map (·.1))):=zA .zero;clear hQ HQM hSp hSs hu5 hS hx hp hx6
  go_loopw [8,49] (λrv fv wr=>∃(f m1 k1 g:Nat) (Q:List FPk),f≤15∧fv=.int .i64 (f:Int)∧rv=.slice (some ⟨g,0,none⟩) m1 k1∧OwnP wr w5.heap.size (some ⟨g,0,none⟩) m1 k1 Q∧OwnP wr w.heap.size (some ⟨gs,0,none⟩) m k S∧g≠gs∧Hid (BM.Reach (S.map (·.1)) f (Q.map (·.1)))∧Blk wr gp 42 (yY (List.replicate 16 0) (.slice none 0 0))∧Ext w wr) (λ_ f _=>15-(intOf f).toNat)
  case atStart=>exact⟨0,m,k6,gr,S,by omega,rfl,rfl,hR,hS6,hgr5,HR0,hp6,hxw6⟩
  case round =>
   clear hR hS6 hgr5 HR0 hp6 hxw6;obtain⟨f,m1,k1,g,Q,hf,rfl,rfl,hQ,hS,hne,HRC,hp,hx⟩:=hrel;obtain⟨W0,hW0⟩:∃W0:World,W0=wr:=⟨_,rfl⟩
   subst hW0
   have hm1:m≤m1∧m1≤2*m:=by
    have h1:=HRC.out.len;have h2:=BM.lenF_bd (S.map (·.1)).length f;rw[wQ9,hQ.len] at h1;rw[HSL.out] at h1 h2;omega
   have hgwr:gs<W0.heap.size:=by obtain⟨tl,hD,-⟩:=hS.ds;exact Blk.lt hD
   have hgwq:g<W0.heap.size∧w5.heap.size≤g:=by obtain⟨tl,hD,h1,h2,h3,h4⟩:=hQ.ds;exact⟨Blk.lt hD,h4⟩
   have hgpr:=hp.lt
   by_cases hlf:f<15
   ·have HBD:Hid (∀q∈Q,q.1.2.length≤16384∧q.1.1≤9999*16384):=zA (λq hq=>by
     have h1:=HRC.out.bound HS1.out q.1 (wT3 hq);have h2:2 ^ f≤2 ^ 14:=wF3 (by omega) (by omega)
     omega)
    have hN0:=OwnP.nil W0 W0.heap.size;go_upto_region 17 with ((with_reducible apply gS 50);refine zB rfl (.bool true) (yB rfl rfl rfl (by simpa using hlf)) ?_)
    go_loopw [9,10] (λnv iv w2=>∃(i j kN:Nat) (CN:Option Addr) (N:List FPk),2*j=i∧i≤m1∧iv=.int .i64 (i:Int)∧nv=.slice CN j kN∧OwnP w2 W0.heap.size CN j kN N∧Hid (N.map (·.1)=(BM.pairP (Q.map (·.1))).take j)∧OwnP w2 w5.heap.size (some ⟨g,0,none⟩) m1 k1 Q∧OwnP w2 w.heap.size (some ⟨gs,0,none⟩) m k S∧Blk w2 gp 42 (yY (List.replicate 16 0) (.slice none 0 0))∧Ext W0 w2) (λ_ i _=>m1-(intOf i).toNat)
    case atStart=>exact⟨0,0,0,none,[],rfl,by omega,rfl,rfl,hN0,zA rfl,hQ,hS,hp,Ext.refl _⟩
    case round =>
    clear hN0 hQ hS hp;obtain⟨i,j,kN,CN,N,hji,him,rfl,rfl,hN,HNM,hQ,hS,hp,hx2⟩:=hrel;obtain⟨i1,hi1⟩:∃i1,i+1=i1:=⟨_,rfl⟩
    have hsz2:=hx2.size
    by_cases hl3:i1<m1
    ·have hQl:Q.length=m1:=hQ.len;obtain⟨tl,hDQ,-⟩:=hQ.ds;have d1:=DS.cells hDQ i (by rw[wQ9];omega);have d2:=DS.cells hDQ i1 (by rw[wQ9];omega);rw[wL8] at d1 d2;have hm_1:Q[i]'(by omega)∈Q:=wC7 _;have hm_2:Q[i1]'(by omega)∈Q:=wC7 _;have hbd1:=HBD.out _ hm_1;have hbd2:=HBD.out _ hm_2;have hq1:=hQ.all _ hm_1;have hq2:=hQ.all _ hm_2
     have HTK:Hid ((BM.pairP (Q.map (·.1))).take (j+1)=(BM.pairP (Q.map (·.1))).take j++[((Q[i]'(by omega)).1.1+(Q[i1]'(by omega)).1.1,(Q[i]'(by omega)).1.2++(Q[i1]'(by omega)).1.2)]):=zA (by
      subst hji;subst hi1;have:=BM.pairP_take (L:=Q.map (·.1)) (j:=j) (by rw[wQ9];omega);rw[this]
      simp)
     generalize Q[i]'(by omega)=q1 at *;generalize Q[i1]'(by omega)=q2 at *;obtain⟨⟨x1,y1⟩,v1⟩:=q1;obtain⟨⟨x2,y2⟩,v2⟩:=q2;dsimp only at hq1 hq2;have hq1':=hq1.1;have hq2':=hq2.1;obtain⟨A1,c1,rfl,-⟩:=hq1';obtain⟨A2,c2,rfl,-⟩:=hq2';obtain⟨a1,hl1⟩:∃a,y1.length=a:=⟨_,rfl⟩
     obtain⟨a2,hl2⟩:∃a,y2.length=a:=⟨_,rfl⟩
     dsimp only at hbd1 hbd2 HTK d1 d2;unfold zCE at d1 d2;dsimp only at d1 d2;rw[hl1] at hbd1 hq1 d1;rw[hl2] at hbd2 hq2 d2;have HKI:Hid (∀(W W':World),Ext W W'→(W.cell? ⟨g,i*2,none⟩=some (.int .i64 (x1:Int))∧W.cell? ⟨g,i1*2,none⟩=some (.int .i64 (x2:Int))∧W.cell? ⟨g,i*2+1,none⟩=some (.slice A1 a1 c1)∧W.cell? ⟨g,i1*2+1,none⟩=some (.slice A2 a2 c2))→(W'.cell? ⟨g,i*2,none⟩=some (.int .i64 (x1:Int))∧W'.cell? ⟨g,i1*2,none⟩=some (.int .i64 (x2:Int))∧W'.cell? ⟨g,i*2+1,none⟩=some (.slice A1 a1 c1)∧W'.cell? ⟨g,i1*2+1,none⟩=some (.slice A2 a2 c2))):=zA (λW W' h k=>⟨zFI h k.1,zFI h k.2.1,zFI h k.2.2.1,zFI h k.2.2.2⟩);have hI:wr.drew.cell? ⟨g,i*2,none⟩=some (.int .i64 (x1:Int))∧wr.drew.cell? ⟨g,i1*2,none⟩=some (.int .i64 (x2:Int))∧wr.drew.cell? ⟨g,i*2+1,none⟩=some (.slice A1 a1 c1)∧wr.drew.cell? ⟨g,i1*2+1,none⟩=some (.slice A2 a2 c2):=⟨d1.1,d2.1,d1.2,d2.2⟩
     have hq1D:=hq1.ext (Ext.refl wr).drew;have hq2D:=hq2.ext (Ext.refl wr).drew;clear hm_1 hm_2 d1 d2 hDQ
     go_upto_region 19 with (first
      | ((with_reducible apply gS 52);refine zB rfl (.int .i64 (i1:Int)) (by rw[←hi1];exact yL (i:=i) (d:=1) rfl rfl rfl (by omega)) ?_)
      | ((with_reducible apply gS 55);refine zB rfl (.bool true) (yB rfl rfl rfl (by simpa using hl3)) ?_))
     refine vI (λk=>k ==5 ||k ==11 ||k ==17 ||k ==23 ||k ==24 ||k ==25) (λW=>W.cell? ⟨g,i*2,none⟩=some (.int .i64 (x1:Int))∧W.cell? ⟨g,i1*2,none⟩=some (.int .i64 (x2:Int))∧W.cell? ⟨g,i*2+1,none⟩=some (.slice A1 a1 c1)∧W.cell? ⟨g,i1*2+1,none⟩=some (.slice A2 a2 c2)) (by kernel_rfl) ?_;refine zI (k:=0) (by kernel_rfl) rfl (by rfl) (.slice CN j kN) (zD rfl rfl) ?_;simp only[sP,sB,sC];refine zI (k:=1) (by kernel_rfl) rfl (by rfl) (.slice (some ⟨g,0,none⟩) m1 k1) (zD rfl rfl) ?_;simp only[sP,sB,sC];refine zI (k:=2) (by kernel_rfl) rfl (by rfl) (.int .i64 (i:Int)) (zD rfl rfl) ?_;simp only[sP,sB,sC];refine zI (k:=3) (by kernel_rfl) rfl (by rfl) (.pointer (some ⟨g,i*2,none⟩)) (xQ rfl rfl rfl (by omega)) ?_;simp only[sP,sB,sC];refine zI (k:=4) (by kernel_rfl) rfl (by rfl) (.pointer (some ⟨g,i*2,none⟩)) (λW=>by go_simp) ?_;simp only[sP,sB,sC];refine zI (k:=6) (by kernel_rfl) rfl (by rfl) (.slice (some ⟨g,0,none⟩) m1 k1) (zD rfl rfl) ?_;simp only[sP,sB,sC];refine zI (k:=7) (by kernel_rfl) rfl (by rfl) (.int .i64 (i:Int)) (zD rfl rfl) ?_;simp only[sP,sB,sC];refine zI (k:=8) (by kernel_rfl) rfl (by rfl) (.int .i64 (i1:Int)) (by rw[←hi1];exact yL (i:=i) (d:=1) rfl rfl rfl (by omega)) ?_;simp only[sP,sB,sC];refine zI (k:=9) (by kernel_rfl) rfl (by rfl) (.pointer (some ⟨g,i1*2,none⟩)) (xQ rfl rfl rfl (by omega)) ?_;simp only[sP,sB,sC];refine zI (k:=10) (by kernel_rfl) rfl (by rfl) (.pointer (some ⟨g,i1*2,none⟩)) (λW=>by go_simp) ?_;simp only[sP,sB,sC];refine zI (k:=13) (by kernel_rfl) rfl (by rfl) (.slice (some ⟨g,0,none⟩) m1 k1) (zD rfl rfl) ?_;simp only[sP,sB,sC];refine zI (k:=14) (by kernel_rfl) rfl (by rfl) (.int .i64 (i:Int)) (zD rfl rfl) ?_;simp only[sP,sB,sC];refine zI (k:=15) (by kernel_rfl) rfl (by rfl) (.pointer (some ⟨g,i*2,none⟩)) (xQ rfl rfl rfl (by omega)) ?_;simp only[sP,sB,sC];refine zI (k:=16) (by kernel_rfl) rfl (by rfl) (.pointer (some ⟨g,i*2+1,none⟩)) (λW=>by go_simp) ?_;simp only[sP,sB,sC];refine zI (k:=18) (by kernel_rfl) rfl (by rfl) (.slice (some ⟨g,0,none⟩) m1 k1) (zD rfl rfl) ?_;simp only[sP,sB,sC];refine zI (k:=19) (by kernel_rfl) rfl (by rfl) (.int .i64 (i:Int)) (zD rfl rfl) ?_;simp only[sP,sB,sC];refine zI (k:=20) (by kernel_rfl) rfl (by rfl) (.int .i64 (i1:Int)) (by rw[←hi1];exact yL (i:=i) (d:=1) rfl rfl rfl (by omega)) ?_;simp only[sP,sB,sC];refine zI (k:=21) (by kernel_rfl) rfl (by rfl) (.pointer (some ⟨g,i1*2,none⟩)) (xQ rfl rfl rfl (by omega)) ?_;simp only[sP,sB,sC];refine zI (k:=22) (by kernel_rfl) rfl (by rfl) (.pointer (some ⟨g,i1*2+1,none⟩)) (λW=>by go_simp) ?_;simp only[sP,sB,sC];refine vR (k:=5) (by kernel_rfl) rfl (by rfl) (.int .i64 (x1:Int)) (λW hW=>zS rfl rfl hW.1) hI ?_;simp only[Act.put,sA,sB,sC];refine vR (k:=11) (by kernel_rfl) rfl (by rfl) (.int .i64 (x2:Int)) (λW hW=>zS rfl rfl hW.2.1) hI ?_;simp only[Act.put,sA,sB,sC];refine zI (k:=12) (by kernel_rfl) rfl (by rfl) (.int .i64 ((x1+x2:Nat):Int)) (yL rfl rfl rfl (by omega)) ?_;simp only[sP,sB,sC];refine vR (k:=17) (by kernel_rfl) rfl (by rfl) (.slice A1 a1 c1) (λW hW=>jV rfl rfl hW.2.2.1) hI ?_;simp only[Act.put,sA,sB,sC];refine vR (k:=23) (by kernel_rfl) rfl (by rfl) (.slice A2 a2 c2) (λW hW=>jV rfl rfl hW.2.2.2) hI ?_;simp only[Act.put,sA,sB,sC];refine xZ (k:=24) (by kernel_rfl) rfl ?_;refine zRn rfl _ _ rfl (some 82) rfl A1 A2 a1 c1 a2 c2 rfl rfl ?_;intro w9 g9 hb9 hx9 hg9;have hq19:=hq1D.ext hx9;have hq29:=hq2D.ext hx9;refine zZ ⟨λ_=>HKI.out _ _ hx9 hI, ?_⟩;simp only[Act.put,sA,sB,sC];refine xZ (k:=25) (by kernel_rfl) rfl ?_;refine xK (by rfl) (xL _ _ _ rfl rfl zUS #[.slice (some ⟨g9,0,none⟩) 2 2] (by simp[Act.eval])) ?_;refine (zTy y1 y2 A1 A2 a1 a2 c1 c2 g9 w9 hl1 hl2 (by omega) (by omega) (IntsAt.sl hq19 hl1) (IntsAt.sl hq29 hl2) hb9).mono ?_;rintro e w10 ⟨C10,k10,rfl,ho10,hx10⟩;refine⟨_,rfl,zZ ⟨λ_=>HKI.out _ _ hx10 (HKI.out _ _ hx9 hI), ?_⟩⟩;simp only[Act.put,sA,sB,sC];refine zI (k:=26) (by kernel_rfl) rfl (by rfl) (.agg (pkV (((x1+x2:Nat):Int),.slice C10 (a1+a2) k10))) (zHq rfl rfl rfl) ?_;simp only[sP,sB,sC];refine xZ (k:=27) (by kernel_rfl) rfl ?_;refine wLit1 rfl 189 188 _ rfl (some 85) rfl underlying189 2 zFq zOG (.agg (pkV (((x1+x2:Nat):Int),.slice C10 (a1+a2) k10))) rfl rfl (by omega) (by omega) ?_;intro w11 g11 hb11 hx11 hg11;have hxD:=((Ext.refl wr).drew.trans (hx9.trans hx10)).trans hx11;have hN11:=hN.ext hxD;have hR11:=OwnP.lit (q:=((x1+x2,y1++y2),.slice C10 (a1+a2) k10)) (B:=0) hb11 ((IntsAt.own ho10 (by rw[wE2,hl1,hl2])).ext hx11) (wJ4 _);have hsz11:=hxD.size;refine zZ ⟨λh=>(by cases h), ?_⟩;simp only[Act.put,sA,sB,sC];refine xZ (k:=28) (by kernel_rfl) rfl ?_;refine wApf zNW rfl _ _ rfl W0.heap.size _ _ _ rfl hN11.own _ 1 _ rfl hR11.sl (zEg hR11.all.ones) (by omega) (by omega) (by omega) ?_;intro C12 k12 w12 ho12 hg12 hr12;refine zZ ⟨λh=>(by cases h), ?_⟩;simp only[Act.put,sA,sB,sC];refine zI (k:=29) (by kernel_rfl) rfl (by rfl) (.slice C12 (j+1) k12) (zW rfl rfl) ?_;simp only[sP,sB,sC];refine zAK (by kernel_rfl) ?_;have hN12:=hN11.app hR11.all rfl ho12 hg12;have hu12:=zM hg12;have hty:∀b cs,(Value.slice CN j kN).ownBlock=some b→¬Blk w11 b 3 cs:=λb cs hb=>by obtain⟨ds,h⟩:=hN11.typed b hb;exact zHG h
     have hge:∀b,(Value.slice CN j kN).ownBlock=some b→W0.heap.size≤b:=λb hb=>(hN11.own.lt b hb).1
     have hQ12:=(hQ.ext hxD).upd hu12 hty (λad e h=>by injection e with e;have:=hge _ h;rw[←e] at this;dsimp only at this;omega);have hS12:=(hS.ext hxD).upd hu12 hty (λad e h=>by injection e with e;have:=hge _ h;rw[←e] at this;dsimp only at this;omega);have hp12:=hu12.blk (hp.ext hxD) (hN11.far (hp.ext hxD));have hx12:=hu12.ext (hx2.trans hxD) hge;go_wp2_with ((with_reducible apply gS 57);refine zB rfl (.int .i64 ((i+2:Nat):Int)) (yL (i:=i) (d:=2) rfl rfl rfl (by omega)) ?_)
     go_roundw
     case rel=>exact⟨i+2,j+1,k12,C12,N++[((x1+x2,y1++y2),.slice C10 (a1+a2) k10)],by omega,by omega,by go_num,rfl,hN12,zA (by rw[wF5,HNM.out,HTK.out];rfl),hQ12,hS12,hp12,hx12⟩
     case measure=>simp[intOf];omega
    have HNA:Hid (N.map (·.1)=BM.pairP (Q.map (·.1))):=zA (by
     rw[HNM.out];refine wC2 ?_;rw[BM.pairP_len,wQ9,hQ.len]
     omega)
    have hge:∀b,(Value.slice CN j kN).ownBlock=some b→W0.heap.size≤b:=λb hb=>(hN.own.lt b hb).1
    go_wp2_with (first
     | ((with_reducible apply gS 52);refine zB rfl (.int .i64 (i1:Int)) (by rw[←hi1];exact yL (i:=i) (d:=1) rfl rfl rfl (by omega)) ?_)
     | ((with_reducible apply gS 55);refine zB rfl (.bool false) (yB rfl rfl rfl (by simpa using hl3)) ?_)
     | ((with_reducible apply gS 89);refine wApf zNW rfl _ _ rfl W0.heap.size _ _ _ rfl hN.own _ m _ rfl hS.sl (zEg hS.all.ones) (by omega) (by omega) (by omega) ?_;intro C5 k5 w7 ho5 hg5 hr5;have hN3:=hN.app hS.all hS.len ho5 hg5;obtain⟨g3,rfl,hB3⟩:=hN3.addr (by omega))
     | (go_at_call 147;(with_reducible refine (zOc hN3 (by omega)).mono ?_);rintro e w8 ⟨rfl,Q3,hQ3,hp3,hs3,hu3⟩)
     | ((with_reducible apply gS 92);refine zB rfl (.int .i64 ((f+1:Nat):Int)) (yL (i:=f) (d:=1) rfl rfl rfl (by omega)) ?_))
    have hu5:=zM hg5;have hty:∀b cs,(Value.slice CN j kN).ownBlock=some b→¬Blk wr b 3 cs:=λb cs hb=>by obtain⟨ds,h⟩:=hN.typed b hb;exact zHG h
    have hS5:=hS.upd hu5 hty (λad e h=>by injection e with e;have:=hge _ h;rw[←e] at this;dsimp only at this;omega);obtain⟨tl3,hD3,-⟩:=hN3.ds;have hS8:=hS5.upd hu3 (λb cs hb=>by subst hb;exact zHG hD3) (λad e h=>by injection e with e;rw[←e] at h;dsimp only at h;omega);have hp5:=hu5.blk hp (hN.far hp);have hp8:=hu3.blk hp5 (λe=>hN3.far hp5 (by rw[e];rfl));have hx8:=hu3.ext (hu5.ext (hx.trans hx2) (λx h=>by have:=hge x h;have:=hx.size;omega)) (λx h=>by have:=hx.size;omega);have HRN:Hid (BM.Reach (S.map (·.1)) (f+1) (Q3.map (·.1))):=zA (.step HRC.out (by rw[←HNA.out, ←wF5];exact hp3.map _) (by rw[wF6];exact hs3));have hQ8:OwnP w8 w5.heap.size (some ⟨g3,0,none⟩) (j+m) k5 Q3:=hQ3.base (by omega);go_roundw
    case rel=>exact⟨f+1,j+m,k5,g3,Q3,by omega,by go_num,rfl,hQ8,hS8,by omega,HRN,hp8,hx8⟩
    case measure=>simp[intOf];omega
   obtain rfl:f=15:=by omega
   have HLEN:Hid (2*m-2≤m1):=zA (by
    have h1:=HRC.out.len;rw[wQ9,hQ.len,HSL.out] at h1;rw[h1]
    exact BM.lenF_15 m (by omega))
   have hlen:=HLEN.out
   have HBD:Hid (∀p∈Q.map (·.1),p.2.length≤32768∧p.1≤9999*32768):=zA (λp hp=>by
    have h1:=HRC.out.bound HS1.out p hp
    exact h1)
   have HSY:Hid (∀p∈Q.map (·.1),∀s∈p.2,-1≤s∧s<256):=zA (HRC.out.syms (R:=λs=> -1≤s∧s<256) (λp hp s hs=>by have:=BM.singN_syms counts i p (HPL.out.subset hp) s hs;omega));obtain⟨h2,hh2⟩:∃h2,2*m-2=h2:=⟨_,rfl⟩
   rw[hh2] at hlen;have HMK:Hid (∀cs xs,cs=BM.csN (λs=>(BM.cont ((Q.map (·.1)).take h2)).count s) i 16 0→xs=BM.xsN (λs=>(BM.cont ((Q.map (·.1)).take h2)).count s) i 16 0→BM.Made counts cs xs):=zA (λcs xs e1 e2=>⟨S.map (·.1),Q.map (·.1),by rw[HN.out];exact HPL.out,HSO.out,HRC.out,by rw[HSL.out,hh2,HN.out];exact e1,by rw[HSL.out,hh2,HN.out];exact e2⟩);have HQL:Hid ((Q.map (·.1)).length=m1):=zA (by rw[wQ9,hQ.len]);have hk1:m1≤k1:=by obtain⟨tl,-,h1,h2,h3,h4⟩:=hQ.ds;exact h2
   clear HRC HSO HPL HS1 hS;have hmm:= @run_makeMap prog
   go_upto_region 25 with (first
    | ((with_reducible apply gS 50);refine zB rfl (.bool false) (yB rfl rfl rfl (by simp)) ?_)
    | ((with_reducible apply gS 97);refine zB rfl (.int .i64 ((2*m:Nat):Int)) (zCc rfl rfl rfl (by omega)) ?_)
    | ((with_reducible apply gS 98);refine zB rfl (.int .i64 (h2:Int)) (by rw[←hh2];exact xP rfl rfl rfl (by omega) (by omega)) ?_)
    | ((with_reducible apply gS 99);refine zB rfl (.slice (some ⟨g,0,none⟩) h2 k1) (ex_headP rfl rfl rfl hlen hk1) ?_))
   have hm0:MapI prog 3 (W0.alloc (.map #[] 0)) W0.heap.size 0 (zDO (BM.cont ((Q.map (·.1)).take 0))):=by
    rw[wH2,show BM.cont []=[] from rfl,cntF_nil];exact MapG.made W0
   have hx5:=(Ext.refl W0).alloc (.map #[] 0);have hQ5:=hQ.ext hx5;have hp5:=hp.ext hx5;have hxw:=hx.trans hx5;have hgM:=hgwq.1;have hsM:W0.heap.size<(W0.alloc (.map #[] 0)).heap.size:=by rw[World.size_alloc];omega
   have hxW:=hx.size;generalize hWM:W0.heap.size=M at *;generalize W0.alloc (.map #[] 0)=W5 at *;clear hmm hQ hx5 hp hx hlf hWM
   go_loopw [101] (λjv wr=>∃(j q:Nat),j≤h2∧jv=.int .i64 (j:Int)∧MapI prog 3 wr M q (zDO (BM.cont ((Q.map (·.1)).take j)))∧q≤j*32768∧Upd (λb=>b=M) W5 wr) (λj _=>h2-(intOf j).toNat)
   case atStart=>exact⟨0,0,by omega,rfl,hm0,by omega,Upd.refl _ _⟩
   case round =>
   have hmap5:∀cs,¬Blk W5 M 3 cs:=λcs=>hm0.not_cells
   clear hm0;obtain⟨j,q,hj,rfl,hm,hqb,hu⟩:=hrel;have hQr:=hQ5.upd hu (λb cs hb=>by subst hb;exact hmap5 cs) (λad e h=>by injection e with e;rw[←e] at h;dsimp only at h;omega)
   by_cases hlj:j<h2
   ·have hQl:Q.length=m1:=hQr.len;obtain⟨tl,hDQ,-⟩:=hQr.ds;have hmem:Q[j]'(by omega)∈Q:=wC7 _;have hbd:=HBD.out _ (wT3 (f:=(·.1)) hmem);have HSYq:=zA (HSY.out _ (wT3 (f:=(·.1)) hmem));have hq1:=hQr.all _ hmem
    have HTK:Hid (BM.cont ((Q.map (·.1)).take (j+1))=BM.cont ((Q.map (·.1)).take j)++(Q[j]'(by omega)).1.2):=zA (by
     have:=BM.cont_take_succ (Q.map (·.1)) j (by rw[wQ9];omega);rw[this]
     simp)
    have HCB:Hid ((BM.cont ((Q.map (·.1)).take j)).length≤j*32768):=zA (by
     have h1:=BM.cont_len (L:=(Q.map (·.1)).take j) (b:=32768) (λp hp=>(HBD.out p (wH6 hp)).1);have h2:((Q.map (·.1)).take j).length≤j:=by rw[wF1];exact Nat.min_le_left _ _
     exact le_mul32 h1 h2)
    have HLD:Hid ((Q.map zCE)[j]'(by rw[wQ9];omega)=zCE (Q[j]'(by omega))):=zA (by rw[wL8])
    have HLP:Hid (∀(o:Oper) (ac:Act),o.op=.load 188 (.tmp 103)→ac.eval (.tmp 103)=.pointer (some ⟨g,j*2,none⟩)→(execOp ac.eval o).run prog wr=.ok (.value (.agg (pkV (zCE (Q[j]'(by omega)))))) wr):=zA (λo ac ho hx=>by
     have h:=qE ho hDQ (i:=j) (by rw[wQ9];omega) hx
     rwa [HLD.out] at h)
    generalize Q[j]'(by omega)=q1 at *;obtain⟨⟨x1,y1⟩,v1⟩:=q1;dsimp only at hq1;have hq1':=hq1.1;obtain⟨A1,c1,rfl,-⟩:=hq1';obtain⟨a1,hl1⟩:∃a,y1.length=a:=⟨_,rfl⟩
    have HL1:=zA hl1;dsimp only at hbd HTK HSYq HLP HLD;unfold zCE at HLP;dsimp only at HLP;rw[hl1] at hbd hq1 HLP;have hs1:=hq1.sl hl1;clear hmem hDQ HLD hl1;have hj2:j*32768≤16777216:=by omega
    go_upto_region 28 with (first
     | ((with_reducible apply gS 102);refine zB rfl (.bool true) (yB rfl rfl rfl (by simpa using hlj)) ?_)
     | ((with_reducible apply gS 103);refine zB rfl (.pointer (some ⟨g,j*2,none⟩)) (xQ rfl rfl rfl hlj) ?_)
     | ((with_reducible apply gS 104);refine yU rfl (.agg (pkV ((x1:Int),.slice A1 a1 c1))) (HLP.out _ _ rfl rfl) ?_)
     | ((with_reducible apply gS 13);refine wAlo' rfl (some 13) rfl 188 rfl _ zeroPkV ?_;intro w7 g7 hb7 hx7 hg7)
     | ((with_reducible apply gT 13 104);refine wStB rfl 188 (.tmp 13) (.tmp 104) rfl g7 (pkV ((x1:Int),.slice A1 a1 c1)) rfl rfl hb7 2 zFq rfl rfl (pk_one _ _ _ _) ?_;intro w8 hb8 hg8;have hx8:=hx7.grown hg8 hg7;have hc8:w8.cell? ⟨g7,1,none⟩=some (.slice A1 a1 c1):=hb8.cell 1)
     | ((with_reducible apply gS 106);refine yU rfl (.slice A1 a1 c1) (jV rfl rfl hc8) ?_))
    have hm8:=hm.ext hx8;have hs8:=hs1.ext hx8;have hu8:=hu.trans (Upd.of_ext (S:=λb=>b=M) hx8) (λx h=>.inl h);have hM8:M<w8.heap.size:=hm8.lt;have hm80:MapI prog 3 w8 M q (zDO (BM.cont ((Q.map (·.1)).take j)++y1.take 0)):=by rw[wH2,wG9];exact hm8
    have hA1M:∀ad,A1=some ad→¬(ad.block=M):=λad e h=>by
     subst e;obtain⟨cs,hb⟩:=hq1.2 ad.block rfl;exact hm.not_cells (by rw[←h];exact hb)
    clear hx7 hx8 hb7 hb8 hg8 hg7 hm hm8 hu hs1 hq1 hQr hc8
    go_loopw [108] (λiv wr=>∃(e p:Nat),e≤a1∧iv=.int .i64 (e:Int)∧MapI prog 3 wr M p (zDO (BM.cont ((Q.map (·.1)).take j)++y1.take e))∧p≤q+e∧Upd (λb=>b=M) w8 wr) (λe _=>a1-(intOf e).toNat)
    case atStart=>exact⟨0,q,by omega,rfl,hm80,by omega,Upd.refl _ _⟩
    case round =>
    clear hm80;obtain⟨e,p,he,rfl,hm,hpb,hu⟩:=hrel
    by_cases hle:e<a1
    ·obtain⟨ad,u,rfl,hab,hxk,hcell⟩:=(hs8.upd hu hA1M).at1 hle;obtain⟨hkl,rfl⟩:=zCB _ _ _ hxk;have hsy:=HSYq.out _ (wC7 hkl);have HTE:Hid (y1.take (e+1)=y1.take e++[y1[e]]):=zA (wC1 hkl);generalize y1[e]=s1 at *;have HSA:=zA (cntF_same (BM.cont ((Q.map (·.1)).take j)++y1.take e) s1);have HOT:=zA (λt=>zVA (BM.cont ((Q.map (·.1)).take j)++y1.take e) s1 t);have hlook:=zPJ (BM.cont ((Q.map (·.1)).take j)++y1.take e) s1
     have hcb:(BM.cont ((Q.map (·.1)).take j)++y1.take e).count s1≤100000000:=by
      have h1:=List.count_le_length (a:=s1) (l:=BM.cont ((Q.map (·.1)).take j)++y1.take e);rw[wE2,wF1] at h1;have h3:=HCB.out;omega
     have HAA:Hid (BM.cont ((Q.map (·.1)).take j)++y1.take (e+1)=(BM.cont ((Q.map (·.1)).take j)++y1.take e)++[s1]):=zA (by rw[HTE.out,wI7]);generalize BM.cont ((Q.map (·.1)).take j)++y1.take e=CC at *;generalize CC.count s1=ct at *;have hkey:=zA (zDq (P:=prog) underlying3 (a:=s1) (by omega) (by omega));have HLK:=zA hlook;clear hxk hlook
     go_wp2_with (first
      | ((with_reducible apply gS 109);refine zB rfl (.bool true) (yB rfl rfl rfl (by simpa using hle)) ?_)
      | ((with_reducible apply gS 114);refine zDV (by rfl) _ _ 92 3 rfl zFM underlying92 (.int .i64 0) (zLh _) rfl hm _ rfl s1 trivial hkey.out _ HLK.out ?_)
      | ((with_reducible apply gS 115);refine zB rfl (.int .i64 ((ct+1:Nat):Int)) (yL (i:=ct) (d:=1) rfl rfl rfl (by omega)) ?_)
      | (at_mapUpdate;refine zCs (by rfl) _ _ _ 92 3 rfl zFM underlying92 rfl hm (by omega) _ rfl _ rfl s1 hkey.out (zDO (CC++[s1])) HSA.out (λt _ ht=>HOT.out t (λe=>ht (by rw[e]))) (λt _ ht=>by injection ht) ?_;intro w9 hm9 hg9))
     go_roundw
     case rel=>exact⟨e+1,p+1,by omega,by go_num,by rw[HAA.out];exact hm9,by omega,hu.grown hg9 (λb hb=>.inl (by injection hb with hb;exact hb.symm))⟩
     case measure=>simp[intOf];omega
    obtain rfl:e=a1:=by omega
    have HTA:Hid (BM.cont ((Q.map (·.1)).take j)++y1.take e=BM.cont ((Q.map (·.1)).take (j+1))):=zA (by rw[HTK.out];congr 1;exact wC2 (by rw[HL1.out];exact wA5 _));rw[HTA.out] at hm
    go_wp2_with (first
     | ((with_reducible apply gS 109);refine zB rfl (.bool false) (yB rfl rfl rfl (by simp)) ?_)
     | ((with_reducible apply gS 117);refine zB rfl (.int .i64 ((j+1:Nat):Int)) (yL (i:=j) (d:=1) rfl rfl rfl (by omega)) ?_))
    go_roundw
    case rel=>exact⟨j+1,p,by omega,by go_num,hm,by omega,hu8.trans hu (λx h=>.inl h)⟩
    case measure=>simp[intOf];omega
   obtain rfl:j=h2:=by omega
   obtain⟨CC,hCC⟩:∃CC,BM.cont ((Q.map (·.1)).take j)=CC:=⟨_,rfl⟩
   rw[hCC] at hm HMK;obtain⟨cf,hcf⟩:∃cf:Int→Nat,(λs=>CC.count s)=cf:=⟨_,rfl⟩
   rw[hcf] at HMK;have HLK:Hid (∀s,(zDO CC s).getD (.int .i64 0)=.int .i64 ((cf s:Nat):Int)):=zA (λs=>by rw[zPJ, ←hcf]);generalize zDO CC=FF at *;have hpr:=hu.blk hp5 (by omega);have hxr:=hu.ext hxw (λx h=>by omega);have hvr:=hv.ext hxr;have hMr:=hm.lt;clear hCC hcf HBD HSY hQr hu hp5 hxw hQ5 HQL HLEN;have HX0:Hid ((BM.xsN cf i 0 0).length=0):=zA (by have:=BM.xsN_len cf i 0 0;omega);have HC0:Hid (BM.csN cf i 0 0=List.replicate 16 0):=zA (BM.csN_zero cf i)
   go_upto_region 35 with (first
    | ((with_reducible apply gS 102);refine zB rfl (.bool false) (yB rfl rfl rfl (by simp)) ?_)
    | ((with_reducible apply gS 16);refine wAlo' rfl (some 16) rfl 42 rfl _ zLY ?_;intro w6 gt ht6 hx6 hgt))
   have hm6:=hm.ext hx6;have hp6:=hpr.ext hx6;have hxw6:=hxr.trans hx6;have hgpt:gp≠gt:=by have:=hpr.lt;omega
   have hMgt:M≠gt:=by omega
   have ho6:w6.ownsRow w.heap.size 3 1 (.slice none 0 0) 0 (ints (BM.xsN cf i 0 0)):=by
    rw[wI1 HX0.out];exact zAm _ _ _ _
   have ht60:Blk w6 gt 42 (yY (BM.csN cf i 0 0) (.slice none 0 0)):=by rw[HC0.out];exact ht6
   clear ht6 hm hpr hxr hx6 hvr
   go_loopw [118] (λkv wr=>∃(k x d:Nat) (B:Option Addr),k≤16∧kv=.int .i64 (k:Int)∧Blk wr gt 42 (yY (BM.csN cf i k 0) (.slice B x d))∧Hid ((BM.xsN cf i k 0).length=x)∧wr.ownsRow w.heap.size 3 1 (.slice B x d) x (ints (BM.xsN cf i k 0))∧MapI prog 3 wr M q FF∧Blk wr gp 42 (yY (List.replicate 16 0) (.slice none 0 0))∧Ext w wr) (λk _=>16-(intOf k).toNat)
   case atStart=>exact⟨0,0,0,none,by omega,rfl,ht60,HX0,ho6,hm6,hp6,hxw6⟩
   case round =>
   clear ht60 HX0 ho6 hm6 hp6 hxw6 HC0;obtain⟨k,x,d,B,hk,rfl,ht,HX,hown,hm,hp,hx⟩:=hrel
   by_cases hlk:k<16
   ·go_upto_region 38 with ((with_reducible apply gS 119);refine zB rfl (.bool true) (yB rfl rfl rfl (by simpa using hlk)) ?_)
    try rw[show decide ((k:Int)<16)=true by simp;omega]
    go_loopw [123] (λsv wr=>∃(s x d:Nat) (B:Option Addr),s≤i∧sv=.int .i64 (s:Int)∧Blk wr gt 42 (yY (BM.csN cf i k s) (.slice B x d))∧Hid ((BM.xsN cf i k s).length=x)∧wr.ownsRow w.heap.size 3 1 (.slice B x d) x (ints (BM.xsN cf i k s))∧MapI prog 3 wr M q FF∧Blk wr gp 42 (yY (List.replicate 16 0) (.slice none 0 0))∧Ext w wr) (λs _=>i-(intOf s).toNat)
    case atStart=>exact⟨0,x,d,B,by omega,rfl,ht,HX,hown,hm,hp,hx⟩
    case round =>
    clear ht HX hown hm hp hx;obtain⟨s,x,d,B,hs,rfl,ht,HX,hown,hm,hp,hx⟩:=hrel;obtain⟨k1,hkk⟩:∃k1,k+1=k1:=⟨_,rfl⟩
    by_cases hls:s<i
    ·have hkey:=zA (zDq (P:=prog) underlying3 (a:=(s:Int)) (by omega) (by omega));have hlook:=HLK.out (s:Int)
     have hxb:x≤5000:=by
      have h1:=BM.xsN_len cf i k s;have h2:k*i≤16*i:=wO9 i (by omega);rw[HX.out] at h1;omega
     by_cases he:cf (s:Int)=k+1
     ·have HE:=zA he;have HCS:=zA (BM.csN_set cf i k s he);have HXS:=zA (BM.xsN_snoc cf i k s he);have HCL:=zA (BM.csN_len cf i k s)
      have hck:wr.cell? ⟨gt,k,none⟩=some (.int .i64 (((BM.filt cf k s).length:Nat):Int)):=by
       rw[ht.cell,tblM_get _ _ k (by rw[BM.csN_len];exact hlk),BM.csN_at cf i k s hlk]
      have hfl:=BM.filt_len cf k s;rw[he,hkk] at hlook;generalize (BM.filt cf k s).length=fl at *
      go_wp2_with (first
       | ((with_reducible apply gS 124);refine zB rfl (.bool true) (yB rfl rfl rfl (by simpa using hls)) ?_)
       | ((with_reducible apply gS 128);refine zDV (by rfl) _ _ 92 3 rfl zFM underlying92 (.int .i64 0) (zLh _) rfl hm _ rfl (s:Int) trivial hkey.out _ hlook ?_)
       | ((with_reducible apply gS 130);refine zB rfl (.int .i64 (k1:Int)) (by rw[←hkk];exact yL (i:=k) (d:=1) rfl rfl rfl (by omega)) ?_)
       | ((with_reducible apply gS 131);refine zB rfl (.bool true) (uZ rfl rfl rfl (by simp)) ?_)
       | ((with_reducible apply gS 134);refine zB rfl (.pointer (some ⟨gt,k,none⟩)) (zJJ underlying40 jM rfl rfl rfl hlk) ?_)
       | ((with_reducible apply gS 135);refine yU rfl (.int .i64 (fl:Int)) (zS rfl rfl hck) ?_)
       | ((with_reducible apply gS 136);refine zB rfl (.int .i64 ((fl+1:Nat):Int)) (yL (i:=fl) (d:=1) rfl rfl rfl (by omega)) ?_)
       | ((with_reducible apply gS 138);refine zB rfl (.pointer (some ⟨gt,k,none⟩)) (zJJ underlying40 jM rfl rfl rfl hlk) ?_)
       | ((with_reducible apply gT 138 136);refine zAc rfl _ _ rfl gt k _ rfl rfl ht (by rw[zAb _ _ HCL.out];omega) ?_;have ht1:=ht.set_ k (.int .i64 ((fl+1:Nat):Int));rw[tblM_set _ _ _ _ (by rw[HCL.out];exact hlk),wB6,Int.natCast_one,HCS.out] at ht1;have hu1:=(Upd.refl (λb=>b=gt) wr).setCell (p:=⟨gt,k,none⟩) rfl (.int .i64 ((fl+1:Nat):Int));rw[wB6,Int.natCast_one] at hu1;have ho1:=qV hown hu1 (λy hy e=>jS hown ht zGu (by rw[hy,e]));have hm1:=hm.setCell (a:=⟨gt,k,none⟩) hMgt (.int .i64 ((fl:Int)+1));have hp1:=hu1.blk hp hgpt;have hx1:=hu1.ext hx (λy h=>by have:=hx.size;have:=hxW;omega);have hc16:=zEw ht1 (BM.csN_len cf i k (s+1)))
       | ((with_reducible apply gS 140);refine yU rfl (.slice B x d) (jV rfl rfl hc16) ?_)
       | ((with_reducible apply gS 142);refine wLit1 rfl 22 3 _ rfl (some 142) rfl underlying22 1 jM zeroI1 (.int .i64 (s:Int)) rfl rfl (by omega) (by omega) ?_;intro w7 g7 hb7 hx7 hg7;have hsz7:=(hx1.trans hx7).size)
       | ((with_reducible apply gS 143);refine wApf zHl rfl _ _ rfl w.heap.size _ _ _ rfl (yE ho1 hx7) _ 1 _ rfl (IntsAt.lit hb7).1 (qK [(s:Int)]) (by omega) (by omega) (by omega) ?_;intro B8 d8 w8 ho8 hg8 hr8;have hu8:=zM hg8;have ht8:=hu8.blk (ht1.ext hx7) (λe=>jS (yE ho1 hx7) (ht1.ext hx7) zGu e.symm);have hp8:=hu8.blk (hp1.ext hx7) (λe=>jS (yE ho1 hx7) (hp1.ext hx7) zGu e.symm);have hm8:=(hm1.ext hx7).grown hg8 (zUV (yE ho1 hx7) (hm1.ext hx7));have hx8:=hu8.ext (hx1.trans hx7) (λy h=>((yE ho1 hx7).lt y h).1))
       | ((with_reducible apply gT 144 143);refine zIx rfl _ _ rfl gt 16 B8 (x+1) d8 rfl rfl ht8 (by rw[zAb _ _ (BM.csN_len cf i k (s+1))];omega) ?_))
      have ht9:=ht8.set_ 16 (.slice B8 (x+1) d8);rw[zRr _ _ _ (BM.csN_len cf i k (s+1))] at ht9;have hu9:=(Upd.refl (λb=>b=gt) w8).setCell (p:=⟨gt,16,none⟩) rfl (.slice B8 (x+1) d8);have ho9:=qV ho8 hu9 (λy hy e=>jS ho8 ht8 zGu (by rw[hy,e]));have hm9:=hm8.setCell (a:=⟨gt,16,none⟩) hMgt (.slice B8 (x+1) d8);have hp9:=hu9.blk hp8 hgpt;have hx9:=hu9.ext hx8 (λy h=>by have:=hx.size;have:=hxW;omega);rw[←vP, ←HXS.out] at ho9;go_roundw
      case rel=>exact⟨s+1,x+1,d8,B8,by omega,by go_num,ht9,zA (by rw[HXS.out,wE2,HX.out];rfl),ho9,hm9,hp9,hx9⟩
      case measure=>simp[intOf];omega
     have HCK:=zA (BM.csN_keep cf i k s he);have HXK:=zA (BM.xsN_keep cf i k s he);have heI:decide (((cf (s:Int):Nat):Int)=(k1:Int))=false:=by simp;omega
     generalize cf (s:Int)=cv at *
     go_wp2_with (first
      | ((with_reducible apply gS 124);refine zB rfl (.bool true) (yB rfl rfl rfl (by simpa using hls)) ?_)
      | ((with_reducible apply gS 128);refine zDV (by rfl) _ _ 92 3 rfl zFM underlying92 (.int .i64 0) (zLh _) rfl hm _ rfl (s:Int) trivial hkey.out _ hlook ?_)
      | ((with_reducible apply gS 130);refine zB rfl (.int .i64 (k1:Int)) (by rw[←hkk];exact yL (i:=k) (d:=1) rfl rfl rfl (by omega)) ?_)
      | ((with_reducible apply gS 131);refine zB rfl (.bool false) (uZ rfl rfl rfl heI) ?_))
     go_roundw
     case rel =>
      first
       | exact⟨s+1,by omega,by go_num,x,d,B,by rw[HCK.out];exact ht,zA (by rw[HXK.out,HX.out]),by rw[HXK.out];exact hown,hm,hp,hx⟩
       | exact⟨s+1,x,d,B,by omega,by go_num,by rw[HCK.out];exact ht,zA (by rw[HXK.out,HX.out]),by rw[HXK.out];exact hown,hm,hp,hx⟩
       | ((repeat apply Exists.intro);refine⟨?_,rfl⟩;exact⟨s+1,x,d,B,by omega,by go_num,by rw[HCK.out];exact ht,zA (by rw[HXK.out,HX.out]),by rw[HXK.out];exact hown,hm,hp,hx⟩)
     case measure=>simp[intOf];omega
    obtain rfl:s=i:=by omega
    have HCN:=zA (BM.csN_next cf s k);have HXN:=zA (BM.xsN_next cf s k);rw[HCN.out] at ht;rw[HXN.out] at hown HX
    go_wp2_with (first
     | ((with_reducible apply gS 124);refine zB rfl (.bool false) (yB rfl rfl rfl (by simp)) ?_)
     | ((with_reducible apply gS 146);refine zB rfl (.int .i64 (k1:Int)) (by rw[←hkk];exact yL (i:=k) (d:=1) rfl rfl rfl (by omega)) ?_))
    go_roundw
    case rel=>first
     | exact⟨k1,by omega,rfl,x,d,B,by rw[←hkk];exact ht,by rw[←hkk];exact HX,by rw[←hkk];exact hown,hm,hp,hx⟩
     | exact⟨k1,x,d,B,by omega,rfl,by rw[←hkk];exact ht,by rw[←hkk];exact HX,by rw[←hkk];exact hown,hm,hp,hx⟩
    case measure=>simp[intOf];omega
   obtain rfl:k=16:=by omega
   have hHX:=HX.out;subst hHX;have HSZ:=zA (λv=>zAb (BM.csN cf i 16 0) v (BM.csN_len cf i 16 0));have hzs:(Value.agg (yY (List.replicate 16 0) (.slice none 0 0))).cells.size=17:=zAb _ _ (by simp);have HM:=zA (HMK.out _ _ rfl rfl);have HCL:=zA (BM.csN_len cf i 16 0);have HON:=zA (zRd (BM.csN cf i 16 0));generalize BM.csN cf i 16 0=cs at *;generalize BM.xsN cf i 16 0=xs at *
   go_wp2_with (first
    | ((with_reducible apply gS 119);refine zB rfl (.bool false) (yB rfl rfl rfl (by simp)) ?_)
    | ((with_reducible apply gS 147);refine wLdB rfl 42 (.tmp 16) rfl gt rfl ht _ underlying42 rfl 17 zX (HSZ.out _) ?_)
    | ((with_reducible apply gT 2 147);refine wStB rfl 42 (.tmp 2) (.tmp 147) rfl gp _ rfl rfl hp 17 zX (HSZ.out _) hzs (HON.out _ _ _) ?_;intro w9 hb9 hg9))
   have hu9:=zM hg9;have ho9:=qV hown hu9 (λy hy e=>jS hown hp zGu (by rw[hy];exact e));exact yN rfl rfl gp rfl hb9 _ underlying42 rfl 17 zX (HSZ.out _) ⟨cs,xs,B,d,rfl,HM.out,HCL.out,ho9,hu9.ext hx (λy h=>by injection h with h;omega)⟩
end
def builtT0:prog.built 42 []=some (yY (List.replicate 16 0) (.slice none 0 0)):=by
 show _=some (ints (List.replicate 16 0)++[Value.slice none 0 0]).toArray
 kernel_rfl
def make_bad (counts:List Int) (A:Option Addr) (n c:Nat) (hn:counts.length=n) (w:World) (hv:SL w 1 (.slice A n c) n (ints counts)) (hb:qQ counts≠0) :
 Calls prog 101 #[.slice A n c] w λe w'=>e=.returned (.tuple #[.agg (yY (List.replicate 16 0) (.slice none 0 0)),.int .i64 (qQ counts)])∧Ext w w':=by
 have HB:=zA (λW (hx:Ext w W)=>zNZ counts (.slice A n c) W (by rw[hn];exact hv.ext hx));have hz2:(qQ counts !=0)=true:=by simpa using hb
 have HT:=zA builtT0;have HZ:=zLY;have hts:=zA (zAb (List.replicate 16 0) (.slice none 0 0) (by simp));have hzs:Hid ((Value.agg (yY (List.replicate 16 0) (.slice none 0 0))).cells.size=17):=zA (zAb _ _ (by simp));have HON:=zA (zRd (List.replicate 16 0) none 0 0);generalize qQ counts=z at *;generalize yY (List.replicate 16 0) (.slice none 0 0)=tv at *;clear hb;go_enter func101,ntmps101
 go_wp2_with (first
  | ((with_reducible apply gS 2);refine wAlo' rfl (some 2) rfl 42 rfl _ HZ ?_;intro w1 gp hp1 hx1 hgp)
  | (go_at_call 49;(with_reducible refine (HB.out _ hx1).mono ?_);rintro e w2 ⟨rfl,rfl⟩)
  | ((with_reducible apply gS 23);refine jI (by rfl) 42 rfl _ HT.out ?_)
  | ((with_reducible apply gT 2 23);refine wStB rfl 42 (.tmp 2) (.tmp 23) rfl gp tv rfl rfl hp1 17 zX hts.out hzs.out HON.out ?_;intro w5 hb5 hg5;have hx5:=hx1.grown hg5 hgp))
 exact yN rfl rfl gp rfl hb5 _ underlying42 rfl 17 zX hts.out ⟨rfl,hx5⟩
def zCm (cs:List Int) (sl:Value) {w:World} {m:Nat} {xs:List Value} (h:SL w 1 sl m xs):(zV cs sl).toArray.all (·.oneCell')=true:=by
 obtain⟨A,c,rfl,-⟩:=h;rw[wP9,wI3];intro v hv;unfold zV at hv;rcases wD3.1 hv with hv | hv
 ·obtain⟨z,-,rfl⟩:=wD2.1 hv;rfl
 simp at hv;subst hv;rfl
section
def zDJ (counts cs xs:List Int):Prop:=(qQ counts=0→BM.Made counts cs xs)∧(qQ counts≠0→cs=List.replicate 16 0∧xs=[])
def zSY (counts:List Int) (A:Option Addr) (n c:Nat) (hn:counts.length=n) (w:World) (hv:SL w 1 (.slice A n c) n (ints counts)) :
 Calls prog 101 #[.slice A n c] w λe w'=>∃cs xs B d z,e=.returned (.tuple #[.agg (zV cs (.slice B xs.length d)).toArray,.int .i64 z])∧zDJ counts cs xs∧cs.length=16∧SL w' 1 (.slice B xs.length d) xs.length (ints xs)∧(∀ad,B=some ad→w.heap.size≤ad.block)∧Ext w w':=by
 by_cases hb:qQ counts=0
 ·refine (make_good counts A n c hn w hv hb).mono ?_;rintro e w' ⟨cs,xs,B,d,rfl,h1,h2,h3,h4⟩;exact⟨cs,xs,B,d,0,rfl,⟨λ_=>h1,λh=>absurd hb h⟩,h2,(jC h3).1,(jC h3).2,h4⟩
 refine (make_bad counts A n c hn w hv hb).mono ?_;rintro e w' ⟨rfl,h4⟩;exact⟨List.replicate 16 0,[],none,0,_,rfl,⟨λh=>absurd h hb,λ_=>⟨rfl,rfl⟩⟩,wM9,SL.nil _ _,(λad h=>by cases h),h4⟩
def zeroTbls:(prog.info? 44).bind (·.zero)=some (.agg (zV (List.replicate 16 0) (.slice none 0 0)++zV (List.replicate 16 0) (.slice none 0 0)).toArray):=by kernel_rfl
def rowI {w:World} {g:Nat} {l:List Int} (hl:l.length=256) (h:Blk w g 3 (bv l)):SL w 1 (.slice (some ⟨g,0,none⟩) 256 256) 256 (ints l):=by
 have:=h.sl (size:=1) (n:=256) (c:=256) (by rw[zK,hl]) (by omega) (by omega)
 rwa [show (bv l).toList=ints l from rfl] at this
def zKd {l:List Int} {i:Nat} {z:Int} (h:l[i]? =some z):(bv l)[i]? =some (.int .i64 z):=by simp[bv,ints,h]
def zGS {w:World} {cs:List Int} {s:Value} {n:Nat} {xs:List Value} (h:SL w 1 s n xs):∀v∈zV cs s,v.oneCell'=true:=by
 have:=zCm cs s h
 rwa [wP9,wI3] at this
def run_addW (x y:Int) (w:World):(binOp .add 3 (.int .i64 x) (.int .i64 y)).run prog w=.ok (.int .i64 (wrap64 (x+y))) w:=by
 have e:IntKind.i64.wrap (x+y)=wrap64 (x+y):=by simp[IntKind.wrap_i64,wrap64]
 go_simp
def ex_addW {o:Oper} {a:Act} {x y:Operand} {t2:TypeId} (ho:o.op=.binOp .add 3 x y t2) {u v:Int} (hx:a.eval x=.int .i64 u) (hy:a.eval y=.int .i64 v) (w:World):(execOp a.eval o).run prog w=.ok (.value (.int .i64 (wrap64 (u+v)))) w:=jO ho hx hy (run_addW u v) w
attribute [local irreducible] bv jG yM zL xJ xN zAw zCj z256 yD
def zTz (e n:Nat) (he:e≤1000000) (A:Option Addr) (c:Nat) (Z:List Int) (hZ:Z.length=n*64) (hE:qJ n Z=0) (w:World) (hs:SL w 64 (.slice A n c) n (ints Z)) :
 Calls prog 44 #[.slice A n c,.int .i64 (e:Int)] w λen w'=>∃cs1 xs1 s1 cs2 xs2 s2,en=.returned (.agg (zV cs1 s1++zV cs2 s2).toArray)∧zDJ (xJ n e Z (zL n e)).1 cs1 xs1∧zDJ (xJ n e Z (zL n e)).2 cs2 xs2∧cs1.length=16∧cs2.length=16∧SL w' 1 s1 xs1.length (ints xs1)∧SL w' 1 s2 xs2.length (ints xs2)∧(∀b,s1.ownBlock=some b→w.heap.size≤b)∧(∀b,s2.ownBlock=some b→w.heap.size≤b)∧Ext w w':=by
 have hn4:=(zCh.1 hE).1;have HSP:=zA (λW=>zPC n e (by omega) he W);have HZ:=zA hZ;have HE:=zA hE;have HS:=zA hs;have HAT:=zA (λi (h:i<zL n e)=>zGC h);have hK:zL n e≤n+1:=zEO;have hnc:n≤c:=by obtain⟨A',c',q,q1,q2,-,-⟩:=hs;injection q with q3 q4 q5;omega
 obtain⟨K,hKK⟩:∃K,zL n e=K:=⟨_,rfl⟩
 rw[hKK] at HSP HAT hK ⊢;clear hKK hZ hE hs;have h0:Hid (xJ n e Z 0=(z256,z256)):=zA (by rw[xJ]);have HNX:=zA (λk=>(show xJ n e Z (k+1)=(zAw (xJ n e Z k).1 (xN yQ (min (n-k*yM n e) (yM n e)) (yD n e k Z) (z256,z256)).2.1,zAw (xJ n e Z k).2 (xN yQ (min (n-k*yM n e) (yM n e)) (yD n e k Z) (z256,z256)).2.2) by rw[xJ]));obtain⟨T0,hT0⟩:∃T0,T0=zV (List.replicate 16 0) (.slice none 0 0):=⟨_,rfl⟩
 have hT0l:T0.length=17:=by rw[hT0];exact zU _ _ wM9
 have hzt:=zeroTbls;rw[←hT0] at hzt;have HT0L:=zA hT0l;clear hT0 hT0l;go_enter func44,ntmps44
 go_upto_region 1 with (first
  | ((with_reducible apply gS 4);refine wAlo' rfl (some 4) rfl 44 rfl _ hzt ?_;intro w1 gt ht1 hx1 hgt))
 simp only[Act.put,sA,sB,sC]
 go_cut [5,6] from 13 to 14 (λfv sv wx=>∃gF gSq,fv=.slice (some ⟨gF,0,none⟩) 256 256∧sv=.slice (some ⟨gSq,0,none⟩) 256 256∧Blk wx gF 3 (bv z256)∧Blk wx gSq 3 (bv z256)∧gF≠gSq∧w1.heap.size≤gF∧w1.heap.size≤gSq∧Ext w1 wx)
 case first =>
  clear HSP HZ HE HS HAT HNX h0;refine vI (λ_=>false) (λ_=>True) (by kernel_rfl) ?_;refine zNJ (k:=0) (l:=1) (by kernel_rfl) rfl rfl ?_ ?_
  · --
    refine uH rfl (some 13) rfl _ _ rfl 256 (by omega) rfl rfl ?_;intro w2 gF hF hy2 hgF;rw[zEU] at hF;refine zZ ⟨λh=>(by cases h), ?_⟩;simp only[Act.put,sA,sB,sC];refine zI (k:=2) (by kernel_rfl) rfl (by rfl) (.slice (some ⟨gF,0,none⟩) 256 256) (zW rfl rfl) ?_;simp only[sP,sB,sC];refine xZ (k:=1) (by kernel_rfl) rfl ?_;refine uH rfl (some 14) rfl _ _ rfl 256 (by omega) rfl rfl ?_;intro w3 gSq hS hy3 hgS;rw[zEU] at hS;refine zZ ⟨λh=>(by cases h), ?_⟩;simp only[Act.put,sA,sB,sC];refine zI (k:=3) (by kernel_rfl) rfl (by rfl) (.slice (some ⟨gSq,0,none⟩) 256 256) (zW rfl rfl) ?_;simp only[sP,sB,sC];refine zAK (by kernel_rfl) ?_;go_wp2_with fail;go_meet;have hs0:w1.heap.size≤w1.drew.heap.size:=wA5 _;have hl:=hF.lt;have hsz:=hy2.size;refine⟨gF,gSq,rfl,rfl,hF.ext hy3,hS,by omega,by omega,by omega,(Ext.refl w1).drew.trans (hy2.trans hy3)⟩
  · --
    refine uH rfl (some 14) rfl _ _ rfl 256 (by omega) rfl rfl ?_;intro w2 gSq hS hy2 hgS;rw[zEU] at hS;refine zZ ⟨λh=>(by cases h), ?_⟩;simp only[Act.put,sA,sB,sC];refine xZ (k:=0) (by kernel_rfl) rfl ?_;refine uH rfl (some 13) rfl _ _ rfl 256 (by omega) rfl rfl ?_;intro w3 gF hF hy3 hgF;rw[zEU] at hF;refine zZ ⟨λh=>(by cases h), ?_⟩;simp only[Act.put,sA,sB,sC];refine zI (k:=2) (by kernel_rfl) rfl (by rfl) (.slice (some ⟨gF,0,none⟩) 256 256) (zW rfl rfl) ?_;simp only[sP,sB,sC];refine zI (k:=3) (by kernel_rfl) rfl (by rfl) (.slice (some ⟨gSq,0,none⟩) 256 256) (zW rfl rfl) ?_;simp only[sP,sB,sC];refine zAK (by kernel_rfl) ?_;go_wp2_with fail;go_meet;have hs0:w1.heap.size≤w1.drew.heap.size:=wA5 _;have hl:=hS.lt;have hsz:=hy2.size;refine⟨gF,gSq,rfl,rfl,hF,hS.ext hy3,by omega,by omega,by omega,(Ext.refl w1).drew.trans (hy2.trans hy3)⟩
 case rest =>
 obtain⟨gF,gSq,e1,e2,hF,hS,hne,hgF,hgS,hx2⟩:=hcut;subst e1 e2;have hx12:=hx1.trans hx2;have ht2:=ht1.ext hx2
 go_wp2_with (first
  | (go_at_call 99;(with_reducible refine (HSP.out _).mono ?_);rintro e3 w3 ⟨B3,d3,rfl,hsp,hB3,hx3⟩))
 have hF3:Blk w3 gF 3 (bv (xJ n e Z 0).1):=by rw[h0.out];exact hF.ext hx3
 have hS3:Blk w3 gSq 3 (bv (xJ n e Z 0).2):=by rw[h0.out];exact hS.ext hx3
 have ht3:=ht2.ext hx3;have hx03:=hx12.trans hx3;have hl0:(xJ n e Z 0).1.length=256∧(xJ n e Z 0).2.length=256:=by rw[h0.out];exact⟨zCw,zCw⟩
 have hB4:∀ad,B3=some ad→ad.block≠gF∧ad.block≠gSq:=λad h=>by have h1:=hB3 ad h;have h2:=hF.lt;have h3:=hS.lt;omega
 have hgF0:w.heap.size≤gF:=by have:=hx1.size;omega
 have hgS0:w.heap.size≤gSq:=by have:=hx1.size;omega
 have htF:gt≠gF:=by have:=ht1.lt;omega
 have htS:gt≠gSq:=by have:=ht1.lt;omega
 have HB4:=zA hB4;clear hF hS ht2 hx2 hx3 hx12 hx1 h0 hB3 hB4 hgF hgS ht1
 go_loopw [20] (λiv wr=>∃k:Nat,k≤K∧iv=.int .i64 (k:Int)∧((xJ n e Z k).1.length=256∧(xJ n e Z k).2.length=256)∧Blk wr gF 3 (bv (xJ n e Z k).1)∧Blk wr gSq 3 (bv (xJ n e Z k).2)∧Blk wr gt 44 (T0++T0).toArray∧SL wr 2 (.slice B3 K d3) K (ints (jG n e K))∧Ext w wr) (λi _=>K-(intOf i).toNat)
 case atStart=>exact⟨0,by omega,rfl,hl0,hF3,hS3,ht3,hsp,hx03⟩
 case round =>
  clear hF3 hS3 ht3 hsp hx03 hl0;obtain⟨k,hk,rfl,⟨la,lb⟩,hFr,hSr,htr,hspr,hx⟩:=hrel
  by_cases hlt:k<K
  ·obtain⟨td,hB,htb,htc⟩:=hspr.part hlt;subst hB;have hB5:=HB4.out td rfl;obtain⟨lo,hlo⟩:∃q,k*yM n e=q:=⟨_,rfl⟩
   obtain⟨hh,hhh⟩:∃q,min (lo+yM n e) n=q:=⟨_,rfl⟩
   obtain⟨ln,hln⟩:∃q,min (n-lo) (yM n e)=q:=⟨_,rfl⟩
   have e2:((ints (jG n e K)).drop (k*2)).take 2=ints [(lo:Int),(hh:Int)]:=by
    have h:=zEx n e K k hlt;rw[hlo,hhh] at h;rw[←h];simp[ints,wO1,wO0]
   rw[e2] at htc;have hlon:lo≤n:=by rw[←hlo];exact HAT.out k hlt
   have hlh:lo≤hh:=by omega
   have hhn:hh≤n:=by omega
   have hd:hh-lo=ln:=by omega
   have HTC:=zA htc;have HBV:=zA (zHB [(lo:Int),(hh:Int)]);have HS2:=zA (show (bv [(lo:Int),(hh:Int)]).size=2 by rw[zK];rfl);have HS20:=zA (show (Value.agg (bv [0,0])).cells.size=2 by rw[show (Value.agg (bv [0,0])).cells=bv [0,0] from rfl,zK];rfl);have HO2:=zA (xR [(lo:Int),(hh:Int)]);have HP:Hid ((yD n e k Z).length=ln*64):=zA (by rw[zEA HZ.out,hlo,hln]);have HPS:=zA (λW (h:Ext w W)=>(HS.out.ext h).subK hlh hhn)
   have e3:((ints Z).drop (lo*64)).take ((hh-lo)*64)=ints (yD n e k Z):=by
    unfold yD;rw[hlo,hln,hd];simp[ints,wO1,wO0]
   rw[e3,hd] at HPS;have HCO:=zA (λW (h:Ext w W)=>zNT (zDt A c lo) ln (c-lo) (yD n e k Z) HP.out W (HPS.out W h))
   have hce:(xN yQ ln (yD n e k Z) (z256,z256)).1=0:=by
    rw[cntE];have h:=zHH (e:=e) (i:=k) HE.out;rw[hlo,hln] at h;exact h
   have hnx:=HNX.out k;rw[hlo,hln] at hnx;obtain⟨cl,hcl⟩:∃q,c-lo=q:=⟨_,rfl⟩
   rw[hcl] at HCO;have HSUB:=zA (λ(o:Oper) (a:Act) (x lo' hi':Operand) (ho:o.op=.slice 25 x (some lo') (some hi') none) (hx:a.eval x=.slice A n c) (h1:a.eval lo'=.int .i64 (lo:Int)) (h2:a.eval hi'=.int .i64 (hh:Int)) (W:World)=>ex_subK ho hx h1 h2 hlh hhn hnc W);rw[hd,hcl] at HSUB;generalize zDt A c lo=SA at *;generalize bv [(lo:Int),(hh:Int)]=sp at *;have HC0:Hid (sp[0]? =some (.int .i64 (lo:Int))∧sp[1]? =some (.int .i64 (hh:Int))):=zA (by rw[←HBV.out];exact⟨rfl,rfl⟩);generalize xN yQ ln (yD n e k Z) (z256,z256)=R at *;obtain⟨r0,b1,b2⟩:=R;dsimp only at hce hnx;subst hce;generalize xJ n e Z k=F at *;obtain⟨a1,a2⟩:=F;dsimp only at la lb hFr hSr hnx;have HNX1:=zA hnx;have hltF:=hFr.lt;have hltS:=hSr.lt;have htd:td.block<wr.heap.size:=htb;clear htc e2 e3 hcl hd hln hhh hlo hhn hlh hlon HPS HP hnx htb
   go_wp2_with (first
    | ((with_reducible apply gS 23);refine yZ (by rfl) 139 (.tmp 22) rfl (td.add (k*2)) rfl (ints [(lo:Int),(hh:Int)]) _ HTC.out underlying139 rfl vE ?_;rw[HBV.out])
    | ((with_reducible apply gS 8);refine wAlo' rfl (some 8) rfl 139 rfl _ zCM ?_;intro w4 g8 hb4 hx4 hg4)
    | ((with_reducible apply gT 8 23);refine wStB rfl 139 (.tmp 8) (.tmp 23) rfl _ _ rfl rfl hb4 2 vE HS2.out HS20.out HO2.out ?_;intro w5 hb5 hg5;have hx5:Ext wr w5:=hx4.grown hg5 hg4)
    | ((with_reducible apply gS 27);refine yU rfl (.int .i64 (lo:Int)) (zS rfl rfl ((hb5.cell 0).trans HC0.out.1)) ?_)
    | ((with_reducible apply gS 29);refine yU rfl (.int .i64 (hh:Int)) (zS rfl rfl ((hb5.cell 1).trans HC0.out.2)) ?_)
    | ((with_reducible apply gS 30);refine zB rfl (.slice SA ln cl) (HSUB.out _ _ _ _ _ rfl rfl rfl rfl) ?_)
    | (go_at_call 100;(with_reducible refine (HCO.out _ (hx.trans hx5)).mono ?_);rintro e6 w6 ⟨hx6,hC⟩;rw[if_pos rfl] at hC;obtain⟨gA,gB,rfl,hA6,hB6,lA,lB,gA1,gB1⟩:=hC))
   have hx56:=hx5.trans hx6;have hsz5:=hx5.size;have hF6:Blk w6 gF 3 (bv (zCj a1 b1 0)):=by rw[zOZ];exact hFr.ext hx56
   have hS6:Blk w6 gSq 3 (bv (zCj a2 b2 0)):=by rw[zOZ];exact hSr.ext hx56
   have ht6:=htr.ext hx56;have hsp6:=hspr.ext hx56;have hx06:=hx.trans hx56;have hAF:gA≠gF:=by omega
   have hAS:gA≠gSq:=by omega
   have hBF:gB≠gF:=by omega
   have hBS:gB≠gSq:=by omega
   clear hFr hSr htr hspr hx hx5 hx6 hx56 hb4 hb5 hg5 hx4 hg4 gA1 gB1 hsz5 hltF hltS
   go_loopw [37] (λiv wr=>∃i:Nat,i≤256∧iv=.int .i64 (i:Int)∧Blk wr gF 3 (bv (zCj a1 b1 i))∧Blk wr gSq 3 (bv (zCj a2 b2 i))∧Blk wr gA 3 (bv b1)∧Blk wr gB 3 (bv b2)∧Blk wr gt 44 (T0++T0).toArray∧SL wr 2 (.slice (some td) K d3) K (ints (jG n e K))∧Ext w wr) (λi _=>256-(intOf i).toNat)
   case atStart=>exact⟨0,by omega,rfl,hF6,hS6,hA6,hB6,ht6,hsp6,hx06⟩
   case round =>
    clear hF6 hS6 hA6 hB6 ht6 hsp6 hx06;obtain⟨i,hi,rfl,hFq,hSq,hAq,hBq,htq,hspq,hxq⟩:=hrel
    by_cases hil:i<256
    ·obtain⟨xF,hxF⟩:∃q,a1[i]'(by omega)=q:=⟨_,rfl⟩
     obtain⟨yF,hyF⟩:∃q,b1[i]'(by omega)=q:=⟨_,rfl⟩
     obtain⟨xS,hxS⟩:∃q,a2[i]'(by omega)=q:=⟨_,rfl⟩
     obtain⟨yS,hyS⟩:∃q,b2[i]'(by omega)=q:=⟨_,rfl⟩
     have hsF:=zRW (a:=a1) (b:=b1) (by omega) (i:=i) (by omega);have hsS:=zRW (a:=a2) (b:=b2) (by omega) (i:=i) (by omega);have haF:=mixW_at (a:=a1) (b:=b1) (by omega) (i:=i) (by omega);have haS:=mixW_at (a:=a2) (b:=b2) (by omega) (i:=i) (by omega);rw[hxF,hyF] at hsF;rw[hxS,hyS] at hsS;rw[hxF] at haF;rw[hxS] at haS;have hbF:b1[i]? =some yF:=by rw[←hyF];exact wA2 _
     have hbS:b2[i]? =some yS:=by rw[←hyS];exact wA2 _
     have hIF:wr.drew.cell? ⟨gF,i,none⟩=some (.int .i64 xF)∧wr.drew.cell? ⟨gA,i,none⟩=some (.int .i64 yF):=⟨(hFq.drew.cell i).trans (zKd haF),(hAq.drew.cell i).trans (zKd hbF)⟩
     have hmF:i<(bv (zCj a1 b1 i)).size:=by rw[zK,zSj (by omega)];omega
     have hmS:i<(bv (zCj a2 b2 i)).size:=by rw[zK,zSj (by omega)];omega
     clear hxF hyF hxS hyS;go_wp2_with fail;refine vI (λk=>k ==3 ||k ==7) (λW=>W.cell? ⟨gF,i,none⟩=some (.int .i64 xF)∧W.cell? ⟨gA,i,none⟩=some (.int .i64 yF)) (by kernel_rfl) ?_;refine zI (k:=0) (by kernel_rfl) rfl (by rfl) (.slice (some ⟨gF,0,none⟩) 256 256) (zD rfl rfl) ?_;simp only[sP,sB,sC];refine zI (k:=1) (by kernel_rfl) rfl (by rfl) (.int .i64 (i:Int)) (zD rfl rfl) ?_;simp only[sP,sB,sC];refine zI (k:=2) (by kernel_rfl) rfl (by rfl) (.pointer (some ⟨gF,i,none⟩)) (zAH underlying22 jM rfl rfl rfl (by omega)) ?_;simp only[sP,sB,sC];refine zI (k:=4) (by kernel_rfl) rfl (by rfl) (.slice (some ⟨gA,0,none⟩) 256 256) (zD rfl rfl) ?_;simp only[sP,sB,sC];refine zI (k:=5) (by kernel_rfl) rfl (by rfl) (.int .i64 (i:Int)) (zD rfl rfl) ?_;simp only[sP,sB,sC];refine zI (k:=6) (by kernel_rfl) rfl (by rfl) (.pointer (some ⟨gA,i,none⟩)) (zAH underlying22 jM rfl rfl rfl (by omega)) ?_;simp only[sP,sB,sC];refine vR (k:=3) (by kernel_rfl) rfl (by rfl) (.int .i64 xF) (λW hW=>zS rfl rfl hW.1) hIF ?_;simp only[Act.put,sA,sB,sC];refine vR (k:=7) (by kernel_rfl) rfl (by rfl) (.int .i64 yF) (λW hW=>zS rfl rfl hW.2) hIF ?_;simp only[Act.put,sA,sB,sC];refine zI (k:=8) (by kernel_rfl) rfl (by rfl) (.int .i64 (wrap64 (xF+yF))) (ex_addW rfl rfl rfl) ?_;simp only[sP,sB,sC];refine zI (k:=9) (by kernel_rfl) rfl (by rfl) (.pointer (some ⟨gF,i,none⟩)) (zAH underlying22 jM rfl rfl rfl (by omega)) ?_;simp only[sP,sB,sC];refine xZ (k:=10) (by kernel_rfl) rfl ?_;refine zAc rfl _ _ rfl gF i _ rfl rfl hFq.drew hmF ?_;refine zZ ⟨λh=>(by cases h), ?_⟩;simp only[Act.put,sA,sB,sC];refine zAK (by kernel_rfl) ?_;have hu1:=(Upd.refl (λb=>b=gF) wr.drew).setCell (p:=⟨gF,i,none⟩) rfl (.int .i64 (wrap64 (xF+yF)));have hF9:=hFq.drew.set_ i (.int .i64 (wrap64 (xF+yF)));rw[zAE,hsF] at hF9;have hS9:=hu1.blk hSq.drew (Ne.symm hne);have hA9:=hu1.blk hAq.drew hAF;have hB9:=hu1.blk hBq.drew hBF;have ht9:=hu1.blk htq.drew htF;have hsp9:=SL.upd hspq.drew hu1 (λad h=>by injection h with h;rw[←h];exact hB5.1);have hx9:=hu1.ext hxq.drew (λx h=>by omega);generalize wr.drew.setCell ⟨gF,i,none⟩ (.int .i64 (wrap64 (xF+yF)))=w9 at *;have hIS:w9.drew.cell? ⟨gSq,i,none⟩=some (.int .i64 xS)∧w9.drew.cell? ⟨gB,i,none⟩=some (.int .i64 yS):=⟨(hS9.drew.cell i).trans (zKd haS),(hB9.drew.cell i).trans (zKd hbS)⟩
     clear hu1 hFq hSq hAq hBq htq hspq hxq hIF;go_wp2_with fail;refine vI (λk=>k ==3 ||k ==7) (λW=>W.cell? ⟨gSq,i,none⟩=some (.int .i64 xS)∧W.cell? ⟨gB,i,none⟩=some (.int .i64 yS)) (by kernel_rfl) ?_;refine zI (k:=0) (by kernel_rfl) rfl (by rfl) (.slice (some ⟨gSq,0,none⟩) 256 256) (zD rfl rfl) ?_;simp only[sP,sB,sC];refine zI (k:=1) (by kernel_rfl) rfl (by rfl) (.int .i64 (i:Int)) (zD rfl rfl) ?_;simp only[sP,sB,sC];refine zI (k:=2) (by kernel_rfl) rfl (by rfl) (.pointer (some ⟨gSq,i,none⟩)) (zAH underlying22 jM rfl rfl rfl (by omega)) ?_;simp only[sP,sB,sC];refine zI (k:=4) (by kernel_rfl) rfl (by rfl) (.slice (some ⟨gB,0,none⟩) 256 256) (zD rfl rfl) ?_;simp only[sP,sB,sC];refine zI (k:=5) (by kernel_rfl) rfl (by rfl) (.int .i64 (i:Int)) (zD rfl rfl) ?_;simp only[sP,sB,sC];refine zI (k:=6) (by kernel_rfl) rfl (by rfl) (.pointer (some ⟨gB,i,none⟩)) (zAH underlying22 jM rfl rfl rfl (by omega)) ?_;simp only[sP,sB,sC];refine vR (k:=3) (by kernel_rfl) rfl (by rfl) (.int .i64 xS) (λW hW=>zS rfl rfl hW.1) hIS ?_;simp only[Act.put,sA,sB,sC];refine vR (k:=7) (by kernel_rfl) rfl (by rfl) (.int .i64 yS) (λW hW=>zS rfl rfl hW.2) hIS ?_;simp only[Act.put,sA,sB,sC];refine zI (k:=8) (by kernel_rfl) rfl (by rfl) (.int .i64 (wrap64 (xS+yS))) (ex_addW rfl rfl rfl) ?_;simp only[sP,sB,sC];refine zI (k:=9) (by kernel_rfl) rfl (by rfl) (.pointer (some ⟨gSq,i,none⟩)) (zAH underlying22 jM rfl rfl rfl (by omega)) ?_;simp only[sP,sB,sC];refine xZ (k:=10) (by kernel_rfl) rfl ?_;refine zAc rfl _ _ rfl gSq i _ rfl rfl hS9.drew hmS ?_;refine zZ ⟨λh=>(by cases h), ?_⟩;simp only[Act.put,sA,sB,sC];refine zAK (by kernel_rfl) ?_;have hu2:=(Upd.refl (λb=>b=gSq) w9.drew).setCell (p:=⟨gSq,i,none⟩) rfl (.int .i64 (wrap64 (xS+yS)));have hS5:=hS9.drew.set_ i (.int .i64 (wrap64 (xS+yS)));rw[zAE,hsS] at hS5;have hF5:=hu2.blk hF9.drew hne;have hA5:=hu2.blk hA9.drew hAS;have hB6:=hu2.blk hB9.drew hBS;have ht5:=hu2.blk ht9.drew htS;have hsp5:=SL.upd hsp9.drew hu2 (λad h=>by injection h with h;rw[←h];exact hB5.2);have hx5:=hu2.ext hx9.drew (λx h=>by omega);generalize w9.drew.setCell ⟨gSq,i,none⟩ (.int .i64 (wrap64 (xS+yS)))=w5 at *;clear hu2 hF9 hS9 hA9 hB9 ht9 hsp9 hx9 hIS;go_wp2_with ((with_reducible apply gS 60);refine zB rfl (.int .i64 ((i+1:Nat):Int)) (yL (i:=i) (d:=1) rfl rfl rfl (by omega)) ?_)
     go_roundw
     case rel=>exact⟨i+1,by omega,by go_num,hF5,hS5,hA5,hB6,ht5,hsp5,hx5⟩
     case measure=>simp[intOf];omega
    obtain rfl:i=256:=by omega
    rw[zRB (by omega) la] at hFq;rw[zRB (by omega) lb] at hSq;have l1:=zBI (a:=a1) (b:=b1) (by omega);have l2:=zBI (a:=a2) (b:=b2) (by omega);go_wp2_with ((with_reducible apply gS 61);refine zB rfl (.int .i64 ((k+1:Nat):Int)) (yL (i:=k) (d:=1) rfl rfl rfl (by omega)) ?_)
    go_roundw
    case rel=>exact⟨k+1,by omega,by go_num,by rw[HNX1.out];exact⟨l1.trans la,l2.trans lb⟩,by rw[HNX1.out];exact hFq,by rw[HNX1.out];exact hSq,htq,hspq,hxq⟩
    case measure=>simp[intOf];omega
  obtain rfl:k=K:=by omega
  have HMF:=zA (λW (h:Blk W gF 3 (bv (xJ n e Z k).1))=>zSY (xJ n e Z k).1 (some ⟨gF,0,none⟩) 256 256 la W (rowI la h));have HMS:=zA (λW (h:Blk W gSq 3 (bv (xJ n e Z k).2))=>zSY (xJ n e Z k).2 (some ⟨gSq,0,none⟩) 256 256 lb W (rowI lb h));generalize hFK:xJ n e Z k=F at la lb hFr hSr HMF HMS;obtain⟨a1,a2⟩:=F;dsimp only at la lb hFr hSr HMF HMS;have HFK:=zA hFK;clear hFK;clear hspr HNX HAT HSP
  go_upto_region 14 with (first
   | (go_at_call 101;(with_reducible refine (HMF.out _ hFr).mono ?_);rintro e4 w4 ⟨cs1,xs1,B1,d1,z1,rfl,hm1,l1,hs1,hf1,hx4⟩;have HL1:=zA (zU cs1 (.slice B1 xs1.length d1) l1))
   | ((with_reducible apply gT 67 65);refine uE rfl 42 (.tmp 67) (.tmp 65) rfl gt 0 (zV cs1 (.slice B1 xs1.length d1)) rfl rfl (a:=[]) (old:=T0) (b:=T0) (htr.ext hx4) rfl (by rw[HT0L.out,HL1.out]) (by rw[HL1.out];exact zX) (zGS hs1) ?_;intro w5 ht5 hu5))
  have hltg:=htr.lt;have hx5:Ext w w5:=hu5.ext (hx.trans hx4) (λx h=>by omega);have hS5:=hu5.blk (hSr.ext hx4) (Ne.symm htS)
  have HW1:=zA (show ∀b,(Value.slice B1 xs1.length d1).ownBlock=some b→w.heap.size≤b from λb h=>by
   cases B1 with
   | none=>cases h
   | some ad=>have h':some ad.block=some b:=h;injection h' with h';have:=hf1 ad rfl;have:=hx.size;omega)
  have HF1:=zA (show ∀ad,B1=some ad→ad.block≠gt from λad h=>by have:=hf1 ad h;omega);have hs5:=SL.upd hs1 hu5 (λad h=>by have:=hf1 ad h;omega);have ht6:Blk w5 gt 44 (zV cs1 (.slice B1 xs1.length d1)++(T0++[])).toArray:=by simpa using ht5
  have hlt5:=ht6.lt;clear hFr hSr htr hx hx4 hu5 ht5 hs1 hf1 HMF
  go_upto_region 15 with (first
   | (go_at_call 101;(with_reducible refine (HMS.out _ hS5).mono ?_);rintro e6 w6 ⟨cs2,xs2,B2,d2,z2,rfl,hm2,l2,hs2,hf2,hx6⟩;have HL2:=zA (zU cs2 (.slice B2 xs2.length d2) l2))
   | ((with_reducible apply gT 73 71);refine uE rfl 42 (.tmp 73) (.tmp 71) rfl gt 17 (zV cs2 (.slice B2 xs2.length d2)) rfl rfl (a:=zV cs1 (.slice B1 xs1.length d1)) (old:=T0) (b:=[]) (ht6.ext hx6) HL1.out (by rw[HT0L.out,HL2.out]) (by rw[HL2.out];exact zX) (zGS hs2) ?_;intro w7 ht7 hu7))
  have hs7:=SL.upd (hs5.ext hx6) hu7 (λad h=>HF1.out ad h);have hs8:=SL.upd hs2 hu7 (λad h=>by have:=hf2 ad h;omega);have hx7:Ext w w7:=hu7.ext (hx5.trans hx6) (λx h=>by omega);rw[wG9] at ht7
  have hone:(zV cs1 (.slice B1 xs1.length d1)++zV cs2 (.slice B2 xs2.length d2)).toArray.all (·.oneCell')=true:=by
   rw[wP9,wI3];intro v hv;rcases wD3.1 hv with hv | hv
   ·exact zGS hs7 v hv
   exact zGS hs8 v hv
  have HSZ:=zA (zCr HL1.out HL2.out)
  have HW2:=zA (show ∀b,(Value.slice B2 xs2.length d2).ownBlock=some b→w.heap.size≤b from λb h=>by
   cases B2 with
   | none=>cases h
   | some ad=>have h':some ad.block=some b:=h;injection h' with h';have:=hf2 ad rfl;have:=hx5.size;omega)
  have HF2:=zA (show ∀ad,B2=some ad→ad.block≠gt from λad h=>by have:=hf2 ad h;omega);clear hs5 hx6 hu7 hx5 ht6 hS5 hs2 hf2 HMS
  go_wp2_with (first
   | ((with_reducible apply gS 74);refine wLdB rfl 44 (.tmp 4) rfl gt rfl ht7 _ underlying44 rfl 34 qG HSZ.out ?_)
   | ((with_reducible apply gT 4 74);refine wStB rfl 44 (.tmp 4) (.tmp 74) rfl gt _ rfl rfl ht7 34 qG HSZ.out HSZ.out hone ?_;intro w9 ht9 hg9))
  have hu9:=zM hg9;exact zCS rfl rfl gt rfl ht9 _ underlying44 rfl 34 qG HSZ.out ⟨cs1,xs1,_,cs2,xs2,_,rfl,by rw[HFK.out];exact hm1,by rw[HFK.out];exact hm2,l1,l2,SL.upd hs7 hu9 (λad h e=>HF1.out ad h (by injection e with e;exact e.symm)),SL.upd hs8 hu9 (λad h e=>HF2.out ad h (by injection e with e;exact e.symm)),HW1.out,HW2.out,hx7.grown hg9 (by omega)⟩
