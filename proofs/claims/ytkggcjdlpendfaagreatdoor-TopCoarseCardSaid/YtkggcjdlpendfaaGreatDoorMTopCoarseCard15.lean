/- Contracts of the functions that the law reaches, part 15. -/
import Derived.Test.YtkggcjdlpendfaaGreatDoorMTopCoarseCard14
namespace Go.Proofs.YtkggcjdlpendfaaGreatDoor
set_option linter.unusedVariables false
set_option linter.unusedSimpArgs false
set_option maxRecDepth 20000
set_option maxHeartbeats 8000000
open Go.RowKit
def Kept (w:World) (VS:List Value) (P:List (List Nat)) (r1 r2:Option Nat):Prop :=
 Pieces w VS P∧ ∀ V∈VS, ∀ b,V.ownBlock=some b→b<w.heap.size∧r1≠some b∧r2≠some b
theorem Kept.nil (w:World) (r1 r2:Option Nat):Kept w [] [] r1 r2:=⟨⟨rfl,fun i h=>by simp at h⟩,fun V h=>by cases h⟩
theorem Kept.ext {w w':World} {VS:List Value} {P:List (List Nat)} {r1 r2:Option Nat} (h:Kept w VS P r1 r2) (hx:Ext w w'):Kept w' VS P r1 r2 :=
 ⟨h.1.ext hx,fun V hV b hb=>by obtain⟨h1,h2,h3⟩:=h.2 V hV b hb;exact⟨wA1 h1 hx.size,h2,h3⟩⟩
theorem Kept.swap {w:World} {VS:List Value} {P:List (List Nat)} {r1 r2:Option Nat} (h:Kept w VS P r1 r2):Kept w VS P r2 r1 :=
 ⟨h.1,fun V hV b hb=>by obtain⟨h1,h2,h3⟩:=h.2 V hV b hb;exact⟨h1,h3,h2⟩⟩
theorem Pieces.upd {S:Nat→Prop} {w w':World} {VS:List Value} {P:List (List Nat)} (h:Pieces w VS P) (hu:Upd S w w') (hS: ∀ V∈VS, ∀ b,V.ownBlock=some b→ ¬S b):Pieces w' VS P :=
 ⟨h.1,fun i hi=>by
  obtain⟨A,c,h1,h2⟩:=h.2 i hi
  refine⟨A,c,h1,h2.upd hu fun ad e=>hS _ (wJ8 h1) _ ?_⟩
  rw[zBO,e];rfl⟩
theorem Kept.grown {w w':World} {VS:List Value} {P:List (List Nat)} {r1 r1' r2:Option Nat} (h:Kept w VS P r1 r2) (hg:w.grownBy w' r1) (hr:r1'=r1∨r1'=some w.heap.size):Kept w' VS P r1' r2:=by
 have hu:=zL hg
 refine⟨h.1.upd hu fun V hV b hb e=>(h.2 V hV b hb).2.1 e,fun V hV b hb=> ?_⟩
 obtain⟨h1,h2,h3⟩:=h.2 V hV b hb
 refine⟨wA1 h1 hu.size, ?_,h3⟩
 rcases hr with rfl | rfl
 ·exact h2
 ·intro e;injection e with e;omega
theorem Kept.grown1 {w w':World} {VS:List Value} {P:List (List Nat)} {v1:Value} {r2:Option Nat} {A:Option Addr} {n c:Nat} (h:Kept w VS P v1.ownBlock r2) (hg:w.grownBy w' v1.ownBlock) (hr:A.map (·.block)=v1.ownBlock∨A.map (·.block)=some w.heap.size):Kept w' VS P (Value.slice A n c).ownBlock r2:=by
 rw[zBO];exact h.grown hg hr
theorem Kept.grown2 {w w':World} {VS:List Value} {P:List (List Nat)} {v2:Value} {r1:Option Nat} {A:Option Addr} {n c:Nat} (h:Kept w VS P r1 v2.ownBlock) (hg:w.grownBy w' v2.ownBlock) (hr:A.map (·.block)=v2.ownBlock∨A.map (·.block)=some w.heap.size):Kept w' VS P r1 (Value.slice A n c).ownBlock :=
 (h.swap.grown1 hg hr).swap
theorem Kept.upd {S:Nat→Prop} {w w':World} {VS:List Value} {P:List (List Nat)} {r1 r2:Option Nat} (h:Kept w VS P r1 r2) (hu:Upd S w w') (hS: ∀ V∈VS, ∀ b,V.ownBlock=some b→ ¬S b):Kept w' VS P r1 r2 :=
 ⟨h.1.upd hu hS,fun V hV b hb=>by obtain⟨h1,h2,h3⟩:=h.2 V hV b hb;exact⟨wA1 h1 hu.size,h2,h3⟩⟩
theorem Two.upd {S:Nat→Prop} {w0 w w':World} {B:Nat} {e1 e2:TypeId} {v1 v2:Value} {n1 n2:Nat} {xs1 xs2:List Value} (h:Two w0 w B e1 e2 v1 v2 n1 n2 xs1 xs2 none none) (hu:Upd S w w') (h0: ∀ b,S b→w0.heap.size≤b)
 (hS1: ∀ b,v1.ownBlock=some b→ ¬S b) (hS2: ∀ b,v2.ownBlock=some b→ ¬S b):Two w0 w' B e1 e2 v1 v2 n1 n2 xs1 xs2 none none :=
 ⟨hu.ext h.ext h0,⟨h.base.1,wD1 h.base.2 hu.size⟩,jP h.p hu hS1,jP h.m hu hS2,h.d,(fun _ _ e=>by cases e),(fun _ _ e=>by cases e)⟩
structure Cur (w0 w:World) (B:Nat) (e1 e2 e3:TypeId) (v1 v2 v3:Value) (n1 n2 n3:Nat) (VS xs2 xs3:List Value) (P:List (List Nat)):Prop where
 two:Two w0 w B e1 e2 v1 v2 n1 n2 VS xs2 none none
 kept:Kept w VS P v1.ownBlock v2.ownBlock
 cur:w.ownsRow B e3 1 v3 n3 xs3
 d1: ∀ b,v3.ownBlock=some b→v1.ownBlock≠some b∧v2.ownBlock≠some b
 d2: ∀ V∈VS, ∀ b,V.ownBlock=some b→v3.ownBlock≠some b
section
variable {w0 w w':World} {B:Nat} {e1 e2 e3:TypeId} {v1 v2 v3 v3':Value} {n1 n2 n3 m3:Nat} {VS xs2 xs3 ys3:List Value} {P:List (List Nat)}
theorem Cur.later (h:Cur w0 w B e1 e2 e3 v1 v2 v3 n1 n2 n3 VS xs2 xs3 P) (hx:Ext w w'):Cur w0 w' B e1 e2 e3 v1 v2 v3 n1 n2 n3 VS xs2 xs3 P :=
 ⟨h.two.later hx,h.kept.ext hx,yJ h.cur hx,h.d1,h.d2⟩
theorem Cur.grow (h:Cur w0 w B e1 e2 e3 v1 v2 v3 n1 n2 n3 VS xs2 xs3 P) (ho:w'.ownsRow B e3 1 v3' m3 ys3) (hg:w.grownBy w' v3.ownBlock) (hr:v3'.ownBlock=v3.ownBlock∨v3'.ownBlock=some w.heap.size):Cur w0 w' B e1 e2 e3 v1 v2 v3' n1 n2 m3 VS xs2 ys3 P:=by
 have hu:=zL hg
 refine⟨h.two.upd hu (fun b hb=>by have:=(h.cur.lt b hb).1;have:=h.two.base.1;omega) (fun b hb e=>(h.d1 b e).1 hb) (fun b hb e=>(h.d1 b e).2 hb),h.kept.upd hu (fun V hV b hb e=>h.d2 V hV b hb e),ho,fun b hb=> ?_,fun V hV b hb=> ?_⟩
 ·rcases hr with e | e
  ·exact h.d1 b (e ▸ hb)
  ·rw[e] at hb
   injection hb with hb
   exact⟨fun e2=>by have:=(h.two.p.lt b e2).2;omega,fun e2=>by have:=(h.two.m.lt b e2).2;omega⟩
 ·rcases hr with e | e
  ·rw[e];exact h.d2 V hV b hb
  ·rw[e]
   intro e2
   injection e2 with e2
   have:=(h.kept.2 V hV b hb).1
   omega
end
theorem Kept.snoc {w:World} {VS:List Value} {P:List (List Nat)} {r1 r2:Option Nat} {B:Nat} {e:TypeId} {A:Option Addr} {n c:Nat} {l:List Nat} (h:Kept w VS P r1 r2) (ho:w.ownsRow B e 1 (.slice A n c) n (zD l)) (hn:l.length=n)
 (hd: ∀ b,(Value.slice A n c).ownBlock=some b→r1≠some b∧r2≠some b):Kept w (VS++[.slice A n c]) (P++[l]) r1 r2:=by
 refine⟨h.1.snoc hn (by obtain⟨B9,d9,e9,h9, -⟩:=zBN ho;injection e9 with e1 e2 e3;subst e1 e3;exact h9),fun V hV b hb=> ?_⟩
 rcases wE5.1 hV with h1 | h1
 ·exact h.2 V h1 b hb
 ·obtain rfl:V=.slice A n c:=by simpa using h1
  exact⟨(ho.lt b hb).2,hd b hb⟩
theorem two_sl (w:World) (T:TypeId) (x y:Value):SL (w.alloc (.cells #[x,y] T)) 1 (.slice (some ⟨w.heap.size,0,none⟩) 2 2) 2 [x,y] :=
 ⟨_,_,rfl,by omega,by omega,rfl,fun _=>⟨_,rfl,(Blk.new w T #[x,y]).lt,fun j u hu=>by
  have hc:=(Blk.new w T #[x,y]).cell j
  rw[zBU]
  simp only[wB2]
  rw[hc, ←hu]
  simp⟩⟩
theorem two_one: ∀ u∈[Value.int .u8 255,Value.int .u8 0],u.oneCell'=true:=by
 intro u hu
 simp at hu
 rcases hu with rfl | rfl<;>rfl
theorem zQI (C:List Nat):zD (C++[255,0])=zD C++[.int .u8 255,.int .u8 0]:=by simp[zD]
def NZ (VS:List Value):Prop:= ∀ u∈VS, ∀ A n c,u=Value.slice A n c→A=none→c=0
theorem NZ.nil:NZ []:=fun _ h=>by cases h
theorem NZ.snoc {VS:List Value} {A:Option Addr} {n c:Nat} (h:NZ VS) (h2:A=none→c=0):NZ (VS++[.slice A n c]):=by
 intro u hu A' n' c' e e0
 rcases wE5.1 hu with hu | hu
 ·exact h u hu A' n' c' e e0
 ·simp at hu
  rw[hu] at e
  injection e with e1 e2 e3
  rw[←e3]
  exact h2 (by rw[e1];exact e0)
theorem own_nz {w:World} {base size n c:Nat} {e:TypeId} {A:Option Addr} {xs:List Value} (ho:w.ownsRow base e size (.slice A n c) n xs):A=none→c=0:=by
 obtain⟨-,hh⟩:=ho
 rcases hh with ⟨h1, -⟩ | ⟨k,cap,cur,h1, -⟩
 ·injection h1 with _ _ h3;exact fun _=>h3
 ·injection h1 with h2 _ _;exact fun h=>by rw[h] at h2;cases h2
def SpIsN (z:Option (List (List Nat)×List Nat)) (w:World) (e:Ending) (w':World):Prop :=
 match z with
 | none=>e=.returned (.tuple #[.slice none 0 0,.slice none 0 0,.int .i64 4])∧Ext w w'
 | some (P,M)=> ∃ A c B d VS,e=.returned (.tuple #[.slice A P.length c,.slice B M.length d,.int .i64 0])∧SL w' 1 (.slice A P.length c) P.length VS∧Pieces w' VS P∧SL w' 1 (.slice B M.length d) M.length (ints (M.map Int.ofNat))∧Ext w w'∧NZ VS
theorem SpIsN.is {z:Option (List (List Nat)×List Nat)} {w w':World} {e:Ending} (h:SpIsN z w e w'):SpIs z w e w':=by
 cases z with
 | none=>exact h
 | some q =>
   obtain⟨P,M⟩:=q
   obtain⟨A,c,B,d,VS,h1,h2,h3,h4,h5, -⟩:=h
   exact⟨A,c,B,d,VS,h1,h2,h3,h4,h5⟩
def SpIsF (z:Option (List (List Nat)×List Nat)) (w:World) (e:Ending) (w':World):Prop :=
 match z with
 | none=>e=.returned (.tuple #[.slice none 0 0,.slice none 0 0,.int .i64 4])∧Ext w w'
 | some (P,M)=> ∃ A c B d VS,e=.returned (.tuple #[.slice A P.length c,.slice B M.length d,.int .i64 0])∧SL w' 1 (.slice A P.length c) P.length VS∧Pieces w' VS P∧SL w' 1 (.slice B M.length d) M.length (ints (M.map Int.ofNat))∧Ext w w'∧NZ VS ∧
    (∀ ad,A=some ad→w.heap.size≤ad.block)∧ ∀ ad,B=some ad→w.heap.size≤ad.block
theorem SpIsF.n {z:Option (List (List Nat)×List Nat)} {w w':World} {e:Ending} (h:SpIsF z w e w'):SpIsN z w e w':=by
 cases z with
 | none=>exact h
 | some q =>
   obtain⟨P,M⟩:=q
   obtain⟨A,c,B,d,VS,h1,h2,h3,h4,h5,h6, -⟩:=h
   exact⟨A,c,B,d,VS,h1,h2,h3,h4,h5,h6⟩
theorem zQW (bs:List Nat) (v:Value) (w:World) (hv:SL w 1 v bs.length (zD bs)) (hlt: ∀ b∈bs,b<256) (hn:bs.length≤1048576) :
 Calls Tryz.prog 34 #[v] w (SpIsF (xN bs [] [] []) w):=by
 have HB:=zA hlt
 have hv':=hv
 obtain⟨A,c,rfl,hc1,hc2, -, -⟩:=hv'
 obtain⟨ez,hez⟩: ∃ ez,ez=xN bs [] [] []:=⟨_,rfl⟩
 have HEZ:=zA hez
 rw[←hez]
 clear hez hlt
 have HSE:=zA (fun i P M c (h:bs.length≤i)=>sp_end (bs:=bs) (i:=i) (P:=P) (M:=M) (c:=c) h)
 have HSP:=zA (fun i P M c (h:i<bs.length) hx=>sp_plain (bs:=bs) (i:=i) (P:=P) (M:=M) (c:=c) h hx)
 have HS2:=zA (fun i P M c (h:i+1<bs.length) hx=>sp_two (bs:=bs) (i:=i) (P:=P) (M:=M) (c:=c) h hx)
 have HSL:=zA (fun i P M c (h:i+1=bs.length) hx=>sp_last (bs:=bs) (i:=i) (P:=P) (M:=M) (c:=c) h hx)
 obtain⟨n,hnn⟩: ∃ n,n=bs.length:=⟨_,rfl⟩
 have HBL:Hid (bs.length=n):=zA hnn.symm
 rw[←hnn] at hv hn hc1 ⊢
 clear hnn
 go_enter Tryz.func34,Tryz.ntmps34
 go_wp2_with fail
 go_loopw [5,6,7,8] (fun s1 s2 s3 iv wr=> ∃ (i:Nat) (P:List (List Nat)) (M C:List Nat) (A1:Option Addr) (c1:Nat) (A2:Option Addr) (c2:Nat) (A3:Option Addr) (c3:Nat) (VS:List Value),i≤n∧P.length≤i∧M.length≤i∧C.length≤i∧iv=.int .i64 (i:Int)∧s1=.slice A1 P.length c1∧s2=.slice A2 M.length c2∧s3=.slice A3 C.length c3 ∧
  Cur w wr w.heap.size 45 3 5 (.slice A1 P.length c1) (.slice A2 M.length c2) (.slice A3 C.length c3) P.length M.length C.length VS (ints (M.map Int.ofNat)) (zD C) P∧Hid (ez=xN (bs.drop i) P M C)∧Hid (NZ VS)) (fun _ _ _ i _=>n-(intOf i).toNat)
 case atStart=>exact⟨0,[],[],[],none,0,none,0,none,0,[],by omega,by simp,by simp,by simp,rfl,rfl,rfl,rfl,⟨⟨Ext.refl _,⟨wA5 _,wA5 _⟩,zAT _ _ _ _,zAT _ _ _ _,(fun b h=>by simp[Value.ownBlock] at h),(fun _ _ h=>by cases h),(fun _ _ h=>by cases h)⟩,Kept.nil _ _ _,zAT _ _ _ _,(fun b h=>by simp[Value.ownBlock] at h),(fun _ h=>by cases h)⟩,HEZ,zA NZ.nil⟩
 case round =>
  clear HEZ
  obtain⟨i,P,M,C,A1,c1,A2,c2,A3,c3,VS,hi,hPl,hMl,hCl,rfl,rfl,rfl,rfl,hC,HEZ,HNZ⟩:=hrel
  have HN3:=zA (own_nz hC.cur)
  by_cases hlt:i<n
  ·have hil:i<bs.length:=by rw[HBL.out];exact hlt
   obtain⟨ad,u,rfl,hab,hxk,hcell⟩:=(hv.ext hC.two.ext).at1 hlt
   obtain⟨hkl,rfl⟩:=zFo hxk
   have hx8:bs[i]<256:=HB.out _ (wE1 hil)
   have HPP:=zA (fun hx=>HEZ.out.trans (HSP.out i P M C hil hx))
   by_cases hx:bs[i]=255
   ·by_cases h1:i+1=n
    ·have HER:Hid (ez=none):=zA (HEZ.out.trans (HSL.out i P M _ (by rw[HBL.out];exact h1) hx))
     have hd:decide ((i:Int)+1=(n:Int))=true:=by simp;omega
     have hd2:((i:Int)+1 ==(n:Int))=true:=by simp;omega
     have hwr:IntKind.i64.wrap ((i:Int)+1)=(i:Int)+1:=IntWalk.i64_in _ (by omega)
     clear HPP HEZ
     rw[hx] at hcell
     clear hxk hx8
     go_wp2_with fail
     go_ret3
     rw[HER.out]
     exact⟨rfl,hC.two.ext⟩
    ·have h1':i+1<n:=by omega
     obtain⟨ad2,u2,e2, -,hyk,hcell2⟩:=(hv.ext hC.two.ext).at1 h1'
     injection e2 with e2
     subst e2
     obtain⟨hkl2,rfl⟩:=zFo hyk
     have hy:bs[i+1]<256:=HB.out _ (wE1 hkl2)
     have HT:=zA (HEZ.out.trans (HS2.out i P M _ hkl2 hx))
     have hd:decide ((i:Int)+1=(n:Int))=false:=by simp;omega
     have hd2:((i:Int)+1 ==(n:Int))=false:=by simp;omega
     have hdI: ¬((i:Int)+1=(n:Int)):=by omega
     have hwr:IntKind.i64.wrap ((i:Int)+1)=(i:Int)+1:=IntWalk.i64_in _ (by omega)
     have hwr2:IntKind.i64.wrap ((i:Int)+1+1)=(i:Int)+1+1:=IntWalk.i64_in _ (by omega)
     have hwr3:IntKind.i64.wrap ((i:Int)+2)=(i:Int)+2:=IntWalk.i64_in _ (by omega)
     have hi1:i+1<n:=h1'
     have hi1I:(i:Int)+1<(n:Int):=by omega
     clear HPP HEZ hxk hyk hx8
     rw[hx] at hcell
     by_cases hy1:bs[i+1]=255
     ·rw[if_pos hy1] at HT
      rw[hy1] at hcell2
      have hcell3:=hcell2
      unfold Addr.add at hcell3
      rw[if_neg (by omega)] at hcell3
      clear hy hy1
      go_wp2_with fail
      go_ret3
      rw[HT.out]
      exact⟨rfl,hC.two.ext⟩
     ·rw[if_neg hy1] at HT
      have hyI: ¬(((bs[i+1]:Nat):Int)=255):=by omega
      have hyb:(((bs[i+1]:Nat):Int) ==255)=false:=by simp;omega
      by_cases hy0:bs[i+1]=0
      ·rw[if_pos hy0] at HT
       rw[hy0] at hcell2
       have hcell3:=hcell2
       unfold Addr.add at hcell3
       rw[if_neg (by omega)] at hcell3
       clear hy hy1 hyI hyb hy0
       go_wp2_with (at_builtin;go_must (refine wApf zBW rfl _ _ rfl w.heap.size (.slice A3 C.length c3) _ _ rfl (hC.cur.alloc _) _ 2 [.int .u8 255,.int .u8 0] rfl (two_sl _ _ _ _) two_one (by omega) (by omega) (by have:=hC.two.base.2;simp;omega) ?_);intro A7 c7 w7 ho7 hg7 hr7)
       have hC7:=(hC.later ((Ext.refl wr).alloc (.cells #[.int .u8 255,.int .u8 0] 5))).grow ho7 hg7 (by rw[zBO];exact hr7)
       go_roundw
       case rel =>
        refine⟨i+2,P,M,C++[255,0],A1,c1,A2,c2,A7,c7,VS,by omega,by omega,by omega,by simp;omega,by go_num,rfl,rfl,by rw[wF1];rfl, ?_,HT,HNZ⟩
        rw[wF1,zQI]
        exact hC7
       case measure=>simp[intOf];omega
      ·rw[if_neg hy0] at HT
       have hdy:decide ((0:Int)<((bs[i+1]:Nat):Int))=true:=by simp;omega
       have hy0I:0<bs[i+1]:=by omega
       have HCX: ∀ W,Ext w W→W.cell? (ad.add ((i+1)*1))=some (.int .u8 ((bs[i+1]:Nat):Int)):=fun W hW=>by
        rw[wE9]
        obtain⟨ad3,u3,e3, -,hk3,hc3⟩:=(hv.ext hW).at1 h1'
        injection e3 with e3
        subst e3
        obtain⟨_,hu⟩:=zFo hk3
        rw[hc3,hu]
       generalize bs[i+1]=y at *
       try clear hx
       have hcell3:=hcell2
       unfold Addr.add at hcell3
       rw[if_neg (by omega)] at hcell3
       have hI:Ext w wr.drew:=hC.two.ext.drew
       have hCd:=hC.later (Ext.refl wr).drew
       have T0:=hCd.two
       have K0:=hCd.kept.snoc hCd.cur rfl hCd.d1
       clear hCd
       go_wp2_with fail
       refine qI (Ext w) (by kernel_rfl) ?_
       refine zH (k:=0) (by kernel_rfl) rfl (by rfl) (.slice A1 P.length c1) (zC rfl rfl) hI ?_
       simp only[Act.put,sA,sB,sC]
       refine zH (k:=1) (by kernel_rfl) rfl (by rfl) (.slice A3 C.length c3) (zC rfl rfl) hI ?_
       simp only[Act.put,sA,sB,sC]
       refine zH (k:=4) (by kernel_rfl) rfl (by rfl) (.slice A2 M.length c2) (zC rfl rfl) hI ?_
       simp only[Act.put,sA,sB,sC]
       refine zH (k:=5) (by kernel_rfl) rfl (by rfl) (.slice (some ad) n c) (zC rfl rfl) hI ?_
       simp only[Act.put,sA,sB,sC]
       refine zH (k:=6) (by kernel_rfl) rfl (by rfl) (.int .i64 ((i+1:Nat):Int)) (zC rfl rfl) hI ?_
       simp only[Act.put,sA,sB,sC]
       refine zH (k:=7) (by kernel_rfl) rfl (by rfl) (.pointer (some (ad.add ((i+1)*1)))) (jG Tryz.underlying45 zIF rfl rfl rfl hi1) hI ?_
       simp only[Act.put,sA,sB,sC]
       refine xD (k:=8) (by kernel_rfl) rfl (by rfl) (.int .u8 ((y:Nat):Int)) (fun W hW=>zJB rfl rfl (HCX W hW)) hI ?_
       simp only[Act.put,sA,sB,sC]
       refine zH (k:=9) (by kernel_rfl) rfl (by rfl) (.int .i64 ((y:Nat):Int)) (zKV rfl rfl (zGt y hy)) hI ?_
       simp only[Act.put,sA,sB,sC]
       refine oi_two (k:=2) (l:=10) (by kernel_rfl) rfl rfl ?_ ?_
       ·refine wLit1 rfl 71 45 (.tmp 30) rfl (some 31) rfl Tryz.underlying71 1 zGy zeroBs _ rfl rfl (by omega) (by omega) ?_
        intro w1 g1 hb1 hx1 hg1
        have T1:=T0.lit1 (v:=(.slice A3 C.length c3)) hb1 hx1 hg1
        have K1:=K0.ext hx1
        clear hb1 hx1 hg1
        refine zU ⟨T1.ext, ?_⟩
        simp only[Act.put,sA,sB,sC]
        refine oi_two (k:=3) (l:=10) (by kernel_rfl) rfl rfl ?_ ?_
        ·refine wApf zIE rfl _ _ rfl w.heap.size (.slice A1 P.length c1) P.length VS rfl T1.p _ 1 [(.slice A3 C.length c3)] rfl (zCf (T1.a1 _ _ rfl).1) (zGj rfl) (by omega) (by omega) T1.base.2 ?_
         intro B1 d1 w2 ho2 hg2 hr2
         have T2:=T1.app1' ho2 hg2 hr2
         have K2:=K1.grown1 (n:=P.length+1) (c:=d1) hg2 hr2
         clear ho2 hg2 hr2
         refine zU ⟨T2.ext, ?_⟩
         simp only[Act.put,sA,sB,sC]
         refine xY (k:=10) (by kernel_rfl) rfl ?_
         refine wLit1 rfl 22 3 (.tmp 38) rfl (some 39) rfl Tryz.underlying22 1 qV zeroI _ rfl rfl (by omega) (by omega) ?_
         intro w3 g3 hb3 hx3 hg3
         have T3:=T2.lit2 (v:=.int .i64 (y:Int)) hb3 hx3 hg3
         have K3:=K2.ext hx3
         clear hb3 hx3 hg3
         refine zU ⟨T3.ext, ?_⟩
         simp only[Act.put,sA,sB,sC]
         refine xY (k:=11) (by kernel_rfl) rfl ?_
         refine wApf zIu rfl _ _ rfl w.heap.size (.slice A2 M.length c2) M.length (ints (M.map Int.ofNat)) rfl T3.m _ 1 [.int .i64 (y:Int)] rfl (zCf (T3.a2 _ _ rfl).1) (zKh _) (by omega) (by omega) T3.base.2 ?_
         intro B2 d2 w4 ho4 hg4 hr4
         have T4:=T3.app2' ho4 hg4 hr4
         have K4:=K3.grown2 (n:=M.length+1) (c:=d2) hg4 hr4
         clear ho4 hg4 hr4
         refine zU ⟨T4.ext, ?_⟩
         simp only[Act.put,sA,sB,sC]
         refine zH (k:=12) (by kernel_rfl) rfl (by rfl) (.slice B1 (P.length+1) d1) (zW rfl rfl) T4.ext ?_
         simp only[Act.put,sA,sB,sC]
         refine zH (k:=13) (by kernel_rfl) rfl (by rfl) (.slice B2 (M.length+1) d2) (zW rfl rfl) T4.ext ?_
         simp only[Act.put,sA,sB,sC]
         refine zH (k:=14) (by kernel_rfl) rfl (by rfl) (.slice none 0 0) (zW rfl rfl) T4.ext ?_
         simp only[Act.put,sA,sB,sC]
         refine uE (by kernel_rfl) ?_
         go_wp2_with fail
         go_roundw
         case rel =>
          refine⟨i+2,P++[C],M++[y],[],B1,d1,B2,d2,none,0,VS++[.slice A3 C.length c3],by omega,by simp;omega,by simp;omega,by simp,by go_num,by rw[wF1];rfl,by rw[wF1];rfl,rfl, ?_,zA HT.out,zA (HNZ.out.snoc HN3.out)⟩
          rw[wF1,wF1,wH1,uQ]
          exact⟨T4,K4,zAT _ _ _ _,(fun b h=>by cases h),(fun _ _ _ _ h=>by cases h)⟩
         case measure=>simp[intOf];omega
        ·refine wLit1 rfl 22 3 (.tmp 38) rfl (some 39) rfl Tryz.underlying22 1 qV zeroI _ rfl rfl (by omega) (by omega) ?_
         intro w2 g2 hb2 hx2 hg2
         have T2:=T1.lit2 (v:=.int .i64 (y:Int)) hb2 hx2 hg2
         have K2:=K1.ext hx2
         clear hb2 hx2 hg2
         refine zU ⟨T2.ext, ?_⟩
         simp only[Act.put,sA,sB,sC]
         refine xY (k:=3) (by kernel_rfl) rfl ?_
         refine wApf zIE rfl _ _ rfl w.heap.size (.slice A1 P.length c1) P.length VS rfl T2.p _ 1 [(.slice A3 C.length c3)] rfl (zCf (T2.a1 _ _ rfl).1) (zGj rfl) (by omega) (by omega) T2.base.2 ?_
         intro B1 d1 w3 ho3 hg3 hr3
         have T3:=T2.app1' ho3 hg3 hr3
         have K3:=K2.grown1 (n:=P.length+1) (c:=d1) hg3 hr3
         clear ho3 hg3 hr3
         refine zU ⟨T3.ext, ?_⟩
         simp only[Act.put,sA,sB,sC]
         refine xY (k:=11) (by kernel_rfl) rfl ?_
         refine wApf zIu rfl _ _ rfl w.heap.size (.slice A2 M.length c2) M.length (ints (M.map Int.ofNat)) rfl T3.m _ 1 [.int .i64 (y:Int)] rfl (zCf (T3.a2 _ _ rfl).1) (zKh _) (by omega) (by omega) T3.base.2 ?_
         intro B2 d2 w4 ho4 hg4 hr4
         have T4:=T3.app2' ho4 hg4 hr4
         have K4:=K3.grown2 (n:=M.length+1) (c:=d2) hg4 hr4
         clear ho4 hg4 hr4
         refine zU ⟨T4.ext, ?_⟩
         simp only[Act.put,sA,sB,sC]
         refine zH (k:=12) (by kernel_rfl) rfl (by rfl) (.slice B1 (P.length+1) d1) (zW rfl rfl) T4.ext ?_
         simp only[Act.put,sA,sB,sC]
         refine zH (k:=13) (by kernel_rfl) rfl (by rfl) (.slice B2 (M.length+1) d2) (zW rfl rfl) T4.ext ?_
         simp only[Act.put,sA,sB,sC]
         refine zH (k:=14) (by kernel_rfl) rfl (by rfl) (.slice none 0 0) (zW rfl rfl) T4.ext ?_
         simp only[Act.put,sA,sB,sC]
         refine uE (by kernel_rfl) ?_
         go_wp2_with fail
         go_roundw
         case rel =>
          refine⟨i+2,P++[C],M++[y],[],B1,d1,B2,d2,none,0,VS++[.slice A3 C.length c3],by omega,by simp;omega,by simp;omega,by simp,by go_num,by rw[wF1];rfl,by rw[wF1];rfl,rfl, ?_,zA HT.out,zA (HNZ.out.snoc HN3.out)⟩
          rw[wF1,wF1,wH1,uQ]
          exact⟨T4,K4,zAT _ _ _ _,(fun b h=>by cases h),(fun _ _ _ _ h=>by cases h)⟩
         case measure=>simp[intOf];omega
       ·refine wLit1 rfl 22 3 (.tmp 38) rfl (some 39) rfl Tryz.underlying22 1 qV zeroI _ rfl rfl (by omega) (by omega) ?_
        intro w1 g1 hb1 hx1 hg1
        have T1:=T0.lit2 (v:=.int .i64 (y:Int)) hb1 hx1 hg1
        have K1:=K0.ext hx1
        clear hb1 hx1 hg1
        refine zU ⟨T1.ext, ?_⟩
        simp only[Act.put,sA,sB,sC]
        refine xY (k:=2) (by kernel_rfl) rfl ?_
        refine wLit1 rfl 71 45 (.tmp 30) rfl (some 31) rfl Tryz.underlying71 1 zGy zeroBs _ rfl rfl (by omega) (by omega) ?_
        intro w2 g2 hb2 hx2 hg2
        have T2:=T1.lit1 (v:=(.slice A3 C.length c3)) hb2 hx2 hg2
        have K2:=K1.ext hx2
        clear hb2 hx2 hg2
        refine zU ⟨T2.ext, ?_⟩
        simp only[Act.put,sA,sB,sC]
        refine xY (k:=3) (by kernel_rfl) rfl ?_
        refine wApf zIE rfl _ _ rfl w.heap.size (.slice A1 P.length c1) P.length VS rfl T2.p _ 1 [(.slice A3 C.length c3)] rfl (zCf (T2.a1 _ _ rfl).1) (zGj rfl) (by omega) (by omega) T2.base.2 ?_
        intro B1 d1 w3 ho3 hg3 hr3
        have T3:=T2.app1' ho3 hg3 hr3
        have K3:=K2.grown1 (n:=P.length+1) (c:=d1) hg3 hr3
        clear ho3 hg3 hr3
        refine zU ⟨T3.ext, ?_⟩
        simp only[Act.put,sA,sB,sC]
        refine xY (k:=11) (by kernel_rfl) rfl ?_
        refine wApf zIu rfl _ _ rfl w.heap.size (.slice A2 M.length c2) M.length (ints (M.map Int.ofNat)) rfl T3.m _ 1 [.int .i64 (y:Int)] rfl (zCf (T3.a2 _ _ rfl).1) (zKh _) (by omega) (by omega) T3.base.2 ?_
        intro B2 d2 w4 ho4 hg4 hr4
        have T4:=T3.app2' ho4 hg4 hr4
        have K4:=K3.grown2 (n:=M.length+1) (c:=d2) hg4 hr4
        clear ho4 hg4 hr4
        refine zU ⟨T4.ext, ?_⟩
        simp only[Act.put,sA,sB,sC]
        refine zH (k:=12) (by kernel_rfl) rfl (by rfl) (.slice B1 (P.length+1) d1) (zW rfl rfl) T4.ext ?_
        simp only[Act.put,sA,sB,sC]
        refine zH (k:=13) (by kernel_rfl) rfl (by rfl) (.slice B2 (M.length+1) d2) (zW rfl rfl) T4.ext ?_
        simp only[Act.put,sA,sB,sC]
        refine zH (k:=14) (by kernel_rfl) rfl (by rfl) (.slice none 0 0) (zW rfl rfl) T4.ext ?_
        simp only[Act.put,sA,sB,sC]
        refine uE (by kernel_rfl) ?_
        go_wp2_with fail
        go_roundw
        case rel =>
         refine⟨i+2,P++[C],M++[y],[],B1,d1,B2,d2,none,0,VS++[.slice A3 C.length c3],by omega,by simp;omega,by simp;omega,by simp,by go_num,by rw[wF1];rfl,by rw[wF1];rfl,rfl, ?_,zA HT.out,zA (HNZ.out.snoc HN3.out)⟩
         rw[wF1,wF1,wH1,uQ]
         exact⟨T4,K4,zAT _ _ _ _,(fun b h=>by cases h),(fun _ _ _ _ h=>by cases h)⟩
        case measure=>simp[intOf];omega
   ·have HNX:=zA (HPP.out hx)
    have hxn:(((bs[i]:Nat):Int) !=255)=true:=by simp;omega
    clear HPP HEZ hxk
    generalize bs[i]=x at *
    have hxI: ¬((x:Int)=255):=by omega
    go_wp2_with (at_builtin;go_must (refine wApf zBW rfl _ _ rfl w.heap.size (.slice A3 C.length c3) _ _ rfl (hC.cur.alloc _) _ 1 [.int .u8 _] rfl (one_sl _ _ _) (zGj rfl) (by omega) (by omega) (by have:=hC.two.base.2;simp;omega) ?_);intro A7 c7 w7 ho7 hg7 hr7)
    have hC7:=(hC.later ((Ext.refl wr).alloc (.cells #[.int .u8 (x:Int)] 5))).grow ho7 hg7 (by rw[zBO];exact hr7)
    go_roundw
    case rel =>
     refine⟨i+1,P,M,C++[x],A1,c1,A2,c2,A7,c7,VS,by omega,by omega,by omega,by simp;omega,by go_num,rfl,rfl,by rw[wF1];rfl, ?_,HNX,HNZ⟩
     rw[wF1,zIa]
     exact hC7
    case measure=>simp[intOf];omega
  ·have HER:=zA (HEZ.out.trans (HSE.out i P M _ (by rw[HBL.out];omega)))
   clear HEZ
   have T0:=hC.two
   have K0:=hC.kept.snoc hC.cur rfl hC.d1
   go_upto_region 15 with fail
   refine wp_region_lit ?_
   refine zB rfl (.slice A1 P.length c1) (zC rfl rfl) ?_
   simp only[Act.put,sA,sB,sC]
   refine zB rfl (.slice A3 C.length c3) (zC rfl rfl) ?_
   simp only[Act.put,sA,sB,sC]
   refine wLit1 rfl 71 45 (.tmp 63) rfl (some 64) rfl Tryz.underlying71 1 zGy zeroBs _ rfl rfl (by omega) (by omega) ?_
   intro w1 g1 hb1 hx1 hg1
   have T1:=T0.lit1 (v:=.slice A3 C.length c3) hb1 hx1 hg1
   have K1:=K0.ext hx1
   clear hb1 hx1 hg1
   simp only[Act.put,sA,sB,sC]
   refine wApf zIE rfl _ _ rfl w.heap.size (.slice A1 P.length c1) P.length VS rfl T1.p _ 1 [.slice A3 C.length c3] rfl (zCf (T1.a1 _ _ rfl).1) (zGj rfl) (by omega) (by omega) T1.base.2 ?_
   intro B1 d1 w2 ho2 hg2 hr2
   have T2:=T1.app1' ho2 hg2 hr2
   have K2:=K1.grown1 (n:=P.length+1) (c:=d1) hg2 hr2
   clear ho2 hg2 hr2
   simp only[Act.put,sA,sB,sC]
   go_wp2_with fail
   go_ret3
   rw[HER.out]
   refine⟨B1,d1,A2,c2,_,by rw[wF1];rfl, ?_,K2.1,(qU T2.m).1,T2.ext,HNZ.out.snoc HN3.out,fun ad h=>wD1 T2.base.1 ((qU T2.p).2 ad h),fun ad h=>wD1 T2.base.1 ((qU T2.m).2 ad h)⟩
   rw[wF1]
   exact (qU T2.p).1
theorem zJX (bs:List Nat) (v:Value) (w:World) (hv:SL w 1 v bs.length (zD bs)) (hlt: ∀ b∈bs,b<256) (hn:bs.length≤1048576) :
 Calls Tryz.prog 34 #[v] w (SpIsN (xN bs [] [] []) w):=(zQW bs v w hv hlt hn).mono fun _ _ h=>h.n
theorem split_any (bs:List Nat) (v:Value) (w:World) (hv:SL w 1 v bs.length (zD bs)) (hlt: ∀ b∈bs,b<256) (hn:bs.length≤1048576) :
 Calls Tryz.prog 34 #[v] w (SpIs (xN bs [] [] []) w):=(zJX bs v w hv hlt hn).mono fun _ _ h=>h.is
theorem Ext.grown' {a w w':World} (h:Ext a w) {row:Option Nat} (hg:w.grownBy w' row) (hB: ∀ b,row=some b→a.heap.size≤b):Ext a w' :=
 Below.grown h hg h.size (fun k hk=>hB k hk)
section
theorem zeroU8:((Tryz.prog.info? 5).bind (·.zero)).isSome=true:=by kernel_rfl
theorem zCk {ops:Array Oper} {rest:List Oper} {o:Oper} {a:Act} {w:World} {Q:Exit→Act→World→Prop} (hg:o.guard=none) (x y:Operand) (ho:o.op=.buildSlice 45 2 #[(0,x),(1,y)]) (dst:Option Tmp) (hdst:o.dst=dst)
 (m n:Nat) (hx:a.eval x=.int .u8 (m:Int)) (hy:a.eval y=.int .u8 (n:Int))
 (h: ∀ w1 g,Blk w1 g 5 (zD [m,n]).toArray→Ext w w1→w.heap.size≤g→wpList Tryz.prog ops Q rest (a.put dst (.slice (some ⟨g,0,none⟩) 2 2)) w1):wpList Tryz.prog ops Q (o::rest) a w:=by
 refine Go.Great.wpList_buildSliceTo hg 45 5 2 #[(0,x),(1,y)] ho _ rfl dst hdst Tryz.underlying45 (zD [m,n]).toArray ?_ (h _ _ (Blk.new w _ _) ((Ext.refl w).alloc _) (wA5 _))
 simp only[wC7,wC8,wC9,hx,hy]
 show _=_
 kernel_rfl
theorem zHV {ops:Array Oper} {rest:List Oper} {o:Oper} {a:Act} {w:World} {Q:Exit→Act→World→Prop} (hg:o.guard=none) (x:Operand) (ho:o.op=.buildSlice 45 1 #[(0,x)]) (dst:Option Tmp) (hdst:o.dst=dst)
 (m:Nat) (hx:a.eval x=.int .u8 (m:Int))
 (h: ∀ w1 g,Blk w1 g 5 (zD [m]).toArray→Ext w w1→w.heap.size≤g→wpList Tryz.prog ops Q rest (a.put dst (.slice (some ⟨g,0,none⟩) 1 1)) w1):wpList Tryz.prog ops Q (o::rest) a w :=
 wLit1 hg 45 5 x ho dst hdst Tryz.underlying45 1 zIF zeroU8 _ hx rfl (by omega) (by omega) h
attribute [local irreducible] zD zAu xR
theorem zFJ (A:Option Addr) (n c k1 k2 g1 g2:Nat) (bs o v:List Nat) (m0:Int) (w:World) (hs:SL w 1 (.slice A n c) n (zD bs)) (hA:A=none→c=0) (hlt: ∀ b∈bs,b<256) (hlo: ∀ b∈o,b<256) (hn:n≤1000000000)
 (ho:o.length=k1) (hk1:1≤k1) (hk2:k1≤2) (hv:v.length=k2) (hk3:1≤k2) (hk4:k2≤2) (hbo:Blk w g1 5 (zD o).toArray) (hbv:Blk w g2 5 (zD v).toArray) (hm:w.cell? ⟨0,0,none⟩=some (.int .i64 m0)) :
 Calls Tryz.prog 79 #[.slice A n c,.slice (some ⟨g1,0,none⟩) k1 k1,.slice (some ⟨g2,0,none⟩) k2 k2] w (ReplIs (zAu bs o v) w):=by
 have H:=zA (zPO A n c k1 k2 g1 g2 bs o v m0 w hs hA hlt hlo hn ho hk1 hk2 hv hk3 hk4 hbo hbv hm)
 generalize zAu bs o v=R at *
 clear hs hlt hlo ho hv hbo hbv hm
 go_enter Tryz.func79,Tryz.ntmps79
 go_wp2_with (go_at_call 138;(with_reducible refine (H.out).mono ?_);rintro e w1 ⟨B,k,d,rfl,h1,h2,h3,h4⟩)
 go_ret
 exact⟨B,k,d,rfl,h1,h2,h3,h4⟩
theorem zAS {w w':World} {m0:Int} (hm:w.cell? ⟨0,0,none⟩=some (.int .i64 m0)) (hx:Ext w w'):w'.cell? ⟨0,0,none⟩=some (.int .i64 m0):=by
 have h00:0<w.heap.size:=by
  rcases wC5 w.heap.size with h | h
  ·unfold World.cell? at hm
   rw[wA4 (by simp[h])] at hm
   cases hm
  ·exact h
 exact (hx.cell (p:=⟨0,0,none⟩) h00).trans hm
theorem stuff_any (A:Option Addr) (n c:Nat) (bs:List Nat) (m0:Int) (w:World) (hs:SL w 1 (.slice A n c) n (zD bs)) (hA:A=none→c=0) (hlt: ∀ b∈bs,b<256) (hn:n≤1000000000) (hm:w.cell? ⟨0,0,none⟩=some (.int .i64 m0)) :
 Calls Tryz.prog 35 #[.slice A n c] w (ReplIs (xR bs) w):=by
 have H:=zA (fun W (h:Ext w W) g1 g2 h1 h2=>zFJ A n c 1 2 g1 g2 bs [255] [255,0] m0 W (hs.ext h) hA hlt (by simp) hn rfl (by omega) (by omega) rfl (by omega) (by omega) h1 h2 (zAS hm h))
 rw[zJS bs hlt] at H
 generalize xR bs=R at *
 clear hs hlt hm
 go_enter Tryz.func35,Tryz.ntmps35
 go_wp2_with (first
  | ((with_reducible apply gS 4);refine zHV rfl _ rfl (some 4) rfl 255 rfl ?_;intro w1 g1 hb1 hx1 hg1)
  | ((with_reducible apply gS 5);refine zCk rfl _ _ rfl (some 5) rfl 255 0 rfl rfl ?_;intro w2 g2 hb2 hx2 hg2)
  | (go_at_call 79;(with_reducible refine (H.out _ (hx1.trans hx2) _ _ (hb1.ext hx2) hb2).mono ?_);rintro e w3 ⟨B,k,d,rfl,h1,h2,h3,h4⟩))
 go_ret
 exact⟨B,k,d,rfl,h1,h2,h3,(hx1.trans hx2).trans h4⟩
def PlIs (z:Option (List Nat)) (w:World) (e:Ending) (w':World):Prop :=
 match z with
 | none=>e=.returned (.tuple #[.slice none 0 0,.int .i64 4])∧Ext w w'
 | some R=> ∃ B k d,e=.returned (.tuple #[.slice B k d,.int .i64 0])∧R.length=k∧SL w' 1 (.slice B k d) k (zD R)∧(B=none→d=0)∧Ext w w'
theorem plain_any (A:Option Addr) (n c:Nat) (bs:List Nat) (m0:Int) (w:World) (hs:SL w 1 (.slice A n c) n (zD bs)) (hA:A=none→c=0) (hlt: ∀ b∈bs,b<256) (hn:n≤1048576) (hm:w.cell? ⟨0,0,none⟩=some (.int .i64 m0)) :
 Calls Tryz.prog 160 #[.slice A n c] w (PlIs (plZ bs) w):=by
 have hl:=(zFK hs).1
 have HSP:=split_any bs (.slice A n c) w (by rw[hl];exact hs) hlt (by omega)
 obtain⟨k1,k2⟩:=zJs bs [] [] []
 have H:=zA (fun W (h:Ext w W) g1 g2 h1 h2=>zFJ A n c 2 1 g1 g2 bs [255,0] [255] m0 W (hs.ext h) hA hlt (by simp) (by omega) rfl (by omega) (by omega) rfl (by omega) (by omega) h1 h2 (zAS hm h))
 have hpr:=zFV bs
 cases hz:plZ bs with
 | none =>
   have k3:=k1 (.inr hz)
   cases hq:xN bs [] [] [] with
   | none =>
     rw[hq] at HSP
     have HSP:=zA HSP
     clear hs hlt hm k1 k2 k3 hz hq H hpr
     go_enter Tryz.func160,Tryz.ntmps160
     go_wp2_with (go_at_call 34;(with_reducible refine (HSP.out).mono ?_);rintro e w1 ⟨rfl,hx1⟩)
     refine bodyPost_ret (results_tmp2 rfl _ _ _) rfl ?_
     exact⟨rfl,hx1⟩
   | some z =>
     obtain⟨P,M⟩:=z
     have hM:=k3 _ hq
     dsimp only at hM
     rw[hq] at HSP
     have HSP:=zA HSP
     obtain⟨ml,hml⟩: ∃ ml,M.length=ml:=⟨_,rfl⟩
     have hml0:0<ml:=by rw[←hml];exact List.length_pos_iff.2 hM
     have HML:=zA hml
     clear hs hlt hm k1 k2 k3 hz hq H hpr hM hml
     go_enter Tryz.func160,Tryz.ntmps160
     go_wp2_with (go_at_call 34;(with_reducible refine (HSP.out).mono ?_);rintro e w1 ⟨B,b,D,d,VS,rfl, -, -, -,hx1⟩;rw[HML.out])
     refine bodyPost_ret (results_tmp2 rfl _ _ _) rfl ?_
     exact⟨rfl,hx1⟩
 | some R =>
   obtain⟨P,hq⟩:=k2 rfl R hz
   rw[hq] at HSP
   have HSP:=zA HSP
   rw[hpr R hlt hz] at H
   clear hs hlt hm k1 k2 hz hq hpr
   go_enter Tryz.func160,Tryz.ntmps160
   go_wp2_with (first
    | (go_at_call 34;(with_reducible refine (HSP.out).mono ?_);rintro e w1 ⟨B,b,D,d,VS,rfl, -, -, -,hx1⟩;rw[show ([]:List Nat).length=0 from rfl])
    | ((with_reducible apply gS 24);refine zCk rfl _ _ rfl (some 24) rfl 255 0 rfl rfl ?_;intro w2 g2 hb2 hx2 hg2)
    | ((with_reducible apply gS 25);refine zHV rfl _ rfl (some 25) rfl 255 rfl ?_;intro w3 g3 hb3 hx3 hg3;have hx13:=(hx1.trans hx2).trans hx3)
    | (go_at_call 79;(with_reducible refine (H.out _ hx13 _ _ (hb2.ext hx3) hb3).mono ?_);rintro e w4 ⟨B4,k4,d4,rfl,h1,h2,h3,h4⟩))
   refine bodyPost_ret (results_tmp2 rfl _ _ _) rfl ?_
   exact⟨B4,k4,d4,rfl,h1,h2,h3,hx13.trans h4⟩
theorem zJa (y:Nat) (l:List Nat):xR (y::l)=(if y=255 then [255,0] else [y])++xR l:=by unfold xR;rw[wJ0]
end
section
theorem zQG (Z:List Int) (k:Nat):(zBD Z k).length≤4034:=by
 unfold zBD yE
 have h:=(accT_bd (jY 0 ((zto (yT Z k)).getD 0 0-uA Z k)) ((zto (yT Z k)).drop 1) 63 (by rw[wJ4,uD];omega) (by omega)).2
 dsimp only
 split
 ·rw[wF1,List.length_singleton];omega
 ·omega
theorem zPX {Z:List Int} {n k:Nat}: ∀ t∈qL Z n k,zBP t.1:=by
 intro t ht
 unfold qL at ht
 obtain⟨i, -,ht⟩:=wN5.1 ht
 unfold zAq at ht
 obtain⟨p,hp,rfl⟩:=wD6.1 ht
 have:=List.fst_mem_of_mem_zipIdx hp
 unfold zBD at this
 exact zFY _ _ (uD _) _ this
theorem zPI (Z:List Int) (n:Nat):(qL Z n 0).length≤4034*n:=by
 unfold qL
 rw[Nat.sub_zero]
 have key: ∀ m k,((List.range' k m).flatMap fun i=>zAq (zBD Z i)).length≤4034*m:=by
  intro m
  induction m with
  | zero=>intro k;simp
  | succ m ih =>
    intro k
    rw[wJ7,wJ0,wF1,zHQ]
    have:=ih (k+1)
    have:=zQG Z k
    omega
 exact key n 0
theorem encZ_bd {T1 T2:List Tok} (f1:zBp T1) (f2:zBp T2) (n:Nat) (Z:List Int):(qD (xG T1 T2) n Z []).2.length≤1000000000:=by
 unfold qD
 split
 ·simp
 ·split
  ·simp
  ·have h1:=zOM f1 f2 (qL Z n 0) [] zPX
   have h2:=zPI Z n
   simp only[wL7] at h1
   omega
def zEe (r:Int×List Nat) (w:World) (e:Ending) (w':World):Prop :=
 Ext w w'∧if r.1=0 then ∃ B k d,e=.returned (.tuple #[.slice B k d,.int .i64 0])∧r.2.length=k∧SL w' 1 (.slice B k d) k (zD r.2)∧(B=none→d=0)
  else e=.returned (.tuple #[.slice none 0 0,.int .i64 r.1])
def zCI (T1 T2:List Tok) (n:Nat) (Z:List Int):Int×List Nat:=((qD (xG T1 T2) n Z []).1,xR (qP (uS (qD (xG T1 T2) n Z []).2)))
theorem nilPtrK:(Tryz.prog.info? 197).bind (·.zero)=some (.pointer none):=by kernel_rfl
theorem nilPtrW:(Tryz.prog.info? 200).bind (·.zero)=some (.pointer none):=by kernel_rfl
theorem zCY {t1 t2:List Value} (h1:t1.length=17) (h2:t2.length=17):(t1++t2).toArray.size=34:=by simp[h1,h2]
theorem builtWr:Tryz.prog.built 203 []=some #[.slice none 0 0,.int .u64 0,.int .i64 0]:=by
 show _=_
 kernel_rfl
attribute [local irreducible] zD xR qP uS qD
theorem zPD (T1 T2:List Tok) (f1:zBp T1) (f2:zBp T2) (t1 t2:List Value) (A:Option Addr) (n c:Nat) (Z:List Int) (hZ:Z.length=n*64) (m0:Int) (w:World) (hs:SL w 64 (.slice A n c) n (ints Z)) (hm:w.cell? ⟨0,0,none⟩=some (.int .i64 m0)) (h1:t1.length=17) (h2:t2.length=17)
 (o1:t1.toArray.all (·.oneCell')=true) (o2:t2.toArray.all (·.oneCell')=true)
 (C1: ∀ W,Ext w W→Calls Tryz.prog 102 #[.agg t1.toArray] W fun e W'=>e=.returned (.int .i64 0)∧Ext W W')
 (C2: ∀ W,Ext w W→Calls Tryz.prog 102 #[.agg t2.toArray] W fun e W'=>e=.returned (.int .i64 0)∧Ext W W')
 (N1: ∀ W,Ext w W→Calls Tryz.prog 184 #[.agg t1.toArray] W fun e W'=> ∃ gc,e=.returned (.pointer (some ⟨gc,0,none⟩))∧CoderS W' gc T1∧Ext W W')
 (N2: ∀ W,Ext w W→Calls Tryz.prog 184 #[.agg t2.toArray] W fun e W'=> ∃ gc,e=.returned (.pointer (some ⟨gc,0,none⟩))∧CoderS W' gc T2∧Ext W W') :
 Calls Tryz.prog 104 #[.agg (t1++t2).toArray,.slice A n c] w (zEe (zCI T1 T2 n Z) w):=by
 have HM:=zA (fun W (h:Ext w W)=>zLo T1 T2 t1 t2 W h1 h2 o1 o2 (fun W' h'=>C1 W' (h.trans h')) (fun W' h'=>C2 W' (h.trans h')) (fun W' h'=>N1 W' (h.trans h')) (fun W' h'=>N2 W' (h.trans h')))
 have hsz:=zA (zCY h1 h2)
 have hbd:=encZ_bd f1 f2 n Z
 have HEA:=zA (fun pc pw gk gw gc1 gc2 W0 W F (hsW:SL W 64 (.slice A n c) n (ints Z)) (hI:EncIn pc pw gk gw gc1 gc2 T1 T2 W0 W [] F) (hA: ∀ ad,A=some ad→0<n→ ¬F ad.block) =>
  zNJ (encEat pc pw gk gw gc1 gc2 T1 T2 f1 f2 W0) A n c Z hZ W hsW [] F hI hA hbd)
 unfold zCI
 unfold EachIs at HEA
 have hmf: ∀ (fn:Fn) (first cap:Array Value) (w:World),(Instr.makeFunc fn first cap).run Tryz.prog w=.ok (.func fn first cap) w:=fun _ _ _ _=>rfl
 have HSA:Hid (∀ ad,A=some ad→0<n→ad.block<w.heap.size):=zA (fun ad e h0=>by
  obtain⟨A',c',e2, -, -, -,h5⟩:=hs
  injection e2 with e3 _ _
  subst e3
  obtain⟨ad',e4,h6, -⟩:=h5 h0
  rw[e] at e4
  injection e4 with e4
  subst e4
  exact h6)
 generalize qD (xG T1 T2) n Z []=R at *
 generalize (t1++t2).toArray=tt at *
 obtain⟨x,L⟩:=R
 dsimp only at HEA hbd ⊢
 have HBY:=zA (fun gw r W (h:WrS W gw L r)=>zQV gw L r W h (by omega))
 have hpl:(qP (uS L)).length≤1000000000:=by
  rw[zCc]
  have:(uS L).length≤L.length+7:=by
   unfold uS
   rw[wF1,wF3]
   omega
  omega
 have HLT:=zA (packB_lt (uS L))
 generalize qP (uS L)=B at *
 have HST:=zA (fun D d W (h:SL W 1 (.slice D B.length d) B.length (zD B)) (hD:D=none→d=0) (hx:Ext w W)=>stuff_any D B.length d B m0 W h hD HLT.out hpl (zAS hm hx))
 obtain⟨bl,hbl⟩: ∃ k,B.length=k:=⟨_,rfl⟩
 rw[hbl] at HST HBY
 have HS0:=zA hs
 clear C1 C2 N1 N2 h1 h2 o1 o2 hs hm hbd hpl hbl hZ
 by_cases hx0:x=0
 ·subst hx0
  go_enter Tryz.func104,Tryz.ntmps104
  go_wp2_with (first
   | ((with_reducible apply gS 2);refine wBox rfl 44 (.tmp 0) rfl tt rfl ?_;intro w1 g hb1 hx1 hg1)
   | ((with_reducible apply gS 10);refine wLdB rfl 44 (.tmp 2) rfl g rfl hb1 _ Tryz.underlying44 rfl 34 qA hsz.out ?_)
   | (go_at_call 152;(with_reducible refine (HM.out _ hx1).mono ?_);rintro e w2 ⟨gk,gc1,gc2,rfl,hk2,hc21,hc22,hx2⟩;have hx2':=hx1.trans hx2)
   | ((with_reducible apply gS 6);refine wAlo' rfl (some 6) rfl 197 rfl _ nilPtrK ?_;intro w3 pc hb3 hx3 hg3;have hc3:=hb3.cell 0;have hz3:=hb3.frozen 0;have hx4:Ext w2 (w3.setCell ⟨pc,0,none⟩ (.pointer (some ⟨gk,0,none⟩))):=hx3.setCell hg3 _;have hb4:=hb3.set_ 0 (.pointer (some ⟨gk,0,none⟩)))
   | ((with_reducible apply gS 17);refine zB rfl (.agg #[.slice none 0 0,.int .u64 0,.int .i64 0]) (zLF rfl builtWr) ?_)
   | ((with_reducible apply gS 18);go_must (refine wBox rfl 203 (.tmp 17) rfl #[.slice none 0 0,.int .u64 0,.int .i64 0] rfl ?_;intro w5 gw hb5 hx5 hg5))
   | ((with_reducible apply gS 8);go_must (refine wAlo' rfl (some 8) rfl 200 rfl _ nilPtrW ?_;intro w6 pw hb6 hx6 hg6;have hc6:=hb6.cell 0;have hz6:=hb6.frozen 0;have hb7:=hb6.set_ 0 (.pointer (some ⟨gw,0,none⟩));have hx7:Ext (w3.setCell ⟨pc,0,none⟩ (.pointer (some ⟨gk,0,none⟩))) (w6.setCell ⟨pw,0,none⟩ (.pointer (some ⟨gw,0,none⟩))):=(hx5.trans hx6).setCell (wD1 hx5.size hg6) _;have hgw:w.heap.size≤gw:=wD1 (wD1 hx2'.size hx4.size) hg5;have hw7:Ext w (w6.setCell ⟨pw,0,none⟩ (.pointer (some ⟨gw,0,none⟩))):=(hx2'.trans hx4).trans hx7;have hI7:EncIn pc pw gk gw gc1 gc2 T1 T2 (w3.setCell ⟨pc,0,none⟩ (.pointer (some ⟨gk,0,none⟩))) (w6.setCell ⟨pw,0,none⟩ (.pointer (some ⟨gw,0,none⟩))) [] (fun x=>x=gw∨(none:Option Nat)=some x):=⟨hb4,hk2.ext hx4,hc21.ext hx4,hc22.ext hx4,hg5,hx7,hb7,none,(WrS.nil w5 gw hb5).ext (hx6.setCell hg6 _),fun x=>Iff.rfl⟩))
   | (go_at_call 145;(with_reducible refine (HEA.out _ _ _ _ _ _ _ _ _ (HS0.out.ext hw7) hI7 (fun ad e h0 k=>by have:=HSA.out ad e h0;have:=hx2'.size;have:=hx4.size;rcases k with k | k<;>first | omega | cases k)).mono ?_);rintro e w8 ⟨rfl,hu8,F8,hI8,hF8⟩;have hq8:w8.cell? ⟨pw,0,none⟩=some (.pointer (some ⟨gw,0,none⟩)):=hI8.q.cell 0;obtain⟨r8,hr8,hFr8⟩:=hI8.r)
   | (go_at_call 157;(with_reducible refine (HBY.out _ _ _ hr8).mono ?_);rintro e w9 ⟨D,d,rfl,hs9, -,hD9,hu9⟩;have hx9:Ext w w9:=hu9.ext (hu8.ext hw7 (fun y k=>k.elim (fun e=>e ▸ hgw) (fun e=>by cases e))) (fun y k=>k.elim (fun e=>e ▸ hgw) (fun e=>by have:=(hr8.row y e).1;omega)))
   | (go_at_call 35;(with_reducible refine (HST.out _ _ _ hs9 hD9 hx9).mono ?_);rintro e w10 ⟨D10,k10,d10,rfl,h101,h102,h103,hx10⟩))
  refine bodyPost_ret (results_tmp2 rfl _ _ _) rfl ?_
  refine⟨hx9.trans hx10, ?_⟩
  rw[if_pos rfl]
  exact⟨D10,k10,d10,rfl,h101,h102,h103⟩
 ·have hxb:(x !=0)=true:=by simpa using hx0
  have HX0:=zA hx0
  clear hx0
  go_enter Tryz.func104,Tryz.ntmps104
  go_wp2_with (first
   | ((with_reducible apply gS 2);refine wBox rfl 44 (.tmp 0) rfl tt rfl ?_;intro w1 g hb1 hx1 hg1)
   | ((with_reducible apply gS 10);refine wLdB rfl 44 (.tmp 2) rfl g rfl hb1 _ Tryz.underlying44 rfl 34 qA hsz.out ?_)
   | (go_at_call 152;(with_reducible refine (HM.out _ hx1).mono ?_);rintro e w2 ⟨gk,gc1,gc2,rfl,hk2,hc21,hc22,hx2⟩;have hx2':=hx1.trans hx2)
   | ((with_reducible apply gS 6);refine wAlo' rfl (some 6) rfl 197 rfl _ nilPtrK ?_;intro w3 pc hb3 hx3 hg3;have hc3:=hb3.cell 0;have hz3:=hb3.frozen 0;have hx4:Ext w2 (w3.setCell ⟨pc,0,none⟩ (.pointer (some ⟨gk,0,none⟩))):=hx3.setCell hg3 _;have hb4:=hb3.set_ 0 (.pointer (some ⟨gk,0,none⟩)))
   | ((with_reducible apply gS 17);refine zB rfl (.agg #[.slice none 0 0,.int .u64 0,.int .i64 0]) (zLF rfl builtWr) ?_)
   | ((with_reducible apply gS 18);go_must (refine wBox rfl 203 (.tmp 17) rfl #[.slice none 0 0,.int .u64 0,.int .i64 0] rfl ?_;intro w5 gw hb5 hx5 hg5))
   | ((with_reducible apply gS 8);go_must (refine wAlo' rfl (some 8) rfl 200 rfl _ nilPtrW ?_;intro w6 pw hb6 hx6 hg6;have hc6:=hb6.cell 0;have hz6:=hb6.frozen 0;have hb7:=hb6.set_ 0 (.pointer (some ⟨gw,0,none⟩));have hx7:Ext (w3.setCell ⟨pc,0,none⟩ (.pointer (some ⟨gk,0,none⟩))) (w6.setCell ⟨pw,0,none⟩ (.pointer (some ⟨gw,0,none⟩))):=(hx5.trans hx6).setCell (wD1 hx5.size hg6) _;have hgw:w.heap.size≤gw:=wD1 (wD1 hx2'.size hx4.size) hg5;have hw7:Ext w (w6.setCell ⟨pw,0,none⟩ (.pointer (some ⟨gw,0,none⟩))):=(hx2'.trans hx4).trans hx7;have hI7:EncIn pc pw gk gw gc1 gc2 T1 T2 (w3.setCell ⟨pc,0,none⟩ (.pointer (some ⟨gk,0,none⟩))) (w6.setCell ⟨pw,0,none⟩ (.pointer (some ⟨gw,0,none⟩))) [] (fun x=>x=gw∨(none:Option Nat)=some x):=⟨hb4,hk2.ext hx4,hc21.ext hx4,hc22.ext hx4,hg5,hx7,hb7,none,(WrS.nil w5 gw hb5).ext (hx6.setCell hg6 _),fun x=>Iff.rfl⟩))
   | (go_at_call 145;(with_reducible refine (HEA.out _ _ _ _ _ _ _ _ _ (HS0.out.ext hw7) hI7 (fun ad e h0 k=>by have:=HSA.out ad e h0;have:=hx2'.size;have:=hx4.size;rcases k with k | k<;>first | omega | cases k)).mono ?_);rintro e w8 ⟨rfl,hu8,F8,hI8,hF8⟩;have hq8:w8.cell? ⟨pw,0,none⟩=some (.pointer (some ⟨gw,0,none⟩)):=hI8.q.cell 0;obtain⟨r8,hr8,hFr8⟩:=hI8.r))
  refine bodyPost_ret (results_tmp2 rfl _ _ _) rfl ?_
  refine⟨hu8.ext hw7 (fun y k=>k.elim (fun e=>e ▸ hgw) (fun e=>by cases e)), ?_⟩
  rw[if_neg HX0.out]
  rfl
end
section
def qF (n:Nat) (Z:List Int):Int:=if 400<n then 2 else if zN Z (-2047) 2047=false then 1 else 0
attribute [local irreducible] bv yT
end
end Go.Proofs.YtkggcjdlpendfaaGreatDoor
