/- Contracts of the functions that the law reaches, part 34. -/
import Derived.Test.YtkggcjdlpendfaaGreatDoorMTopCoarseCard33
namespace Go.Proofs.YtkggcjdlpendfaaGreatDoor
set_option linter.unusedVariables false
set_option linter.unusedSimpArgs false
set_option maxRecDepth 20000
set_option maxHeartbeats 8000000
open Go.RowKit
section
open Go.RowKit Go.Shelf
theorem finPlanes (q X:List Int) (a b p:Nat):(List.finRange p).map (fun x:Fin p=>zEN q X a b x.1)=zAd q X a b p:=by
 unfold zAd
 apply wH6
 ·simp
 ·intro i h1 h2
  simp
theorem SL.recap {w:World} {sz n c c':Nat} {A:Option Addr} {xs:List Value} (h:SL w sz (.slice A n c) n xs) (h1:n≤c') (h2:c'≤9223372036854775807):SL w sz (.slice A n c') n xs:=by
 obtain⟨A',d,e, -, -,h5,h6⟩:=h
 injection e with e1 e2 e3
 subst e1
 exact⟨A,c',rfl,h1,h2,h5,h6⟩
theorem part_sl {w:World} {ad:Addr} {m c n p k:Nat} {X:List Int} (hs:SL w 64 (.slice (some ad) m c) m (ints X)) (hm:m=p*n) (hk:k<p) (hn:1≤n) (hn2:n≤100000) (hcm:m≤c) (hX:X.length=m*64) :
 SL w 64 (.slice (some (ad.add (k*n*64))) n n) n (ints (sect X n k))∧(sect X n k).length=n*64:=by
 have hlm:k*n+n≤m:=by
  rw[hm]
  have:=wI5 n (show k+1≤p by omega)
  rw[wJ1] at this
  omega
 have:=hs.sect rfl hlm
 unfold zCp at this
 rw[if_neg (by omega)] at this
 exact⟨this.recap (wA5 _) (by omega),sect_len hX rfl hlm⟩
theorem ex_ixB {o:Oper} {a:Act} {x ix:Operand} (ho:o.op=.indexAddr 25 x ix) {g n c i:Nat} (hx:a.eval x=.slice (some ⟨g,0,none⟩) n c) (hi:a.eval ix=.int .i64 (i:Int)) (h:i<n) (w:World) :
 (execOp a.eval o).run Tryz.prog w=.ok (.value (.pointer (some ⟨g,i*64,none⟩))) w:=by
 have:=zEH (m:=0) Tryz.underlying25 zF ho hx hi h w
 rwa [wB2] at this
theorem Upd.mono_ {S S':Nat→Prop} {w w':World} (h:Upd S w w') (hS: ∀ x,S x→S' x):Upd S' w w':=⟨h.os,h.tape,h.output,h.size,fun b hb hn=>h.block b hb (fun q=>hn (hS b q))⟩
theorem rows_kept {X Y:World} {row:Option Nat} {A:Option Addr} {n c B:Nat} {L:List (List Int)} (h:RowsF X B A n c L) (hg:X.grownBy Y row) (hr: ∀ r,row=some r→ ∃ o:Obj,X.heap[r]? =some o∧o.isCells=false):RowsF Y B A n c L:=by
 obtain⟨vs,h1,h2,h4,h3⟩:=h
 refine⟨vs,zKt h1 hg hr,h2,h4,fun k l hl=> ?_⟩
 obtain⟨D,d,e,hs,hd⟩:=h3 k l hl
 exact⟨D,d,e,zKt hs hg hr,hd⟩
theorem zeroLL:(Tryz.prog.info? 29).bind (·.zero)=some (.slice none 0 0):=by kernel_rfl
theorem zMu:vJ Tryz.prog 165:=uZ Tryz.func165 (by kernel_rfl) rfl
attribute [local irreducible] zAW sect shB zEN zAd zCo
attribute [local go_sem] Oper.semAt_some
set_option maxRecDepth 100000 in
theorem shown_any (F:FC) (hF:F.shaped) (s1 s2 sd:Value) (a b p:Nat) (hw:F.wd=a) (hh:F.hi=b) (hp:F.pt=p) (a1:1≤a) (a2:a≤64) (b1:1≤b) (b2:b≤64) (hp13:p=1∨p=3) (A:Option Addr) (m c:Nat) (X:List Int) (hm:m=p*yY a b) (w:World) (hs:SL w 64 (.slice A m c) m (ints X)) :
 Calls Tryz.prog 57 #[.agg (F.cells s1 s2 sd),.slice A m c] w (PicIs a b (zCo F.qs X a b p) w):=by
 have HF:=zA (fun W g (h:Blk W g 47 (F.cells s1 s2 sd))=>zBg h hF.1 (zS _ _ hF.2.1) (zS _ _ hF.2.2))
 have hts:=zA (FC.size hF s1 s2 sd)
 have hq:=hF.1
 rw[hw,hh,hp] at HF
 generalize F.qs=q at *
 generalize F.cells s1 s2 sd=fv at *
 have hcm:m≤c:=by obtain⟨_,_,e,h1,_⟩:=hs;injection e with _ e2 e3;omega
 have hXl:X.length=m*64:=by obtain⟨_,_,_,_,_,h1,_⟩:=hs;simpa [ints] using h1
 have HJ:=zA (fun k v W h=>join_show q X a b a1 a2 b1 b2 k v W h)
 have HT:=zA (fun W B hB A n c h=>turn_show q X a b p a2 b2 hp13 W B hB A n c h)
 unfold TurnF at HT
 have HU:Hid (∀ (P:List Int) W,P.length=64→Calls Tryz.prog 112 #[.agg (bv P),.agg (ints q).toArray] W fun e w'=>e=.returned (.tuple #[.agg (bv (jF upF P q 2047).1),.int .i64 (jF upF P q 2047).2])∧Ext W w'):=zA (fun P W h=>up_any P q W h hq)
 have HWV:=zA (fun (P:List Int) W (h:P.length=64)=>zNU P W h)
 have HPF:Hid (∀ PL:Nat→List Int,zEN q X a b=PL→(List.finRange p).map (fun x:Fin p=>PL x.1)=zAd q X a b p):=zA (fun PL h=>by rw[←h];exact finPlanes q X a b p)
 have HL:=zA (fun k=>zJQ q X a b k)
 have hab:a*b≤4096:=wI3 a2 b2
 have hn1:1≤yY a b:=cutN_pos a1 b1
 have hn64:=zEt a2 b2
 have hp3:p≤3:=by omega
 have HQ64:=zA hq
 have hqs:(ints q).length=64:=by rw[zY,hq]
 generalize zCo q X a b p=SZ at *
 generalize hPZ:zAd q X a b p=PZ at *
 have HPF:=zA (HPF.out _ rfl)
 generalize hPl:zEN q X a b=PL at *
 generalize yY a b=n at *
 have hpn:p*n≤192:=wD1 (wI3 hp3 hn64) (by omega)
 have HMN:=zA hm
 have hm192:m≤192:=by omega
 clear hm
 have hpn0:(yX a b (.slice none 0 0)).size=3:=rfl
 have HPB:=zA (builtPicS a b)
 have HP1:=zA (fun A n c=>zEC a b A n c)
 have HPC:=zA (fun (W:World) g v (h:Blk W g 31 (yX a b v))=>zAl h)
 have HPSZ:=zA (fun v=>vC a b v)
 have HPSET:=zA (fun u v=>picV_set a b u v)
 have HZP:=zFg
 have hz0s:Hid ((Value.agg (yX 0 0 (.slice none 0 0))).cells.size=3):=zA rfl
 obtain⟨pz,hpz⟩: ∃ pz,yX 0 0 (.slice none 0 0)=pz:=⟨_,rfl⟩
 rw[hpz] at HZP hz0s
 obtain⟨pic,hpic⟩: ∃ pic:Value→Array Value,pic=yX a b:=⟨_,rfl⟩
 have HRET:Hid (∀ W B k d,RowsF W w.heap.size B k d SZ→Ext w W→PicIs a b SZ w (.returned (.agg (pic (.slice B k d)))) W):=zA (fun W B k d h hx=>⟨B,k,d,by rw[hpic],h,hx⟩)
 rw[←hpic] at hpn0 HPB HP1 HPC HPSZ HPSET
 clear hw hh hp hF hpz hpic hPZ hPl
 have hm1:1≤m:=by rw[HMN.out];exact wI3 (show 1≤p by omega) hn1
 have hsub0:=hs
 obtain⟨ad,hA,hadb⟩: ∃ ad,A=some ad∧ad.block<w.heap.size:=by
  obtain⟨A',c',e,_,_,_,h4⟩:=hs
  injection e with e1 e2 e3
  subst e1
  obtain⟨ad,ea,hb, -⟩:=h4 (by omega)
  exact⟨ad,ea,hb⟩
 subst hA
 clear hsub0
 have HDV:Hid (m/p=n):=zA (by rw[HMN.out];exact Nat.mul_div_cancel_left n (by omega))
 have HCH:=zA (fun W=>chunk_any (some ad) m c n hn1 W)
 refine (callsIn_wide (n:=8)).1 ?_
 refine callsIn_of_wp_marks Tryz.func57 rfl trivial ?_ rfl
 simp only[Tryz.ntmps57,List.size_toArray,wA8,wL7,Nat.reduceAdd,Nat.reduceSub,Array.replicate_succ,Array.replicate_zero,List.push_toArray,wP3,wK7,wK6]
 refine wpIn_wide.2 ?_
 go_wp2_with (first
  | ((with_reducible apply gS 2);refine wBox rfl 47 (.tmp 0) rfl fv rfl ?_;intro w1 gf hb1 hx1 hgf;have hf1:=HF.out _ _ hb1)
  | ((with_reducible apply gS 4);refine wAlo' rfl (some 4) rfl 31 rfl _ HZP ?_;intro w2 gr hr2 hx2 hgr;have hb2:=hb1.ext hx2;have hf2:=HF.out _ _ hb2;have hx12:=hx1.trans hx2)
  | ((with_reducible apply gS 16);refine yW rfl (.int .i64 (a:Int)) (zQ rfl rfl hf2.c0) ?_)
  | ((with_reducible apply gS 18);refine yW rfl (.int .i64 (b:Int)) (zQ rfl rfl hf2.c1) ?_)
  | ((with_reducible apply gS 19);refine wpList_buildTo rfl 31 _ rfl (some 19) rfl (pic (.slice none 0 0)) (by simp only[wC7,wC8,wC9];exact HPB.out) ?_)
  | ((with_reducible apply gS 5);refine wAlo' rfl (some 5) rfl 31 rfl _ HZP ?_;intro w3 gp hp3' hx3 hgp)
  | ((with_reducible apply gT 5 19);refine wStB rfl 31 (.tmp 5) (.tmp 19) rfl gp (pic (.slice none 0 0)) rfl rfl hp3' 3 jL hpn0 hz0s.out (HP1.out _ _ _) ?_;intro w4 hp4 hg4;have hx24:=hx3.grown hg4 hgp;have hb4:=hb2.ext hx24;have hr4:=hr2.ext hx24;have hx14:=hx12.trans hx24)
  | ((with_reducible apply gS 6);refine wAlo' rfl (some 6) rfl 29 rfl _ zeroLL ?_;intro w5 g6 hb65 hx5 hg6;have hb5:=hb4.ext hx5;have hr5:=hr4.ext hx5;have hp5:=hp4.ext hx5;have hf5:=HF.out _ _ hb5;have hx15:=hx14.trans hx5)
  | ((with_reducible apply gS 24);refine yW rfl (.int .i64 (p:Int)) (zQ rfl rfl hf5.c2) ?_)
  | ((with_reducible apply gS 25);refine zB rfl (.int .i64 (n:Int)) (by rw[←HDV.out];exact zHl (i:=m) (d:=p) rfl rfl rfl (by omega) (by omega)) ?_)
  | (go_at_call 111;(with_reducible refine (HCH.out _).mono ?_);rintro e w6 ⟨g1,g2,rfl,hc16,hc26,hg1,hg2,hx6⟩;have hb6:=hb5.ext hx6;have hr6:=hr5.ext hx6;have hp6:=hp5.ext hx6;have hb66:=hb65.ext hx6;have hx16:=hx15.trans hx6))
 have hgp0:w.heap.size≤gp:=by have:=hx12.size;omega
 have hgr0:w.heap.size≤gr:=by have:=hx1.size;omega
 have hg60:w.heap.size≤g6:=by have:=hx14.size;omega
 have hgpB:gp<w5.heap.size:=hp5.lt
 have hgfB:gf<w5.heap.size:=hb5.lt
 have hgrB:gr<w5.heap.size:=hr5.lt
 have hg6B:g6<w5.heap.size:=hb65.lt
 have hgfp:gf≠gp:=by have:=hb2.lt;omega
 have hgrp:gr≠gp:=by have:=hr2.lt;omega
 have hgf6:gf≠g6:=by have:=hb4.lt;omega
 have hgr6:gr≠g6:=by have:=hr4.lt;omega
 have hgp6:gp≠g6:=by have:=hp4.lt;omega
 have h56:w5.heap.size≤w6.heap.size:=hx6.size
 have hgf0:w.heap.size≤gf:=hgf
 obtain⟨I,hIe⟩: ∃ I:List (Fin p)→World→Prop,I=fun pre W=> ∃ v,PartsAt W w5.heap.size v (pre.map fun x=>PL x.1)∧Blk W g6 29 #[v]∧Blk W gf 47 fv∧Blk W gp 31 (pic (.slice none 0 0))∧Blk W gr 31 pz∧Blk W g1 25 #[.slice (some ad) m c]∧Blk W g2 3 #[.int .i64 (n:Int)]∧Ext w W∧w6.heap.size≤W.heap.size:=⟨_,rfl⟩
 have HIe:=zA hIe
 clear hIe
 have hI:OwnFrom w6.heap.size I:=by
  rw[HIe.out]
  rintro s U V row ⟨v,q1,q2,q3,q4,q5,q6,q7,q8,q9⟩ hg hr
  have hr': ∀ r,row=some r→ ∃ o:Obj,U.heap[r]? =some o∧o.isCells=false:=fun r e=>(hr r e).2
  exact⟨v,zQC q1 hg hr',zDF q2 hg hr',zDF q3 hg hr',zDF q4 hg hr',zDF q5 hg hr',zDF q6 hg hr',zDF q7 hg hr',Below.grown q8 hg q8.size (fun y hy=>by have:=(hr y hy).1;have:=hx16.size;omega),wD1 q9 hg.size⟩
 have hI0:I [] w6:=by
  rw[HIe.out]
  exact⟨.slice none 0 0,PartsAt.nil _ _,hb66,hb6,hp6,hr6,hc16,hc26,hx16,wA5 _⟩
 have hKb: ∀ (W:World) (l:Nat) (o o':Obj),w6.heap.size≤l→W.heap[l]? =some o→o.isCells=false→o.isWalk=false→KpC w.heap.size g1 g2 W (W.putObj l o'):=fun W l o o' hl ho hc hw =>
  ⟨belowK_b hx16.size W l o o' hl ho hc hw,World.putObj_heap_other (by have:=hc16.lt;omega),World.putObj_heap_other (by have:=hc26.lt;omega)⟩
 refine range_one (n:=8) (p:=27) (q:=7) rfl zMu (enc:=fun x:Fin p=>zEj ad n x.1) (zPe 7 g1 g2 w.heap.size ad m c n p hn1 HMN.out hcm (by omega) w6 hc16 hc26) (by omega) KpC.trans hKb (Below.refl _ _) I hI hI0 ?assign ?body ?done
 case assign =>
  intro l x W K hK
  simp only[wM3,wM4,wF9] at hK ⊢
  gi_wp2
  exact hK
 case done =>
  intro D xs W hD hS hi hdef
  subst hS
  rw[HIe.out] at hi
  obtain⟨v,hpa,hb6w,hbw,hpw,hrw, -, -,hxw,hszw⟩:=hi
  rw[HPF.out] at hpa
  obtain⟨PA,pc,rfl⟩:=hpa.form
  generalize hnp:PZ.length=np at *
  have hc6:W.cell? ⟨g6,0,none⟩=some (.slice PA np pc):=hb6w.cell 0
  have HTZ:=zA (HT.out W w5.heap.size (by omega) PA np pc hpa)
  have hDlt:D<W.heap.size:=(wB6.1 hdef).1
  go_wp2_with (first
   | ((with_reducible apply gS 78);refine yW rfl (.slice PA np pc) (zDb rfl rfl hc6) ?_)
   | (go_at_call 38;(with_reducible refine HTZ.out.mono ?_);rintro e w16 ⟨TB,tk,td,rfl,hrows,hx16'⟩;have hp16:=hpw.ext hx16';have hr16:=hrw.ext hx16';have hdef16:=(hx16'.block D hDlt).trans hdef)
   | ((with_reducible apply gT 80 79);refine zKL rfl (.tmp 80) (.tmp 79) rfl gp 2 TB tk td rfl rfl hp16 (by rw[HPSZ.out];omega) ?_;have hU:=(Upd.refl (fun x=>x=gp) w16).setCell (p:=⟨gp,2,none⟩) rfl (.slice TB tk td);have hpbz:=hp16.set_ 2 (.slice TB tk td);rw[HPSET.out] at hpbz;have hrz:=hU.blk hr16 (fun e=>hgrp e);have hrows7:=hrows.upd hU (fun x e=>by omega);have hx7:=(hxw.trans hx16').setCell (p:=⟨gp,2,none⟩) hgp0 (.slice TB tk td);have hdef17:=(hU.block D (by have:=hx16'.size;omega) (fun e=>by omega)).trans hdef16;generalize w16.setCell ⟨gp,2,none⟩ (.slice TB tk td)=w7 at *)
   | ((with_reducible apply gS 81);refine wLdB rfl 31 (.tmp 5) rfl gp rfl hpbz _ Tryz.underlying31 rfl 3 jL (HPSZ.out _) ?_)
   | ((with_reducible apply gT 4 81);refine wStB rfl 31 (.tmp 4) (.tmp 81) rfl gr (pic (.slice TB tk td)) rfl rfl hrz 3 jL (HPSZ.out _) hz0s.out (HP1.out _ _ _) ?_;intro w8 hb8 hg8;have hU8:=zL hg8;have hrows8:=hrows7.upd hU8 (fun x e=>by injection e with e;omega);have hx8:=hx7.grown hg8 hgr0;have hdef18:=(hU8.block D (wB6.1 hdef17).1 (fun e=>by injection e with e;omega)).trans hdef17))
  refine⟨by simp,.inl ⟨_,_,rfl,run_takeDeferred hdef18, ?_⟩⟩
  have hUd:Upd (fun x=>x=D) w8 (w8.putObj D (.deferred none)):=(zL (grownBy_putObj' w8 D (.deferred none))).mono_ (fun x e=>by injection e with e;exact e.symm)
  have hb9:=hUd.blk hb8 (fun e=>by omega)
  have hgd: ∀ r,some D=some r→ ∃ o:Obj,w8.heap[r]? =some o∧o.isCells=false:=fun r e=>by cases e;exact⟨_,hdef18,rfl⟩
  have hrows9:=rows_kept (hrows8.mono (show w.heap.size≤w5.heap.size by omega)) (grownBy_putObj' w8 D (.deferred none)) hgd
  have hx9:=hUd.ext hx8 (fun x e=>by rw[e];have:=hx16.size;omega)
  exact⟨_,results_cell_row rfl _ _ gr _ _ (0,0) _ rfl hb9 Tryz.underlying31 rfl (by rw[HPSZ.out];exact jL),HRET.out _ _ _ _ hrows9 hx9⟩
 case body =>
  intro l pre x W hi hlt
  simp only[wM3,wM4,wF9]
  rw[HIe.out] at hi
  obtain⟨v,hpa,hb6w,hbw,hpw,hrw,hc1w,hc2w,hxw,hszw⟩:=hi
  obtain⟨k,hkp⟩:=x
  obtain⟨hsub,hYl⟩:=part_sl hs HMN.out hkp hn1 (by omega) hcm hXl
  have HJk:=zA (HJ.out k)
  obtain⟨cd,hcd⟩: ∃ cd,ad.add (k*n*64)=cd:=⟨_,rfl⟩
  have hpv:zEj ad n k=.slice (some cd) n n:=by unfold zEj;rw[hcd]
  dsimp only
  rw[hpv]
  rw[hcd] at hsub
  have hsubH:=zA (hsub.ext hxw)
  generalize sect X n k=Y at *
  clear hcd hpv hsub
  refine wpIn_block ?_
  refine wpIn_seq_k fun K0 hK0=> ?_
  refine qT (fun ⟨_,_,h⟩=>h) (by rfl) ?_
  go_wp2_with (first
   | ((with_reducible apply gS 30);refine zDg rfl (some 30) rfl _ _ rfl n (by omega) rfl rfl ?_;intro w7 gB hbB hx7 hgB))
  have hbB0:Blk w7 gB 33 (bv (zAW q Y 0++List.replicate ((n-0)*64) 0)):=by unfold zAW;simpa using hbB
  refine wpIn_seq_k fun K1 hK1=> ?_
  refine wpIn_seq_k fun K2 hK2=> ?_
  refine qT (fun ⟨_,_,h⟩=>h) (by rfl) ?_
  go_wp2_with fail
  refine wpIn_block ?_
  gi_loopw [33] (fun iv wr=> ∃ j:Nat,j≤n∧iv=.int .i64 (j:Int)∧Blk wr gB 33 (bv (zAW q Y j++List.replicate ((n-j)*64) 0))∧Ext W wr) (fun iv _=>n-(intOf iv).toNat)
  case atStart=>exact⟨0,by omega,rfl,hbB0,hx7⟩
  case round =>
   clear hbB hbB0
   obtain⟨j,hj,rfl,hbj,hxj⟩:=hrel
   obtain⟨w0,rfl⟩: ∃ w0,w0=wr:=⟨_,rfl⟩
   by_cases hjn:j<n
   ·obtain⟨bd,hbd,hbb,hca⟩:=(hsubH.out.ext hxj).part hjn
    have hca':=zNF hca
    injection hbd with hbd
    subst hbd
    have hpl:(jV Y j).length=64:=by unfold jV;rw[wI4,wJ4,hYl];omega
    have HMS:Hid (zAW q Y (j+1)=zAW q Y j++shB (jV Y j) q):=zA (by rw[zAW])
    have HSB:Hid (shB (jV Y j) q=zBX (vD frC (jF upF (jV Y j) q 2047).1).1):=zA (by unfold shB;rfl)
    generalize jV Y j=P at *
    have HUP:=zA (fun W=>HU.out P W hpl)
    have hul:=zEZ upF P q 2047 hpl HQ64.out
    have HWP:=zA (fun W=>HWV.out (jF upF P q 2047).1 W hul)
    have hwl:=zCU frC (jF upF P q 2047).1
    generalize (vD frC (jF upF P q 2047).1).2=ew at *
    generalize (vD frC (jF upF P q 2047).1).1=P3 at *
    generalize (jF upF P q 2047).2=eu at *
    generalize (jF upF P q 2047).1=P2 at *
    rw[HSB.out] at HMS
    clear hca HSB
    have s1:=zA ((zJ P).trans hpl)
    have s2:=zA ((zJ P2).trans hul)
    have s3:=zA ((zJ P3).trans hwl)
    have o1:=zA (xB P)
    have o2:=zA (xB P2)
    have o3:=zA (xB P3)
    have hipl:(ints P).length=64:=by rw[zY,hpl]
    have hzs:Hid ((Value.agg (bv zeros64)).cells.size=64):=zA zero48c
    have hbz:=hbw.ext hxj
    have hltj:decide ((j:Int)<(n:Int))=true:=by rw[wB3];omega
    refine wpIn_seq_k fun K3 hK3=> ?_
    refine qT (fun ⟨_,_,h⟩=>h) (by rfl) ?_
    go_wp2_with (first
     | ((with_reducible apply gS 34);refine zB rfl (.bool true) (zR rfl rfl rfl hltj) ?_))
    refine wpIn_seq_k fun K4 hK4=> ?_
    refine wpIn_cond_true rfl (wpIn_skip (hK4 _ _ ?_))
    refine wpIn_seq_k fun K5 hK5=> ?_
    refine wpIn_block ?_
    refine wpIn_seq_k fun K6 hK6=> ?_
    refine qT (fun ⟨_,_,h⟩=>h) (by rfl) ?_
    go_wp2_with (first
     | ((with_reducible apply gS 36);refine zB rfl (.pointer (some (cd.add (j*64)))) (jG (i:=j) Tryz.underlying25 zF rfl rfl rfl hjn) ?_)
     | ((with_reducible apply gS 37);refine yL (by rfl) 33 (.tmp 36) rfl (cd.add (j*64)) rfl (ints P) _ hca' Tryz.underlying33 rfl (by rw[hipl];exact zF) ?_)
     | ((with_reducible apply gS 10);refine wAlo' rfl (some 10) rfl 33 rfl _ qN ?_;intro w8 g8 hb8 hx8 hg8)
     | ((with_reducible apply gT 10 37);refine wStB rfl 33 (.tmp 10) (.tmp 37) rfl g8 (bv P) rfl rfl hb8 64 zF s1.out hzs.out o1.out ?_;intro w9 hb9 hg9;have hx9:=hx8.grown hg9 hg8;have hbz9:=hbz.ext hx9;have hf9:=HF.out _ _ hbz9))
    refine wpIn_seq_k fun K7 hK7=> ?_
    refine qT (fun ⟨_,_,h⟩=>h) (by rfl) ?_
    go_wp2_with (first
     | ((with_reducible apply gS 39);refine wLdB rfl 33 (.tmp 10) rfl g8 rfl hb9 _ Tryz.underlying33 rfl 64 zF s1.out ?_)
     | ((with_reducible apply gS 41);refine wpList_load_mid rfl 33 (.tmp 40) rfl gf 3 rfl (ints q) _ hf9.q Tryz.underlying33 rfl (by rw[hqs];exact zF) ?_)
     | (go_at_call 112;(with_reducible refine (HUP.out _).mono ?_);rintro e w10 ⟨rfl,hx10⟩;have hxa:=hx9.trans hx10;have hb10:=hb9.ext hx10)
     | ((with_reducible apply gT 10 43);refine wStB rfl 33 (.tmp 10) (.tmp 43) rfl g8 (bv P2) rfl rfl hb10 64 zF s2.out s1.out o2.out ?_;intro w11 hb11 hg11;have hxb:=hxa.grown hg11 hg8))
    refine wpIn_seq_k fun K8 hK8=> ?_
    refine qT (fun ⟨_,_,h⟩=>h) (by rfl) ?_
    go_wp2_with (first
     | ((with_reducible apply gS 46);refine wLdB rfl 33 (.tmp 10) rfl g8 rfl hb11 _ Tryz.underlying33 rfl 64 zF s2.out ?_)
     | (go_at_call 113;(with_reducible refine (HWP.out _).mono ?_);rintro e w12 ⟨rfl,hx12'⟩;have hxc:=hxb.trans hx12';have hb12:=hb11.ext hx12')
     | ((with_reducible apply gT 10 48);refine wStB rfl 33 (.tmp 10) (.tmp 48) rfl g8 (bv P3) rfl rfl hb12 64 zF s3.out s2.out o3.out ?_;intro w13 hb13 hg13;have hxd:=hxc.grown hg13 hg8))
    refine wpIn_seq_k fun K9 hK9=> ?_
    refine wpIn_seq_k fun K10 hK10=> ?_
    refine qT (fun ⟨_,_,h⟩=>h) (by rfl) ?_
    go_wp2_with (first
     | ((with_reducible apply gS 50);refine wLdB rfl 33 (.tmp 10) rfl g8 rfl hb13 _ Tryz.underlying33 rfl 64 zF s3.out ?_))
    refine wpIn_block ?_
    have hc0:Blk w13 g8 33 (bv (zAN P3 0)):=by rw[clampM_0];exact hb13
    clear hb8 hx8 hb9 hx9 hg9 hbz9 hf9 hx10 hxa hb10 hb11 hg11 hxb hx12' hxc hb12 hb13 hg13 hca'
    gi_loopw [51] (fun iv wi=> ∃ i:Nat,i≤64∧iv=.int .i64 (i:Int)∧Blk wi g8 33 (bv (zAN P3 i))∧Ext w0 wi) (fun iv _=>64-(intOf iv).toNat)
    case atStart=>exact⟨0,by omega,rfl,hc0,hxd⟩
    case round =>
     clear hc0 hxd
     obtain⟨i,hi,rfl,hbi,hxi⟩:=hrel
     obtain⟨wi,rfl⟩: ∃ wi,wi=wr:=⟨_,rfl⟩
     by_cases hi64:i<64
     ·have hlti:decide ((i:Int)<64)=true:=by rw[wB3];omega
      refine wpIn_seq_k fun K11 hK11=> ?_
      refine qT (fun ⟨_,_,h⟩=>h) (by rfl) ?_
      go_wp2_with (first
       | ((with_reducible apply gS 52);refine zB rfl (.bool true) (zR rfl rfl rfl hlti) ?_))
      refine wpIn_seq_k fun K12 hK12=> ?_
      refine wpIn_cond_true rfl (wpIn_skip (hK12 _ _ ?_))
      obtain⟨z,hz⟩: ∃ z,P3[i]? =some z:=⟨P3[i]'(by omega),wA2 (by omega)⟩
      have hz3:=bv_get hz
      have hsz:i<(bv (zAN P3 i)).size:=by rw[zJ,zQd P3 i hwl hi];exact hi64
      have hset:=zA (by rw[vH,zRF P3 i z hz]:(bv (zAN P3 i)).setIfInBounds i (.int .i64 (qZ z (-40000) 40000))=bv (zAN P3 (i+1)))
      have HCL:=zA (fun W=>zFa z 40000 W (by omega) (by omega))
      generalize qZ z (-40000) 40000=cz at *
      generalize bv (zAN P3 i)=c0 at *
      obtain⟨c1,hc1⟩: ∃ c1,bv (zAN P3 (i+1))=c1:=⟨_,rfl⟩
      rw[hc1] at hset
      have HC1:=zA hc1
      clear hc1
      refine wpIn_seq_k fun K13 hK13=> ?_
      refine wpIn_block ?_
      refine wpIn_seq_k fun K14 hK14=> ?_
      refine qT (fun ⟨_,_,h⟩=>h) (by rfl) ?_
      go_wp2_with (first
       | ((with_reducible apply gS 54);refine zB rfl (.int .i64 z) (ex_idx Tryz.underlying33 Tryz.underlying3 qV rfl (cs:=bv P3) (i:=i) rfl rfl hi64 hz3) ?_))
      refine qT (fun ⟨_,_,h⟩=>h) (by rfl) ?_
      go_wp2_with (first
       | (go_at_call 96;(with_reducible refine (HCL.out _).mono ?_);rintro e w9 ⟨rfl,rfl⟩)
       | ((with_reducible apply gS 58);refine zB rfl (.pointer (some ⟨g8,i,none⟩)) (zGz Tryz.underlying33 qV rfl rfl rfl hi64) ?_)
       | ((with_reducible apply gT 58 57);refine uI rfl (.tmp 58) (.tmp 57) rfl g8 i cz rfl rfl hbi hsz ?_))
      have hbn:=hbi.set_ i (.int .i64 cz)
      rw[hset.out] at hbn
      have hxn:=hxi.setCell (p:=⟨g8,i,none⟩) hg8 (.int .i64 cz)
      refine qT (fun ⟨_,_,h⟩=>h) (by rfl) ?_
      go_wp2_with fail
      try simp only[Act.put]
      go_roundw
      case rel=>exact⟨i+1,by omega,by go_num,by rw[HC1.out];exact hbn,hxn⟩
      case measure=>simp[intOf];omega
     ·obtain rfl:i=64:=by omega
      have hlti:decide (((64:Nat):Int)<64)=false:=by decide
      rw[zRH P3 hwl] at hbi
      have hcl:(zBX P3).length=64:=by rw[zDk,hwl]
      generalize zBX P3=P4 at *
      have s4:=zA ((zJ P4).trans hcl)
      have hms:(ints (zAW q Y j)).length=j*64:=by rw[zY,zGH]
      have hbj':Blk wi gB 33 (ints (zAW q Y j)++(ints (List.replicate 64 0)++ints (List.replicate ((n-(j+1))*64) 0))).toArray:=by
       have e:bv (zAW q Y j++List.replicate ((n-j)*64) 0)=(ints (zAW q Y j)++(ints (List.replicate 64 0)++ints (List.replicate ((n-(j+1))*64) 0))).toArray:=by
        have e1:List.replicate ((n-j)*64) (0:Int)=List.replicate 64 0++List.replicate ((n-(j+1))*64) 0:=by
         rw[wQ0]
         congr 1
         omega
        unfold bv
        rw[e1,uQ,uQ]
       rw[←e]
       exact hbj.ext hxi
      have H4:Hid (bv P4=(ints P4).toArray):=zA rfl
      refine wpIn_seq_k fun K11 hK11=> ?_
      refine qT (fun ⟨_,_,h⟩=>h) (by rfl) ?_
      go_wp2_with (first
       | ((with_reducible apply gS 52);refine zB rfl (.bool false) (zR rfl rfl rfl hlti) ?_))
      refine wpIn_seq_k fun K12 hK12=> ?_
      refine wpIn_cond_false rfl (wpIn_exit ?_)
      simp only[Exit.then,Exit.inBlock, ↓reduceIte,Nat.reduceEqDiff]
      refine hK9 _ _ ?_
      refine qT (fun ⟨_,_,h⟩=>h) (by rfl) ?_
      go_wp2_with (first
       | ((with_reducible apply gS 62);refine wLdB rfl 33 (.tmp 10) rfl g8 rfl hbi _ Tryz.underlying33 rfl 64 zF s4.out ?_)
       | ((with_reducible apply gS 63);refine zB rfl (.pointer (some ⟨gB,j*64,none⟩)) (ex_ixB rfl rfl rfl hjn) ?_)
       | ((with_reducible apply gT 63 62);refine vB rfl 33 (.tmp 63) (.tmp 62) rfl gB (j*64) (ints P4) rfl (by first | rfl | exact congrArg Value.agg H4.out) hbj' hms (by rw[zY,zY,hcl];simp) (by rw[zY,hcl];exact zF) (qR P4) ?_;intro w15 hb15 hu15))
      have hbn:Blk w15 gB 33 (bv (zAW q Y (j+1)++List.replicate ((n-(j+1))*64) 0)):=by
       have e:bv (zAW q Y (j+1)++List.replicate ((n-(j+1))*64) 0)=(ints (zAW q Y j)++(ints P4++ints (List.replicate ((n-(j+1))*64) 0))).toArray:=by
        unfold bv
        rw[HMS.out,uQ,uQ,wG0]
       rw[e]
       exact hb15
      have hxn:=hu15.ext (hxj.trans hxi) (fun x e=>by rw[e];exact hgB)
      refine qT (fun ⟨_,_,h⟩=>h) (by rfl) ?_
      go_wp2_with fail
      go_roundw
      case rel=>exact⟨j+1,by omega,by go_num,hbn,hxn⟩
      case measure=>simp[intOf];omega
   ·obtain rfl:j=n:=by omega
    have hltj:decide ((j:Int)<(j:Int))=false:=by rw[decide_eq_false_iff_not];omega
    rw[wF7,Nat.zero_mul,wN4,wG3] at hbj
    have hob:SL w0 64 (.slice (some ⟨gB,0,none⟩) j j) j (ints (zAW q Y j)):=by
     have:=hbj.sl (size:=64) (n:=j) (c:=j) (by rw[zJ,zGH]) (wA5 _) (by omega)
     simpa [bv] using this
    have hJ0:=zA (HJk.out (.slice (some ⟨gB,0,none⟩) j j) w0 hob)
    have hbz:=hbw.ext hxj
    have hfz:=HF.out _ _ hbz
    have hb6z:=hb6w.ext hxj
    obtain⟨PA,pc,rfl⟩:=hpa.form
    simp only[wO3] at hpa hb6z hb6w
    have hnp:pre.length<p:=hlt
    have hpaz:=hpa.ext hxj
    have hL1:(PL k).length=a*b:=HL.out k
    obtain⟨vsW,hovW, -, -⟩:=hpa.own
    generalize hplk:PL k=pl at *
    generalize hnpl:pre.length=np at *
    refine wpIn_seq_k fun K3 hK3=> ?_
    refine qT (fun ⟨_,_,h⟩=>h) (by rfl) ?_
    go_wp2_with (first
     | ((with_reducible apply gS 34);refine zB rfl (.bool false) (zR rfl rfl rfl hltj) ?_))
    refine wpIn_seq_k fun K4 hK4=> ?_
    refine wpIn_cond_false rfl (wpIn_exit ?_)
    simp only[Exit.then,Exit.inBlock, ↓reduceIte,Nat.reduceEqDiff]
    refine hK1 _ _ ?_
    refine wpIn_seq_k fun K20 hK20=> ?_
    refine qT (fun ⟨_,_,h⟩=>h) (by rfl) ?_
    go_wp2_with (first
     | ((with_reducible apply gS 68);refine yW rfl (.int .i64 (a:Int)) (zQ rfl rfl hfz.c0) ?_)
     | ((with_reducible apply gS 70);refine yW rfl (.int .i64 (b:Int)) (zQ rfl rfl hfz.c1) ?_)
     | (go_at_call 114;(with_reducible refine hJ0.out.mono ?_);rintro e w16 ⟨D,d,rfl,hD,hx16',hDf⟩;have hb616:=hb6z.ext hx16';have hpa16:=hpaz.ext hx16';have hxW16:=hxj.trans hx16';have hc616:w16.cell? ⟨g6,0,none⟩=some (.slice PA np pc):=hb616.cell 0))
    refine qT (fun ⟨_,_,h⟩=>h) (by rfl) ?_
    go_wp2_with (first
     | ((with_reducible apply gS 74);refine yW rfl (.slice PA np pc) (zDb rfl rfl hc616) ?_)
     | ((with_reducible apply gS 76);refine wLit1 rfl 29 22 (.tmp 75) rfl (some 76) rfl Tryz.underlying29 1 uT (by kernel_rfl) (.slice D (a*b) d) rfl rfl (by omega) (by omega) ?_;intro w17 g17 hb17 hx17 hg17;have hpa17:=hpa16.ext hx17;have hb617:=hb616.ext hx17;have hxW17:=hxW16.trans hx17;obtain⟨vs,hov, -,hnext⟩:=hpa17.own)
     | ((with_reducible apply gS 77);refine wApf elt_rowS rfl (.tmp 74) (.tmp 76) rfl w5.heap.size (.slice PA np pc) np vs rfl hov _ 1 [.slice D (a*b) d] rfl (hb17.sl (size:=1) (n:=1) (c:=1) rfl (by omega) (by omega)) (by simp[Value.oneCell']) (by omega) (by omega) (by have:=hxW17.size;omega) ?_;intro A9 c9 w19 ho9 hg9 hr9;have hu9:=zL hg9;have hb619:=hu9.blk hb617 (fun q=>by have:=(hov.lt _ q).1;omega))
     | ((with_reducible apply gT 6 77);refine zKL rfl (.tmp 6) (.tmp 77) rfl g6 0 A9 (np+1) c9 rfl rfl hb619 (by simp) ?_))
    have hD7:=hD.ext hx17
    have hWw0:=hxj.size
    have hpn9:=hnext A9 c9 w19 pl D d (by rw[hL1];exact ho9) hg9 hr9 (by rw[hL1];exact hD7) (fun ad' e=>by
     have h1:=hDf ad' e
     subst e
     obtain⟨_,_,e2, -, -,h5,h6⟩:=hD7
     obtain⟨ad2,e3,h7, -⟩:=h6 (Nat.mul_pos a1 b1)
     injection e2 with e2
     rw[←e2] at e3
     injection e3 with e3
     rw[←e3] at h7
     exact⟨by omega,h7,fun q=>by have:=(hovW.lt _ q).2;omega⟩)
    have hU19:Upd (fun x=>x=g6∨(Value.slice PA np pc).ownBlock=some x) W w19:=(Upd.of_ext hxW17).grown hg9 (fun b hb=>.inl (.inr hb))
    have hU:=hU19.setCell (p:=⟨g6,0,none⟩) (.inl rfl) (.slice A9 (np+1) c9)
    have hUs:=(Upd.refl (fun x=>x=g6) w19).setCell (p:=⟨g6,0,none⟩) rfl (.slice A9 (np+1) c9)
    have hpz:=hpn9.upd hUs (fun x e=>by omega)
    have hb6n:=hb619.set_ 0 (.slice A9 (np+1) c9)
    have hrow: ∀ x,(Value.slice PA np pc).ownBlock=some x→w5.heap.size≤x:=fun x h=>(hovW.lt x h).1
    have hw5:=hx15.size
    have hSB: ∀ x,(x=g6∨(Value.slice PA np pc).ownBlock=some x)→w.heap.size≤x:=fun x h=>by
     rcases h with h | h
     ·rw[h];exact hg60
     ·have:=hrow x h;omega
    have hS1: ¬(g1=g6∨(Value.slice PA np pc).ownBlock=some g1):=fun h=>by
     rcases h with h | h
     ·omega
     ·exact uV hovW hc1w (by decide) h.symm
    have hS2: ¬(g2=g6∨(Value.slice PA np pc).ownBlock=some g2):=fun h=>by
     rcases h with h | h
     ·omega
     ·exact uV hovW hc2w (by decide) h.symm
    have hSf: ∀ x,x<w5.heap.size→x≠g6→ ¬(x=g6∨(Value.slice PA np pc).ownBlock=some x):=fun x hx hne h=>by
     rcases h with h | h
     ·exact hne h
     ·have:=hrow x h;omega
    show KeepsFrom w6.heap.size W _∧KpC w.heap.size g1 g2 W _∧I (pre++[⟨k,hkp⟩]) _
    refine⟨zMi hU (fun x h=> ?_),⟨hU.below hSB hxw.size,hU.block g1 hc1w.lt hS1,hU.block g2 hc2w.lt hS2⟩, ?_⟩
    ·rcases h with h | h
     ·rw[h];exact⟨_,_,_,hb6w⟩
     ·obtain⟨cs,hcs⟩:=zCX hovW x h
      exact⟨_,_,_,hcs⟩
    ·rw[HIe.out]
     refine⟨.slice A9 (np+1) c9, ?_,hb6n,hU.blk hbw (hSf gf hgfB hgf6),hU.blk hpw (hSf gp hgpB hgp6),hU.blk hrw (hSf gr hgrB hgr6),hU.blk hc1w hS1,hU.blk hc2w hS2,hU.ext hxw hSB,wD1 hszw hU.size⟩
     have e:(pre++[(⟨k,hkp⟩:Fin p)]).map (fun x=>PL x.1)=pre.map (fun x=>PL x.1)++[pl]:=by rw[wH1,wC8,wC9,hplk]
     rw[e]
     exact hpz
end
def PdIs (E wd hi:Int) (L:List (List Int)) (w:World) (e:Ending) (w':World):Prop:= ∃ B k d,e=.returned (.tuple #[.agg (yX wd hi (.slice B k d)),.int .i64 E])∧RowsS w' B k d L∧Ext w w'
theorem rows_far {S:Nat→Prop} {w w':World} {B n c:Nat} {A:Option Addr} {L:List (List Int)} (h:RowsF w B A n c L) (hu:Upd S w w') (hS: ∀ x,S x→x<B):RowsS w' A n c L:=(h.upd hu hS).rows
theorem zLR:zAP Tryz.prog 56:=⟨_,Tryz.func56,rfl,rfl⟩
theorem zIi:zAP Tryz.prog 63:=⟨_,Tryz.func63,rfl,rfl⟩
theorem zML (F:FC) (hF:F.shaped) (s1 s2 sd:Value) (a b p nb m:Nat) (hw:F.wd=a) (hh:F.hi=b) (hp:F.pt=p) (a1:1≤a) (a2:a≤64) (b1:1≤b) (b2:b≤64) (hp13:p=1∨p=3) (hnb:yY a b=nb) (hm:nb*p=m) (w:World) :
 Calls Tryz.prog 56 #[.agg (F.cells s1 s2 sd)] w fun e w'=>e=.returned (.int .i64 (m:Int))∧Ext w w':=by
 have HF:=zA (fun W g (h:Blk W g 47 (F.cells s1 s2 sd))=>zBg h hF.1 (zS _ _ hF.2.1) (zS _ _ hF.2.2))
 rw[hw,hh,hp] at HF
 have hs0:=zNy a1 a2 b1 b2
 have HM:Hid (∀ W,Calls Tryz.prog 65 #[.int .i64 (a:Int),.int .i64 (b:Int)] W fun e w'=>e=.returned (.tuple #[.int .i64 (nb:Int),.int .i64 0])∧Ext W w'):=zA (fun W=>by
  have:=zEL a b W
  have e:zCD a b=(nb:Int):=by unfold zCD;rw[if_pos hs0, ←hnb];unfold yY;simp
  rw[e,hs0] at this
  exact this)
 have hn64:=zEt a2 b2
 rw[hnb] at hn64
 have HMN:=zA hm
 have hm192:m≤192:=by
  rw[←hm]
  exact wD1 (wI3 hn64 (show p≤3 by omega)) (by omega)
 generalize F.cells s1 s2 sd=fv at *
 clear hw hh hp hs0 hm hnb hF
 go_enter Tryz.func56,Tryz.ntmps56
 go_wp2_with (first
  | ((with_reducible apply gS 1);refine wBox rfl 47 (.tmp 0) rfl fv rfl ?_;intro w1 gf hb1 hx1 hgf;have hf1:=HF.out _ _ hb1)
  | ((with_reducible apply gS 7);refine yW rfl (.int .i64 (a:Int)) (zQ rfl rfl hf1.c0) ?_)
  | ((with_reducible apply gS 9);refine yW rfl (.int .i64 (b:Int)) (zQ rfl rfl hf1.c1) ?_)
  | (go_at_call 65;(with_reducible refine (HM.out _).mono ?_);rintro e w3 ⟨rfl,hx3⟩;have hf3:=HF.out _ _ (hb1.ext hx3))
  | ((with_reducible apply gS 15);refine yW rfl (.int .i64 (p:Int)) (zQ rfl rfl hf3.c2) ?_)
  | ((with_reducible apply gS 16);refine zB rfl (.int .i64 (m:Int)) (by rw[←HMN.out];exact zBd (i:=nb) (d:=p) rfl rfl rfl (by rw[HMN.out];omega)) ?_))
 go_ret
 exact⟨rfl,hx1.trans hx3⟩
theorem zPQ {wd hi pt:Int} {qs:List Int} {z1 z2 ev:Int} {n:Nat} (h:zDI wd hi pt qs z1 z2 ev n=0) :
 ∃ a b p:Nat,wd=a∧hi=b∧pt=p∧1≤a∧a≤64∧1≤b∧b≤64∧(p=1∨p=3)∧0≤ev∧ev≤100∧zN qs 1 255=true∧z1=0∧z2=0∧n≤90000:=by
 unfold zDI at h
 split at h
 ·rename_i hc
  simp only[wA9] at hc
  obtain⟨k1,k2,k3,hp⟩:=zFf hc.1
  rw[vF] at k1 k2 k3
  by_cases h1:z1=0
  ·rw[if_pos h1] at h
   by_cases h2:z2=0
   ·rw[if_pos h2] at h
    by_cases h3:90000<n
    ·rw[if_pos h3] at h;cases h
    ·exact⟨wd.toNat,hi.toNat,pt.toNat,by omega,by omega,by omega,by omega,by omega,by omega,by omega,by omega,k3.1,k3.2,hc.2,h1,h2,by omega⟩
   ·rw[if_neg h2] at h;exact absurd h h2
  ·rw[if_neg h1] at h;exact absurd h h1
 ·cases h
end Go.Proofs.YtkggcjdlpendfaaGreatDoor
