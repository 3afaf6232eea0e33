/- Contracts of the functions that the law reaches, part 36. -/
import Derived.Test.YtkggcjdlpendfaaGreatDoorMTopCoarseCard35
namespace Go.Proofs.YtkggcjdlpendfaaGreatDoor
set_option linter.unusedVariables false
set_option linter.unusedSimpArgs false
set_option maxRecDepth 20000
set_option maxHeartbeats 8000000
open Go.RowKit
section
theorem zQJ (W:World) (p:Addr) (A:Option Addr) (n c:Nat) (h:W.cell? p=some (.slice A n c)):(Instr.loadAt 29 (.pointer (some p))).run Tryz.prog W=.ok (.slice A n c) W:=by
 go_simp
theorem ex_loadRw {o:Oper} {a:Act} {x:Operand} (ho:o.op=.load 29 x) {p:Addr} (hx:a.eval x=.pointer (some p)) {A:Option Addr} {n c:Nat} {w:World} (h:w.cell? p=some (.slice A n c)):(execOp a.eval o).run Tryz.prog w=.ok (.value (.slice A n c)) w:=by
 simp[execOp,ho,hx,zQJ w p A n c h]
theorem ex_lenRw {o:Oper} {a:Act} {x:Operand} (ho:o.op=.call { callee:=.builtin .len,args:= #[x],argTypes:= #[29] }) {A:Option Addr} {n c:Nat} (hx:a.eval x=.slice A n c) (w:World):(execOp a.eval o).run Tryz.prog w=.ok (.value (.int .i64 (n:Int))) w:=by
 simp[execOp,ho,resolve,invoke,builtin,hx,Result.andThen,Builtin.len_,goInt]
theorem zLK {o:Oper} {a:Act} {x0 x1 x2 x3 x5 x4:Operand} (ho:o.op=.build 47 #[(0,x0),(1,x1),(2,x2),(3,x3),(5,x5),(4,x4)]) {v0 v1 v2 v3 v5 v4:Value} (h0:a.eval x0=v0) (h1:a.eval x1=v1) (h2:a.eval x2=v2) (h3:a.eval x3=v3) (h5:a.eval x5=v5) (h4:a.eval x4=v4)
 {cs:Array Value} (hf:Tryz.prog.built 47 [(0,v0),(1,v1),(2,v2),(3,v3),(5,v5),(4,v4)]=some cs) (w:World):(execOp a.eval o).run Tryz.prog w=.ok (.value (.agg cs)) w:=by
 simp only[execOp,ho,Sem.run_bind,run_build w 47 (#[(0,x0),(1,x1),(2,x2),(3,x3),(5,x5),(4,x4)].map fun (i,x)=>(i,a.eval x)) cs (by simpa [h0,h1,h2,h3,h4,h5] using hf),Result.andThen_ok,Sem.run_pure]
theorem zNc (wd hi pt ev:Int) (q cs1 cs2:List Int) {w:World} {s1 s2:Value} {n1 n2:Nat} {xs1 xs2:List Value} (h1:SL w 1 s1 n1 xs1) (h2:SL w 1 s2 n2 xs2):(yN wd hi pt q (zT cs1 s1) (zT cs2 s2) ev (.slice none 0 0)).toArray.all (·.oneCell')=true:=by
 obtain⟨A,c,rfl, -⟩:=h1
 obtain⟨B,d,rfl, -⟩:=h2
 exact zEA ⟨wd,hi,pt,q,cs1,[],cs2,[],ev,[]⟩ A B none _ _ _ _ _ _
theorem zCN {S:Nat→Prop} {w w':World} {sz n:Nat} {v:Value} {xs:List Value} (h:SL w sz v n xs) (hu:Upd S w w') (hS: ∀ b,v.ownBlock=some b→ ¬S b):SL w' sz v n xs:=by
 have h':=h
 obtain⟨A,c,rfl, -⟩:=h'
 exact SL.upd h hu (fun ad e=>hS ad.block (by rw[zBO,e];rfl))
theorem sl_old {w:World} {sz n g:Nat} {v:Value} {xs:List Value} (h:SL w sz v n xs) (hg:w.heap.size≤g):n=0∨ ∀ b,v.ownBlock=some b→b≠g:=by
 by_cases hn:n=0
 ·exact .inl hn
 ·have h':=h
  obtain⟨A,c,rfl, -⟩:=h'
  obtain⟨ad,rfl,hb, -⟩:=h.part (k:=0) (by omega)
  refine .inr (fun b e=> ?_)
  have e':some ad.block=some b:=e
  injection e' with e'
  omega
theorem zEJ {w w':World} {sz n g:Nat} {v:Value} {xs:List Value} (h:SL w sz v n xs) (hu:Upd (fun b=>b=g) w w') (hz:n=0∨ ∀ b,v.ownBlock=some b→b≠g):SL w' sz v n xs:=by
 rcases hz with hz | hz
 ·obtain⟨A,c,e,h1,h2,h3, -⟩:=h
  exact⟨A,c,e,h1,h2,h3,fun h0=>absurd hz (by omega)⟩
 ·exact zCN h hu hz
def zJV (v:Value):Prop:= ∀ x,v≠.int .u8 x
theorem zQp {w:World} {g:Nat} {T:TypeId} {cs:Array Value} (hb:Blk w g T cs) (hc: ∀ v∈cs.toList,zJV v) {ad:Addr} {x:Int} (h:w.cell? ad=some (.int .u8 x)):ad.block≠g:=by
 rintro rfl
 unfold World.cell? at h
 unfold Blk at hb
 rw[hb] at h
 dsimp only at h
 split at h
 ·cases h
 ·exact hc _ (by simpa using Array.mem_of_getElem? h) x rfl
theorem zPU (l:List Int): ∀ v∈ints l,zJV v:=by
 intro v hv x e
 obtain⟨z, -,h⟩:=wD6.1 hv
 rw[e] at h
 cases h
theorem zNr (A:Option Addr) (n c:Nat):zJV (.slice A n c):=fun _ e=>by cases e
theorem zOv (F:FC) (A B C:Option Addr) (a b c d e f:Nat): ∀ v∈(F.cells (.slice A a b) (.slice B c d) (.slice C e f)).toList,zJV v:=by
 intro v hv
 simp only[FC.cells,yN,zT,wE5,wJ3,wP5,or_false] at hv
 rcases hv with (((hv | hv) | (hv | hv)) | (hv | hv)) | (hv | hv)
 all_goals first | exact zPU _ v hv | (subst hv;exact zNr _ _ _) | (subst hv;intro x e;cases e)
theorem data_ne {w:World} {g:Nat} {T:TypeId} {F:FC} {A B C:Option Addr} {a b c d e f:Nat} (hb:Blk w g T (F.cells (.slice A a b) (.slice B c d) (.slice C e f))) {G:Option Addr} {k cp:Nat} {D:List Nat} (h:SL w 1 (.slice G k cp) k (zD D)):k=0∨ ∀ b,(Value.slice G k cp).ownBlock=some b→b≠g:=by
 by_cases hk:k=0
 ·exact .inl hk
 ·obtain⟨ad,rfl, -,hc⟩:=h.part (k:=0) (by omega)
  have hl:(zD D).length=k*1:=by obtain⟨A',c',e, -, -,h3, -⟩:=h;exact h3
  refine .inr (fun b e=> ?_)
  have e':some ad.block=some b:=e
  injection e' with e'
  obtain⟨x,r,hD⟩: ∃ x r,D=x::r:=by
   cases D with
   | nil=>simp[zD] at hl;omega
   | cons x r=>exact⟨x,r,rfl⟩
  have h0:=hc 0 (.int .u8 x) (by rw[hD];simp[zD])
  rw[←e']
  have:=zQp hb (zOv F A B C a _ c d _ f) h0
  simpa [yH] using this
theorem zNq {w:World} {g:Nat} {T:TypeId} (hb:Blk w g T zFile) {G:Option Addr} {k cp:Nat} {D:List Nat} (h:SL w 1 (.slice G k cp) k (zD D)):k=0∨ ∀ b,(Value.slice G k cp).ownBlock=some b→b≠g :=
 data_ne (F:=FC.zero) (A:=none) (B:=none) (C:=none) (a:=0) (b:=0) (c:=0) (d:=0) (e:=0) (f:=0) hb h
theorem zJg:zAP Tryz.prog 44:=⟨_,Tryz.func44,rfl,rfl⟩
attribute [local irreducible] bv zX jS yK zBE zFile
theorem fenc_good (wd hi:Int) (L:List (List Int)) (A:Option Addr) (n c:Nat) (q:List Int) (hq:q.length=64) (e:Nat) (he:e≤100) (m0:Int) (w:World) (hm:w.cell? ⟨0,0,none⟩=some (.int .i64 m0)) (hr:RowsS w A n c L) (hE:(zX wd hi L q).1=0) :
 Calls Tryz.prog 17 #[.agg (yX wd hi (.slice A n c)),.agg (bv q),.int .i64 (e:Int)] w (EncIs wd hi L q (e:Int) w):=by
 have H1:=zA (fun W (h:Ext w W)=>zBz wd hi L A n c q hq W (hr.ext h))
 have hbe:=frames_e wd hi L q
 have hlen:=zOy wd hi L q hq
 have hps:=zA (vC wd hi (.slice A n c))
 have hqs:=zA (show (bv q).size=64 by rw[zJ,hq])
 have hzs:=zA zBR
 have hz0:=zBj
 have HQ:=zA hq
 have HM:=zA hm
 have H21:Hid (decide ((e:Int)<0)=false):=zA (wK4 (by omega))
 have H24:Hid (decide ((100:Int)<(e:Int))=false):=zA (wK4 (by omega))
 have HLN:=zA hr.len
 unfold FrmIs at H1
 have HEF:Hid (∀ cs1 xs1 cs2 xs2 F,zDL (jS (zX wd hi L q).2.1 e (zX wd hi L q).2.2 (yK (zX wd hi L q).2.1 e)).1 cs1 xs1→zDL (jS (zX wd hi L q).2.1 e (zX wd hi L q).2.2 (yK (zX wd hi L q).2.1 e)).2 cs2 xs2→cs1.length=16→cs2.length=16 →
  (F=if (zBE cs1 xs1 cs2 xs2 (e:Int) (zX wd hi L q).2.1 (zX wd hi L q).2.2).1=0 then ⟨wd,hi,L.length,q,cs1,xs1,cs2,xs2,(e:Int),(zBE cs1 xs1 cs2 xs2 (e:Int) (zX wd hi L q).2.1 (zX wd hi L q).2.2).2⟩ else FC.zero) →
  EncF wd hi L q (e:Int) (zBE cs1 xs1 cs2 xs2 (e:Int) (zX wd hi L q).2.1 (zX wd hi L q).2.2).1 F):=zA (fun cs1 xs1 cs2 xs2 F h1 h2 h3 h4 h5=>by
  unfold EncF
  rw[if_neg (by simpa using hE),if_neg (by omega),wE8]
  exact⟨cs1,xs1,cs2,xs2,h1,h2,h3,h4,rfl,h5⟩)
 generalize zX wd hi L q=z at *
 obtain⟨E,m,Z⟩:=z
 dsimp only at H1 HEF hE hbe hlen
 subst hE
 have HTB:=zA (fun W (B:Option Addr) (d:Nat) (h:SL W 64 (.slice B m d) m (ints Z))=>zRM e m (by omega) B d Z hlen hbe W h)
 have HPC:=zA (fun (W:World) g (h:Blk W g 31 (yX wd hi (.slice A n c)))=>zAl h)
 generalize yX wd hi (.slice A n c)=pv at *
 obtain⟨qv,hqv⟩: ∃ v,bv q=v:=⟨_,rfl⟩
 rw[hqv] at hqs H1 ⊢
 have HQV:=zA hqv
 clear hr hq hm hqv
 go_enter Tryz.func17,Tryz.ntmps17
 go_upto_region 6 with (first
  | ((with_reducible apply gS 3);refine wBox rfl 31 (.tmp 0) rfl pv rfl ?_;intro w1 g1 hb1 hx1 hg1)
  | ((with_reducible apply gS 4);refine wBox rfl 33 (.tmp 1) rfl qv rfl ?_;intro w2 g2 hb2 hx2 hg2;have hb12:=hb1.ext hx2;have hx12:=hx1.trans hx2)
  | ((with_reducible apply gS 6);refine wAlo' rfl (some 6) rfl 47 rfl _ hz0 ?_;intro w3 g0 hb0 hx3 hg0;have hb13:=hb12.ext hx3;have hb23:=hb2.ext hx3;have hx13:=hx12.trans hx3)
  | ((with_reducible apply gS 12);refine wLdB rfl 31 (.tmp 3) rfl g1 rfl hb13 _ Tryz.underlying31 rfl 3 jL hps.out ?_)
  | ((with_reducible apply gS 13);refine wLdB rfl 33 (.tmp 4) rfl g2 rfl hb23 _ Tryz.underlying33 rfl 64 zF hqs.out ?_)
  | (go_at_call 13;(with_reducible refine (H1.out _ hx13).mono ?_);rintro e4 w4 ⟨B4,d4,rfl,hs4,hx4⟩)
  | ((with_reducible apply gS 21);refine xC (by rfl) (.bool false) (zR rfl rfl rfl H21.out) ?_)
  | ((with_reducible apply gS 24);refine xC (by rfl) (.bool false) (xP rfl rfl rfl H24.out) ?_))
 have hp4:=hb13.ext hx4
 have hq4:=hb23.ext hx4
 have hx04:=hx13.trans hx4
 try simp only[Act.put,sA,sB,sC]
 go_cut [10] from 31 to 43 (fun pv wx=> ∃ gf cs1 xs1 s1 cs2 xs2 s2,pv=.pointer (some ⟨gf,0,none⟩)∧Blk wx gf 47 (yN wd hi (n:Int) q (zT cs1 s1) (zT cs2 s2) (e:Int) (.slice none 0 0)).toArray∧zDL (jS m e Z (yK m e)).1 cs1 xs1∧zDL (jS m e Z (yK m e)).2 cs2 xs2∧cs1.length=16∧cs2.length=16∧SL wx 1 s1 xs1.length (ints xs1)∧SL wx 1 s2 xs2.length (ints xs2)∧(∀ b,s1.ownBlock=some b→w4.heap.size≤b)∧(∀ b,s2.ownBlock=some b→w4.heap.size≤b)∧(xs1.length=0∨ ∀ b,s1.ownBlock=some b→b≠gf)∧(xs2.length=0∨ ∀ b,s2.ownBlock=some b→b≠gf)∧w4.heap.size≤gf∧Ext w4 wx)
 case first =>
  have hI:Ext w4.drew w4.drew:=Ext.refl _
  refine jQ (fun k=>k ==1 ||k ==3 ||k ==5 ||k ==6 ||k ==7 ||k ==11 ||k ==13) (Ext w4.drew) (by kernel_rfl) ?_
  refine zI (k:=0) (by kernel_rfl) rfl (by rfl) (.pointer (some ⟨g1,0,none⟩)) (fun w=>by go_simp) ?_
  simp only[Act.put,sA,sB,sC]
  refine zI (k:=2) (by kernel_rfl) rfl (by rfl) (.pointer (some ⟨g1,1,none⟩)) (fun w=>by go_simp) ?_
  simp only[Act.put,sA,sB,sC]
  refine zI (k:=4) (by kernel_rfl) rfl (by rfl) (.pointer (some ⟨g1,2,none⟩)) (fun w=>by go_simp) ?_
  simp only[Act.put,sA,sB,sC]
  refine zI (k:=8) (by kernel_rfl) rfl (by rfl) (.int .i64 (e:Int)) (zC rfl rfl) ?_
  simp only[Act.put,sA,sB,sC]
  refine zI (k:=9) (by kernel_rfl) rfl (by rfl) (.slice B4 m d4) (zC rfl rfl) ?_
  simp only[Act.put,sA,sB,sC]
  refine zI (k:=10) (by kernel_rfl) rfl (by rfl) (.int .i64 (e:Int)) (zC rfl rfl) ?_
  simp only[Act.put,sA,sB,sC]
  refine jW (k:=1) (by kernel_rfl) rfl (by rfl) (.int .i64 wd) (fun W hW=>zQ rfl rfl (HPC.out W g1 (hp4.drew.ext hW)).1) hI ?_
  simp only[Act.put,sA,sB,sC]
  refine jW (k:=3) (by kernel_rfl) rfl (by rfl) (.int .i64 hi) (fun W hW=>zQ rfl rfl (HPC.out W g1 (hp4.drew.ext hW)).2.1) hI ?_
  simp only[Act.put,sA,sB,sC]
  refine jW (k:=5) (by kernel_rfl) rfl (by rfl) (.slice A n c) (fun W hW=>ex_loadRw rfl rfl (HPC.out W g1 (hp4.drew.ext hW)).2.2) hI ?_
  simp only[Act.put,sA,sB,sC]
  refine jW (k:=7) (by kernel_rfl) rfl (by rfl) (.agg qv) (fun W hW=>zAJ rfl rfl (hq4.drew.ext hW) Tryz.underlying33 rfl zF hqs.out) hI ?_
  simp only[Act.put,sA,sB,sC]
  refine jW (k:=6) (by kernel_rfl) rfl (by rfl) (.int .i64 (n:Int)) (fun W _=>ex_lenRw rfl rfl W) hI ?_
  simp only[Act.put,sA,sB,sC]
  refine zKS (k:=11) (l:=13) (by kernel_rfl) rfl rfl ?_ ?_
  · --
    refine xH (by rfl) (xI _ _ _ rfl rfl zJg #[.slice B4 m d4,.int .i64 (e:Int)] (by simp[Act.eval])) ?_
    refine (HTB.out _ B4 d4 (hs4.drew)).mono ?_
    rintro _ w6 ⟨cs1,xs1,s1,cs2,xs2,s2,rfl,hm1,hm2,l1,l2,hs1,hs2,ho1,ho2,hx6⟩
    refine⟨_,rfl,zU ⟨fun _=>hx6, ?_⟩⟩
    simp only[Act.put,sA,sB,sC]
    refine zI (k:=12) (by kernel_rfl) rfl (by rfl) (.agg (yN wd hi (n:Int) q (zT cs1 s1) (zT cs2 s2) (e:Int) (.slice none 0 0)).toArray) (zLK rfl rfl rfl rfl rfl rfl rfl (by rw[←HQV.out];exact zKO wd hi (n:Int) (e:Int) q HQ.out _ _ (zS _ _ l1) (zS _ _ l2))) ?_
    simp only[Act.put,sA,sB,sC]
    refine xQ (k:=13) (by kernel_rfl) rfl ?_
    refine wAlo' rfl (some 10) rfl 47 rfl _ hz0 ?_
    intro w5 gf hbf hy hgf
    refine zU ⟨fun _=>hx6.trans hy, ?_⟩
    simp only[Act.put,sA,sB,sC]
    have hsz:=zDa wd hi (n:Int) q (zT cs1 s1) (zT cs2 s2) (e:Int) (.slice none 0 0) HQ.out (zS _ _ l1) (zS _ _ l2)
    have hon:=zNc wd hi (n:Int) (e:Int) q cs1 cs2 hs1 hs2
    refine xQ (k:=14) (by kernel_rfl) rfl ?_
    refine wStB rfl 47 (.tmp 10) (.tmp 43) rfl gf _ rfl rfl hbf 103 yI hsz hzs.out hon ?_
    intro w7 hb7 hg7
    refine zU ⟨fun h=>(by cases h), ?_⟩
    simp only[Act.put,sA,sB,sC]
    refine uP (by kernel_rfl) ?_
    go_wp2_with fail
    go_meet
    have hx7:=hy.grown hg7 hgf
    refine⟨gf,cs1,xs1,s1,cs2,xs2,s2,rfl,hb7,hm1,hm2,l1,l2,hs1.ext hx7,hs2.ext hx7,ho1,ho2,sl_old hs1 hgf,sl_old hs2 hgf,by have:=hx6.size;have:w4.drew.heap.size=w4.heap.size:=rfl;omega,(Ext.refl w4).drew.trans (hx6.trans hx7)⟩
  · --
    refine wAlo' rfl (some 10) rfl 47 rfl _ hz0 ?_
    intro w5 gf hbf hy hgf
    refine zU ⟨fun _=>hy, ?_⟩
    simp only[Act.put,sA,sB,sC]
    refine xQ (k:=11) (by kernel_rfl) rfl ?_
    refine xH (by rfl) (xI _ _ _ rfl rfl zJg #[.slice B4 m d4,.int .i64 (e:Int)] (by simp[Act.eval])) ?_
    refine (HTB.out _ B4 d4 (hs4.drew.ext hy)).mono ?_
    rintro _ w6 ⟨cs1,xs1,s1,cs2,xs2,s2,rfl,hm1,hm2,l1,l2,hs1,hs2,ho1,ho2,hx6⟩
    refine⟨_,rfl,zU ⟨fun _=>hy.trans hx6, ?_⟩⟩
    simp only[Act.put,sA,sB,sC]
    refine zI (k:=12) (by kernel_rfl) rfl (by rfl) (.agg (yN wd hi (n:Int) q (zT cs1 s1) (zT cs2 s2) (e:Int) (.slice none 0 0)).toArray) (zLK rfl rfl rfl rfl rfl rfl rfl (by rw[←HQV.out];exact zKO wd hi (n:Int) (e:Int) q HQ.out _ _ (zS _ _ l1) (zS _ _ l2))) ?_
    simp only[Act.put,sA,sB,sC]
    have hsz:=zDa wd hi (n:Int) q (zT cs1 s1) (zT cs2 s2) (e:Int) (.slice none 0 0) HQ.out (zS _ _ l1) (zS _ _ l2)
    have hon:=zNc wd hi (n:Int) (e:Int) q cs1 cs2 hs1 hs2
    refine xQ (k:=14) (by kernel_rfl) rfl ?_
    refine wStB rfl 47 (.tmp 10) (.tmp 43) rfl gf _ rfl rfl (hbf.ext hx6) 103 yI hsz hzs.out hon ?_
    intro w7 hb7 hg7
    refine zU ⟨fun h=>(by cases h), ?_⟩
    simp only[Act.put,sA,sB,sC]
    refine uP (by kernel_rfl) ?_
    go_wp2_with fail
    go_meet
    have hlt:=hbf.lt
    have hu7:=zL hg7
    have hy5:=hy.size
    have hd4:w4.drew.heap.size=w4.heap.size:=rfl
    refine⟨gf,cs1,xs1,s1,cs2,xs2,s2,rfl,hb7,hm1,hm2,l1,l2,zCN hs1 hu7 (fun b h e=>by injection e with e;have:=ho1 b h;omega),zCN hs2 hu7 (fun b h e=>by injection e with e;have:=ho2 b h;omega),(fun b h=>by have:=ho1 b h;omega),(fun b h=>by have:=ho2 b h;omega),.inr (fun b h=>by have:=ho1 b h;omega),.inr (fun b h=>by have:=ho2 b h;omega),hgf,(Ext.refl w4).drew.trans ((hy.trans hx6).grown hg7 hgf)⟩
 case rest =>
 obtain⟨gf,cs1,xs1,s1,cs2,xs2,s2,e1,hbf,hm1,hm2,l1,l2,hs1,hs2,hw1,hw2,hz1,hz2,hgf,hx5⟩:=hcut
 subst e1
 have HSC:=zA (fun W (g1:SL W 1 s1 xs1.length (ints xs1)) (g2:SL W 1 s2 xs2.length (ints xs2)) (g3:W.cell? ⟨0,0,none⟩=some (.int .i64 m0)) (g4:SL W 64 (.slice B4 m d4) m (ints Z))=>scanE_any cs1 xs1 cs2 xs2 s1 s2 l1 l2 B4 m d4 Z hlen (e:Int) m0 W g3 g1 g2 g4)
 have HEF2:=zA (fun F=>HEF.out cs1 xs1 cs2 xs2 F hm1 hm2 l1 l2)
 have hL1:=zS cs1 s1 l1
 have hL2:=zS cs2 s2 l2
 have HL3:=zA (show (zT cs1 s1++zT cs2 s2).length=34 by rw[wF1,hL1,hL2])
 have HFB:=zA (zBg hbf HQ.out hL1 hL2)
 have hx05:=hx04.trans hx5
 have hm5:=zAS HM.out hx05
 have hs5:=hs4.ext hx5
 generalize zBE cs1 xs1 cs2 xs2 (e:Int) m Z=r at *
 obtain⟨E,D⟩:=r
 dsimp only at HEF2
 unfold zEe at HSC
 dsimp only at HSC
 have hb4:=hb0.ext (hx4.trans hx5)
 have hg0f:g0≠gf:=by have h1:=hb0.lt;have h2:=hx4.size;omega
 have hg04:g0<w4.heap.size:=by have h1:=hb0.lt;have h2:=hx4.size;omega
 have hgf0:w.heap.size≤gf:=by have h1:=hx04.size;omega
 have hg00:w.heap.size≤g0:=by have h1:=hx12.size;omega
 have hw1': ∀ b,s1.ownBlock=some b→b≠g0:=fun b h=>by have:=hw1 b h;omega
 have hw2': ∀ b,s2.ownBlock=some b→b≠g0:=fun b h=>by have:=hw2 b h;omega
 have hn1:=zA (show NewB w s1 from fun b h=>by have:=hw1 b h;have:=hx04.size;omega)
 have hn2:=zA (show NewB w s2 from fun b h=>by have:=hw2 b h;have:=hx04.size;omega)
 obtain⟨A1,c1,ee1, -⟩:=id hs1
 obtain⟨A2,c2,ee2, -⟩:=id hs2
 subst ee1 ee2
 clear hb1 hx1 hg1 hb2 hx2 hg2 hb12 hx12 hb0 hx3 hg0 hb13 hb23 hx13 hs4 hx4 hp4 hq4 hx04 hx5 hw1 hw2 hgf HTB HPC H1 HM hbe hlen
 by_cases h0:E=0
 ·subst h0
  have HF:=zA (show (⟨wd,hi,(n:Int),q,cs1,xs1,cs2,xs2,(e:Int),[]⟩:FC).shaped from ⟨HQ.out,l1,l2⟩)
  have HF2:=zA (show (⟨wd,hi,(n:Int),q,cs1,xs1,cs2,xs2,(e:Int),D⟩:FC).shaped from ⟨HQ.out,l1,l2⟩)
  go_upto_region 10 with (first
   | ((with_reducible apply gS 46);refine wpList_load_mid rfl 44 (.tmp 45) rfl gf 67 rfl (zT cs1 (.slice A1 xs1.length c1)++zT cs2 (.slice A2 xs2.length c2)) _ HFB.out.tt Tryz.underlying44 rfl (by rw[HL3.out];exact qA) ?_)
   | (go_at_call 45;(with_reducible refine (HSC.out _ hs1 hs2 hm5 hs5).mono ?_);rintro e6 w6 ⟨hx6,hC⟩;rw[if_pos rfl] at hC;obtain⟨B6,k6,d6,rfl,hk6,hD6, -⟩:=hC)
   | ((with_reducible apply gT 52 50);refine zKr rfl (.tmp 52) (.tmp 50) rfl gf ⟨wd,hi,(n:Int),q,cs1,xs1,cs2,xs2,(e:Int),[]⟩ HF.out (.slice A1 xs1.length c1) (.slice A2 xs2.length c2) (.slice none 0 0) D B6 k6 d6 rfl rfl (hbf.ext hx6) ?_;intro w7 hb7 hu7))
  have hsz7:=zA (FC.size HF2.out (.slice A1 xs1.length c1) (.slice A2 xs2.length c2) (.slice B6 k6 d6))
  have hon7:=zA (zEA (⟨wd,hi,(n:Int),q,cs1,xs1,cs2,xs2,(e:Int),D⟩:FC) A1 A2 B6 xs1.length c1 xs2.length c2 k6 d6)
  have hf6:Blk w6 gf 47 (FC.cells ⟨wd,hi,(n:Int),q,cs1,xs1,cs2,xs2,(e:Int),[]⟩ (.slice A1 xs1.length c1) (.slice A2 xs2.length c2) (.slice none 0 0)):=hbf.ext hx6
  have hkD:=data_ne hf6 hD6
  have hd7:=zEJ hD6 hu7 hkD
  have ht1:=zEJ (hs1.ext hx6) hu7 hz1
  have ht2:=zEJ (hs2.ext hx6) hu7 hz2
  have hb47:Blk w7 g0 47 zFile:=hu7.blk (hb4.ext hx6) hg0f
  have hkD0:=zNq hb47 hd7
  have hx07:Ext w w7:=hu7.ext (hx05.trans hx6) (fun x hx=>by rw[hx];exact hgf0)
  have HE:=zA (HEF2.out (⟨wd,hi,(n:Int),q,cs1,xs1,cs2,xs2,(e:Int),D⟩:FC))
  have HR:Hid (∀ W,Upd (fun b=>b=g0) w7 W→EncIs wd hi L q (e:Int) w (.returned (.tuple #[.agg (FC.cells ⟨wd,hi,(n:Int),q,cs1,xs1,cs2,xs2,(e:Int),D⟩ (.slice A1 xs1.length c1) (.slice A2 xs2.length c2) (.slice B6 k6 d6)),.int .i64 0])) W):=zA (fun W hu=>by
   refine⟨0,_,_,_,_,rfl,HF2.out,⟨zCN ht1 hu hw1',zCN ht2 hu hw2', ?_⟩,HE.out (by rw[HLN.out];rfl),hu.ext hx07 (fun x hx=>by rw[hx];exact hg00),hn1.out,hn2.out⟩
   have h9:=zEJ hd7 hu hkD0
   show SL W 1 (.slice B6 k6 d6) D.length (zD D)
   rw[hk6]
   exact h9)
  generalize FC.cells ⟨wd,hi,(n:Int),q,cs1,xs1,cs2,xs2,(e:Int),D⟩ (.slice A1 xs1.length c1) (.slice A2 xs2.length c2) (.slice B6 k6 d6)=fc at *
  go_wp2_with (first
   | ((with_reducible apply gS 57);refine wLdB rfl 47 (.tmp 10) rfl gf rfl hb7 _ Tryz.underlying47 rfl 103 yI hsz7.out ?_)
   | ((with_reducible apply gT 6 57);refine wStB rfl 47 (.tmp 6) (.tmp 57) rfl g0 fc rfl rfl hb47 103 yI hsz7.out hzs.out hon7.out ?_;intro w8 hb8 hg8))
  exact yB rfl rfl g0 rfl hb8 _ Tryz.underlying47 rfl 103 yI hsz7.out (HR.out _ (vQ (zL hg8) (fun x h=>by injection h with h;exact h.symm)))
 ·have HF:=zA (show (⟨wd,hi,(n:Int),q,cs1,xs1,cs2,xs2,(e:Int),[]⟩:FC).shaped from ⟨HQ.out,l1,l2⟩)
  have HNE:=zA h0
  have hbz:=zA zDx
  have HE:=zA (HEF2.out FC.zero (by rw[if_neg h0]))
  have HR:=zA (fun W (h:Ext w W)=>EncIs.zero (wd:=wd) (hi:=hi) (L:=L) (q:=q) (nn:=(e:Int)) (E:=E) (w:=w) (w':=W) HE.out h)
  have h54:Hid ((E !=0)=true):=zA (by simpa using h0)
  clear h0
  go_wp2_with (first
   | ((with_reducible apply gS 46);refine wpList_load_mid rfl 44 (.tmp 45) rfl gf 67 rfl (zT cs1 (.slice A1 xs1.length c1)++zT cs2 (.slice A2 xs2.length c2)) _ HFB.out.tt Tryz.underlying44 rfl (by rw[HL3.out];exact qA) ?_)
   | (go_at_call 45;(with_reducible refine (HSC.out _ hs1 hs2 hm5 hs5).mono ?_);rintro e6 w6 ⟨hx6,hC⟩;rw[if_neg HNE.out] at hC;subst hC)
   | ((with_reducible apply gT 52 50);refine zKr rfl (.tmp 52) (.tmp 50) rfl gf ⟨wd,hi,(n:Int),q,cs1,xs1,cs2,xs2,(e:Int),[]⟩ HF.out (.slice A1 xs1.length c1) (.slice A2 xs2.length c2) (.slice none 0 0) [] none 0 0 rfl rfl (hbf.ext hx6) ?_;intro w7 hb7 hu7;have hb47:Blk w7 g0 47 zFile:=hu7.blk (hb4.ext hx6) hg0f;have hx07:Ext w w7:=hu7.ext (hx05.trans hx6) (fun x hx=>by rw[hx];exact hgf0))
   | ((with_reducible apply gS 54);refine zB rfl (.bool true) (zAK rfl rfl rfl (by simpa using HNE.out)) ?_)
   | ((with_reducible apply gS 55);refine qH (by rfl) 47 rfl _ hbz.out ?_)
   | ((with_reducible apply gT 6 55);refine wStB rfl 47 (.tmp 6) (.tmp 55) rfl g0 zFile rfl rfl hb47 103 yI hzs.out hzs.out zCg ?_;intro w8 hb8 hg8))
  exact yB rfl rfl g0 rfl hb8 _ Tryz.underlying47 rfl 103 yI hzs.out (HR.out _ (hx07.grown hg8 (by omega)))
theorem fenc_any (wd hi:Int) (L:List (List Int)) (A:Option Addr) (n c:Nat) (q:List Int) (hq:q.length=64) (nn:Int) (m0:Int) (w:World) (hm:w.cell? ⟨0,0,none⟩=some (.int .i64 m0)) (hr:RowsS w A n c L) :
 Calls Tryz.prog 17 #[.agg (yX wd hi (.slice A n c)),.agg (bv q),.int .i64 nn] w (EncIs wd hi L q nn w):=by
 by_cases hE:(zX wd hi L q).1=0
 ·by_cases h1:nn<0
  ·exact fenc_low wd hi L A n c q hq nn w hr hE h1
  ·by_cases h2:100<nn
   ·exact fenc_high wd hi L A n c q hq nn w hr hE ⟨h1,h2⟩
   ·obtain⟨e,rfl⟩: ∃ e:Nat,nn=(e:Int):=⟨nn.toNat,by omega⟩
    exact fenc_good wd hi L A n c q hq e (by omega) m0 w hm hr hE
 ·exact fenc_bad wd hi L A n c q hq nn w hr hE
end
theorem zOA (n:Int) (w:World):Calls Tryz.prog 14 #[.int .i64 n] w fun e w'=>e=.returned (.agg (bv (List.replicate 64 n)))∧Ext w w':=by
 have HFS:=zA (fun i (hi:i<64)=>fillL_set (fun _=>n) i hi)
 have HFL:=zA (fun i (hi:i≤64)=>fillL_len (fun _=>n) i hi)
 have HF0:=zA (show zDo (fun _=>n) 0=zeros64 from rfl)
 have HFE:=zA (show zDo (fun _=>n) 64=List.replicate 64 n by unfold zDo;rw[wF7,wN4,wG3,List.map_const',List.length_range])
 rw[←HFE.out]
 generalize zDo (fun _=>n)=F at *
 go_enter Tryz.func14,Tryz.ntmps14
 go_wp2_with (refine wAlo' rfl (some 2) rfl 33 rfl _ qN ?_;intro w1 g hb hx hg)
 go_loopw [4] (fun i wr=> ∃ k:Nat,k≤64∧i=.int .i64 (k:Int)∧Ext w wr∧Blk wr g 33 (bv (F k))) (fun i _=>64-(intOf i).toNat)
 case atStart=>exact⟨0,by omega,rfl,hx,by rw[HF0.out];exact hb⟩
 case round =>
  clear hx hb
  obtain⟨k,hk,rfl,hx,hb⟩:=hrel
  by_cases hlt:k<64
  ·have HS:=zA (HFS.out k hlt)
   have hl:=HFL.out k hk
   obtain⟨old,hold⟩: ∃ u,wr.cell? ⟨g,k,none⟩=some u:=by
    rw[hb.cell k]
    exact⟨_,qG _ k (by omega)⟩
   have hfr:=hb.frozen k
   clear hl
   go_wp2_with fail
   go_roundw
   case rel =>
    refine⟨k+1,by omega,by go_num,hx.setCell (by omega) _, ?_⟩
    have:=hb.set_ k (.int .i64 n)
    rw[vH,HS.out] at this
    exact this
   case measure=>simp[intOf];omega
  ·obtain rfl:k=64:=by omega
   have hsz:=zA ((zJ (F 64)).trans (HFL.out 64 (by omega)))
   have hon:=zA (xB (F 64))
   go_wp2_with (first
    | ((with_reducible apply gS 11);refine wLdB rfl 33 (.tmp 2) rfl _ rfl hb _ Tryz.underlying33 rfl 64 zF hsz.out ?_)
    | ((with_reducible apply gT 2 11);refine wStB rfl 33 (.tmp 2) (.tmp 11) rfl g (bv (F 64)) rfl rfl hb 64 zF hsz.out hsz.out hon.out ?_;intro w7 hb7 hg7))
   exact zBL rfl rfl _ rfl hb7 _ Tryz.underlying33 rfl 64 zF hsz.out ⟨rfl,hx.grown hg7 (by omega)⟩
theorem tmod_emod (n m:Int) (hm:1≤m):(if n.tmod m<0 then n.tmod m+m else n.tmod m)=n%m∧ -m<n.tmod m∧n.tmod m<m:=by
 have h1:=wQ1 n (show m≠0 by omega)
 have h2:=wQ2 n (show 0<m by omega)
 have h3:(m.natAbs:Int)=m:=by omega
 have h4:n.tmod m=n%m-(if 0≤n∨m∣n then 0 else m.natAbs:Nat):=Int.tmod_eq_emod
 generalize n.tmod m=q at *
 by_cases h:0≤n∨m∣n
 ·rw[if_pos h] at h4
  rw[if_neg (by omega)]
  omega
 ·rw[if_neg h] at h4
  rw[if_pos (by omega)]
  omega
theorem zJF (n m:Int) (hm:1≤m) (hm2:m≤1000000) (w:World):Calls Tryz.prog 12 #[.int .i64 n,.int .i64 m] w fun e w'=>e=.returned (.int .i64 (n%m))∧w=w':=by
 obtain⟨he,hb1,hb2⟩:=tmod_emod n m hm
 have hm0:m≠0:=by omega
 by_cases hneg:n.tmod m<0
 ·rw[if_pos hneg] at he
  go_enter Tryz.func12,Tryz.ntmps12
  go_wp2_with fail
  go_ret
  exact⟨by rw[←he];rfl,rfl⟩
 ·rw[if_neg hneg] at he
  go_enter Tryz.func12,Tryz.ntmps12
  go_wp2_with fail
  go_ret
  exact⟨by rw[←he];rfl,rfl⟩
section
theorem zOF:((Tryz.prog.info? 22).bind (·.zero)).isSome=true:=by kernel_rfl
theorem zOY {ops:Array Oper} {rest:List Oper} {o:Oper} {a:Act} {w:World} {Q:Exit→Act→World→Prop} (hg:o.guard=none) (x y:Operand) (ho:o.op=.buildSlice 22 2 #[(0,x),(1,y)]) (dst:Option Tmp) (hdst:o.dst=dst)
 (m n:Int) (hx:a.eval x=.int .i64 m) (hy:a.eval y=.int .i64 n)
 (h: ∀ w1 g,Blk w1 g 3 (ints [m,n]).toArray→Ext w w1→w.heap.size≤g→wpList Tryz.prog ops Q rest (a.put dst (.slice (some ⟨g,0,none⟩) 2 2)) w1):wpList Tryz.prog ops Q (o::rest) a w:=by
 refine Go.Great.wpList_buildSliceTo hg 22 3 2 #[(0,x),(1,y)] ho _ rfl dst hdst Tryz.underlying22 (ints [m,n]).toArray ?_ (h _ _ (Blk.new w _ _) ((Ext.refl w).alloc _) (wA5 _))
 simp only[wC7,wC8,wC9,hx,hy]
 show _=_
 kernel_rfl
theorem builtPic3 (a b:Int) (A:Option Addr) (n c:Nat):Tryz.prog.built 31 [(0,.int .i64 a),(1,.int .i64 b),(2,.slice A n c)]=some (yX a b (.slice A n c)):=by
 show _=_
 kernel_rfl
theorem zLW {o:Oper} {a:Act} {x0 x1 x2:Operand} (ho:o.op=.build 31 #[(0,x0),(1,x1),(2,x2)]) {wd hi:Int} {A:Option Addr} {n c:Nat} (h0:a.eval x0=.int .i64 wd) (h1:a.eval x1=.int .i64 hi) (h2:a.eval x2=.slice A n c) (w:World) :
 (execOp a.eval o).run Tryz.prog w=.ok (.value (.agg (yX wd hi (.slice A n c)))) w:=by
 simp only[execOp,ho,Sem.run_bind,run_build w 31 (#[(0,x0),(1,x1),(2,x2)].map fun (i,x)=>(i,a.eval x)) (yX wd hi (.slice A n c)) (by simpa [h0,h1,h2] using builtPic3 wd hi A n c),Result.andThen_ok,Sem.run_pure]
theorem zOU {w:World} {g h:Nat} {l:List Int} (h0:0<l.length) (hl:l.length≤100000000) (hb:Blk w g 3 (ints l).toArray) (hc:Blk w h 22 (Value.slice (some ⟨g,0,none⟩) l.length l.length).cells):RowsS w (some ⟨h,0,none⟩) 1 1 [l]:=by
 refine⟨[.slice (some ⟨g,0,none⟩) l.length l.length],hc.sl (size:=1) (n:=1) (c:=1) rfl (by omega) (by omega),rfl,fun k x hx=> ?_⟩
 cases k with
 | zero =>
   simp at hx
   subst hx
   exact⟨_,_,rfl,hb.sl (size:=1) (n:=l.length) (c:=l.length) (by simp[zY]) (by omega) (by omega)⟩
 | succ k=>simp at hx
theorem zMz:zAP Tryz.prog 14:=⟨_,Tryz.func14,rfl,rfl⟩
theorem zGO:zAP Tryz.prog 17:=⟨_,Tryz.func17,rfl,rfl⟩
def wkV (A1:Option Addr) (c1:Nat) (A2:Option Addr) (c2:Nat) (A:Option Addr) (c:Nat):Array Value:=wkF.cells (.slice A1 1 c1) (.slice A2 1 c2) (.slice A 1 c)
def WkAt (w:World) (A1:Option Addr) (c1:Nat) (A2:Option Addr) (c2:Nat) (A:Option Addr) (c:Nat):Prop:=wkF.at_ w (.slice A1 1 c1) (.slice A2 1 c2) (.slice A 1 c)
theorem zCz (A1:Option Addr) (c1:Nat) (A2:Option Addr) (c2:Nat) (A:Option Addr) (c:Nat):(wkV A1 c1 A2 c2 A c).size=103:=FC.size zET _ _ _
theorem zHv (A1:Option Addr) (c1:Nat) (A2:Option Addr) (c2:Nat) (A:Option Addr) (c:Nat):(wkV A1 c1 A2 c2 A c).all (·.oneCell')=true:=zEA _ _ _ _ _ _ _ _ _ _
theorem WkAt.ext {w w':World} {A1:Option Addr} {c1:Nat} {A2:Option Addr} {c2:Nat} {A:Option Addr} {c:Nat} (h:WkAt w A1 c1 A2 c2 A c) (hx:Ext w w'):WkAt w' A1 c1 A2 c2 A c:=FC.at_.ext h hx
theorem wk_at {w:World} {s1 s2 sd:Value} (h:wkF.at_ w s1 s2 sd): ∃ A c B d C e,s1=.slice A 1 c∧s2=.slice B 1 d∧sd=.slice C 1 e:=by
 obtain⟨⟨A,c,e1, -⟩,⟨B,d,e2, -⟩,⟨C,e,e3, -⟩⟩:=h
 exact⟨A,c,B,d,C,e,e1,e2,e3⟩
theorem wk_encode {W W':World} {e:Ending} (h:EncIs 2 1 [[128,128]] (List.replicate 64 1) 3 W e W'): ∃ A1 c1 A2 c2 A c,e=.returned (.tuple #[.agg (wkV A1 c1 A2 c2 A c),.int .i64 0])∧WkAt W' A1 c1 A2 c2 A c∧Ext W W'∧NewB W (.slice A1 1 c1)∧NewB W (.slice A2 1 c2):=by
 obtain⟨E,F,s1,s2,sd,rfl,hs,hat,hE,hx,n1,n2⟩:=h
 obtain⟨rfl,rfl⟩:=wk_enc hE
 obtain⟨A1,c1,A2,c2,A,c,rfl,rfl,rfl⟩:=wk_at hat
 exact⟨A1,c1,A2,c2,A,c,rfl,hat,hx,n1,n2⟩
theorem wk_keep {w w' w0:World} {g:Nat} {A1:Option Addr} {c1:Nat} {A2:Option Addr} {c2:Nat} {A:Option Addr} {c:Nat} (h:WkAt w A1 c1 A2 c2 A c) (hu:Upd (fun b=>b=g) w w') (h1:NewB w0 (.slice A1 1 c1)) (h2:NewB w0 (.slice A2 1 c2)) (hg:g<w0.heap.size) (hb:Blk w g 47 zFile):WkAt w' A1 c1 A2 c2 A c :=
 ⟨zCN h.1 hu (fun b e=>by have:=h1 b e;omega),zCN h.2.1 hu (fun b e=>by have:=h2 b e;omega),zEJ h.2.2 hu (zNq hb h.2.2)⟩
theorem wk_pack {W:World} {A1:Option Addr} {c1:Nat} {A2:Option Addr} {c2:Nat} {A:Option Addr} {c:Nat} (h:WkAt W A1 c1 A2 c2 A c):Calls Tryz.prog 36 #[.agg (wkV A1 c1 A2 c2 A c)] W fun e W'=> ∃ B d,e=.returned (.tuple #[.slice B wkF.packL.length d,.int .i64 0])∧SL W' 1 (.slice B wkF.packL.length d) wkF.packL.length (zD wkF.packL)∧Ext W W':=by
 have:=wkF.pack zET _ _ _ W h
 rw[zOa] at this
 exact this
theorem zPY {W:World} {B:Option Addr} {d:Nat} (h:SL W 1 (.slice B wkF.packL.length d) wkF.packL.length (zD wkF.packL)):Calls Tryz.prog 37 #[.slice B wkF.packL.length d] W fun e W'=> ∃ A1 c1 A2 c2 A c,e=.returned (.tuple #[.agg (wkV A1 c1 A2 c2 A c),.int .i64 0])∧WkAt W' A1 c1 A2 c2 A c∧Ext W W':=by
 refine (parse_any (.slice B wkF.packL.length d) wkF.packL W (wkF.packL_lt zET.1 (by decide)) h).mono fun e W' h=> ?_
 rw[wk_parse] at h
 obtain⟨s1,s2,sd,rfl,hat,hx⟩:=h
 obtain⟨A1,c1,A2,c2,A,c,rfl,rfl,rfl⟩:=wk_at hat
 exact⟨A1,c1,A2,c2,A,c,rfl,hat,hx⟩
theorem wk_decode {W:World} {m0:Int} (hm:W.cell? ⟨0,0,none⟩=some (.int .i64 m0)) {A1:Option Addr} {c1:Nat} {A2:Option Addr} {c2:Nat} {A:Option Addr} {c:Nat} (h:WkAt W A1 c1 A2 c2 A c):Calls Tryz.prog 27 #[.agg (wkV A1 c1 A2 c2 A c)] W fun e W'=> ∃ B d,e=.returned (.tuple #[.agg (yX 2 1 (.slice B 1 d)),.int .i64 0])∧RowsS W' B 1 d [[128,128]]∧Ext W W':=by
 have:=zQk wkF zET wk_chk (.slice A1 1 c1) (.slice A2 1 c2) A 1 c rfl (by decide) m0 W hm h 2 1 1 3 rfl rfl rfl rfl W (Ext.refl W)
 rw[show wkF.cs1=wkT from rfl,show wkF.cs2=wkT from rfl,show wkF.xs1=[0] from rfl,show wkF.xs2=[0] from rfl,show wkF.data=[63] from rfl,show wkF.qs=List.replicate 64 1 from rfl,wk_dec] at this
 refine this.mono fun e W' h=> ?_
 unfold PdOf at h
 rw[if_pos rfl,wk_show] at h
 obtain⟨B,k,d,rfl,hr,hx⟩:=h
 obtain rfl:k=1:=hr.len.symm
 exact⟨B,d,rfl,hr,hx⟩
attribute [local irreducible] wkF wkV WkAt
theorem works_any (m0:Int) (w:World) (hm:w.cell? ⟨0,0,none⟩=some (.int .i64 m0)):Calls Tryz.prog 11 #[] w fun e w'=>e=.returned (.bool true)∧Ext w w':=by
 have hz0:=zBj
 have hzp:=zFg
 have hzs:=zA zBR
 have HON:=zA (fun W=>zOA 1 W)
 have HEN:=zA (fun W A n c (hx:Ext w W) (hr:RowsS W A n c [[128,128]])=>(fenc_any 2 1 [[128,128]] A n c (List.replicate 64 1) (by simp) 3 m0 W (zAS hm hx) hr).mono fun e w' h=>wk_encode h)
 have HPK:=zA (fun W A1 c1 A2 c2 A c h=> @wk_pack W A1 c1 A2 c2 A c h)
 have HPS:=zA (fun W B d h=> @zPY W B d h)
 have HDC:=zA (fun W (hx:Ext w W) A1 c1 A2 c2 A c (h:WkAt W A1 c1 A2 c2 A c)=>wk_decode (zAS hm hx) h)
 have HPE:=zA (fun A B c d W h1 h2=>zKm 2 1 A B 1 c d [[128,128]] W h1 h2)
 have HPZ:=zA (fun v=>vC 2 1 v)
 have HP1:=zA (fun A n c=>zEC 2 1 A n c)
 generalize bv (List.replicate 64 1)=ov at *
 generalize wkF.packL=pb at *
 generalize pb.length=K at *
 obtain⟨pic,hpic⟩: ∃ pic:Value→Array Value,pic=yX 2 1:=⟨_,rfl⟩
 have HBP2:Hid (∀ {o:Oper} {a:Act} {x0 x1 x2:Operand} (ho:o.op=.build 31 #[(0,x0),(1,x1),(2,x2)]) {A:Option Addr} {n c:Nat} (h0:a.eval x0=.int .i64 2) (h1:a.eval x1=.int .i64 1) (h2:a.eval x2=.slice A n c) (w:World),(execOp a.eval o).run Tryz.prog w=.ok (.value (.agg (pic (.slice A n c)))) w):=zA (fun ho A n c h0 h1 h2 w=>by rw[hpic];exact zLW ho h0 h1 h2 w)
 rw[←hpic] at HEN HDC HPE HPZ HP1
 clear hm hpic
 go_enter Tryz.func11,Tryz.ntmps11
 go_upto_region 2 with (first
  | ((with_reducible apply gS 10);refine zOY rfl _ _ rfl (some 10) rfl 128 128 rfl rfl ?_;intro w1 ga hba hx1 hga)
  | ((with_reducible apply gS 11);refine wLit1 rfl 29 22 _ rfl (some 11) rfl Tryz.underlying29 1 uT zOF _ rfl rfl (by omega) (by omega) ?_;intro w2 gb hbb hx2 hgb;have hr2:=zOU (l:=[128,128]) (by decide) (by decide) (hba.ext hx2) hbb;have hx02:=hx1.trans hx2)
  | ((with_reducible apply gS 12);refine zB rfl (.agg (pic (.slice (some ⟨gb,0,none⟩) 1 1))) (HBP2.out rfl rfl rfl rfl) ?_)
  | ((with_reducible apply gS 1);refine wAlo' rfl (some 1) rfl 31 rfl _ hzp ?_;intro w3 gp hbp hx3 hgp)
  | ((with_reducible apply gT 1 12);refine wStB rfl 31 (.tmp 1) (.tmp 12) rfl gp (pic (.slice (some ⟨gb,0,none⟩) 1 1)) rfl rfl hbp 3 jL (HPZ.out _) (by rfl) (HP1.out _ _ _) ?_;intro w4 hb4 hg4;have hx24:=hx3.grown hg4 hgp;have hr4:=hr2.ext hx24;have hx04:=hx02.trans hx24))
 try simp only[Act.put,sA,sB,sC]
 clear hba hbb hr2 hbp hx1 hx2 hx02 hx3 hx24 hg4 hga hgb hgp
 obtain⟨pv,hpv⟩: ∃ pv,pic (.slice (some ⟨gb,0,none⟩) 1 1)=pv:=⟨_,rfl⟩
 have HPV:=zA (HPZ.out (.slice (some ⟨gb,0,none⟩) 1 1))
 have HEN2:=zA (fun W (hx:Ext w4 W)=>HEN.out W (some ⟨gb,0,none⟩) 1 1 (hx04.trans hx) (hr4.ext hx))
 have HPE2:=zA (fun W (hx:Ext w4 W) B d (h:RowsS W B 1 d [[128,128]])=>HPE.out (some ⟨gb,0,none⟩) B 1 d W (hr4.ext hx) h)
 rw[hpv] at hb4 HPV HEN2 HPE2 ⊢
 clear hpv HEN HPE hr4 HBP2
 go_cut [2,3] from 13 to 18 (fun u v wx=> ∃ g2 A1 c1 A2 c2 A c,u=.pointer (some ⟨g2,0,none⟩)∧v=.int .i64 0∧Blk wx g2 47 (wkV A1 c1 A2 c2 A c)∧WkAt wx A1 c1 A2 c2 A c∧Ext w4 wx)
 case first =>
  have hI:Ext w4.drew w4.drew:=Ext.refl _
  refine jQ (fun k=>k ==0 ||k ==1 ||k ==2 ||k ==6) (Ext w4.drew) (by kernel_rfl) ?_
  refine jW (k:=0) (by kernel_rfl) rfl (by rfl) (.agg pv) (fun W hW=>zAJ rfl rfl (hb4.drew.ext hW) Tryz.underlying31 rfl jL HPV.out) hI ?_
  simp only[Act.put,sA,sB,sC]
  refine zKS (k:=1) (l:=6) (by kernel_rfl) rfl rfl ?_ ?_
  · --
    refine xH (by rfl) (xI _ _ _ rfl rfl zMz #[.int .i64 1] (by simp[Act.eval])) ?_
    refine (HON.out _).mono ?_
    rintro _ wa ⟨rfl,hxa⟩
    have hxa1:=hI.trans hxa
    refine⟨_,rfl,zU ⟨fun _=>hxa1, ?_⟩⟩
    simp only[Act.put,sA,sB,sC]
    refine zKS (k:=2) (l:=6) (by kernel_rfl) rfl rfl ?_ ?_
    · --
      refine xH (by rfl) (xI _ _ _ rfl rfl zGO #[.agg pv,.agg ov,.int .i64 3] (by simp[Act.eval])) ?_
      refine (HEN2.out _ ((Ext.refl w4).drew.trans hxa1)).mono ?_
      rintro _ wb ⟨A1,c1,A2,c2,A,c,rfl,hat,hxb,hn1,hn2⟩
      have hxb1:=hxa1.trans hxb
      refine⟨_,rfl,zU ⟨fun _=>hxb1, ?_⟩⟩
      simp only[Act.put,sA,sB,sC]
      refine zI (k:=3) (by kernel_rfl) rfl (by rfl) (.tuple #[.agg (wkV A1 c1 A2 c2 A c),.int .i64 0]) (zC rfl rfl) ?_
      simp only[Act.put,sA,sB,sC]
      refine zI (k:=4) (by kernel_rfl) rfl (by rfl) (.agg (wkV A1 c1 A2 c2 A c)) (yR rfl rfl rfl) ?_
      simp only[Act.put,sA,sB,sC]
      refine zI (k:=5) (by kernel_rfl) rfl (by rfl) (.int .i64 0) (yR rfl rfl rfl) ?_
      simp only[Act.put,sA,sB,sC]
      refine xQ (k:=6) (by kernel_rfl) rfl ?_
      refine wAlo' rfl (some 2) rfl 47 rfl _ hz0 ?_
      intro wc g2 hbg hxc hgg
      have hxc1:=hxb1.trans hxc
      refine zU ⟨fun _=>hxc1, ?_⟩
      simp only[Act.put,sA,sB,sC]
      refine xQ (k:=7) (by kernel_rfl) rfl ?_
      refine wStB rfl 47 (.tmp 2) (.tmp 17) rfl g2 (wkV A1 c1 A2 c2 A c) rfl rfl hbg 103 yI (zCz _ _ _ _ _ _) hzs.out (zHv _ _ _ _ _ _) ?_
      intro w7 hb7 hg7
      refine zU ⟨fun h=>(by cases h), ?_⟩
      simp only[Act.put,sA,sB,sC]
      refine zI (k:=8) (by kernel_rfl) rfl (by rfl) (.int .i64 0) (zW rfl rfl) ?_
      simp only[Act.put,sA,sB,sC]
      refine uP (by kernel_rfl) ?_
      go_wp2_with fail
      go_meet
      exact⟨g2,A1,c1,A2,c2,A,c,rfl,rfl,hb7,hat.ext (hxc.grown hg7 hgg),(Ext.refl w4).drew.trans (hxb1.trans (hxc.grown hg7 hgg))⟩
    · --
      refine wAlo' rfl (some 2) rfl 47 rfl _ hz0 ?_
      intro wc g2 hbg hxc hgg
      have hxc1:=hxa1.trans hxc
      refine zU ⟨fun _=>hxc1, ?_⟩
      simp only[Act.put,sA,sB,sC]
      refine xQ (k:=2) (by kernel_rfl) rfl ?_
      refine xH (by rfl) (xI _ _ _ rfl rfl zGO #[.agg pv,.agg ov,.int .i64 3] (by simp[Act.eval])) ?_
      refine (HEN2.out _ ((Ext.refl w4).drew.trans hxc1)).mono ?_
      rintro _ wb ⟨A1,c1,A2,c2,A,c,rfl,hat,hxb,hn1,hn2⟩
      have hxb1:=hxc1.trans hxb
      refine⟨_,rfl,zU ⟨fun _=>hxb1, ?_⟩⟩
      simp only[Act.put,sA,sB,sC]
      refine zI (k:=3) (by kernel_rfl) rfl (by rfl) (.tuple #[.agg (wkV A1 c1 A2 c2 A c),.int .i64 0]) (zC rfl rfl) ?_
      simp only[Act.put,sA,sB,sC]
      refine zI (k:=4) (by kernel_rfl) rfl (by rfl) (.agg (wkV A1 c1 A2 c2 A c)) (yR rfl rfl rfl) ?_
      simp only[Act.put,sA,sB,sC]
      refine zI (k:=5) (by kernel_rfl) rfl (by rfl) (.int .i64 0) (yR rfl rfl rfl) ?_
      simp only[Act.put,sA,sB,sC]
      refine xQ (k:=7) (by kernel_rfl) rfl ?_
      refine wStB rfl 47 (.tmp 2) (.tmp 17) rfl g2 (wkV A1 c1 A2 c2 A c) rfl rfl (hbg.ext hxb) 103 yI (zCz _ _ _ _ _ _) hzs.out (zHv _ _ _ _ _ _) ?_
      intro w7 hb7 hg7
      refine zU ⟨fun h=>(by cases h), ?_⟩
      simp only[Act.put,sA,sB,sC]
      refine zI (k:=8) (by kernel_rfl) rfl (by rfl) (.int .i64 0) (zW rfl rfl) ?_
      simp only[Act.put,sA,sB,sC]
      refine uP (by kernel_rfl) ?_
      go_wp2_with fail
      go_meet
      have hu7:Upd (fun b=>b=g2) wb w7:=vQ (zL hg7) (fun x h=>by injection h with h;exact h.symm)
      exact⟨g2,A1,c1,A2,c2,A,c,rfl,rfl,hb7,wk_keep hat hu7 hn1 hn2 hbg.lt (hbg.ext hxb),(Ext.refl w4).drew.trans (hxa1.trans ((hxc.trans hxb).grown hg7 hgg))⟩
  · --
    refine wAlo' rfl (some 2) rfl 47 rfl _ hz0 ?_
    intro wc g2 hbg hxc hgg
    have hxc1:=hI.trans hxc
    refine zU ⟨fun _=>hxc1, ?_⟩
    simp only[Act.put,sA,sB,sC]
    refine xQ (k:=1) (by kernel_rfl) rfl ?_
    refine xH (by rfl) (xI _ _ _ rfl rfl zMz #[.int .i64 1] (by simp[Act.eval])) ?_
    refine (HON.out _).mono ?_
    rintro _ wa ⟨rfl,hxa⟩
    have hxa1:=hxc1.trans hxa
    refine⟨_,rfl,zU ⟨fun _=>hxa1, ?_⟩⟩
    simp only[Act.put,sA,sB,sC]
    refine xQ (k:=2) (by kernel_rfl) rfl ?_
    refine xH (by rfl) (xI _ _ _ rfl rfl zGO #[.agg pv,.agg ov,.int .i64 3] (by simp[Act.eval])) ?_
    refine (HEN2.out _ ((Ext.refl w4).drew.trans hxa1)).mono ?_
    rintro _ wb ⟨A1,c1,A2,c2,A,c,rfl,hat,hxb,hn1,hn2⟩
    have hxb1:=hxa1.trans hxb
    refine⟨_,rfl,zU ⟨fun _=>hxb1, ?_⟩⟩
    simp only[Act.put,sA,sB,sC]
    refine zI (k:=3) (by kernel_rfl) rfl (by rfl) (.tuple #[.agg (wkV A1 c1 A2 c2 A c),.int .i64 0]) (zC rfl rfl) ?_
    simp only[Act.put,sA,sB,sC]
    refine zI (k:=4) (by kernel_rfl) rfl (by rfl) (.agg (wkV A1 c1 A2 c2 A c)) (yR rfl rfl rfl) ?_
    simp only[Act.put,sA,sB,sC]
    refine zI (k:=5) (by kernel_rfl) rfl (by rfl) (.int .i64 0) (yR rfl rfl rfl) ?_
    simp only[Act.put,sA,sB,sC]
    refine xQ (k:=7) (by kernel_rfl) rfl ?_
    refine wStB rfl 47 (.tmp 2) (.tmp 17) rfl g2 (wkV A1 c1 A2 c2 A c) rfl rfl (hbg.ext (hxa.trans hxb)) 103 yI (zCz _ _ _ _ _ _) hzs.out (zHv _ _ _ _ _ _) ?_
    intro w7 hb7 hg7
    refine zU ⟨fun h=>(by cases h), ?_⟩
    simp only[Act.put,sA,sB,sC]
    refine zI (k:=8) (by kernel_rfl) rfl (by rfl) (.int .i64 0) (zW rfl rfl) ?_
    simp only[Act.put,sA,sB,sC]
    refine uP (by kernel_rfl) ?_
    go_wp2_with fail
    go_meet
    have hu7:Upd (fun b=>b=g2) wb w7:=vQ (zL hg7) (fun x h=>by injection h with h;exact h.symm)
    exact⟨g2,A1,c1,A2,c2,A,c,rfl,rfl,hb7,wk_keep hat hu7 hn1 hn2 (by have:=hbg.lt;have:=hxa.size;omega) (hbg.ext (hxa.trans hxb)),(Ext.refl w4).drew.trans (hI.trans ((hxc.trans (hxa.trans hxb)).grown hg7 hgg))⟩
 case rest =>
 obtain⟨g2,A1,c1,A2,c2,A,c,e1,e2,hb5,hat5,hx5⟩:=hcut
 subst e1 e2
 have hp5:=hb4.ext hx5
 go_wp2_with (first
  | ((with_reducible apply gS 20);refine wLdB rfl 47 (.tmp 2) rfl g2 rfl hb5 _ Tryz.underlying47 rfl 103 yI (zCz _ _ _ _ _ _) ?_)
  | (go_at_call 36;(with_reducible refine (HPK.out _ _ _ _ _ _ _ hat5).mono ?_);rintro e w6 ⟨B,d,rfl,hpb,hx6⟩;have hp6:=hp5.ext hx6;have hx46:=hx5.trans hx6)
  | (go_at_call 37;(with_reducible refine (HPS.out _ _ _ hpb).mono ?_);rintro e w7 ⟨D1,d1,D2,d2,D,d,rfl,hat7,hx7⟩;have hp7:=hp6.ext hx7;have hx47:=hx46.trans hx7)
  | ((with_reducible apply gS 6);refine wAlo' rfl (some 6) rfl 47 rfl _ hz0 ?_;intro w8 g6 hb8 hx8 hg8)
  | ((with_reducible apply gT 6 27);refine wStB rfl 47 (.tmp 6) (.tmp 27) rfl g6 (wkV D1 d1 D2 d2 D d) rfl rfl hb8 103 yI (zCz _ _ _ _ _ _) hzs.out (zHv _ _ _ _ _ _) ?_;intro w9 hb9 hg9;have hx79:=hx8.grown hg9 hg8;have hat9:=hat7.ext hx79;have hp9:=hp7.ext hx79;have hx49:=hx47.trans hx79)
  | ((with_reducible apply gS 30);refine wLdB rfl 47 (.tmp 6) rfl g6 rfl hb9 _ Tryz.underlying47 rfl 103 yI (zCz _ _ _ _ _ _) ?_)
  | (go_at_call 27;(with_reducible refine (HDC.out _ (hx04.trans hx49) _ _ _ _ _ _ hat9).mono ?_);rintro e w10 ⟨Y,y,rfl,hr10,hx10⟩;have hp10:=hp9.ext hx10;have hx410:=hx49.trans hx10)
  | ((with_reducible apply gS 8);refine wAlo' rfl (some 8) rfl 31 rfl _ hzp ?_;intro w11 g8 hb11 hx11 hg11)
  | ((with_reducible apply gT 8 32);refine wStB rfl 31 (.tmp 8) (.tmp 32) rfl g8 (pic (.slice Y 1 y)) rfl rfl hb11 3 jL (HPZ.out _) (by rfl) (HP1.out _ _ _) ?_;intro w12 hb12 hg12;have hx1012:=hx11.grown hg12 hg11;have hr12:=hr10.ext hx1012;have hp12:=hp10.ext hx1012;have hx412:=hx410.trans hx1012)
  | ((with_reducible apply gS 49);refine zCe (by rfl) (.agg pv) (zAJ rfl rfl hp12 Tryz.underlying31 rfl jL HPV.out) ?_)
  | ((with_reducible apply gS 50);refine zCe (by rfl) (.agg (pic (.slice Y 1 y))) (zAJ rfl rfl hb12 Tryz.underlying31 rfl jL (HPZ.out _)) ?_)
  | (go_at_call 25;(with_reducible refine (HPE2.out _ hx412 _ _ hr12).mono ?_);rintro e w13 ⟨rfl,hx13⟩))
 go_ret
 exact⟨rfl,hx04.trans (hx412.trans hx13)⟩
end
end Go.Proofs.YtkggcjdlpendfaaGreatDoor
