import Derived.Test.YtkggcjdlpendfaaGreatDoorMTopHurtUptoCard18
set_option linter.all false
set_option maxRecDepth 20000
set_option maxHeartbeats 8000000
namespace Go.Proofs.YtkggcjdlpendfaaGreatDoor
open Go.RowKit Tryz
section
def zTs (W:World) (p:Addr) (A:Option Addr) (n c:Nat) (h:W.cell? p=some (.slice A n c)):(Instr.loadAt 29 (.pointer (some p))).run prog W=.ok (.slice A n c) W:=by go_simp
def zCI {o:Oper} {a:Act} {x:Operand} (ho:o.op=.load 29 x) {p:Addr} (hx:a.eval x=.pointer (some p)) {A:Option Addr} {n c:Nat} {w:World} (h:w.cell? p=some (.slice A n c)):(execOp a.eval o).run prog w=.ok (.value (.slice A n c)) w:=by simp[execOp,ho,hx,zTs w p A n c h]
def zIJ {o:Oper} {a:Act} {x:Operand} (ho:o.op=.call { callee:=.builtin .len,args:= #[x],argTypes:= #[29] }) {A:Option Addr} {n c:Nat} (hx:a.eval x=.slice A n c) (w:World):(execOp a.eval o).run prog w=.ok (.value (.int .i64 (n:Int))) w:=by simp[execOp,ho,resolve,invoke,builtin,hx,Result.andThen,Builtin.len_,goInt]
def zOk {o:Oper} {a:Act} {x0 x1 x2 x3 x5 x4:Operand} (ho:o.op=.build 47 #[(0,x0),(1,x1),(2,x2),(3,x3),(5,x5),(4,x4)]) {v0 v1 v2 v3 v5 v4:Value} (h0:a.eval x0=v0) (h1:a.eval x1=v1) (h2:a.eval x2=v2) (h3:a.eval x3=v3) (h5:a.eval x5=v5) (h4:a.eval x4=v4)
 {cs:Array Value} (hf:prog.built 47 [(0,v0),(1,v1),(2,v2),(3,v3),(5,v5),(4,v4)]=some cs) (w:World):(execOp a.eval o).run prog w=.ok (.value (.agg cs)) w:=by simp only[execOp,ho,Sem.run_bind,run_build w 47 (#[(0,x0),(1,x1),(2,x2),(3,x3),(5,x5),(4,x4)].map λ(i,x)=>(i,a.eval x)) cs (by simpa [h0,h1,h2,h3,h4,h5] using hf),Result.andThen_ok,Sem.run_pure]
def zQa (wd hi pt ev:Int) (q cs1 cs2:List Int) {w:World} {s1 s2:Value} {n1 n2:Nat} {xs1 xs2:List Value} (h1:SL w 1 s1 n1 xs1) (h2:SL w 1 s2 n2 xs2):(xG wd hi pt q (zV cs1 s1) (zV cs2 s2) ev (.slice none 0 0)).toArray.all (·.oneCell')=true:=by obtain⟨A,c,rfl,-⟩:=h1;obtain⟨B,d,rfl,-⟩:=h2;exact zEd ⟨wd,hi,pt,q,cs1,[],cs2,[],ev,[]⟩ A B none _ _ _ _ _ _
def zDZ {S:Nat→Prop} {w w':World} {sz n:Nat} {v:Value} {xs:List Value} (h:SL w sz v n xs) (hu:Upd S w w') (hS:∀b,v.ownBlock=some b→¬S b):SL w' sz v n xs:=by have h':=h;obtain⟨A,c,rfl,-⟩:=h';exact SL.upd h hu (λad e=>hS ad.block (by rw[zCT,e];rfl))
def zJL {w:World} {sz n g:Nat} {v:Value} {xs:List Value} (h:SL w sz v n xs) (hg:w.heap.size≤g):n=0∨∀b,v.ownBlock=some b→b≠g:=by
 by_cases hn:n=0
 ·exact .inl hn
 have h':=h;obtain⟨A,c,rfl,-⟩:=h';obtain⟨ad,rfl,hb,-⟩:=h.part (k:=0) (by omega);refine .inr (λb e=> ?_);have e':some ad.block=some b:=e;injection e' with e'
 omega
def zFy {w w':World} {sz n g:Nat} {v:Value} {xs:List Value} (h:SL w sz v n xs) (hu:Upd (λb=>b=g) w w') (hz:n=0∨∀b,v.ownBlock=some b→b≠g):SL w' sz v n xs:=by
 rcases hz with hz | hz
 ·obtain⟨A,c,e,h1,h2,h3,-⟩:=h;exact⟨A,c,e,h1,h2,h3,λh0=>absurd hz (by omega)⟩
 exact zDZ h hu hz
def zMy (v:Value):Prop:=∀x,v≠.int .u8 x
def zUe {w:World} {g:Nat} {T:TypeId} {cs:Array Value} (hb:Blk w g T cs) (hc:∀v∈cs.toList,zMy v) {ad:Addr} {x:Int} (h:w.cell? ad=some (.int .u8 x)):ad.block≠g:=by
 rintro rfl;unfold World.cell? at h;unfold Blk at hb;rw[hb] at h;dsimp only at h;split at h
 ·cases h
 exact hc _ (by simpa using wT6 h) x rfl
def zTA (l:List Int):∀v∈ints l,zMy v:=by intro v hv x e;obtain⟨z,-,h⟩:=wD2.1 hv;rw[e] at h;cases h
def zQw (A:Option Addr) (n c:Nat):zMy (.slice A n c):=λ_ e=>by cases e
def zTT (F:FC) (A B C:Option Addr) (a b c d e f:Nat):∀v∈(F.cells (.slice A a b) (.slice B c d) (.slice C e f)).toList,zMy v:=by
 intro v hv;simp only[FC.cells,xG,zV,wD3,wI8,wR8,or_false] at hv;rcases hv with (((hv | hv) | (hv | hv)) | (hv | hv)) | (hv | hv)
 all_goals first | exact zTA _ v hv | (subst hv;exact zQw _ _ _) | (subst hv;intro x e;cases e)
def data_ne {w:World} {g:Nat} {T:TypeId} {F:FC} {A B C:Option Addr} {a b c d e f:Nat} (hb:Blk w g T (F.cells (.slice A a b) (.slice B c d) (.slice C e f))) {G:Option Addr} {k cp:Nat} {D:List Nat} (h:SL w 1 (.slice G k cp) k (zF D)):k=0∨∀b,(Value.slice G k cp).ownBlock=some b→b≠g:=by
 by_cases hk:k=0
 ·exact .inl hk
 obtain⟨ad,rfl,-,hc⟩:=h.part (k:=0) (by omega);have hl:(zF D).length=k*1:=by obtain⟨A',c',e,-,-,h3,-⟩:=h;exact h3
 refine .inr (λb e=> ?_);have e':some ad.block=some b:=e;injection e' with e'
 obtain⟨x,r,hD⟩:∃x r,D=x::r:=by
  cases D with
  | nil=>simp[zF] at hl;omega
  | cons x r=>exact⟨x,r,rfl⟩
 have h0:=hc 0 (.int .u8 x) (by rw[hD];simp[zF]);rw[←e'];have:=zUe hb (zTT F A B C a _ c d _ f) h0;simpa [yH] using this
def zRQ {w:World} {g:Nat} {T:TypeId} (hb:Blk w g T zFile) {G:Option Addr} {k cp:Nat} {D:List Nat} (h:SL w 1 (.slice G k cp) k (zF D)):k=0∨∀b,(Value.slice G k cp).ownBlock=some b→b≠g :=
 data_ne (F:=FC.zero) (A:=none) (B:=none) (C:=none) (a:=0) (b:=0) (c:=0) (d:=0) (e:=0) (f:=0) hb h
def zMV:zAn prog 44:=⟨_,func44,rfl,rfl⟩
attribute [local irreducible] bv zO xJ zL zAr zFile
def fenc_good (wd hi:Int) (L:List (List Int)) (A:Option Addr) (n c:Nat) (q:List Int) (hq:q.length=64) (e:Nat) (he:e≤100) (m0:Int) (w:World) (hm:w.cell? ⟨0,0,none⟩=some (.int .i64 m0)) (hr:RowsS w A n c L) (hE:(zO wd hi L q).1=0) :
 Calls prog 17 #[.agg (yX wd hi (.slice A n c)),.agg (bv q),.int .i64 (e:Int)] w (EncIs wd hi L q (e:Int) w):=by
 have H1:=zA (λW (h:Ext w W)=>zEl wd hi L A n c q hq W (hr.ext h));have hbe:=zLg wd hi L q;have hlen:=zKs wd hi L q hq;have hps:=zA (jB wd hi (.slice A n c));have hqs:=zA (show (bv q).size=64 by rw[zK,hq]);have hzs:=zA zBb;have hz0:=zCH;have HQ:=zA hq;have HM:=zA hm;have H21:Hid (decide ((e:Int)<0)=false):=zA (wS3 (by omega));have H24:Hid (decide ((100:Int)<(e:Int))=false):=zA (wS3 (by omega));have HLN:=zA hr.len;unfold FrmIs at H1
 have HEF:Hid (∀cs1 xs1 cs2 xs2 F,zDJ (xJ (zO wd hi L q).2.1 e (zO wd hi L q).2.2 (zL (zO wd hi L q).2.1 e)).1 cs1 xs1→zDJ (xJ (zO wd hi L q).2.1 e (zO wd hi L q).2.2 (zL (zO wd hi L q).2.1 e)).2 cs2 xs2→cs1.length=16→cs2.length=16 →
  (F=if (zAr cs1 xs1 cs2 xs2 (e:Int) (zO wd hi L q).2.1 (zO wd hi L q).2.2).1=0 then ⟨wd,hi,L.length,q,cs1,xs1,cs2,xs2,(e:Int),(zAr cs1 xs1 cs2 xs2 (e:Int) (zO wd hi L q).2.1 (zO wd hi L q).2.2).2⟩ else FC.zero) →
  zDP wd hi L q (e:Int) (zAr cs1 xs1 cs2 xs2 (e:Int) (zO wd hi L q).2.1 (zO wd hi L q).2.2).1 F):=zA (λcs1 xs1 cs2 xs2 F h1 h2 h3 h4 h5=>by
  unfold zDP;rw[if_neg (by simpa using hE),if_neg (by omega),wD7]
  exact⟨cs1,xs1,cs2,xs2,h1,h2,h3,h4,rfl,h5⟩)
 generalize zO wd hi L q=z at *;obtain⟨E,m,Z⟩:=z;dsimp only at H1 HEF hE hbe hlen;subst hE;have HTB:=zA (λW (B:Option Addr) (d:Nat) (h:SL W 64 (.slice B m d) m (ints Z))=>zTz e m (by omega) B d Z hlen hbe W h);have HPC:=zA (λ(W:World) g (h:Blk W g 31 (yX wd hi (.slice A n c)))=>zAM h);generalize yX wd hi (.slice A n c)=pv at *;obtain⟨qv,hqv⟩:∃v,bv q=v:=⟨_,rfl⟩
 rw[hqv] at hqs H1 ⊢;have HQV:=zA hqv;clear hr hq hm hqv;go_enter func17,ntmps17
 go_upto_region 6 with (first
  | ((with_reducible apply gS 3);refine wBox rfl 31 (.tmp 0) rfl pv rfl ?_;intro w1 g1 hb1 hx1 hg1)
  | ((with_reducible apply gS 4);refine wBox rfl 33 (.tmp 1) rfl qv rfl ?_;intro w2 g2 hb2 hx2 hg2;have hb12:=hb1.ext hx2;have hx12:=hx1.trans hx2)
  | ((with_reducible apply gS 6);refine wAlo' rfl (some 6) rfl 47 rfl _ hz0 ?_;intro w3 g0 hb0 hx3 hg0;have hb13:=hb12.ext hx3;have hb23:=hb2.ext hx3;have hx13:=hx12.trans hx3)
  | ((with_reducible apply gS 12);refine wLdB rfl 31 (.tmp 3) rfl g1 rfl hb13 _ underlying31 rfl 3 qY hps.out ?_)
  | ((with_reducible apply gS 13);refine wLdB rfl 33 (.tmp 4) rfl g2 rfl hb23 _ underlying33 rfl 64 zJ hqs.out ?_)
  | (go_at_call 13;(with_reducible refine (H1.out _ hx13).mono ?_);rintro e4 w4 ⟨B4,d4,rfl,hs4,hx4⟩)
  | ((with_reducible apply gS 21);refine xV (by rfl) (.bool false) (yB rfl rfl rfl H21.out) ?_)
  | ((with_reducible apply gS 24);refine xV (by rfl) (.bool false) (xY rfl rfl rfl H24.out) ?_))
 have hp4:=hb13.ext hx4;have hq4:=hb23.ext hx4;have hx04:=hx13.trans hx4
 try simp only[Act.put,sA,sB,sC]
 go_cut [10] from 31 to 43 (λpv wx=>∃gf cs1 xs1 s1 cs2 xs2 s2,pv=.pointer (some ⟨gf,0,none⟩)∧Blk wx gf 47 (xG wd hi (n:Int) q (zV cs1 s1) (zV cs2 s2) (e:Int) (.slice none 0 0)).toArray∧zDJ (xJ m e Z (zL m e)).1 cs1 xs1∧zDJ (xJ m e Z (zL m e)).2 cs2 xs2∧cs1.length=16∧cs2.length=16∧SL wx 1 s1 xs1.length (ints xs1)∧SL wx 1 s2 xs2.length (ints xs2)∧(∀b,s1.ownBlock=some b→w4.heap.size≤b)∧(∀b,s2.ownBlock=some b→w4.heap.size≤b)∧(xs1.length=0∨∀b,s1.ownBlock=some b→b≠gf)∧(xs2.length=0∨∀b,s2.ownBlock=some b→b≠gf)∧w4.heap.size≤gf∧Ext w4 wx)
 case first =>
  have hI:Ext w4.drew w4.drew:=Ext.refl _;refine vI (λk=>k ==1 ||k ==3 ||k ==5 ||k ==6 ||k ==7 ||k ==11 ||k ==13) (Ext w4.drew) (by kernel_rfl) ?_;refine zI (k:=0) (by kernel_rfl) rfl (by rfl) (.pointer (some ⟨g1,0,none⟩)) (λw=>by go_simp) ?_;simp only[sP,sB,sC];refine zI (k:=2) (by kernel_rfl) rfl (by rfl) (.pointer (some ⟨g1,1,none⟩)) (λw=>by go_simp) ?_;simp only[sP,sB,sC];refine zI (k:=4) (by kernel_rfl) rfl (by rfl) (.pointer (some ⟨g1,2,none⟩)) (λw=>by go_simp) ?_;simp only[sP,sB,sC];refine zI (k:=8) (by kernel_rfl) rfl (by rfl) (.int .i64 (e:Int)) (zD rfl rfl) ?_;simp only[sP,sB,sC];refine zI (k:=9) (by kernel_rfl) rfl (by rfl) (.slice B4 m d4) (zD rfl rfl) ?_;simp only[sP,sB,sC];refine zI (k:=10) (by kernel_rfl) rfl (by rfl) (.int .i64 (e:Int)) (zD rfl rfl) ?_;simp only[sP,sB,sC];refine vR (k:=1) (by kernel_rfl) rfl (by rfl) (.int .i64 wd) (λW hW=>zS rfl rfl (HPC.out W g1 (hp4.drew.ext hW)).1) hI ?_;simp only[Act.put,sA,sB,sC];refine vR (k:=3) (by kernel_rfl) rfl (by rfl) (.int .i64 hi) (λW hW=>zS rfl rfl (HPC.out W g1 (hp4.drew.ext hW)).2.1) hI ?_;simp only[Act.put,sA,sB,sC];refine vR (k:=5) (by kernel_rfl) rfl (by rfl) (.slice A n c) (λW hW=>zCI rfl rfl (HPC.out W g1 (hp4.drew.ext hW)).2.2) hI ?_;simp only[Act.put,sA,sB,sC];refine vR (k:=7) (by kernel_rfl) rfl (by rfl) (.agg qv) (λW hW=>uT rfl rfl (hq4.drew.ext hW) underlying33 rfl zJ hqs.out) hI ?_;simp only[Act.put,sA,sB,sC];refine vR (k:=6) (by kernel_rfl) rfl (by rfl) (.int .i64 (n:Int)) (λW _=>zIJ rfl rfl W) hI ?_;simp only[Act.put,sA,sB,sC];refine zNJ (k:=11) (l:=13) (by kernel_rfl) rfl rfl ?_ ?_
  · --
    refine xK (by rfl) (xL _ _ _ rfl rfl zMV #[.slice B4 m d4,.int .i64 (e:Int)] (by simp[Act.eval])) ?_;refine (HTB.out _ B4 d4 (hs4.drew)).mono ?_;rintro _ w6 ⟨cs1,xs1,s1,cs2,xs2,s2,rfl,hm1,hm2,l1,l2,hs1,hs2,ho1,ho2,hx6⟩;refine⟨_,rfl,zZ ⟨λ_=>hx6, ?_⟩⟩;simp only[Act.put,sA,sB,sC];refine zI (k:=12) (by kernel_rfl) rfl (by rfl) (.agg (xG wd hi (n:Int) q (zV cs1 s1) (zV cs2 s2) (e:Int) (.slice none 0 0)).toArray) (zOk rfl rfl rfl rfl rfl rfl rfl (by rw[←HQV.out];exact zNH wd hi (n:Int) (e:Int) q HQ.out _ _ (zU _ _ l1) (zU _ _ l2))) ?_;simp only[sP,sB,sC];refine xZ (k:=13) (by kernel_rfl) rfl ?_;refine wAlo' rfl (some 10) rfl 47 rfl _ hz0 ?_;intro w5 gf hbf hy hgf;refine zZ ⟨λ_=>hx6.trans hy, ?_⟩;simp only[Act.put,sA,sB,sC];have hsz:=zFA wd hi (n:Int) q (zV cs1 s1) (zV cs2 s2) (e:Int) (.slice none 0 0) HQ.out (zU _ _ l1) (zU _ _ l2);have hon:=zQa wd hi (n:Int) (e:Int) q cs1 cs2 hs1 hs2;refine xZ (k:=14) (by kernel_rfl) rfl ?_;refine wStB rfl 47 (.tmp 10) (.tmp 43) rfl gf _ rfl rfl hbf 103 yO hsz hzs.out hon ?_;intro w7 hb7 hg7;refine zZ ⟨λh=>(by cases h), ?_⟩;simp only[Act.put,sA,sB,sC];refine zAK (by kernel_rfl) ?_;go_wp2_with fail;go_meet;have hx7:=hy.grown hg7 hgf;refine⟨gf,cs1,xs1,s1,cs2,xs2,s2,rfl,hb7,hm1,hm2,l1,l2,hs1.ext hx7,hs2.ext hx7,ho1,ho2,zJL hs1 hgf,zJL hs2 hgf,by have:=hx6.size;have:w4.drew.heap.size=w4.heap.size:=rfl;omega,(Ext.refl w4).drew.trans (hx6.trans hx7)⟩
  · --
    refine wAlo' rfl (some 10) rfl 47 rfl _ hz0 ?_;intro w5 gf hbf hy hgf;refine zZ ⟨λ_=>hy, ?_⟩;simp only[Act.put,sA,sB,sC];refine xZ (k:=11) (by kernel_rfl) rfl ?_;refine xK (by rfl) (xL _ _ _ rfl rfl zMV #[.slice B4 m d4,.int .i64 (e:Int)] (by simp[Act.eval])) ?_;refine (HTB.out _ B4 d4 (hs4.drew.ext hy)).mono ?_;rintro _ w6 ⟨cs1,xs1,s1,cs2,xs2,s2,rfl,hm1,hm2,l1,l2,hs1,hs2,ho1,ho2,hx6⟩;refine⟨_,rfl,zZ ⟨λ_=>hy.trans hx6, ?_⟩⟩;simp only[Act.put,sA,sB,sC];refine zI (k:=12) (by kernel_rfl) rfl (by rfl) (.agg (xG wd hi (n:Int) q (zV cs1 s1) (zV cs2 s2) (e:Int) (.slice none 0 0)).toArray) (zOk rfl rfl rfl rfl rfl rfl rfl (by rw[←HQV.out];exact zNH wd hi (n:Int) (e:Int) q HQ.out _ _ (zU _ _ l1) (zU _ _ l2))) ?_;simp only[sP,sB,sC];have hsz:=zFA wd hi (n:Int) q (zV cs1 s1) (zV cs2 s2) (e:Int) (.slice none 0 0) HQ.out (zU _ _ l1) (zU _ _ l2);have hon:=zQa wd hi (n:Int) (e:Int) q cs1 cs2 hs1 hs2;refine xZ (k:=14) (by kernel_rfl) rfl ?_;refine wStB rfl 47 (.tmp 10) (.tmp 43) rfl gf _ rfl rfl (hbf.ext hx6) 103 yO hsz hzs.out hon ?_;intro w7 hb7 hg7;refine zZ ⟨λh=>(by cases h), ?_⟩;simp only[Act.put,sA,sB,sC];refine zAK (by kernel_rfl) ?_;go_wp2_with fail;go_meet;have hlt:=hbf.lt;have hu7:=zM hg7;have hy5:=hy.size;have hd4:w4.drew.heap.size=w4.heap.size:=rfl;refine⟨gf,cs1,xs1,s1,cs2,xs2,s2,rfl,hb7,hm1,hm2,l1,l2,zDZ hs1 hu7 (λb h e=>by injection e with e;have:=ho1 b h;omega),zDZ hs2 hu7 (λb h e=>by injection e with e;have:=ho2 b h;omega),(λb h=>by have:=ho1 b h;omega),(λb h=>by have:=ho2 b h;omega),.inr (λb h=>by have:=ho1 b h;omega),.inr (λb h=>by have:=ho2 b h;omega),hgf,(Ext.refl w4).drew.trans ((hy.trans hx6).grown hg7 hgf)⟩
 case rest =>
 obtain⟨gf,cs1,xs1,s1,cs2,xs2,s2,e1,hbf,hm1,hm2,l1,l2,hs1,hs2,hw1,hw2,hz1,hz2,hgf,hx5⟩:=hcut;subst e1;have HSC:=zA (λW (g1:SL W 1 s1 xs1.length (ints xs1)) (g2:SL W 1 s2 xs2.length (ints xs2)) (g3:W.cell? ⟨0,0,none⟩=some (.int .i64 m0)) (g4:SL W 64 (.slice B4 m d4) m (ints Z))=>scanE_any cs1 xs1 cs2 xs2 s1 s2 l1 l2 B4 m d4 Z hlen (e:Int) m0 W g3 g1 g2 g4);have HEF2:=zA (λF=>HEF.out cs1 xs1 cs2 xs2 F hm1 hm2 l1 l2);have hL1:=zU cs1 s1 l1;have hL2:=zU cs2 s2 l2;have HL3:=zA (show (zV cs1 s1++zV cs2 s2).length=34 by rw[wE2,hL1,hL2]);have HFB:=zA (zBX hbf HQ.out hL1 hL2);have hx05:=hx04.trans hx5;have hm5:=uG HM.out hx05;have hs5:=hs4.ext hx5;generalize zAr cs1 xs1 cs2 xs2 (e:Int) m Z=r at *;obtain⟨E,D⟩:=r;dsimp only at HEF2;unfold zGO at HSC;dsimp only at HSC;have hb4:=hb0.ext (hx4.trans hx5);have hg0f:g0≠gf:=by have h1:=hb0.lt;have h2:=hx4.size;omega
 have hg04:g0<w4.heap.size:=by have h1:=hb0.lt;have h2:=hx4.size;omega
 have hgf0:w.heap.size≤gf:=by have h1:=hx04.size;omega
 have hg00:w.heap.size≤g0:=by have h1:=hx12.size;omega
 have hw1':∀b,s1.ownBlock=some b→b≠g0:=λb h=>by have:=hw1 b h;omega
 have hw2':∀b,s2.ownBlock=some b→b≠g0:=λb h=>by have:=hw2 b h;omega
 have hn1:=zA (show NewB w s1 from λb h=>by have:=hw1 b h;have:=hx04.size;omega);have hn2:=zA (show NewB w s2 from λb h=>by have:=hw2 b h;have:=hx04.size;omega);obtain⟨A1,c1,ee1,-⟩:=id hs1;obtain⟨A2,c2,ee2,-⟩:=id hs2;subst ee1 ee2;clear hb1 hx1 hg1 hb2 hx2 hg2 hb12 hx12 hb0 hx3 hg0 hb13 hb23 hx13 hs4 hx4 hp4 hq4 hx04 hx5 hw1 hw2 hgf HTB HPC H1 HM hbe hlen
 by_cases h0:E=0
 ·subst h0;have HF:=zA (show (⟨wd,hi,(n:Int),q,cs1,xs1,cs2,xs2,(e:Int),[]⟩:FC).shaped from ⟨HQ.out,l1,l2⟩);have HF2:=zA (show (⟨wd,hi,(n:Int),q,cs1,xs1,cs2,xs2,(e:Int),D⟩:FC).shaped from ⟨HQ.out,l1,l2⟩)
  go_upto_region 10 with (first
   | ((with_reducible apply gS 46);refine wpList_load_mid rfl 44 (.tmp 45) rfl gf 67 rfl (zV cs1 (.slice A1 xs1.length c1)++zV cs2 (.slice A2 xs2.length c2)) _ HFB.out.tt underlying44 rfl (by rw[HL3.out];exact qG) ?_)
   | (go_at_call 45;(with_reducible refine (HSC.out _ hs1 hs2 hm5 hs5).mono ?_);rintro e6 w6 ⟨hx6,hC⟩;rw[if_pos rfl] at hC;obtain⟨B6,k6,d6,rfl,hk6,hD6,-⟩:=hC)
   | ((with_reducible apply gT 52 50);refine zFf rfl (.tmp 52) (.tmp 50) rfl gf ⟨wd,hi,(n:Int),q,cs1,xs1,cs2,xs2,(e:Int),[]⟩ HF.out (.slice A1 xs1.length c1) (.slice A2 xs2.length c2) (.slice none 0 0) D B6 k6 d6 rfl rfl (hbf.ext hx6) ?_;intro w7 hb7 hu7))
  have hsz7:=zA (FC.size HF2.out (.slice A1 xs1.length c1) (.slice A2 xs2.length c2) (.slice B6 k6 d6));have hon7:=zA (zEd (⟨wd,hi,(n:Int),q,cs1,xs1,cs2,xs2,(e:Int),D⟩:FC) A1 A2 B6 xs1.length c1 xs2.length c2 k6 d6);have hf6:Blk w6 gf 47 (FC.cells ⟨wd,hi,(n:Int),q,cs1,xs1,cs2,xs2,(e:Int),[]⟩ (.slice A1 xs1.length c1) (.slice A2 xs2.length c2) (.slice none 0 0)):=hbf.ext hx6;have hkD:=data_ne hf6 hD6;have hd7:=zFy hD6 hu7 hkD;have ht1:=zFy (hs1.ext hx6) hu7 hz1;have ht2:=zFy (hs2.ext hx6) hu7 hz2;have hb47:Blk w7 g0 47 zFile:=hu7.blk (hb4.ext hx6) hg0f;have hkD0:=zRQ hb47 hd7;have hx07:Ext w w7:=hu7.ext (hx05.trans hx6) (λx hx=>by rw[hx];exact hgf0);have HE:=zA (HEF2.out (⟨wd,hi,(n:Int),q,cs1,xs1,cs2,xs2,(e:Int),D⟩:FC))
  have HR:Hid (∀W,Upd (λb=>b=g0) w7 W→EncIs wd hi L q (e:Int) w (.returned (.tuple #[.agg (FC.cells ⟨wd,hi,(n:Int),q,cs1,xs1,cs2,xs2,(e:Int),D⟩ (.slice A1 xs1.length c1) (.slice A2 xs2.length c2) (.slice B6 k6 d6)),.int .i64 0])) W):=zA (λW hu=>by
   refine⟨0,_,_,_,_,rfl,HF2.out,⟨zDZ ht1 hu hw1',zDZ ht2 hu hw2', ?_⟩,HE.out (by rw[HLN.out];rfl),hu.ext hx07 (λx hx=>by rw[hx];exact hg00),hn1.out,hn2.out⟩;have h9:=zFy hd7 hu hkD0;show SL W 1 (.slice B6 k6 d6) D.length (zF D)
   rw[hk6]
   exact h9)
  generalize FC.cells ⟨wd,hi,(n:Int),q,cs1,xs1,cs2,xs2,(e:Int),D⟩ (.slice A1 xs1.length c1) (.slice A2 xs2.length c2) (.slice B6 k6 d6)=fc at *
  go_wp2_with (first
   | ((with_reducible apply gS 57);refine wLdB rfl 47 (.tmp 10) rfl gf rfl hb7 _ underlying47 rfl 103 yO hsz7.out ?_)
   | ((with_reducible apply gT 6 57);refine wStB rfl 47 (.tmp 6) (.tmp 57) rfl g0 fc rfl rfl hb47 103 yO hsz7.out hzs.out hon7.out ?_;intro w8 hb8 hg8))
  exact yN rfl rfl g0 rfl hb8 _ underlying47 rfl 103 yO hsz7.out (HR.out _ (zAA (zM hg8) (λx h=>by injection h with h;exact h.symm)))
 have HF:=zA (show (⟨wd,hi,(n:Int),q,cs1,xs1,cs2,xs2,(e:Int),[]⟩:FC).shaped from ⟨HQ.out,l1,l2⟩);have HNE:=zA h0;have hbz:=zA zFj;have HE:=zA (HEF2.out FC.zero (by rw[if_neg h0]));have HR:=zA (λW (h:Ext w W)=>EncIs.zero (wd:=wd) (hi:=hi) (L:=L) (q:=q) (nn:=(e:Int)) (E:=E) (w:=w) (w':=W) HE.out h);have h54:Hid ((E !=0)=true):=zA (by simpa using h0);clear h0
 go_wp2_with (first
  | ((with_reducible apply gS 46);refine wpList_load_mid rfl 44 (.tmp 45) rfl gf 67 rfl (zV cs1 (.slice A1 xs1.length c1)++zV cs2 (.slice A2 xs2.length c2)) _ HFB.out.tt underlying44 rfl (by rw[HL3.out];exact qG) ?_)
  | (go_at_call 45;(with_reducible refine (HSC.out _ hs1 hs2 hm5 hs5).mono ?_);rintro e6 w6 ⟨hx6,hC⟩;rw[if_neg HNE.out] at hC;subst hC)
  | ((with_reducible apply gT 52 50);refine zFf rfl (.tmp 52) (.tmp 50) rfl gf ⟨wd,hi,(n:Int),q,cs1,xs1,cs2,xs2,(e:Int),[]⟩ HF.out (.slice A1 xs1.length c1) (.slice A2 xs2.length c2) (.slice none 0 0) [] none 0 0 rfl rfl (hbf.ext hx6) ?_;intro w7 hb7 hu7;have hb47:Blk w7 g0 47 zFile:=hu7.blk (hb4.ext hx6) hg0f;have hx07:Ext w w7:=hu7.ext (hx05.trans hx6) (λx hx=>by rw[hx];exact hgf0))
  | ((with_reducible apply gS 54);refine zB rfl (.bool true) (jW rfl rfl rfl (by simpa using HNE.out)) ?_)
  | ((with_reducible apply gS 55);refine jI (by rfl) 47 rfl _ hbz.out ?_)
  | ((with_reducible apply gT 6 55);refine wStB rfl 47 (.tmp 6) (.tmp 55) rfl g0 zFile rfl rfl hb47 103 yO hzs.out hzs.out zDn ?_;intro w8 hb8 hg8))
 exact yN rfl rfl g0 rfl hb8 _ underlying47 rfl 103 yO hzs.out (HR.out _ (hx07.grown hg8 (by omega)))
def zRP (wd hi:Int) (L:List (List Int)) (A:Option Addr) (n c:Nat) (q:List Int) (hq:q.length=64) (nn:Int) (m0:Int) (w:World) (hm:w.cell? ⟨0,0,none⟩=some (.int .i64 m0)) (hr:RowsS w A n c L) :
 Calls prog 17 #[.agg (yX wd hi (.slice A n c)),.agg (bv q),.int .i64 nn] w (EncIs wd hi L q nn w):=by
 by_cases hE:(zO wd hi L q).1=0
 ·by_cases h1:nn<0
  ·exact fenc_low wd hi L A n c q hq nn w hr hE h1
  by_cases h2:100<nn
  ·exact fenc_high wd hi L A n c q hq nn w hr hE ⟨h1,h2⟩
  obtain⟨e,rfl⟩:∃e:Nat,nn=(e:Int):=⟨nn.toNat,by omega⟩
  exact fenc_good wd hi L A n c q hq e (by omega) m0 w hm hr hE
 exact fenc_bad wd hi L A n c q hq nn w hr hE
end
def zHI {B:Nat}:∀(r:List Nat) (P:List (List Nat)) (M c:List Nat) (z:List (List Nat)×List Nat),xW r P M c=some z→(∀p∈P,p.length≤B∧∀b∈p,b<256)→c.length+r.length≤B→(∀b∈c,b<256)→(∀b∈r,b<256)→∀p∈z.1,p.length≤B∧∀b∈p,b<256
 | [],P,M,c,z,h,hP,hB,hc,hr=>by
   simp[xW] at h;subst h;intro p hp;rcases wD3.1 hp with hp | hp
   ·exact hP p hp
   simp at hp;subst hp;exact⟨by simpa using hB,hc⟩
 | [x],P,M,c,z,h,hP,hB,hc,hr=>by
   simp only[xW] at h;split at h
   ·cases h
   simp at h;subst h;intro p hp;rcases wD3.1 hp with hp | hp
   ·exact hP p hp
   simp at hp;subst hp;refine⟨by simpa using hB,λb hb=> ?_⟩;rcases wD3.1 hb with hb | hb
   ·exact hc b hb
   simp at hb;subst hb;exact hr b (by simp)
 | x::y::r,P,M,c,z,h,hP,hB,hc,hr=>by
   simp only[xW] at h;simp only[wA8] at hB;split at h
   ·split at h
    ·cases h
    split at h
    ·refine zHI r P M (c++[255,0]) z h hP (by simp;omega) (λb hb=> ?_) (λb hb=>hr b (by simp[hb]));rcases wD3.1 hb with hb | hb
     ·exact hc b hb
     simp at hb;omega
    refine zHI r (P++[c]) (M++[y]) [] z h (λp hp=> ?_) (by simp;omega) (by simp) (λb hb=>hr b (by simp[hb]));rcases wD3.1 hp with hp | hp
    ·exact hP p hp
    simp at hp;subst hp;exact⟨by omega,hc⟩
   refine zHI (y::r) P M (c++[x]) z h hP (by simp;omega) (λb hb=> ?_) (λb hb=>hr b (wR9 _ hb));rcases wD3.1 hb with hb | hb
   ·exact hc b hb
   simp at hb;subst hb;exact hr b (by simp)
def uI:List Nat→Nat→Bool
 | [],_=>true
 | m::r,i=>decide (m=208+i%8)&&uI r (i+1)
def zUh {M:List Nat} {i:Nat} (h:i<M.length):uI (M.drop i) i=(decide (M[i]=208+i%8)&&uI (M.drop (i+1)) (i+1)):=by rw[wH0 h,uI]
def zTR {M:List Nat} {i:Nat} (h:M.length≤i):uI (M.drop i) i=true:=by rw[wG3 h,uI]
def yT (n e i:Nat):Nat:=min (n-i*yM n e) (yM n e)
def zBv (n e:Nat) (P:List (List Nat)) (M:List Nat):Int:=if P.length≠zL n e then 4 else if uI M 0 then 0 else 6
def zBu (T1 T2:List Tok) (n e:Nat) (P:List (List Nat)):Nat→Nat→List Int→Int×List Int
 | 0,_,acc=>(0,acc)
 | m+1,i,acc=>if (vQ true T1 T2 ((yT n e i:Nat):Int) (plZ (P.getD i []))).1≠0 then ((vQ true T1 T2 ((yT n e i:Nat):Int) (plZ (P.getD i []))).1,[]) else zBu T1 T2 n e P m (i+1) (acc++(vQ true T1 T2 ((yT n e i:Nat):Int) (plZ (P.getD i []))).2)
def sdGo_err {T1 T2:List Tok} {n e:Nat} {P:List (List Nat)} {m i:Nat} {acc:List Int} {r:Int×List Int} (hr:vQ true T1 T2 ((yT n e i:Nat):Int) (plZ (P.getD i []))=r) (h:r.1≠0):zBu T1 T2 n e P (m+1) i acc=(r.1,[]):=by rw[zBu,hr,if_pos h]
def sdGo_ok {T1 T2:List Tok} {n e:Nat} {P:List (List Nat)} {m i:Nat} {acc:List Int} {r:Int×List Int} (hr:vQ true T1 T2 ((yT n e i:Nat):Int) (plZ (P.getD i []))=r) (h:r.1=0):zBu T1 T2 n e P (m+1) i acc=zBu T1 T2 n e P m (i+1) (acc++r.2):=by rw[zBu,hr,if_neg (by simp[h])]
def zHs {r:Bool} {T1 T2:List Tok} {N:Nat} {z:Option (List Nat)} (h:(vQ r T1 T2 (N:Int) z).1=0):(vQ r T1 T2 (N:Int) z).2.length=N*64:=by
 unfold vQ at h ⊢;split at h
 ·cases h
 next hn =>
 rw[if_neg hn]
 cases z with
 | none=>cases h
 | some pb =>
   dsimp only at h ⊢;rw[wD7] at h ⊢;unfold zEC at h ⊢;split at h
   ·next h1=>exact absurd h h1
   next h1 =>
   rw[if_neg h1];split at h
   ·cases h
   next h2 =>
   rw[if_neg h2];have:=zPz (next:=xD r T1 T2 (zN pb)) N 0 0 [] 0 rfl (by simpa using h1);simpa using this
def zBB (T1 T2:List Tok) (n e:Nat) (bs:List Nat):Int×List Int :=
 match xW bs [] [] [] with
 | none=>(4,[])
 | some (P,M)=>if zBv n e P M≠0 then (zBv n e P M,[]) else zBu T1 T2 n e P (zL n e) 0 []
def uQ (T1 T2:List Tok) (n e:Nat) (P:List (List Nat)) (i:Nat):Int×List Int:=if i<P.length then vQ true T1 T2 ((yT n e i:Nat):Int) (plZ (P.getD i [])) else (5,[])
def zBh (T1 T2:List Tok) (n e:Nat) (P:List (List Nat)) (i:Nat):List Int:=if (uQ T1 T2 n e P i).1=0 then (uQ T1 T2 n e P i).2 else List.replicate (yT n e i*64) 0
def vG (T1 T2:List Tok) (n e:Nat) (P:List (List Nat)):Nat→List Int×List Int
 | 0=>([],[])
 | k+1=>((vG T1 T2 n e P k).1++zBh T1 T2 n e P k,if (uQ T1 T2 n e P k).1=0 then (vG T1 T2 n e P k).2 else (vG T1 T2 n e P k).2++[(k:Int)])
def zVK {T1 T2:List Tok} {n e:Nat} {P:List (List Nat)} {i:Nat} (h:(uQ T1 T2 n e P i).1=0):(uQ T1 T2 n e P i).2.length=yT n e i*64:=by
 unfold uQ at h ⊢
 by_cases hi:i<P.length
 ·rw[if_pos hi] at h ⊢;exact zHs h
 rw[if_neg hi] at h;exact absurd h (by decide)
def zJn {T1 T2:List Tok} {n e:Nat} {P:List (List Nat)} {i:Nat}:(zBh T1 T2 n e P i).length=yT n e i*64:=by
 unfold zBh
 by_cases h:(uQ T1 T2 n e P i).1=0
 ·rw[if_pos h];exact zVK h
 rw[if_neg h];simp
def atK (n e i:Nat):Nat:=min (i*yM n e) n
def zHU (n e:Nat):atK n e 0=0:=by unfold atK;simp
def zMt (n e i:Nat):atK n e i≤n:=by unfold atK;omega
def zBG {n e i:Nat} (h:i<zL n e):atK n e (i+1)=atK n e i+yT n e i:=by have h1:=zGC h;unfold atK yT;rw[wS5];omega
def cutK_end (n e:Nat):n≤zL n e*yM n e:=by
 by_cases h:e=0∨n=0
 ·rw[(zDm h).1,(zDm h).2];omega
 have h1:=zFi (i:=zL n e) h;have h2:¬zL n e*e<n:=λh3=>by have:=h1.2 h3;omega
 rw[(zFn h).1];omega
def zDj (n e:Nat):atK n e (zL n e)=n:=by have:=cutK_end n e;unfold atK;omega
def zJg {T1 T2:List Tok} {n e:Nat} {P:List (List Nat)}:∀k,k≤zL n e→(vG T1 T2 n e P k).1.length=atK n e k*64
 | 0,_=>by rw[zHU];rfl
 | k+1,h=>by
   rw[zBG (by omega),wE3,vG];show ((vG T1 T2 n e P k).1++zBh T1 T2 n e P k).length=_
   rw[wE2,zJg k (by omega),zJn]
def zLp {T1 T2:List Tok} {n e:Nat} {P:List (List Nat)} {k:Nat} {r:Int×List Int} (hr:uQ T1 T2 n e P k=r) (h:r.1=0):vG T1 T2 n e P (k+1)=((vG T1 T2 n e P k).1++r.2,(vG T1 T2 n e P k).2):=by rw[vG,zBh,hr,if_pos h,if_pos h]
def zPl {T1 T2:List Tok} {n e:Nat} {P:List (List Nat)} {k:Nat} {r:Int×List Int} (hr:uQ T1 T2 n e P k=r) (h:r.1≠0):vG T1 T2 n e P (k+1)=((vG T1 T2 n e P k).1++List.replicate (yT n e k*64) 0,(vG T1 T2 n e P k).2++[(k:Int)]):=by rw[vG,zBh,hr,if_neg h,if_neg h]
def zRx {T1 T2:List Tok} {n e:Nat} {P:List (List Nat)}:∀(m i:Nat) (acc:List Int),i+m≤zL n e→acc.length=atK n e i*64→(zBu T1 T2 n e P m i acc).1=0→(zBu T1 T2 n e P m i acc).2.length=atK n e (i+m)*64
 | 0,i,acc,_,ha,_=>by rw[zBu];exact ha
 | m+1,i,acc,hi,ha,h=>by
   rw[zBu] at h ⊢
   by_cases h0:(vQ true T1 T2 ((yT n e i:Nat):Int) (plZ (P.getD i []))).1≠0
   ·rw[if_pos h0] at h;exact absurd h h0
   rw[if_neg h0] at h ⊢;have hl:=zHs (r:=true) (T1:=T1) (T2:=T2) (N:=yT n e i) (z:=plZ (P.getD i [])) (by omega);have:=zRx m (i+1) _ (by omega) (by rw[wE2,ha,hl,zBG (by omega),wE3]) h
   rwa [show i+(m+1)=i+1+m by omega]
def zMf (r:Int×List Int×List Int) (w:World) (e:Ending) (w':World):Prop :=
 Ext w w'∧if r.1=0 then ∃B k d C j c,e=.returned (.tuple #[.slice B k d,.slice C j c,.int .i64 0])∧r.2.1.length=k*64∧SL w' 64 (.slice B k d) k (ints r.2.1)∧r.2.2.length=j∧SL w' 1 (.slice C j c) j (ints r.2.2)∧∀ad,C=some ad→w.heap.size≤ad.block
  else e=.returned (.tuple #[.slice none 0 0,.slice none 0 0,.int .i64 r.1])
def zDg (T1 T2:List Tok) (x:Tok×Bool):List Bool:=zBm (if x.2 then T1 else T2) x.1.1++qD x.1.2.2.toNat x.1.2.1.toNat
def zLV (T1 T2:List Tok):∀(l:List (Tok×Bool)) (L:List Bool),(qB (yV T1 T2) l L).1=0 →
 (∀x∈l,(qL (if x.2 then T1 else T2) x.1.1).isSome=true)∧(qB (yV T1 T2) l L).2=L++l.flatMap (zDg T1 T2)
 | [],L,_=>by simp[qB]
 | (t,b)::r,L,h=>by
   by_cases h0:(yV T1 T2 L t b).1=0
   ·rw[zBC h0] at h ⊢;obtain⟨h1,h2⟩:=zLV T1 T2 r _ h
    cases hf:qL (if b then T1 else T2) t.1 with
    | none=>unfold yV at h0;rw[hf] at h0;cases h0
    | some u =>
      have e:(yV T1 T2 L t b).2=L++zDg T1 T2 (t,b):=by unfold yV zDg;rw[hf];simp
      refine⟨λx hx=> ?_, ?_⟩
      ·rcases wI8.1 hx with rfl | hx
       ·dsimp only;rw[hf];rfl
       exact h1 x hx
      rw[h2,e,wG2,wI7]
   rw[zDh h0] at h;exact absurd h h0
def zOv:∀(l:List Tok) (k:Nat),0<k→(l.zipIdx k).map (λp=>(p.1,p.2 ==0))=l.map λt=>(t,false)
 | [],_,_=>rfl
 | t::l,k,h=>by
   rw[wN2,wG6,wG6,zOv l (k+1) (by omega)];simp;omega
def zHj (t:Tok) (l:List Tok):zAP (t::l)=(t,true)::l.map λu=>(u,false):=by unfold zAP;rw[wN2,wG6,zOv l 1 (by omega)];rfl
def zLn:∀(l:List Int) (run:Nat),(∀x∈l,-2047≤x∧x≤2047)→∀t∈vC run l,zBk t=true
 | [],run,_,t,ht=>by
   unfold vC at ht;split at ht
   ·simp at ht;subst ht;exact zOR
   simp at ht
 | n::l,run,h,t,ht=>by
   rw[vC] at ht
   by_cases hn:n=0
   ·rw[if_pos hn] at ht;exact zLn l _ (λx hx=>h x (by simp[hx])) t ht
   rw[if_neg hn] at ht;rcases wD3.1 ht with h1 | h1
   ·obtain⟨-,rfl⟩:=wM4.1 h1;exact zNI
   rcases wI8.1 h1 with rfl | h1
   ·exact (zMw _ n (by omega) (h n (by simp)) hn).1
   exact zLn l 0 (λx hx=>h x (by simp[hx])) t h1
def zJe {cs1 xs1 cs2 xs2:List Int} (l1:cs1.length=16) (l2:cs2.length=16) (z1:zQ cs1 xs1=0) (z2:zQ cs2 xs2=0) {D R:List Bool} {p:Nat} {t:Tok} {b:Bool} (hp:p≤D.length) (hf:(qL (if b then zH (zC cs1 16) xs1 else zH (zC cs2 16) xs2) t.1).isSome=true) (ht:zBJ t)
 (hw:(if b then t.1 else t.1%16)=t.2.1) (h11:b=false→t.2.1≤11) (hD:D.drop p=zDg (zH (zC cs1 16) xs1) (zH (zC cs2 16) xs2) (t,b)++R) :
 ∃p',xD true (zH (zC cs1 16) xs1) (zH (zC cs2 16) xs2) D b p=(t,0,p')∧D.drop p'=R∧p'≤D.length:=by
 obtain⟨u,hu⟩:=wB1.1 hf
 have key:∃long code:Nat,u=(t.1,(long:Int),(code:Int))∧code<2 ^ long∧∀R',D.drop p=qD code long++R'→uU (if b then zH (zC cs1 16) xs1 else zH (zC cs2 16) xs2) D p=(t.1,p+long,0):=by
  cases b with
  | true =>
    obtain⟨long,code,e,-,-,hc⟩:=zEJ cs1 xs1 l1 z1 t.1 u hu;subst e;exact⟨long,code,rfl,hc,λR' hR=>zPO cs1 xs1 l1 z1 t.1 long code D R' p hu hc hp hR⟩
  | false =>
    obtain⟨long,code,e,-,-,hc⟩:=zEJ cs2 xs2 l2 z2 t.1 u hu;subst e;exact⟨long,code,rfl,hc,λR' hR=>zPO cs2 xs2 l2 z2 t.1 long code D R' p hu hc hp hR⟩
 obtain⟨long,code,rfl,hc,hs⟩:=key;have hb:=zFZ hu;unfold zDg at hD;dsimp only at hD;rw[hb,wI7] at hD;have hs:=hs _ hD;obtain⟨w1,w2,w3,w4,w5,w6⟩:=ht
 have hlen:long+(t.2.1.toNat+R.length)=D.length-p:=by
  have:=congrArg List.length hD;rw[wE8,wE2,wE2,qH,qH] at this;omega
 have hd2:D.drop (p+long)=qD t.2.2.toNat t.2.1.toNat++R:=by
  rw[←wG0,hD,List.drop_left' (qH _ _)]
 refine⟨p+long+t.2.1.toNat, ?_, ?_,by omega⟩
 ·rw[zGF hs hw (by intro h;exact h.elim (λh=>by omega) (λh=>by have:=h11 h.1;omega)) (by omega)];have h9:((t.2.2.toNat:Nat):Int)<((2 ^ t.2.1.toNat:Nat):Int):=by push_cast;omega
  have h10:t.2.2.toNat<2 ^ t.2.1.toNat:=by exact_mod_cast h9
  rw[hd2,List.take_left' (qH _ _),zBF h10];rw[wS1 w5]
 rw[←wG0,hd2,List.drop_left' (qH _ _)]
def zKz {cs1 xs1 cs2 xs2:List Int} (l1:cs1.length=16) (l2:cs2.length=16) (z1:zQ cs1 xs1=0) (z2:zQ cs2 xs2=0) {D:List Bool}:∀(l:List Tok) (p:Nat) (R:List Bool),p≤D.length→(∀t∈l,(qL (zH (zC cs2 16) xs2) t.1).isSome=true∧zBJ t∧zBk t=true) →
 D.drop p=(l.map λt=>(t,false)).flatMap (zDg (zH (zC cs1 16) xs1) (zH (zC cs2 16) xs2))++R→∃p',zDR (xD true (zH (zC cs1 16) xs1) (zH (zC cs2 16) xs2) D false) l p p'∧D.drop p'=R∧p'≤D.length
 | [],p,R,hp,_,hD=>⟨p,rfl,by simpa using hD,hp⟩
 | t::l,p,R,hp,h,hD=>by
   rw[wG6,wG2,wI7] at hD;obtain⟨h1,h2,h3⟩:=h t (by simp);have h3:=zIr.1 h3;obtain⟨p1,e,hd,hp1⟩:=zJe l1 l2 z1 z2 (b:=false) hp h1 h2 h3.2.1.symm (λ_=>h3.2.2.1) hD;obtain⟨p',hs,hd',hp'⟩:=zKz l1 l2 z1 z2 l p1 R hp1 (λu hu=>h u (by simp[hu])) hd;exact⟨p',⟨p1,e,hs⟩,hd',hp'⟩
def befAt_rng {Z:List Int} (hb:∀x∈Z,-2047≤x∧x≤2047) (k:Nat): -2047≤vW Z k∧vW Z k≤2047:=by
 unfold vW;split
 ·omega
 rw[wH7]
 cases h:(yP Z (k-1))[0]? with
 | none=>simp
 | some x=>exact hb x (zEv (wM8 h))
def zNO {cs1 xs1 cs2 xs2:List Int} (l1:cs1.length=16) (l2:cs2.length=16) (z1:zQ cs1 xs1=0) (z2:zQ cs2 xs2=0) {Z:List Int} {n:Nat} (hZ:Z.length=n*64) (hb:∀x∈Z,-2047≤x∧x≤2047) {D:List Bool}:∀(m k p:Nat) (acc:List Int) (R:List Bool),k+m=n→p≤D.length →
 (∀x∈xM Z n k,(qL (if x.2 then zH (zC cs1 16) xs1 else zH (zC cs2 16) xs2) x.1.1).isSome=true)→D.drop p=(xM Z n k).flatMap (zDg (zH (zC cs1 16) xs1) (zH (zC cs2 16) xs2))++R →
 ∃p',zAk (xD true (zH (zC cs1 16) xs1) (zH (zC cs2 16) xs2) D) m (vW Z k) p acc=(0,acc++Z.drop (k*64),p')∧D.drop p'=R∧p'≤D.length
 | 0,k,p,acc,R,hk,hp,hf,hD=>by
   obtain rfl:k=n:=by omega
   rw[zEe] at hD;refine⟨p, ?_,by simpa using hD,hp⟩;rw[zAk,wG3 (by omega),wG9]
 | m+1,k,p,acc,R,hk,hp,hf,hD=>by
   rw[zCn Z n k (by omega)] at hf hD;have hbl:=zGL Z n k hZ (by omega)
   have hzb:∀x∈zto (yP Z k),-2047≤x∧x≤2047:=by
    intro x hx;unfold zto at hx;obtain⟨i,hi,rfl⟩:=wD2.1 hx;rw[wH7]
    cases h:(yP Z k)[(vB i).toNat]? with
    | none=>simp
    | some x=>exact hb x (zEv (wM8 h))
   have hbf:=befAt_rng hb k;have e:=zBR (vW Z k) (zto (yP Z k)) (vA _);have hwf:=zEB (vW Z k) (zto (yP Z k)) (vA _);rw[e] at hwf
   have hft:zAP (uM Z k)=(qZ 0 ((zto (yP Z k)).getD 0 0-vW Z k),true)::(vC 0 ((zto (yP Z k)).drop 1)).map λu=>(u,false):=by
    unfold uM;rw[e,zHj]
   rw[hft] at hf hD;rw[wP1,wG2,wI7,wI7] at hD;obtain⟨p1,e1,d1,q1⟩:=zJe l1 l2 z1 z2 (b:=true) hp (hf _ (wT7 _ wT8)) (hwf _ wT8) (by unfold qZ;simp) (λh=>by cases h) hD
   obtain⟨p2,s2,d2,q2⟩:=zKz l1 l2 z1 z2 (vC 0 ((zto (yP Z k)).drop 1)) p1 _ q1 (λt ht=>⟨by
    have:=hf (t,false) (wT7 _ (wR9 _ (wD2.2 ⟨t,ht,rfl⟩)))
    simpa using this,hwf t (wR9 _ ht),zLn _ 0 (λx hx=>hzb x (wM7 hx)) t ht⟩) d1
   have hblk:=zSq (xD true (zH (zC cs1 16) xs1) (zH (zC cs2 16) xs2) D) (vW Z k) hbf (zto (yP Z k)) (vA _) hzb p p1 p2 e1 s2;rw[zfrom_zto _ hbl] at hblk;have hne:(yP Z k).getD 0 0=vW Z (k+1):=by unfold vW;rw[if_neg (by omega),wH8]
   obtain⟨p',e',d',q'⟩:=zNO l1 l2 z1 z2 hZ hb m (k+1) p2 (acc++yP Z k) R (by omega) q2 (λx hx=>hf x (wI6 _ hx)) d2;refine⟨p', ?_,d',q'⟩;rw[zMC (by rw[hblk]),hblk];dsimp only;rw[hne,e',wI7]
   have e3:Z.drop (k*64)=yP Z k++Z.drop ((k+1)*64):=by
    unfold yP;rw[show (k+1)*64=k*64+64 by omega, ←wG0,wE7]
   rw[e3]
def decR_back {cs1 xs1 cs2 xs2:List Int} (l1:cs1.length=16) (l2:cs2.length=16) (z1:zQ cs1 xs1=0) (z2:zQ cs2 xs2=0) {Z:List Int} {n:Nat} (hZ:Z.length=n*64) (h:(xN (yV (zH (zC cs1 16) xs1) (zH (zC cs2 16) xs2)) n Z []).1=0) :
 vQ true (zH (zC cs1 16) xs1) (zH (zC cs2 16) xs2) (n:Int) (some (qU (vU (xN (yV (zH (zC cs1 16) xs1) (zH (zC cs2 16) xs2)) n Z []).2)))=(0,Z):=by
 have h400:n≤400:=by
  refine wQ6 λh1=> ?_
  unfold xN at h;rw[if_pos h1] at h;cases h
 cases hin:zR Z (-2047) 2047 with
 | false=>unfold xN at h;rw[if_neg (by omega),if_pos hin] at h;cases h
 | true =>
   have e:xN (yV (zH (zC cs1 16) xs1) (zH (zC cs2 16) xs2)) n Z []=qB (yV (zH (zC cs1 16) xs1) (zH (zC cs2 16) xs2)) (xM Z n 0) []:=by
    unfold xN;rw[if_neg (by omega),if_neg (by rw[hin];simp)]
   rw[e] at h ⊢;obtain⟨hf,hL⟩:=zLV _ _ _ _ h;rw[wG4] at hL;rw[hL];generalize hLL:(xM Z n 0).flatMap (zDg (zH (zC cs1 16) xs1) (zH (zC cs2 16) xs2))=L at *;have hD:zN (qU (vU L))=vU L:=zRa _ (zRy L);obtain⟨p',e',d',q'⟩:=zNO l1 l2 z1 z2 hZ (yJ.1 hin) (D:=vU L) n 0 0 [] (List.replicate ((8-L.length%8)%8) true) (by omega) (by omega) hf (by rw[hLL];rfl);have hbf:vW Z 0=0:=rfl;rw[hbf] at e';unfold vQ;rw[if_neg (by omega)];dsimp only;rw[hD,wD7,e'];unfold zEC;dsimp only;rw[if_neg (by simp),d',if_neg]
   ·simp
   rintro (h1 | h1)
   ·have:=congrArg List.length d';rw[wE8,wM9] at this;omega
   have:=(wM4.1 h1).2;cases this
def plZ_one (b:Nat) (l:List Nat) (h:b≠255):plZ (b::l)=(plZ l).map (b:: ·):=by
 cases l with
 | nil=>simp[plZ,h]
 | cons c r=>rw[plZ,if_neg h]
def zIm:∀bs:List Nat,plZ (yA bs)=some bs
 | []=>rfl
 | b::l=>by
   rw[zNP]
   by_cases h:b=255
   ·rw[if_pos h,h];show plZ (255::0::yA l)=_
    rw[plZ,if_pos rfl,if_pos rfl,zIm l];rfl
   rw[if_neg h];show plZ (b::yA l)=_
   rw[plZ_one b _ h,zIm l];rfl
def sp_one (b:Nat) (r:List Nat) (P:List (List Nat)) (M c:List Nat) (h:b≠255):xW (b::r) P M c=xW r P M (c++[b]):=by
 cases r with
 | nil=>simp[xW,h]
 | cons y r=>rw[xW,if_neg h]
def zHe:∀(x r:List Nat) (P:List (List Nat)) (M c:List Nat),xW (yA x++r) P M c=xW r P M (c++yA x)
 | [],r,P,M,c=>by simp[yA]
 | b::l,r,P,M,c=>by
   rw[zNP,wI7]
   by_cases h:b=255
   ·rw[if_pos h];show xW (255::0::(yA l++r)) P M c=_
    rw[xW,if_pos rfl,if_neg (by decide),if_pos rfl,zHe l,wI7]
   rw[if_neg h];show xW (b::(yA l++r)) P M c=_
   rw[sp_one b _ _ _ _ h,zHe l,wI7]
def sp_mark (m:Nat) (r:List Nat) (P:List (List Nat)) (M c:List Nat) (h0:m≠0) (h:m≠255):xW (255::m::r) P M c=xW r (P++[c]) (M++[m]) []:=by rw[xW,if_pos rfl,if_neg h,if_neg h0]
def jA (x:Nat→List Nat) (i m:Nat):List Nat:=(List.range' i m).flatMap λj=>zAX j++yA (x j)
def zHg (x:Nat→List Nat) (i m:Nat):jA x i (m+1)=zAX i++(yA (x i)++jA x (i+1) m):=by unfold jA;rw[wM6,wG2,wI7]
def sp_join (x:Nat→List Nat):∀(m i:Nat) (P:List (List Nat)) (M c:List Nat),0<i→xW (jA x i m) P M c=some (P++c::(List.range' i m).map (λj=>yA (x j)),M++(List.range' i m).map λj=>208+(j-1)%8)
 | 0,i,P,M,c,_=>by simp[jA,xW]
 | m+1,i,P,M,c,hi=>by
   rw[zHg];unfold zAX;rw[if_neg (by omega)];show xW (255::(208+(i-1)%8)::(yA (x i)++jA x (i+1) m)) P M c=_
   rw[sp_mark _ _ _ _ _ (by omega) (by omega),zHe,wG4,sp_join x m (i+1) _ _ _ (by omega),wM6];simp
def zPo (x:Nat→List Nat) (m:Nat):xW (jA x 0 (m+1)) [] [] []=some ((List.range (m+1)).map (λj=>yA (x j)),(List.range' 1 m).map λj=>208+(j-1)%8):=by
 rw[zHg];show xW (yA (x 0)++jA x 1 m) [] [] []=_
 rw[zHe,sp_join x m 1 _ _ _ (by omega),wT9,wM6];simp
def zSJ:∀(m i:Nat),0<i→uI ((List.range' i m).map λj=>208+(j-1)%8) (i-1)=true
 | 0,i,_=>rfl
 | m+1,i,hi=>by
   rw[wM6,wG6,uI,show i-1+1=i+1-1 by omega,zSJ m (i+1) (by omega)];simp
def zHm (n e:Nat):1≤zL n e:=by
 unfold zL;split
 ·omega
 next h=>exact (Nat.le_div_iff_mul_le (by omega)).2 (by omega)
def zMk (n e:Nat) (Z:List Int) (hZ:Z.length=n*64):∀k,k≤zL n e→(List.range k).flatMap (λi=>yD n e i Z)=Z.take (atK n e k*64)
 | 0,_=>by rw[zHU];simp
 | k+1,h=>by
   rw[wG5,wP1,zMk n e Z hZ k (by omega),wG2,wG8,wG9,zBG (by omega),wE3];have h1:atK n e k=k*yM n e:=by have:=zGC (n:=n) (e:=e) (i:=k) (by omega);unfold atK;omega
   unfold yD;rw[h1,List.take_add];rfl
def zCC (T1 T2:List Tok) (n e:Nat) (Z:List Int) (i:Nat):List Nat:=qU (vU (xN (yV T1 T2) (yT n e i) (yD n e i Z) []).2)
def zNA (T1 T2:List Tok) (n e:Nat) (Z:List Int):∀(m i:Nat) (acc:List Nat),(zAF T1 T2 n e Z m i acc).1=0 →
 (∀j,i≤j→j<i+m→(xN (yV T1 T2) (yT n e j) (yD n e j Z) []).1=0)∧(zAF T1 T2 n e Z m i acc).2=acc++jA (zCC T1 T2 n e Z) i m
 | 0,i,acc,_=>⟨λj h1 h2=>by omega,by simp[zAF,jA]⟩
 | m+1,i,acc,h=>by
   by_cases h0:(zDN T1 T2 (min (n-i*yM n e) (yM n e)) (yD n e i Z)).1=0
   ·rw[zJF rfl h0] at h ⊢;obtain⟨h1,h2⟩:=zNA T1 T2 n e Z m (i+1) _ h;refine⟨λj a b=> ?_, ?_⟩
    ·by_cases hj:j=i
     ·subst hj;exact h0
     exact h1 j (by omega) (by omega)
    rw[h2,zHg,wI7,wI7];rfl
   rw[zML rfl h0] at h;exact absurd h h0
def zNR {cs1 xs1 cs2 xs2:List Int} (l1:cs1.length=16) (l2:cs2.length=16) (z1:zQ cs1 xs1=0) (z2:zQ cs2 xs2=0) {n e:Nat} {Z:List Int} (hZ:Z.length=n*64) {i:Nat} (h:(xN (yV (zH (zC cs1 16) xs1) (zH (zC cs2 16) xs2)) (yT n e i) (yD n e i Z) []).1=0) :
 vQ true (zH (zC cs1 16) xs1) (zH (zC cs2 16) xs2) ((yT n e i:Nat):Int) (plZ (yA (zCC (zH (zC cs1 16) xs1) (zH (zC cs2 16) xs2) n e Z i)))=(0,yD n e i Z):=by rw[zIm];exact decR_back l1 l2 z1 z2 (zEA hZ) h
def zPK {cs1 xs1 cs2 xs2:List Int} (l1:cs1.length=16) (l2:cs2.length=16) (z1:zQ cs1 xs1=0) (z2:zQ cs2 xs2=0) {n e:Nat} {Z:List Int} (hZ:Z.length=n*64) (x:Nat→List Nat) (K:Nat):∀(m i:Nat) (acc:List Int),i+m=K →
 (∀j,i≤j→j<i+m→vQ true (zH (zC cs1 16) xs1) (zH (zC cs2 16) xs2) ((yT n e j:Nat):Int) (plZ (yA (x j)))=(0,yD n e j Z)) →
 zBu (zH (zC cs1 16) xs1) (zH (zC cs2 16) xs2) n e ((List.range K).map λj=>yA (x j)) m i acc=(0,acc++(List.range' i m).flatMap λj=>yD n e j Z)
 | 0,i,acc,_,_=>by simp[zBu]
 | m+1,i,acc,hK,h=>by
   have hg:((List.range K).map λj=>yA (x j)).getD i []=yA (x i):=by
    rw[wH7,wB9,wO7 (by omega)];rfl
   have h1:=h i (wA5 _) (by omega);rw[sdGo_ok (r:=(0,yD n e i Z)) (by rw[hg,h1]) rfl,zPK l1 l2 z1 z2 hZ x K m (i+1) _ (by omega) (λj a b=>h j (by omega) (by omega)),wM6,wG2,wI7]
def zGM {cs1 xs1 cs2 xs2:List Int} (l1:cs1.length=16) (l2:cs2.length=16) (z1:zQ cs1 xs1=0) (z2:zQ cs2 xs2=0) {n e:Nat} {Z:List Int} (hZ:Z.length=n*64) (h:(zBN (zH (zC cs1 16) xs1) (zH (zC cs2 16) xs2) n e Z).1=0) :
 (zBN (zH (zC cs1 16) xs1) (zH (zC cs2 16) xs2) n e Z).2=jA (zCC (zH (zC cs1 16) xs1) (zH (zC cs2 16) xs2) n e Z) 0 (zL n e) ∧
 (∀j,j<zL n e→(xN (yV (zH (zC cs1 16) xs1) (zH (zC cs2 16) xs2)) (yT n e j) (yD n e j Z) []).1=0) ∧
 zBB (zH (zC cs1 16) xs1) (zH (zC cs2 16) xs2) n e (zBN (zH (zC cs1 16) xs1) (zH (zC cs2 16) xs2) n e Z).2=(0,Z):=by
 have hbe:qJ n Z=0:=by
  by_cases h0:qJ n Z=0
  ·exact h0
  unfold zBN at h;rw[if_pos h0] at h;exact absurd h h0
 have hsc:zBN (zH (zC cs1 16) xs1) (zH (zC cs2 16) xs2) n e Z=zAF (zH (zC cs1 16) xs1) (zH (zC cs2 16) xs2) n e Z (zL n e) 0 []:=by
  unfold zBN;rw[if_neg (by simpa using hbe)]
 rw[hsc] at h ⊢;obtain⟨h1,h2⟩:=zNA _ _ n e Z (zL n e) 0 [] h;rw[wG4] at h2;refine⟨h2,λj hj=>h1 j (by omega) (by omega), ?_⟩;rw[h2];have hK:=zHm n e;unfold zBB;have hs:=zPo (zCC (zH (zC cs1 16) xs1) (zH (zC cs2 16) xs2) n e Z) (zL n e-1);rw[show zL n e-1+1=zL n e by omega] at hs;rw[hs];dsimp only
 have hw:zBv n e ((List.range (zL n e)).map λj=>yA (zCC (zH (zC cs1 16) xs1) (zH (zC cs2 16) xs2) n e Z j)) ((List.range' 1 (zL n e-1)).map λj=>208+(j-1)%8)=0:=by
  unfold zBv;rw[if_neg (by simp),zSJ (zL n e-1) 1 (by omega),if_pos rfl]
 rw[hw,if_neg (by simp),zPK l1 l2 z1 z2 hZ _ (zL n e) (zL n e) 0 [] (by omega) (λj a b=>zNR l1 l2 z1 z2 hZ (h1 j (by omega) b))];rw[wG4, ←wT9,zMk n e Z hZ _ (wA5 _),zDj,wC2 (by omega)]
def zNU:∀(l:List Int) (run:Nat),0<run∨l≠[]→∃t,t∈vC run l
 | [],run,h=>by
   rcases h with h | h
   ·exact⟨(0,0,0),by unfold vC;rw[if_pos h];simp⟩
   exact absurd rfl h
 | n::l,run,_=>by
   rw[vC]
   by_cases h0:n=0
   ·rw[if_pos h0];exact zNU l (run+1) (.inl (by omega))
   rw[if_neg h0];exact⟨_,wI6 _ wT8⟩
def zTr {T1 T2:List Tok} {n:Nat} {Z:List Int} (h:(xN (yV T1 T2) n Z []).1=0) (hn:0<n):T1≠[]∧T2≠[]:=by
 unfold xN at h
 by_cases h1:400<n
 ·rw[if_pos h1] at h;cases h
 rw[if_neg h1] at h
 cases h2:zR Z (-2047) 2047 with
 | false=>rw[h2] at h;cases h
 | true =>
   rw[h2,if_neg (by simp)] at h;obtain⟨hf,-⟩:=zLV T1 T2 _ _ h;rw[zCn Z n 0 hn] at hf
   have e:zAP (uM Z 0)=(qZ 0 ((zto (yP Z 0)).getD 0 0-vW Z 0),true)::(vC 0 ((zto (yP Z 0)).drop 1)).map λu=>(u,false):=by
    unfold uM;rw[zBR _ _ (vA _),zHj]
   rw[e] at hf
   obtain⟨t,ht⟩:=zNU ((zto (yP Z 0)).drop 1) 0 (.inr (λh=>by
    have:=congrArg List.length h;rw[wE8,vA] at this
    simp at this))
   refine⟨λh=> ?_,λh=> ?_⟩
   ·have:=hf _ (wT7 _ wT8);rw[if_pos rfl,h] at this;cases this
   have:=hf (t,false) (wT7 _ (wR9 _ (wD2.2 ⟨t,ht,rfl⟩)));rw[if_neg (by simp),h] at this;cases this
def fcnt_none (e:Nat) (Z:List Int):xJ 0 e Z (zL 0 e)=(z256,z256):=by
 have hK:zL 0 e=1:=(zDm (n:=0) (e:=e) (.inr rfl)).2;have hp:yD 0 e 0 Z=[]:=by unfold yD;simp
 have he:xN yQ 0 [] (z256,z256)=(0,(z256,z256)):=by decide+kernel
 rw[hK,xJ,hp,show min (0-0*yM 0 e) (yM 0 e)=0 by simp,he,xJ];decide+kernel
def zQc {counts cs xs:List Int} (h:zDJ counts cs xs) (hx:xs≠[]∨qQ counts=0):qQ counts=0∧BM.Made counts cs xs:=by
 by_cases hb:qQ counts=0
 ·exact⟨hb,h.1 hb⟩
 rcases hx with hx | hx
 ·exact absurd (h.2 hb).2 hx
 exact absurd hx hb
def zipC_ne {C:List (Nat×Nat)} {xs:List Int} (h:zH C xs≠[]):xs≠[]:=by rintro rfl;exact h (by unfold zH;simp)
def enc_good {wd hi:Int} {L:List (List Int)} {q:List Int} (hq:q.length=64) {e:Nat} {F:FC} (h:zDP wd hi L q (e:Int) 0 F) :
 (zO wd hi L q).1=0∧e≤100∧∃cs1 xs1 cs2 xs2,cs1.length=16∧cs2.length=16∧zQ cs1 xs1=0∧zQ cs2 xs2=0 ∧
   (qQ (xJ (zO wd hi L q).2.1 e (zO wd hi L q).2.2 (zL (zO wd hi L q).2.1 e)).1=0∧BM.Made (xJ (zO wd hi L q).2.1 e (zO wd hi L q).2.2 (zL (zO wd hi L q).2.1 e)).1 cs1 xs1) ∧
   (qQ (xJ (zO wd hi L q).2.1 e (zO wd hi L q).2.2 (zL (zO wd hi L q).2.1 e)).2=0∧BM.Made (xJ (zO wd hi L q).2.1 e (zO wd hi L q).2.2 (zL (zO wd hi L q).2.1 e)).2 cs2 xs2) ∧
   (zBN (zH (zC cs1 16) xs1) (zH (zC cs2 16) xs2) (zO wd hi L q).2.1 e (zO wd hi L q).2.2).1=0 ∧
   F=⟨wd,hi,L.length,q,cs1,xs1,cs2,xs2,(e:Int),(zBN (zH (zC cs1 16) xs1) (zH (zC cs2 16) xs2) (zO wd hi L q).2.1 e (zO wd hi L q).2.2).2⟩:=by
 unfold zDP at h;have hZ:=zKs wd hi L q hq
 by_cases hE:(zO wd hi L q).1=0
 ·rw[if_neg (by simpa using hE)] at h
  by_cases hr:(e:Int)<0∨100<(e:Int)
  ·rw[if_pos hr] at h;cases h.1
  rw[if_neg hr,wD7] at h;generalize zO wd hi L q=z at *;obtain⟨E,n,Z⟩:=z;dsimp only at h hE hZ ⊢;obtain⟨cs1,xs1,cs2,xs2,t1,t2,l1,l2,hs,hF⟩:=h;rw[if_pos rfl] at hF;unfold zAr at hs hF;rw[if_neg hr] at hs hF
  by_cases ht:twoE cs1 xs1 cs2 xs2=0
  ·rw[if_neg (by simpa using ht),wD7] at hs hF
   have z1:zQ cs1 xs1=0:=by
    unfold twoE at ht
    by_cases h:zQ cs1 xs1=0
    ·exact h
    rw[if_neg h] at ht;exact absurd ht h
   have z2:zQ cs2 xs2=0:=by unfold twoE at ht;rw[if_pos z1] at ht;exact ht
   obtain⟨-,hok,-⟩:=zGM l1 l2 z1 z2 hZ hs.symm
   have hx:(xs1≠[]∧xs2≠[])∨n=0:=by
    by_cases hn:n=0
    ·exact .inr hn
    have hl:0<yT n e 0:=by
     unfold yT yM;rw[wS0,Nat.sub_zero]
     by_cases h0:e=0∨n=0
     ·rw[if_pos h0];omega
     rw[if_neg h0];omega
    obtain⟨f1,f2⟩:=zTr (hok 0 (zHm n e)) hl;exact .inl ⟨zipC_ne f1,zipC_ne f2⟩
   have hb:n=0→qQ (xJ n e Z (zL n e)).1=0∧qQ (xJ n e Z (zL n e)).2=0:=λh0=>by
    subst h0;rw[fcnt_none];decide+kernel
   refine⟨hE,by omega,cs1,xs1,cs2,xs2,l1,l2,z1,z2,zQc t1 ?_,zQc t2 ?_,hs.symm,hF⟩
   ·exact hx.elim (λh=>.inl h.1) (λh=>.inr (hb h).1)
   exact hx.elim (λh=>.inl h.2) (λh=>.inr (hb h).2)
  rw[if_pos ht] at hs;exact absurd hs.symm ht
 rw[if_pos (by simpa using hE)] at h;exact absurd h.1.symm hE
def each_0c (n:Nat) (Z:List Int) (s:List Int×List Int) (h:qJ n Z=0):n≤400∧zR Z (-2047) 2047=true∧xN yQ n Z s=qB yQ (xM Z n 0) s:=by
 unfold qJ at h;unfold xN
 by_cases h1:400<n
 ·rw[if_pos h1] at h;cases h
 rw[if_neg h1] at h ⊢
 cases h2:zR Z (-2047) 2047 with
 | false=>rw[h2] at h;cases h
 | true=>exact⟨by omega,rfl,by simp⟩
def zKB:∀(l:List Int) (run:Nat),(vC run l).length≤run+l.length+1
 | [],run=>by unfold vC;split<;>simp
 | n::l,run=>by
   rw[vC]
   by_cases h:n=0
   ·rw[if_pos h];have:=zKB l (run+1);simp only[wA8];omega
   rw[if_neg h];have:=zKB l 0;simp only[wE2,wM9,wA8];omega
def toksAt_65 (Z:List Int) (k:Nat):(zAP (uM Z k)).length≤65:=by rw[zGP];unfold uM;rw[zBR _ _ (vA _),wA8];have:=zKB ((zto (yP Z k)).drop 1) 0;rw[wE8,vA] at this;omega
def zGh (Z:List Int) (n:Nat):∀m k,k+m=n→(xM Z n k).length≤m*65
 | 0,k,h=>by
   obtain rfl:k=n:=by omega
   rw[zEe];simp
 | m+1,k,h=>by
   rw[zCn Z n k (by omega),wE2];have h1:=toksAt_65 Z k;have h2:=zGh Z n m (k+1) (by omega);omega
def Bd (M:Nat) (s:List Int×List Int):Prop:=(s.1.length=256∧s.2.length=256)∧(∀z∈s.1,0≤z∧z≤(M:Int))∧∀z∈s.2,0≤z∧z≤(M:Int)
def zKV {z:Int} (h0:0≤z) (h1:z≤1000000000):wrap64 z=z:=by unfold wrap64;omega
def zHc {l:List Int} {M k:Nat} (hl:∀z∈l,0≤z∧z≤(M:Int)) (hM:M<100000000):(∀z∈uR l k,0≤z∧z≤((M+1:Nat):Int))∧∀j,l.getD j 0≤(uR l k).getD j 0∧(k<l.length→1≤(uR l k).getD k 0):=by
 have hk:0≤l.getD k 0∧l.getD k 0≤(M:Int):=by
  rw[wH7]
  cases h:l[k]? with
  | none=>simp
  | some x=>exact hl x (wM8 h)
 have hw:wrap64 (l.getD k 0+1)=l.getD k 0+1:=zKV (by omega) (by omega);unfold uR;rw[hw];refine⟨λz hz=> ?_,λj=>⟨?_,λhlt=> ?_⟩⟩
 ·rcases wM0 hz with h | h
  ·have:=hl z h;omega
  omega
 ·rw[wH7,wH7,wL6]
  by_cases h:k=j
  ·subst h
   by_cases hlt:k<l.length
   ·rw[if_pos rfl,if_pos hlt,wA2 hlt];rw[wH7,wA2 hlt];simp;omega
   rw[if_pos rfl,if_neg hlt,wO2 (by omega)];exact wN7 _
  rw[if_neg h];exact wN7 _
 rw[wH7,wL6,if_pos rfl,if_pos hlt];simp only[wN0];omega
def cnt_bd:∀(l:List (Tok×Bool)) (s:List Int×List Int) (M:Nat),Bd M s→M+l.length<100000000 →
 Bd (M+l.length) (qB yQ l s).2∧(∀j,s.1.getD j 0≤(qB yQ l s).2.1.getD j 0∧s.2.getD j 0≤(qB yQ l s).2.2.getD j 0) ∧
 ∀x∈l,x.1.1.toNat<256→1≤(if x.2 then (qB yQ l s).2.1 else (qB yQ l s).2.2).getD x.1.1.toNat 0
 | [],s,M,h,_=>⟨by simpa [qB] using h,λj=>⟨wN7 _,wN7 _⟩,λx hx=>by cases hx⟩
 | (t,b)::r,s,M,⟨⟨h1,h2⟩,h3,h4⟩,hM=>by
   have hr:(qB yQ ((t,b)::r) s)=qB yQ r (yQ s t b).2:=zBC rfl;simp only[wA8] at hM
   have key:Bd (M+1) (yQ s t b).2∧(∀j,s.1.getD j 0≤(yQ s t b).2.1.getD j 0∧s.2.getD j 0≤(yQ s t b).2.2.getD j 0)∧(t.1.toNat<256→1≤(if b then (yQ s t b).2.1 else (yQ s t b).2.2).getD t.1.toNat 0):=by
    cases b with
    | true =>
      obtain⟨a1,a2⟩:=zHc (k:=t.1.toNat) h3 (by omega);refine⟨⟨⟨?_,h2⟩,a1,λz hz=>by have:=h4 z hz;omega⟩,λj=>⟨(a2 j).1,wN7 _⟩,λht=>(a2 0).2 (by omega)⟩;show (uR s.1 t.1.toNat).length=256
      unfold uR;rw[wR6];exact h1
    | false =>
      obtain⟨a1,a2⟩:=zHc (k:=t.1.toNat) h4 (by omega);refine⟨⟨⟨h1, ?_⟩,λz hz=>by have:=h3 z hz;omega,a1⟩,λj=>⟨wN7 _,(a2 j).1⟩,λht=>(a2 0).2 (by omega)⟩;show (uR s.2 t.1.toNat).length=256
      unfold uR;rw[wR6];exact h2
   obtain⟨k1,k2,k3⟩:=key;obtain⟨i1,i2,i3⟩:=cnt_bd r (yQ s t b).2 (M+1) k1 (by omega);rw[hr];generalize yQ s t b=u at *;refine⟨by rw[wA8,show M+(r.length+1)=M+1+r.length by omega];exact i1,λj=>⟨wQ5 (k2 j).1 (i2 j).1,wQ5 (k2 j).2 (i2 j).2⟩,λx hx hx2=> ?_⟩;rcases wI8.1 hx with rfl | hx
   ·have h9:=k3 hx2
    cases b with
    | true=>exact wQ5 h9 (i2 _).1
    | false=>exact wQ5 h9 (i2 _).2
   exact i3 x hx hx2
def zKM:Bd 0 (z256,z256):=⟨⟨zCw,zCw⟩,λz hz=>by have:=(wM4.1 hz).2;omega,λz hz=>by have:=(wM4.1 hz).2;omega⟩
def addW_bd {a b:List Int} {M N:Nat} (ha:a.length=256) (hb:b.length=256) (h1:∀z∈a,0≤z∧z≤(M:Int)) (h2:∀z∈b,0≤z∧z≤(N:Int)) (hM:M+N<100000000) :
 (∀z∈zAw a b,0≤z∧z≤((M+N:Nat):Int))∧∀j,a.getD j 0≤(zAw a b).getD j 0∧b.getD j 0≤(zAw a b).getD j 0:=by
 have hg:∀j,(hj:j<256)→(zAw a b)[j]? =some (a[j]'(by omega)+b[j]'(by omega)):=λj hj=>by
  have x1:=h1 _ (wC7 (show j<a.length by omega));have x2:=h2 _ (wC7 (show j<b.length by omega));unfold zAw;rw[wQ0,wA2 (by omega),wA2 (by omega)];simp only;rw[zKV (by omega) (by omega)]
 have hl:=zBI (a:=a) (b:=b) (by omega);refine⟨λz hz=> ?_,λj=> ?_⟩
 ·obtain⟨j,hj,rfl⟩:=wL3 hz;have h9:=hg j (by omega);rw[wA2 hj] at h9;have x1:=h1 _ (wC7 (show j<a.length by omega));have x2:=h2 _ (wC7 (show j<b.length by omega));have:=wU4 h9;omega
 by_cases hj:j<256
 ·have x1:=h1 _ (wC7 (show j<a.length by omega));have x2:=h2 _ (wC7 (show j<b.length by omega));rw[wH7,wH7,wH7,hg j hj,wA2 (by omega),wA2 (by omega)];simp only[wN0];omega
 rw[wH7,wH7,wH7,wO2 (by omega),wO2 (by omega),wO2 (by omega)];simp
def zKf {n e:Nat} {Z:List Int} (hE:qJ n Z=0) (hn:n*65<100000000):∀k,k≤zL n e→Bd (atK n e k*65) (xJ n e Z k)∧(xJ n e Z k).1.length=256∧(xJ n e Z k).2.length=256 ∧
 ∀i,i<k→∀x∈xM (yD n e i Z) (yT n e i) 0,x.1.1.toNat<256→1≤(if x.2 then (xJ n e Z k).1 else (xJ n e Z k).2).getD x.1.1.toNat 0
 | 0,_=>by
   have h0:xJ n e Z 0=(z256,z256):=by rw[xJ]
   rw[h0,zHU];exact⟨zKM,zCw,zCw,λi h=>by omega⟩
 | k+1,hk=>by
   obtain⟨b1,l1,l2,b2⟩:=zKf (e:=e) hE hn k (by omega);have hp:=zHH (e:=e) (i:=k) hE;obtain⟨-,-,he⟩:=each_0c _ (yD n e k Z) (z256,z256) hp;have hfl:=zGh (yD n e k Z) (yT n e k) (yT n e k) 0 (by omega);have ha:=zBG (n:=n) (e:=e) (i:=k) (by omega);have hle:=zMt n e (k+1);have h65:(atK n e k+yT n e k)*65≤n*65:=wO9 _ (by omega);rw[wE3] at h65;obtain⟨c1,-,c3⟩:=cnt_bd (xM (yD n e k Z) (yT n e k) 0) (z256,z256) 0 zKM (by omega);have hstep:xJ n e Z (k+1)=(zAw (xJ n e Z k).1 (xN yQ (yT n e k) (yD n e k Z) (z256,z256)).2.1,zAw (xJ n e Z k).2 (xN yQ (yT n e k) (yD n e k Z) (z256,z256)).2.2):=by rw[xJ];rfl
   have he':xN yQ (yT n e k) (yD n e k Z) (z256,z256)=qB yQ (xM (yD n e k Z) (yT n e k) 0) (z256,z256):=he;rw[hstep,he'];generalize qB yQ (xM (yD n e k Z) (yT n e k) 0) (z256,z256)=u at *;generalize xJ n e Z k=v at *;obtain⟨u0,u1,u2⟩:=u;obtain⟨v1,v2⟩:=v;dsimp only at *;obtain⟨⟨d1,d2⟩,d3,d4⟩:=c1;obtain⟨⟨f1,f2⟩,f3,f4⟩:=b1;dsimp only at *;obtain⟨g1,g2⟩:=addW_bd f1 d1 f3 d3 (by omega);obtain⟨g3,g4⟩:=addW_bd f2 d2 f4 d4 (by omega);have e1:=zBI (a:=v1) (b:=u1) (by omega);have e2:=zBI (a:=v2) (b:=u2) (by omega);have e3:(zAw v1 u1).length=256:=by omega
   have e4:(zAw v2 u2).length=256:=by omega
   refine⟨⟨⟨e3,e4⟩,λz hz=>by have:=g1 z hz;omega,λz hz=>by have:=g3 z hz;omega⟩,e3,e4,λi hi x hx hx2=> ?_⟩
   by_cases hik:i=k
   ·subst hik;have h9:=c3 x hx hx2;generalize x.1.1.toNat=j at *;generalize x.2=bb at *
    cases bb with
    | true=>exact wQ5 h9 (g2 j).2
    | false=>exact wQ5 h9 (g4 j).2
   have h9:=b2 i (by omega) x hx hx2;generalize x.1.1.toNat=j at *;generalize x.2=bb at *
   cases bb with
   | true=>exact wQ5 h9 (g2 j).1
   | false=>exact wQ5 h9 (g4 j).1
def getD_at {M:Nat} {l:List Int} (hl:∀z∈l,0≤z∧z≤(M:Int)) (k:Nat):0≤l.getD k 0∧l.getD k 0≤(M:Int):=by
 rw[wH7]
 cases h:l[k]? with
 | none=>simp
 | some x=>exact hl x (wM8 h)
def incAt_get {l:List Int} {M k:Nat} (hl:∀z∈l,0≤z∧z≤(M:Int)) (hM:M<100000000) (hk:k<l.length) (j:Nat):(uR l k).getD j 0=l.getD j 0+if j=k then 1 else 0:=by
 have hb:=getD_at hl k;unfold uR;rw[zKV (by omega) (by omega),wH7,wL6]
 by_cases h:k=j
 ·subst h;rw[if_pos rfl,if_pos hk,if_pos rfl];rfl
 rw[if_neg h,if_neg (λe=>h e.symm),wH7];omega
def zJU (T:List Tok) {l:List Int} {M k:Nat} (hl:∀z∈l,0≤z∧z≤(M:Int)) (hM:M<100000000) (hk:k<l.length):∀m,qS T (uR l k) m=qS T l m+if k<m then (jL T (k:Int):Int) else 0
 | 0=>by rw[if_neg (by omega)];rfl
 | m+1=>by
   rw[qS,qS,zJU T hl hM hk m,incAt_get hl hM hk m,wC5]
   by_cases h:m=k
   ·subst h;rw[if_neg (by omega),if_pos rfl,if_pos (by omega),Int.one_mul];omega
   rw[if_neg h,Int.zero_mul]
   by_cases h2:k<m
   ·rw[if_pos h2,if_pos (by omega)];omega
   rw[if_neg h2,if_neg (by omega)];omega
def zBP (T1 T2:List Tok):List (Tok×Bool)→Int
 | []=>0
 | x::r=>(jL (if x.2 then T1 else T2) x.1.1:Int)+zBP T1 T2 r
def zQu (T1 T2:List Tok):∀a b,zBP T1 T2 (a++b)=zBP T1 T2 a+zBP T1 T2 b
 | [],b=>by rw[wG4,zBP,Int.zero_add]
 | x::a,b=>by rw[wE1,zBP,zBP,zQu T1 T2 a b];omega
def step_bd {s:List Int×List Int} {M:Nat} (h:Bd M s) (hM:M<100000000) (t:Tok) (b:Bool):Bd (M+1) (yQ s t b).2:=by
 obtain⟨⟨h1,h2⟩,h3,h4⟩:=h;have up:∀{l:List Int},(∀z∈l,0≤z∧z≤(M:Int))→∀z∈l,0≤z∧z≤((M+1:Nat):Int):=λhl z hz=>by have:=hl z hz;omega
 unfold yQ
 cases b with
 | true=>exact⟨⟨by show (uR s.1 t.1.toNat).length=256;rw[zOT];exact h1,h2⟩,(zHc h3 hM).1,up h4⟩
 | false=>exact⟨⟨h1,by show (uR s.2 t.1.toNat).length=256;rw[zOT];exact h2⟩,up h3,(zHc h4 hM).1⟩
def zRD (T1 T2:List Tok):∀(l:List (Tok×Bool)) (s:List Int×List Int) (M:Nat),Bd M s→M+l.length<100000000→(∀x∈l,0≤x.1.1∧x.1.1≤255) →
 qS T1 (qB yQ l s).2.1 256+qS T2 (qB yQ l s).2.2 256=qS T1 s.1 256+qS T2 s.2 256+zBP T1 T2 l
 | [],s,M,_,_,_=>by rw[qB,zBP,Int.add_zero]
 | (t,b)::r,s,M,h,hM,hw=>by
   have ht:=hw (t,b) (by simp);simp only[wA8] at hM;rw[zBC rfl,zRD T1 T2 r _ (M+1) (step_bd h (by omega) t b) (by omega) (λx hx=>hw x (by simp[hx])),zBP];obtain⟨⟨h1,h2⟩,h3,h4⟩:=h;have e:((t.1.toNat:Nat):Int)=t.1:=by dsimp only at ht;omega
   have hk:t.1.toNat<256:=by dsimp only at ht;omega
   unfold yQ
   cases b with
   | true =>
     show qS T1 (uR s.1 t.1.toNat) 256+qS T2 s.2 256+_=_
     rw[zJU T1 h3 (by omega) (by omega) 256,if_pos hk,e];show _=_+((jL T1 t.1:Int)+_)
     omega
   | false =>
     show qS T1 s.1 256+qS T2 (uR s.2 t.1.toNat) 256+_=_
     rw[zJU T2 h4 (by omega) (by omega) 256,if_pos hk,e];show _=_+((jL T2 t.1:Int)+_)
     omega
def zDw (T:List Tok):∀m,qS T z256 m=0
 | 0=>rfl
 | m+1=>by
   rw[qS,zDw T m]
   have:z256.getD m 0=0:=by
    unfold z256;rw[wH7,wM3];split<;>rfl
   rw[this];omega
def zIn (T:List Tok) {a b c:List Int} (h:∀j,c.getD j 0=a.getD j 0+b.getD j 0):∀m,qS T c m=qS T a m+qS T b m
 | 0=>rfl
 | m+1=>by
   rw[qS,qS,qS,zIn T h m,h,wC5];omega
def zUN {a b:List Int} (h:a.Perm b):a.foldr (· + ·) 0=b.foldr (· + ·) 0:=by
 induction h with
 | nil=>rfl
 | cons x _ ih=>rw[wU0,wU0,ih]
 | swap x y l=>rw[wU0,wU0,wU0,wU0];omega
 | trans _ _ h1 h2=>exact h1.trans h2
def zig_perm:((List.range 64).map λi=>(vB i).toNat).Perm (List.range 64):=by decide+kernel
def zQD (f:Nat→Int):∀n,((List.range n).map f).foldr (· + ·) 0=zY n f
 | 0=>rfl
 | n+1=>by
   rw[wG5,wF5,List.foldr_append,jR, ←zQD f n];show List.foldr (· + ·) (f n+0) _=_
   have:∀(l:List Int) (z:Int),l.foldr (· + ·) z=l.foldr (· + ·) 0+z:=λl z=>by
    induction l with
    | nil=>simp
    | cons x l ih=>rw[wU0,wU0,ih];omega
   rw[this,Int.add_zero]
def phi_zto (b:List Int):phi (zto b)=8912896+uV b:=by
 have e1:phi (zto b)=(((List.range 64).map λi=>(vB i).toNat).map λj=>139264+b.getD j 0*b.getD j 0).foldr (· + ·) 0:=by
  unfold phi zto;rw[wF6,wF6];rfl
 rw[e1,zUN (List.Perm.map _ zig_perm),zQD,zDy];have:zY 64 (λ_=>(139264:Int))=8912896:=by decide+kernel
 rw[this];rfl
def zTY (n:Int) (hn: -2047≤n∧n≤2047):zEE zDL (qZ 0 n)≤139264+n*n+8192:=by
 by_cases h:n=0
 ·subst h;have:zEE zDL (qZ 0 0)=65536:=by decide+kernel
  rw[this];omega
 have:=zOj 0 (by omega) n h hn;exact this
def num_255:∀b0 b1 b2 b3 b4 b5 b6 b7:Bool,yK [b0,b1,b2,b3,b4,b5,b6,b7]=255→[b0,b1,b2,b3,b4,b5,b6,b7].count false=0:=by decide+kernel
def list8 (L:List Bool) (h:8≤L.length):∃b0 b1 b2 b3 b4 b5 b6 b7 R,L=b0::b1::b2::b3::b4::b5::b6::b7::R:=by
 match L,h with
 | b0::b1::b2::b3::b4::b5::b6::b7::R,_=>exact⟨b0,b1,b2,b3,b4,b5,b6,b7,R,rfl⟩
def packB_8 (b0 b1 b2 b3 b4 b5 b6 b7:Bool) (R:List Bool):qU (b0::b1::b2::b3::b4::b5::b6::b7::R)=yK [b0,b1,b2,b3,b4,b5,b6,b7]::qU R:=by
 unfold qU;have e:(b0::b1::b2::b3::b4::b5::b6::b7::R).length/8=R.length/8+1:=by simp only[wA8];omega
 rw[e,List.range_succ_eq_map,wG6,wF6];congr 1
def zNL:∀(m:Nat) (L:List Bool),L.length=8*m→8*(yA (qU L)).length+L.count false≤2*L.length
 | 0,L,h=>by
   have:L=[]:=wI1 (by omega);subst this;decide
 | m+1,L,h=>by
   obtain⟨b0,b1,b2,b3,b4,b5,b6,b7,R,rfl⟩:=list8 L (by omega);have ih:=zNL m R (by simp only[wA8] at h;omega)
   have hc:(b0::b1::b2::b3::b4::b5::b6::b7::R).count false=[b0,b1,b2,b3,b4,b5,b6,b7].count false+R.count false:=by
    rw[show b0::b1::b2::b3::b4::b5::b6::b7::R=[b0,b1,b2,b3,b4,b5,b6,b7]++R from rfl,wR3]
   have h8:[b0,b1,b2,b3,b4,b5,b6,b7].count false≤8:=List.count_le_length;rw[packB_8,hc]
   have hs:(yA (yK [b0,b1,b2,b3,b4,b5,b6,b7]::qU R)).length=(if yK [b0,b1,b2,b3,b4,b5,b6,b7]=255 then 2 else 1)+(yA (qU R)).length:=by
    unfold yA;rw[wG2,wE2];split<;>rfl
   rw[hs];simp only[wA8]
   by_cases h255:yK [b0,b1,b2,b3,b4,b5,b6,b7]=255
   ·have:=num_255 b0 b1 b2 b3 b4 b5 b6 b7 h255;rw[if_pos h255];omega
   rw[if_neg h255];omega
def stuff_pad (L:List Bool):8*(yA (qU (vU L))).length+L.count false≤2*L.length+14:=by
 have hp:=zRy L;have h:=zNL ((vU L).length/8) (vU L) (by omega);have hl:(vU L).length≤L.length+7:=by unfold vU;rw[wE2,wM9];omega
 have hc:L.count false≤(vU L).count false:=by unfold vU;rw[wR3];omega
 omega
