import Derived.Test.YtkggcjdlpendfaaGreatDoorMTopFewestCard23
set_option linter.all false
set_option maxRecDepth 20000
set_option maxHeartbeats 8000000
namespace Go.Proofs.YtkggcjdlpendfaaGreatDoor
open Go.RowKit
section
def zeroRowI:((Tryz.prog.info? 22).bind (·.zero)).isSome=true:=by kernel_rfl
def zQJ {ops:Array Oper} {rest:List Oper} {o:Oper} {a:Act} {w:World} {Q:Exit→Act→World→Prop} (hg:o.guard=none) (x y:Operand) (ho:o.op=.buildSlice 22 2 #[(0,x),(1,y)]) (dst:Option Tmp) (hdst:o.dst=dst)
 (m n:Int) (hx:a.eval x=.int .i64 m) (hy:a.eval y=.int .i64 n)
 (h: ∀ w1 g,Blk w1 g 3 (ints [m,n]).toArray→Ext w w1→w.heap.size≤g→wpList Tryz.prog ops Q rest (a.put dst (.slice (some ⟨g,0,none⟩) 2 2)) w1):wpList Tryz.prog ops Q (o::rest) a w:=by
 refine Go.Great.wpList_buildSliceTo hg 22 3 2 #[(0,x),(1,y)] ho _ rfl dst hdst Tryz.underlying22 (ints [m,n]).toArray ?_ (h _ _ (Blk.new w _ _) ((Ext.refl w).alloc _) (wA5 _));simp only[wC7,wC8,wC9,hx,hy];show _=_
 kernel_rfl
def builtPic3 (a b:Int) (A:Option Addr) (n c:Nat):Tryz.prog.built 31 [(0,.int .i64 a),(1,.int .i64 b),(2,.slice A n c)]=some (xG a b (.slice A n c)):=by
 show _=_
 kernel_rfl
def ex_buildP {o:Oper} {a:Act} {x0 x1 x2:Operand} (ho:o.op=.build 31 #[(0,x0),(1,x1),(2,x2)]) {wd hi:Int} {A:Option Addr} {n c:Nat} (h0:a.eval x0=.int .i64 wd) (h1:a.eval x1=.int .i64 hi) (h2:a.eval x2=.slice A n c) (w:World) :
 (execOp a.eval o).run Tryz.prog w=.ok (.value (.agg (xG wd hi (.slice A n c)))) w:=by
 simp only[execOp,ho,Sem.run_bind,run_build w 31 (#[(0,x0),(1,x1),(2,x2)].map fun (i,x)=>(i,a.eval x)) (xG wd hi (.slice A n c)) (by simpa [h0,h1,h2] using builtPic3 wd hi A n c),Result.andThen_ok,Sem.run_pure]
def rows_one {w:World} {g h:Nat} {l:List Int} (h0:0<l.length) (hl:l.length≤100000000) (hb:Blk w g 3 (ints l).toArray) (hc:Blk w h 22 (Value.slice (some ⟨g,0,none⟩) l.length l.length).cells):RowsS w (some ⟨h,0,none⟩) 1 1 [l]:=by
 refine⟨[.slice (some ⟨g,0,none⟩) l.length l.length],hc.sl (size:=1) (n:=1) (c:=1) rfl (by omega) (by omega),rfl,fun k x hx=> ?_⟩
 cases k with
 | zero =>
   simp at hx;subst hx;exact⟨_,_,rfl,hb.sl (size:=1) (n:=l.length) (c:=l.length) (by simp[yA]) (by omega) (by omega)⟩
 | succ k=>simp at hx
def zPc:zAp Tryz.prog 14:=⟨_,Tryz.func14,rfl,rfl⟩
def zGp:zAp Tryz.prog 17:=⟨_,Tryz.func17,rfl,rfl⟩
def wkV (A1:Option Addr) (c1:Nat) (A2:Option Addr) (c2:Nat) (A:Option Addr) (c:Nat):Array Value:=wkF.cells (.slice A1 1 c1) (.slice A2 1 c2) (.slice A 1 c)
def WkAt (w:World) (A1:Option Addr) (c1:Nat) (A2:Option Addr) (c2:Nat) (A:Option Addr) (c:Nat):Prop:=wkF.at_ w (.slice A1 1 c1) (.slice A2 1 c2) (.slice A 1 c)
def zDh (A1:Option Addr) (c1:Nat) (A2:Option Addr) (c2:Nat) (A:Option Addr) (c:Nat):(wkV A1 c1 A2 c2 A c).size=103:=FC.size zFc _ _ _
def zJV (A1:Option Addr) (c1:Nat) (A2:Option Addr) (c2:Nat) (A:Option Addr) (c:Nat):(wkV A1 c1 A2 c2 A c).all (·.oneCell')=true:=zDp _ _ _ _ _ _ _ _ _ _
def WkAt.ext {w w':World} {A1:Option Addr} {c1:Nat} {A2:Option Addr} {c2:Nat} {A:Option Addr} {c:Nat} (h:WkAt w A1 c1 A2 c2 A c) (hx:Ext w w'):WkAt w' A1 c1 A2 c2 A c:=FC.at_.ext h hx
def wk_at {w:World} {s1 s2 sd:Value} (h:wkF.at_ w s1 s2 sd): ∃ A c B d C e,s1=.slice A 1 c∧s2=.slice B 1 d∧sd=.slice C 1 e:=by
 obtain⟨⟨A,c,e1, -⟩,⟨B,d,e2, -⟩,⟨C,e,e3, -⟩⟩:=h;exact⟨A,c,B,d,C,e,e1,e2,e3⟩
def wk_encode {W W':World} {e:Ending} (h:EncIs 2 1 [[128,128]] (List.replicate 64 1) 3 W e W'): ∃ A1 c1 A2 c2 A c,e=.returned (.tuple #[.agg (wkV A1 c1 A2 c2 A c),.int .i64 0])∧WkAt W' A1 c1 A2 c2 A c∧Ext W W'∧NewB W (.slice A1 1 c1)∧NewB W (.slice A2 1 c2):=by
 obtain⟨E,F,s1,s2,sd,rfl,hs,hat,hE,hx,n1,n2⟩:=h;obtain⟨rfl,rfl⟩:=wk_enc hE;obtain⟨A1,c1,A2,c2,A,c,rfl,rfl,rfl⟩:=wk_at hat;exact⟨A1,c1,A2,c2,A,c,rfl,hat,hx,n1,n2⟩
def wk_keep {w w' w0:World} {g:Nat} {A1:Option Addr} {c1:Nat} {A2:Option Addr} {c2:Nat} {A:Option Addr} {c:Nat} (h:WkAt w A1 c1 A2 c2 A c) (hu:Upd (fun b=>b=g) w w') (h1:NewB w0 (.slice A1 1 c1)) (h2:NewB w0 (.slice A2 1 c2)) (hg:g<w0.heap.size) (hb:Blk w g 47 zFile):WkAt w' A1 c1 A2 c2 A c :=
 ⟨zCr h.1 hu (fun b e=>by have:=h1 b e;omega),zCr h.2.1 hu (fun b e=>by have:=h2 b e;omega),zFQ h.2.2 hu (zPz hb h.2.2)⟩
def wk_pack {W:World} {A1:Option Addr} {c1:Nat} {A2:Option Addr} {c2:Nat} {A:Option Addr} {c:Nat} (h:WkAt W A1 c1 A2 c2 A c):Calls Tryz.prog 36 #[.agg (wkV A1 c1 A2 c2 A c)] W fun e W'=> ∃ B d,e=.returned (.tuple #[.slice B wkF.packL.length d,.int .i64 0])∧SL W' 1 (.slice B wkF.packL.length d) wkF.packL.length (zF wkF.packL)∧Ext W W':=by
 have:=wkF.pack zFc _ _ _ W h;rw[zPK] at this;exact this
def zRB {W:World} {B:Option Addr} {d:Nat} (h:SL W 1 (.slice B wkF.packL.length d) wkF.packL.length (zF wkF.packL)):Calls Tryz.prog 37 #[.slice B wkF.packL.length d] W fun e W'=> ∃ A1 c1 A2 c2 A c,e=.returned (.tuple #[.agg (wkV A1 c1 A2 c2 A c),.int .i64 0])∧WkAt W' A1 c1 A2 c2 A c∧Ext W W':=by
 refine (parse_any (.slice B wkF.packL.length d) wkF.packL W (wkF.packL_lt zFc.1 (by decide)) h).mono fun e W' h=> ?_
 rw[wk_parse] at h;obtain⟨s1,s2,sd,rfl,hat,hx⟩:=h;obtain⟨A1,c1,A2,c2,A,c,rfl,rfl,rfl⟩:=wk_at hat;exact⟨A1,c1,A2,c2,A,c,rfl,hat,hx⟩
def wk_decode {W:World} {m0:Int} (hm:W.cell? ⟨0,0,none⟩=some (.int .i64 m0)) {A1:Option Addr} {c1:Nat} {A2:Option Addr} {c2:Nat} {A:Option Addr} {c:Nat} (h:WkAt W A1 c1 A2 c2 A c):Calls Tryz.prog 27 #[.agg (wkV A1 c1 A2 c2 A c)] W fun e W'=> ∃ B d,e=.returned (.tuple #[.agg (xG 2 1 (.slice B 1 d)),.int .i64 0])∧RowsS W' B 1 d [[128,128]]∧Ext W W':=by
 have:=zSQ wkF zFc wk_chk (.slice A1 1 c1) (.slice A2 1 c2) A 1 c rfl (by decide) m0 W hm h 2 1 1 3 rfl rfl rfl rfl W (Ext.refl W);rw[show wkF.cs1=wkT from rfl,show wkF.cs2=wkT from rfl,show wkF.xs1=[0] from rfl,show wkF.xs2=[0] from rfl,show wkF.data=[63] from rfl,show wkF.qs=List.replicate 64 1 from rfl,wk_dec] at this;refine this.mono fun e W' h=> ?_
 unfold PdOf at h;rw[if_pos rfl,wk_show] at h;obtain⟨B,k,d,rfl,hr,hx⟩:=h;obtain rfl:k=1:=hr.len.symm;exact⟨B,d,rfl,hr,hx⟩
attribute [local irreducible] wkF wkV WkAt
def works_any (m0:Int) (w:World) (hm:w.cell? ⟨0,0,none⟩=some (.int .i64 m0)):Calls Tryz.prog 11 #[] w fun e w'=>e=.returned (.bool true)∧Ext w w':=by
 have hz0:=zBr;have hzp:=zHU;have hzs:=zA zBM;have HON:=zA (fun W=>ones_any 1 W);have HEN:=zA (fun W A n c (hx:Ext w W) (hr:RowsS W A n c [[128,128]])=>(zQB 2 1 [[128,128]] A n c (List.replicate 64 1) (by simp) 3 m0 W (zAX hm hx) hr).mono fun e w' h=>wk_encode h);have HPK:=zA (fun W A1 c1 A2 c2 A c h=> @wk_pack W A1 c1 A2 c2 A c h);have HPS:=zA (fun W B d h=> @zRB W B d h);have HDC:=zA (fun W (hx:Ext w W) A1 c1 A2 c2 A c (h:WkAt W A1 c1 A2 c2 A c)=>wk_decode (zAX hm hx) h);have HPE:=zA (fun A B c d W h1 h2=>zMZ 2 1 A B 1 c d [[128,128]] W h1 h2);have HPZ:=zA (fun v=>vX 2 1 v);have HP1:=zA (fun A n c=>zFE 2 1 A n c);generalize bv (List.replicate 64 1)=ov at *;generalize wkF.packL=pb at *;generalize pb.length=K at *;obtain⟨pic,hpic⟩: ∃ pic:Value→Array Value,pic=xG 2 1:=⟨_,rfl⟩
 have HBP2:Hid (∀ {o:Oper} {a:Act} {x0 x1 x2:Operand} (ho:o.op=.build 31 #[(0,x0),(1,x1),(2,x2)]) {A:Option Addr} {n c:Nat} (h0:a.eval x0=.int .i64 2) (h1:a.eval x1=.int .i64 1) (h2:a.eval x2=.slice A n c) (w:World),(execOp a.eval o).run Tryz.prog w=.ok (.value (.agg (pic (.slice A n c)))) w):=zA (fun ho A n c h0 h1 h2 w=>by rw[hpic];exact ex_buildP ho h0 h1 h2 w);rw[←hpic] at HEN HDC HPE HPZ HP1;clear hm hpic;go_enter Tryz.func11,Tryz.ntmps11
 go_upto_region 2 with (first
  | ((with_reducible apply gS 10);refine zQJ rfl _ _ rfl (some 10) rfl 128 128 rfl rfl ?_;intro w1 ga hba hx1 hga)
  | ((with_reducible apply gS 11);refine wLit1 rfl 29 22 _ rfl (some 11) rfl Tryz.underlying29 1 zAb zeroRowI _ rfl rfl (by omega) (by omega) ?_;intro w2 gb hbb hx2 hgb;have hr2:=rows_one (l:=[128,128]) (by decide) (by decide) (hba.ext hx2) hbb;have hx02:=hx1.trans hx2)
  | ((with_reducible apply gS 12);refine zB rfl (.agg (pic (.slice (some ⟨gb,0,none⟩) 1 1))) (HBP2.out rfl rfl rfl rfl) ?_)
  | ((with_reducible apply gS 1);refine wAlo' rfl (some 1) rfl 31 rfl _ hzp ?_;intro w3 gp hbp hx3 hgp)
  | ((with_reducible apply gT 1 12);refine wStB rfl 31 (.tmp 1) (.tmp 12) rfl gp (pic (.slice (some ⟨gb,0,none⟩) 1 1)) rfl rfl hbp 3 jT (HPZ.out _) (by rfl) (HP1.out _ _ _) ?_;intro w4 hb4 hg4;have hx24:=hx3.grown hg4 hgp;have hr4:=hr2.ext hx24;have hx04:=hx02.trans hx24))
 try simp only[Act.put,sA,sB,sC]
 clear hba hbb hr2 hbp hx1 hx2 hx02 hx3 hx24 hg4 hga hgb hgp;obtain⟨pv,hpv⟩: ∃ pv,pic (.slice (some ⟨gb,0,none⟩) 1 1)=pv:=⟨_,rfl⟩
 have HPV:=zA (HPZ.out (.slice (some ⟨gb,0,none⟩) 1 1));have HEN2:=zA (fun W (hx:Ext w4 W)=>HEN.out W (some ⟨gb,0,none⟩) 1 1 (hx04.trans hx) (hr4.ext hx));have HPE2:=zA (fun W (hx:Ext w4 W) B d (h:RowsS W B 1 d [[128,128]])=>HPE.out (some ⟨gb,0,none⟩) B 1 d W (hr4.ext hx) h);rw[hpv] at hb4 HPV HEN2 HPE2 ⊢;clear hpv HEN HPE hr4 HBP2
 go_cut [2,3] from 13 to 18 (fun u v wx=> ∃ g2 A1 c1 A2 c2 A c,u=.pointer (some ⟨g2,0,none⟩)∧v=.int .i64 0∧Blk wx g2 47 (wkV A1 c1 A2 c2 A c)∧WkAt wx A1 c1 A2 c2 A c∧Ext w4 wx)
 case first =>
  have hI:Ext w4.drew w4.drew:=Ext.refl _;refine jB (fun k=>k ==0 ||k ==1 ||k ==2 ||k ==6) (Ext w4.drew) (by kernel_rfl) ?_;refine jR (k:=0) (by kernel_rfl) rfl (by rfl) (.agg pv) (fun W hW=>zAj rfl rfl (hb4.drew.ext hW) Tryz.underlying31 rfl jT HPV.out) hI ?_;simp only[Act.put,sA,sB,sC];refine zJM (k:=1) (l:=6) (by kernel_rfl) rfl rfl ?_ ?_
  · --
    refine xP (by rfl) (xQ _ _ _ rfl rfl zPc #[.int .i64 1] (by simp[Act.eval])) ?_;refine (HON.out _).mono ?_;rintro _ wa ⟨rfl,hxa⟩;have hxa1:=hI.trans hxa;refine⟨_,rfl,zX ⟨fun _=>hxa1, ?_⟩⟩;simp only[Act.put,sA,sB,sC];refine zJM (k:=2) (l:=6) (by kernel_rfl) rfl rfl ?_ ?_
    · --
      refine xP (by rfl) (xQ _ _ _ rfl rfl zGp #[.agg pv,.agg ov,.int .i64 3] (by simp[Act.eval])) ?_;refine (HEN2.out _ ((Ext.refl w4).drew.trans hxa1)).mono ?_;rintro _ wb ⟨A1,c1,A2,c2,A,c,rfl,hat,hxb,hn1,hn2⟩;have hxb1:=hxa1.trans hxb;refine⟨_,rfl,zX ⟨fun _=>hxb1, ?_⟩⟩;simp only[Act.put,sA,sB,sC];refine zG (k:=3) (by kernel_rfl) rfl (by rfl) (.tuple #[.agg (wkV A1 c1 A2 c2 A c),.int .i64 0]) (zC rfl rfl) ?_;simp only[sP,sB,sC];refine zG (k:=4) (by kernel_rfl) rfl (by rfl) (.agg (wkV A1 c1 A2 c2 A c)) (xB rfl rfl rfl) ?_;simp only[sP,sB,sC];refine zG (k:=5) (by kernel_rfl) rfl (by rfl) (.int .i64 0) (xB rfl rfl rfl) ?_;simp only[sP,sB,sC];refine xR (k:=6) (by kernel_rfl) rfl ?_;refine wAlo' rfl (some 2) rfl 47 rfl _ hz0 ?_;intro wc g2 hbg hxc hgg;have hxc1:=hxb1.trans hxc;refine zX ⟨fun _=>hxc1, ?_⟩;simp only[Act.put,sA,sB,sC];refine xR (k:=7) (by kernel_rfl) rfl ?_;refine wStB rfl 47 (.tmp 2) (.tmp 17) rfl g2 (wkV A1 c1 A2 c2 A c) rfl rfl hbg 103 yQ (zDh _ _ _ _ _ _) hzs.out (zJV _ _ _ _ _ _) ?_;intro w7 hb7 hg7;refine zX ⟨fun h=>(by cases h), ?_⟩;simp only[Act.put,sA,sB,sC];refine zG (k:=8) (by kernel_rfl) rfl (by rfl) (.int .i64 0) (zW rfl rfl) ?_;simp only[sP,sB,sC];refine vP (by kernel_rfl) ?_;go_wp2_with fail;go_meet;exact⟨g2,A1,c1,A2,c2,A,c,rfl,rfl,hb7,hat.ext (hxc.grown hg7 hgg),(Ext.refl w4).drew.trans (hxb1.trans (hxc.grown hg7 hgg))⟩
    · --
      refine wAlo' rfl (some 2) rfl 47 rfl _ hz0 ?_;intro wc g2 hbg hxc hgg;have hxc1:=hxa1.trans hxc;refine zX ⟨fun _=>hxc1, ?_⟩;simp only[Act.put,sA,sB,sC];refine xR (k:=2) (by kernel_rfl) rfl ?_;refine xP (by rfl) (xQ _ _ _ rfl rfl zGp #[.agg pv,.agg ov,.int .i64 3] (by simp[Act.eval])) ?_;refine (HEN2.out _ ((Ext.refl w4).drew.trans hxc1)).mono ?_;rintro _ wb ⟨A1,c1,A2,c2,A,c,rfl,hat,hxb,hn1,hn2⟩;have hxb1:=hxc1.trans hxb;refine⟨_,rfl,zX ⟨fun _=>hxb1, ?_⟩⟩;simp only[Act.put,sA,sB,sC];refine zG (k:=3) (by kernel_rfl) rfl (by rfl) (.tuple #[.agg (wkV A1 c1 A2 c2 A c),.int .i64 0]) (zC rfl rfl) ?_;simp only[sP,sB,sC];refine zG (k:=4) (by kernel_rfl) rfl (by rfl) (.agg (wkV A1 c1 A2 c2 A c)) (xB rfl rfl rfl) ?_;simp only[sP,sB,sC];refine zG (k:=5) (by kernel_rfl) rfl (by rfl) (.int .i64 0) (xB rfl rfl rfl) ?_;simp only[sP,sB,sC];refine xR (k:=7) (by kernel_rfl) rfl ?_;refine wStB rfl 47 (.tmp 2) (.tmp 17) rfl g2 (wkV A1 c1 A2 c2 A c) rfl rfl (hbg.ext hxb) 103 yQ (zDh _ _ _ _ _ _) hzs.out (zJV _ _ _ _ _ _) ?_;intro w7 hb7 hg7;refine zX ⟨fun h=>(by cases h), ?_⟩;simp only[Act.put,sA,sB,sC];refine zG (k:=8) (by kernel_rfl) rfl (by rfl) (.int .i64 0) (zW rfl rfl) ?_;simp only[sP,sB,sC];refine vP (by kernel_rfl) ?_;go_wp2_with fail;go_meet;have hu7:Upd (fun b=>b=g2) wb w7:=uI (zO hg7) (fun x h=>by injection h with h;exact h.symm);exact⟨g2,A1,c1,A2,c2,A,c,rfl,rfl,hb7,wk_keep hat hu7 hn1 hn2 hbg.lt (hbg.ext hxb),(Ext.refl w4).drew.trans (hxa1.trans ((hxc.trans hxb).grown hg7 hgg))⟩
  · --
    refine wAlo' rfl (some 2) rfl 47 rfl _ hz0 ?_;intro wc g2 hbg hxc hgg;have hxc1:=hI.trans hxc;refine zX ⟨fun _=>hxc1, ?_⟩;simp only[Act.put,sA,sB,sC];refine xR (k:=1) (by kernel_rfl) rfl ?_;refine xP (by rfl) (xQ _ _ _ rfl rfl zPc #[.int .i64 1] (by simp[Act.eval])) ?_;refine (HON.out _).mono ?_;rintro _ wa ⟨rfl,hxa⟩;have hxa1:=hxc1.trans hxa;refine⟨_,rfl,zX ⟨fun _=>hxa1, ?_⟩⟩;simp only[Act.put,sA,sB,sC];refine xR (k:=2) (by kernel_rfl) rfl ?_;refine xP (by rfl) (xQ _ _ _ rfl rfl zGp #[.agg pv,.agg ov,.int .i64 3] (by simp[Act.eval])) ?_;refine (HEN2.out _ ((Ext.refl w4).drew.trans hxa1)).mono ?_;rintro _ wb ⟨A1,c1,A2,c2,A,c,rfl,hat,hxb,hn1,hn2⟩;have hxb1:=hxa1.trans hxb;refine⟨_,rfl,zX ⟨fun _=>hxb1, ?_⟩⟩;simp only[Act.put,sA,sB,sC];refine zG (k:=3) (by kernel_rfl) rfl (by rfl) (.tuple #[.agg (wkV A1 c1 A2 c2 A c),.int .i64 0]) (zC rfl rfl) ?_;simp only[sP,sB,sC];refine zG (k:=4) (by kernel_rfl) rfl (by rfl) (.agg (wkV A1 c1 A2 c2 A c)) (xB rfl rfl rfl) ?_;simp only[sP,sB,sC];refine zG (k:=5) (by kernel_rfl) rfl (by rfl) (.int .i64 0) (xB rfl rfl rfl) ?_;simp only[sP,sB,sC];refine xR (k:=7) (by kernel_rfl) rfl ?_;refine wStB rfl 47 (.tmp 2) (.tmp 17) rfl g2 (wkV A1 c1 A2 c2 A c) rfl rfl (hbg.ext (hxa.trans hxb)) 103 yQ (zDh _ _ _ _ _ _) hzs.out (zJV _ _ _ _ _ _) ?_;intro w7 hb7 hg7;refine zX ⟨fun h=>(by cases h), ?_⟩;simp only[Act.put,sA,sB,sC];refine zG (k:=8) (by kernel_rfl) rfl (by rfl) (.int .i64 0) (zW rfl rfl) ?_;simp only[sP,sB,sC];refine vP (by kernel_rfl) ?_;go_wp2_with fail;go_meet;have hu7:Upd (fun b=>b=g2) wb w7:=uI (zO hg7) (fun x h=>by injection h with h;exact h.symm);exact⟨g2,A1,c1,A2,c2,A,c,rfl,rfl,hb7,wk_keep hat hu7 hn1 hn2 (by have:=hbg.lt;have:=hxa.size;omega) (hbg.ext (hxa.trans hxb)),(Ext.refl w4).drew.trans (hI.trans ((hxc.trans (hxa.trans hxb)).grown hg7 hgg))⟩
 case rest =>
 obtain⟨g2,A1,c1,A2,c2,A,c,e1,e2,hb5,hat5,hx5⟩:=hcut;subst e1 e2;have hp5:=hb4.ext hx5
 go_wp2_with (first
  | ((with_reducible apply gS 20);refine wLdB rfl 47 (.tmp 2) rfl g2 rfl hb5 _ Tryz.underlying47 rfl 103 yQ (zDh _ _ _ _ _ _) ?_)
  | (go_at_call 36;(with_reducible refine (HPK.out _ _ _ _ _ _ _ hat5).mono ?_);rintro e w6 ⟨B,d,rfl,hpb,hx6⟩;have hp6:=hp5.ext hx6;have hx46:=hx5.trans hx6)
  | (go_at_call 37;(with_reducible refine (HPS.out _ _ _ hpb).mono ?_);rintro e w7 ⟨D1,d1,D2,d2,D,d,rfl,hat7,hx7⟩;have hp7:=hp6.ext hx7;have hx47:=hx46.trans hx7)
  | ((with_reducible apply gS 6);refine wAlo' rfl (some 6) rfl 47 rfl _ hz0 ?_;intro w8 g6 hb8 hx8 hg8)
  | ((with_reducible apply gT 6 27);refine wStB rfl 47 (.tmp 6) (.tmp 27) rfl g6 (wkV D1 d1 D2 d2 D d) rfl rfl hb8 103 yQ (zDh _ _ _ _ _ _) hzs.out (zJV _ _ _ _ _ _) ?_;intro w9 hb9 hg9;have hx79:=hx8.grown hg9 hg8;have hat9:=hat7.ext hx79;have hp9:=hp7.ext hx79;have hx49:=hx47.trans hx79)
  | ((with_reducible apply gS 30);refine wLdB rfl 47 (.tmp 6) rfl g6 rfl hb9 _ Tryz.underlying47 rfl 103 yQ (zDh _ _ _ _ _ _) ?_)
  | (go_at_call 27;(with_reducible refine (HDC.out _ (hx04.trans hx49) _ _ _ _ _ _ hat9).mono ?_);rintro e w10 ⟨Y,y,rfl,hr10,hx10⟩;have hp10:=hp9.ext hx10;have hx410:=hx49.trans hx10)
  | ((with_reducible apply gS 8);refine wAlo' rfl (some 8) rfl 31 rfl _ hzp ?_;intro w11 g8 hb11 hx11 hg11)
  | ((with_reducible apply gT 8 32);refine wStB rfl 31 (.tmp 8) (.tmp 32) rfl g8 (pic (.slice Y 1 y)) rfl rfl hb11 3 jT (HPZ.out _) (by rfl) (HP1.out _ _ _) ?_;intro w12 hb12 hg12;have hx1012:=hx11.grown hg12 hg11;have hr12:=hr10.ext hx1012;have hp12:=hp10.ext hx1012;have hx412:=hx410.trans hx1012)
  | ((with_reducible apply gS 49);refine zDC (by rfl) (.agg pv) (zAj rfl rfl hp12 Tryz.underlying31 rfl jT HPV.out) ?_)
  | ((with_reducible apply gS 50);refine zDC (by rfl) (.agg (pic (.slice Y 1 y))) (zAj rfl rfl hb12 Tryz.underlying31 rfl jT (HPZ.out _)) ?_)
  | (go_at_call 25;(with_reducible refine (HPE2.out _ hx412 _ _ hr12).mono ?_);rintro e w13 ⟨rfl,hx13⟩))
 go_ret;exact⟨rfl,hx04.trans (hx412.trans hx13)⟩
end
def zLo: ∀ (l:List Int) (run:Nat),0<run∨l≠[]→ ∃ t,t∈zAc run l
 | [],run,h=>by
   rcases h with h | h
   ·exact⟨(0,0,0),by unfold zAc;rw[if_pos h];simp⟩
   ·exact absurd rfl h
 | n::l,run,_=>by
   rw[zAc]
   by_cases h0:n=0
   ·rw[if_pos h0];exact zLo l (run+1) (.inl (by omega))
   ·rw[if_neg h0];exact⟨_,wM8 _ wR6⟩
def zSr {T1 T2:List Tok} {n:Nat} {Z:List Int} (h:(xZ (xK T1 T2) n Z []).1=0) (hn:0<n):T1≠[]∧T2≠[]:=by
 unfold xZ at h
 by_cases h1:400<n
 ·rw[if_pos h1] at h;cases h
 ·rw[if_neg h1] at h
  cases h2:zR Z (-2047) 2047 with
  | false=>rw[h2] at h;cases h
  | true =>
    rw[h2,if_neg (by simp)] at h;obtain⟨hf, -⟩:=zKi T1 T2 _ _ h;rw[zDL Z n 0 hn] at hf
    have e:vV (uU Z 0)=(jH 0 ((zto (yM Z 0)).getD 0 0-jW Z 0),true)::(zAc 0 ((zto (yM Z 0)).drop 1)).map fun u=>(u,false):=by
     unfold uU;rw[zCl _ _ (jK _),zLS]
    rw[e] at hf
    obtain⟨t,ht⟩:=zLo ((zto (yM Z 0)).drop 1) 0 (.inr (fun h=>by
     have:=congrArg List.length h;rw[wK1,jK] at this
     simp at this))
    refine⟨fun h=> ?_,fun h=> ?_⟩
    ·have:=hf _ (wS1 _ wR6);rw[if_pos rfl,h] at this;cases this
    ·have:=hf (t,false) (wS1 _ (wR9 _ (wD6.2 ⟨t,ht,rfl⟩)));rw[if_neg (by simp),h] at this;cases this
def fcnt_none (e:Nat) (Z:List Int):xI 0 e Z (yG 0 e)=(z256,z256):=by
 have hK:yG 0 e=1:=(zDB (n:=0) (e:=e) (.inr rfl)).2;have hp:yX 0 e 0 Z=[]:=by unfold yX;simp
 have he:xZ yT 0 [] (z256,z256)=(0,(z256,z256)):=by decide+kernel
 rw[hK,xI,hp,show min (0-0*yE 0 e) (yE 0 e)=0 by simp,he,xI];decide+kernel
def zOz {counts cs xs:List Int} (h:zDX counts cs xs) (hx:xs≠[]∨qM counts=0):qM counts=0∧BM.Made counts cs xs:=by
 by_cases hb:qM counts=0
 ·exact⟨hb,h.1 hb⟩
 ·rcases hx with hx | hx
  ·exact absurd (h.2 hb).2 hx
  ·exact absurd hx hb
def zipC_ne {C:List (Nat×Nat)} {xs:List Int} (h:zL C xs≠[]):xs≠[]:=by
 rintro rfl;exact h (by unfold zL;simp)
def enc_good {wd hi:Int} {L:List (List Int)} {q:List Int} (hq:q.length=64) {e:Nat} {F:FC} (h:zDb wd hi L q (e:Int) 0 F) :
 (zN wd hi L q).1=0∧e≤100∧ ∃ cs1 xs1 cs2 xs2,cs1.length=16∧cs2.length=16∧zT cs1 xs1=0∧zT cs2 xs2=0 ∧
   (qM (xI (zN wd hi L q).2.1 e (zN wd hi L q).2.2 (yG (zN wd hi L q).2.1 e)).1=0∧BM.Made (xI (zN wd hi L q).2.1 e (zN wd hi L q).2.2 (yG (zN wd hi L q).2.1 e)).1 cs1 xs1) ∧
   (qM (xI (zN wd hi L q).2.1 e (zN wd hi L q).2.2 (yG (zN wd hi L q).2.1 e)).2=0∧BM.Made (xI (zN wd hi L q).2.1 e (zN wd hi L q).2.2 (yG (zN wd hi L q).2.1 e)).2 cs2 xs2) ∧
   (zCM (zL (zD cs1 16) xs1) (zL (zD cs2 16) xs2) (zN wd hi L q).2.1 e (zN wd hi L q).2.2).1=0 ∧
   F=⟨wd,hi,L.length,q,cs1,xs1,cs2,xs2,(e:Int),(zCM (zL (zD cs1 16) xs1) (zL (zD cs2 16) xs2) (zN wd hi L q).2.1 e (zN wd hi L q).2.2).2⟩:=by
 unfold zDb at h;have hZ:=zGC wd hi L q hq
 by_cases hE:(zN wd hi L q).1=0
 ·rw[if_neg (by simpa using hE)] at h
  by_cases hr:(e:Int)<0∨100<(e:Int)
  ·rw[if_pos hr] at h;cases h.1
  ·rw[if_neg hr,wF0] at h;generalize zN wd hi L q=z at *;obtain⟨E,n,Z⟩:=z;dsimp only at h hE hZ ⊢;obtain⟨cs1,xs1,cs2,xs2,t1,t2,l1,l2,hs,hF⟩:=h;rw[if_pos rfl] at hF;unfold zBN at hs hF;rw[if_neg hr] at hs hF
   by_cases ht:twoE cs1 xs1 cs2 xs2=0
   ·rw[if_neg (by simpa using ht),wF0] at hs hF
    have z1:zT cs1 xs1=0:=by
     unfold twoE at ht
     by_cases h:zT cs1 xs1=0
     ·exact h
     ·rw[if_neg h] at ht;exact absurd ht h
    have z2:zT cs2 xs2=0:=by unfold twoE at ht;rw[if_pos z1] at ht;exact ht
    obtain⟨-,hok, -⟩:=zOZ l1 l2 z1 z2 hZ hs.symm
    have hx:(xs1≠[]∧xs2≠[])∨n=0:=by
     by_cases hn:n=0
     ·exact .inr hn
     ·have hl:0<zAe n e 0:=by
       unfold zAe yE;rw[wQ0,Nat.sub_zero]
       by_cases h0:e=0∨n=0
       ·rw[if_pos h0];omega
       ·rw[if_neg h0];omega
      obtain⟨f1,f2⟩:=zSr (hok 0 (zPy n e)) hl;exact .inl ⟨zipC_ne f1,zipC_ne f2⟩
    have hb:n=0→qM (xI n e Z (yG n e)).1=0∧qM (xI n e Z (yG n e)).2=0:=fun h0=>by
     subst h0;rw[fcnt_none];decide+kernel
    refine⟨hE,by omega,cs1,xs1,cs2,xs2,l1,l2,z1,z2,zOz t1 ?_,zOz t2 ?_,hs.symm,hF⟩
    ·exact hx.elim (fun h=>.inl h.1) (fun h=>.inr (hb h).1)
    ·exact hx.elim (fun h=>.inl h.2) (fun h=>.inr (hb h).2)
   ·rw[if_pos ht] at hs;exact absurd hs.symm ht
 ·rw[if_pos (by simpa using hE)] at h;exact absurd h.1.symm hE
end Go.Proofs.YtkggcjdlpendfaaGreatDoor
namespace Go.Proofs.YtkggcjdlpendfaaGreatDoor.BM
def xD (cs:List Int):Nat→List Int
 | 0=>[]
 | i+1=>xD cs i++(if 0<cs.getD i 0 then [(i:Int)] else [])
def zBp (cs:List Int): ∀ (i:Nat) (s:Int),s∈xD cs i↔ ∃ j:Nat,j<i∧s=(j:Int)∧0<cs.getD j 0
 | 0,s=>by simp[xD]
 | i+1,s=>by
   rw[xD,List.mem_append,zBp cs i s];constructor
   ·rintro (⟨j,h1,h2,h3⟩ | h)
    ·exact⟨j,by omega,h2,h3⟩
    ·split at h
     ·rename_i hp;exact⟨i,by omega,by simpa using h,hp⟩
     ·cases h
   ·rintro⟨j,h1,h2,h3⟩
    by_cases hj:j<i
    ·exact .inl ⟨j,hj,h2,h3⟩
    ·obtain rfl:j=i:=by omega
     right
     rw[if_pos h3];simpa using h2
def zDz (cs:List Int): ∀ i,(xD cs i).Nodup
 | 0=>by simp[xD]
 | i+1=>by
   rw[xD,List.nodup_append];refine⟨zDz cs i,by split<;>simp,fun a ha b hb e=> ?_⟩;obtain⟨j,h1,h2, -⟩:=(zBp cs i a).1 ha;split at hb
   ·have:b=(i:Int):=by simpa using hb
    omega
   ·cases hb
def zJF (cs:List Int): ∀ i,(xD cs i).length≤i
 | 0=>by simp[xD]
 | i+1=>by
   have:=zJF cs i;rw[xD,List.length_append];split<;>simp<;>omega
def wtN (cs:List Int) (s:Int):Nat:=if s= -1 then 0 else (cs.getD s.toNat 0).toNat
def zEi (cs:List Int): ∀ i,singN cs i=((-1)::xD cs i).map (zDr (wtN cs))
 | 0=>rfl
 | i+1=>by
   rw[singN,xD,zEi cs i, ←List.cons_append,List.map_append];congr 1
   split
   ·have:wtN cs (i:Int)=(cs.getD i 0).toNat:=by unfold wtN;rw[if_neg (by omega)];simp
    simp[zDr,this]
   ·rfl
def zIY (cs:List Int): ∀ i,(xD cs i).length=(posN cs i).length
 | 0=>rfl
 | i+1=>by
   rw[xD,posN,List.length_append,List.length_append,zIY cs i];split<;>rfl
def zHR (f:Int→Nat) (k n:Nat) (s:Int):s∈filt f k n↔(∃ j:Nat,j<n∧s=(j:Int))∧f s=k+1:=by
 unfold filt;simp only[List.mem_filter,List.mem_map,List.mem_range,decide_eq_true_eq];constructor
 ·rintro⟨⟨j,h1,h2⟩,h3⟩;exact⟨⟨j,h1,h2.symm⟩,h3⟩
 ·rintro⟨⟨j,h1,h2⟩,h3⟩;exact⟨⟨j,h1,h2.symm⟩,h3⟩
def zTJ (f:Int→Nat) (k n:Nat):(filt f k n).Nodup:=by
 unfold filt;rw[List.nodup_iff_pairwise_ne];refine List.Pairwise.filter _ ?_;rw[List.pairwise_map];exact List.nodup_range.imp (fun h e=>h (by injection e))
def grp (f:Int→Nat) (n:Nat):Nat→List Int
 | 0=>[]
 | k+1=>grp f n k++filt f k n
def grp_eq (f:Int→Nat) (n:Nat): ∀ k,(List.range k).flatMap (fun j=>filt f j n)=grp f n k
 | 0=>rfl
 | k+1=>by rw[List.range_succ,List.flatMap_append,grp_eq f n k];simp[grp]
def xsN_grp (f:Int→Nat) (n:Nat):xsN f n 16 0=grp f n 16:=by
 unfold xsN;rw[grp_eq];simp[filt]
def zDo (f:Int→Nat) (n:Nat): ∀ (k:Nat) (s:Int),s∈grp f n k↔(∃ j:Nat,j<n∧s=(j:Int))∧1≤f s∧f s≤k
 | 0,s=>by
   simp only[grp,List.not_mem_nil,false_iff];rintro⟨-,h1,h2⟩;omega
 | k+1,s=>by
   rw[grp,List.mem_append,zDo f n k s,zHR];constructor
   ·rintro (⟨h1,h2,h3⟩ | ⟨h1,h2⟩)
    ·exact⟨h1,h2,by omega⟩
    ·exact⟨h1,by omega,by omega⟩
   ·rintro⟨h1,h2,h3⟩
    by_cases h:f s≤k
    ·exact .inl ⟨h1,h2,h⟩
    ·exact .inr ⟨h1,by omega⟩
def zFz (f:Int→Nat) (n:Nat): ∀ k,(grp f n k).Nodup
 | 0=>by simp[grp]
 | k+1=>by
   rw[grp,List.nodup_append];refine⟨zFz f n k,zTJ f k n,fun a ha b hb e=> ?_⟩;subst e;have h1:=((zDo f n k a).1 ha).2.2;have h2:=((zHR f k n a).1 hb).2;omega
def zIW {l m:List Int} (hl:l.Nodup) (hm:m.Nodup) (h: ∀ s∈l,s∈m) (g:Int→Nat):zY l g≤zY m g:=by
 rw[zGH hm g l h];refine zGs (fun s _=> ?_);have h1:l.count s≤1:=List.nodup_iff_count.1 hl s;have:=Nat.mul_le_mul_left (g s) h1;omega
def grp_len (f:Int→Nat) (n k:Nat):(grp f n k).length≤n:=by
 have h:=zIW (zFz f n k) (m:=(List.range n).map Int.ofNat) (by
  rw[List.nodup_iff_pairwise_ne,List.pairwise_map]
  exact List.nodup_range.imp (fun h e=>h (by injection e))) (fun s hs=>by
   obtain⟨j,h1,h2⟩:=((zDo f n k s).1 hs).1
   exact List.mem_map.2 ⟨j,List.mem_range.2 h1,h2.symm⟩) (fun _=>1)
 rw[zAP,zAP] at h;simpa using h
def grp_kraft (f:Int→Nat) (n:Nat): ∀ k,zY (grp f n (k+1)) (fun s=>2 ^ (16-f s))=zY (grp f n k) (fun s=>2 ^ (16-f s))+(filt f k n).length*2 ^ (15-k):=fun k=>by
 rw[grp,zBl];congr 1
 rw[zCU (k:=fun _=>2 ^ (15-k)) (fun s hs=>by
  have h:=((zHR f k n s).1 hs).2;show 2 ^ (16-f s)=2 ^ (15-k)
  congr 1
  omega),zAP]
def zPk (f:Int→Nat) (n j:Nat) (hj:j<16):(csN f n 16 0).getD j 0=((filt f j n).length:Int):=by
 rw[List.getD_eq_getElem?_getD,List.getElem?_eq_getElem (by rw[csN_len];exact hj),zJQ,if_pos hj];rfl
def zLm (f:Int→Nat) (n:Nat): ∀ k,k≤16→vD (csN f n 16 0) k*2 ^ (16-k)=zY (grp f n k) (fun s=>2 ^ (16-f s))
 | 0,_=>by simp[vD,grp,zY]
 | k+1,h=>by
   have ih:=zLm f n k (by omega);rw[grp_kraft, ←ih,vD,zPk f n k (by omega),Int.toNat_natCast,show 16-(k+1)=15-k by omega,show 16-k=(15-k)+1 by omega,Nat.pow_succ,Nat.add_mul];congr 1
   rw[Nat.mul_comm 2,Nat.mul_assoc,Nat.mul_comm 2]
def zKf (f:Int→Nat) (n:Nat): ∀ k,k≤16→zAq (csN f n 16 0) k=((grp f n k).length:Int)
 | 0,_=>by simp[zAq,grp]
 | k+1,h=>by
   rw[zIQ _ k (by rw[csN_len];omega),zKf f n k (by omega),zJQ,if_pos (by omega),grp,List.length_append];simp
def zKc (f:Int→Nat) (n:Nat): ∀ k,k≤16→(zD (csN f n 16 0) k).length=(grp f n k).length∧ ∀ t∈zL (zD (csN f n 16 0) k) (grp f n k),t.2.1=((f t.1:Nat):Int)
 | 0,_=>by simp[zD,grp,zL]
 | k+1,h=>by
   obtain⟨h1,h2⟩:=zKc f n k (by omega);have hg:=zPk f n k (by omega);rw[zD,grp,hg,Int.toNat_natCast];refine⟨by rw[List.length_append,List.length_append,h1,zGx],fun t ht=> ?_⟩;unfold zL at ht h2;rw[List.zipWith_append h1] at ht;rcases List.mem_append.1 ht with ht | ht
   ·exact h2 t ht
   ·obtain⟨i,hi,e⟩:=List.mem_iff_getElem.1 ht;rw[List.getElem_zipWith] at e;subst e;have hm:(filt f k n)[i]'(by rw[List.length_zipWith,zGx] at hi;omega)∈filt f k n:=List.getElem_mem _;have hf:=((zHR f k n _).1 hm).2;show (((uD (csN f n 16 0) k (filt f k n).length)[i]'(by rw[List.length_zipWith] at hi;omega)).1:Int)=_
    rw[hf];simp[uD]
def len_of (f:Int→Nat) (n:Nat) (s:Int) (hs:s∈grp f n 16):(qV (zL (zD (csN f n 16 0) 16) (grp f n 16)) s).isSome=true∧jC (zL (zD (csN f n 16 0) 16) (grp f n 16)) s=f s:=by
 obtain⟨h1,h2⟩:=zKc f n 16 (Nat.le_refl _);obtain⟨p,hp,e⟩:=List.mem_iff_getElem.1 hs;have hz:(zL (zD (csN f n 16 0) 16) (grp f n 16)).length=(grp f n 16).length:=by rw[zBS _ _ (by omega),h1]
 have hm:(zL (zD (csN f n 16 0) 16) (grp f n 16))[p]'(by omega)∈zL (zD (csN f n 16 0) 16) (grp f n 16):=List.getElem_mem _
 have he:((zL (zD (csN f n 16 0) 16) (grp f n 16))[p]'(by omega)).1=s:=by
  unfold zL;rw[List.getElem_zipWith];exact e
 cases hq:qV (zL (zD (csN f n 16 0) 16) (grp f n 16)) s with
 | none =>
   exfalso
   have:=(List.find?_eq_none.1 hq) _ hm;simp[he] at this
 | some t =>
   refine⟨rfl, ?_⟩;have ht:=List.mem_of_find?_eq_some hq;have ht1:=List.find?_some hq;simp at ht1;have h3:=h2 t ht;rw[ht1] at h3;unfold jC zBs;rw[hq];show (qF t.2.2.toNat t.2.1.toNat).length=f s
   rw[qB,h3,Int.toNat_natCast]
def zQt {counts:List Int} {n:Nat} (hn:counts.length=n) (h256:n≤256) (hb: ∀ z∈counts,0≤z∧z≤9999) {S L:List Pack} (hS:S.Perm (singN counts n)) (hso:(S.map (·.1)).Pairwise (· ≤ ·)) (hR:Reach S 15 L) :
 let f:=fun s=>(cont (L.take (2*S.length-2))).count s
 (∀ s,f s≠0→s= -1∨s∈xD counts n)∧(∀ s∈xD counts n,1≤f s∧f s≤16)∧zY (xD counts n) (fun s=>2 ^ (16-f s))<2 ^ 16 ∧
 ∀ ws:List Nat,ws.Perm (0::posN counts n)→ws.Pairwise (· ≤ ·)→zY (xD counts n) (fun s=>wtN counts s*f s)=zFn ws:=by
 intro f;have hSl:S.length=(xD counts n).length+1:=by rw[hS.length_eq,zEi];simp
 by_cases h0:(xD counts n).length=0
 ·have hr:=List.eq_nil_of_length_eq_zero h0
  have hf: ∀ s,f s=0:=fun s=>by
   show (cont (L.take (2*S.length-2))).count s=0
   rw[hSl,h0];simp[cont]
  rw[hr];refine⟨fun s h=>absurd (hf s) h,fun s h=>(by cases h),(by simp[zY]),fun ws hw _=> ?_⟩;have hl:=hw.length_eq;rw[List.length_cons, ←zIY,h0] at hl;unfold zFn;rw[if_pos hl];rfl
 ·have hnd:((-1:Int)::xD counts n).Nodup:=by
   rw[List.nodup_cons];refine⟨fun h=> ?_,zDz counts n⟩;obtain⟨j, -,h2, -⟩:=(zBp counts n _).1 h;omega
  have hS2:S.Perm (((-1:Int)::xD counts n).map (zDr (wtN counts))):=by rw[←zEi];exact hS
  obtain⟨P,hP,hPs,hPL⟩:=hR.rows hso
  have hlen:2*((-1:Int)::xD counts n).length-2≤(P 15).length:=by
   rw[hPL,hR.len,hSl,List.length_cons];exact lenF_15 _ (by have:=zJF counts n;omega)
  obtain⟨c1,c2,c3,c4,c5⟩:=packages hnd (by rw[List.length_cons];omega) hS2 hP hPs hlen far;rw[hPL,List.length_cons, ←hSl] at c1 c2 c3 c4 c5;have hk:zY ((-1:Int)::xD counts n) (fun s=>2 ^ (16-f s))=2 ^ (16-f (-1))+zY (xD counts n) (fun s=>2 ^ (16-f s)):=rfl;have hc:zY ((-1:Int)::xD counts n) (fun s=>wtN counts s*f s)=wtN counts (-1)*f (-1)+zY (xD counts n) (fun s=>wtN counts s*f s):=rfl;have hw0:wtN counts (-1)=0:=by unfold wtN;rw[if_pos rfl]
  refine⟨fun s h=> ?_,fun s h=>c2 s (List.mem_cons_of_mem _ h), ?_,fun ws hw hws=> ?_⟩
  ·have:=c1 s (List.count_pos_iff.1 (Nat.pos_of_ne_zero h));simpa using this
  ·have h1:zY ((-1:Int)::xD counts n) (fun s=>2 ^ (16-f s))≤2 ^ 16:=c3;rw[hk] at h1;have h2:0<2 ^ (16-f (-1)):=Nat.two_pow_pos _;omega
  ·rw[hw0,Nat.zero_mul,Nat.zero_add] at hc
   have hwt: ∀ s,wtN counts s≤9999:=fun s=>by
    unfold wtN;split
    ·omega
    ·rw[List.getD_eq_getElem?_getD]
     cases hq:counts[s.toNat]? with
     | none=>simp
     | some z=>have:=hb z (List.mem_of_getElem? hq);simp;omega
   have hbd:zY (xD counts n) (fun s=>wtN counts s*f s)≤256*159984:=by
    refine Nat.le_trans (zGs (k:=fun _=>159984) (fun s hs=> ?_)) ?_
    ·have h1:=(c2 s (List.mem_cons_of_mem _ hs)).2;have h3:wtN counts s*f s≤9999*16:=Nat.mul_le_mul (hwt s) h1;exact h3
    ·rw[zAP];exact Nat.mul_le_mul_right _ (Nat.le_trans (zJF counts n) h256)
   have hF:zY (xD counts n) (fun s=>wtN counts s*f s)=pre (L.map (·.1)) (2*S.length-2):=hc.symm.trans c4;have hlt:pre (L.map (·.1)) (2*S.length-2)<far:=by rw[←hF];unfold far;omega
   have h5:=c5 hlt
   have hwe:ws=S.map (·.1):=by
    refine List.Perm.eq_of_pairwise (le:=(· ≤ ·)) (fun a b _ _ h1 h2=>by omega) hws hso ?_;refine hw.trans ?_;rw[←zIN];exact (hS.map _).symm
   rw[hF, ←h5, ←hwe];unfold zFn;have hwl:ws.length=S.length:=by rw[hwe,List.length_map]
   rw[if_neg (by omega),hwl,hwe]
def zFf {counts cs xs:List Int} (hM:Made counts cs xs) (hb:qM counts=0) :
 zT cs xs=0∧(∀ x∈xs, ∃ j:Nat,x=(j:Int)∧j<counts.length∧counts.getD j 0≠0)∧ ∀ ws:List Nat,ws.Perm (0::posN counts counts.length)→ws.Pairwise (· ≤ ·)→jI cs xs counts=(((zFn ws:Nat):Int),0):=by
 obtain⟨b1,b2⟩:=zEC hb;have hbd:=yD.1 b2;obtain⟨S,L,hS,hso,hR,hcs,hxs⟩:=hM;obtain⟨f1,f2,f3,f4⟩:=zQt rfl b1 (fun z hz=>by have:=hbd z hz;omega) hS hso hR;generalize (fun s=>(cont (L.take (2*S.length-2))).count s)=f at *;generalize hn:counts.length=n at *;rw[xsN_grp] at hxs;subst hcs hxs
 have hreal: ∀ s,s∈grp f n 16↔s∈xD counts n:=fun s=>by
  rw[zDo];constructor
  ·rintro⟨⟨j,h1,h2⟩,h3, -⟩;rcases f1 s (by omega) with h | h
   ·omega
   ·exact h
  ·intro h;obtain⟨j,h1,h2, -⟩:=(zBp counts n s).1 h;exact⟨⟨j,h1,h2⟩,f2 s h⟩
 have hglen:=grp_len f n 16
 have hcheck:zT (csN f n 16 0) (grp f n 16)=0:=by
  rw[zIz]
  ·rw[if_pos];unfold okW;rw[List.all_eq_true];intro k hk;have hk16:=List.mem_range.1 hk;rw[decide_eq_true_eq];have h1:=zLm f n (k+1) (by omega)
   have h2:zY (grp f n (k+1)) (fun s=>2 ^ (16-f s))≤zY (xD counts n) (fun s=>2 ^ (16-f s)):=zIW (zFz f n _) (zDz counts n) (fun s hs=>by
    obtain⟨a,b,c⟩:=(zDo f n _ s).1 hs
    exact (hreal s).1 ((zDo f n 16 s).2 ⟨a,b,by omega⟩)) _
   have h3:vD (csN f n 16 0) (k+1)*2 ^ (16-(k+1))<2 ^ (k+1)*2 ^ (16-(k+1)):=by
    rw[←Nat.pow_add,show k+1+(16-(k+1))=16 by omega,h1];omega
   have:=Nat.lt_of_mul_lt_mul_right h3;omega
  ·rw[zFa];refine⟨yD.2 (fun z hz=> ?_), ?_, ?_⟩
   ·obtain⟨j,hj,rfl⟩:=List.mem_map.1 hz;have h1:=List.mem_range.1 hj;rw[if_pos h1];have:=filt_len f j n;omega
   ·rw[zKf f n 16 (Nat.le_refl _)];omega
   ·exact zKf f n 16 (Nat.le_refl _)
  ·refine yD.2 (fun z hz=> ?_);obtain⟨⟨j,h1,h2⟩, -⟩:=(zDo f n 16 z).1 hz;omega
  ·exact zFz f n 16
 refine⟨hcheck,fun x hx=> ?_,fun ws hw hws=> ?_⟩
 ·obtain⟨j,h1,h2,h3⟩:=(zBp counts n x).1 ((hreal x).1 hx);exact⟨j,h2,h1,by omega⟩
 ·have hcost: ∀ i,i≤n→zBI (zL (zD (csN f n 16 0) 16) (grp f n 16)) counts i=((zY (xD counts i) (fun s=>wtN counts s*f s):Nat):Int):=by
   have HT:=fun s hs=>(len_of f n s hs).2
   generalize zL (zD (csN f n 16 0) 16) (grp f n 16)=T at HT ⊢;intro i
   induction i with
   | zero=>intro _;rfl
   | succ i ih =>
     intro hi;show zBI T counts i+counts.getD i 0*(jC T (i:Int):Int)=_
     rw[ih (by omega),xD,zBl]
     have hz:0≤counts.getD i 0:=by
      rw[List.getD_eq_getElem?_getD]
      cases hq:counts[i]? with
      | none=>simp
      | some z=>exact (hbd z (List.mem_of_getElem? hq)).1
     by_cases hp:0<counts.getD i 0
     ·have hm:(i:Int)∈xD counts n:=(zBp counts n _).2 ⟨i,by omega,rfl,hp⟩;rw[if_pos hp,HT _ ((hreal _).2 hm)];have hw1:wtN counts (i:Int)=(counts.getD i 0).toNat:=by unfold wtN;rw[if_neg (by omega)];simp
      have e:zY [(i:Int)] (fun s=>wtN counts s*f s)=(counts.getD i 0).toNat*f (i:Int):=by simp[zY,hw1]
      rw[e,Int.natCast_add,Int.natCast_mul,Int.toNat_of_nonneg hz]
     ·rw[if_neg hp,show counts.getD i 0=0 by omega,Int.zero_mul];simp[zY]
  have hsome: ∀ s,s∈xD counts n→(qV (zL (zD (csN f n 16 0) 16) (grp f n 16)) s).isSome=true:=fun s hs=>(len_of f n s ((hreal s).2 hs)).1
  have hc:=hcost n (Nat.le_refl _);clear hcost;unfold jI;rw[if_pos hcheck,if_pos hb];clear hcheck;generalize zL (zD (csN f n 16 0) 16) (grp f n 16)=T at *
  have hall:zGR T counts=true:=zKw (fun k hk=>by
   by_cases hp:0<counts[k]
   ·exact .inr (hsome _ ((zBp counts n _).2 ⟨k,by omega,rfl,by simpa [hk] using hp⟩))
   ·exact .inl (by omega))
  rw[if_pos hall,hn,hc,f4 ws hw hws]
end Go.Proofs.YtkggcjdlpendfaaGreatDoor.BM
namespace Go.Proofs.YtkggcjdlpendfaaGreatDoor.BM
open Go.RowKit
def zKA (cs:List Int): ∀ k,((zD cs k).map fun p=>2 ^ (k-p.1)).sum=vD cs k
 | 0=>by rw[zCg];rfl
 | k+1=>by
   have hn:vD cs (k+1)=2*vD cs k+(cs.getD k 0).toNat:=rfl
   have h1:((zD cs k).map fun p=>2 ^ (k+1-p.1))=(zD cs k).map fun p=>2*2 ^ (k-p.1):=List.map_congr_left fun p hp=>by
    have:=(zHe cs k p hp).1;rw[show k+1-p.1=(k-p.1)+1 by omega,Nat.pow_succ,Nat.mul_comm]
   have h2: ∀ l:List (Nat×Nat),(l.map fun p=>2*2 ^ (k-p.1)).sum=2*(l.map fun p=>2 ^ (k-p.1)).sum:=by
    intro l
    induction l with
    | nil=>rfl
    | cons a l ih=>simp only[List.map_cons,List.sum_cons,ih];omega
   have h3: ∀ j,((uD cs k j).map fun p=>2 ^ (k+1-p.1)).sum=j:=by
    intro j
    induction j with
    | zero=>rfl
    | succ j ih=>rw[zOF,List.map_append,List.sum_append,ih];simp
   rw[zED,List.map_append,List.sum_append,h1,h2,zKA cs k,h3,hn]
def zRn {cs xs:List Int} (hl:cs.length=16) (hz:zT cs xs=0):zY xs (fun s=>2 ^ (16-jC (zL (zD cs 16) xs) s))+1≤2 ^ 16:=by
 obtain⟨q1,q2,q3,q4,q5,q6⟩:=zAQ hz
 have hcl:(zD cs 16).length=xs.length:=by
  have:=zBw cs (fun z hz=>(yD.1 q1 z hz).1) 16 (by omega);omega
 have hsy:=zOM (zD cs 16) xs hcl;have hfit:=zEv cs q4 hl 16 (by omega)
 have hlen: ∀ i (h:i<xs.length),jC (zL (zD cs 16) xs) xs[i]=((zD cs 16)[i]'(by omega)).1:=fun i h=>by
  have hzl:=zBS (zD cs 16) xs (by omega)
  have hf:qV (zL (zD cs 16) xs) xs[i]=some ((zL (zD cs 16) xs)[i]'(by omega)):=by
   refine findT_at (by omega) ?_ ?_
   ·rw[hsy];intro hm;obtain⟨j,hj,e⟩:=List.mem_iff_getElem.1 hm;rw[List.getElem_take] at e;have:=(List.getElem_inj q6).1 e;rw[List.length_take] at hj;omega
   ·rw[zAD _ xs i (by omega) h (by omega)]
  unfold jC zBs;rw[hf,zAD _ xs i (by omega) h (by omega)];dsimp only;rw[qB,Int.toNat_natCast]
 have e:xs.map (fun s=>2 ^ (16-jC (zL (zD cs 16) xs) s))=(zD cs 16).map fun p=>2 ^ (16-p.1):=by
  refine List.ext_getElem (by simp[hcl]) fun i h1 h2=> ?_
  rw[List.length_map] at h1;rw[List.getElem_map,List.getElem_map,hlen i h1]
 unfold zY;rw[e,zKA];have h15:=List.all_eq_true.1 q4 15 (by simp);simpa using h15
def zKy (T:List Tok) {counts:List Int} (hb: ∀ z∈counts,0≤z): ∀ i,i≤counts.length→zBI T counts i=((zY (xD counts i) (fun s=>wtN counts s*jC T s):Nat):Int)
 | 0,_=>rfl
 | i+1,hi=>by
   have ih:=zKy T hb i (by omega)
   have hz:0≤counts.getD i 0:=by
    rw[List.getD_eq_getElem?_getD,List.getElem?_eq_getElem (by omega)];exact hb _ (List.getElem_mem _)
   show zBI T counts i+counts.getD i 0*(jC T (i:Int):Int)=_
   rw[ih,xD]
   by_cases h0:0<counts.getD i 0
   ·rw[if_pos h0,zBl];have hw:wtN counts (i:Int)=(counts.getD i 0).toNat:=by unfold wtN;rw[if_neg (by omega),Int.toNat_natCast]
    have h1:zY [(i:Int)] (fun s=>wtN counts s*jC T s)=(counts.getD i 0).toNat*jC T (i:Int):=by simp[zY,hw]
    rw[h1]
    push_cast
    rw[Int.toNat_of_nonneg hz]
   ·rw[if_neg h0,List.append_nil,show counts.getD i 0=0 by omega];simp
def fewest {counts cs xs cs' xs':List Int} (hM:Made counts cs xs) (hb:qM counts=0) (hl:cs'.length=16): ∃ m:Int,jI cs xs counts=(m,0)∧ ∀ c,jI cs' xs' counts=(c,0)→m≤c:=by
 obtain⟨g1,g2,g3⟩:=zFf hM hb;obtain⟨b1,b2⟩:=zEC hb;have hbd:=yD.1 b2;have hws:=List.mergeSort_perm (0::posN counts counts.length) (fun a b=>decide (a≤b));have hso:=List.pairwise_mergeSort (le:=fun a b:Nat=>decide (a≤b)) (fun a b c h1 h2=>by simp at *;omega) (fun a b=>by simp;omega) (0::posN counts counts.length);generalize (0::posN counts counts.length).mergeSort (fun a b=>decide (a≤b))=ws at *;have hsr:ws.Pairwise (· ≤ ·):=hso.imp (by simp);refine⟨_,g3 ws hws hsr,fun c hc=> ?_⟩;unfold jI at hc
 by_cases hz:zT cs' xs'=0
 ·rw[if_pos hz,if_pos hb] at hc
  cases ha:zGR (zL (zD cs' 16) xs') counts with
  | false=>rw[ha] at hc;simp at hc
  | true =>
    rw[ha,if_pos rfl] at hc;have hcc:c=zBI (zL (zD cs' 16) xs') counts counts.length:=by injection hc with h1 h2;exact h1.symm
    rw[hcc,zKy _ (fun z hz=>(hbd z hz).1) _ (Nat.le_refl _)];have hk:=zRn hl hz;obtain⟨q1,q2,q3,q4,q5,q6⟩:=zAQ hz;have hf:=zFH cs' xs' hl hz
    have hcl:(zD cs' 16).length=xs'.length:=by
     have:=zBw cs' (fun z hz=>(yD.1 q1 z hz).1) 16 (by omega);omega
    have hsy:=zOM (zD cs' 16) xs' hcl;generalize zL (zD cs' 16) xs'=T at *;generalize hn:counts.length=n at *
    have hreal: ∀ s∈xD counts n,s∈xs'∧1≤jC T s∧jC T s≤16:=fun s hs=>by
     obtain⟨j,hj,rfl,hp⟩:=(zBp counts n s).1 hs;have h1:=List.all_eq_true.1 ha j (List.mem_range.2 (by omega));simp only[Bool.or_eq_true,decide_eq_true_eq] at h1;obtain⟨t,ht⟩:=Option.isSome_iff_exists.1 (h1.resolve_left (by omega));obtain⟨long,code,rfl,l1,l2,l3⟩:=hf _ _ ht;refine⟨?_, ?_⟩
     ·rw[←hsy];exact List.mem_map.2 ⟨_,List.mem_of_find?_eq_some ht,rfl⟩
     ·unfold jC;rw[zEu ht,qB];exact⟨l1,l2⟩
    have hkr:zY (xD counts n) (fun s=>2 ^ (16-jC T s))+1≤2 ^ 16:=by
     have:=zIW (zDz counts n) q6 (fun s hs=>(hreal s hs).1) (fun s=>2 ^ (16-jC T s));omega
    have hlenw:ws.length=(xD counts n).length+1:=by rw[hws.length_eq,List.length_cons,zIY]
    by_cases h0:(xD counts n).length=0
    ·have:zFn ws=0:=by unfold zFn;rw[if_pos (by omega)]
     rw[this];omega
    ·let X:List (Nat×Nat):=(0,15)::(xD counts n).map fun s=>(wtN counts s,jC T s-1)
     have hXw:X.map (·.1)=0::posN counts n:=by
      have h1:=zIN counts n;rw[zEi,List.map_map] at h1;injection h1 with h2 h3
      show 0::((xD counts n).map fun s=>(wtN counts s,jC T s-1)).map (·.1)=_
      rw[List.map_map, ←h3];rfl
     have hXl:X.length=ws.length:=by rw[hlenw];simp[X]
     have hXp:Part ws X:=⟨[],by rw[List.append_nil,hXw];exact hws⟩
     have hX1: ∀ x∈X,x.2≤15:=by
      intro x hx;rcases List.mem_cons.1 hx with rfl | hx
      ·exact Nat.le_refl _
      ·obtain⟨s,hs,rfl⟩:=List.mem_map.1 hx;have:=(hreal s hs).2;show jC T s-1≤15
       omega
     have hXk:zBA 15 X≤2*2 ^ 15:=by
      have e:zBA 15 X=1+zY (xD counts n) (fun s=>2 ^ (16-jC T s)):=by
       show ((((0,15)::(xD counts n).map fun s=>(wtN counts s,jC T s-1)):List (Nat×Nat)).map fun x=>2 ^ (15-x.2)).sum=_
       rw[List.map_cons,List.sum_cons,List.map_map]
       have:(xD counts n).map ((fun x:Nat×Nat=>2 ^ (15-x.2)) ∘ fun s=>(wtN counts s,jC T s-1))=(xD counts n).map fun s=>2 ^ (16-jC T s):=List.map_congr_left (fun s hs=>by
        have:=(hreal s hs).2;show 2 ^ (15-(jC T s-1))=_
        congr 1
        omega)
       rw[this];rfl
      rw[e];omega
     have hi:=D_high hsr far 15 X 2 hXp hX1 hXk;rw[hXl] at hi
     have hp:pre ws ws.length=zY (xD counts n) (fun s=>wtN counts s):=by
      rw[pre_all,hws.sum_nat, ←hXw];show (((0,15)::(xD counts n).map fun s=>(wtN counts s,jC T s-1)).map (·.1)).sum=_
      rw[List.map_cons,List.sum_cons,List.map_map,Nat.zero_add];rfl
     have hcX:cost X=zY (xD counts n) (fun s=>wtN counts s*(jC T s-1)):=by
      show (((0,15)::(xD counts n).map fun s=>(wtN counts s,jC T s-1)).map fun x=>x.1*x.2).sum=_
      rw[List.map_cons,List.sum_cons,List.map_map];simp[zY,Function.comp_def]
     have hsum:zY (xD counts n) (fun s=>wtN counts s)+zY (xD counts n) (fun s=>wtN counts s*(jC T s-1))=zY (xD counts n) (fun s=>wtN counts s*jC T s):=by
      rw[←zFg];refine zCU (fun s hs=> ?_);obtain⟨d,hd⟩: ∃ d,jC T s=d+1:=⟨jC T s-1,by have:=(hreal s hs).2;omega⟩
      rw[hd,Nat.add_sub_cancel,Nat.mul_add,Nat.mul_one,Nat.add_comm]
     have hbz:zFn ws=pre ws ws.length+D (pre ws) far 15 ws.length 2:=by unfold zFn;rw[if_neg (by omega)]
     rw[hbz];omega
 ·rw[if_neg hz] at hc;injection hc with h1 h2
  exact absurd h2 hz
end Go.Proofs.YtkggcjdlpendfaaGreatDoor.BM
