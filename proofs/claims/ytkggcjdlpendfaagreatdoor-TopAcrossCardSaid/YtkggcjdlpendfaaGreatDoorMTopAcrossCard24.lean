/- Part 24. -/
import Derived.Test.YtkggcjdlpendfaaGreatDoorMTopAcrossCard23
namespace Go.Proofs.YtkggcjdlpendfaaGreatDoor
set_option linter.all false
set_option maxRecDepth 20000
set_option maxHeartbeats 8000000
open Go.RowKit
section
theorem zQV:((Tryz.prog.info? 22).bind (·.zero)).isSome=true:=by kernel_rfl
theorem zQF {ops:Array Oper} {rest:List Oper} {o:Oper} {a:Act} {w:World} {Q:Exit→Act→World→Prop} (hg:o.guard=none) (x y:Operand) (ho:o.op=.buildSlice 22 2 #[(0,x),(1,y)]) (dst:Option Tmp) (hdst:o.dst=dst)
 (m n:Int) (hx:a.eval x=.int .i64 m) (hy:a.eval y=.int .i64 n)
 (h: ∀ w1 g,Blk w1 g 3 (ints [m,n]).toArray→Ext w w1→w.heap.size≤g→wpList Tryz.prog ops Q rest (a.put dst (.slice (some ⟨g,0,none⟩) 2 2)) w1):wpList Tryz.prog ops Q (o::rest) a w:=by
 refine Go.Great.wpList_buildSliceTo hg 22 3 2 #[(0,x),(1,y)] ho _ rfl dst hdst Tryz.underlying22 (ints [m,n]).toArray ?_ (h _ _ (Blk.new w _ _) ((Ext.refl w).alloc _) (wA5 _))
 simp only[wC7,wC8,wC9,hx,hy]
 show _=_
 kernel_rfl
theorem builtPic3 (a b:Int) (A:Option Addr) (n c:Nat):Tryz.prog.built 31 [(0,.int .i64 a),(1,.int .i64 b),(2,.slice A n c)]=some (xE a b (.slice A n c)):=by
 show _=_
 kernel_rfl
theorem zNT {o:Oper} {a:Act} {x0 x1 x2:Operand} (ho:o.op=.build 31 #[(0,x0),(1,x1),(2,x2)]) {wd hi:Int} {A:Option Addr} {n c:Nat} (h0:a.eval x0=.int .i64 wd) (h1:a.eval x1=.int .i64 hi) (h2:a.eval x2=.slice A n c) (w:World) :
 (execOp a.eval o).run Tryz.prog w=.ok (.value (.agg (xE wd hi (.slice A n c)))) w:=by
 simp only[execOp,ho,Sem.run_bind,run_build w 31 (#[(0,x0),(1,x1),(2,x2)].map fun (i,x)=>(i,a.eval x)) (xE wd hi (.slice A n c)) (by simpa [h0,h1,h2] using builtPic3 wd hi A n c),Result.andThen_ok,Sem.run_pure]
theorem rows_one {w:World} {g h:Nat} {l:List Int} (h0:0<l.length) (hl:l.length≤100000000) (hb:Blk w g 3 (ints l).toArray) (hc:Blk w h 22 (Value.slice (some ⟨g,0,none⟩) l.length l.length).cells):RowsS w (some ⟨h,0,none⟩) 1 1 [l]:=by
 refine⟨[.slice (some ⟨g,0,none⟩) l.length l.length],hc.sl (size:=1) (n:=1) (c:=1) rfl (by omega) (by omega),rfl,fun k x hx=> ?_⟩
 cases k with
 | zero =>
   simp at hx
   subst hx
   exact⟨_,_,rfl,hb.sl (size:=1) (n:=l.length) (c:=l.length) (by simp[yA]) (by omega) (by omega)⟩
 | succ k=>simp at hx
theorem zPU:zAd Tryz.prog 14:=⟨_,Tryz.func14,rfl,rfl⟩
theorem zHI:zAd Tryz.prog 17:=⟨_,Tryz.func17,rfl,rfl⟩
def wkV (A1:Option Addr) (c1:Nat) (A2:Option Addr) (c2:Nat) (A:Option Addr) (c:Nat):Array Value:=wkF.cells (.slice A1 1 c1) (.slice A2 1 c2) (.slice A 1 c)
def WkAt (w:World) (A1:Option Addr) (c1:Nat) (A2:Option Addr) (c2:Nat) (A:Option Addr) (c:Nat):Prop:=wkF.at_ w (.slice A1 1 c1) (.slice A2 1 c2) (.slice A 1 c)
theorem zDf (A1:Option Addr) (c1:Nat) (A2:Option Addr) (c2:Nat) (A:Option Addr) (c:Nat):(wkV A1 c1 A2 c2 A c).size=103:=FC.size zFa _ _ _
theorem zJS (A1:Option Addr) (c1:Nat) (A2:Option Addr) (c2:Nat) (A:Option Addr) (c:Nat):(wkV A1 c1 A2 c2 A c).all (·.oneCell')=true:=zDr _ _ _ _ _ _ _ _ _ _
theorem WkAt.ext {w w':World} {A1:Option Addr} {c1:Nat} {A2:Option Addr} {c2:Nat} {A:Option Addr} {c:Nat} (h:WkAt w A1 c1 A2 c2 A c) (hx:Ext w w'):WkAt w' A1 c1 A2 c2 A c:=FC.at_.ext h hx
theorem wk_at {w:World} {s1 s2 sd:Value} (h:wkF.at_ w s1 s2 sd): ∃ A c B d C e,s1=.slice A 1 c∧s2=.slice B 1 d∧sd=.slice C 1 e:=by
 obtain⟨⟨A,c,e1, -⟩,⟨B,d,e2, -⟩,⟨C,e,e3, -⟩⟩:=h
 exact⟨A,c,B,d,C,e,e1,e2,e3⟩
theorem wk_encode {W W':World} {e:Ending} (h:EncIs 2 1 [[128,128]] (List.replicate 64 1) 3 W e W'): ∃ A1 c1 A2 c2 A c,e=.returned (.tuple #[.agg (wkV A1 c1 A2 c2 A c),.int .i64 0])∧WkAt W' A1 c1 A2 c2 A c∧Ext W W'∧NewB W (.slice A1 1 c1)∧NewB W (.slice A2 1 c2):=by
 obtain⟨E,F,s1,s2,sd,rfl,hs,hat,hE,hx,n1,n2⟩:=h
 obtain⟨rfl,rfl⟩:=wk_enc hE
 obtain⟨A1,c1,A2,c2,A,c,rfl,rfl,rfl⟩:=wk_at hat
 exact⟨A1,c1,A2,c2,A,c,rfl,hat,hx,n1,n2⟩
theorem wk_keep {w w' w0:World} {g:Nat} {A1:Option Addr} {c1:Nat} {A2:Option Addr} {c2:Nat} {A:Option Addr} {c:Nat} (h:WkAt w A1 c1 A2 c2 A c) (hu:Upd (fun b=>b=g) w w') (h1:NewB w0 (.slice A1 1 c1)) (h2:NewB w0 (.slice A2 1 c2)) (hg:g<w0.heap.size) (hb:Blk w g 47 zFile):WkAt w' A1 c1 A2 c2 A c :=
 ⟨zCz h.1 hu (fun b e=>by have:=h1 b e;omega),zCz h.2.1 hu (fun b e=>by have:=h2 b e;omega),zFJ h.2.2 hu (zOs hb h.2.2)⟩
theorem wk_pack {W:World} {A1:Option Addr} {c1:Nat} {A2:Option Addr} {c2:Nat} {A:Option Addr} {c:Nat} (h:WkAt W A1 c1 A2 c2 A c):Calls Tryz.prog 36 #[.agg (wkV A1 c1 A2 c2 A c)] W fun e W'=> ∃ B d,e=.returned (.tuple #[.slice B wkF.packL.length d,.int .i64 0])∧SL W' 1 (.slice B wkF.packL.length d) wkF.packL.length (zF wkF.packL)∧Ext W W':=by
 have:=wkF.pack zFa _ _ _ W h
 rw[zPW] at this
 exact this
theorem zRm {W:World} {B:Option Addr} {d:Nat} (h:SL W 1 (.slice B wkF.packL.length d) wkF.packL.length (zF wkF.packL)):Calls Tryz.prog 37 #[.slice B wkF.packL.length d] W fun e W'=> ∃ A1 c1 A2 c2 A c,e=.returned (.tuple #[.agg (wkV A1 c1 A2 c2 A c),.int .i64 0])∧WkAt W' A1 c1 A2 c2 A c∧Ext W W':=by
 refine (parse_any (.slice B wkF.packL.length d) wkF.packL W (wkF.packL_lt zFa.1 (by decide)) h).mono fun e W' h=> ?_
 rw[wk_parse] at h
 obtain⟨s1,s2,sd,rfl,hat,hx⟩:=h
 obtain⟨A1,c1,A2,c2,A,c,rfl,rfl,rfl⟩:=wk_at hat
 exact⟨A1,c1,A2,c2,A,c,rfl,hat,hx⟩
theorem wk_decode {W:World} {m0:Int} (hm:W.cell? ⟨0,0,none⟩=some (.int .i64 m0)) {A1:Option Addr} {c1:Nat} {A2:Option Addr} {c2:Nat} {A:Option Addr} {c:Nat} (h:WkAt W A1 c1 A2 c2 A c):Calls Tryz.prog 27 #[.agg (wkV A1 c1 A2 c2 A c)] W fun e W'=> ∃ B d,e=.returned (.tuple #[.agg (xE 2 1 (.slice B 1 d)),.int .i64 0])∧RowsS W' B 1 d [[128,128]]∧Ext W W':=by
 have:=zLT wkF zFa wk_chk (.slice A1 1 c1) (.slice A2 1 c2) A 1 c rfl (by decide) m0 W hm h 2 1 1 3 rfl rfl rfl rfl W (Ext.refl W)
 rw[show wkF.cs1=wkT from rfl,show wkF.cs2=wkT from rfl,show wkF.xs1=[0] from rfl,show wkF.xs2=[0] from rfl,show wkF.data=[63] from rfl,show wkF.qs=List.replicate 64 1 from rfl,wk_dec] at this
 refine this.mono fun e W' h=> ?_
 unfold PdOf at h
 rw[if_pos rfl,wk_show] at h
 obtain⟨B,k,d,rfl,hr,hx⟩:=h
 obtain rfl:k=1:=hr.len.symm
 exact⟨B,d,rfl,hr,hx⟩
attribute [local irreducible] wkF wkV WkAt
theorem works_any (m0:Int) (w:World) (hm:w.cell? ⟨0,0,none⟩=some (.int .i64 m0)):Calls Tryz.prog 11 #[] w fun e w'=>e=.returned (.bool true)∧Ext w w':=by
 have hz0:=zBj
 have hzp:=zFC
 have hzs:=zA zBE
 have HON:=zA (fun W=>ones_any 1 W)
 have HEN:=zA (fun W A n c (hx:Ext w W) (hr:RowsS W A n c [[128,128]])=>(zPk 2 1 [[128,128]] A n c (List.replicate 64 1) (by simp) 3 m0 W (vV hm hx) hr).mono fun e w' h=>wk_encode h)
 have HPK:=zA (fun W A1 c1 A2 c2 A c h=> @wk_pack W A1 c1 A2 c2 A c h)
 have HPS:=zA (fun W B d h=> @zRm W B d h)
 have HDC:=zA (fun W (hx:Ext w W) A1 c1 A2 c2 A c (h:WkAt W A1 c1 A2 c2 A c)=>wk_decode (vV hm hx) h)
 have HPE:=zA (fun A B c d W h1 h2=>zMI 2 1 A B 1 c d [[128,128]] W h1 h2)
 have HPZ:=zA (fun v=>vT 2 1 v)
 have HP1:=zA (fun A n c=>zDg 2 1 A n c)
 generalize bv (List.replicate 64 1)=ov at *
 generalize wkF.packL=pb at *
 generalize pb.length=K at *
 obtain⟨pic,hpic⟩: ∃ pic:Value→Array Value,pic=xE 2 1:=⟨_,rfl⟩
 have HBP2:Hid (∀ {o:Oper} {a:Act} {x0 x1 x2:Operand} (ho:o.op=.build 31 #[(0,x0),(1,x1),(2,x2)]) {A:Option Addr} {n c:Nat} (h0:a.eval x0=.int .i64 2) (h1:a.eval x1=.int .i64 1) (h2:a.eval x2=.slice A n c) (w:World),(execOp a.eval o).run Tryz.prog w=.ok (.value (.agg (pic (.slice A n c)))) w):=zA (fun ho A n c h0 h1 h2 w=>by rw[hpic];exact zNT ho h0 h1 h2 w)
 rw[←hpic] at HEN HDC HPE HPZ HP1
 clear hm hpic
 go_enter Tryz.func11,Tryz.ntmps11
 go_upto_region 2 with (first
  | ((with_reducible apply gS 10);refine zQF rfl _ _ rfl (some 10) rfl 128 128 rfl rfl ?_;intro w1 ga hba hx1 hga)
  | ((with_reducible apply gS 11);refine wLit1 rfl 29 22 _ rfl (some 11) rfl Tryz.underlying29 1 uK zQV _ rfl rfl (by omega) (by omega) ?_;intro w2 gb hbb hx2 hgb;have hr2:=rows_one (l:=[128,128]) (by decide) (by decide) (hba.ext hx2) hbb;have hx02:=hx1.trans hx2)
  | ((with_reducible apply gS 12);refine zB rfl (.agg (pic (.slice (some ⟨gb,0,none⟩) 1 1))) (HBP2.out rfl rfl rfl rfl) ?_)
  | ((with_reducible apply gS 1);refine wAlo' rfl (some 1) rfl 31 rfl _ hzp ?_;intro w3 gp hbp hx3 hgp)
  | ((with_reducible apply gT 1 12);refine wStB rfl 31 (.tmp 1) (.tmp 12) rfl gp (pic (.slice (some ⟨gb,0,none⟩) 1 1)) rfl rfl hbp 3 jW (HPZ.out _) (by rfl) (HP1.out _ _ _) ?_;intro w4 hb4 hg4;have hx24:=hx3.grown hg4 hgp;have hr4:=hr2.ext hx24;have hx04:=hx02.trans hx24))
 try simp only[Act.put,sA,sB,sC]
 clear hba hbb hr2 hbp hx1 hx2 hx02 hx3 hx24 hg4 hga hgb hgp
 obtain⟨pv,hpv⟩: ∃ pv,pic (.slice (some ⟨gb,0,none⟩) 1 1)=pv:=⟨_,rfl⟩
 have HPV:=zA (HPZ.out (.slice (some ⟨gb,0,none⟩) 1 1))
 have HEN2:=zA (fun W (hx:Ext w4 W)=>HEN.out W (some ⟨gb,0,none⟩) 1 1 (hx04.trans hx) (hr4.ext hx))
 have HPE2:=zA (fun W (hx:Ext w4 W) B d (h:RowsS W B 1 d [[128,128]])=>HPE.out (some ⟨gb,0,none⟩) B 1 d W (hr4.ext hx) h)
 rw[hpv] at hb4 HPV HEN2 HPE2 ⊢
 clear hpv HEN HPE hr4 HBP2
 go_cut [2,3] from 13 to 18 (fun u v wx=> ∃ g2 A1 c1 A2 c2 A c,u=.pointer (some ⟨g2,0,none⟩)∧v=.int .i64 0∧Blk wx g2 47 (wkV A1 c1 A2 c2 A c)∧WkAt wx A1 c1 A2 c2 A c∧Ext w4 wx)
 case first =>
  have hI:Ext w4.drew w4.drew:=Ext.refl _
  refine jS (fun k=>k ==0 ||k ==1 ||k ==2 ||k ==6) (Ext w4.drew) (by kernel_rfl) ?_
  refine vQ (k:=0) (by kernel_rfl) rfl (by rfl) (.agg pv) (fun W hW=>zAW rfl rfl (hb4.drew.ext hW) Tryz.underlying31 rfl jW HPV.out) hI ?_
  simp only[Act.put,sA,sB,sC]
  refine zHp (k:=1) (l:=6) (by kernel_rfl) rfl rfl ?_ ?_
  · --
    refine xM (by rfl) (xN _ _ _ rfl rfl zPU #[.int .i64 1] (by simp[Act.eval])) ?_
    refine (HON.out _).mono ?_
    rintro _ wa ⟨rfl,hxa⟩
    have hxa1:=hI.trans hxa
    refine⟨_,rfl,zU ⟨fun _=>hxa1, ?_⟩⟩
    simp only[Act.put,sA,sB,sC]
    refine zHp (k:=2) (l:=6) (by kernel_rfl) rfl rfl ?_ ?_
    · --
      refine xM (by rfl) (xN _ _ _ rfl rfl zHI #[.agg pv,.agg ov,.int .i64 3] (by simp[Act.eval])) ?_
      refine (HEN2.out _ ((Ext.refl w4).drew.trans hxa1)).mono ?_
      rintro _ wb ⟨A1,c1,A2,c2,A,c,rfl,hat,hxb,hn1,hn2⟩
      have hxb1:=hxa1.trans hxb
      refine⟨_,rfl,zU ⟨fun _=>hxb1, ?_⟩⟩
      simp only[Act.put,sA,sB,sC]
      refine zH (k:=3) (by kernel_rfl) rfl (by rfl) (.tuple #[.agg (wkV A1 c1 A2 c2 A c),.int .i64 0]) (zC rfl rfl) ?_
      simp only[Act.put,sA,sB,sC]
      refine zH (k:=4) (by kernel_rfl) rfl (by rfl) (.agg (wkV A1 c1 A2 c2 A c)) (yZ rfl rfl rfl) ?_
      simp only[Act.put,sA,sB,sC]
      refine zH (k:=5) (by kernel_rfl) rfl (by rfl) (.int .i64 0) (yZ rfl rfl rfl) ?_
      simp only[Act.put,sA,sB,sC]
      refine xU (k:=6) (by kernel_rfl) rfl ?_
      refine wAlo' rfl (some 2) rfl 47 rfl _ hz0 ?_
      intro wc g2 hbg hxc hgg
      have hxc1:=hxb1.trans hxc
      refine zU ⟨fun _=>hxc1, ?_⟩
      simp only[Act.put,sA,sB,sC]
      refine xU (k:=7) (by kernel_rfl) rfl ?_
      refine wStB rfl 47 (.tmp 2) (.tmp 17) rfl g2 (wkV A1 c1 A2 c2 A c) rfl rfl hbg 103 yL (zDf _ _ _ _ _ _) hzs.out (zJS _ _ _ _ _ _) ?_
      intro w7 hb7 hg7
      refine zU ⟨fun h=>(by cases h), ?_⟩
      simp only[Act.put,sA,sB,sC]
      refine zH (k:=8) (by kernel_rfl) rfl (by rfl) (.int .i64 0) (zS rfl rfl) ?_
      simp only[Act.put,sA,sB,sC]
      refine uH (by kernel_rfl) ?_
      go_wp2_with fail
      go_meet
      exact⟨g2,A1,c1,A2,c2,A,c,rfl,rfl,hb7,hat.ext (hxc.grown hg7 hgg),(Ext.refl w4).drew.trans (hxb1.trans (hxc.grown hg7 hgg))⟩
    · --
      refine wAlo' rfl (some 2) rfl 47 rfl _ hz0 ?_
      intro wc g2 hbg hxc hgg
      have hxc1:=hxa1.trans hxc
      refine zU ⟨fun _=>hxc1, ?_⟩
      simp only[Act.put,sA,sB,sC]
      refine xU (k:=2) (by kernel_rfl) rfl ?_
      refine xM (by rfl) (xN _ _ _ rfl rfl zHI #[.agg pv,.agg ov,.int .i64 3] (by simp[Act.eval])) ?_
      refine (HEN2.out _ ((Ext.refl w4).drew.trans hxc1)).mono ?_
      rintro _ wb ⟨A1,c1,A2,c2,A,c,rfl,hat,hxb,hn1,hn2⟩
      have hxb1:=hxc1.trans hxb
      refine⟨_,rfl,zU ⟨fun _=>hxb1, ?_⟩⟩
      simp only[Act.put,sA,sB,sC]
      refine zH (k:=3) (by kernel_rfl) rfl (by rfl) (.tuple #[.agg (wkV A1 c1 A2 c2 A c),.int .i64 0]) (zC rfl rfl) ?_
      simp only[Act.put,sA,sB,sC]
      refine zH (k:=4) (by kernel_rfl) rfl (by rfl) (.agg (wkV A1 c1 A2 c2 A c)) (yZ rfl rfl rfl) ?_
      simp only[Act.put,sA,sB,sC]
      refine zH (k:=5) (by kernel_rfl) rfl (by rfl) (.int .i64 0) (yZ rfl rfl rfl) ?_
      simp only[Act.put,sA,sB,sC]
      refine xU (k:=7) (by kernel_rfl) rfl ?_
      refine wStB rfl 47 (.tmp 2) (.tmp 17) rfl g2 (wkV A1 c1 A2 c2 A c) rfl rfl (hbg.ext hxb) 103 yL (zDf _ _ _ _ _ _) hzs.out (zJS _ _ _ _ _ _) ?_
      intro w7 hb7 hg7
      refine zU ⟨fun h=>(by cases h), ?_⟩
      simp only[Act.put,sA,sB,sC]
      refine zH (k:=8) (by kernel_rfl) rfl (by rfl) (.int .i64 0) (zS rfl rfl) ?_
      simp only[Act.put,sA,sB,sC]
      refine uH (by kernel_rfl) ?_
      go_wp2_with fail
      go_meet
      have hu7:Upd (fun b=>b=g2) wb w7:=uL (zN hg7) (fun x h=>by injection h with h;exact h.symm)
      exact⟨g2,A1,c1,A2,c2,A,c,rfl,rfl,hb7,wk_keep hat hu7 hn1 hn2 hbg.lt (hbg.ext hxb),(Ext.refl w4).drew.trans (hxa1.trans ((hxc.trans hxb).grown hg7 hgg))⟩
  · --
    refine wAlo' rfl (some 2) rfl 47 rfl _ hz0 ?_
    intro wc g2 hbg hxc hgg
    have hxc1:=hI.trans hxc
    refine zU ⟨fun _=>hxc1, ?_⟩
    simp only[Act.put,sA,sB,sC]
    refine xU (k:=1) (by kernel_rfl) rfl ?_
    refine xM (by rfl) (xN _ _ _ rfl rfl zPU #[.int .i64 1] (by simp[Act.eval])) ?_
    refine (HON.out _).mono ?_
    rintro _ wa ⟨rfl,hxa⟩
    have hxa1:=hxc1.trans hxa
    refine⟨_,rfl,zU ⟨fun _=>hxa1, ?_⟩⟩
    simp only[Act.put,sA,sB,sC]
    refine xU (k:=2) (by kernel_rfl) rfl ?_
    refine xM (by rfl) (xN _ _ _ rfl rfl zHI #[.agg pv,.agg ov,.int .i64 3] (by simp[Act.eval])) ?_
    refine (HEN2.out _ ((Ext.refl w4).drew.trans hxa1)).mono ?_
    rintro _ wb ⟨A1,c1,A2,c2,A,c,rfl,hat,hxb,hn1,hn2⟩
    have hxb1:=hxa1.trans hxb
    refine⟨_,rfl,zU ⟨fun _=>hxb1, ?_⟩⟩
    simp only[Act.put,sA,sB,sC]
    refine zH (k:=3) (by kernel_rfl) rfl (by rfl) (.tuple #[.agg (wkV A1 c1 A2 c2 A c),.int .i64 0]) (zC rfl rfl) ?_
    simp only[Act.put,sA,sB,sC]
    refine zH (k:=4) (by kernel_rfl) rfl (by rfl) (.agg (wkV A1 c1 A2 c2 A c)) (yZ rfl rfl rfl) ?_
    simp only[Act.put,sA,sB,sC]
    refine zH (k:=5) (by kernel_rfl) rfl (by rfl) (.int .i64 0) (yZ rfl rfl rfl) ?_
    simp only[Act.put,sA,sB,sC]
    refine xU (k:=7) (by kernel_rfl) rfl ?_
    refine wStB rfl 47 (.tmp 2) (.tmp 17) rfl g2 (wkV A1 c1 A2 c2 A c) rfl rfl (hbg.ext (hxa.trans hxb)) 103 yL (zDf _ _ _ _ _ _) hzs.out (zJS _ _ _ _ _ _) ?_
    intro w7 hb7 hg7
    refine zU ⟨fun h=>(by cases h), ?_⟩
    simp only[Act.put,sA,sB,sC]
    refine zH (k:=8) (by kernel_rfl) rfl (by rfl) (.int .i64 0) (zS rfl rfl) ?_
    simp only[Act.put,sA,sB,sC]
    refine uH (by kernel_rfl) ?_
    go_wp2_with fail
    go_meet
    have hu7:Upd (fun b=>b=g2) wb w7:=uL (zN hg7) (fun x h=>by injection h with h;exact h.symm)
    exact⟨g2,A1,c1,A2,c2,A,c,rfl,rfl,hb7,wk_keep hat hu7 hn1 hn2 (by have:=hbg.lt;have:=hxa.size;omega) (hbg.ext (hxa.trans hxb)),(Ext.refl w4).drew.trans (hI.trans ((hxc.trans (hxa.trans hxb)).grown hg7 hgg))⟩
 case rest =>
 obtain⟨g2,A1,c1,A2,c2,A,c,e1,e2,hb5,hat5,hx5⟩:=hcut
 subst e1 e2
 have hp5:=hb4.ext hx5
 go_wp2_with (first
  | ((with_reducible apply gS 20);refine wLdB rfl 47 (.tmp 2) rfl g2 rfl hb5 _ Tryz.underlying47 rfl 103 yL (zDf _ _ _ _ _ _) ?_)
  | (go_at_call 36;(with_reducible refine (HPK.out _ _ _ _ _ _ _ hat5).mono ?_);rintro e w6 ⟨B,d,rfl,hpb,hx6⟩;have hp6:=hp5.ext hx6;have hx46:=hx5.trans hx6)
  | (go_at_call 37;(with_reducible refine (HPS.out _ _ _ hpb).mono ?_);rintro e w7 ⟨D1,d1,D2,d2,D,d,rfl,hat7,hx7⟩;have hp7:=hp6.ext hx7;have hx47:=hx46.trans hx7)
  | ((with_reducible apply gS 6);refine wAlo' rfl (some 6) rfl 47 rfl _ hz0 ?_;intro w8 g6 hb8 hx8 hg8)
  | ((with_reducible apply gT 6 27);refine wStB rfl 47 (.tmp 6) (.tmp 27) rfl g6 (wkV D1 d1 D2 d2 D d) rfl rfl hb8 103 yL (zDf _ _ _ _ _ _) hzs.out (zJS _ _ _ _ _ _) ?_;intro w9 hb9 hg9;have hx79:=hx8.grown hg9 hg8;have hat9:=hat7.ext hx79;have hp9:=hp7.ext hx79;have hx49:=hx47.trans hx79)
  | ((with_reducible apply gS 30);refine wLdB rfl 47 (.tmp 6) rfl g6 rfl hb9 _ Tryz.underlying47 rfl 103 yL (zDf _ _ _ _ _ _) ?_)
  | (go_at_call 27;(with_reducible refine (HDC.out _ (hx04.trans hx49) _ _ _ _ _ _ hat9).mono ?_);rintro e w10 ⟨Y,y,rfl,hr10,hx10⟩;have hp10:=hp9.ext hx10;have hx410:=hx49.trans hx10)
  | ((with_reducible apply gS 8);refine wAlo' rfl (some 8) rfl 31 rfl _ hzp ?_;intro w11 g8 hb11 hx11 hg11)
  | ((with_reducible apply gT 8 32);refine wStB rfl 31 (.tmp 8) (.tmp 32) rfl g8 (pic (.slice Y 1 y)) rfl rfl hb11 3 jW (HPZ.out _) (by rfl) (HP1.out _ _ _) ?_;intro w12 hb12 hg12;have hx1012:=hx11.grown hg12 hg11;have hr12:=hr10.ext hx1012;have hp12:=hp10.ext hx1012;have hx412:=hx410.trans hx1012)
  | ((with_reducible apply gS 49);refine zBG (by rfl) (.agg pv) (zAW rfl rfl hp12 Tryz.underlying31 rfl jW HPV.out) ?_)
  | ((with_reducible apply gS 50);refine zBG (by rfl) (.agg (pic (.slice Y 1 y))) (zAW rfl rfl hb12 Tryz.underlying31 rfl jW (HPZ.out _)) ?_)
  | (go_at_call 25;(with_reducible refine (HPE2.out _ hx412 _ _ hr12).mono ?_);rintro e w13 ⟨rfl,hx13⟩))
 go_ret
 exact⟨rfl,hx04.trans (hx412.trans hx13)⟩
end
end Go.Proofs.YtkggcjdlpendfaaGreatDoor
namespace Go.Proofs.YtkggcjdlpendfaaGreatDoor.BM
set_option linter.all false
set_option maxRecDepth 20000
set_option maxHeartbeats 8000000
def xD (cs:List Int):Nat→List Int
 | 0=>[]
 | i+1=>xD cs i++(if 0<cs.getD i 0 then [(i:Int)] else [])
theorem zBm (cs:List Int): ∀ (i:Nat) (s:Int),s∈xD cs i↔ ∃ j:Nat,j<i∧s=(j:Int)∧0<cs.getD j 0
 | 0,s=>by simp[xD]
 | i+1,s=>by
   rw[xD,List.mem_append,zBm cs i s]
   constructor
   ·rintro (⟨j,h1,h2,h3⟩ | h)
    ·exact⟨j,by omega,h2,h3⟩
    ·split at h
     ·rename_i hp
      exact⟨i,by omega,by simpa using h,hp⟩
     ·cases h
   ·rintro⟨j,h1,h2,h3⟩
    by_cases hj:j<i
    ·exact .inl ⟨j,hj,h2,h3⟩
    ·obtain rfl:j=i:=by omega
     right
     rw[if_pos h3]
     simpa using h2
theorem zDy (cs:List Int): ∀ i,(xD cs i).Nodup
 | 0=>by simp[xD]
 | i+1=>by
   rw[xD,List.nodup_append]
   refine⟨zDy cs i,by split<;>simp,fun a ha b hb e=> ?_⟩
   obtain⟨j,h1,h2, -⟩:=(zBm cs i a).1 ha
   split at hb
   ·have:b=(i:Int):=by simpa using hb
    omega
   ·cases hb
theorem zIA (cs:List Int): ∀ i,(xD cs i).length≤i
 | 0=>by simp[xD]
 | i+1=>by
   have:=zIA cs i
   rw[xD,List.length_append]
   split<;>simp<;>omega
def wtN (cs:List Int) (s:Int):Nat:=if s= -1 then 0 else (cs.getD s.toNat 0).toNat
theorem zEU (cs:List Int): ∀ i,singN cs i=((-1)::xD cs i).map (zDp (wtN cs))
 | 0=>rfl
 | i+1=>by
   rw[singN,xD,zEU cs i, ←List.cons_append,List.map_append]
   congr 1
   split
   ·have:wtN cs (i:Int)=(cs.getD i 0).toNat:=by unfold wtN;rw[if_neg (by omega)];simp
    simp[zDp,this]
   ·rfl
theorem zHq (cs:List Int): ∀ i,(xD cs i).length=(posN cs i).length
 | 0=>rfl
 | i+1=>by
   rw[xD,posN,List.length_append,List.length_append,zHq cs i]
   split<;>rfl
theorem zGz (f:Int→Nat) (k n:Nat) (s:Int):s∈filt f k n↔(∃ j:Nat,j<n∧s=(j:Int))∧f s=k+1:=by
 unfold filt
 simp only[List.mem_filter,List.mem_map,List.mem_range,decide_eq_true_eq]
 constructor
 ·rintro⟨⟨j,h1,h2⟩,h3⟩
  exact⟨⟨j,h1,h2.symm⟩,h3⟩
 ·rintro⟨⟨j,h1,h2⟩,h3⟩
  exact⟨⟨j,h1,h2.symm⟩,h3⟩
theorem zSm (f:Int→Nat) (k n:Nat):(filt f k n).Nodup:=by
 unfold filt
 rw[List.nodup_iff_pairwise_ne]
 refine List.Pairwise.filter _ ?_
 rw[List.pairwise_map]
 exact List.nodup_range.imp (fun h e=>h (by injection e))
def grp (f:Int→Nat) (n:Nat):Nat→List Int
 | 0=>[]
 | k+1=>grp f n k++filt f k n
theorem grp_eq (f:Int→Nat) (n:Nat): ∀ k,(List.range k).flatMap (fun j=>filt f j n)=grp f n k
 | 0=>rfl
 | k+1=>by rw[List.range_succ,List.flatMap_append,grp_eq f n k];simp[grp]
theorem xsN_grp (f:Int→Nat) (n:Nat):xsN f n 16 0=grp f n 16:=by
 unfold xsN
 rw[grp_eq]
 simp[filt]
theorem zDs (f:Int→Nat) (n:Nat): ∀ (k:Nat) (s:Int),s∈grp f n k↔(∃ j:Nat,j<n∧s=(j:Int))∧1≤f s∧f s≤k
 | 0,s=>by
   simp only[grp,List.not_mem_nil,false_iff]
   rintro⟨-,h1,h2⟩
   omega
 | k+1,s=>by
   rw[grp,List.mem_append,zDs f n k s,zGz]
   constructor
   ·rintro (⟨h1,h2,h3⟩ | ⟨h1,h2⟩)
    ·exact⟨h1,h2,by omega⟩
    ·exact⟨h1,by omega,by omega⟩
   ·rintro⟨h1,h2,h3⟩
    by_cases h:f s≤k
    ·exact .inl ⟨h1,h2,h⟩
    ·exact .inr ⟨h1,by omega⟩
theorem zFn (f:Int→Nat) (n:Nat): ∀ k,(grp f n k).Nodup
 | 0=>by simp[grp]
 | k+1=>by
   rw[grp,List.nodup_append]
   refine⟨zFn f n k,zSm f k n,fun a ha b hb e=> ?_⟩
   subst e
   have h1:=((zDs f n k a).1 ha).2.2
   have h2:=((zGz f k n a).1 hb).2
   omega
theorem zIz {l m:List Int} (hl:l.Nodup) (hm:m.Nodup) (h: ∀ s∈l,s∈m) (g:Int→Nat):zR l g≤zR m g:=by
 rw[zFt hm g l h]
 refine zGZ (fun s _=> ?_)
 have h1:l.count s≤1:=List.nodup_iff_count.1 hl s
 have:=Nat.mul_le_mul_left (g s) h1
 omega
theorem grp_len (f:Int→Nat) (n k:Nat):(grp f n k).length≤n:=by
 have h:=zIz (zFn f n k) (m:=(List.range n).map Int.ofNat) (by
  rw[List.nodup_iff_pairwise_ne,List.pairwise_map]
  exact List.nodup_range.imp (fun h e=>h (by injection e))) (fun s hs=>by
   obtain⟨j,h1,h2⟩:=((zDs f n k s).1 hs).1
   exact List.mem_map.2 ⟨j,List.mem_range.2 h1,h2.symm⟩) (fun _=>1)
 rw[zAJ,zAJ] at h
 simpa using h
theorem grp_kraft (f:Int→Nat) (n:Nat): ∀ k,zR (grp f n (k+1)) (fun s=>2 ^ (16-f s))=zR (grp f n k) (fun s=>2 ^ (16-f s))+(filt f k n).length*2 ^ (15-k):=fun k=>by
 rw[grp,zBa]
 congr 1
 rw[zCW (k:=fun _=>2 ^ (15-k)) (fun s hs=>by
  have h:=((zGz f k n s).1 hs).2
  show 2 ^ (16-f s)=2 ^ (15-k)
  congr 1
  omega),zAJ]
theorem zQO (f:Int→Nat) (n j:Nat) (hj:j<16):(csN f n 16 0).getD j 0=((filt f j n).length:Int):=by
 rw[List.getD_eq_getElem?_getD,List.getElem?_eq_getElem (by rw[csN_len];exact hj),zJR,if_pos hj]
 rfl
theorem zLN (f:Int→Nat) (n:Nat): ∀ k,k≤16→jV (csN f n 16 0) k*2 ^ (16-k)=zR (grp f n k) (fun s=>2 ^ (16-f s))
 | 0,_=>by simp[jV,grp,zR]
 | k+1,h=>by
   have ih:=zLN f n k (by omega)
   rw[grp_kraft, ←ih,jV,zQO f n k (by omega),Int.toNat_natCast,show 16-(k+1)=15-k by omega,show 16-k=(15-k)+1 by omega,Nat.pow_succ,Nat.add_mul]
   congr 1
   rw[Nat.mul_comm 2,Nat.mul_assoc,Nat.mul_comm 2]
theorem zKj (f:Int→Nat) (n:Nat): ∀ k,k≤16→zAh (csN f n 16 0) k=((grp f n k).length:Int)
 | 0,_=>by simp[zAh,grp]
 | k+1,h=>by
   rw[zJB _ k (by rw[csN_len];omega),zKj f n k (by omega),zJR,if_pos (by omega),grp,List.length_append]
   simp
theorem zKb (f:Int→Nat) (n:Nat): ∀ k,k≤16→(zD (csN f n 16 0) k).length=(grp f n k).length∧ ∀ t∈zK (zD (csN f n 16 0) k) (grp f n k),t.2.1=((f t.1:Nat):Int)
 | 0,_=>by simp[zD,grp,zK]
 | k+1,h=>by
   obtain⟨h1,h2⟩:=zKb f n k (by omega)
   have hg:=zQO f n k (by omega)
   rw[zD,grp,hg,Int.toNat_natCast]
   refine⟨by rw[List.length_append,List.length_append,h1,zGW],fun t ht=> ?_⟩
   unfold zK at ht h2
   rw[List.zipWith_append h1] at ht
   rcases List.mem_append.1 ht with ht | ht
   ·exact h2 t ht
   ·obtain⟨i,hi,e⟩:=List.mem_iff_getElem.1 ht
    rw[List.getElem_zipWith] at e
    subst e
    have hm:(filt f k n)[i]'(by rw[List.length_zipWith,zGW] at hi;omega)∈filt f k n:=List.getElem_mem _
    have hf:=((zGz f k n _).1 hm).2
    show (((uB (csN f n 16 0) k (filt f k n).length)[i]'(by rw[List.length_zipWith] at hi;omega)).1:Int)=_
    rw[hf]
    simp[uB]
theorem len_of (f:Int→Nat) (n:Nat) (s:Int) (hs:s∈grp f n 16):(jL (zK (zD (csN f n 16 0) 16) (grp f n 16)) s).isSome=true∧vY (zK (zD (csN f n 16 0) 16) (grp f n 16)) s=f s:=by
 obtain⟨h1,h2⟩:=zKb f n 16 (Nat.le_refl _)
 obtain⟨p,hp,e⟩:=List.mem_iff_getElem.1 hs
 have hz:(zK (zD (csN f n 16 0) 16) (grp f n 16)).length=(grp f n 16).length:=by rw[zCP _ _ (by omega),h1]
 have hm:(zK (zD (csN f n 16 0) 16) (grp f n 16))[p]'(by omega)∈zK (zD (csN f n 16 0) 16) (grp f n 16):=List.getElem_mem _
 have he:((zK (zD (csN f n 16 0) 16) (grp f n 16))[p]'(by omega)).1=s:=by
  unfold zK
  rw[List.getElem_zipWith]
  exact e
 cases hq:jL (zK (zD (csN f n 16 0) 16) (grp f n 16)) s with
 | none =>
   exfalso
   have:=(List.find?_eq_none.1 hq) _ hm
   simp[he] at this
 | some t =>
   refine⟨rfl, ?_⟩
   have ht:=List.mem_of_find?_eq_some hq
   have ht1:=List.find?_some hq
   simp at ht1
   have h3:=h2 t ht
   rw[ht1] at h3
   unfold vY zCk
   rw[hq]
   show (qB t.2.2.toNat t.2.1.toNat).length=f s
   rw[qE,h3,Int.toNat_natCast]
theorem zRN {counts:List Int} {n:Nat} (hn:counts.length=n) (h256:n≤256) (hb: ∀ z∈counts,0≤z∧z≤9999) {S L:List Pack} (hS:S.Perm (singN counts n)) (hso:(S.map (·.1)).Pairwise (· ≤ ·)) (hR:Reach S 15 L) :
 let f:=fun s=>(cont (L.take (2*S.length-2))).count s
 (∀ s,f s≠0→s= -1∨s∈xD counts n)∧(∀ s∈xD counts n,1≤f s∧f s≤16)∧zR (xD counts n) (fun s=>2 ^ (16-f s))<2 ^ 16 ∧
 ∀ ws:List Nat,ws.Perm (0::posN counts n)→ws.Pairwise (· ≤ ·)→zR (xD counts n) (fun s=>wtN counts s*f s)=zFR ws:=by
 intro f
 have hSl:S.length=(xD counts n).length+1:=by rw[hS.length_eq,zEU];simp
 by_cases h0:(xD counts n).length=0
 ·have hr:=List.eq_nil_of_length_eq_zero h0
  have hf: ∀ s,f s=0:=fun s=>by
   show (cont (L.take (2*S.length-2))).count s=0
   rw[hSl,h0]
   simp[cont]
  rw[hr]
  refine⟨fun s h=>absurd (hf s) h,fun s h=>(by cases h),(by simp[zR]),fun ws hw _=> ?_⟩
  have hl:=hw.length_eq
  rw[List.length_cons, ←zHq,h0] at hl
  unfold zFR
  rw[if_pos hl]
  rfl
 ·have hnd:((-1:Int)::xD counts n).Nodup:=by
   rw[List.nodup_cons]
   refine⟨fun h=> ?_,zDy counts n⟩
   obtain⟨j, -,h2, -⟩:=(zBm counts n _).1 h
   omega
  have hS2:S.Perm (((-1:Int)::xD counts n).map (zDp (wtN counts))):=by rw[←zEU];exact hS
  obtain⟨P,hP,hPs,hPL⟩:=hR.rows hso
  have hlen:2*((-1:Int)::xD counts n).length-2≤(P 15).length:=by
   rw[hPL,hR.len,hSl,List.length_cons]
   exact lenF_15 _ (by have:=zIA counts n;omega)
  obtain⟨c1,c2,c3,c4,c5⟩:=packages hnd (by rw[List.length_cons];omega) hS2 hP hPs hlen far
  rw[hPL,List.length_cons, ←hSl] at c1 c2 c3 c4 c5
  have hk:zR ((-1:Int)::xD counts n) (fun s=>2 ^ (16-f s))=2 ^ (16-f (-1))+zR (xD counts n) (fun s=>2 ^ (16-f s)):=rfl
  have hc:zR ((-1:Int)::xD counts n) (fun s=>wtN counts s*f s)=wtN counts (-1)*f (-1)+zR (xD counts n) (fun s=>wtN counts s*f s):=rfl
  have hw0:wtN counts (-1)=0:=by unfold wtN;rw[if_pos rfl]
  refine⟨fun s h=> ?_,fun s h=>c2 s (List.mem_cons_of_mem _ h), ?_,fun ws hw hws=> ?_⟩
  ·have:=c1 s (List.count_pos_iff.1 (Nat.pos_of_ne_zero h))
   simpa using this
  ·have h1:zR ((-1:Int)::xD counts n) (fun s=>2 ^ (16-f s))≤2 ^ 16:=c3
   rw[hk] at h1
   have h2:0<2 ^ (16-f (-1)):=Nat.two_pow_pos _
   omega
  ·rw[hw0,Nat.zero_mul,Nat.zero_add] at hc
   have hwt: ∀ s,wtN counts s≤9999:=fun s=>by
    unfold wtN
    split
    ·omega
    ·rw[List.getD_eq_getElem?_getD]
     cases hq:counts[s.toNat]? with
     | none=>simp
     | some z=>have:=hb z (List.mem_of_getElem? hq);simp;omega
   have hbd:zR (xD counts n) (fun s=>wtN counts s*f s)≤256*159984:=by
    refine Nat.le_trans (zGZ (k:=fun _=>159984) (fun s hs=> ?_)) ?_
    ·have h1:=(c2 s (List.mem_cons_of_mem _ hs)).2
     have h3:wtN counts s*f s≤9999*16:=Nat.mul_le_mul (hwt s) h1
     exact h3
    ·rw[zAJ]
     exact Nat.mul_le_mul_right _ (Nat.le_trans (zIA counts n) h256)
   have hF:zR (xD counts n) (fun s=>wtN counts s*f s)=pre (L.map (·.1)) (2*S.length-2):=hc.symm.trans c4
   have hlt:pre (L.map (·.1)) (2*S.length-2)<far:=by rw[←hF];unfold far;omega
   have h5:=c5 hlt
   have hwe:ws=S.map (·.1):=by
    refine List.Perm.eq_of_pairwise (le:=(· ≤ ·)) (fun a b _ _ h1 h2=>by omega) hws hso ?_
    refine hw.trans ?_
    rw[←zIa]
    exact (hS.map _).symm
   rw[hF, ←h5, ←hwe]
   unfold zFR
   have hwl:ws.length=S.length:=by rw[hwe,List.length_map]
   rw[if_neg (by omega),hwl,hwe]
theorem zFY {counts cs xs:List Int} (hM:Made counts cs xs) (hb:vB counts=0) :
 zV cs xs=0∧(∀ x∈xs, ∃ j:Nat,x=(j:Int)∧j<counts.length∧counts.getD j 0≠0)∧ ∀ ws:List Nat,ws.Perm (0::posN counts counts.length)→ws.Pairwise (· ≤ ·)→zHG cs xs counts=(((zFR ws:Nat):Int),0):=by
 obtain⟨b1,b2⟩:=zFy hb
 have hbd:=zY.1 b2
 obtain⟨S,L,hS,hso,hR,hcs,hxs⟩:=hM
 obtain⟨f1,f2,f3,f4⟩:=zRN rfl b1 (fun z hz=>by have:=hbd z hz;omega) hS hso hR
 generalize (fun s=>(cont (L.take (2*S.length-2))).count s)=f at *
 generalize hn:counts.length=n at *
 rw[xsN_grp] at hxs
 subst hcs hxs
 have hreal: ∀ s,s∈grp f n 16↔s∈xD counts n:=fun s=>by
  rw[zDs]
  constructor
  ·rintro⟨⟨j,h1,h2⟩,h3, -⟩
   rcases f1 s (by omega) with h | h
   ·omega
   ·exact h
  ·intro h
   obtain⟨j,h1,h2, -⟩:=(zBm counts n s).1 h
   exact⟨⟨j,h1,h2⟩,f2 s h⟩
 have hglen:=grp_len f n 16
 have hcheck:zV (csN f n 16 0) (grp f n 16)=0:=by
  rw[zIu]
  ·rw[if_pos]
   unfold okW
   rw[List.all_eq_true]
   intro k hk
   have hk16:=List.mem_range.1 hk
   rw[decide_eq_true_eq]
   have h1:=zLN f n (k+1) (by omega)
   have h2:zR (grp f n (k+1)) (fun s=>2 ^ (16-f s))≤zR (xD counts n) (fun s=>2 ^ (16-f s)):=zIz (zFn f n _) (zDy counts n) (fun s hs=>by
    obtain⟨a,b,c⟩:=(zDs f n _ s).1 hs
    exact (hreal s).1 ((zDs f n 16 s).2 ⟨a,b,by omega⟩)) _
   have h3:jV (csN f n 16 0) (k+1)*2 ^ (16-(k+1))<2 ^ (k+1)*2 ^ (16-(k+1)):=by
    rw[←Nat.pow_add,show k+1+(16-(k+1))=16 by omega,h1]
    omega
   have:=Nat.lt_of_mul_lt_mul_right h3
   omega
  ·rw[zFg]
   refine⟨zY.2 (fun z hz=> ?_), ?_, ?_⟩
   ·obtain⟨j,hj,rfl⟩:=List.mem_map.1 hz
    have h1:=List.mem_range.1 hj
    rw[if_pos h1]
    have:=filt_len f j n
    omega
   ·rw[zKj f n 16 (Nat.le_refl _)]
    omega
   ·exact zKj f n 16 (Nat.le_refl _)
  ·refine zY.2 (fun z hz=> ?_)
   obtain⟨⟨j,h1,h2⟩, -⟩:=(zDs f n 16 z).1 hz
   omega
  ·exact zFn f n 16
 refine⟨hcheck,fun x hx=> ?_,fun ws hw hws=> ?_⟩
 ·obtain⟨j,h1,h2,h3⟩:=(zBm counts n x).1 ((hreal x).1 hx)
  exact⟨j,h2,h1,by omega⟩
 ·have hcost: ∀ i,i≤n→zGq (zK (zD (csN f n 16 0) 16) (grp f n 16)) counts i=((zR (xD counts i) (fun s=>wtN counts s*f s):Nat):Int):=by
   have HT:=fun s hs=>(len_of f n s hs).2
   generalize zK (zD (csN f n 16 0) 16) (grp f n 16)=T at HT ⊢
   intro i
   induction i with
   | zero=>intro _;rfl
   | succ i ih =>
     intro hi
     show zGq T counts i+counts.getD i 0*(vY T (i:Int):Int)=_
     rw[ih (by omega),xD,zBa]
     have hz:0≤counts.getD i 0:=by
      rw[List.getD_eq_getElem?_getD]
      cases hq:counts[i]? with
      | none=>simp
      | some z=>exact (hbd z (List.mem_of_getElem? hq)).1
     by_cases hp:0<counts.getD i 0
     ·have hm:(i:Int)∈xD counts n:=(zBm counts n _).2 ⟨i,by omega,rfl,hp⟩
      rw[if_pos hp,HT _ ((hreal _).2 hm)]
      have hw1:wtN counts (i:Int)=(counts.getD i 0).toNat:=by unfold wtN;rw[if_neg (by omega)];simp
      have e:zR [(i:Int)] (fun s=>wtN counts s*f s)=(counts.getD i 0).toNat*f (i:Int):=by simp[zR,hw1]
      rw[e,Int.natCast_add,Int.natCast_mul,Int.toNat_of_nonneg hz]
     ·rw[if_neg hp,show counts.getD i 0=0 by omega,Int.zero_mul]
      simp[zR]
  have hsome: ∀ s,s∈xD counts n→(jL (zK (zD (csN f n 16 0) 16) (grp f n 16)) s).isSome=true:=fun s hs=>(len_of f n s ((hreal s).2 hs)).1
  have hc:=hcost n (Nat.le_refl _)
  clear hcost
  unfold zHG
  rw[if_pos hcheck,if_pos hb]
  clear hcheck
  generalize zK (zD (csN f n 16 0) 16) (grp f n 16)=T at *
  have hall:zFK T counts=true:=zTT (fun k hk=>by
   by_cases hp:0<counts[k]
   ·exact .inr (hsome _ ((zBm counts n _).2 ⟨k,by omega,rfl,by simpa [hk] using hp⟩))
   ·exact .inl (by omega))
  rw[if_pos hall,hn,hc,f4 ws hw hws]
end Go.Proofs.YtkggcjdlpendfaaGreatDoor.BM
namespace Go.Proofs.YtkggcjdlpendfaaGreatDoor
set_option linter.all false
set_option maxRecDepth 20000
set_option maxHeartbeats 8000000
open Go.RowKit
theorem each_0c (n:Nat) (Z:List Int) (s:List Int×List Int) (h:qD n Z=0):n≤400∧zM Z (-2047) 2047=true∧xW xA n Z s=qK xA (xT Z n 0) s:=by
 unfold qD at h
 unfold xW
 by_cases h1:400<n
 ·rw[if_pos h1] at h;cases h
 ·rw[if_neg h1] at h ⊢
  cases h2:zM Z (-2047) 2047 with
  | false=>rw[h2] at h;cases h
  | true=>exact⟨by omega,rfl,by simp⟩
theorem zIm: ∀ (l:List Int) (run:Nat),(zAg run l).length≤run+l.length+1
 | [],run=>by unfold zAg;split<;>simp
 | n::l,run=>by
   rw[zAg]
   by_cases h:n=0
   ·rw[if_pos h]
    have:=zIm l (run+1)
    simp only[wA8]
    omega
   ·rw[if_neg h]
    have:=zIm l 0
    simp only[wF3,wF5,wA8]
    omega
theorem toksAt_65 (Z:List Int) (k:Nat):(zAs (zAp Z k)).length≤65:=by
 rw[zFZ]
 unfold zAp
 rw[zCm _ _ (vL _),wA8]
 have:=zIm ((zto (xC Z k)).drop 1) 0
 rw[wK1,vL] at this
 omega
theorem zIY (Z:List Int) (n:Nat): ∀ m k,k+m=n→(xT Z n k).length≤m*65
 | 0,k,h=>by
   obtain rfl:k=n:=by omega
   rw[zFx];simp
 | m+1,k,h=>by
   rw[zFI Z n k (by omega),wF3]
   have h1:=toksAt_65 Z k
   have h2:=zIY Z n m (k+1) (by omega)
   omega
def Bd (M:Nat) (s:List Int×List Int):Prop:=(s.1.length=256∧s.2.length=256)∧(∀ z∈s.1,0≤z∧z≤(M:Int))∧ ∀ z∈s.2,0≤z∧z≤(M:Int)
theorem wrap_in {z:Int} (h0:0≤z) (h1:z≤1000000000):wrap64 z=z:=by
 unfold wrap64
 omega
theorem zQN {l:List Int} {M k:Nat} (hl: ∀ z∈l,0≤z∧z≤(M:Int)) (hM:M<100000000):(∀ z∈zBU l k,0≤z∧z≤((M+1:Nat):Int))∧ ∀ j,l.getD j 0≤(zBU l k).getD j 0∧(k<l.length→1≤(zBU l k).getD k 0):=by
 have hk:0≤l.getD k 0∧l.getD k 0≤(M:Int):=by
  rw[wF4]
  cases h:l[k]? with
  | none=>simp
  | some x=>exact hl x (wK6 h)
 have hw:wrap64 (l.getD k 0+1)=l.getD k 0+1:=wrap_in (by omega) (by omega)
 unfold zBU
 rw[hw]
 refine⟨fun z hz=> ?_,fun j=>⟨?_,fun hlt=> ?_⟩⟩
 ·rcases wK8 hz with h | h
  ·have:=hl z h;omega
  ·omega
 ·rw[wF4,wF4,wK7]
  by_cases h:k=j
  ·subst h
   by_cases hlt:k<l.length
   ·rw[if_pos rfl,if_pos hlt,wA2 hlt]
    rw[wF4,wA2 hlt]
    simp
    omega
   ·rw[if_pos rfl,if_neg hlt,wH6 (by omega)]
    exact wF7 _
  ·rw[if_neg h]
   exact wF7 _
 ·rw[wF4,wK7,if_pos rfl,if_pos hlt]
  simp only[wS6]
  omega
theorem cnt_bd: ∀ (l:List (Tok×Bool)) (s:List Int×List Int) (M:Nat),Bd M s→M+l.length<100000000 →
 Bd (M+l.length) (qK xA l s).2∧(∀ j,s.1.getD j 0≤(qK xA l s).2.1.getD j 0∧s.2.getD j 0≤(qK xA l s).2.2.getD j 0) ∧
 ∀ x∈l,x.1.1.toNat<256→1≤(if x.2 then (qK xA l s).2.1 else (qK xA l s).2.2).getD x.1.1.toNat 0
 | [],s,M,h,_=>⟨by simpa [qK] using h,fun j=>⟨wF7 _,wF7 _⟩,fun x hx=>by cases hx⟩
 | (t,b)::r,s,M,⟨⟨h1,h2⟩,h3,h4⟩,hM=>by
   have hr:(qK xA ((t,b)::r) s)=qK xA r (xA s t b).2:=zCB rfl
   simp only[wA8] at hM
   have key:Bd (M+1) (xA s t b).2∧(∀ j,s.1.getD j 0≤(xA s t b).2.1.getD j 0∧s.2.getD j 0≤(xA s t b).2.2.getD j 0)∧(t.1.toNat<256→1≤(if b then (xA s t b).2.1 else (xA s t b).2.2).getD t.1.toNat 0):=by
    cases b with
    | true =>
      obtain⟨a1,a2⟩:=zQN (k:=t.1.toNat) h3 (by omega)
      refine⟨⟨⟨?_,h2⟩,a1,fun z hz=>by have:=h4 z hz;omega⟩,fun j=>⟨(a2 j).1,wF7 _⟩,fun ht=>(a2 0).2 (by omega)⟩
      show (zBU s.1 t.1.toNat).length=256
      unfold zBU;rw[wQ3];exact h1
    | false =>
      obtain⟨a1,a2⟩:=zQN (k:=t.1.toNat) h4 (by omega)
      refine⟨⟨⟨h1, ?_⟩,fun z hz=>by have:=h3 z hz;omega,a1⟩,fun j=>⟨wF7 _,(a2 j).1⟩,fun ht=>(a2 0).2 (by omega)⟩
      show (zBU s.2 t.1.toNat).length=256
      unfold zBU;rw[wQ3];exact h2
   obtain⟨k1,k2,k3⟩:=key
   obtain⟨i1,i2,i3⟩:=cnt_bd r (xA s t b).2 (M+1) k1 (by omega)
   rw[hr]
   generalize xA s t b=u at *
   refine⟨by rw[wA8,show M+(r.length+1)=M+1+r.length by omega];exact i1,fun j=>⟨wQ2 (k2 j).1 (i2 j).1,wQ2 (k2 j).2 (i2 j).2⟩,fun x hx hx2=> ?_⟩
   rcases wK0.1 hx with rfl | hx
   ·have h9:=k3 hx2
    cases b with
    | true=>exact wQ2 h9 (i2 _).1
    | false=>exact wQ2 h9 (i2 _).2
   ·exact i3 x hx hx2
theorem z256_bd:Bd 0 (z256,z256):=⟨⟨zCS,zCS⟩,fun z hz=>by have:=(wK2.1 hz).2;omega,fun z hz=>by have:=(wK2.1 hz).2;omega⟩
theorem addW_bd {a b:List Int} {M N:Nat} (ha:a.length=256) (hb:b.length=256) (h1: ∀ z∈a,0≤z∧z≤(M:Int)) (h2: ∀ z∈b,0≤z∧z≤(N:Int)) (hM:M+N<100000000) :
 (∀ z∈zBe a b,0≤z∧z≤((M+N:Nat):Int))∧ ∀ j,a.getD j 0≤(zBe a b).getD j 0∧b.getD j 0≤(zBe a b).getD j 0:=by
 have hg: ∀ j,(hj:j<256)→(zBe a b)[j]? =some (a[j]'(by omega)+b[j]'(by omega)):=fun j hj=>by
  have x1:=h1 _ (wE2 (show j<a.length by omega))
  have x2:=h2 _ (wE2 (show j<b.length by omega))
  unfold zBe
  rw[List.getElem?_zipWith,wA2 (by omega),wA2 (by omega)]
  simp only
  rw[wrap_in (by omega) (by omega)]
 have hl:=zBM (a:=a) (b:=b) (by omega)
 refine⟨fun z hz=> ?_,fun j=> ?_⟩
 ·obtain⟨j,hj,rfl⟩:=wK5 hz
  have h9:=hg j (by omega)
  rw[wA2 hj] at h9
  have x1:=h1 _ (wE2 (show j<a.length by omega))
  have x2:=h2 _ (wE2 (show j<b.length by omega))
  have:=Option.some.inj h9
  omega
 ·by_cases hj:j<256
  ·have x1:=h1 _ (wE2 (show j<a.length by omega))
   have x2:=h2 _ (wE2 (show j<b.length by omega))
   rw[wF4,wF4,wF4,hg j hj,wA2 (by omega),wA2 (by omega)]
   simp only[wS6]
   omega
  ·rw[wF4,wF4,wF4,wH6 (by omega),wH6 (by omega),wH6 (by omega)]
   simp
theorem fcnt_bd {n e:Nat} {Z:List Int} (hE:qD n Z=0) (hn:n*65<100000000): ∀ k,k≤yJ n e→Bd (atK n e k*65) (qO n e Z k)∧(qO n e Z k).1.length=256∧(qO n e Z k).2.length=256 ∧
 ∀ i,i<k→ ∀ x∈xT (yN n e i Z) (qR n e i) 0,x.1.1.toNat<256→1≤(if x.2 then (qO n e Z k).1 else (qO n e Z k).2).getD x.1.1.toNat 0
 | 0,_=>by
   have h0:qO n e Z 0=(z256,z256):=by rw[qO]
   rw[h0,atK_0]
   exact⟨z256_bd,zCS,zCS,fun i h=>by omega⟩
 | k+1,hk=>by
   obtain⟨b1,l1,l2,b2⟩:=fcnt_bd (e:=e) hE hn k (by omega)
   have hp:=zMF (e:=e) (i:=k) hE
   obtain⟨-, -,he⟩:=each_0c _ (yN n e k Z) (z256,z256) hp
   have hfl:=zIY (yN n e k Z) (qR n e k) (qR n e k) 0 (by omega)
   have ha:=zHP (n:=n) (e:=e) (i:=k) (by omega)
   have hle:=atK_le n e (k+1)
   have h65:(atK n e k+qR n e k)*65≤n*65:=wJ0 _ (by omega)
   rw[wJ8] at h65
   obtain⟨c1, -,c3⟩:=cnt_bd (xT (yN n e k Z) (qR n e k) 0) (z256,z256) 0 z256_bd (by omega)
   have hstep:qO n e Z (k+1)=(zBe (qO n e Z k).1 (xW xA (qR n e k) (yN n e k Z) (z256,z256)).2.1,zBe (qO n e Z k).2 (xW xA (qR n e k) (yN n e k Z) (z256,z256)).2.2):=by rw[qO];rfl
   have he':xW xA (qR n e k) (yN n e k Z) (z256,z256)=qK xA (xT (yN n e k Z) (qR n e k) 0) (z256,z256):=he
   rw[hstep,he']
   generalize qK xA (xT (yN n e k Z) (qR n e k) 0) (z256,z256)=u at *
   generalize qO n e Z k=v at *
   obtain⟨u0,u1,u2⟩:=u
   obtain⟨v1,v2⟩:=v
   dsimp only at *
   obtain⟨⟨d1,d2⟩,d3,d4⟩:=c1
   obtain⟨⟨f1,f2⟩,f3,f4⟩:=b1
   dsimp only at *
   obtain⟨g1,g2⟩:=addW_bd f1 d1 f3 d3 (by omega)
   obtain⟨g3,g4⟩:=addW_bd f2 d2 f4 d4 (by omega)
   have e1:=zBM (a:=v1) (b:=u1) (by omega)
   have e2:=zBM (a:=v2) (b:=u2) (by omega)
   have e3:(zBe v1 u1).length=256:=by omega
   have e4:(zBe v2 u2).length=256:=by omega
   refine⟨⟨⟨e3,e4⟩,fun z hz=>by have:=g1 z hz;omega,fun z hz=>by have:=g3 z hz;omega⟩,e3,e4,fun i hi x hx hx2=> ?_⟩
   by_cases hik:i=k
   ·subst hik
    have h9:=c3 x hx hx2
    generalize x.1.1.toNat=j at *
    generalize x.2=bb at *
    cases bb with
    | true=>exact wQ2 h9 (g2 j).2
    | false=>exact wQ2 h9 (g4 j).2
   ·have h9:=b2 i (by omega) x hx hx2
    generalize x.1.1.toNat=j at *
    generalize x.2=bb at *
    cases bb with
    | true=>exact wQ2 h9 (g2 j).1
    | false=>exact wQ2 h9 (g4 j).1
end Go.Proofs.YtkggcjdlpendfaaGreatDoor
namespace Go.Proofs.YtkggcjdlpendfaaGreatDoor.BM
set_option linter.all false
set_option maxRecDepth 20000
set_option maxHeartbeats 8000000
open Go.RowKit
theorem zJv (cs:List Int): ∀ k,((zD cs k).map fun p=>2 ^ (k-p.1)).sum=jV cs k
 | 0=>by rw[zCh];rfl
 | k+1=>by
   have hn:jV cs (k+1)=2*jV cs k+(cs.getD k 0).toNat:=rfl
   have h1:((zD cs k).map fun p=>2 ^ (k+1-p.1))=(zD cs k).map fun p=>2*2 ^ (k-p.1):=List.map_congr_left fun p hp=>by
    have:=(zHA cs k p hp).1
    rw[show k+1-p.1=(k-p.1)+1 by omega,Nat.pow_succ,Nat.mul_comm]
   have h2: ∀ l:List (Nat×Nat),(l.map fun p=>2*2 ^ (k-p.1)).sum=2*(l.map fun p=>2 ^ (k-p.1)).sum:=by
    intro l
    induction l with
    | nil=>rfl
    | cons a l ih=>simp only[List.map_cons,List.sum_cons,ih];omega
   have h3: ∀ j,((uB cs k j).map fun p=>2 ^ (k+1-p.1)).sum=j:=by
    intro j
    induction j with
    | zero=>rfl
    | succ j ih=>rw[zOR,List.map_append,List.sum_append,ih];simp
   rw[zEA,List.map_append,List.sum_append,h1,h2,zJv cs k,h3,hn]
theorem zRP {cs xs:List Int} (hl:cs.length=16) (hz:zV cs xs=0):zR xs (fun s=>2 ^ (16-vY (zK (zD cs 16) xs) s))+1≤2 ^ 16:=by
 obtain⟨q1,q2,q3,q4,q5,q6⟩:=zBL hz
 have hcl:(zD cs 16).length=xs.length:=by
  have:=zCd cs (fun z hz=>(zY.1 q1 z hz).1) 16 (by omega)
  omega
 have hsy:=zOC (zD cs 16) xs hcl
 have hfit:=zEd cs q4 hl 16 (by omega)
 have hlen: ∀ i (h:i<xs.length),vY (zK (zD cs 16) xs) xs[i]=((zD cs 16)[i]'(by omega)).1:=fun i h=>by
  have hzl:=zCP (zD cs 16) xs (by omega)
  have hf:jL (zK (zD cs 16) xs) xs[i]=some ((zK (zD cs 16) xs)[i]'(by omega)):=by
   refine findT_at (by omega) ?_ ?_
   ·rw[hsy]
    intro hm
    obtain⟨j,hj,e⟩:=List.mem_iff_getElem.1 hm
    rw[List.getElem_take] at e
    have:=(List.getElem_inj q6).1 e
    rw[List.length_take] at hj
    omega
   ·rw[zAx _ xs i (by omega) h (by omega)]
  unfold vY zCk
  rw[hf,zAx _ xs i (by omega) h (by omega)]
  dsimp only
  rw[qE,Int.toNat_natCast]
 have e:xs.map (fun s=>2 ^ (16-vY (zK (zD cs 16) xs) s))=(zD cs 16).map fun p=>2 ^ (16-p.1):=by
  refine List.ext_getElem (by simp[hcl]) fun i h1 h2=> ?_
  rw[List.length_map] at h1
  rw[List.getElem_map,List.getElem_map,hlen i h1]
 unfold zR
 rw[e,zJv]
 have h15:=List.all_eq_true.1 q4 15 (by simp)
 simpa using h15
theorem zLj (T:List Tok) {counts:List Int} (hb: ∀ z∈counts,0≤z): ∀ i,i≤counts.length→zGq T counts i=((zR (xD counts i) (fun s=>wtN counts s*vY T s):Nat):Int)
 | 0,_=>rfl
 | i+1,hi=>by
   have ih:=zLj T hb i (by omega)
   have hz:0≤counts.getD i 0:=by
    rw[List.getD_eq_getElem?_getD,List.getElem?_eq_getElem (by omega)]
    exact hb _ (List.getElem_mem _)
   show zGq T counts i+counts.getD i 0*(vY T (i:Int):Int)=_
   rw[ih,xD]
   by_cases h0:0<counts.getD i 0
   ·rw[if_pos h0,zBa]
    have hw:wtN counts (i:Int)=(counts.getD i 0).toNat:=by unfold wtN;rw[if_neg (by omega),Int.toNat_natCast]
    have h1:zR [(i:Int)] (fun s=>wtN counts s*vY T s)=(counts.getD i 0).toNat*vY T (i:Int):=by simp[zR,hw]
    rw[h1]
    push_cast
    rw[Int.toNat_of_nonneg hz]
   ·rw[if_neg h0,List.append_nil,show counts.getD i 0=0 by omega]
    simp
theorem fewest {counts cs xs cs' xs':List Int} (hM:Made counts cs xs) (hb:vB counts=0) (hl:cs'.length=16): ∃ m:Int,zHG cs xs counts=(m,0)∧ ∀ c,zHG cs' xs' counts=(c,0)→m≤c:=by
 obtain⟨g1,g2,g3⟩:=zFY hM hb
 obtain⟨b1,b2⟩:=zFy hb
 have hbd:=zY.1 b2
 have hws:=List.mergeSort_perm (0::posN counts counts.length) (fun a b=>decide (a≤b))
 have hso:=List.pairwise_mergeSort (le:=fun a b:Nat=>decide (a≤b)) (fun a b c h1 h2=>by simp at *;omega) (fun a b=>by simp;omega) (0::posN counts counts.length)
 generalize (0::posN counts counts.length).mergeSort (fun a b=>decide (a≤b))=ws at *
 have hsr:ws.Pairwise (· ≤ ·):=hso.imp (by simp)
 refine⟨_,g3 ws hws hsr,fun c hc=> ?_⟩
 unfold zHG at hc
 by_cases hz:zV cs' xs'=0
 ·rw[if_pos hz,if_pos hb] at hc
  cases ha:zFK (zK (zD cs' 16) xs') counts with
  | false=>rw[ha] at hc;simp at hc
  | true =>
    rw[ha,if_pos rfl] at hc
    have hcc:c=zGq (zK (zD cs' 16) xs') counts counts.length:=by injection hc with h1 h2;exact h1.symm
    rw[hcc,zLj _ (fun z hz=>(hbd z hz).1) _ (Nat.le_refl _)]
    have hk:=zRP hl hz
    obtain⟨q1,q2,q3,q4,q5,q6⟩:=zBL hz
    have hf:=zDl cs' xs' hl hz
    have hcl:(zD cs' 16).length=xs'.length:=by
     have:=zCd cs' (fun z hz=>(zY.1 q1 z hz).1) 16 (by omega)
     omega
    have hsy:=zOC (zD cs' 16) xs' hcl
    generalize zK (zD cs' 16) xs'=T at *
    generalize hn:counts.length=n at *
    have hreal: ∀ s∈xD counts n,s∈xs'∧1≤vY T s∧vY T s≤16:=fun s hs=>by
     obtain⟨j,hj,rfl,hp⟩:=(zBm counts n s).1 hs
     have h1:=List.all_eq_true.1 ha j (List.mem_range.2 (by omega))
     simp only[Bool.or_eq_true,decide_eq_true_eq] at h1
     obtain⟨t,ht⟩:=Option.isSome_iff_exists.1 (h1.resolve_left (by omega))
     obtain⟨long,code,rfl,l1,l2,l3⟩:=hf _ _ ht
     refine⟨?_, ?_⟩
     ·rw[←hsy]
      exact List.mem_map.2 ⟨_,List.mem_of_find?_eq_some ht,rfl⟩
     ·unfold vY
      rw[zEe ht,qE]
      exact⟨l1,l2⟩
    have hkr:zR (xD counts n) (fun s=>2 ^ (16-vY T s))+1≤2 ^ 16:=by
     have:=zIz (zDy counts n) q6 (fun s hs=>(hreal s hs).1) (fun s=>2 ^ (16-vY T s))
     omega
    have hlenw:ws.length=(xD counts n).length+1:=by rw[hws.length_eq,List.length_cons,zHq]
    by_cases h0:(xD counts n).length=0
    ·have:zFR ws=0:=by unfold zFR;rw[if_pos (by omega)]
     rw[this]
     omega
    ·let X:List (Nat×Nat):=(0,15)::(xD counts n).map fun s=>(wtN counts s,vY T s-1)
     have hXw:X.map (·.1)=0::posN counts n:=by
      have h1:=zIa counts n
      rw[zEU,List.map_map] at h1
      injection h1 with h2 h3
      show 0::((xD counts n).map fun s=>(wtN counts s,vY T s-1)).map (·.1)=_
      rw[List.map_map, ←h3]
      rfl
     have hXl:X.length=ws.length:=by rw[hlenw];simp[X]
     have hXp:Part ws X:=⟨[],by rw[List.append_nil,hXw];exact hws⟩
     have hX1: ∀ x∈X,x.2≤15:=by
      intro x hx
      rcases List.mem_cons.1 hx with rfl | hx
      ·exact Nat.le_refl _
      ·obtain⟨s,hs,rfl⟩:=List.mem_map.1 hx
       have:=(hreal s hs).2
       show vY T s-1≤15
       omega
     have hXk:zAu 15 X≤2*2 ^ 15:=by
      have e:zAu 15 X=1+zR (xD counts n) (fun s=>2 ^ (16-vY T s)):=by
       show ((((0,15)::(xD counts n).map fun s=>(wtN counts s,vY T s-1)):List (Nat×Nat)).map fun x=>2 ^ (15-x.2)).sum=_
       rw[List.map_cons,List.sum_cons,List.map_map]
       have:(xD counts n).map ((fun x:Nat×Nat=>2 ^ (15-x.2)) ∘ fun s=>(wtN counts s,vY T s-1))=(xD counts n).map fun s=>2 ^ (16-vY T s):=List.map_congr_left (fun s hs=>by
        have:=(hreal s hs).2
        show 2 ^ (15-(vY T s-1))=_
        congr 1
        omega)
       rw[this]
       rfl
      rw[e]
      omega
     have hi:=D_high hsr far 15 X 2 hXp hX1 hXk
     rw[hXl] at hi
     have hp:pre ws ws.length=zR (xD counts n) (fun s=>wtN counts s):=by
      rw[pre_all,hws.sum_nat, ←hXw]
      show (((0,15)::(xD counts n).map fun s=>(wtN counts s,vY T s-1)).map (·.1)).sum=_
      rw[List.map_cons,List.sum_cons,List.map_map,Nat.zero_add]
      rfl
     have hcX:cost X=zR (xD counts n) (fun s=>wtN counts s*(vY T s-1)):=by
      show (((0,15)::(xD counts n).map fun s=>(wtN counts s,vY T s-1)).map fun x=>x.1*x.2).sum=_
      rw[List.map_cons,List.sum_cons,List.map_map]
      simp[zR,Function.comp_def]
     have hsum:zR (xD counts n) (fun s=>wtN counts s)+zR (xD counts n) (fun s=>wtN counts s*(vY T s-1))=zR (xD counts n) (fun s=>wtN counts s*vY T s):=by
      rw[←zFp]
      refine zCW (fun s hs=> ?_)
      obtain⟨d,hd⟩: ∃ d,vY T s=d+1:=⟨vY T s-1,by have:=(hreal s hs).2;omega⟩
      rw[hd,Nat.add_sub_cancel,Nat.mul_add,Nat.mul_one,Nat.add_comm]
     have hbz:zFR ws=pre ws ws.length+D (pre ws) far 15 ws.length 2:=by unfold zFR;rw[if_neg (by omega)]
     rw[hbz]
     omega
 ·rw[if_neg hz] at hc
  injection hc with h1 h2
  exact absurd h2 hz
end Go.Proofs.YtkggcjdlpendfaaGreatDoor.BM
namespace Go.Proofs.YtkggcjdlpendfaaGreatDoor
set_option linter.all false
set_option maxRecDepth 20000
set_option maxHeartbeats 8000000
open Go.RowKit
theorem zMu (T1 T2:List Tok): ∀ (l:List (Tok×Bool)) (L:List Bool),(∀ x∈l,(jL (if x.2 then T1 else T2) x.1.1).isSome=true)→(qK (yX T1 T2) l L).1=0
 | [],_,_=>rfl
 | (t,b)::r,L,h=>by
   have h0:(yX T1 T2 L t b).1=0:=by
    have:=h (t,b) (by simp)
    unfold yX
    dsimp only at this
    cases hf:jL (if b then T1 else T2) t.1 with
    | none=>rw[hf] at this;cases this
    | some u=>rfl
   rw[zCB h0]
   exact zMu T1 T2 r _ (fun x hx=>h x (by simp[hx]))
theorem zPh {Z:List Int} {n k:Nat}: ∀ x∈xT Z n k,zBH x.1:=by
 intro x hx
 unfold xT at hx
 obtain⟨i, -,hx⟩:=wP5.1 hx
 unfold zAs at hx
 obtain⟨p,hp,rfl⟩:=wD6.1 hx
 exact zEW _ _ (vL _) _ (wP7 hp)
theorem has_sym {T:List Tok} {counts:List Int} (h:zFK T counts=true) {t:Tok} (ht:zBH t) (hl:counts.length=256) (hc:1≤counts.getD t.1.toNat 0):(jL T t.1).isSome=true:=by
 obtain⟨w1,w2, -⟩:=ht
 have h1:=wB5.1 h t.1.toNat (wB7.2 (by omega))
 simp only[wB9,wB3] at h1
 have h2:=h1.resolve_left (by omega)
 rwa [wS8 w1] at h2
theorem zQf {cs xs counts:List Int} {m:Int} (h:zHG cs xs counts=(m,0)):zV cs xs=0∧zFK (zK (zD cs 16) xs) counts=true:=by
 unfold zHG at h
 by_cases h1:zV cs xs=0
 ·rw[if_pos h1] at h
  by_cases h2:vB counts=0
  ·rw[if_pos h2] at h
   cases h3:zFK (zK (zD cs 16) xs) counts with
   | true=>exact⟨h1,rfl⟩
   | false=>rw[h3] at h;simp at h
  ·rw[if_neg h2] at h
   injection h with _ h
   exact absurd h h2
 ·rw[if_neg h1] at h
  injection h with _ h
  exact absurd h h1
theorem zJj {T1 T2:List Tok} {n e:Nat} {Z:List Int}: ∀ (m i:Nat) (acc:List Nat),(∀ j,i≤j→j<i+m→(xW (yX T1 T2) (qR n e j) (yN n e j Z) []).1=0)→(uQ T1 T2 n e Z m i acc).1=0
 | 0,_,_,_=>rfl
 | m+1,i,acc,h=>by
   have h0:(zCf T1 T2 (min (n-i*yQ n e) (yQ n e)) (yN n e i Z)).1=0:=h i (wA5 _) (by omega)
   rw[zJD rfl h0]
   exact zJj m (i+1) _ (fun j a b=>h j (by omega) (by omega))
theorem few_ok {n e:Nat} {Z:List Int} (hE:qD n Z=0) (hn:n≤64) {cs1 xs1 cs2 xs2:List Int} (l1:cs1.length=16) (l2:cs2.length=16) (t1:zCl (qO n e Z (yJ n e)).1 cs1 xs1) (t2:zCl (qO n e Z (yJ n e)).2 cs2 xs2) :
 zV cs1 xs1=0∧zV cs2 xs2=0∧(zBV (zK (zD cs1 16) xs1) (zK (zD cs2 16) xs2) n e Z).1=0:=by
 obtain⟨⟨⟨b1,b2⟩,b3,b4⟩, -, -,hf⟩:=fcnt_bd (e:=e) hE (by omega) (yJ n e) (wA5 _)
 rw[zJX] at b3 b4
 have bc: ∀ l:List Int,l.length=256→(∀ z∈l,0≤z∧z≤((n*65:Nat):Int))→vB l=0:=fun l h1 h2=>by
  unfold vB
  rw[if_neg (by omega),if_pos (zY.2 fun z hz=>by have:=h2 z hz;omega)]
 have c1:=bc _ b1 b3
 have c2:=bc _ b2 b4
 obtain⟨m1,e1, -⟩:=BM.fewest (cs':=cs1) (xs':=xs1) (t1.1 c1) c1 l1
 obtain⟨m2,e2, -⟩:=BM.fewest (cs':=cs2) (xs':=xs2) (t2.1 c2) c2 l2
 obtain⟨z1,a1⟩:=zQf e1
 obtain⟨z2,a2⟩:=zQf e2
 refine⟨z1,z2, ?_⟩
 unfold zBV
 rw[if_neg (by simpa using hE)]
 refine zJj (yJ n e) 0 [] fun j _ hj=> ?_
 have hp:=zCj.1 (zMF (e:=e) (i:=j) hE)
 unfold xW
 have h400:qR n e j≤400:=hp.1
 rw[if_neg (by omega),zY.2 hp.2,if_neg (by simp)]
 refine zMu _ _ _ _ fun x hx=> ?_
 have hw:=zPh x hx
 have h9:=hf j (by omega) x hx (by have:=hw.1;have:=hw.2.1;omega)
 obtain⟨t,bb⟩:=x
 cases bb with
 | true=>exact has_sym a1 hw b1 h9
 | false=>exact has_sym a2 hw b2 h9
theorem zSn (x:Nat→List Nat) (k:Nat):zAf x 0 (k+1)=zAf x 0 k++(zBP k++xR (x k)):=by
 unfold zAf
 rw[←wS9, ←wS9,wH3,wJ4]
 simp
theorem markZ_lt (i:Nat):(zBP i).length≤2∧ ∀ b∈zBP i,b<256:=by
 unfold zBP
 split
 ·exact⟨by simp,fun b h=>by cases h⟩
 ·refine⟨by simp,fun b h=> ?_⟩
  simp at h
  omega
theorem segB_len {T1 T2:List Tok} (f1:zBJ T1) (f2:zBJ T2) {n e:Nat} {Z:List Int} (j:Nat):(zEP T1 T2 n e Z j).length≤228*qR n e j+1:=by
 unfold zEP
 rw[zCV]
 have hL:(xW (yX T1 T2) (qR n e j) (yN n e j Z) []).2.length≤1820*qR n e j:=by
  unfold xW
  split
  ·simp
  ·split
   ·simp
   ·have h1:=zKc f1 f2 (xT (yN n e j Z) (qR n e j) 0) [] (fun t ht=>zPh t ht)
    have h2:=zIY (yN n e j Z) (qR n e j) (qR n e j) 0 (by omega)
    simp only[wN4] at h1
    omega
 unfold zAA
 rw[wF3,wF5]
 omega
theorem zPL {T1 T2:List Tok} (f1:zBJ T1) (f2:zBJ T2) {n e:Nat} {Z:List Int}: ∀ k,k≤yJ n e→(zAf (zEP T1 T2 n e Z) 0 k).length≤4*k+456*atK n e k∧ ∀ b∈zAf (zEP T1 T2 n e Z) 0 k,b<256
 | 0,_=>⟨by simp[zAf],fun b h=>by simp[zAf] at h⟩
 | k+1,hk=>by
   obtain⟨i1,i2⟩:=zPL f1 f2 (n:=n) (e:=e) (Z:=Z) k (by omega)
   have h1:=segB_len f1 f2 (n:=n) (e:=e) (Z:=Z) k
   have h2:=zIv (zEP T1 T2 n e Z k)
   obtain⟨h3,h4⟩:=markZ_lt k
   have ha:=zHP (n:=n) (e:=e) (i:=k) (by omega)
   rw[zSn]
   refine⟨by rw[wF3,wF3];omega,fun b hb=> ?_⟩
   rcases wE6.1 hb with h | h
   ·exact i2 b h
   ·rcases wE6.1 h with h | h
    ·exact h4 b h
    ·refine stuff_lt (fun y hy=> ?_) b h
     unfold zEP at hy
     exact zOq _ y hy
theorem zRv (xs q:List Int) (a b:Nat) (a1:1≤a) (a2:a≤64) (b1:1≤b) (b2:b≤64) (hx:xs.length=a*b) (hv:zM xs 0 255=true) (hq:zM q 1 255=true) :
 yB a b [xs] q=(0,yH a b,jQ q (vH xs a b) (yH a b)):=by
 have hs:=zKP a1 a2 b1 b2
 have hc:uT xs a b=0:=by
  unfold uT
  rw[if_pos hs,if_pos (by rw[hx];push_cast;rfl),if_pos hv]
 have hp:zDQ a b [xs]=0:=by unfold zDQ;rw[if_pos hs,if_pos (by simp)];simp[zAn,hc]
 have hn:jZ xs a b=yH a b:=by unfold jZ;rw[if_pos hc];simp
 have hz:zBI xs a b=vH xs a b:=by unfold zBI;rw[if_pos hc];simp
 unfold yB
 rw[if_pos hp,if_pos hq]
 show (0,zAa a b [xs],zBB _ a b [xs])=_
 unfold zAa zBB
 simp only[wC8,wC9,wJ7,List.sum_nil,wJ6,List.flatMap_nil,wG6,hn,hz,wM5]
structure Thru (F:FC) (q:List Int) (a b e:Nat) (Z:List Int):Prop where
 shaped:F.shaped
 chk:F.chk=0
 lt: ∀ y∈F.data,y<256
 wd:F.wd=a
 hi:F.hi=b
 pt:F.pt=(1:Nat)
 ev:F.ev=e
 qs:F.qs=q
 z1:zV F.cs1 F.xs1=0
 z2:zV F.cs2 F.xs2=0
 sc:(zBV (zK (zD F.cs1 16) F.xs1) (zK (zD F.cs2 16) F.xs2) (yH a b) e Z).1=0
 data:F.data=zAf (zEP (zK (zD F.cs1 16) F.xs1) (zK (zD F.cs2 16) F.xs2) (yH a b) e Z) 0 (yJ (yH a b) e)
 dec:zAm (zK (zD F.cs1 16) F.xs1) (zK (zD F.cs2 16) F.xs2) (yH a b*1) e F.data=(0,Z)
theorem zSq {xs q:List Int} {a b e:Nat} (a1:1≤a) (a2:a≤64) (b1:1≤b) (b2:b≤64) (hx:xs.length=a*b) (hv:zM xs 0 255=true) (hq:q.length=64) (hq1:zM q 1 255=true) (he:e≤100) {E:Int} {F:FC}
 (h:EncF a b [xs] q (e:Int) E F):E=0∧Thru F q a b e (jQ q (vH xs a b) (yH a b)):=by
 have hfr:=zRv xs q a b a1 a2 b1 b2 hx hv hq1
 have hE:qD (yH a b) (jQ q (vH xs a b) (yH a b))=0:=by
  have:=zQa a b [xs] q
  rw[hfr] at this
  exact this
 have hZ:(jQ q (vH xs a b) (yH a b)).length=yH a b*64:=zDu q _ hq _
 have hn:=zEs a2 b2
 unfold EncF at h
 rw[hfr] at h
 rw[if_neg (by simp),if_neg (by omega),wF0] at h
 dsimp only at h
 generalize jQ q (vH xs a b) (yH a b)=Z at *
 generalize hN:yH a b=n at *
 obtain⟨cs1,xs1,cs2,xs2,t1,t2,l1,l2,hs,hF⟩:=h
 obtain⟨z1,z2,hsc⟩:=few_ok hE hn l1 l2 t1 t2
 have hez:zAr cs1 xs1 cs2 xs2 (e:Int) n Z=zBV (zK (zD cs1 16) xs1) (zK (zD cs2 16) xs2) n e Z:=by
  unfold zAr
  rw[if_neg (by omega),if_neg (by unfold twoE;rw[if_pos z1,z2];simp),wF0]
 rw[hez] at hs hF
 obtain⟨hd, -,hdec⟩:=zNz l1 l2 z1 z2 hZ hsc
 obtain⟨j1,j2⟩:=zPL (zDl cs1 xs1 l1 z1) (zDl cs2 xs2 l2 z2) (n:=n) (e:=e) (Z:=Z) (yJ n e) (wA5 _)
 rw[zJX] at j1
 have hk:=zEo (n:=n) (e:=e)
 rw[hsc] at hs
 subst hs
 rw[if_pos rfl] at hF
 subst hF
 refine⟨rfl,⟨hq,l1,l2⟩, ?_, ?_,rfl,rfl,rfl,rfl,rfl,z1,z2,by rw[hN];exact hsc,by rw[hN];exact hd,by rw[hN,wF1];exact hdec⟩
 ·unfold FC.chk zDB
  dsimp only
  have ha:zCN (a:Int) (b:Int) ((([xs]:List (List Int)).length:Nat):Int) (e:Int)=true:=by
   unfold zCN
   simp[vX]
   omega
  rw[ha,hq1,if_pos (by simp),if_pos z1,if_pos z2,if_neg]
  rw[hd]
  omega
 ·dsimp only
  rw[hd]
  exact j2
theorem seen_enc {xs q:List Int} {a b e:Nat} (a1:1≤a) (a2:a≤64) (b1:1≤b) (b2:b≤64) (hx:xs.length=a*b) (hv:zM xs 0 255=true) (hq:q.length=64) (hq1:zM q 1 255=true) (he:e≤100) {W W':World} {en:Ending}
 (h:EncIs a b [xs] q (e:Int) W en W'): ∃ F A1 d1 A2 d2 A3 n3 d3,en=.returned (.tuple #[.agg (F.cells (.slice A1 F.xs1.length d1) (.slice A2 F.xs2.length d2) (.slice A3 n3 d3)),.int .i64 0])∧F.data.length=n3∧Thru F q a b e (jQ q (vH xs a b) (yH a b)) ∧
 F.at_ W' (.slice A1 F.xs1.length d1) (.slice A2 F.xs2.length d2) (.slice A3 n3 d3)∧Ext W W':=by
 obtain⟨E,F,s1,s2,sd,rfl,hs,hat,hE,hx', -, -⟩:=h
 obtain⟨rfl,hT⟩:=zSq a1 a2 b1 b2 hx hv hq hq1 he hE
 have hat':=hat
 obtain⟨⟨A1,d1,rfl, -⟩,⟨A2,d2,rfl, -⟩,⟨A3,d3,rfl, -⟩⟩:=hat'
 exact⟨F,A1,d1,A2,d2,A3,_,d3,rfl,rfl,hT,hat,hx'⟩
theorem seen_dec {q:List Int} {a b e:Nat} {Z:List Int} {F:FC} (hT:Thru F q a b e Z) {s1 s2:Value} {A:Option Addr} {n c:Nat} (hn:F.data.length=n) {m0:Int} {W:World} (hm:W.cell? ⟨0,0,none⟩=some (.int .i64 m0)) (ha:F.at_ W s1 s2 (.slice A n c)) :
 Calls Tryz.prog 27 #[.agg (F.cells s1 s2 (.slice A n c))] W fun en W'=> ∃ B d,en=.returned (.tuple #[.agg (xE a b (.slice B 1 d)),.int .i64 0])∧RowsS W' B 1 d [vN q Z a b 0]∧Ext W W':=by
 have:=zLT F hT.shaped hT.chk s1 s2 A n c hn hT.lt m0 W hm ha a b 1 e hT.wd hT.hi hT.pt hT.ev W (Ext.refl W)
 rw[hT.dec,hT.qs] at this
 refine this.mono fun en W' h=> ?_
 unfold PdOf at h
 rw[if_pos rfl] at h
 obtain⟨B,k,d,rfl,hr,hx⟩:=h
 have e1:zCp q Z a b 1=[vN q Z a b 0]:=rfl
 dsimp only at hr
 rw[e1] at hr
 obtain rfl:k=1:=hr.len.symm
 exact⟨B,d,rfl,hr,hx⟩
theorem zTJ {w:World} {B:Option Addr} {d:Nat} {l:List Int} (h:RowsS w B 1 d [l]): ∃ ad B0 d0,B=some ad∧ad.block<w.heap.size∧w.cell? (ad.add 0)=some (.slice B0 l.length d0)∧SL w 1 (.slice B0 l.length d0) l.length (ints l):=by
 obtain⟨vs,h1, -,h3⟩:=h
 obtain⟨B0,d0,e,hs⟩:=h3 0 l rfl
 obtain⟨ad,u,hB,hb,hu,hc⟩:=h1.at1 (k:=0) (by omega)
 rw[e] at hu
 obtain rfl:=Option.some.inj hu
 exact⟨ad,B0,d0,hB,hb,hc,hs⟩
theorem zFF {o:Oper} {a:Act} {x:Operand} (ho:o.op=.call { callee:=.builtin .len,args:= #[x],argTypes:= #[22] }) {A:Option Addr} {n c:Nat} (hx:a.eval x=.slice A n c) (w:World):(execOp a.eval o).run Tryz.prog w=.ok (.value (.int .i64 (n:Int))) w:=by
 simp[execOp,ho,resolve,invoke,builtin,hx,Result.andThen,Builtin.len_,goInt]
theorem one_row {w:World} {g:Nat} {v:Value} {n:Nat} {l:List Int} (hn:l.length=n) (hs:SL w 1 v n (ints l)) (hc:Blk w g 22 v.cells):RowsS w (some ⟨g,0,none⟩) 1 1 [l]:=by
 obtain⟨A,c,rfl, -⟩:=id hs
 refine⟨[.slice A n c],hc.sl (size:=1) (n:=1) (c:=1) rfl (by omega) (by omega),rfl,fun k x hx=> ?_⟩
 cases k with
 | zero =>
   simp at hx
   subst hx
   exact⟨A,c,by rw[hn];rfl,by rw[hn];exact hs⟩
 | succ k=>simp at hx
theorem zPF (a b N:Nat) (hN:a*b=N) (a1:1≤a) (a2:a≤64) (b1:1≤b) (b2:b≤64) (xs q:List Int) (hxs:xs.length=N) (hv:zM xs 0 255=true) (hq:q.length=64) (hq1:zM q 1 255=true) (A:Option Addr) (c:Nat) (m0:Int) (w:World) (hm:w.cell? ⟨0,0,none⟩=some (.int .i64 m0))
 (hs:SL w 1 (.slice A N c) N (ints xs)):Calls Tryz.prog 16 #[.slice A N c,.int .i64 (a:Int),.int .i64 (b:Int),.agg (bv q)] w fun e w'=> ∃ B d,e=.returned (.tuple #[.slice B N d,.bool true])∧SL w' 1 (.slice B N d) N (ints (vN q (jQ q (vH xs a b) (yH a b)) a b 0))∧Ext w w':=by
 have hz0:=zBj
 have hzp:=zFC
 have hzs:=zA zBE
 have HEN:=zA (fun W A' c' (hx:Ext w W) (hr:RowsS W A' 1 c' [xs])=>(zPk a b [xs] A' 1 c' q hq 3 m0 W (vV hm hx) hr).mono fun e w' h=>seen_enc (e:=3) a1 a2 b1 b2 (by rw[hxs,hN]) hv hq hq1 (by omega) h)
 have HDC:=zA (fun W (hx:Ext w W) (F:FC) (hT:Thru F q a b 3 (jQ q (vH xs a b) (yH a b))) s1 s2 A' n' c' (hn:F.data.length=n') (ha:F.at_ W s1 s2 (.slice A' n' c'))=>seen_dec hT hn (vV hm hx) ha)
 have HPL:=zA (show (vN q (jQ q (vH xs a b) (yH a b)) a b 0).length=N by rw[zDW,hN])
 have HPZ:=zA (fun v=>vT a b v)
 have HP1:=zA (fun A n c=>zDg a b A n c)
 have HCC:=zA (fun W g v (h:Blk W g 31 (xE a b v))=>(zAi h).2.2)
 have hqs:=zA (show (bv q).size=64 by rw[zJ,hq])
 have hMU:=zA (fun W=>zCM a b N hN (by rw[←hN];exact wT5 (wI6 a2 b2) (by omega)) W)
 have HXS:=zA hxs
 have HBP:Hid (∀ {o:Oper} {ac:Act} {x0 x1 x2:Operand} (ho:o.op=.build 31 #[(0,x0),(1,x1),(2,x2)]) {A:Option Addr} {n c:Nat} (h0:ac.eval x0=.int .i64 (a:Int)) (h1:ac.eval x1=.int .i64 (b:Int)) (h2:ac.eval x2=.slice A n c) (w:World),(execOp ac.eval o).run Tryz.prog w=.ok (.value (.agg (xE a b (.slice A n c)))) w):=zA (fun ho A n c h0 h1 h2 w=>zNT ho h0 h1 h2 w)
 generalize vN q (jQ q (vH xs a b) (yH a b)) a b 0=P at *
 obtain⟨pic,hpic⟩: ∃ pic:Value→Array Value,pic=xE a b:=⟨_,rfl⟩
 rw[←hpic] at HEN HDC HPZ HP1 HBP HCC
 generalize bv q=qv at *
 clear hpic hm hv hq hq1 hN hxs
 go_enter Tryz.func16,Tryz.ntmps16
 go_upto_region 3 with (first
  | ((with_reducible apply gS 7);refine wBox rfl 33 (.tmp 3) rfl qv rfl ?_;intro w1 g1 hb1 hx1 hg1)
  | ((with_reducible apply gS 18);refine wLit1 rfl 29 22 _ rfl (some 18) rfl Tryz.underlying29 1 uK zQV _ rfl rfl (by omega) (by omega) ?_;intro w2 gb hbb hx2 hgb;have hx12:=hx1.trans hx2;have hb2:=hb1.ext hx2;have hr2:=one_row HXS.out (hs.ext hx12) hbb)
  | ((with_reducible apply gS 19);refine zB rfl (.agg (pic (.slice (some ⟨gb,0,none⟩) 1 1))) (HBP.out rfl rfl rfl rfl) ?_)
  | ((with_reducible apply gS 20);refine wLdB rfl 33 (.tmp 7) rfl g1 rfl hb2 _ Tryz.underlying33 rfl 64 zG hqs.out ?_)
  | (go_at_call 17;(with_reducible refine (HEN.out _ _ _ hx12 hr2).mono ?_);rintro e w3 ⟨F,A1,d1,A2,d2,A3,n3,d3,rfl,hn3,hT,hat,hx3⟩;have hx13:=hx12.trans hx3;have HTT:=zA hT)
  | ((with_reducible apply gS 10);refine wAlo' rfl (some 10) rfl 47 rfl _ hz0 ?_;intro w4 gf hb4 hx4 hg4)
  | ((with_reducible apply gT 10 22);refine wStB rfl 47 (.tmp 10) (.tmp 22) rfl gf (F.cells (.slice A1 F.xs1.length d1) (.slice A2 F.xs2.length d2) (.slice A3 n3 d3)) rfl rfl hb4 103 yL (FC.size HTT.out.shaped _ _ _) hzs.out (zDr _ _ _ _ _ _ _ _ _ _) ?_;intro w5 hb5 hg5;have hx35:=hx4.grown hg5 hg4;have hat5:=hat.ext hx35;have hx15:=hx13.trans hx35)
  | ((with_reducible apply gS 25);refine wLdB rfl 47 (.tmp 10) rfl gf rfl hb5 _ Tryz.underlying47 rfl 103 yL (FC.size HTT.out.shaped _ _ _) ?_)
  | (go_at_call 27;(with_reducible refine (HDC.out _ hx15 F HTT.out _ _ _ _ _ hn3 hat5).mono ?_);rintro e w6 ⟨B,d,rfl,hr6,hx6⟩;have hx16:=hx15.trans hx6)
  | ((with_reducible apply gS 12);refine wAlo' rfl (some 12) rfl 31 rfl _ hzp ?_;intro w7 gp hb7 hx7 hg7)
  | ((with_reducible apply gT 12 27);refine wStB rfl 31 (.tmp 12) (.tmp 27) rfl gp (pic (.slice B 1 d)) rfl rfl hb7 3 jW (HPZ.out _) (by rfl) (HP1.out _ _ _) ?_;intro w8 hb8 hg8;have hx68:=hx7.grown hg8 hg7;have hr8:=hr6.ext hx68;have hx18:=hx16.trans hx68))
 obtain⟨ad,B0,d0,hB,hab,hcr,hsr⟩:=zTJ hr8
 subst hB
 rw[HPL.out] at hcr hsr
 have hcp:=HCC.out _ _ _ hb8
 go_wp2_with (first
  | ((with_reducible apply gS 37);refine zBG (by rfl) (.slice (some ad) 1 d) (zFd rfl rfl hcp) ?_)
  | ((with_reducible apply gS 38);refine xL (by rfl) (.int .i64 ((1:Nat):Int)) (zPN rfl rfl) ?_)
  | ((with_reducible apply gS 43);refine zBG (by rfl) (.slice (some ad) 1 d) (zFd rfl rfl hcp) ?_)
  | ((with_reducible apply gS 44);refine xL (by rfl) (.pointer (some (ad.add (0*1)))) (qS Tryz.underlying29 uK rfl rfl rfl (by omega)) ?_)
  | ((with_reducible apply gS 45);refine zBG (by rfl) (.slice B0 N d0) (jX rfl rfl (by simpa using hcr)) ?_)
  | ((with_reducible apply gS 46);refine xL (by rfl) (.int .i64 (N:Int)) (zFF rfl rfl) ?_)
  | ((with_reducible apply gS 49);refine xL (by rfl) (.int .i64 (N:Int)) (qI rfl rfl rfl hMU.out) ?_)
  | ((with_reducible apply gS 53);refine yY rfl (.slice (some ad) 1 d) (zFd rfl rfl hcp) ?_)
  | ((with_reducible apply gS 54);refine zB rfl (.pointer (some (ad.add (0*1)))) (qS Tryz.underlying29 uK rfl rfl rfl (by omega)) ?_)
  | ((with_reducible apply gS 55);refine yY rfl (.slice B0 N d0) (jX rfl rfl (by simpa using hcr)) ?_))
 go_ret2
 exact⟨B0,d0,rfl,hsr,hx18⟩
end Go.Proofs.YtkggcjdlpendfaaGreatDoor
