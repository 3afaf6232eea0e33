/- Contracts of the functions that the law reaches, part 35. -/
import Derived.Test.YtkggcjdlpendfaaGreatDoorMTopCoarseCard34
namespace Go.Proofs.YtkggcjdlpendfaaGreatDoor
set_option linter.unusedVariables false
set_option linter.unusedSimpArgs false
set_option maxRecDepth 20000
set_option maxHeartbeats 8000000
open Go.RowKit
section
attribute [local irreducible] zCo
theorem zOZ (F:FC) (hF:F.shaped) (s1 s2:Value) (A:Option Addr) (n c:Nat) (ev:Int) (a b p nb m:Nat) (hw:F.wd=a) (hh:F.hi=b) (hp:F.pt=p) (he:F.ev=ev) (a1:1≤a) (a2:a≤64) (b1:1≤b) (b2:b≤64) (hp13:p=1∨p=3) (hnb:yY a b=nb) (hm:nb*p=m) (w:World)
 (HC: ∀ W,Ext w W→Calls Tryz.prog 50 #[.agg (F.cells s1 s2 (.slice A n c))] W fun e W'=>e=.returned (.int .i64 0)∧Ext W W')
 (r1:Int) (X:List Int) (h1:r1≠0) (HK: ∀ W,Ext w W→Calls Tryz.prog 63 #[.agg (zT F.cs1 s1++zT F.cs2 s2).toArray,.slice A n c,.int .i64 (m:Int),.int .i64 ev] W (zCw (r1,X) W)) :
 Calls Tryz.prog 27 #[.agg (F.cells s1 s2 (.slice A n c))] w (PdIs r1 0 0 [] w):=by
 have HF:=zA (fun W g (h:Blk W g 47 (F.cells s1 s2 (.slice A n c)))=>zBg h hF.1 (zS _ _ hF.2.1) (zS _ _ hF.2.2))
 have hts:=zA (FC.size hF s1 s2 (.slice A n c))
 have HC:=zA HC
 have HK:=zA HK
 have hT:(zT F.cs1 s1++zT F.cs2 s2).length=34:=by rw[wF1,zS _ _ hF.2.1,zS _ _ hF.2.2]
 have HT34:Hid ((Tryz.prog.info? 44).map (·.size)=some (zT F.cs1 s1++zT F.cs2 s2).length):=zA (by rw[hT];exact qA)
 have HS:=zA (fun W=>zML F hF s1 s2 (.slice A n c) a b p nb m hw hh hp a1 a2 b1 b2 hp13 hnb hm W)
 rw[hw,hh,hp,he] at HF
 have hm192:m≤192:=by
  have h1:=zEt a2 b2
  rw[hnb] at h1
  rw[←hm]
  exact wD1 (wI3 h1 (show p≤3 by omega)) (by omega)
 have HMN:=zA hm
 have HPSZ:=zA (fun a b v=>vC a b v)
 have HP1:=zA (fun a b A n c=>zEC a b A n c)
 have HZP:=zFg
 have hz0s:Hid ((Value.agg (yX 0 0 (.slice none 0 0))).cells.size=3):=zA rfl
 have HPB:=zA zJi
 have hpo:=zA (zEC 0 0 none 0 0)
 have hps:=zA (vC 0 0 (.slice none 0 0))
 have HRA:Hid (∀ W e W',zCw (r1,X) W e W'→e=.returned (.tuple #[.slice none 0 0,.int .i64 r1])∧Ext W W'):=zA (fun W e W' h=>by
  obtain⟨hx,h⟩:=h
  rw[if_neg h1] at h
  exact⟨h,hx⟩)
 have HR:Hid (∀ W,Ext w W→PdIs r1 0 0 [] w (.returned (.tuple #[.agg (yX 0 0 (.slice none 0 0)),.int .i64 r1])) W):=zA (fun W h=>⟨none,0,0,rfl,RowsS.nil W,h⟩)
 have hne:(r1 !=0)=true:=by simpa using h1
 generalize F.cells s1 s2 (.slice A n c)=fv at *
 obtain⟨tt,htt⟩: ∃ tt,(zT F.cs1 s1++zT F.cs2 s2).toArray=tt:=⟨_,rfl⟩
 have HTT:=zA htt
 rw[htt] at HK
 clear htt hT hm hw hh hp he hnb hF h1
 generalize yX 0 0 (.slice none 0 0)=pz at *
 go_enter Tryz.func27,Tryz.ntmps27
 go_upto_region 4 with (first
  | ((with_reducible apply gS 1);refine wBox rfl 47 (.tmp 0) rfl fv rfl ?_;intro w1 gf hb1 hx1 hgf)
  | ((with_reducible apply gS 2);refine wAlo' rfl (some 2) rfl 31 rfl _ HZP ?_;intro w2 gp hp2 hx2 hgp;have hb2:=hb1.ext hx2;have hx12:=hx1.trans hx2)
  | ((with_reducible apply gS 7);refine wLdB rfl 47 (.tmp 1) rfl gf rfl hb2 _ Tryz.underlying47 rfl 103 yI hts.out ?_)
  | (go_at_call 50;(with_reducible refine (HC.out _ hx12).mono ?_);rintro e w3 ⟨rfl,hx3'⟩;have hp3:=hp2.ext hx3';have hb3:=hb2.ext hx3';have hx3:=hx12.trans hx3'))
 have hx8d:Ext w w3.drew:=hx3.drew
 have hbd:Blk w3.drew gf 47 fv:=hb3.drew
 have HGX:=zA (fun W (h:Ext w3.drew W)=>HF.out _ _ (hbd.ext h))
 have HGB:=zA (fun W (h:Ext w3.drew W)=>hbd.ext h)
 have hI:Ext w3.drew w3.drew:=Ext.refl _
 refine qI (Ext w3.drew) (by kernel_rfl) ?_
 refine zH (k:=0) (by kernel_rfl) rfl (by rfl) (.pointer (some ⟨gf,67,none⟩)) (fun w=>by go_simp) hI ?_
 simp only[Act.put,sA,sB,sC]
 refine xD (k:=1) (by kernel_rfl) rfl (by rfl) (.agg tt) (fun W hW=>HTT.out ▸ zCy rfl rfl (HGX.out W hW).tt Tryz.underlying44 rfl HT34.out) hI ?_
 simp only[Act.put,sA,sB,sC]
 refine zH (k:=2) (by kernel_rfl) rfl (by rfl) (.pointer (some ⟨gf,102,none⟩)) (fun w=>by go_simp) hI ?_
 simp only[Act.put,sA,sB,sC]
 refine xD (k:=3) (by kernel_rfl) rfl (by rfl) (.slice A n c) (fun W hW=>zCM rfl rfl (HGX.out W hW).c102) hI ?_
 simp only[Act.put,sA,sB,sC]
 refine xD (k:=4) (by kernel_rfl) rfl (by rfl) (.agg fv) (fun W hW=>zAJ rfl rfl (HGB.out W hW) Tryz.underlying47 rfl yI hts.out) hI ?_
 simp only[Act.put,sA,sB,sC]
 refine zH (k:=6) (by kernel_rfl) rfl (by rfl) (.pointer (some ⟨gf,101,none⟩)) (fun w=>by go_simp) hI ?_
 simp only[Act.put,sA,sB,sC]
 refine xD (k:=7) (by kernel_rfl) rfl (by rfl) (.int .i64 ev) (fun W hW=>zQ rfl rfl (HGX.out W hW).c101) hI ?_
 simp only[Act.put,sA,sB,sC]
 refine xY (k:=5) (by kernel_rfl) rfl ?_
 refine xH (by rfl) (xI _ _ _ rfl rfl zLR #[.agg fv] (by simp[Act.eval])) ?_
 refine (HS.out _).mono ?_
 rintro e4 w4 ⟨rfl,hx4⟩
 refine⟨_,rfl,zU ⟨hx4, ?_⟩⟩
 simp only[Act.put,sA,sB,sC]
 refine xY (k:=8) (by kernel_rfl) rfl ?_
 refine xH (by rfl) (xI _ _ _ rfl rfl zIi #[.agg tt,.slice A n c,.int .i64 (m:Int),.int .i64 ev] (by simp[Act.eval])) ?_
 refine (HK.out _ (hx8d.trans hx4)).mono ?_
 intro e5 w5 h5
 obtain⟨rfl,hx5⟩:=HRA.out _ _ _ h5
 have hx45:=hx4.trans hx5
 refine⟨_,rfl,zU ⟨hx45, ?_⟩⟩
 simp only[Act.put,sA,sB,sC]
 refine zH (k:=9) (by kernel_rfl) rfl (by rfl) (.tuple #[.slice none 0 0,.int .i64 r1]) (zC rfl rfl) hx45 ?_
 simp only[Act.put,sA,sB,sC]
 refine zH (k:=10) (by kernel_rfl) rfl (by rfl) (.slice none 0 0) (yR rfl rfl rfl) hx45 ?_
 simp only[Act.put,sA,sB,sC]
 refine zH (k:=11) (by kernel_rfl) rfl (by rfl) (.int .i64 r1) (yR rfl rfl rfl) hx45 ?_
 simp only[Act.put,sA,sB,sC]
 refine zH (k:=12) (by kernel_rfl) rfl (by rfl) (.slice none 0 0) (zW rfl rfl) hx45 ?_
 simp only[Act.put,sA,sB,sC]
 refine zH (k:=13) (by kernel_rfl) rfl (by rfl) (.int .i64 r1) (zW rfl rfl) hx45 ?_
 simp only[Act.put,sA,sB,sC]
 refine uE (by kernel_rfl) ?_
 have hx05:=hx8d.trans hx45
 have hb5:=hbd.ext hx45
 have hp5:=hp3.drew.ext hx45
 go_wp2_with (first
  | ((with_reducible apply gS 26);refine zB rfl (.bool true) (zAK rfl rfl rfl hne) ?_)
  | ((with_reducible apply gS 27);refine qH (by rfl) 31 rfl _ HPB.out ?_)
  | ((with_reducible apply gT 2 27);refine wStB rfl 31 (.tmp 2) (.tmp 27) rfl gp pz rfl rfl hp5 3 jL hps.out hz0s.out hpo.out ?_;intro w7 hb7 hg7;have hx7:=hx05.grown hg7 (by have:=hx1.size;omega)))
 exact yB rfl rfl gp rfl hb7 _ Tryz.underlying31 rfl 3 jL hps.out (HR.out _ hx7)
theorem zMv (F:FC) (hF:F.shaped) (s1 s2:Value) (A:Option Addr) (n c:Nat) (ev:Int) (a b p nb m:Nat) (hw:F.wd=a) (hh:F.hi=b) (hp:F.pt=p) (he:F.ev=ev) (a1:1≤a) (a2:a≤64) (b1:1≤b) (b2:b≤64) (hp13:p=1∨p=3) (hnb:yY a b=nb) (hm:nb*p=m) (w:World)
 (HC: ∀ W,Ext w W→Calls Tryz.prog 50 #[.agg (F.cells s1 s2 (.slice A n c))] W fun e W'=>e=.returned (.int .i64 0)∧Ext W W')
 (X:List Int) (hX:X.length=m*64) (HK: ∀ W,Ext w W→Calls Tryz.prog 63 #[.agg (zT F.cs1 s1++zT F.cs2 s2).toArray,.slice A n c,.int .i64 (m:Int),.int .i64 ev] W (zCw (0,X) W)) :
 Calls Tryz.prog 27 #[.agg (F.cells s1 s2 (.slice A n c))] w (PdIs 0 a b (zCo F.qs X a b p) w):=by
 have HF:=zA (fun W g (h:Blk W g 47 (F.cells s1 s2 (.slice A n c)))=>zBg h hF.1 (zS _ _ hF.2.1) (zS _ _ hF.2.2))
 have hts:=zA (FC.size hF s1 s2 (.slice A n c))
 have HC:=zA HC
 have HK:=zA HK
 have hT:(zT F.cs1 s1++zT F.cs2 s2).length=34:=by rw[wF1,zS _ _ hF.2.1,zS _ _ hF.2.2]
 have HT34:Hid ((Tryz.prog.info? 44).map (·.size)=some (zT F.cs1 s1++zT F.cs2 s2).length):=zA (by rw[hT];exact qA)
 have HS:=zA (fun W=>zML F hF s1 s2 (.slice A n c) a b p nb m hw hh hp a1 a2 b1 b2 hp13 hnb hm W)
 have HSH:=zA (fun LA lc W (h:SL W 64 (.slice LA m lc) m (ints X))=>shown_any F hF s1 s2 (.slice A n c) a b p hw hh hp a1 a2 b1 b2 hp13 LA m lc X (by rw[←hm,hnb,wI7]) W h)
 unfold PicIs at HSH
 rw[hw,hh,hp,he] at HF
 have hm192:m≤192:=by
  have h1:=zEt a2 b2
  rw[hnb] at h1
  rw[←hm]
  exact wD1 (wI3 h1 (show p≤3 by omega)) (by omega)
 have HMN:=zA hm
 have HPSZ:=zA (fun a b v=>vC a b v)
 have HP1:=zA (fun a b A n c=>zEC a b A n c)
 have HZP:=zFg
 have hz0s:Hid ((Value.agg (yX 0 0 (.slice none 0 0))).cells.size=3):=zA rfl
 have HPB:=zA zJi
 have hpo:=zA (zEC 0 0 none 0 0)
 have hps:=zA (vC 0 0 (.slice none 0 0))
 have HRA:Hid (∀ W e W',zCw (0,X) W e W'→ ∃ B k,e=.returned (.tuple #[.slice B m k,.int .i64 0])∧SL W' 64 (.slice B m k) m (ints X)∧Ext W W'):=zA (fun W e W' h=>by
  obtain⟨hx,h⟩:=h
  rw[if_pos rfl] at h
  obtain⟨B,k,d,rfl,h1,h2, -⟩:=h
  dsimp only at h1
  obtain rfl:k=m:=by omega
  exact⟨B,d,rfl,h2,hx⟩)
 have HR:Hid (∀ W B k d,RowsS W B k d (zCo F.qs X a b p)→Ext w W→PdIs 0 a b (zCo F.qs X a b p) w (.returned (.tuple #[.agg (yX a b (.slice B k d)),.int .i64 0])) W):=zA (fun W B k d h1 h=>⟨B,k,d,rfl,h1,h⟩)
 generalize zCo F.qs X a b p=SZ at *
 generalize F.cells s1 s2 (.slice A n c)=fv at *
 obtain⟨tt,htt⟩: ∃ tt,(zT F.cs1 s1++zT F.cs2 s2).toArray=tt:=⟨_,rfl⟩
 have HTT:=zA htt
 rw[htt] at HK
 clear htt hT hm hw hh hp he hnb hF hX
 generalize yX 0 0 (.slice none 0 0)=pz at *
 go_enter Tryz.func27,Tryz.ntmps27
 go_upto_region 4 with (first
  | ((with_reducible apply gS 1);refine wBox rfl 47 (.tmp 0) rfl fv rfl ?_;intro w1 gf hb1 hx1 hgf)
  | ((with_reducible apply gS 2);refine wAlo' rfl (some 2) rfl 31 rfl _ HZP ?_;intro w2 gp hp2 hx2 hgp;have hb2:=hb1.ext hx2;have hx12:=hx1.trans hx2)
  | ((with_reducible apply gS 7);refine wLdB rfl 47 (.tmp 1) rfl gf rfl hb2 _ Tryz.underlying47 rfl 103 yI hts.out ?_)
  | (go_at_call 50;(with_reducible refine (HC.out _ hx12).mono ?_);rintro e w3 ⟨rfl,hx3'⟩;have hp3:=hp2.ext hx3';have hb3:=hb2.ext hx3';have hx3:=hx12.trans hx3'))
 have hx8d:Ext w w3.drew:=hx3.drew
 have hbd:Blk w3.drew gf 47 fv:=hb3.drew
 have HGX:=zA (fun W (h:Ext w3.drew W)=>HF.out _ _ (hbd.ext h))
 have HGB:=zA (fun W (h:Ext w3.drew W)=>hbd.ext h)
 have hI:Ext w3.drew w3.drew:=Ext.refl _
 refine qI (Ext w3.drew) (by kernel_rfl) ?_
 refine zH (k:=0) (by kernel_rfl) rfl (by rfl) (.pointer (some ⟨gf,67,none⟩)) (fun w=>by go_simp) hI ?_
 simp only[Act.put,sA,sB,sC]
 refine xD (k:=1) (by kernel_rfl) rfl (by rfl) (.agg tt) (fun W hW=>HTT.out ▸ zCy rfl rfl (HGX.out W hW).tt Tryz.underlying44 rfl HT34.out) hI ?_
 simp only[Act.put,sA,sB,sC]
 refine zH (k:=2) (by kernel_rfl) rfl (by rfl) (.pointer (some ⟨gf,102,none⟩)) (fun w=>by go_simp) hI ?_
 simp only[Act.put,sA,sB,sC]
 refine xD (k:=3) (by kernel_rfl) rfl (by rfl) (.slice A n c) (fun W hW=>zCM rfl rfl (HGX.out W hW).c102) hI ?_
 simp only[Act.put,sA,sB,sC]
 refine xD (k:=4) (by kernel_rfl) rfl (by rfl) (.agg fv) (fun W hW=>zAJ rfl rfl (HGB.out W hW) Tryz.underlying47 rfl yI hts.out) hI ?_
 simp only[Act.put,sA,sB,sC]
 refine zH (k:=6) (by kernel_rfl) rfl (by rfl) (.pointer (some ⟨gf,101,none⟩)) (fun w=>by go_simp) hI ?_
 simp only[Act.put,sA,sB,sC]
 refine xD (k:=7) (by kernel_rfl) rfl (by rfl) (.int .i64 ev) (fun W hW=>zQ rfl rfl (HGX.out W hW).c101) hI ?_
 simp only[Act.put,sA,sB,sC]
 refine xY (k:=5) (by kernel_rfl) rfl ?_
 refine xH (by rfl) (xI _ _ _ rfl rfl zLR #[.agg fv] (by simp[Act.eval])) ?_
 refine (HS.out _).mono ?_
 rintro e4 w4 ⟨rfl,hx4⟩
 refine⟨_,rfl,zU ⟨hx4, ?_⟩⟩
 simp only[Act.put,sA,sB,sC]
 refine xY (k:=8) (by kernel_rfl) rfl ?_
 refine xH (by rfl) (xI _ _ _ rfl rfl zIi #[.agg tt,.slice A n c,.int .i64 (m:Int),.int .i64 ev] (by simp[Act.eval])) ?_
 refine (HK.out _ (hx8d.trans hx4)).mono ?_
 intro e5 w5 h5
 obtain⟨B5,d5,rfl,hs5,hx5⟩:=HRA.out _ _ _ h5
 have hx45:=hx4.trans hx5
 refine⟨_,rfl,zU ⟨hx45, ?_⟩⟩
 simp only[Act.put,sA,sB,sC]
 refine zH (k:=9) (by kernel_rfl) rfl (by rfl) (.tuple #[.slice B5 m d5,.int .i64 0]) (zC rfl rfl) hx45 ?_
 simp only[Act.put,sA,sB,sC]
 refine zH (k:=10) (by kernel_rfl) rfl (by rfl) (.slice B5 m d5) (yR rfl rfl rfl) hx45 ?_
 simp only[Act.put,sA,sB,sC]
 refine zH (k:=11) (by kernel_rfl) rfl (by rfl) (.int .i64 0) (yR rfl rfl rfl) hx45 ?_
 simp only[Act.put,sA,sB,sC]
 refine zH (k:=12) (by kernel_rfl) rfl (by rfl) (.slice B5 m d5) (zW rfl rfl) hx45 ?_
 simp only[Act.put,sA,sB,sC]
 refine zH (k:=13) (by kernel_rfl) rfl (by rfl) (.int .i64 0) (zW rfl rfl) hx45 ?_
 simp only[Act.put,sA,sB,sC]
 refine uE (by kernel_rfl) ?_
 have hx05:=hx8d.trans hx45
 have hb5:=hbd.ext hx45
 have hp5:=hp3.drew.ext hx45
 go_wp2_with (first
  | ((with_reducible apply gS 29);refine wLdB rfl 47 (.tmp 1) rfl gf rfl hb5 _ Tryz.underlying47 rfl 103 yI hts.out ?_)
  | (go_at_call 57;(with_reducible refine (HSH.out _ _ _ hs5).mono ?_);rintro e w6 ⟨B6,k6,d6,rfl,hr6,hx6⟩;have hp6:=hp5.ext hx6;have hx06:=hx05.trans hx6)
  | ((with_reducible apply gT 2 31);refine wStB rfl 31 (.tmp 2) (.tmp 31) rfl gp (yX a b (.slice B6 k6 d6)) rfl rfl hp6 3 jL (HPSZ.out _ _ _) hz0s.out (HP1.out _ _ _ _ _) ?_;intro w7 hb7 hg7;have hx7:=hx06.grown hg7 (by have:=hx1.size;omega);have hu7:=zL hg7))
 have hgpw:gp<w3.heap.size:=hp3.lt
 have hr7:=rows_far hr6 (zL hg7) (fun x e=>by injection e with e;rw[←e];exact wA1 hgpw (by have h1:=hx45.size;have h2:=hx8d.size;exact h1))
 exact yB rfl rfl gp rfl hb7 _ Tryz.underlying31 rfl 3 jL (HPSZ.out _ _ _) (HR.out _ _ _ _ hr7 hx7)
end
theorem zMf (A B:Option Addr) (n c d:Nat) (L:List (List Int)) (w:World) (hu:RowsS w A n c L) (hv:RowsS w B n d L) :
 Calls Tryz.prog 62 #[.slice A n c,.slice B n d] w fun e w'=>e=.returned (.bool true)∧Ext w w':=by
 have hc1:=hu.cap
 have hd1:=hv.cap
 have e1:((n:Int) !=(n:Int))=false:=by simp
 go_enter Tryz.func62,Tryz.ntmps62
 go_wp2_with fail
 go_loopw [13] (fun i wr=> ∃ k:Nat,k≤n∧i=.int .i64 (k:Int)∧Ext w wr) (fun i _=>n-(intOf i).toNat)
 case atStart=>exact⟨0,by omega,rfl,Ext.refl _⟩
 case round =>
  obtain⟨k,hk,rfl,hx⟩:=hrel
  by_cases hlt:k<n
  ·have hxd:Ext w wr.drew:=hx.drew
   obtain⟨ad,l,A1,c1,rfl,hLk,hab,hca,hsA⟩:=(hu.ext hxd).get hlt
   obtain⟨bd,l',A2,c2,rfl,hLk',hbb,hcb,hsB⟩:=(hv.ext hxd).get hlt
   obtain rfl:l=l':=Option.some.inj (hLk.symm.trans hLk')
   have HEQ:=zA (fun W (x:SL W 1 (.slice A1 l.length c1) l.length (ints l)) (y:SL W 1 (.slice A2 l.length c2) l.length (ints l))=>eqInt_any _ _ l l W x y)
   rw[wK3 (rfl:l=l)] at HEQ
   generalize ints l=il at *
   generalize l.length=m at *
   have HCA: ∀ W,Ext wr.drew W→W.cell? (ad.add (k*1))=some (.slice A1 m c1):=fun W h=>by
    rw[wE9];exact (h.cell (by rw[yH];exact hab)).trans hca
   have HCB: ∀ W,Ext wr.drew W→W.cell? (bd.add (k*1))=some (.slice A2 m c2):=fun W h=>by
    rw[wE9];exact (h.cell (by rw[yH];exact hbb)).trans hcb
   go_wp2_with fail
   refine xW xX (by kernel_rfl) (by kernel_rfl) ?_
   refine zE (by rfl) (.slice (some ad) n c) (zC rfl rfl) ?_
   simp only[Act.put,sA,sB,sC]
   refine zE (by rfl) (.int .i64 ((k:Nat):Int)) (zC rfl rfl) ?_
   simp only[Act.put,sA,sB,sC]
   refine zE (by rfl) (.pointer (some (ad.add (k*1)))) (jG Tryz.underlying29 uT rfl rfl rfl hlt) ?_
   simp only[Act.put,sA,sB,sC]
   refine yV (by rfl) (.slice A1 m c1) (fun W hW=>jZ rfl rfl (HCA W hW)) ?_
   simp only[Act.put,sA,sB,sC]
   refine zE (by rfl) (.slice (some bd) n d) (zC rfl rfl) ?_
   simp only[Act.put,sA,sB,sC]
   refine zE (by rfl) (.int .i64 ((k:Nat):Int)) (zC rfl rfl) ?_
   simp only[Act.put,sA,sB,sC]
   refine zE (by rfl) (.pointer (some (bd.add (k*1)))) (jG Tryz.underlying29 uT rfl rfl rfl hlt) ?_
   simp only[Act.put,sA,sB,sC]
   refine yV (by rfl) (.slice A2 m c2) (fun W hW=>jZ rfl rfl (HCB W hW)) ?_
   simp only[Act.put,sA,sB,sC]
   refine zCR (by rfl) 26 Tryz.func26 rfl rfl _ _ rfl #[.slice A1 m c1,.slice A2 m c2] (by simp[Act.eval]) (.bool true) (fun W h=>(HEQ.out W (hsA.ext h) (hsB.ext h)).mono (fun e w' h=>by rw[←h.2];exact⟨h.1,Ext.refl _⟩)) ?_
   simp only[Act.put,sA,sB,sC]
   refine zE (by rfl) (.bool false) (zGm (b:=true) rfl rfl) ?_
   simp only[Act.put,sA,sB,sC]
   refine jA ?_
   intro w9 hx9
   go_wp2_with fail
   go_roundw
   case rel=>exact⟨k+1,by omega,by go_num,hxd.trans hx9⟩
   case measure=>simp[intOf];omega
  ·go_wp2_with fail
   go_ret
   exact⟨rfl,hx⟩
theorem zKm (wd hi:Int) (A B:Option Addr) (n c d:Nat) (L:List (List Int)) (w:World) (hu:RowsS w A n c L) (hv:RowsS w B n d L) :
 Calls Tryz.prog 25 #[.agg (yX wd hi (.slice A n c)),.agg (yX wd hi (.slice B n d))] w fun e w'=>e=.returned (.bool true)∧Ext w w':=by
 have HE:=zA (fun W (h:Ext w W)=>zMf A B n c d L W (hu.ext h) (hv.ext h))
 have HPC1:=zA (fun (W:World) g (h:Blk W g 31 (yX wd hi (.slice A n c)))=>zAl h)
 have HPC2:=zA (fun (W:World) g (h:Blk W g 31 (yX wd hi (.slice B n d)))=>zAl h)
 generalize yX wd hi (.slice A n c)=P1 at *
 generalize yX wd hi (.slice B n d)=P2 at *
 clear hu hv
 go_enter Tryz.func25,Tryz.ntmps25
 go_wp2_with (first
  | ((with_reducible apply gS 2);refine wBox rfl 31 (.tmp 0) rfl P1 rfl ?_;intro w1 g1 hb1 hx1 hg1)
  | ((with_reducible apply gS 3);refine wBox rfl 31 (.tmp 1) rfl P2 rfl ?_;intro w2 g2 hb2 hx2 hg2;have hb12:=hb1.ext hx2;have r1:=HPC1.out _ _ hb12;have r2:=HPC2.out _ _ hb2;have hx12:=hx1.trans hx2)
  | ((with_reducible apply gS 6);refine yW rfl (.int .i64 wd) (zQ rfl rfl r1.1) ?_)
  | ((with_reducible apply gS 8);refine yW rfl (.int .i64 wd) (zQ rfl rfl r2.1) ?_)
  | ((with_reducible apply gS 9);refine zB rfl (.bool true) (zAB rfl rfl rfl (by simp)) ?_)
  | ((with_reducible apply gS 12);refine zCe (by rfl) (.int .i64 hi) (zQ rfl rfl r1.2.1) ?_)
  | ((with_reducible apply gS 14);refine zCe (by rfl) (.int .i64 hi) (zQ rfl rfl r2.2.1) ?_)
  | ((with_reducible apply gS 15);refine xC (by rfl) (.bool true) (zAB rfl rfl rfl (by simp)) ?_)
  | ((with_reducible apply gS 19);refine zCe (by rfl) (.slice A n c) (zDb rfl rfl r1.2.2) ?_)
  | ((with_reducible apply gS 21);refine zCe (by rfl) (.slice B n d) (zDb rfl rfl r2.2.2) ?_)
  | (go_at_call 62;(with_reducible refine (HE.out _ hx12).mono ?_);rintro e w5 ⟨rfl,hx5⟩))
 go_ret
 exact⟨rfl,hx12.trans hx5⟩
def FC.chk (F:FC):Int:=zDI F.wd F.hi F.pt F.qs (yC F.cs1 F.xs1) (yC F.cs2 F.xs2) F.ev F.data.length
theorem FC.check (F:FC) (hF:F.shaped) (s1 s2 sd:Value) (w:World) (ha:F.at_ w s1 s2 sd):Calls Tryz.prog 50 #[.agg (F.cells s1 s2 sd)] w fun e w'=>e=.returned (.int .i64 F.chk)∧Ext w w' :=
 zKH F.wd F.hi F.pt F.ev F.qs F.cs1 F.xs1 s1 F.cs2 F.xs2 s2 F.data sd w hF.1 hF.2.1 hF.2.2 ha.1 ha.2.1 ha.2.2
theorem segD_any (cs1 xs1 cs2 xs2:List Int) (s1 s2:Value) (l1:cs1.length=16) (l2:cs2.length=16) (z1:yC cs1 xs1=0) (z2:yC cs2 xs2=0) (m0:Int) (w:World) (hm:w.cell? ⟨0,0,none⟩=some (.int .i64 m0))
 (hs1:SL w 1 s1 xs1.length (ints xs1)) (hs2:SL w 1 s2 xs2.length (ints xs2)) (W:World) (A:Option Addr) (n c:Nat) (bs:List Nat) (nn:Int) (h:Ext w W) (hs:SL W 1 (.slice A n c) n (zD bs)) (hA:A=none→c=0) (hlt: ∀ b∈bs,b<256) (hn:n≤1048576) :
 Calls Tryz.prog 110 #[.agg (zT cs1 s1++zT cs2 s2).toArray,.slice A n c,.int .i64 nn] W (zCw (uB true (zM (zG cs1 16) xs1) (zM (zG cs2 16) xs2) nn (plZ bs)) W):=by
 have h1:=zS cs1 s1 l1
 have h2:=zS cs2 s2 l2
 have o1:=zBl cs1 s1 hs1
 have o2:=zBl cs2 s2 hs2
 have C1: ∀ W,Ext w W→Calls Tryz.prog 102 #[.agg (zT cs1 s1).toArray] W fun e W'=>e=.returned (.int .i64 (yC cs1 xs1))∧Ext W W':=fun W h=>zBK cs1 xs1 s1 W l1 (hs1.ext h)
 have C2: ∀ W,Ext w W→Calls Tryz.prog 102 #[.agg (zT cs2 s2).toArray] W fun e W'=>e=.returned (.int .i64 (yC cs2 xs2))∧Ext W W':=fun W h=>zBK cs2 xs2 s2 W l2 (hs2.ext h)
 rw[z1] at C1
 rw[z2] at C2
 exact zPA _ _ (zT cs1 s1) (zT cs2 s2) A n c bs nn m0 W hs hA hlt hn (zAS hm h) h1 h2
  (fun D b p hp=>by cases b;exact zJP cs2 xs2 l2 z2 D p hp;exact zJP cs1 xs1 l1 z1 D p hp) (tbl_rng z1) (tbl_rng z2) o1 o2 (fun W' h'=>C1 W' (h.trans h')) (fun W' h'=>C2 W' (h.trans h'))
  (fun W' h'=>zCj cs1 xs1 s1 W' l1 ((hs1.ext h).ext h') z1) (fun W' h'=>zCj cs2 xs2 s2 W' l2 ((hs2.ext h).ext h') z2)
theorem piecesD (cs1 xs1 cs2 xs2:List Int) (s1 s2:Value) (l1:cs1.length=16) (l2:cs2.length=16) (z1:yC cs1 xs1=0) (z2:yC cs2 xs2=0) (A:Option Addr) (n c:Nat) (bs:List Nat) (N E:Nat) (hlt: ∀ b∈bs,b<256) (hn:n≤1048576) (hN:N≤400) (hE:E≤100) (w:World) (hs1:SL w 1 s1 xs1.length (ints xs1)) (hs2:SL w 1 s2 xs2.length (ints xs2)) (hs:SL w 1 (.slice A n c) n (zD bs)) (W:World) (h:Ext w W):Calls Tryz.prog 109 #[.agg (zT cs1 s1++zT cs2 s2).toArray,.slice A n c,.int .i64 (N:Int),.int .i64 (E:Int)] W (SpIsN (xN bs [] [] []) W):=by
 have hbl:bs.length=n:=by
  obtain⟨_,_,e,_,_,hl,_⟩:=hs
  simpa [zD] using hl
 have hs':SL w 1 (.slice A n c) bs.length (zD bs):=by rw[hbl];exact hs
 have h1:=zS cs1 s1 l1
 have h2:=zS cs2 s2 l2
 have o1:=zBl cs1 s1 hs1
 have o2:=zBl cs2 s2 hs2
 have C1: ∀ W,Ext w W→Calls Tryz.prog 102 #[.agg (zT cs1 s1).toArray] W fun e W'=>e=.returned (.int .i64 (yC cs1 xs1))∧Ext W W':=fun W h=>zBK cs1 xs1 s1 W l1 (hs1.ext h)
 have C2: ∀ W,Ext w W→Calls Tryz.prog 102 #[.agg (zT cs2 s2).toArray] W fun e W'=>e=.returned (.int .i64 (yC cs2 xs2))∧Ext W W':=fun W h=>zBK cs2 xs2 s2 W l2 (hs2.ext h)
 rw[z1] at C1
 rw[z2] at C2
 exact zPq _ _ _ bs (N:Int) (E:Int) W ⟨by omega,by omega⟩ ⟨by omega,by omega⟩ (hs'.ext h) hlt (by omega) h1 h2 o1 o2 (fun W' h'=>C1 W' (h.trans h')) (fun W' h'=>C2 W' (h.trans h'))
theorem scanD_any (cs1 xs1 cs2 xs2:List Int) (s1 s2:Value) (l1:cs1.length=16) (l2:cs2.length=16) (z1:yC cs1 xs1=0) (z2:yC cs2 xs2=0) (A:Option Addr) (n c:Nat) (bs:List Nat) (N E:Nat) (hlt: ∀ b∈bs,b<256) (hn:n≤1048576) (hN:N≤400) (hE:E≤100) (m0:Int) (w:World) (hm:w.cell? ⟨0,0,none⟩=some (.int .i64 m0)) (hs1:SL w 1 s1 xs1.length (ints xs1)) (hs2:SL w 1 s2 xs2.length (ints xs2)) (hs:SL w 1 (.slice A n c) n (zD bs)) (W:World) (h:Ext w W):Calls Tryz.prog 63 #[.agg (zT cs1 s1++zT cs2 s2).toArray,.slice A n c,.int .i64 (N:Int),.int .i64 (E:Int)] W (zCw (zAn (zM (zG cs1 16) xs1) (zM (zG cs2 16) xs2) N E bs) W):=by
 have hsz:=zCY (zS cs1 s1 l1) (zS cs2 s2 l2)
 have K1:=piecesD cs1 xs1 cs2 xs2 s1 s2 l1 l2 z1 z2 A n c bs N E hlt hn hN hE w hs1 hs2 hs
 have S1:=segD_any cs1 xs1 cs2 xs2 s1 s2 l1 l2 z1 z2 m0 w hm hs1 hs2
 have hbl:bs.length=n:=by
  obtain⟨_,_,e,_,_,hl,_⟩:=hs
  simpa [zD] using hl
 unfold zAn
 cases hsp:xN bs [] [] [] with
 | none =>
   rw[hsp] at K1
   exact zIk _ hsz _ _ _ 4 [] (by decide) W (fun W' h'=>whole_err _ hsz _ _ _ 4 (by decide) W' (fun W2 h2=>K1 W2 ((h.trans h').trans h2)))
 | some z =>
   obtain⟨P,M⟩:=z
   rw[hsp] at K1
   have hl:=zJc bs [] [] [] _ hsp
   simp only[wL7] at hl
   have hPM:=zJq (B:=1048576) bs [] [] [] _ hsp (fun _ h=>by cases h) (by simp;omega) (fun _ h=>by cases h) hlt
   have hP:P.length≤100000000:=by omega
   have hM:M.length≤100000000:=by omega
   dsimp only at hPM ⊢
   have WH: ∀ W',Ext W W'→Calls Tryz.prog 122 #[.agg (zT cs1 s1++zT cs2 s2).toArray,.slice A n c,.int .i64 (N:Int),.int .i64 (E:Int)] W' (WhIs (zAy N E P M) P W'):=fun W' h'=>zRL _ hsz _ N E (by omega) (by omega) P M hM hP W' (fun W2 h2=>K1 W2 ((h.trans h').trans h2))
   by_cases hw:zAy N E P M=0
   ·rw[if_neg (by simp[hw])]
    rw[hw] at WH
    have hK:P.length=yK N E:=by
     unfold zAy at hw
     by_cases h:P.length≠yK N E
     ·rw[if_pos h] at hw;cases hw
     ·omega
    exact zNX _ _ _ hsz _ N E hN hE P hK hPM W WH (fun W' A' m c' bs' nn' h' q1 q2 q3 q4=>S1 W' A' m c' bs' nn' (h.trans h') q1 q2 q3 q4)
   ·rw[if_pos hw]
    exact zIk _ hsz _ _ _ _ P hw W WH
def PdOf (q:List Int) (a b p:Nat) (r:Int×List Int) (w:World) (e:Ending) (w':World):Prop:=if r.1=0 then PdIs 0 a b (zCo q r.2 a b p) w e w' else PdIs r.1 0 0 [] w e w'
theorem zOE {T1 T2:List Tok} {N E:Nat} {bs:List Nat} (h:(zAn T1 T2 N E bs).1=0):(zAn T1 T2 N E bs).2.length=N*64:=by
 unfold zAn at h ⊢
 cases hsp:xN bs [] [] [] with
 | none=>rw[hsp] at h;cases h
 | some z =>
   obtain⟨P,M⟩:=z
   rw[hsp] at h
   dsimp only at h ⊢
   by_cases hw:zAy N E P M=0
   ·rw[if_neg (by simp[hw])] at h ⊢
    have:=zOS (yK N E) 0 [] (by simp) (by rw[atK_0];rfl) h
    rwa [wB2,atK_end] at this
   ·rw[if_pos hw] at h
    exact absurd h hw
theorem zQk (F:FC) (hF:F.shaped) (hz:F.chk=0) (s1 s2:Value) (A:Option Addr) (n c:Nat) (hn:F.data.length=n) (hlt: ∀ b∈F.data,b<256) (m0:Int) (w:World) (hm:w.cell? ⟨0,0,none⟩=some (.int .i64 m0)) (ha:F.at_ w s1 s2 (.slice A n c)) (a b p e:Nat) (ea:F.wd=a) (eb:F.hi=b) (ep:F.pt=p) (ee:F.ev=e) (W:World) (h:Ext w W):Calls Tryz.prog 27 #[.agg (F.cells s1 s2 (.slice A n c))] W (PdOf F.qs a b p (zAn (zM (zG F.cs1 16) F.xs1) (zM (zG F.cs2 16) F.xs2) (yY a b*p) e F.data) W):=by
 have C1:=fun W (h:Ext w W)=>F.check hF s1 s2 (.slice A n c) W (ha.ext h)
 rw[hz] at C1
 obtain⟨a',b',p',ea',eb',ep',a1,a2,b1,b2,hp13,hev0,hev1,hq,z1,z2,hd⟩:=zPQ hz
 obtain rfl:a=a':=by omega
 obtain rfl:b=b':=by omega
 obtain rfl:p=p':=by omega
 have h3:=ha.2.2
 rw[hn] at h3
 have hc:=zEt a2 b2
 have hm192:yY a b*p≤192:=wD1 (wI3 hc (show p≤3 by omega)) (by omega)
 have K1:=scanD_any F.cs1 F.xs1 F.cs2 F.xs2 s1 s2 hF.2.1 hF.2.2 z1 z2 A n c F.data (yY a b*p) e hlt (by omega) (by omega) (by omega) m0 w hm ha.1 ha.2.1 h3
 have hL:=zOE (T1:=zM (zG F.cs1 16) F.xs1) (T2:=zM (zG F.cs2 16) F.xs2) (N:=yY a b*p) (E:=e) (bs:=F.data)
 generalize zAn (zM (zG F.cs1 16) F.xs1) (zM (zG F.cs2 16) F.xs2) (yY a b*p) e F.data=r at *
 obtain⟨r1,X⟩:=r
 unfold PdOf
 dsimp only at hL ⊢
 by_cases h0:r1=0
 ·subst h0
  refine Calls.mono ?_ (fun e' w' h'=>Eq.mpr (if_pos rfl) h')
  exact zMv F hF s1 s2 A n c e a b p (yY a b) (yY a b*p) ea eb ep ee a1 a2 b1 b2 hp13 rfl rfl W (fun W' h'=>C1 W' (h.trans h')) X (hL rfl) (fun W' h'=>K1 W' (h.trans h'))
 ·refine Calls.mono ?_ (fun e' w' h'=>Eq.mpr (if_neg h0) h')
  exact zOZ F hF s1 s2 A n c e a b p (yY a b) (yY a b*p) ea eb ep ee a1 a2 b1 b2 hp13 rfl rfl W (fun W' h'=>C1 W' (h.trans h')) r1 X h0 (fun W' h'=>K1 W' (h.trans h'))
def wkC:List Int:=1::List.replicate 255 0
def wkT:List Int:=1::List.replicate 15 0
def wkF:FC:=⟨2,1,1,List.replicate 64 1,wkT,[0],wkT,[0],3,[63]⟩
theorem wk_frames:zX 2 1 [[128,128]] (List.replicate 64 1)=(0,1,List.replicate 64 0):=by decide+kernel
theorem wk_counts:jS 1 3 (List.replicate 64 0) (yK 1 3)=(wkC,wkC):=by decide+kernel
theorem wk_check:zAU wkC=0:=by decide+kernel
theorem wk_sing:BM.singN wkC wkC.length=[BM.zP,(1,[0])]:=by decide+kernel
theorem zNu {cs xs:List Int} (h:zDL wkC cs xs):cs=wkT∧xs=[0]:=by
 obtain⟨h1,h2⟩:=BM.made_one (h.1 wk_check) wk_sing
 exact⟨h1.trans (by decide+kernel),h2.trans (by decide+kernel)⟩
theorem wk_scan:zBE wkT [0] wkT [0] 3 1 (List.replicate 64 0)=(0,[63]):=by decide+kernel
theorem zET:wkF.shaped:=⟨rfl,rfl,rfl⟩
theorem wk_enc {E:Int} {F:FC} (h:EncF 2 1 [[128,128]] (List.replicate 64 1) 3 E F):E=0∧F=wkF:=by
 unfold EncF at h
 rw[wk_frames,if_neg (by simp),if_neg (by omega)] at h
 obtain⟨cs1,xs1,cs2,xs2,t1,t2,l1,l2,hE,hF⟩:=h
 dsimp only at t1 t2 hE hF
 rw[show (3:Int).toNat=3 from rfl,wk_counts] at t1 t2
 obtain⟨rfl,rfl⟩:=zNu t1
 obtain⟨rfl,rfl⟩:=zNu t2
 rw[wk_scan] at hE hF
 subst hE
 exact⟨rfl,by rw[hF,if_pos rfl];rfl⟩
theorem wk_chk:wkF.chk=0:=by decide+kernel
theorem zOa:wkF.packE=0:=by decide+kernel
theorem wk_parsed:jD wkF.packL=wkF:=by kernel_rfl
theorem wk_parse:vP wkF.packL=(wkF,0):=by
 unfold vP
 rw[if_neg (by decide+kernel),if_neg (by decide+kernel),wk_parsed,if_pos ⟨zOa,rfl⟩]
theorem wk_dec:zAn (zM (zG wkT 16) [0]) (zM (zG wkT 16) [0]) (yY 2 1*1) 3 [63]=(0,List.replicate 64 0):=by
 have z:yC wkT [0]=0:=by decide+kernel
 have hs:zCF (zM (zG wkT 16) [0]) (zM (zG wkT 16) [0]) 1 3 (List.replicate 64 0)=(0,[63]):=by
  have:=wk_scan
  unfold zBE at this
  rw[if_neg (by omega),if_neg (by unfold twoE;rw[if_pos z,z];simp)] at this
  exact this
 obtain⟨-, -,h⟩:=scan_back (cs1:=wkT) (xs1:=[0]) (cs2:=wkT) (xs2:=[0]) rfl rfl z z (n:=1) (e:=3) (Z:=List.replicate 64 0) rfl (by rw[hs])
 rw[hs] at h
 exact h
theorem wk_show:zCo (List.replicate 64 1) (List.replicate 64 0) 2 1 1=[[128,128]]:=by decide+kernel
end Go.Proofs.YtkggcjdlpendfaaGreatDoor
