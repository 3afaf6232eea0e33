import Derived.Test.YtkggcjdlpendfaaGreatDoorMTopFewestCard22
set_option linter.all false
set_option maxRecDepth 20000
set_option maxHeartbeats 8000000
namespace Go.Proofs.YtkggcjdlpendfaaGreatDoor
open Go.RowKit
section
attribute [local irreducible] zDZ
def zPt (F:FC) (hF:F.shaped) (s1 s2:Value) (A:Option Addr) (n c:Nat) (ev:Int) (a b p nb m:Nat) (hw:F.wd=a) (hh:F.hi=b) (hp:F.pt=p) (he:F.ev=ev) (a1:1≤a) (a2:a≤64) (b1:1≤b) (b2:b≤64) (hp13:p=1∨p=3) (hnb:qD a b=nb) (hm:nb*p=m) (w:World)
 (HC: ∀ W,Ext w W→Calls Tryz.prog 50 #[.agg (F.cells s1 s2 (.slice A n c))] W fun e W'=>e=.returned (.int .i64 0)∧Ext W W')
 (r1:Int) (X:List Int) (h1:r1≠0) (HK: ∀ W,Ext w W→Calls Tryz.prog 63 #[.agg (zQ F.cs1 s1++zQ F.cs2 s2).toArray,.slice A n c,.int .i64 (m:Int),.int .i64 ev] W (zDV (r1,X) W)) :
 Calls Tryz.prog 27 #[.agg (F.cells s1 s2 (.slice A n c))] w (PdIs r1 0 0 [] w):=by
 have HF:=zA (fun W g (h:Blk W g 47 (F.cells s1 s2 (.slice A n c)))=>zBu h hF.1 (zU _ _ hF.2.1) (zU _ _ hF.2.2));have hts:=zA (FC.size hF s1 s2 (.slice A n c));have HC:=zA HC;have HK:=zA HK;have hT:(zQ F.cs1 s1++zQ F.cs2 s2).length=34:=by rw[wF3,zU _ _ hF.2.1,zU _ _ hF.2.2]
 have HT34:Hid ((Tryz.prog.info? 44).map (·.size)=some (zQ F.cs1 s1++zQ F.cs2 s2).length):=zA (by rw[hT];exact qP);have HS:=zA (fun W=>zNr F hF s1 s2 (.slice A n c) a b p nb m hw hh hp a1 a2 b1 b2 hp13 hnb hm W);rw[hw,hh,hp,he] at HF
 have hm192:m≤192:=by
  have h1:=zGQ a2 b2;rw[hnb] at h1;rw[←hm];exact wD1 (wI6 h1 (show p≤3 by omega)) (by omega)
 have HMN:=zA hm;have HPSZ:=zA (fun a b v=>vX a b v);have HP1:=zA (fun a b A n c=>zFE a b A n c);have HZP:=zHU;have hz0s:Hid ((Value.agg (xG 0 0 (.slice none 0 0))).cells.size=3):=zA rfl;have HPB:=zA zLH;have hpo:=zA (zFE 0 0 none 0 0);have hps:=zA (vX 0 0 (.slice none 0 0))
 have HRA:Hid (∀ W e W',zDV (r1,X) W e W'→e=.returned (.tuple #[.slice none 0 0,.int .i64 r1])∧Ext W W'):=zA (fun W e W' h=>by
  obtain⟨hx,h⟩:=h;rw[if_neg h1] at h
  exact⟨h,hx⟩)
 have HR:Hid (∀ W,Ext w W→PdIs r1 0 0 [] w (.returned (.tuple #[.agg (xG 0 0 (.slice none 0 0)),.int .i64 r1])) W):=zA (fun W h=>⟨none,0,0,rfl,RowsS.nil W,h⟩);have hne:(r1 !=0)=true:=by simpa using h1
 generalize F.cells s1 s2 (.slice A n c)=fv at *;obtain⟨tt,htt⟩: ∃ tt,(zQ F.cs1 s1++zQ F.cs2 s2).toArray=tt:=⟨_,rfl⟩
 have HTT:=zA htt;rw[htt] at HK;clear htt hT hm hw hh hp he hnb hF h1;generalize xG 0 0 (.slice none 0 0)=pz at *;go_enter Tryz.func27,Tryz.ntmps27
 go_upto_region 4 with (first
  | ((with_reducible apply gS 1);refine wBox rfl 47 (.tmp 0) rfl fv rfl ?_;intro w1 gf hb1 hx1 hgf)
  | ((with_reducible apply gS 2);refine wAlo' rfl (some 2) rfl 31 rfl _ HZP ?_;intro w2 gp hp2 hx2 hgp;have hb2:=hb1.ext hx2;have hx12:=hx1.trans hx2)
  | ((with_reducible apply gS 7);refine wLdB rfl 47 (.tmp 1) rfl gf rfl hb2 _ Tryz.underlying47 rfl 103 yQ hts.out ?_)
  | (go_at_call 50;(with_reducible refine (HC.out _ hx12).mono ?_);rintro e w3 ⟨rfl,hx3'⟩;have hp3:=hp2.ext hx3';have hb3:=hb2.ext hx3';have hx3:=hx12.trans hx3'))
 have hx8d:Ext w w3.drew:=hx3.drew;have hbd:Blk w3.drew gf 47 fv:=hb3.drew;have HGX:=zA (fun W (h:Ext w3.drew W)=>HF.out _ _ (hbd.ext h));have HGB:=zA (fun W (h:Ext w3.drew W)=>hbd.ext h);have hI:Ext w3.drew w3.drew:=Ext.refl _;refine jA (Ext w3.drew) (by kernel_rfl) ?_;refine zJ (k:=0) (by kernel_rfl) rfl (by rfl) (.pointer (some ⟨gf,67,none⟩)) (fun w=>by go_simp) hI ?_;simp only[sP,sB,sC];refine xM (k:=1) (by kernel_rfl) rfl (by rfl) (.agg tt) (fun W hW=>HTT.out ▸ zDW rfl rfl (HGX.out W hW).tt Tryz.underlying44 rfl HT34.out) hI ?_;simp only[Act.put,sA,sB,sC];refine zJ (k:=2) (by kernel_rfl) rfl (by rfl) (.pointer (some ⟨gf,102,none⟩)) (fun w=>by go_simp) hI ?_;simp only[sP,sB,sC];refine xM (k:=3) (by kernel_rfl) rfl (by rfl) (.slice A n c) (fun W hW=>zCt rfl rfl (HGX.out W hW).c102) hI ?_;simp only[Act.put,sA,sB,sC];refine xM (k:=4) (by kernel_rfl) rfl (by rfl) (.agg fv) (fun W hW=>zAj rfl rfl (HGB.out W hW) Tryz.underlying47 rfl yQ hts.out) hI ?_;simp only[Act.put,sA,sB,sC];refine zJ (k:=6) (by kernel_rfl) rfl (by rfl) (.pointer (some ⟨gf,101,none⟩)) (fun w=>by go_simp) hI ?_;simp only[sP,sB,sC];refine xM (k:=7) (by kernel_rfl) rfl (by rfl) (.int .i64 ev) (fun W hW=>zV rfl rfl (HGX.out W hW).c101) hI ?_;simp only[Act.put,sA,sB,sC];refine qO (k:=5) (by kernel_rfl) rfl ?_;refine xP (by rfl) (xQ _ _ _ rfl rfl zNo #[.agg fv] (by simp[Act.eval])) ?_;refine (HS.out _).mono ?_;rintro e4 w4 ⟨rfl,hx4⟩;refine⟨_,rfl,zX ⟨hx4, ?_⟩⟩;simp only[Act.put,sA,sB,sC];refine qO (k:=8) (by kernel_rfl) rfl ?_;refine xP (by rfl) (xQ _ _ _ rfl rfl zKJ #[.agg tt,.slice A n c,.int .i64 (m:Int),.int .i64 ev] (by simp[Act.eval])) ?_;refine (HK.out _ (hx8d.trans hx4)).mono ?_;intro e5 w5 h5;obtain⟨rfl,hx5⟩:=HRA.out _ _ _ h5;have hx45:=hx4.trans hx5;refine⟨_,rfl,zX ⟨hx45, ?_⟩⟩;simp only[Act.put,sA,sB,sC];refine zJ (k:=9) (by kernel_rfl) rfl (by rfl) (.tuple #[.slice none 0 0,.int .i64 r1]) (zC rfl rfl) hx45 ?_;simp only[sP,sB,sC];refine zJ (k:=10) (by kernel_rfl) rfl (by rfl) (.slice none 0 0) (xB rfl rfl rfl) hx45 ?_;simp only[sP,sB,sC];refine zJ (k:=11) (by kernel_rfl) rfl (by rfl) (.int .i64 r1) (xB rfl rfl rfl) hx45 ?_;simp only[sP,sB,sC];refine zJ (k:=12) (by kernel_rfl) rfl (by rfl) (.slice none 0 0) (zW rfl rfl) hx45 ?_;simp only[sP,sB,sC];refine zJ (k:=13) (by kernel_rfl) rfl (by rfl) (.int .i64 r1) (zW rfl rfl) hx45 ?_;simp only[sP,sB,sC];refine uX (by kernel_rfl) ?_;have hx05:=hx8d.trans hx45;have hb5:=hbd.ext hx45;have hp5:=hp3.drew.ext hx45
 go_wp2_with (first
  | ((with_reducible apply gS 26);refine zB rfl (.bool true) (jZ rfl rfl rfl hne) ?_)
  | ((with_reducible apply gS 27);refine jN (by rfl) 31 rfl _ HPB.out ?_)
  | ((with_reducible apply gT 2 27);refine wStB rfl 31 (.tmp 2) (.tmp 27) rfl gp pz rfl rfl hp5 3 jT hps.out hz0s.out hpo.out ?_;intro w7 hb7 hg7;have hx7:=hx05.grown hg7 (by have:=hx1.size;omega)))
 exact yK rfl rfl gp rfl hb7 _ Tryz.underlying31 rfl 3 jT hps.out (HR.out _ hx7)
def zOp (F:FC) (hF:F.shaped) (s1 s2:Value) (A:Option Addr) (n c:Nat) (ev:Int) (a b p nb m:Nat) (hw:F.wd=a) (hh:F.hi=b) (hp:F.pt=p) (he:F.ev=ev) (a1:1≤a) (a2:a≤64) (b1:1≤b) (b2:b≤64) (hp13:p=1∨p=3) (hnb:qD a b=nb) (hm:nb*p=m) (w:World)
 (HC: ∀ W,Ext w W→Calls Tryz.prog 50 #[.agg (F.cells s1 s2 (.slice A n c))] W fun e W'=>e=.returned (.int .i64 0)∧Ext W W')
 (X:List Int) (hX:X.length=m*64) (HK: ∀ W,Ext w W→Calls Tryz.prog 63 #[.agg (zQ F.cs1 s1++zQ F.cs2 s2).toArray,.slice A n c,.int .i64 (m:Int),.int .i64 ev] W (zDV (0,X) W)) :
 Calls Tryz.prog 27 #[.agg (F.cells s1 s2 (.slice A n c))] w (PdIs 0 a b (zDZ F.qs X a b p) w):=by
 have HF:=zA (fun W g (h:Blk W g 47 (F.cells s1 s2 (.slice A n c)))=>zBu h hF.1 (zU _ _ hF.2.1) (zU _ _ hF.2.2));have hts:=zA (FC.size hF s1 s2 (.slice A n c));have HC:=zA HC;have HK:=zA HK;have hT:(zQ F.cs1 s1++zQ F.cs2 s2).length=34:=by rw[wF3,zU _ _ hF.2.1,zU _ _ hF.2.2]
 have HT34:Hid ((Tryz.prog.info? 44).map (·.size)=some (zQ F.cs1 s1++zQ F.cs2 s2).length):=zA (by rw[hT];exact qP);have HS:=zA (fun W=>zNr F hF s1 s2 (.slice A n c) a b p nb m hw hh hp a1 a2 b1 b2 hp13 hnb hm W);have HSH:=zA (fun LA lc W (h:SL W 64 (.slice LA m lc) m (ints X))=>shown_any F hF s1 s2 (.slice A n c) a b p hw hh hp a1 a2 b1 b2 hp13 LA m lc X (by rw[←hm,hnb,wJ2]) W h);unfold PicIs at HSH;rw[hw,hh,hp,he] at HF
 have hm192:m≤192:=by
  have h1:=zGQ a2 b2;rw[hnb] at h1;rw[←hm];exact wD1 (wI6 h1 (show p≤3 by omega)) (by omega)
 have HMN:=zA hm;have HPSZ:=zA (fun a b v=>vX a b v);have HP1:=zA (fun a b A n c=>zFE a b A n c);have HZP:=zHU;have hz0s:Hid ((Value.agg (xG 0 0 (.slice none 0 0))).cells.size=3):=zA rfl;have HPB:=zA zLH;have hpo:=zA (zFE 0 0 none 0 0);have hps:=zA (vX 0 0 (.slice none 0 0))
 have HRA:Hid (∀ W e W',zDV (0,X) W e W'→ ∃ B k,e=.returned (.tuple #[.slice B m k,.int .i64 0])∧SL W' 64 (.slice B m k) m (ints X)∧Ext W W'):=zA (fun W e W' h=>by
  obtain⟨hx,h⟩:=h;rw[if_pos rfl] at h;obtain⟨B,k,d,rfl,h1,h2, -⟩:=h;dsimp only at h1;obtain rfl:k=m:=by omega
  exact⟨B,d,rfl,h2,hx⟩)
 have HR:Hid (∀ W B k d,RowsS W B k d (zDZ F.qs X a b p)→Ext w W→PdIs 0 a b (zDZ F.qs X a b p) w (.returned (.tuple #[.agg (xG a b (.slice B k d)),.int .i64 0])) W):=zA (fun W B k d h1 h=>⟨B,k,d,rfl,h1,h⟩);generalize zDZ F.qs X a b p=SZ at *;generalize F.cells s1 s2 (.slice A n c)=fv at *;obtain⟨tt,htt⟩: ∃ tt,(zQ F.cs1 s1++zQ F.cs2 s2).toArray=tt:=⟨_,rfl⟩
 have HTT:=zA htt;rw[htt] at HK;clear htt hT hm hw hh hp he hnb hF hX;generalize xG 0 0 (.slice none 0 0)=pz at *;go_enter Tryz.func27,Tryz.ntmps27
 go_upto_region 4 with (first
  | ((with_reducible apply gS 1);refine wBox rfl 47 (.tmp 0) rfl fv rfl ?_;intro w1 gf hb1 hx1 hgf)
  | ((with_reducible apply gS 2);refine wAlo' rfl (some 2) rfl 31 rfl _ HZP ?_;intro w2 gp hp2 hx2 hgp;have hb2:=hb1.ext hx2;have hx12:=hx1.trans hx2)
  | ((with_reducible apply gS 7);refine wLdB rfl 47 (.tmp 1) rfl gf rfl hb2 _ Tryz.underlying47 rfl 103 yQ hts.out ?_)
  | (go_at_call 50;(with_reducible refine (HC.out _ hx12).mono ?_);rintro e w3 ⟨rfl,hx3'⟩;have hp3:=hp2.ext hx3';have hb3:=hb2.ext hx3';have hx3:=hx12.trans hx3'))
 have hx8d:Ext w w3.drew:=hx3.drew;have hbd:Blk w3.drew gf 47 fv:=hb3.drew;have HGX:=zA (fun W (h:Ext w3.drew W)=>HF.out _ _ (hbd.ext h));have HGB:=zA (fun W (h:Ext w3.drew W)=>hbd.ext h);have hI:Ext w3.drew w3.drew:=Ext.refl _;refine jA (Ext w3.drew) (by kernel_rfl) ?_;refine zJ (k:=0) (by kernel_rfl) rfl (by rfl) (.pointer (some ⟨gf,67,none⟩)) (fun w=>by go_simp) hI ?_;simp only[sP,sB,sC];refine xM (k:=1) (by kernel_rfl) rfl (by rfl) (.agg tt) (fun W hW=>HTT.out ▸ zDW rfl rfl (HGX.out W hW).tt Tryz.underlying44 rfl HT34.out) hI ?_;simp only[Act.put,sA,sB,sC];refine zJ (k:=2) (by kernel_rfl) rfl (by rfl) (.pointer (some ⟨gf,102,none⟩)) (fun w=>by go_simp) hI ?_;simp only[sP,sB,sC];refine xM (k:=3) (by kernel_rfl) rfl (by rfl) (.slice A n c) (fun W hW=>zCt rfl rfl (HGX.out W hW).c102) hI ?_;simp only[Act.put,sA,sB,sC];refine xM (k:=4) (by kernel_rfl) rfl (by rfl) (.agg fv) (fun W hW=>zAj rfl rfl (HGB.out W hW) Tryz.underlying47 rfl yQ hts.out) hI ?_;simp only[Act.put,sA,sB,sC];refine zJ (k:=6) (by kernel_rfl) rfl (by rfl) (.pointer (some ⟨gf,101,none⟩)) (fun w=>by go_simp) hI ?_;simp only[sP,sB,sC];refine xM (k:=7) (by kernel_rfl) rfl (by rfl) (.int .i64 ev) (fun W hW=>zV rfl rfl (HGX.out W hW).c101) hI ?_;simp only[Act.put,sA,sB,sC];refine qO (k:=5) (by kernel_rfl) rfl ?_;refine xP (by rfl) (xQ _ _ _ rfl rfl zNo #[.agg fv] (by simp[Act.eval])) ?_;refine (HS.out _).mono ?_;rintro e4 w4 ⟨rfl,hx4⟩;refine⟨_,rfl,zX ⟨hx4, ?_⟩⟩;simp only[Act.put,sA,sB,sC];refine qO (k:=8) (by kernel_rfl) rfl ?_;refine xP (by rfl) (xQ _ _ _ rfl rfl zKJ #[.agg tt,.slice A n c,.int .i64 (m:Int),.int .i64 ev] (by simp[Act.eval])) ?_;refine (HK.out _ (hx8d.trans hx4)).mono ?_;intro e5 w5 h5;obtain⟨B5,d5,rfl,hs5,hx5⟩:=HRA.out _ _ _ h5;have hx45:=hx4.trans hx5;refine⟨_,rfl,zX ⟨hx45, ?_⟩⟩;simp only[Act.put,sA,sB,sC];refine zJ (k:=9) (by kernel_rfl) rfl (by rfl) (.tuple #[.slice B5 m d5,.int .i64 0]) (zC rfl rfl) hx45 ?_;simp only[sP,sB,sC];refine zJ (k:=10) (by kernel_rfl) rfl (by rfl) (.slice B5 m d5) (xB rfl rfl rfl) hx45 ?_;simp only[sP,sB,sC];refine zJ (k:=11) (by kernel_rfl) rfl (by rfl) (.int .i64 0) (xB rfl rfl rfl) hx45 ?_;simp only[sP,sB,sC];refine zJ (k:=12) (by kernel_rfl) rfl (by rfl) (.slice B5 m d5) (zW rfl rfl) hx45 ?_;simp only[sP,sB,sC];refine zJ (k:=13) (by kernel_rfl) rfl (by rfl) (.int .i64 0) (zW rfl rfl) hx45 ?_;simp only[sP,sB,sC];refine uX (by kernel_rfl) ?_;have hx05:=hx8d.trans hx45;have hb5:=hbd.ext hx45;have hp5:=hp3.drew.ext hx45
 go_wp2_with (first
  | ((with_reducible apply gS 29);refine wLdB rfl 47 (.tmp 1) rfl gf rfl hb5 _ Tryz.underlying47 rfl 103 yQ hts.out ?_)
  | (go_at_call 57;(with_reducible refine (HSH.out _ _ _ hs5).mono ?_);rintro e w6 ⟨B6,k6,d6,rfl,hr6,hx6⟩;have hp6:=hp5.ext hx6;have hx06:=hx05.trans hx6)
  | ((with_reducible apply gT 2 31);refine wStB rfl 31 (.tmp 2) (.tmp 31) rfl gp (xG a b (.slice B6 k6 d6)) rfl rfl hp6 3 jT (HPSZ.out _ _ _) hz0s.out (HP1.out _ _ _ _ _) ?_;intro w7 hb7 hg7;have hx7:=hx06.grown hg7 (by have:=hx1.size;omega);have hu7:=zO hg7))
 have hgpw:gp<w3.heap.size:=hp3.lt;have hr7:=rows_far hr6 (zO hg7) (fun x e=>by injection e with e;rw[←e];exact wA1 hgpw (by have h1:=hx45.size;have h2:=hx8d.size;exact h1));exact yK rfl rfl gp rfl hb7 _ Tryz.underlying31 rfl 3 jT (HPSZ.out _ _ _) (HR.out _ _ _ _ hr7 hx7)
end
def zOf (A B:Option Addr) (n c d:Nat) (L:List (List Int)) (w:World) (hu:RowsS w A n c L) (hv:RowsS w B n d L) :
 Calls Tryz.prog 62 #[.slice A n c,.slice B n d] w fun e w'=>e=.returned (.bool true)∧Ext w w':=by
 have hc1:=hu.cap;have hd1:=hv.cap;have e1:((n:Int) !=(n:Int))=false:=by simp
 go_enter Tryz.func62,Tryz.ntmps62;go_wp2_with fail
 go_loopw [13] (fun i wr=> ∃ k:Nat,k≤n∧i=.int .i64 (k:Int)∧Ext w wr) (fun i _=>n-(intOf i).toNat)
 case atStart=>exact⟨0,by omega,rfl,Ext.refl _⟩
 case round =>
  obtain⟨k,hk,rfl,hx⟩:=hrel
  by_cases hlt:k<n
  ·have hxd:Ext w wr.drew:=hx.drew;obtain⟨ad,l,A1,c1,rfl,hLk,hab,hca,hsA⟩:=(hu.ext hxd).get hlt;obtain⟨bd,l',A2,c2,rfl,hLk',hbb,hcb,hsB⟩:=(hv.ext hxd).get hlt;obtain rfl:l=l':=Option.some.inj (hLk.symm.trans hLk');have HEQ:=zA (fun W (x:SL W 1 (.slice A1 l.length c1) l.length (ints l)) (y:SL W 1 (.slice A2 l.length c2) l.length (ints l))=>eqInt_any _ _ l l W x y);rw[wL0 (rfl:l=l)] at HEQ;generalize ints l=il at *;generalize l.length=m at *
   have HCA: ∀ W,Ext wr.drew W→W.cell? (ad.add (k*1))=some (.slice A1 m c1):=fun W h=>by
    rw[wF1];exact (h.cell (by rw[yN];exact hab)).trans hca
   have HCB: ∀ W,Ext wr.drew W→W.cell? (bd.add (k*1))=some (.slice A2 m c2):=fun W h=>by
    rw[wF1];exact (h.cell (by rw[yN];exact hbb)).trans hcb
   go_wp2_with fail;refine qI qS (by kernel_rfl) (by kernel_rfl) ?_;refine zI (by rfl) (.slice (some ad) n c) (zC rfl rfl) ?_;simp only[sP,sB,sC];refine zI (by rfl) (.int .i64 ((k:Nat):Int)) (zC rfl rfl) ?_;simp only[sP,sB,sC];refine zI (by rfl) (.pointer (some (ad.add (k*1)))) (vJ Tryz.underlying29 zAb rfl rfl rfl hlt) ?_;simp only[sP,sB,sC];refine xL (by rfl) (.slice A1 m c1) (fun W hW=>vU rfl rfl (HCA W hW)) ?_;simp only[sP,sB,sC];refine zI (by rfl) (.slice (some bd) n d) (zC rfl rfl) ?_;simp only[sP,sB,sC];refine zI (by rfl) (.int .i64 ((k:Nat):Int)) (zC rfl rfl) ?_;simp only[sP,sB,sC];refine zI (by rfl) (.pointer (some (bd.add (k*1)))) (vJ Tryz.underlying29 zAb rfl rfl rfl hlt) ?_;simp only[sP,sB,sC];refine xL (by rfl) (.slice A2 m c2) (fun W hW=>vU rfl rfl (HCB W hW)) ?_;simp only[sP,sB,sC];refine zDn (by rfl) 26 Tryz.func26 rfl rfl _ _ rfl #[.slice A1 m c1,.slice A2 m c2] (by simp[Act.eval]) (.bool true) (fun W h=>(HEQ.out W (hsA.ext h) (hsB.ext h)).mono (fun e w' h=>by rw[←h.2];exact⟨h.1,Ext.refl _⟩)) ?_;simp only[sP,sB,sC];refine zI (by rfl) (.bool false) (zIX (b:=true) rfl rfl) ?_;simp only[sP,sB,sC];refine vH ?_;intro w9 hx9;go_wp2_with fail;go_roundw
   case rel=>exact⟨k+1,by omega,by go_num,hxd.trans hx9⟩
   case measure=>simp[intOf];omega
  ·go_wp2_with fail;go_ret;exact⟨rfl,hx⟩
def zMZ (wd hi:Int) (A B:Option Addr) (n c d:Nat) (L:List (List Int)) (w:World) (hu:RowsS w A n c L) (hv:RowsS w B n d L) :
 Calls Tryz.prog 25 #[.agg (xG wd hi (.slice A n c)),.agg (xG wd hi (.slice B n d))] w fun e w'=>e=.returned (.bool true)∧Ext w w':=by
 have HE:=zA (fun W (h:Ext w W)=>zOf A B n c d L W (hu.ext h) (hv.ext h));have HPC1:=zA (fun (W:World) g (h:Blk W g 31 (xG wd hi (.slice A n c)))=>zBH h);have HPC2:=zA (fun (W:World) g (h:Blk W g 31 (xG wd hi (.slice B n d)))=>zBH h);generalize xG wd hi (.slice A n c)=P1 at *;generalize xG wd hi (.slice B n d)=P2 at *;clear hu hv;go_enter Tryz.func25,Tryz.ntmps25
 go_wp2_with (first
  | ((with_reducible apply gS 2);refine wBox rfl 31 (.tmp 0) rfl P1 rfl ?_;intro w1 g1 hb1 hx1 hg1)
  | ((with_reducible apply gS 3);refine wBox rfl 31 (.tmp 1) rfl P2 rfl ?_;intro w2 g2 hb2 hx2 hg2;have hb12:=hb1.ext hx2;have r1:=HPC1.out _ _ hb12;have r2:=HPC2.out _ _ hb2;have hx12:=hx1.trans hx2)
  | ((with_reducible apply gS 6);refine xC rfl (.int .i64 wd) (zV rfl rfl r1.1) ?_)
  | ((with_reducible apply gS 8);refine xC rfl (.int .i64 wd) (zV rfl rfl r2.1) ?_)
  | ((with_reducible apply gS 9);refine zB rfl (.bool true) (jQ rfl rfl rfl (by simp)) ?_)
  | ((with_reducible apply gS 12);refine zDC (by rfl) (.int .i64 hi) (zV rfl rfl r1.2.1) ?_)
  | ((with_reducible apply gS 14);refine zDC (by rfl) (.int .i64 hi) (zV rfl rfl r2.2.1) ?_)
  | ((with_reducible apply gS 15);refine xA (by rfl) (.bool true) (jQ rfl rfl rfl (by simp)) ?_)
  | ((with_reducible apply gS 19);refine zDC (by rfl) (.slice A n c) (zEN rfl rfl r1.2.2) ?_)
  | ((with_reducible apply gS 21);refine zDC (by rfl) (.slice B n d) (zEN rfl rfl r2.2.2) ?_)
  | (go_at_call 62;(with_reducible refine (HE.out _ hx12).mono ?_);rintro e w5 ⟨rfl,hx5⟩))
 go_ret;exact⟨rfl,hx12.trans hx5⟩
def FC.chk (F:FC):Int:=zDl F.wd F.hi F.pt F.qs (zT F.cs1 F.xs1) (zT F.cs2 F.xs2) F.ev F.data.length
def FC.check (F:FC) (hF:F.shaped) (s1 s2 sd:Value) (w:World) (ha:F.at_ w s1 s2 sd):Calls Tryz.prog 50 #[.agg (F.cells s1 s2 sd)] w fun e w'=>e=.returned (.int .i64 F.chk)∧Ext w w' :=
 zLa F.wd F.hi F.pt F.ev F.qs F.cs1 F.xs1 s1 F.cs2 F.xs2 s2 F.data sd w hF.1 hF.2.1 hF.2.2 ha.1 ha.2.1 ha.2.2
def segD_any (cs1 xs1 cs2 xs2:List Int) (s1 s2:Value) (l1:cs1.length=16) (l2:cs2.length=16) (z1:zT cs1 xs1=0) (z2:zT cs2 xs2=0) (m0:Int) (w:World) (hm:w.cell? ⟨0,0,none⟩=some (.int .i64 m0))
 (hs1:SL w 1 s1 xs1.length (ints xs1)) (hs2:SL w 1 s2 xs2.length (ints xs2)) (W:World) (A:Option Addr) (n c:Nat) (bs:List Nat) (nn:Int) (h:Ext w W) (hs:SL W 1 (.slice A n c) n (zF bs)) (hA:A=none→c=0) (hlt: ∀ b∈bs,b<256) (hn:n≤1048576) :
 Calls Tryz.prog 110 #[.agg (zQ cs1 s1++zQ cs2 s2).toArray,.slice A n c,.int .i64 nn] W (zDV (uT true (zL (zD cs1 16) xs1) (zL (zD cs2 16) xs2) nn (plZ bs)) W):=by
 have h1:=zU cs1 s1 l1;have h2:=zU cs2 s2 l2;have o1:=zCX cs1 s1 hs1;have o2:=zCX cs2 s2 hs2;have C1: ∀ W,Ext w W→Calls Tryz.prog 102 #[.agg (zQ cs1 s1).toArray] W fun e W'=>e=.returned (.int .i64 (zT cs1 xs1))∧Ext W W':=fun W h=>zAs cs1 xs1 s1 W l1 (hs1.ext h)
 have C2: ∀ W,Ext w W→Calls Tryz.prog 102 #[.agg (zQ cs2 s2).toArray] W fun e W'=>e=.returned (.int .i64 (zT cs2 xs2))∧Ext W W':=fun W h=>zAs cs2 xs2 s2 W l2 (hs2.ext h)
 rw[z1] at C1;rw[z2] at C2
 exact zQu _ _ (zQ cs1 s1) (zQ cs2 s2) A n c bs nn m0 W hs hA hlt hn (zAX hm h) h1 h2
  (fun D b p hp=>by cases b;exact zLb cs2 xs2 l2 z2 D p hp;exact zLb cs1 xs1 l1 z1 D p hp) (tbl_rng z1) (tbl_rng z2) o1 o2 (fun W' h'=>C1 W' (h.trans h')) (fun W' h'=>C2 W' (h.trans h'))
  (fun W' h'=>zDR cs1 xs1 s1 W' l1 ((hs1.ext h).ext h') z1) (fun W' h'=>zDR cs2 xs2 s2 W' l2 ((hs2.ext h).ext h') z2)
def piecesD (cs1 xs1 cs2 xs2:List Int) (s1 s2:Value) (l1:cs1.length=16) (l2:cs2.length=16) (z1:zT cs1 xs1=0) (z2:zT cs2 xs2=0) (A:Option Addr) (n c:Nat) (bs:List Nat) (N E:Nat) (hlt: ∀ b∈bs,b<256) (hn:n≤1048576) (hN:N≤400) (hE:E≤100) (w:World) (hs1:SL w 1 s1 xs1.length (ints xs1)) (hs2:SL w 1 s2 xs2.length (ints xs2)) (hs:SL w 1 (.slice A n c) n (zF bs)) (W:World) (h:Ext w W):Calls Tryz.prog 109 #[.agg (zQ cs1 s1++zQ cs2 s2).toArray,.slice A n c,.int .i64 (N:Int),.int .i64 (E:Int)] W (SpIsN (xY bs [] [] []) W):=by
 have hbl:bs.length=n:=by
  obtain⟨_,_,e,_,_,hl,_⟩:=hs;simpa [zF] using hl
 have hs':SL w 1 (.slice A n c) bs.length (zF bs):=by rw[hbl];exact hs
 have h1:=zU cs1 s1 l1;have h2:=zU cs2 s2 l2;have o1:=zCX cs1 s1 hs1;have o2:=zCX cs2 s2 hs2;have C1: ∀ W,Ext w W→Calls Tryz.prog 102 #[.agg (zQ cs1 s1).toArray] W fun e W'=>e=.returned (.int .i64 (zT cs1 xs1))∧Ext W W':=fun W h=>zAs cs1 xs1 s1 W l1 (hs1.ext h)
 have C2: ∀ W,Ext w W→Calls Tryz.prog 102 #[.agg (zQ cs2 s2).toArray] W fun e W'=>e=.returned (.int .i64 (zT cs2 xs2))∧Ext W W':=fun W h=>zAs cs2 xs2 s2 W l2 (hs2.ext h)
 rw[z1] at C1;rw[z2] at C2;exact zRT _ _ _ bs (N:Int) (E:Int) W ⟨by omega,by omega⟩ ⟨by omega,by omega⟩ (hs'.ext h) hlt (by omega) h1 h2 o1 o2 (fun W' h'=>C1 W' (h.trans h')) (fun W' h'=>C2 W' (h.trans h'))
def scanD_any (cs1 xs1 cs2 xs2:List Int) (s1 s2:Value) (l1:cs1.length=16) (l2:cs2.length=16) (z1:zT cs1 xs1=0) (z2:zT cs2 xs2=0) (A:Option Addr) (n c:Nat) (bs:List Nat) (N E:Nat) (hlt: ∀ b∈bs,b<256) (hn:n≤1048576) (hN:N≤400) (hE:E≤100) (m0:Int) (w:World) (hm:w.cell? ⟨0,0,none⟩=some (.int .i64 m0)) (hs1:SL w 1 s1 xs1.length (ints xs1)) (hs2:SL w 1 s2 xs2.length (ints xs2)) (hs:SL w 1 (.slice A n c) n (zF bs)) (W:World) (h:Ext w W):Calls Tryz.prog 63 #[.agg (zQ cs1 s1++zQ cs2 s2).toArray,.slice A n c,.int .i64 (N:Int),.int .i64 (E:Int)] W (zDV (zBQ (zL (zD cs1 16) xs1) (zL (zD cs2 16) xs2) N E bs) W):=by
 have hsz:=zDG (zU cs1 s1 l1) (zU cs2 s2 l2);have K1:=piecesD cs1 xs1 cs2 xs2 s1 s2 l1 l2 z1 z2 A n c bs N E hlt hn hN hE w hs1 hs2 hs;have S1:=segD_any cs1 xs1 cs2 xs2 s1 s2 l1 l2 z1 z2 m0 w hm hs1 hs2
 have hbl:bs.length=n:=by
  obtain⟨_,_,e,_,_,hl,_⟩:=hs;simpa [zF] using hl
 unfold zBQ
 cases hsp:xY bs [] [] [] with
 | none =>
   rw[hsp] at K1;exact zJs _ hsz _ _ _ 4 [] (by decide) W (fun W' h'=>whole_err _ hsz _ _ _ 4 (by decide) W' (fun W2 h2=>K1 W2 ((h.trans h').trans h2)))
 | some z =>
   obtain⟨P,M⟩:=z;rw[hsp] at K1;have hl:=zLZ bs [] [] [] _ hsp;simp only[wM9] at hl;have hPM:=zMR (B:=1048576) bs [] [] [] _ hsp (fun _ h=>by cases h) (by simp;omega) (fun _ h=>by cases h) hlt;have hP:P.length≤100000000:=by omega
   have hM:M.length≤100000000:=by omega
   dsimp only at hPM ⊢;have WH: ∀ W',Ext W W'→Calls Tryz.prog 122 #[.agg (zQ cs1 s1++zQ cs2 s2).toArray,.slice A n c,.int .i64 (N:Int),.int .i64 (E:Int)] W' (WhIs (zBg N E P M) P W'):=fun W' h'=>zTF _ hsz _ N E (by omega) (by omega) P M hM hP W' (fun W2 h2=>K1 W2 ((h.trans h').trans h2))
   by_cases hw:zBg N E P M=0
   ·rw[if_neg (by simp[hw])];rw[hw] at WH
    have hK:P.length=yG N E:=by
     unfold zBg at hw
     by_cases h:P.length≠yG N E
     ·rw[if_pos h] at hw;cases hw
     ·omega
    exact zPl _ _ _ hsz _ N E hN hE P hK hPM W WH (fun W' A' m c' bs' nn' h' q1 q2 q3 q4=>S1 W' A' m c' bs' nn' (h.trans h') q1 q2 q3 q4)
   ·rw[if_pos hw];exact zJs _ hsz _ _ _ _ P hw W WH
def PdOf (q:List Int) (a b p:Nat) (r:Int×List Int) (w:World) (e:Ending) (w':World):Prop:=if r.1=0 then PdIs 0 a b (zDZ q r.2 a b p) w e w' else PdIs r.1 0 0 [] w e w'
def zPY {T1 T2:List Tok} {N E:Nat} {bs:List Nat} (h:(zBQ T1 T2 N E bs).1=0):(zBQ T1 T2 N E bs).2.length=N*64:=by
 unfold zBQ at h ⊢
 cases hsp:xY bs [] [] [] with
 | none=>rw[hsp] at h;cases h
 | some z =>
   obtain⟨P,M⟩:=z;rw[hsp] at h;dsimp only at h ⊢
   by_cases hw:zBg N E P M=0
   ·rw[if_neg (by simp[hw])] at h ⊢;have:=zPg (yG N E) 0 [] (by simp) (by rw[atK_0];rfl) h
    rwa [wB2,atK_end] at this
   ·rw[if_pos hw] at h;exact absurd h hw
def zSQ (F:FC) (hF:F.shaped) (hz:F.chk=0) (s1 s2:Value) (A:Option Addr) (n c:Nat) (hn:F.data.length=n) (hlt: ∀ b∈F.data,b<256) (m0:Int) (w:World) (hm:w.cell? ⟨0,0,none⟩=some (.int .i64 m0)) (ha:F.at_ w s1 s2 (.slice A n c)) (a b p e:Nat) (ea:F.wd=a) (eb:F.hi=b) (ep:F.pt=p) (ee:F.ev=e) (W:World) (h:Ext w W):Calls Tryz.prog 27 #[.agg (F.cells s1 s2 (.slice A n c))] W (PdOf F.qs a b p (zBQ (zL (zD F.cs1 16) F.xs1) (zL (zD F.cs2 16) F.xs2) (qD a b*p) e F.data) W):=by
 have C1:=fun W (h:Ext w W)=>F.check hF s1 s2 (.slice A n c) W (ha.ext h)
 rw[hz] at C1;obtain⟨a',b',p',ea',eb',ep',a1,a2,b1,b2,hp13,hev0,hev1,hq,z1,z2,hd⟩:=zRW hz;obtain rfl:a=a':=by omega
 obtain rfl:b=b':=by omega
 obtain rfl:p=p':=by omega
 have h3:=ha.2.2;rw[hn] at h3;have hc:=zGQ a2 b2;have hm192:qD a b*p≤192:=wD1 (wI6 hc (show p≤3 by omega)) (by omega);have K1:=scanD_any F.cs1 F.xs1 F.cs2 F.xs2 s1 s2 hF.2.1 hF.2.2 z1 z2 A n c F.data (qD a b*p) e hlt (by omega) (by omega) (by omega) m0 w hm ha.1 ha.2.1 h3;have hL:=zPY (T1:=zL (zD F.cs1 16) F.xs1) (T2:=zL (zD F.cs2 16) F.xs2) (N:=qD a b*p) (E:=e) (bs:=F.data);generalize zBQ (zL (zD F.cs1 16) F.xs1) (zL (zD F.cs2 16) F.xs2) (qD a b*p) e F.data=r at *;obtain⟨r1,X⟩:=r;unfold PdOf;dsimp only at hL ⊢
 by_cases h0:r1=0
 ·subst h0;refine Calls.mono ?_ (fun e' w' h'=>Eq.mpr (if_pos rfl) h');exact zOp F hF s1 s2 A n c e a b p (qD a b) (qD a b*p) ea eb ep ee a1 a2 b1 b2 hp13 rfl rfl W (fun W' h'=>C1 W' (h.trans h')) X (hL rfl) (fun W' h'=>K1 W' (h.trans h'))
 ·refine Calls.mono ?_ (fun e' w' h'=>Eq.mpr (if_neg h0) h');exact zPt F hF s1 s2 A n c e a b p (qD a b) (qD a b*p) ea eb ep ee a1 a2 b1 b2 hp13 rfl rfl W (fun W' h'=>C1 W' (h.trans h')) r1 X h0 (fun W' h'=>K1 W' (h.trans h'))
def wkC:List Int:=1::List.replicate 255 0
def wkT:List Int:=1::List.replicate 15 0
def wkF:FC:=⟨2,1,1,List.replicate 64 1,wkT,[0],wkT,[0],3,[63]⟩
def wk_frames:zN 2 1 [[128,128]] (List.replicate 64 1)=(0,1,List.replicate 64 0):=by decide+kernel
def wk_counts:xI 1 3 (List.replicate 64 0) (yG 1 3)=(wkC,wkC):=by decide+kernel
def wk_check:qM wkC=0:=by decide+kernel
def wk_sing:BM.singN wkC wkC.length=[BM.zP,(1,[0])]:=by decide+kernel
def zQR {cs xs:List Int} (h:zDX wkC cs xs):cs=wkT∧xs=[0]:=by
 obtain⟨h1,h2⟩:=BM.made_one (h.1 wk_check) wk_sing;exact⟨h1.trans (by decide+kernel),h2.trans (by decide+kernel)⟩
def wk_scan:zBN wkT [0] wkT [0] 3 1 (List.replicate 64 0)=(0,[63]):=by decide+kernel
def zFc:wkF.shaped:=⟨rfl,rfl,rfl⟩
def wk_enc {E:Int} {F:FC} (h:zDb 2 1 [[128,128]] (List.replicate 64 1) 3 E F):E=0∧F=wkF:=by
 unfold zDb at h;rw[wk_frames,if_neg (by simp),if_neg (by omega)] at h;obtain⟨cs1,xs1,cs2,xs2,t1,t2,l1,l2,hE,hF⟩:=h;dsimp only at t1 t2 hE hF;rw[show (3:Int).toNat=3 from rfl,wk_counts] at t1 t2;obtain⟨rfl,rfl⟩:=zQR t1;obtain⟨rfl,rfl⟩:=zQR t2;rw[wk_scan] at hE hF;subst hE;exact⟨rfl,by rw[hF,if_pos rfl];rfl⟩
def wk_chk:wkF.chk=0:=by decide+kernel
def zPK:wkF.packE=0:=by decide+kernel
def wk_parsed:vA wkF.packL=wkF:=by kernel_rfl
def wk_parse:uM wkF.packL=(wkF,0):=by
 unfold uM;rw[if_neg (by decide+kernel),if_neg (by decide+kernel),wk_parsed,if_pos ⟨zPK,rfl⟩]
def wk_dec:zBQ (zL (zD wkT 16) [0]) (zL (zD wkT 16) [0]) (qD 2 1*1) 3 [63]=(0,List.replicate 64 0):=by
 have z:zT wkT [0]=0:=by decide+kernel
 have hs:zCM (zL (zD wkT 16) [0]) (zL (zD wkT 16) [0]) 1 3 (List.replicate 64 0)=(0,[63]):=by
  have:=wk_scan;unfold zBN at this;rw[if_neg (by omega),if_neg (by unfold twoE;rw[if_pos z,z];simp)] at this;exact this
 obtain⟨-, -,h⟩:=zOZ (cs1:=wkT) (xs1:=[0]) (cs2:=wkT) (xs2:=[0]) rfl rfl z z (n:=1) (e:=3) (Z:=List.replicate 64 0) rfl (by rw[hs]);rw[hs] at h;exact h
def wk_show:zDZ (List.replicate 64 1) (List.replicate 64 0) 2 1 1=[[128,128]]:=by decide+kernel
section
def zSW (W:World) (p:Addr) (A:Option Addr) (n c:Nat) (h:W.cell? p=some (.slice A n c)):(Instr.loadAt 29 (.pointer (some p))).run Tryz.prog W=.ok (.slice A n c) W:=by
 go_simp
def ex_loadRw {o:Oper} {a:Act} {x:Operand} (ho:o.op=.load 29 x) {p:Addr} (hx:a.eval x=.pointer (some p)) {A:Option Addr} {n c:Nat} {w:World} (h:w.cell? p=some (.slice A n c)):(execOp a.eval o).run Tryz.prog w=.ok (.value (.slice A n c)) w:=by
 simp[execOp,ho,hx,zSW w p A n c h]
def ex_lenRw {o:Oper} {a:Act} {x:Operand} (ho:o.op=.call { callee:=.builtin .len,args:= #[x],argTypes:= #[29] }) {A:Option Addr} {n c:Nat} (hx:a.eval x=.slice A n c) (w:World):(execOp a.eval o).run Tryz.prog w=.ok (.value (.int .i64 (n:Int))) w:=by
 simp[execOp,ho,resolve,invoke,builtin,hx,Result.andThen,Builtin.len_,goInt]
def zNd {o:Oper} {a:Act} {x0 x1 x2 x3 x5 x4:Operand} (ho:o.op=.build 47 #[(0,x0),(1,x1),(2,x2),(3,x3),(5,x5),(4,x4)]) {v0 v1 v2 v3 v5 v4:Value} (h0:a.eval x0=v0) (h1:a.eval x1=v1) (h2:a.eval x2=v2) (h3:a.eval x3=v3) (h5:a.eval x5=v5) (h4:a.eval x4=v4)
 {cs:Array Value} (hf:Tryz.prog.built 47 [(0,v0),(1,v1),(2,v2),(3,v3),(5,v5),(4,v4)]=some cs) (w:World):(execOp a.eval o).run Tryz.prog w=.ok (.value (.agg cs)) w:=by
 simp only[execOp,ho,Sem.run_bind,run_build w 47 (#[(0,x0),(1,x1),(2,x2),(3,x3),(5,x5),(4,x4)].map fun (i,x)=>(i,a.eval x)) cs (by simpa [h0,h1,h2,h3,h4,h5] using hf),Result.andThen_ok,Sem.run_pure]
def zPP (wd hi pt ev:Int) (q cs1 cs2:List Int) {w:World} {s1 s2:Value} {n1 n2:Nat} {xs1 xs2:List Value} (h1:SL w 1 s1 n1 xs1) (h2:SL w 1 s2 n2 xs2):(yY wd hi pt q (zQ cs1 s1) (zQ cs2 s2) ev (.slice none 0 0)).toArray.all (·.oneCell')=true:=by
 obtain⟨A,c,rfl, -⟩:=h1;obtain⟨B,d,rfl, -⟩:=h2;exact zDp ⟨wd,hi,pt,q,cs1,[],cs2,[],ev,[]⟩ A B none _ _ _ _ _ _
def zCr {S:Nat→Prop} {w w':World} {sz n:Nat} {v:Value} {xs:List Value} (h:SL w sz v n xs) (hu:Upd S w w') (hS: ∀ b,v.ownBlock=some b→ ¬S b):SL w' sz v n xs:=by
 have h':=h;obtain⟨A,c,rfl, -⟩:=h';exact SL.upd h hu (fun ad e=>hS ad.block (by rw[zBv,e];rfl))
def sl_old {w:World} {sz n g:Nat} {v:Value} {xs:List Value} (h:SL w sz v n xs) (hg:w.heap.size≤g):n=0∨ ∀ b,v.ownBlock=some b→b≠g:=by
 by_cases hn:n=0
 ·exact .inl hn
 ·have h':=h;obtain⟨A,c,rfl, -⟩:=h';obtain⟨ad,rfl,hb, -⟩:=h.part (k:=0) (by omega);refine .inr (fun b e=> ?_);have e':some ad.block=some b:=e;injection e' with e'
  omega
def zFQ {w w':World} {sz n g:Nat} {v:Value} {xs:List Value} (h:SL w sz v n xs) (hu:Upd (fun b=>b=g) w w') (hz:n=0∨ ∀ b,v.ownBlock=some b→b≠g):SL w' sz v n xs:=by
 rcases hz with hz | hz
 ·obtain⟨A,c,e,h1,h2,h3, -⟩:=h;exact⟨A,c,e,h1,h2,h3,fun h0=>absurd hz (by omega)⟩
 ·exact zCr h hu hz
def zMG (v:Value):Prop:= ∀ x,v≠.int .u8 x
def zSM {w:World} {g:Nat} {T:TypeId} {cs:Array Value} (hb:Blk w g T cs) (hc: ∀ v∈cs.toList,zMG v) {ad:Addr} {x:Int} (h:w.cell? ad=some (.int .u8 x)):ad.block≠g:=by
 rintro rfl;unfold World.cell? at h;unfold Blk at hb;rw[hb] at h;dsimp only at h;split at h
 ·cases h
 ·exact hc _ (by simpa using Array.mem_of_getElem? h) x rfl
def zRm (l:List Int): ∀ v∈ints l,zMG v:=by
 intro v hv x e;obtain⟨z, -,h⟩:=wD6.1 hv;rw[e] at h;cases h
def zPv (A:Option Addr) (n c:Nat):zMG (.slice A n c):=fun _ e=>by cases e
def zRK (F:FC) (A B C:Option Addr) (a b c d e f:Nat): ∀ v∈(F.cells (.slice A a b) (.slice B c d) (.slice C e f)).toList,zMG v:=by
 intro v hv;simp only[FC.cells,yY,zQ,wE6,wK0,wR7,or_false] at hv;rcases hv with (((hv | hv) | (hv | hv)) | (hv | hv)) | (hv | hv)
 all_goals first | exact zRm _ v hv | (subst hv;exact zPv _ _ _) | (subst hv;intro x e;cases e)
def data_ne {w:World} {g:Nat} {T:TypeId} {F:FC} {A B C:Option Addr} {a b c d e f:Nat} (hb:Blk w g T (F.cells (.slice A a b) (.slice B c d) (.slice C e f))) {G:Option Addr} {k cp:Nat} {D:List Nat} (h:SL w 1 (.slice G k cp) k (zF D)):k=0∨ ∀ b,(Value.slice G k cp).ownBlock=some b→b≠g:=by
 by_cases hk:k=0
 ·exact .inl hk
 ·obtain⟨ad,rfl, -,hc⟩:=h.part (k:=0) (by omega);have hl:(zF D).length=k*1:=by obtain⟨A',c',e, -, -,h3, -⟩:=h;exact h3
  refine .inr (fun b e=> ?_);have e':some ad.block=some b:=e;injection e' with e'
  obtain⟨x,r,hD⟩: ∃ x r,D=x::r:=by
   cases D with
   | nil=>simp[zF] at hl;omega
   | cons x r=>exact⟨x,r,rfl⟩
  have h0:=hc 0 (.int .u8 x) (by rw[hD];simp[zF]);rw[←e'];have:=zSM hb (zRK F A B C a _ c d _ f) h0;simpa [yN] using this
def zPz {w:World} {g:Nat} {T:TypeId} (hb:Blk w g T zFile) {G:Option Addr} {k cp:Nat} {D:List Nat} (h:SL w 1 (.slice G k cp) k (zF D)):k=0∨ ∀ b,(Value.slice G k cp).ownBlock=some b→b≠g :=
 data_ne (F:=FC.zero) (A:=none) (B:=none) (C:=none) (a:=0) (b:=0) (c:=0) (d:=0) (e:=0) (f:=0) hb h
def zMJ:zAp Tryz.prog 44:=⟨_,Tryz.func44,rfl,rfl⟩
attribute [local irreducible] bv zN xI yG zBN zFile
def fenc_good (wd hi:Int) (L:List (List Int)) (A:Option Addr) (n c:Nat) (q:List Int) (hq:q.length=64) (e:Nat) (he:e≤100) (m0:Int) (w:World) (hm:w.cell? ⟨0,0,none⟩=some (.int .i64 m0)) (hr:RowsS w A n c L) (hE:(zN wd hi L q).1=0) :
 Calls Tryz.prog 17 #[.agg (xG wd hi (.slice A n c)),.agg (bv q),.int .i64 (e:Int)] w (EncIs wd hi L q (e:Int) w):=by
 have H1:=zA (fun W (h:Ext w W)=>zCj wd hi L A n c q hq W (hr.ext h));have hbe:=zPU wd hi L q;have hlen:=zGC wd hi L q hq;have hps:=zA (vX wd hi (.slice A n c));have hqs:=zA (show (bv q).size=64 by rw[zK,hq]);have hzs:=zA zBM;have hz0:=zBr;have HQ:=zA hq;have HM:=zA hm;have H21:Hid (decide ((e:Int)<0)=false):=zA (wL1 (by omega));have H24:Hid (decide ((100:Int)<(e:Int))=false):=zA (wL1 (by omega));have HLN:=zA hr.len;unfold FrmIs at H1
 have HEF:Hid (∀ cs1 xs1 cs2 xs2 F,zDX (xI (zN wd hi L q).2.1 e (zN wd hi L q).2.2 (yG (zN wd hi L q).2.1 e)).1 cs1 xs1→zDX (xI (zN wd hi L q).2.1 e (zN wd hi L q).2.2 (yG (zN wd hi L q).2.1 e)).2 cs2 xs2→cs1.length=16→cs2.length=16 →
  (F=if (zBN cs1 xs1 cs2 xs2 (e:Int) (zN wd hi L q).2.1 (zN wd hi L q).2.2).1=0 then ⟨wd,hi,L.length,q,cs1,xs1,cs2,xs2,(e:Int),(zBN cs1 xs1 cs2 xs2 (e:Int) (zN wd hi L q).2.1 (zN wd hi L q).2.2).2⟩ else FC.zero) →
  zDb wd hi L q (e:Int) (zBN cs1 xs1 cs2 xs2 (e:Int) (zN wd hi L q).2.1 (zN wd hi L q).2.2).1 F):=zA (fun cs1 xs1 cs2 xs2 F h1 h2 h3 h4 h5=>by
  unfold zDb;rw[if_neg (by simpa using hE),if_neg (by omega),wF0]
  exact⟨cs1,xs1,cs2,xs2,h1,h2,h3,h4,rfl,h5⟩)
 generalize zN wd hi L q=z at *;obtain⟨E,m,Z⟩:=z;dsimp only at H1 HEF hE hbe hlen;subst hE;have HTB:=zA (fun W (B:Option Addr) (d:Nat) (h:SL W 64 (.slice B m d) m (ints Z))=>zSg e m (by omega) B d Z hlen hbe W h);have HPC:=zA (fun (W:World) g (h:Blk W g 31 (xG wd hi (.slice A n c)))=>zBH h);generalize xG wd hi (.slice A n c)=pv at *;obtain⟨qv,hqv⟩: ∃ v,bv q=v:=⟨_,rfl⟩
 rw[hqv] at hqs H1 ⊢;have HQV:=zA hqv;clear hr hq hm hqv;go_enter Tryz.func17,Tryz.ntmps17
 go_upto_region 6 with (first
  | ((with_reducible apply gS 3);refine wBox rfl 31 (.tmp 0) rfl pv rfl ?_;intro w1 g1 hb1 hx1 hg1)
  | ((with_reducible apply gS 4);refine wBox rfl 33 (.tmp 1) rfl qv rfl ?_;intro w2 g2 hb2 hx2 hg2;have hb12:=hb1.ext hx2;have hx12:=hx1.trans hx2)
  | ((with_reducible apply gS 6);refine wAlo' rfl (some 6) rfl 47 rfl _ hz0 ?_;intro w3 g0 hb0 hx3 hg0;have hb13:=hb12.ext hx3;have hb23:=hb2.ext hx3;have hx13:=hx12.trans hx3)
  | ((with_reducible apply gS 12);refine wLdB rfl 31 (.tmp 3) rfl g1 rfl hb13 _ Tryz.underlying31 rfl 3 jT hps.out ?_)
  | ((with_reducible apply gS 13);refine wLdB rfl 33 (.tmp 4) rfl g2 rfl hb23 _ Tryz.underlying33 rfl 64 zH hqs.out ?_)
  | (go_at_call 13;(with_reducible refine (H1.out _ hx13).mono ?_);rintro e4 w4 ⟨B4,d4,rfl,hs4,hx4⟩)
  | ((with_reducible apply gS 21);refine xA (by rfl) (.bool false) (zZ rfl rfl rfl H21.out) ?_)
  | ((with_reducible apply gS 24);refine xA (by rfl) (.bool false) (xU rfl rfl rfl H24.out) ?_))
 have hp4:=hb13.ext hx4;have hq4:=hb23.ext hx4;have hx04:=hx13.trans hx4
 try simp only[Act.put,sA,sB,sC]
 go_cut [10] from 31 to 43 (fun pv wx=> ∃ gf cs1 xs1 s1 cs2 xs2 s2,pv=.pointer (some ⟨gf,0,none⟩)∧Blk wx gf 47 (yY wd hi (n:Int) q (zQ cs1 s1) (zQ cs2 s2) (e:Int) (.slice none 0 0)).toArray∧zDX (xI m e Z (yG m e)).1 cs1 xs1∧zDX (xI m e Z (yG m e)).2 cs2 xs2∧cs1.length=16∧cs2.length=16∧SL wx 1 s1 xs1.length (ints xs1)∧SL wx 1 s2 xs2.length (ints xs2)∧(∀ b,s1.ownBlock=some b→w4.heap.size≤b)∧(∀ b,s2.ownBlock=some b→w4.heap.size≤b)∧(xs1.length=0∨ ∀ b,s1.ownBlock=some b→b≠gf)∧(xs2.length=0∨ ∀ b,s2.ownBlock=some b→b≠gf)∧w4.heap.size≤gf∧Ext w4 wx)
 case first =>
  have hI:Ext w4.drew w4.drew:=Ext.refl _;refine jB (fun k=>k ==1 ||k ==3 ||k ==5 ||k ==6 ||k ==7 ||k ==11 ||k ==13) (Ext w4.drew) (by kernel_rfl) ?_;refine zG (k:=0) (by kernel_rfl) rfl (by rfl) (.pointer (some ⟨g1,0,none⟩)) (fun w=>by go_simp) ?_;simp only[sP,sB,sC];refine zG (k:=2) (by kernel_rfl) rfl (by rfl) (.pointer (some ⟨g1,1,none⟩)) (fun w=>by go_simp) ?_;simp only[sP,sB,sC];refine zG (k:=4) (by kernel_rfl) rfl (by rfl) (.pointer (some ⟨g1,2,none⟩)) (fun w=>by go_simp) ?_;simp only[sP,sB,sC];refine zG (k:=8) (by kernel_rfl) rfl (by rfl) (.int .i64 (e:Int)) (zC rfl rfl) ?_;simp only[sP,sB,sC];refine zG (k:=9) (by kernel_rfl) rfl (by rfl) (.slice B4 m d4) (zC rfl rfl) ?_;simp only[sP,sB,sC];refine zG (k:=10) (by kernel_rfl) rfl (by rfl) (.int .i64 (e:Int)) (zC rfl rfl) ?_;simp only[sP,sB,sC];refine jR (k:=1) (by kernel_rfl) rfl (by rfl) (.int .i64 wd) (fun W hW=>zV rfl rfl (HPC.out W g1 (hp4.drew.ext hW)).1) hI ?_;simp only[Act.put,sA,sB,sC];refine jR (k:=3) (by kernel_rfl) rfl (by rfl) (.int .i64 hi) (fun W hW=>zV rfl rfl (HPC.out W g1 (hp4.drew.ext hW)).2.1) hI ?_;simp only[Act.put,sA,sB,sC];refine jR (k:=5) (by kernel_rfl) rfl (by rfl) (.slice A n c) (fun W hW=>ex_loadRw rfl rfl (HPC.out W g1 (hp4.drew.ext hW)).2.2) hI ?_;simp only[Act.put,sA,sB,sC];refine jR (k:=7) (by kernel_rfl) rfl (by rfl) (.agg qv) (fun W hW=>zAj rfl rfl (hq4.drew.ext hW) Tryz.underlying33 rfl zH hqs.out) hI ?_;simp only[Act.put,sA,sB,sC];refine jR (k:=6) (by kernel_rfl) rfl (by rfl) (.int .i64 (n:Int)) (fun W _=>ex_lenRw rfl rfl W) hI ?_;simp only[Act.put,sA,sB,sC];refine zJM (k:=11) (l:=13) (by kernel_rfl) rfl rfl ?_ ?_
  · --
    refine xP (by rfl) (xQ _ _ _ rfl rfl zMJ #[.slice B4 m d4,.int .i64 (e:Int)] (by simp[Act.eval])) ?_;refine (HTB.out _ B4 d4 (hs4.drew)).mono ?_;rintro _ w6 ⟨cs1,xs1,s1,cs2,xs2,s2,rfl,hm1,hm2,l1,l2,hs1,hs2,ho1,ho2,hx6⟩;refine⟨_,rfl,zX ⟨fun _=>hx6, ?_⟩⟩;simp only[Act.put,sA,sB,sC];refine zG (k:=12) (by kernel_rfl) rfl (by rfl) (.agg (yY wd hi (n:Int) q (zQ cs1 s1) (zQ cs2 s2) (e:Int) (.slice none 0 0)).toArray) (zNd rfl rfl rfl rfl rfl rfl rfl (by rw[←HQV.out];exact zMM wd hi (n:Int) (e:Int) q HQ.out _ _ (zU _ _ l1) (zU _ _ l2))) ?_;simp only[sP,sB,sC];refine xR (k:=13) (by kernel_rfl) rfl ?_;refine wAlo' rfl (some 10) rfl 47 rfl _ hz0 ?_;intro w5 gf hbf hy hgf;refine zX ⟨fun _=>hx6.trans hy, ?_⟩;simp only[Act.put,sA,sB,sC];have hsz:=zEJ wd hi (n:Int) q (zQ cs1 s1) (zQ cs2 s2) (e:Int) (.slice none 0 0) HQ.out (zU _ _ l1) (zU _ _ l2);have hon:=zPP wd hi (n:Int) (e:Int) q cs1 cs2 hs1 hs2;refine xR (k:=14) (by kernel_rfl) rfl ?_;refine wStB rfl 47 (.tmp 10) (.tmp 43) rfl gf _ rfl rfl hbf 103 yQ hsz hzs.out hon ?_;intro w7 hb7 hg7;refine zX ⟨fun h=>(by cases h), ?_⟩;simp only[Act.put,sA,sB,sC];refine vP (by kernel_rfl) ?_;go_wp2_with fail;go_meet;have hx7:=hy.grown hg7 hgf;refine⟨gf,cs1,xs1,s1,cs2,xs2,s2,rfl,hb7,hm1,hm2,l1,l2,hs1.ext hx7,hs2.ext hx7,ho1,ho2,sl_old hs1 hgf,sl_old hs2 hgf,by have:=hx6.size;have:w4.drew.heap.size=w4.heap.size:=rfl;omega,(Ext.refl w4).drew.trans (hx6.trans hx7)⟩
  · --
    refine wAlo' rfl (some 10) rfl 47 rfl _ hz0 ?_;intro w5 gf hbf hy hgf;refine zX ⟨fun _=>hy, ?_⟩;simp only[Act.put,sA,sB,sC];refine xR (k:=11) (by kernel_rfl) rfl ?_;refine xP (by rfl) (xQ _ _ _ rfl rfl zMJ #[.slice B4 m d4,.int .i64 (e:Int)] (by simp[Act.eval])) ?_;refine (HTB.out _ B4 d4 (hs4.drew.ext hy)).mono ?_;rintro _ w6 ⟨cs1,xs1,s1,cs2,xs2,s2,rfl,hm1,hm2,l1,l2,hs1,hs2,ho1,ho2,hx6⟩;refine⟨_,rfl,zX ⟨fun _=>hy.trans hx6, ?_⟩⟩;simp only[Act.put,sA,sB,sC];refine zG (k:=12) (by kernel_rfl) rfl (by rfl) (.agg (yY wd hi (n:Int) q (zQ cs1 s1) (zQ cs2 s2) (e:Int) (.slice none 0 0)).toArray) (zNd rfl rfl rfl rfl rfl rfl rfl (by rw[←HQV.out];exact zMM wd hi (n:Int) (e:Int) q HQ.out _ _ (zU _ _ l1) (zU _ _ l2))) ?_;simp only[sP,sB,sC];have hsz:=zEJ wd hi (n:Int) q (zQ cs1 s1) (zQ cs2 s2) (e:Int) (.slice none 0 0) HQ.out (zU _ _ l1) (zU _ _ l2);have hon:=zPP wd hi (n:Int) (e:Int) q cs1 cs2 hs1 hs2;refine xR (k:=14) (by kernel_rfl) rfl ?_;refine wStB rfl 47 (.tmp 10) (.tmp 43) rfl gf _ rfl rfl (hbf.ext hx6) 103 yQ hsz hzs.out hon ?_;intro w7 hb7 hg7;refine zX ⟨fun h=>(by cases h), ?_⟩;simp only[Act.put,sA,sB,sC];refine vP (by kernel_rfl) ?_;go_wp2_with fail;go_meet;have hlt:=hbf.lt;have hu7:=zO hg7;have hy5:=hy.size;have hd4:w4.drew.heap.size=w4.heap.size:=rfl;refine⟨gf,cs1,xs1,s1,cs2,xs2,s2,rfl,hb7,hm1,hm2,l1,l2,zCr hs1 hu7 (fun b h e=>by injection e with e;have:=ho1 b h;omega),zCr hs2 hu7 (fun b h e=>by injection e with e;have:=ho2 b h;omega),(fun b h=>by have:=ho1 b h;omega),(fun b h=>by have:=ho2 b h;omega),.inr (fun b h=>by have:=ho1 b h;omega),.inr (fun b h=>by have:=ho2 b h;omega),hgf,(Ext.refl w4).drew.trans ((hy.trans hx6).grown hg7 hgf)⟩
 case rest =>
 obtain⟨gf,cs1,xs1,s1,cs2,xs2,s2,e1,hbf,hm1,hm2,l1,l2,hs1,hs2,hw1,hw2,hz1,hz2,hgf,hx5⟩:=hcut;subst e1;have HSC:=zA (fun W (g1:SL W 1 s1 xs1.length (ints xs1)) (g2:SL W 1 s2 xs2.length (ints xs2)) (g3:W.cell? ⟨0,0,none⟩=some (.int .i64 m0)) (g4:SL W 64 (.slice B4 m d4) m (ints Z))=>scanE_any cs1 xs1 cs2 xs2 s1 s2 l1 l2 B4 m d4 Z hlen (e:Int) m0 W g3 g1 g2 g4);have HEF2:=zA (fun F=>HEF.out cs1 xs1 cs2 xs2 F hm1 hm2 l1 l2);have hL1:=zU cs1 s1 l1;have hL2:=zU cs2 s2 l2;have HL3:=zA (show (zQ cs1 s1++zQ cs2 s2).length=34 by rw[wF3,hL1,hL2]);have HFB:=zA (zBu hbf HQ.out hL1 hL2);have hx05:=hx04.trans hx5;have hm5:=zAX HM.out hx05;have hs5:=hs4.ext hx5;generalize zBN cs1 xs1 cs2 xs2 (e:Int) m Z=r at *;obtain⟨E,D⟩:=r;dsimp only at HEF2;unfold zFw at HSC;dsimp only at HSC;have hb4:=hb0.ext (hx4.trans hx5);have hg0f:g0≠gf:=by have h1:=hb0.lt;have h2:=hx4.size;omega
 have hg04:g0<w4.heap.size:=by have h1:=hb0.lt;have h2:=hx4.size;omega
 have hgf0:w.heap.size≤gf:=by have h1:=hx04.size;omega
 have hg00:w.heap.size≤g0:=by have h1:=hx12.size;omega
 have hw1': ∀ b,s1.ownBlock=some b→b≠g0:=fun b h=>by have:=hw1 b h;omega
 have hw2': ∀ b,s2.ownBlock=some b→b≠g0:=fun b h=>by have:=hw2 b h;omega
 have hn1:=zA (show NewB w s1 from fun b h=>by have:=hw1 b h;have:=hx04.size;omega);have hn2:=zA (show NewB w s2 from fun b h=>by have:=hw2 b h;have:=hx04.size;omega);obtain⟨A1,c1,ee1, -⟩:=id hs1;obtain⟨A2,c2,ee2, -⟩:=id hs2;subst ee1 ee2;clear hb1 hx1 hg1 hb2 hx2 hg2 hb12 hx12 hb0 hx3 hg0 hb13 hb23 hx13 hs4 hx4 hp4 hq4 hx04 hx5 hw1 hw2 hgf HTB HPC H1 HM hbe hlen
 by_cases h0:E=0
 ·subst h0;have HF:=zA (show (⟨wd,hi,(n:Int),q,cs1,xs1,cs2,xs2,(e:Int),[]⟩:FC).shaped from ⟨HQ.out,l1,l2⟩);have HF2:=zA (show (⟨wd,hi,(n:Int),q,cs1,xs1,cs2,xs2,(e:Int),D⟩:FC).shaped from ⟨HQ.out,l1,l2⟩)
  go_upto_region 10 with (first
   | ((with_reducible apply gS 46);refine wpList_load_mid rfl 44 (.tmp 45) rfl gf 67 rfl (zQ cs1 (.slice A1 xs1.length c1)++zQ cs2 (.slice A2 xs2.length c2)) _ HFB.out.tt Tryz.underlying44 rfl (by rw[HL3.out];exact qP) ?_)
   | (go_at_call 45;(with_reducible refine (HSC.out _ hs1 hs2 hm5 hs5).mono ?_);rintro e6 w6 ⟨hx6,hC⟩;rw[if_pos rfl] at hC;obtain⟨B6,k6,d6,rfl,hk6,hD6, -⟩:=hC)
   | ((with_reducible apply gT 52 50);refine zMt rfl (.tmp 52) (.tmp 50) rfl gf ⟨wd,hi,(n:Int),q,cs1,xs1,cs2,xs2,(e:Int),[]⟩ HF.out (.slice A1 xs1.length c1) (.slice A2 xs2.length c2) (.slice none 0 0) D B6 k6 d6 rfl rfl (hbf.ext hx6) ?_;intro w7 hb7 hu7))
  have hsz7:=zA (FC.size HF2.out (.slice A1 xs1.length c1) (.slice A2 xs2.length c2) (.slice B6 k6 d6));have hon7:=zA (zDp (⟨wd,hi,(n:Int),q,cs1,xs1,cs2,xs2,(e:Int),D⟩:FC) A1 A2 B6 xs1.length c1 xs2.length c2 k6 d6);have hf6:Blk w6 gf 47 (FC.cells ⟨wd,hi,(n:Int),q,cs1,xs1,cs2,xs2,(e:Int),[]⟩ (.slice A1 xs1.length c1) (.slice A2 xs2.length c2) (.slice none 0 0)):=hbf.ext hx6;have hkD:=data_ne hf6 hD6;have hd7:=zFQ hD6 hu7 hkD;have ht1:=zFQ (hs1.ext hx6) hu7 hz1;have ht2:=zFQ (hs2.ext hx6) hu7 hz2;have hb47:Blk w7 g0 47 zFile:=hu7.blk (hb4.ext hx6) hg0f;have hkD0:=zPz hb47 hd7;have hx07:Ext w w7:=hu7.ext (hx05.trans hx6) (fun x hx=>by rw[hx];exact hgf0);have HE:=zA (HEF2.out (⟨wd,hi,(n:Int),q,cs1,xs1,cs2,xs2,(e:Int),D⟩:FC))
  have HR:Hid (∀ W,Upd (fun b=>b=g0) w7 W→EncIs wd hi L q (e:Int) w (.returned (.tuple #[.agg (FC.cells ⟨wd,hi,(n:Int),q,cs1,xs1,cs2,xs2,(e:Int),D⟩ (.slice A1 xs1.length c1) (.slice A2 xs2.length c2) (.slice B6 k6 d6)),.int .i64 0])) W):=zA (fun W hu=>by
   refine⟨0,_,_,_,_,rfl,HF2.out,⟨zCr ht1 hu hw1',zCr ht2 hu hw2', ?_⟩,HE.out (by rw[HLN.out];rfl),hu.ext hx07 (fun x hx=>by rw[hx];exact hg00),hn1.out,hn2.out⟩;have h9:=zFQ hd7 hu hkD0;show SL W 1 (.slice B6 k6 d6) D.length (zF D)
   rw[hk6]
   exact h9)
  generalize FC.cells ⟨wd,hi,(n:Int),q,cs1,xs1,cs2,xs2,(e:Int),D⟩ (.slice A1 xs1.length c1) (.slice A2 xs2.length c2) (.slice B6 k6 d6)=fc at *
  go_wp2_with (first
   | ((with_reducible apply gS 57);refine wLdB rfl 47 (.tmp 10) rfl gf rfl hb7 _ Tryz.underlying47 rfl 103 yQ hsz7.out ?_)
   | ((with_reducible apply gT 6 57);refine wStB rfl 47 (.tmp 6) (.tmp 57) rfl g0 fc rfl rfl hb47 103 yQ hsz7.out hzs.out hon7.out ?_;intro w8 hb8 hg8))
  exact yK rfl rfl g0 rfl hb8 _ Tryz.underlying47 rfl 103 yQ hsz7.out (HR.out _ (uI (zO hg8) (fun x h=>by injection h with h;exact h.symm)))
 ·have HF:=zA (show (⟨wd,hi,(n:Int),q,cs1,xs1,cs2,xs2,(e:Int),[]⟩:FC).shaped from ⟨HQ.out,l1,l2⟩);have HNE:=zA h0;have hbz:=zA zEy;have HE:=zA (HEF2.out FC.zero (by rw[if_neg h0]));have HR:=zA (fun W (h:Ext w W)=>EncIs.zero (wd:=wd) (hi:=hi) (L:=L) (q:=q) (nn:=(e:Int)) (E:=E) (w:=w) (w':=W) HE.out h);have h54:Hid ((E !=0)=true):=zA (by simpa using h0);clear h0
  go_wp2_with (first
   | ((with_reducible apply gS 46);refine wpList_load_mid rfl 44 (.tmp 45) rfl gf 67 rfl (zQ cs1 (.slice A1 xs1.length c1)++zQ cs2 (.slice A2 xs2.length c2)) _ HFB.out.tt Tryz.underlying44 rfl (by rw[HL3.out];exact qP) ?_)
   | (go_at_call 45;(with_reducible refine (HSC.out _ hs1 hs2 hm5 hs5).mono ?_);rintro e6 w6 ⟨hx6,hC⟩;rw[if_neg HNE.out] at hC;subst hC)
   | ((with_reducible apply gT 52 50);refine zMt rfl (.tmp 52) (.tmp 50) rfl gf ⟨wd,hi,(n:Int),q,cs1,xs1,cs2,xs2,(e:Int),[]⟩ HF.out (.slice A1 xs1.length c1) (.slice A2 xs2.length c2) (.slice none 0 0) [] none 0 0 rfl rfl (hbf.ext hx6) ?_;intro w7 hb7 hu7;have hb47:Blk w7 g0 47 zFile:=hu7.blk (hb4.ext hx6) hg0f;have hx07:Ext w w7:=hu7.ext (hx05.trans hx6) (fun x hx=>by rw[hx];exact hgf0))
   | ((with_reducible apply gS 54);refine zB rfl (.bool true) (jZ rfl rfl rfl (by simpa using HNE.out)) ?_)
   | ((with_reducible apply gS 55);refine jN (by rfl) 47 rfl _ hbz.out ?_)
   | ((with_reducible apply gT 6 55);refine wStB rfl 47 (.tmp 6) (.tmp 55) rfl g0 zFile rfl rfl hb47 103 yQ hzs.out hzs.out zDF ?_;intro w8 hb8 hg8))
  exact yK rfl rfl g0 rfl hb8 _ Tryz.underlying47 rfl 103 yQ hzs.out (HR.out _ (hx07.grown hg8 (by omega)))
def zQB (wd hi:Int) (L:List (List Int)) (A:Option Addr) (n c:Nat) (q:List Int) (hq:q.length=64) (nn:Int) (m0:Int) (w:World) (hm:w.cell? ⟨0,0,none⟩=some (.int .i64 m0)) (hr:RowsS w A n c L) :
 Calls Tryz.prog 17 #[.agg (xG wd hi (.slice A n c)),.agg (bv q),.int .i64 nn] w (EncIs wd hi L q nn w):=by
 by_cases hE:(zN wd hi L q).1=0
 ·by_cases h1:nn<0
  ·exact fenc_low wd hi L A n c q hq nn w hr hE h1
  ·by_cases h2:100<nn
   ·exact fenc_high wd hi L A n c q hq nn w hr hE ⟨h1,h2⟩
   ·obtain⟨e,rfl⟩: ∃ e:Nat,nn=(e:Int):=⟨nn.toNat,by omega⟩
    exact fenc_good wd hi L A n c q hq e (by omega) m0 w hm hr hE
 ·exact fenc_bad wd hi L A n c q hq nn w hr hE
end
def ones_any (n:Int) (w:World):Calls Tryz.prog 14 #[.int .i64 n] w fun e w'=>e=.returned (.agg (bv (List.replicate 64 n)))∧Ext w w':=by
 have HFS:=zA (fun i (hi:i<64)=>fillL_set (fun _=>n) i hi);have HFL:=zA (fun i (hi:i≤64)=>fillL_len (fun _=>n) i hi);have HF0:=zA (show zEs (fun _=>n) 0=yO from rfl);have HFE:=zA (show zEs (fun _=>n) 64=List.replicate 64 n by unfold zEs;rw[wF9,wP0,wG6,List.map_const',List.length_range]);rw[←HFE.out];generalize zEs (fun _=>n)=F at *;go_enter Tryz.func14,Tryz.ntmps14;go_wp2_with (refine wAlo' rfl (some 2) rfl 33 rfl _ qU ?_;intro w1 g hb hx hg)
 go_loopw [4] (fun i wr=> ∃ k:Nat,k≤64∧i=.int .i64 (k:Int)∧Ext w wr∧Blk wr g 33 (bv (F k))) (fun i _=>64-(intOf i).toNat)
 case atStart=>exact⟨0,by omega,rfl,hx,by rw[HF0.out];exact hb⟩
 case round =>
  clear hx hb;obtain⟨k,hk,rfl,hx,hb⟩:=hrel
  by_cases hlt:k<64
  ·have HS:=zA (HFS.out k hlt);have hl:=HFL.out k hk
   obtain⟨old,hold⟩: ∃ u,wr.cell? ⟨g,k,none⟩=some u:=by
    rw[hb.cell k];exact⟨_,qK _ k (by omega)⟩
   have hfr:=hb.frozen k;clear hl;go_wp2_with fail;go_roundw
   case rel =>
    refine⟨k+1,by omega,by go_num,hx.setCell (by omega) _, ?_⟩;have:=hb.set_ k (.int .i64 n);rw[jO,HS.out] at this;exact this
   case measure=>simp[intOf];omega
  ·obtain rfl:k=64:=by omega
   have hsz:=zA ((zK (F 64)).trans (HFL.out 64 (by omega)));have hon:=zA (xE (F 64))
   go_wp2_with (first
    | ((with_reducible apply gS 11);refine wLdB rfl 33 (.tmp 2) rfl _ rfl hb _ Tryz.underlying33 rfl 64 zH hsz.out ?_)
    | ((with_reducible apply gT 2 11);refine wStB rfl 33 (.tmp 2) (.tmp 11) rfl g (bv (F 64)) rfl rfl hb 64 zH hsz.out hsz.out hon.out ?_;intro w7 hb7 hg7))
   exact zAy rfl rfl _ rfl hb7 _ Tryz.underlying33 rfl 64 zH hsz.out ⟨rfl,hx.grown hg7 (by omega)⟩
def tmod_emod (n m:Int) (hm:1≤m):(if n.tmod m<0 then n.tmod m+m else n.tmod m)=n%m∧ -m<n.tmod m∧n.tmod m<m:=by
 have h1:=Int.emod_nonneg n (show m≠0 by omega);have h2:=Int.emod_lt_of_pos n (show 0<m by omega);have h3:(m.natAbs:Int)=m:=by omega
 have h4:n.tmod m=n%m-(if 0≤n∨m∣n then 0 else m.natAbs:Nat):=Int.tmod_eq_emod;generalize n.tmod m=q at *
 by_cases h:0≤n∨m∣n
 ·rw[if_pos h] at h4;rw[if_neg (by omega)];omega
 ·rw[if_neg h] at h4;rw[if_pos (by omega)];omega
def rest_any (n m:Int) (hm:1≤m) (hm2:m≤1000000) (w:World):Calls Tryz.prog 12 #[.int .i64 n,.int .i64 m] w fun e w'=>e=.returned (.int .i64 (n%m))∧w=w':=by
 obtain⟨he,hb1,hb2⟩:=tmod_emod n m hm;have hm0:m≠0:=by omega
 by_cases hneg:n.tmod m<0
 ·rw[if_pos hneg] at he;go_enter Tryz.func12,Tryz.ntmps12;go_wp2_with fail;go_ret;exact⟨by rw[←he];rfl,rfl⟩
 ·rw[if_neg hneg] at he;go_enter Tryz.func12,Tryz.ntmps12;go_wp2_with fail;go_ret;exact⟨by rw[←he];rfl,rfl⟩
end Go.Proofs.YtkggcjdlpendfaaGreatDoor
