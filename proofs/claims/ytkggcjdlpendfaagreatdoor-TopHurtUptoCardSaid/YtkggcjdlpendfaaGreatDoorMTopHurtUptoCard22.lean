import Derived.Test.YtkggcjdlpendfaaGreatDoorMTopHurtUptoCard21
set_option linter.all false
set_option maxRecDepth 20000
set_option maxHeartbeats 8000000
namespace Go.Proofs.YtkggcjdlpendfaaGreatDoor
open Go.RowKit Tryz
section
attribute [local irreducible] zAh
def zQk (F:FC) (hF:F.shaped) (s1 s2:Value) (A:Option Addr) (n c:Nat) (ev:Int) (a b p nb m:Nat) (hw:F.wd=a) (hh:F.hi=b) (hp:F.pt=p) (he:F.ev=ev) (a1:1≤a) (a2:a≤64) (b1:1≤b) (b2:b≤64) (hp13:p=1∨p=3) (hnb:zT a b=nb) (hm:nb*p=m) (w:World)
 (HC:∀W,Ext w W→Calls prog 50 #[.agg (F.cells s1 s2 (.slice A n c))] W λe W'=>e=.returned (.int .i64 0)∧Ext W W')
 (r1:Int) (X:List Int) (h1:r1≠0) (HK:∀W,Ext w W→Calls prog 63 #[.agg (zV F.cs1 s1++zV F.cs2 s2).toArray,.slice A n c,.int .i64 (m:Int),.int .i64 ev] W (zCk (r1,X) W)) :
 Calls prog 27 #[.agg (F.cells s1 s2 (.slice A n c))] w (PdIs r1 0 0 [] w):=by
 have HF:=zA (λW g (h:Blk W g 47 (F.cells s1 s2 (.slice A n c)))=>zBX h hF.1 (zU _ _ hF.2.1) (zU _ _ hF.2.2));have hts:=zA (FC.size hF s1 s2 (.slice A n c));have HC:=zA HC;have HK:=zA HK;have hT:(zV F.cs1 s1++zV F.cs2 s2).length=34:=by rw[wE2,zU _ _ hF.2.1,zU _ _ hF.2.2]
 have HT34:Hid ((prog.info? 44).map (·.size)=some (zV F.cs1 s1++zV F.cs2 s2).length):=zA (by rw[hT];exact qG);have HS:=zA (λW=>zIg F hF s1 s2 (.slice A n c) a b p nb m hw hh hp a1 a2 b1 b2 hp13 hnb hm W);rw[hw,hh,hp,he] at HF
 have hm192:m≤192:=by
  have h1:=zBx a2 b2;rw[hnb] at h1;rw[←hm];exact wJ1 (wO6 h1 (show p≤3 by omega)) (by omega)
 have HMN:=zA hm;have HPSZ:=zA (λa b v=>jB a b v);have HP1:=zA (λa b A n c=>zBQ a b A n c);have HZP:=zDc;have hz0s:Hid ((Value.agg (yX 0 0 (.slice none 0 0))).cells.size=3):=zA rfl;have HPB:=zA zFW;have hpo:=zA (zBQ 0 0 none 0 0);have hps:=zA (jB 0 0 (.slice none 0 0))
 have HRA:Hid (∀W e W',zCk (r1,X) W e W'→e=.returned (.tuple #[.slice none 0 0,.int .i64 r1])∧Ext W W'):=zA (λW e W' h=>by
  obtain⟨hx,h⟩:=h;rw[if_neg h1] at h
  exact⟨h,hx⟩)
 have HR:Hid (∀W,Ext w W→PdIs r1 0 0 [] w (.returned (.tuple #[.agg (yX 0 0 (.slice none 0 0)),.int .i64 r1])) W):=zA (λW h=>⟨none,0,0,rfl,RowsS.nil W,h⟩);have hne:(r1 !=0)=true:=by simpa using h1
 generalize F.cells s1 s2 (.slice A n c)=fv at *;obtain⟨tt,htt⟩:∃tt,(zV F.cs1 s1++zV F.cs2 s2).toArray=tt:=⟨_,rfl⟩
 have HTT:=zA htt;rw[htt] at HK;clear htt hT hm hw hh hp he hnb hF h1;generalize yX 0 0 (.slice none 0 0)=pz at *;go_enter func27,ntmps27
 go_upto_region 4 with (first
  | ((with_reducible apply gS 1);refine wBox rfl 47 (.tmp 0) rfl fv rfl ?_;intro w1 gf hb1 hx1 hgf)
  | ((with_reducible apply gS 2);refine wAlo' rfl (some 2) rfl 31 rfl _ HZP ?_;intro w2 gp hp2 hx2 hgp;have hb2:=hb1.ext hx2;have hx12:=hx1.trans hx2)
  | ((with_reducible apply gS 7);refine wLdB rfl 47 (.tmp 1) rfl gf rfl hb2 _ underlying47 rfl 103 yO hts.out ?_)
  | (go_at_call 50;(with_reducible refine (HC.out _ hx12).mono ?_);rintro e w3 ⟨rfl,hx3'⟩;have hp3:=hp2.ext hx3';have hb3:=hb2.ext hx3';have hx3:=hx12.trans hx3'))
 have hx8d:Ext w w3.drew:=hx3.drew;have hbd:Blk w3.drew gf 47 fv:=hb3.drew;have HGX:=zA (λW (h:Ext w3.drew W)=>HF.out _ _ (hbd.ext h));have HGB:=zA (λW (h:Ext w3.drew W)=>hbd.ext h);have hI:Ext w3.drew w3.drew:=Ext.refl _;refine qR (Ext w3.drew) (by kernel_rfl) ?_;refine zG (k:=0) (by kernel_rfl) rfl (by rfl) (.pointer (some ⟨gf,67,none⟩)) (λw=>by go_simp) hI ?_;simp only[sP,sB,sC];refine xE (k:=1) (by kernel_rfl) rfl (by rfl) (.agg tt) (λW hW=>HTT.out ▸ zDH rfl rfl (HGX.out W hW).tt underlying44 rfl HT34.out) hI ?_;simp only[Act.put,sA,sB,sC];refine zG (k:=2) (by kernel_rfl) rfl (by rfl) (.pointer (some ⟨gf,102,none⟩)) (λw=>by go_simp) hI ?_;simp only[sP,sB,sC];refine xE (k:=3) (by kernel_rfl) rfl (by rfl) (.slice A n c) (λW hW=>zAT rfl rfl (HGX.out W hW).c102) hI ?_;simp only[Act.put,sA,sB,sC];refine xE (k:=4) (by kernel_rfl) rfl (by rfl) (.agg fv) (λW hW=>uT rfl rfl (HGB.out W hW) underlying47 rfl yO hts.out) hI ?_;simp only[Act.put,sA,sB,sC];refine zG (k:=6) (by kernel_rfl) rfl (by rfl) (.pointer (some ⟨gf,101,none⟩)) (λw=>by go_simp) hI ?_;simp only[sP,sB,sC];refine xE (k:=7) (by kernel_rfl) rfl (by rfl) (.int .i64 ev) (λW hW=>zS rfl rfl (HGX.out W hW).c101) hI ?_;simp only[Act.put,sA,sB,sC];refine qI (k:=5) (by kernel_rfl) rfl ?_;refine xK (by rfl) (xL _ _ _ rfl rfl zJd #[.agg fv] (by simp[Act.eval])) ?_;refine (HS.out _).mono ?_;rintro e4 w4 ⟨rfl,hx4⟩;refine⟨_,rfl,zZ ⟨hx4, ?_⟩⟩;simp only[Act.put,sA,sB,sC];refine qI (k:=8) (by kernel_rfl) rfl ?_;refine xK (by rfl) (xL _ _ _ rfl rfl zKx #[.agg tt,.slice A n c,.int .i64 (m:Int),.int .i64 ev] (by simp[Act.eval])) ?_;refine (HK.out _ (hx8d.trans hx4)).mono ?_;intro e5 w5 h5;obtain⟨rfl,hx5⟩:=HRA.out _ _ _ h5;have hx45:=hx4.trans hx5;refine⟨_,rfl,zZ ⟨hx45, ?_⟩⟩;simp only[Act.put,sA,sB,sC];refine zG (k:=9) (by kernel_rfl) rfl (by rfl) (.tuple #[.slice none 0 0,.int .i64 r1]) (zD rfl rfl) hx45 ?_;simp only[sP,sB,sC];refine zG (k:=10) (by kernel_rfl) rfl (by rfl) (.slice none 0 0) (yR rfl rfl rfl) hx45 ?_;simp only[sP,sB,sC];refine zG (k:=11) (by kernel_rfl) rfl (by rfl) (.int .i64 r1) (yR rfl rfl rfl) hx45 ?_;simp only[sP,sB,sC];refine zG (k:=12) (by kernel_rfl) rfl (by rfl) (.slice none 0 0) (zW rfl rfl) hx45 ?_;simp only[sP,sB,sC];refine zG (k:=13) (by kernel_rfl) rfl (by rfl) (.int .i64 r1) (zW rfl rfl) hx45 ?_;simp only[sP,sB,sC];refine uA (by kernel_rfl) ?_;have hx05:=hx8d.trans hx45;have hb5:=hbd.ext hx45;have hp5:=hp3.drew.ext hx45
 go_wp2_with (first
  | ((with_reducible apply gS 26);refine zB rfl (.bool true) (jW rfl rfl rfl hne) ?_)
  | ((with_reducible apply gS 27);refine jI (by rfl) 31 rfl _ HPB.out ?_)
  | ((with_reducible apply gT 2 27);refine wStB rfl 31 (.tmp 2) (.tmp 27) rfl gp pz rfl rfl hp5 3 qY hps.out hz0s.out hpo.out ?_;intro w7 hb7 hg7;have hx7:=hx05.grown hg7 (by have:=hx1.size;omega)))
 exact yN rfl rfl gp rfl hb7 _ underlying31 rfl 3 qY hps.out (HR.out _ hx7)
def zKH (F:FC) (hF:F.shaped) (s1 s2:Value) (A:Option Addr) (n c:Nat) (ev:Int) (a b p nb m:Nat) (hw:F.wd=a) (hh:F.hi=b) (hp:F.pt=p) (he:F.ev=ev) (a1:1≤a) (a2:a≤64) (b1:1≤b) (b2:b≤64) (hp13:p=1∨p=3) (hnb:zT a b=nb) (hm:nb*p=m) (w:World)
 (HC:∀W,Ext w W→Calls prog 50 #[.agg (F.cells s1 s2 (.slice A n c))] W λe W'=>e=.returned (.int .i64 0)∧Ext W W')
 (X:List Int) (hX:X.length=m*64) (HK:∀W,Ext w W→Calls prog 63 #[.agg (zV F.cs1 s1++zV F.cs2 s2).toArray,.slice A n c,.int .i64 (m:Int),.int .i64 ev] W (zCk (0,X) W)) :
 Calls prog 27 #[.agg (F.cells s1 s2 (.slice A n c))] w (PdIsF 0 a b (zAh F.qs X a b p) w):=by
 have HF:=zA (λW g (h:Blk W g 47 (F.cells s1 s2 (.slice A n c)))=>zBX h hF.1 (zU _ _ hF.2.1) (zU _ _ hF.2.2));have hts:=zA (FC.size hF s1 s2 (.slice A n c));have HC:=zA HC;have HK:=zA HK;have hT:(zV F.cs1 s1++zV F.cs2 s2).length=34:=by rw[wE2,zU _ _ hF.2.1,zU _ _ hF.2.2]
 have HT34:Hid ((prog.info? 44).map (·.size)=some (zV F.cs1 s1++zV F.cs2 s2).length):=zA (by rw[hT];exact qG);have HS:=zA (λW=>zIg F hF s1 s2 (.slice A n c) a b p nb m hw hh hp a1 a2 b1 b2 hp13 hnb hm W);have HSH:=zA (λLA lc W (h:SL W 64 (.slice LA m lc) m (ints X))=>zPD F hF s1 s2 (.slice A n c) a b p hw hh hp a1 a2 b1 b2 hp13 LA m lc X (by rw[←hm,hnb,wE5]) W h);unfold PicIs at HSH;rw[hw,hh,hp,he] at HF
 have hm192:m≤192:=by
  have h1:=zBx a2 b2;rw[hnb] at h1;rw[←hm];exact wJ1 (wO6 h1 (show p≤3 by omega)) (by omega)
 have HMN:=zA hm;have HPSZ:=zA (λa b v=>jB a b v);have HP1:=zA (λa b A n c=>zBQ a b A n c);have HZP:=zDc;have hz0s:Hid ((Value.agg (yX 0 0 (.slice none 0 0))).cells.size=3):=zA rfl;have HPB:=zA zFW;have hpo:=zA (zBQ 0 0 none 0 0);have hps:=zA (jB 0 0 (.slice none 0 0))
 have HRA:Hid (∀W e W',zCk (0,X) W e W'→∃B k,e=.returned (.tuple #[.slice B m k,.int .i64 0])∧SL W' 64 (.slice B m k) m (ints X)∧Ext W W'):=zA (λW e W' h=>by
  obtain⟨hx,h⟩:=h;rw[if_pos rfl] at h;obtain⟨B,k,d,rfl,h1,h2,-⟩:=h;dsimp only at h1;obtain rfl:k=m:=by omega
  exact⟨B,d,rfl,h2,hx⟩)
 have HR:Hid (∀W B k d,RowsF W w.heap.size B k d (zAh F.qs X a b p)→Ext w W→PdIsF 0 a b (zAh F.qs X a b p) w (.returned (.tuple #[.agg (yX a b (.slice B k d)),.int .i64 0])) W):=zA (λW B k d h1 h=>⟨B,k,d,rfl,h1,h⟩);generalize zAh F.qs X a b p=SZ at *;generalize F.cells s1 s2 (.slice A n c)=fv at *;obtain⟨tt,htt⟩:∃tt,(zV F.cs1 s1++zV F.cs2 s2).toArray=tt:=⟨_,rfl⟩
 have HTT:=zA htt;rw[htt] at HK;clear htt hT hm hw hh hp he hnb hF hX;generalize yX 0 0 (.slice none 0 0)=pz at *;go_enter func27,ntmps27
 go_upto_region 4 with (first
  | ((with_reducible apply gS 1);refine wBox rfl 47 (.tmp 0) rfl fv rfl ?_;intro w1 gf hb1 hx1 hgf)
  | ((with_reducible apply gS 2);refine wAlo' rfl (some 2) rfl 31 rfl _ HZP ?_;intro w2 gp hp2 hx2 hgp;have hb2:=hb1.ext hx2;have hx12:=hx1.trans hx2)
  | ((with_reducible apply gS 7);refine wLdB rfl 47 (.tmp 1) rfl gf rfl hb2 _ underlying47 rfl 103 yO hts.out ?_)
  | (go_at_call 50;(with_reducible refine (HC.out _ hx12).mono ?_);rintro e w3 ⟨rfl,hx3'⟩;have hp3:=hp2.ext hx3';have hb3:=hb2.ext hx3';have hx3:=hx12.trans hx3'))
 have hx8d:Ext w w3.drew:=hx3.drew;have hbd:Blk w3.drew gf 47 fv:=hb3.drew;have HGX:=zA (λW (h:Ext w3.drew W)=>HF.out _ _ (hbd.ext h));have HGB:=zA (λW (h:Ext w3.drew W)=>hbd.ext h);have hI:Ext w3.drew w3.drew:=Ext.refl _;refine qR (Ext w3.drew) (by kernel_rfl) ?_;refine zG (k:=0) (by kernel_rfl) rfl (by rfl) (.pointer (some ⟨gf,67,none⟩)) (λw=>by go_simp) hI ?_;simp only[sP,sB,sC];refine xE (k:=1) (by kernel_rfl) rfl (by rfl) (.agg tt) (λW hW=>HTT.out ▸ zDH rfl rfl (HGX.out W hW).tt underlying44 rfl HT34.out) hI ?_;simp only[Act.put,sA,sB,sC];refine zG (k:=2) (by kernel_rfl) rfl (by rfl) (.pointer (some ⟨gf,102,none⟩)) (λw=>by go_simp) hI ?_;simp only[sP,sB,sC];refine xE (k:=3) (by kernel_rfl) rfl (by rfl) (.slice A n c) (λW hW=>zAT rfl rfl (HGX.out W hW).c102) hI ?_;simp only[Act.put,sA,sB,sC];refine xE (k:=4) (by kernel_rfl) rfl (by rfl) (.agg fv) (λW hW=>uT rfl rfl (HGB.out W hW) underlying47 rfl yO hts.out) hI ?_;simp only[Act.put,sA,sB,sC];refine zG (k:=6) (by kernel_rfl) rfl (by rfl) (.pointer (some ⟨gf,101,none⟩)) (λw=>by go_simp) hI ?_;simp only[sP,sB,sC];refine xE (k:=7) (by kernel_rfl) rfl (by rfl) (.int .i64 ev) (λW hW=>zS rfl rfl (HGX.out W hW).c101) hI ?_;simp only[Act.put,sA,sB,sC];refine qI (k:=5) (by kernel_rfl) rfl ?_;refine xK (by rfl) (xL _ _ _ rfl rfl zJd #[.agg fv] (by simp[Act.eval])) ?_;refine (HS.out _).mono ?_;rintro e4 w4 ⟨rfl,hx4⟩;refine⟨_,rfl,zZ ⟨hx4, ?_⟩⟩;simp only[Act.put,sA,sB,sC];refine qI (k:=8) (by kernel_rfl) rfl ?_;refine xK (by rfl) (xL _ _ _ rfl rfl zKx #[.agg tt,.slice A n c,.int .i64 (m:Int),.int .i64 ev] (by simp[Act.eval])) ?_;refine (HK.out _ (hx8d.trans hx4)).mono ?_;intro e5 w5 h5;obtain⟨B5,d5,rfl,hs5,hx5⟩:=HRA.out _ _ _ h5;have hx45:=hx4.trans hx5;refine⟨_,rfl,zZ ⟨hx45, ?_⟩⟩;simp only[Act.put,sA,sB,sC];refine zG (k:=9) (by kernel_rfl) rfl (by rfl) (.tuple #[.slice B5 m d5,.int .i64 0]) (zD rfl rfl) hx45 ?_;simp only[sP,sB,sC];refine zG (k:=10) (by kernel_rfl) rfl (by rfl) (.slice B5 m d5) (yR rfl rfl rfl) hx45 ?_;simp only[sP,sB,sC];refine zG (k:=11) (by kernel_rfl) rfl (by rfl) (.int .i64 0) (yR rfl rfl rfl) hx45 ?_;simp only[sP,sB,sC];refine zG (k:=12) (by kernel_rfl) rfl (by rfl) (.slice B5 m d5) (zW rfl rfl) hx45 ?_;simp only[sP,sB,sC];refine zG (k:=13) (by kernel_rfl) rfl (by rfl) (.int .i64 0) (zW rfl rfl) hx45 ?_;simp only[sP,sB,sC];refine uA (by kernel_rfl) ?_;have hx05:=hx8d.trans hx45;have hb5:=hbd.ext hx45;have hp5:=hp3.drew.ext hx45
 go_wp2_with (first
  | ((with_reducible apply gS 29);refine wLdB rfl 47 (.tmp 1) rfl gf rfl hb5 _ underlying47 rfl 103 yO hts.out ?_)
  | (go_at_call 57;(with_reducible refine (HSH.out _ _ _ hs5).mono ?_);rintro e w6 ⟨B6,k6,d6,rfl,hr6,hx6⟩;have hp6:=hp5.ext hx6;have hx06:=hx05.trans hx6)
  | ((with_reducible apply gT 2 31);refine wStB rfl 31 (.tmp 2) (.tmp 31) rfl gp (yX a b (.slice B6 k6 d6)) rfl rfl hp6 3 qY (HPSZ.out _ _ _) hz0s.out (HP1.out _ _ _ _ _) ?_;intro w7 hb7 hg7;have hx7:=hx06.grown hg7 (by have:=hx1.size;omega);have hu7:=zM hg7))
 have hgpw:gp<w3.heap.size:=hp3.lt;have hr7:=(hr6.upd (zM hg7) (λx e=>by injection e with e;rw[←e];exact wA1 hgpw (by have h1:=hx45.size;have h2:=hx8d.size;exact h1))).mono (B':=w.heap.size) hx05.size;exact yN rfl rfl gp rfl hb7 _ underlying31 rfl 3 qY (HPSZ.out _ _ _) (HR.out _ _ _ _ hr7 hx7)
def zQI (F:FC) (hF:F.shaped) (s1 s2:Value) (A:Option Addr) (n c:Nat) (ev:Int) (a b p nb m:Nat) (hw:F.wd=a) (hh:F.hi=b) (hp:F.pt=p) (he:F.ev=ev) (a1:1≤a) (a2:a≤64) (b1:1≤b) (b2:b≤64) (hp13:p=1∨p=3) (hnb:zT a b=nb) (hm:nb*p=m) (w:World)
 (HC:∀W,Ext w W→Calls prog 50 #[.agg (F.cells s1 s2 (.slice A n c))] W λe W'=>e=.returned (.int .i64 0)∧Ext W W')
 (X:List Int) (hX:X.length=m*64) (HK:∀W,Ext w W→Calls prog 63 #[.agg (zV F.cs1 s1++zV F.cs2 s2).toArray,.slice A n c,.int .i64 (m:Int),.int .i64 ev] W (zCk (0,X) W)) :
 Calls prog 27 #[.agg (F.cells s1 s2 (.slice A n c))] w (PdIs 0 a b (zAh F.qs X a b p) w) :=
 (zKH F hF s1 s2 A n c ev a b p nb m hw hh hp he a1 a2 b1 b2 hp13 hnb hm w HC X hX HK).mono λ_ _ h=>h.pd
end
section
attribute [local irreducible] zAh
def zTF (fv:Array Value) (hfs:fv.size=103) (E:Int) (hE:E≠0) (w:World) (HC:∀W,Ext w W→Calls prog 50 #[.agg fv] W λe W'=>e=.returned (.int .i64 E)∧Ext W W') :
 Calls prog 22 #[.agg fv] w (RcIs E 0 0 [] [] w):=by
 have HC:=zA HC;have hts:=zA hfs;have hne:(E !=0)=true:=by simpa using hE
 have HPSZ:=zA (λa b v=>jB a b v);have HP1:=zA (λa b A n c=>zBQ a b A n c);have HZP:=zDc;have hz0s:Hid ((Value.agg (yX 0 0 (.slice none 0 0))).cells.size=3):=zA rfl;have HPB:=zA zFW;have hpo:=zA (zBQ 0 0 none 0 0);have hps:=zA (jB 0 0 (.slice none 0 0));have HR:Hid (∀W,Ext w W→RcIs E 0 0 [] [] w (.returned (.tuple #[.agg (yX 0 0 (.slice none 0 0)),.slice none 0 0,.int .i64 E])) W):=zA (λW h=>⟨none,0,0,none,0,0,rfl,RowsS.nil W,SL.nil W 1,rfl,h⟩);generalize yX 0 0 (.slice none 0 0)=pz at *;clear hE;go_enter func22,ntmps22
 go_wp2_with (first
  | ((with_reducible apply gS 1);refine wBox rfl 47 (.tmp 0) rfl fv rfl ?_;intro w1 gf hb1 hx1 hgf)
  | ((with_reducible apply gS 2);refine wAlo' rfl (some 2) rfl 31 rfl _ HZP ?_;intro w2 gp hp2 hx2 hgp;have hb2:=hb1.ext hx2;have hx12:=hx1.trans hx2)
  | ((with_reducible apply gS 9);refine wLdB rfl 47 (.tmp 1) rfl gf rfl hb2 _ underlying47 rfl 103 yO hts.out ?_)
  | (go_at_call 50;(with_reducible refine (HC.out _ hx12).mono ?_);rintro e w3 ⟨rfl,hx3⟩;have hp3:=hp2.ext hx3;have hx13:=hx12.trans hx3)
  | ((with_reducible apply gS 12);refine zB rfl (.bool true) (jW rfl rfl rfl hne) ?_)
  | ((with_reducible apply gS 13);refine jI (by rfl) 31 rfl _ HPB.out ?_)
  | ((with_reducible apply gT 2 13);refine wStB rfl 31 (.tmp 2) (.tmp 13) rfl gp pz rfl rfl hp3 3 qY hps.out hz0s.out hpo.out ?_;intro w4 hb4 hg4;have hx4:=hx13.grown hg4 (by have:=hx1.size;omega)))
 exact jE rfl rfl gp rfl hb4 _ underlying31 rfl 3 qY hps.out (HR.out _ hx4)
def zRE (F:FC) (hF:F.shaped) (s1 s2:Value) (A:Option Addr) (n c:Nat) (ev:Int) (a b p nb m:Nat) (hw:F.wd=a) (hh:F.hi=b) (hp:F.pt=p) (he:F.ev=ev) (a1:1≤a) (a2:a≤64) (b1:1≤b) (b2:b≤64) (hp13:p=1∨p=3) (hnb:zT a b=nb) (hm:nb*p=m) (w:World)
 (HC:∀W,Ext w W→Calls prog 50 #[.agg (F.cells s1 s2 (.slice A n c))] W λe W'=>e=.returned (.int .i64 0)∧Ext W W')
 (X Y:List Int) (hX:X.length=m*64) (HK:∀W,Ext w W→Calls prog 55 #[.agg (zV F.cs1 s1++zV F.cs2 s2).toArray,.slice A n c,.int .i64 (m:Int),.int .i64 ev] W (zMf (0,X,Y) W)) :
 Calls prog 22 #[.agg (F.cells s1 s2 (.slice A n c))] w (RcIs 0 a b (zAh F.qs X a b p) Y w):=by
 have HF:=zA (λW g (h:Blk W g 47 (F.cells s1 s2 (.slice A n c)))=>zBX h hF.1 (zU _ _ hF.2.1) (zU _ _ hF.2.2));have hts:=zA (FC.size hF s1 s2 (.slice A n c));have HC:=zA HC;have HK:=zA HK;have hT:(zV F.cs1 s1++zV F.cs2 s2).length=34:=by rw[wE2,zU _ _ hF.2.1,zU _ _ hF.2.2]
 have HT34:Hid ((prog.info? 44).map (·.size)=some (zV F.cs1 s1++zV F.cs2 s2).length):=zA (by rw[hT];exact qG);have HS:=zA (λW=>zIg F hF s1 s2 (.slice A n c) a b p nb m hw hh hp a1 a2 b1 b2 hp13 hnb hm W);have HSH:=zA (λLA lc W (h:SL W 64 (.slice LA m lc) m (ints X))=>zPD F hF s1 s2 (.slice A n c) a b p hw hh hp a1 a2 b1 b2 hp13 LA m lc X (by rw[←hm,hnb,wE5]) W h);unfold PicIs at HSH;rw[hw,hh,hp,he] at HF
 have hm192:m≤192:=by
  have h1:=zBx a2 b2;rw[hnb] at h1;rw[←hm];exact wJ1 (wO6 h1 (show p≤3 by omega)) (by omega)
 have HMN:=zA hm;have HPSZ:=zA (λa b v=>jB a b v);have HP1:=zA (λa b A n c=>zBQ a b A n c);have HZP:=zDc;have hz0s:Hid ((Value.agg (yX 0 0 (.slice none 0 0))).cells.size=3):=zA rfl;have HPB:=zA zFW;have hpo:=zA (zBQ 0 0 none 0 0);have hps:=zA (jB 0 0 (.slice none 0 0))
 have HRA:Hid (∀W e W',zMf (0,X,Y) W e W'→∃B k C j c,e=.returned (.tuple #[.slice B m k,.slice C j c,.int .i64 0])∧SL W' 64 (.slice B m k) m (ints X)∧Y.length=j∧SL W' 1 (.slice C j c) j (ints Y)∧Ext W W'∧∀ad,C=some ad→W.heap.size≤ad.block):=zA (λW e W' h=>by
  obtain⟨hx,h⟩:=h;rw[if_pos rfl] at h;obtain⟨B,k,d,C,j,c,rfl,h1,h2,h3,h4,h5⟩:=h;dsimp only at h1;obtain rfl:k=m:=by omega
  exact⟨B,d,C,j,c,rfl,h2,h3,h4,hx,h5⟩)
 have HR:Hid (∀W B k d C j c,RowsS W B k d (zAh F.qs X a b p)→Y.length=j→SL W 1 (.slice C j c) j (ints Y)→Ext w W→RcIs 0 a b (zAh F.qs X a b p) Y w (.returned (.tuple #[.agg (yX a b (.slice B k d)),.slice C j c,.int .i64 0])) W):=zA (λW B k d C j c h1 h2 h3 h=>⟨B,k,d,C,j,c,rfl,h1,h3,h2,h⟩);generalize zAh F.qs X a b p=SZ at *;generalize F.cells s1 s2 (.slice A n c)=fv at *;obtain⟨tt,htt⟩:∃tt,(zV F.cs1 s1++zV F.cs2 s2).toArray=tt:=⟨_,rfl⟩
 have HTT:=zA htt;rw[htt] at HK;clear htt hT hm hw hh hp he hnb hF hX;generalize yX 0 0 (.slice none 0 0)=pz at *;go_enter func22,ntmps22
 go_upto_region 4 with (first
  | ((with_reducible apply gS 1);refine wBox rfl 47 (.tmp 0) rfl fv rfl ?_;intro w1 gf hb1 hx1 hgf)
  | ((with_reducible apply gS 2);refine wAlo' rfl (some 2) rfl 31 rfl _ HZP ?_;intro w2 gp hp2 hx2 hgp;have hb2:=hb1.ext hx2;have hx12:=hx1.trans hx2)
  | ((with_reducible apply gS 9);refine wLdB rfl 47 (.tmp 1) rfl gf rfl hb2 _ underlying47 rfl 103 yO hts.out ?_)
  | (go_at_call 50;(with_reducible refine (HC.out _ hx12).mono ?_);rintro e w3 ⟨rfl,hx3'⟩;have hp3:=hp2.ext hx3';have hb3:=hb2.ext hx3';have hx3:=hx12.trans hx3'))
 have hx8d:Ext w w3.drew:=hx3.drew;have hbd:Blk w3.drew gf 47 fv:=hb3.drew;have HGX:=zA (λW (h:Ext w3.drew W)=>HF.out _ _ (hbd.ext h));have HGB:=zA (λW (h:Ext w3.drew W)=>hbd.ext h);have hI:Ext w3.drew w3.drew:=Ext.refl _;refine qR (Ext w3.drew) (by kernel_rfl) ?_;refine zG (k:=0) (by kernel_rfl) rfl (by rfl) (.pointer (some ⟨gf,67,none⟩)) (λw=>by go_simp) hI ?_;simp only[sP,sB,sC];refine xE (k:=1) (by kernel_rfl) rfl (by rfl) (.agg tt) (λW hW=>HTT.out ▸ zDH rfl rfl (HGX.out W hW).tt underlying44 rfl HT34.out) hI ?_;simp only[Act.put,sA,sB,sC];refine zG (k:=2) (by kernel_rfl) rfl (by rfl) (.pointer (some ⟨gf,102,none⟩)) (λw=>by go_simp) hI ?_;simp only[sP,sB,sC];refine xE (k:=3) (by kernel_rfl) rfl (by rfl) (.slice A n c) (λW hW=>zAT rfl rfl (HGX.out W hW).c102) hI ?_;simp only[Act.put,sA,sB,sC];refine xE (k:=4) (by kernel_rfl) rfl (by rfl) (.agg fv) (λW hW=>uT rfl rfl (HGB.out W hW) underlying47 rfl yO hts.out) hI ?_;simp only[Act.put,sA,sB,sC];refine zG (k:=6) (by kernel_rfl) rfl (by rfl) (.pointer (some ⟨gf,101,none⟩)) (λw=>by go_simp) hI ?_;simp only[sP,sB,sC];refine xE (k:=7) (by kernel_rfl) rfl (by rfl) (.int .i64 ev) (λW hW=>zS rfl rfl (HGX.out W hW).c101) hI ?_;simp only[Act.put,sA,sB,sC];refine qI (k:=5) (by kernel_rfl) rfl ?_;refine xK (by rfl) (xL _ _ _ rfl rfl zJd #[.agg fv] (by simp[Act.eval])) ?_;refine (HS.out _).mono ?_;rintro e4 w4 ⟨rfl,hx4⟩;refine⟨_,rfl,zZ ⟨hx4, ?_⟩⟩;simp only[Act.put,sA,sB,sC];refine qI (k:=8) (by kernel_rfl) rfl ?_;refine xK (by rfl) (xL _ _ _ rfl rfl zRU #[.agg tt,.slice A n c,.int .i64 (m:Int),.int .i64 ev] (by simp[Act.eval])) ?_;refine (HK.out _ (hx8d.trans hx4)).mono ?_;intro e5 w5 h5;obtain⟨B5,d5,C5,j5,c5,rfl,hs5,hj5,hc5,hx5,hcf⟩:=HRA.out _ _ _ h5;have hx45:=hx4.trans hx5;refine⟨_,rfl,zZ ⟨hx45, ?_⟩⟩;simp only[Act.put,sA,sB,sC];refine zG (k:=9) (by kernel_rfl) rfl (by rfl) (.tuple #[.slice B5 m d5,.slice C5 j5 c5,.int .i64 0]) (zD rfl rfl) hx45 ?_;simp only[sP,sB,sC];refine zG (k:=10) (by kernel_rfl) rfl (by rfl) (.slice B5 m d5) (yR rfl rfl rfl) hx45 ?_;simp only[sP,sB,sC];refine zG (k:=11) (by kernel_rfl) rfl (by rfl) (.slice C5 j5 c5) (yR rfl rfl rfl) hx45 ?_;simp only[sP,sB,sC];refine zG (k:=12) (by kernel_rfl) rfl (by rfl) (.int .i64 0) (yR rfl rfl rfl) hx45 ?_;simp only[sP,sB,sC];refine zG (k:=13) (by kernel_rfl) rfl (by rfl) (.slice B5 m d5) (zW rfl rfl) hx45 ?_;simp only[sP,sB,sC];refine zG (k:=14) (by kernel_rfl) rfl (by rfl) (.slice C5 j5 c5) (zW rfl rfl) hx45 ?_;simp only[sP,sB,sC];refine zG (k:=15) (by kernel_rfl) rfl (by rfl) (.int .i64 0) (zW rfl rfl) hx45 ?_;simp only[sP,sB,sC];refine uA (by kernel_rfl) ?_;have hx05:=hx8d.trans hx45;have hb5:=hbd.ext hx45;have hp5:=hp3.drew.ext hx45
 go_wp2_with (first
  | ((with_reducible apply gS 32);refine wLdB rfl 47 (.tmp 1) rfl gf rfl hb5 _ underlying47 rfl 103 yO hts.out ?_)
  | (go_at_call 57;(with_reducible refine (HSH.out _ _ _ hs5).mono ?_);rintro e w6 ⟨B6,k6,d6,rfl,hr6,hx6⟩;have hp6:=hp5.ext hx6;have hx06:=hx05.trans hx6;have hc6:=hc5.ext hx6)
  | ((with_reducible apply gT 2 34);refine wStB rfl 31 (.tmp 2) (.tmp 34) rfl gp (yX a b (.slice B6 k6 d6)) rfl rfl hp6 3 qY (HPSZ.out _ _ _) hz0s.out (HP1.out _ _ _ _ _) ?_;intro w7 hb7 hg7;have hx7:=hx06.grown hg7 (by have:=hx1.size;omega);have hu7:=zM hg7))
 have hgpw:gp<w3.heap.size:=hp3.lt;have hr7:=rows_far hr6 (zM hg7) (λx e=>by injection e with e;rw[←e];exact wA1 hgpw (by have h1:=hx45.size;have h2:=hx8d.size;exact h1));have hc7:=hc6.upd (zM hg7) (λad e q=>by injection q with q;have h1:=hcf ad e;have h2:=hx4.size;rw[←q] at h1;exact absurd (wA1 hgpw (wJ1 h2 h1)) (Nat.lt_irrefl _));exact jE rfl rfl gp rfl hb7 _ underlying31 rfl 3 qY (HPSZ.out _ _ _) (HR.out _ _ _ _ _ _ _ hr7 hj5 hc7 hx7)
end
def zQF (A B:Option Addr) (n c d:Nat) (L:List (List Int)) (w:World) (hu:RowsS w A n c L) (hv:RowsS w B n d L) :
 Calls prog 62 #[.slice A n c,.slice B n d] w λe w'=>e=.returned (.bool true)∧Ext w w':=by
 have hc1:=hu.cap;have hd1:=hv.cap;have e1:((n:Int) !=(n:Int))=false:=by simp
 go_enter func62,ntmps62;go_wp2_with fail
 go_loopw [13] (λi wr=>∃k:Nat,k≤n∧i=.int .i64 (k:Int)∧Ext w wr) (λi _=>n-(intOf i).toNat)
 case atStart=>exact⟨0,by omega,rfl,Ext.refl _⟩
 case round =>
  obtain⟨k,hk,rfl,hx⟩:=hrel
  by_cases hlt:k<n
  ·have hxd:Ext w wr.drew:=hx.drew;obtain⟨ad,l,A1,c1,rfl,hLk,hab,hca,hsA⟩:=(hu.ext hxd).get hlt;obtain⟨bd,l',A2,c2,rfl,hLk',hbb,hcb,hsB⟩:=(hv.ext hxd).get hlt;obtain rfl:l=l':=wU4 (hLk.symm.trans hLk');have HEQ:=zA (λW (x:SL W 1 (.slice A1 l.length c1) l.length (ints l)) (y:SL W 1 (.slice A2 l.length c2) l.length (ints l))=>eqInt_any _ _ l l W x y);rw[wS2 (rfl:l=l)] at HEQ;generalize ints l=il at *;generalize l.length=m at *
   have HCA:∀W,Ext wr.drew W→W.cell? (ad.add (k*1))=some (.slice A1 m c1):=λW h=>by
    rw[wD8];exact (h.cell (by rw[yH];exact hab)).trans hca
   have HCB:∀W,Ext wr.drew W→W.cell? (bd.add (k*1))=some (.slice A2 m c2):=λW h=>by
    rw[wD8];exact (h.cell (by rw[yH];exact hbb)).trans hcb
   go_wp2_with fail;refine xU qM (by kernel_rfl) (by kernel_rfl) ?_;refine zE (by rfl) (.slice (some ad) n c) (zD rfl rfl) ?_;simp only[sP,sB,sC];refine zE (by rfl) (.int .i64 ((k:Nat):Int)) (zD rfl rfl) ?_;simp only[sP,sB,sC];refine zE (by rfl) (.pointer (some (ad.add (k*1)))) (qP underlying29 uL rfl rfl rfl hlt) ?_;simp only[sP,sB,sC];refine xA (by rfl) (.slice A1 m c1) (λW hW=>jV rfl rfl (HCA W hW)) ?_;simp only[sP,sB,sC];refine zE (by rfl) (.slice (some bd) n d) (zD rfl rfl) ?_;simp only[sP,sB,sC];refine zE (by rfl) (.int .i64 ((k:Nat):Int)) (zD rfl rfl) ?_;simp only[sP,sB,sC];refine zE (by rfl) (.pointer (some (bd.add (k*1)))) (qP underlying29 uL rfl rfl rfl hlt) ?_;simp only[sP,sB,sC];refine xA (by rfl) (.slice A2 m c2) (λW hW=>jV rfl rfl (HCB W hW)) ?_;simp only[sP,sB,sC];refine zEY (by rfl) 26 func26 rfl rfl _ _ rfl #[.slice A1 m c1,.slice A2 m c2] (by simp[Act.eval]) (.bool true) (λW h=>(HEQ.out W (hsA.ext h) (hsB.ext h)).mono (λe w' h=>by rw[←h.2];exact⟨h.1,Ext.refl _⟩)) ?_;simp only[sP,sB,sC];refine zE (by rfl) (.bool false) (zJl (b:=true) rfl rfl) ?_;simp only[sP,sB,sC];refine jU ?_;intro w9 hx9;go_wp2_with fail;go_roundw
   case rel=>exact⟨k+1,by omega,by go_num,hxd.trans hx9⟩
   case measure=>simp[intOf];omega
  go_wp2_with fail;go_ret;exact⟨rfl,hx⟩
def zNy (wd hi:Int) (A B:Option Addr) (n c d:Nat) (L:List (List Int)) (w:World) (hu:RowsS w A n c L) (hv:RowsS w B n d L) :
 Calls prog 25 #[.agg (yX wd hi (.slice A n c)),.agg (yX wd hi (.slice B n d))] w λe w'=>e=.returned (.bool true)∧Ext w w':=by
 have HE:=zA (λW (h:Ext w W)=>zQF A B n c d L W (hu.ext h) (hv.ext h));have HPC1:=zA (λ(W:World) g (h:Blk W g 31 (yX wd hi (.slice A n c)))=>zAM h);have HPC2:=zA (λ(W:World) g (h:Blk W g 31 (yX wd hi (.slice B n d)))=>zAM h);generalize yX wd hi (.slice A n c)=P1 at *;generalize yX wd hi (.slice B n d)=P2 at *;clear hu hv;go_enter func25,ntmps25
 go_wp2_with (first
  | ((with_reducible apply gS 2);refine wBox rfl 31 (.tmp 0) rfl P1 rfl ?_;intro w1 g1 hb1 hx1 hg1)
  | ((with_reducible apply gS 3);refine wBox rfl 31 (.tmp 1) rfl P2 rfl ?_;intro w2 g2 hb2 hx2 hg2;have hb12:=hb1.ext hx2;have r1:=HPC1.out _ _ hb12;have r2:=HPC2.out _ _ hb2;have hx12:=hx1.trans hx2)
  | ((with_reducible apply gS 6);refine yU rfl (.int .i64 wd) (zS rfl rfl r1.1) ?_)
  | ((with_reducible apply gS 8);refine yU rfl (.int .i64 wd) (zS rfl rfl r2.1) ?_)
  | ((with_reducible apply gS 9);refine zB rfl (.bool true) (uZ rfl rfl rfl (by simp)) ?_)
  | ((with_reducible apply gS 12);refine zBU (by rfl) (.int .i64 hi) (zS rfl rfl r1.2.1) ?_)
  | ((with_reducible apply gS 14);refine zBU (by rfl) (.int .i64 hi) (zS rfl rfl r2.2.1) ?_)
  | ((with_reducible apply gS 15);refine xV (by rfl) (.bool true) (uZ rfl rfl rfl (by simp)) ?_)
  | ((with_reducible apply gS 19);refine zBU (by rfl) (.slice A n c) (zFB rfl rfl r1.2.2) ?_)
  | ((with_reducible apply gS 21);refine zBU (by rfl) (.slice B n d) (zFB rfl rfl r2.2.2) ?_)
  | (go_at_call 62;(with_reducible refine (HE.out _ hx12).mono ?_);rintro e w5 ⟨rfl,hx5⟩))
 go_ret;exact⟨rfl,hx12.trans hx5⟩
def FC.chk (F:FC):Int:=zDI F.wd F.hi F.pt F.qs (zQ F.cs1 F.xs1) (zQ F.cs2 F.xs2) F.ev F.data.length
def FC.check (F:FC) (hF:F.shaped) (s1 s2 sd:Value) (w:World) (ha:F.at_ w s1 s2 sd):Calls prog 50 #[.agg (F.cells s1 s2 sd)] w λe w'=>e=.returned (.int .i64 F.chk)∧Ext w w' :=
 zMa F.wd F.hi F.pt F.ev F.qs F.cs1 F.xs1 s1 F.cs2 F.xs2 s2 F.data sd w hF.1 hF.2.1 hF.2.2 ha.1 ha.2.1 ha.2.2
def zRV (cs1 xs1 cs2 xs2:List Int) (s1 s2:Value) (l1:cs1.length=16) (l2:cs2.length=16) (z1:zQ cs1 xs1=0) (z2:zQ cs2 xs2=0) (m0:Int) (w:World) (hm:w.cell? ⟨0,0,none⟩=some (.int .i64 m0))
 (hs1:SL w 1 s1 xs1.length (ints xs1)) (hs2:SL w 1 s2 xs2.length (ints xs2)) (W:World) (A:Option Addr) (n c:Nat) (bs:List Nat) (nn:Int) (h:Ext w W) (hs:SL W 1 (.slice A n c) n (zF bs)) (hA:A=none→c=0) (hlt:∀b∈bs,b<256) (hn:n≤1048576) :
 Calls prog 110 #[.agg (zV cs1 s1++zV cs2 s2).toArray,.slice A n c,.int .i64 nn] W (zCk (vQ true (zH (zC cs1 16) xs1) (zH (zC cs2 16) xs2) nn (plZ bs)) W):=by
 have h1:=zU cs1 s1 l1;have h2:=zU cs2 s2 l2;have o1:=zCm cs1 s1 hs1;have o2:=zCm cs2 s2 hs2;have C1:∀W,Ext w W→Calls prog 102 #[.agg (zV cs1 s1).toArray] W λe W'=>e=.returned (.int .i64 (zQ cs1 xs1))∧Ext W W':=λW h=>zCJ cs1 xs1 s1 W l1 (hs1.ext h)
 have C2:∀W,Ext w W→Calls prog 102 #[.agg (zV cs2 s2).toArray] W λe W'=>e=.returned (.int .i64 (zQ cs2 xs2))∧Ext W W':=λW h=>zCJ cs2 xs2 s2 W l2 (hs2.ext h)
 rw[z1] at C1;rw[z2] at C2
 exact zSu _ _ (zV cs1 s1) (zV cs2 s2) A n c bs nn m0 W hs hA hlt hn (uG hm h) h1 h2
  (λD b p hp=>by cases b;exact zMh cs2 xs2 l2 z2 D p hp;exact zMh cs1 xs1 l1 z1 D p hp) (tbl_rng z1) (tbl_rng z2) o1 o2 (λW' h'=>C1 W' (h.trans h')) (λW' h'=>C2 W' (h.trans h'))
  (λW' h'=>zDr cs1 xs1 s1 W' l1 ((hs1.ext h).ext h') z1) (λW' h'=>zDr cs2 xs2 s2 W' l2 ((hs2.ext h).ext h') z2)
def piecesD (cs1 xs1 cs2 xs2:List Int) (s1 s2:Value) (l1:cs1.length=16) (l2:cs2.length=16) (z1:zQ cs1 xs1=0) (z2:zQ cs2 xs2=0) (A:Option Addr) (n c:Nat) (bs:List Nat) (N E:Nat) (hlt:∀b∈bs,b<256) (hn:n≤1048576) (hN:N≤400) (hE:E≤100) (w:World) (hs1:SL w 1 s1 xs1.length (ints xs1)) (hs2:SL w 1 s2 xs2.length (ints xs2)) (hs:SL w 1 (.slice A n c) n (zF bs)) (W:World) (h:Ext w W):Calls prog 109 #[.agg (zV cs1 s1++zV cs2 s2).toArray,.slice A n c,.int .i64 (N:Int),.int .i64 (E:Int)] W (SpIsN (xW bs [] [] []) W):=by
 have hbl:bs.length=n:=by
  obtain⟨_,_,e,_,_,hl,_⟩:=hs;simpa [zF] using hl
 have hs':SL w 1 (.slice A n c) bs.length (zF bs):=by rw[hbl];exact hs
 have h1:=zU cs1 s1 l1;have h2:=zU cs2 s2 l2;have o1:=zCm cs1 s1 hs1;have o2:=zCm cs2 s2 hs2;have C1:∀W,Ext w W→Calls prog 102 #[.agg (zV cs1 s1).toArray] W λe W'=>e=.returned (.int .i64 (zQ cs1 xs1))∧Ext W W':=λW h=>zCJ cs1 xs1 s1 W l1 (hs1.ext h)
 have C2:∀W,Ext w W→Calls prog 102 #[.agg (zV cs2 s2).toArray] W λe W'=>e=.returned (.int .i64 (zQ cs2 xs2))∧Ext W W':=λW h=>zCJ cs2 xs2 s2 W l2 (hs2.ext h)
 rw[z1] at C1;rw[z2] at C2;exact zSx _ _ _ bs (N:Int) (E:Int) W ⟨by omega,by omega⟩ ⟨by omega,by omega⟩ (hs'.ext h) hlt (by omega) h1 h2 o1 o2 (λW' h'=>C1 W' (h.trans h')) (λW' h'=>C2 W' (h.trans h'))
def zQA (cs1 xs1 cs2 xs2:List Int) (s1 s2:Value) (l1:cs1.length=16) (l2:cs2.length=16) (z1:zQ cs1 xs1=0) (z2:zQ cs2 xs2=0) (A:Option Addr) (n c:Nat) (bs:List Nat) (N E:Nat) (hlt:∀b∈bs,b<256) (hn:n≤1048576) (hN:N≤400) (hE:E≤100) (m0:Int) (w:World) (hm:w.cell? ⟨0,0,none⟩=some (.int .i64 m0)) (hs1:SL w 1 s1 xs1.length (ints xs1)) (hs2:SL w 1 s2 xs2.length (ints xs2)) (hs:SL w 1 (.slice A n c) n (zF bs)) (W:World) (h:Ext w W):Calls prog 63 #[.agg (zV cs1 s1++zV cs2 s2).toArray,.slice A n c,.int .i64 (N:Int),.int .i64 (E:Int)] W (zCk (zBB (zH (zC cs1 16) xs1) (zH (zC cs2 16) xs2) N E bs) W):=by
 have hsz:=zCr (zU cs1 s1 l1) (zU cs2 s2 l2);have K1:=piecesD cs1 xs1 cs2 xs2 s1 s2 l1 l2 z1 z2 A n c bs N E hlt hn hN hE w hs1 hs2 hs;have S1:=zRV cs1 xs1 cs2 xs2 s1 s2 l1 l2 z1 z2 m0 w hm hs1 hs2
 have hbl:bs.length=n:=by
  obtain⟨_,_,e,_,_,hl,_⟩:=hs;simpa [zF] using hl
 unfold zBB
 cases hsp:xW bs [] [] [] with
 | none =>
   rw[hsp] at K1;exact zKt _ hsz _ _ _ 4 [] (by decide) W (λW' h'=>whole_err _ hsz _ _ _ 4 (by decide) W' (λW2 h2=>K1 W2 ((h.trans h').trans h2)))
 | some z =>
   obtain⟨P,M⟩:=z;rw[hsp] at K1;have hl:=zJq bs [] [] [] _ hsp;simp only[wJ0] at hl;have hPM:=zHI (B:=1048576) bs [] [] [] _ hsp (λ_ h=>by cases h) (by simp;omega) (λ_ h=>by cases h) hlt;have hP:P.length≤100000000:=by omega
   have hM:M.length≤100000000:=by omega
   dsimp only at hPM ⊢;have WH:∀W',Ext W W'→Calls prog 122 #[.agg (zV cs1 s1++zV cs2 s2).toArray,.slice A n c,.int .i64 (N:Int),.int .i64 (E:Int)] W' (WhIs (zBv N E P M) P W'):=λW' h'=>zTw _ hsz _ N E (by omega) (by omega) P M hM hP W' (λW2 h2=>K1 W2 ((h.trans h').trans h2))
   by_cases hw:zBv N E P M=0
   ·rw[if_neg (by simp[hw])];rw[hw] at WH
    have hK:P.length=zL N E:=by
     unfold zBv at hw
     by_cases h:P.length≠zL N E
     ·rw[if_pos h] at hw;cases hw
     omega
    exact zSW _ _ _ hsz _ N E hN hE P hK hPM W WH (λW' A' m c' bs' nn' h' q1 q2 q3 q4=>S1 W' A' m c' bs' nn' (h.trans h') q1 q2 q3 q4)
   rw[if_pos hw];exact zKt _ hsz _ _ _ _ P hw W WH
def mendD_any (cs1 xs1 cs2 xs2:List Int) (s1 s2:Value) (l1:cs1.length=16) (l2:cs2.length=16) (z1:zQ cs1 xs1=0) (z2:zQ cs2 xs2=0) (A:Option Addr) (n c:Nat) (bs:List Nat) (N E:Nat) (hlt:∀b∈bs,b<256) (hn:n≤1048576) (hN:N≤400) (hE:E≤100) (m0:Int) (w:World) (hm:w.cell? ⟨0,0,none⟩=some (.int .i64 m0)) (hs1:SL w 1 s1 xs1.length (ints xs1)) (hs2:SL w 1 s2 xs2.length (ints xs2)) (hs:SL w 1 (.slice A n c) n (zF bs)) {P:List (List Nat)} {M:List Nat} (hsp:xW bs [] [] []=some (P,M)) (W:World) (h:Ext w W):Calls prog 55 #[.agg (zV cs1 s1++zV cs2 s2).toArray,.slice A n c,.int .i64 (N:Int),.int .i64 (E:Int)] W (zMf (0,vG (zH (zC cs1 16) xs1) (zH (zC cs2 16) xs2) N E P (zL N E)) W):=by
 have hsz:=zCr (zU cs1 s1 l1) (zU cs2 s2 l2);have K1:=piecesD cs1 xs1 cs2 xs2 s1 s2 l1 l2 z1 z2 A n c bs N E hlt hn hN hE w hs1 hs2 hs;have S1:=zRV cs1 xs1 cs2 xs2 s1 s2 l1 l2 z1 z2 m0 w hm hs1 hs2
 have hbl:bs.length=n:=by
  obtain⟨_,_,e,_,_,hl,_⟩:=hs;simpa [zF] using hl
 rw[hsp] at K1;have hl:=zJq bs [] [] [] _ hsp;simp only[wJ0] at hl;have hPM:=zHI (B:=1048576) bs [] [] [] _ hsp (λ_ h=>by cases h) (by simp;omega) (λ_ h=>by cases h) hlt;exact zQP _ _ _ hsz _ N E hN hE P M hPM W (λW' h'=>K1 W' (h.trans h')) (λW' A' m c' bs' nn' h' q1 q2 q3 q4=>S1 W' A' m c' bs' nn' (h.trans h') q1 q2 q3 q4)
def PdOf (q:List Int) (a b p:Nat) (r:Int×List Int) (w:World) (e:Ending) (w':World):Prop:=if r.1=0 then PdIs 0 a b (zAh q r.2 a b p) w e w' else PdIs r.1 0 0 [] w e w'
def zJK {T1 T2:List Tok} {N E:Nat} {bs:List Nat} (h:(zBB T1 T2 N E bs).1=0):(zBB T1 T2 N E bs).2.length=N*64:=by
 unfold zBB at h ⊢
 cases hsp:xW bs [] [] [] with
 | none=>rw[hsp] at h;cases h
 | some z =>
   obtain⟨P,M⟩:=z;rw[hsp] at h;dsimp only at h ⊢
   by_cases hw:zBv N E P M=0
   ·rw[if_neg (by simp[hw])] at h ⊢;have:=zRx (zL N E) 0 [] (by simp) (by rw[zHU];rfl) h
    rwa [wB2,zDj] at this
   rw[if_pos hw] at h;exact absurd h hw
def zVD (F:FC) (hF:F.shaped) (hz:F.chk=0) (s1 s2:Value) (A:Option Addr) (n c:Nat) (hn:F.data.length=n) (hlt:∀b∈F.data,b<256) (m0:Int) (w:World) (hm:w.cell? ⟨0,0,none⟩=some (.int .i64 m0)) (ha:F.at_ w s1 s2 (.slice A n c)) (a b p e:Nat) (ea:F.wd=a) (eb:F.hi=b) (ep:F.pt=p) (ee:F.ev=e) (W:World) (h:Ext w W):Calls prog 27 #[.agg (F.cells s1 s2 (.slice A n c))] W (PdOf F.qs a b p (zBB (zH (zC F.cs1 16) F.xs1) (zH (zC F.cs2 16) F.xs2) (zT a b*p) e F.data) W):=by
 have C1:=λW (h:Ext w W)=>F.check hF s1 s2 (.slice A n c) W (ha.ext h)
 rw[hz] at C1;obtain⟨a',b',p',ea',eb',ep',a1,a2,b1,b2,hp13,hev0,hev1,hq,z1,z2,hd⟩:=zEj hz;obtain rfl:a=a':=by omega
 obtain rfl:b=b':=by omega
 obtain rfl:p=p':=by omega
 have h3:=ha.2.2;rw[hn] at h3;have hc:=zBx a2 b2;have hm192:zT a b*p≤192:=wJ1 (wO6 hc (show p≤3 by omega)) (by omega);have K1:=zQA F.cs1 F.xs1 F.cs2 F.xs2 s1 s2 hF.2.1 hF.2.2 z1 z2 A n c F.data (zT a b*p) e hlt (by omega) (by omega) (by omega) m0 w hm ha.1 ha.2.1 h3;have hL:=zJK (T1:=zH (zC F.cs1 16) F.xs1) (T2:=zH (zC F.cs2 16) F.xs2) (N:=zT a b*p) (E:=e) (bs:=F.data);generalize zBB (zH (zC F.cs1 16) F.xs1) (zH (zC F.cs2 16) F.xs2) (zT a b*p) e F.data=r at *;obtain⟨r1,X⟩:=r;unfold PdOf;dsimp only at hL ⊢
 by_cases h0:r1=0
 ·subst h0;refine Calls.mono ?_ (λe' w' h'=>Eq.mpr (if_pos rfl) h');exact zQI F hF s1 s2 A n c e a b p (zT a b) (zT a b*p) ea eb ep ee a1 a2 b1 b2 hp13 rfl rfl W (λW' h'=>C1 W' (h.trans h')) X (hL rfl) (λW' h'=>K1 W' (h.trans h'))
 refine Calls.mono ?_ (λe' w' h'=>Eq.mpr (if_neg h0) h');exact zQk F hF s1 s2 A n c e a b p (zT a b) (zT a b*p) ea eb ep ee a1 a2 b1 b2 hp13 rfl rfl W (λW' h'=>C1 W' (h.trans h')) r1 X h0 (λW' h'=>K1 W' (h.trans h'))
def rescD_any (F:FC) (hF:F.shaped) (hz:F.chk=0) (s1 s2:Value) (A:Option Addr) (n c:Nat) (hn:F.data.length=n) (hlt:∀b∈F.data,b<256) (m0:Int) (w:World) (hm:w.cell? ⟨0,0,none⟩=some (.int .i64 m0)) (ha:F.at_ w s1 s2 (.slice A n c)) (a b p e:Nat) (ea:F.wd=a) (eb:F.hi=b) (ep:F.pt=p) (ee:F.ev=e) {P:List (List Nat)} {M:List Nat} (hsp:xW F.data [] [] []=some (P,M)) (W:World) (h:Ext w W):Calls prog 22 #[.agg (F.cells s1 s2 (.slice A n c))] W
 (RcIs 0 a b (zAh F.qs (vG (zH (zC F.cs1 16) F.xs1) (zH (zC F.cs2 16) F.xs2) (zT a b*p) e P (zL (zT a b*p) e)).1 a b p) (vG (zH (zC F.cs1 16) F.xs1) (zH (zC F.cs2 16) F.xs2) (zT a b*p) e P (zL (zT a b*p) e)).2 W):=by
 have C1:=λW (h:Ext w W)=>F.check hF s1 s2 (.slice A n c) W (ha.ext h)
 rw[hz] at C1;obtain⟨a',b',p',ea',eb',ep',a1,a2,b1,b2,hp13,hev0,hev1,hq,z1,z2,hd⟩:=zEj hz;obtain rfl:a=a':=by omega
 obtain rfl:b=b':=by omega
 obtain rfl:p=p':=by omega
 have h3:=ha.2.2;rw[hn] at h3;have hc:=zBx a2 b2;have hm192:zT a b*p≤192:=wJ1 (wO6 hc (show p≤3 by omega)) (by omega);have K1:=mendD_any F.cs1 F.xs1 F.cs2 F.xs2 s1 s2 hF.2.1 hF.2.2 z1 z2 A n c F.data (zT a b*p) e hlt (by omega) (by omega) (by omega) m0 w hm ha.1 ha.2.1 h3 hsp;have hX:(vG (zH (zC F.cs1 16) F.xs1) (zH (zC F.cs2 16) F.xs2) (zT a b*p) e P (zL (zT a b*p) e)).1.length=zT a b*p*64:=by rw[zJg _ (wA5 _),zDj]
 generalize vG (zH (zC F.cs1 16) F.xs1) (zH (zC F.cs2 16) F.xs2) (zT a b*p) e P (zL (zT a b*p) e)=r at *;obtain⟨X,Y⟩:=r;exact zRE F hF s1 s2 A n c e a b p (zT a b) (zT a b*p) ea eb ep ee a1 a2 b1 b2 hp13 rfl rfl W (λW' h'=>C1 W' (h.trans h')) X Y hX (λW' h'=>K1 W' (h.trans h'))
def zPM (T1 T2:List Tok):∀(l:List (Tok×Bool)) (L:List Bool),(∀x∈l,(qL (if x.2 then T1 else T2) x.1.1).isSome=true)→(qB (yV T1 T2) l L).1=0
 | [],_,_=>rfl
 | (t,b)::r,L,h=>by
   have h0:(yV T1 T2 L t b).1=0:=by
    have:=h (t,b) (by simp);unfold yV;dsimp only at this
    cases hf:qL (if b then T1 else T2) t.1 with
    | none=>rw[hf] at this;cases this
    | some u=>rfl
   rw[zBC h0];exact zPM T1 T2 r _ (λx hx=>h x (by simp[hx]))
def zMA {Z:List Int} {n k:Nat}:∀x∈xM Z n k,zBJ x.1:=by intro x hx;unfold xM at hx;obtain⟨i,-,hx⟩:=wS6.1 hx;unfold zAP at hx;obtain⟨p,hp,rfl⟩:=wD2.1 hx;exact zEB _ _ (vA _) _ (wS8 hp)
def has_sym {T:List Tok} {counts:List Int} (h:zEu T counts=true) {t:Tok} (ht:zBJ t) (hl:counts.length=256) (hc:1≤counts.getD t.1.toNat 0):(qL T t.1).isSome=true:=by
 obtain⟨w1,w2,-⟩:=ht;have h1:=wI3.1 h t.1.toNat (wF2.2 (by omega));simp only[wD0,wB3] at h1;have h2:=h1.resolve_left (by omega)
 rwa [wS1 w1] at h2
def zLQ {cs xs counts:List Int} {m:Int} (h:zDs cs xs counts=(m,0)):zQ cs xs=0∧zEu (zH (zC cs 16) xs) counts=true:=by
 unfold zDs at h
 by_cases h1:zQ cs xs=0
 ·rw[if_pos h1] at h
  by_cases h2:qQ counts=0
  ·rw[if_pos h2] at h
   cases h3:zEu (zH (zC cs 16) xs) counts with
   | true=>exact⟨h1,rfl⟩
   | false=>rw[h3] at h;simp at h
  rw[if_neg h2] at h;injection h with _ h
  exact absurd h h2
 rw[if_neg h1] at h;injection h with _ h
 exact absurd h h1
def zKv {T1 T2:List Tok} {n e:Nat} {Z:List Int}:∀(m i:Nat) (acc:List Nat),(∀j,i≤j→j<i+m→(xN (yV T1 T2) (yT n e j) (yD n e j Z) []).1=0)→(zAF T1 T2 n e Z m i acc).1=0
 | 0,_,_,_=>rfl
 | m+1,i,acc,h=>by
   have h0:(zDN T1 T2 (min (n-i*yM n e) (yM n e)) (yD n e i Z)).1=0:=h i (wA5 _) (by omega);rw[zJF rfl h0];exact zKv m (i+1) _ (λj a b=>h j (by omega) (by omega))
def few_ok {n e:Nat} {Z:List Int} (hE:qJ n Z=0) (hn:n≤64) {cs1 xs1 cs2 xs2:List Int} (l1:cs1.length=16) (l2:cs2.length=16) (t1:zDJ (xJ n e Z (zL n e)).1 cs1 xs1) (t2:zDJ (xJ n e Z (zL n e)).2 cs2 xs2) :
 zQ cs1 xs1=0∧zQ cs2 xs2=0∧(zBN (zH (zC cs1 16) xs1) (zH (zC cs2 16) xs2) n e Z).1=0:=by
 obtain⟨⟨⟨b1,b2⟩,b3,b4⟩,-,-,hf⟩:=zKf (e:=e) hE (by omega) (zL n e) (wA5 _);rw[zDj] at b3 b4
 have bc:∀l:List Int,l.length=256→(∀z∈l,0≤z∧z≤((n*65:Nat):Int))→qQ l=0:=λl h1 h2=>by
  unfold qQ;rw[if_neg (by omega),if_pos (yJ.2 λz hz=>by have:=h2 z hz;omega)]
 have c1:=bc _ b1 b3;have c2:=bc _ b2 b4;obtain⟨m1,e1,-⟩:=BM.fewest (cs':=cs1) (xs':=xs1) (t1.1 c1) c1 l1;obtain⟨m2,e2,-⟩:=BM.fewest (cs':=cs2) (xs':=xs2) (t2.1 c2) c2 l2;obtain⟨z1,a1⟩:=zLQ e1;obtain⟨z2,a2⟩:=zLQ e2;refine⟨z1,z2, ?_⟩;unfold zBN;rw[if_neg (by simpa using hE)];refine zKv (zL n e) 0 [] λj _ hj=> ?_
 have hp:=zCh.1 (zHH (e:=e) (i:=j) hE);unfold xN;have h400:yT n e j≤400:=hp.1;rw[if_neg (by omega),yJ.2 hp.2,if_neg (by simp)];refine zPM _ _ _ _ λx hx=> ?_
 have hw:=zMA x hx;have h9:=hf j (by omega) x hx (by have:=hw.1;have:=hw.2.1;omega);obtain⟨t,bb⟩:=x
 cases bb with
 | true=>exact has_sym a1 hw b1 h9
 | false=>exact has_sym a2 hw b2 h9
def zFN (x:Nat→List Nat) (k:Nat):jA x 0 (k+1)=jA x 0 k++(zAX k++yA (x k)):=by unfold jA;rw[←wT9, ←wT9,wG5,wP1];simp
def zLi (i:Nat):(zAX i).length≤2∧∀b∈zAX i,b<256:=by
 unfold zAX;split
 ·exact⟨by simp,λb h=>by cases h⟩
 refine⟨by simp,λb h=> ?_⟩;simp at h;omega
def segB_len {T1 T2:List Tok} (f1:zBg T1) (f2:zBg T2) {n e:Nat} {Z:List Int} (j:Nat):(zCC T1 T2 n e Z j).length≤228*yT n e j+1:=by
 unfold zCC;rw[zCo]
 have hL:(xN (yV T1 T2) (yT n e j) (yD n e j Z) []).2.length≤1820*yT n e j:=by
  unfold xN;split
  ·simp
  split
  ·simp
  have h1:=zLk f1 f2 (xM (yD n e j Z) (yT n e j) 0) [] (λt ht=>zMA t ht);have h2:=zGh (yD n e j Z) (yT n e j) (yT n e j) 0 (by omega);simp only[wJ0] at h1;omega
 unfold vU;rw[wE2,wM9];omega
def zRq {T1 T2:List Tok} (f1:zBg T1) (f2:zBg T2) {n e:Nat} {Z:List Int}:∀k,k≤zL n e→(jA (zCC T1 T2 n e Z) 0 k).length≤4*k+456*atK n e k∧∀b∈jA (zCC T1 T2 n e Z) 0 k,b<256
 | 0,_=>⟨by simp[jA],λb h=>by simp[jA] at h⟩
 | k+1,hk=>by
   obtain⟨i1,i2⟩:=zRq f1 f2 (n:=n) (e:=e) (Z:=Z) k (by omega);have h1:=segB_len f1 f2 (n:=n) (e:=e) (Z:=Z) k;have h2:=zEr (zCC T1 T2 n e Z k);obtain⟨h3,h4⟩:=zLi k;have ha:=zBG (n:=n) (e:=e) (i:=k) (by omega);rw[zFN];refine⟨by rw[wE2,wE2];omega,λb hb=> ?_⟩;rcases wD3.1 hb with h | h
   ·exact i2 b h
   rcases wD3.1 h with h | h
   ·exact h4 b h
   refine zQf (λy hy=> ?_) b h;unfold zCC at hy;exact zLs _ y hy
def zMS (xs q:List Int) (a b:Nat) (a1:1≤a) (a2:a≤64) (b1:1≤b) (b2:b≤64) (hx:xs.length=a*b) (hv:zR xs 0 255=true) (hq:zR q 1 255=true) :
 zO a b [xs] q=(0,zT a b,zAa q (zBD xs a b) (zT a b)):=by
 have hs:=zLP a1 a2 b1 b2
 have hc:zAD xs a b=0:=by
  unfold zAD;rw[if_pos hs,if_pos (by rw[hx];push_cast;rfl),if_pos hv]
 have hp:zDM a b [xs]=0:=by unfold zDM;rw[if_pos hs,if_pos (by simp)];simp[zBE,hc]
 have hn:vT xs a b=zT a b:=by unfold vT;rw[if_pos hc];simp
 have hz:zBc xs a b=zBD xs a b:=by unfold zBc;rw[if_pos hc];simp
 unfold zO;rw[if_pos hp,if_pos hq];show (0,zAs a b [xs],zBV _ a b [xs])=_
 unfold zAs zBV;simp only[wG6,wG7,wP2,List.sum_nil,wG2,wG8,wG9,hn,hz,Nat.add_zero]
structure Thru (F:FC) (q:List Int) (a b e:Nat) (Z:List Int):Prop where
 shaped:F.shaped
 chk:F.chk=0
 lt:∀y∈F.data,y<256
 wd:F.wd=a
 hi:F.hi=b
 pt:F.pt=(1:Nat)
 ev:F.ev=e
 qs:F.qs=q
 z1:zQ F.cs1 F.xs1=0
 z2:zQ F.cs2 F.xs2=0
 sc:(zBN (zH (zC F.cs1 16) F.xs1) (zH (zC F.cs2 16) F.xs2) (zT a b) e Z).1=0
 data:F.data=jA (zCC (zH (zC F.cs1 16) F.xs1) (zH (zC F.cs2 16) F.xs2) (zT a b) e Z) 0 (zL (zT a b) e)
 dec:zBB (zH (zC F.cs1 16) F.xs1) (zH (zC F.cs2 16) F.xs2) (zT a b*1) e F.data=(0,Z)
def zTn {xs q:List Int} {a b e:Nat} (a1:1≤a) (a2:a≤64) (b1:1≤b) (b2:b≤64) (hx:xs.length=a*b) (hv:zR xs 0 255=true) (hq:q.length=64) (hq1:zR q 1 255=true) (he:e≤100) {E:Int} {F:FC}
 (h:zDP a b [xs] q (e:Int) E F):E=0∧Thru F q a b e (zAa q (zBD xs a b) (zT a b)):=by
 have hfr:=zMS xs q a b a1 a2 b1 b2 hx hv hq1
 have hE:qJ (zT a b) (zAa q (zBD xs a b) (zT a b))=0:=by
  have:=zLg a b [xs] q;rw[hfr] at this;exact this
 have hZ:(zAa q (zBD xs a b) (zT a b)).length=zT a b*64:=zEN q _ hq _;have hn:=zBx a2 b2;unfold zDP at h;rw[hfr] at h;rw[if_neg (by simp),if_neg (by omega),wD7] at h;dsimp only at h;generalize zAa q (zBD xs a b) (zT a b)=Z at *;generalize hN:zT a b=n at *;obtain⟨cs1,xs1,cs2,xs2,t1,t2,l1,l2,hs,hF⟩:=h;obtain⟨z1,z2,hsc⟩:=few_ok hE hn l1 l2 t1 t2
 have hez:zAr cs1 xs1 cs2 xs2 (e:Int) n Z=zBN (zH (zC cs1 16) xs1) (zH (zC cs2 16) xs2) n e Z:=by
  unfold zAr;rw[if_neg (by omega),if_neg (by unfold twoE;rw[if_pos z1,z2];simp),wD7]
 rw[hez] at hs hF;obtain⟨hd,-,hdec⟩:=zGM l1 l2 z1 z2 hZ hsc;obtain⟨j1,j2⟩:=zRq (zEJ cs1 xs1 l1 z1) (zEJ cs2 xs2 l2 z2) (n:=n) (e:=e) (Z:=Z) (zL n e) (wA5 _);rw[zDj] at j1;have hk:=zEO (n:=n) (e:=e);rw[hsc] at hs;subst hs;rw[if_pos rfl] at hF;subst hF;refine⟨rfl,⟨hq,l1,l2⟩, ?_, ?_,rfl,rfl,rfl,rfl,rfl,z1,z2,by rw[hN];exact hsc,by rw[hN];exact hd,by rw[hN,wD8];exact hdec⟩
 ·unfold FC.chk zDI;dsimp only
  have ha:zCa (a:Int) (b:Int) ((([xs]:List (List Int)).length:Nat):Int) (e:Int)=true:=by
   unfold zCa;simp[uJ];omega
  rw[ha,hq1,if_pos (by simp),if_pos z1,if_pos z2,if_neg];rw[hd];omega
 dsimp only;rw[hd];exact j2
def zSb {a b:List Int} {M N:Nat} (ha:a.length=256) (hb:b.length=256) (h1:∀z∈a,0≤z∧z≤(M:Int)) (h2:∀z∈b,0≤z∧z≤(N:Int)) (hM:M+N<100000000) (j:Nat):(zAw a b).getD j 0=a.getD j 0+b.getD j 0:=by
 by_cases hj:j<256
 ·have x1:=h1 _ (wC7 (show j<a.length by omega));have x2:=h2 _ (wC7 (show j<b.length by omega));unfold zAw;rw[wH7,wH7,wH7,wQ0,wA2 (by omega),wA2 (by omega)];simp only[wN0];rw[zKV (by omega) (by omega)]
 have hl:=zBI (a:=a) (b:=b) (by omega);rw[wH7,wH7,wH7,wO2 (by omega),wO2 (by omega),wO2 (by omega)];rfl
def uO (n e:Nat) (Z:List Int) (i:Nat):List (Tok×Bool):=xM (yD n e i Z) (yT n e i) 0
def zIy {n e:Nat} {Z:List Int} {i:Nat}:∀x∈uO n e Z i,zBJ x.1:=zMA
def jF (f:Nat→Int):Nat→Int
 | 0=>0
 | k+1=>jF f k+f k
def zJD (T1 T2:List Tok) {n e:Nat} {Z:List Int} (hE:qJ n Z=0) (hn:n*65<100000000):∀k,k≤zL n e →
 qS T1 (xJ n e Z k).1 256+qS T2 (xJ n e Z k).2 256=jF (λi=>zBP T1 T2 (uO n e Z i)) k
 | 0,_=>by
   have h0:xJ n e Z 0=(z256,z256):=by rw[xJ]
   rw[h0,zDw,zDw];rfl
 | k+1,hk=>by
   have ih:=zJD T1 T2 (e:=e) hE hn k (by omega);obtain⟨b1,l1,l2,-⟩:=zKf (e:=e) hE hn k (by omega);have hp:=zHH (e:=e) (i:=k) hE;obtain⟨-,-,he⟩:=each_0c _ (yD n e k Z) (z256,z256) hp;have hfl:=zGh (yD n e k Z) (yT n e k) (yT n e k) 0 (by omega);have ha:=zBG (n:=n) (e:=e) (i:=k) (by omega);have hle:=zMt n e (k+1);have h65:(atK n e k+yT n e k)*65≤n*65:=wO9 _ (by omega);rw[wE3] at h65;have hw:∀x∈uO n e Z k,0≤x.1.1∧x.1.1≤255:=λx hx=>⟨(zIy x hx).1,(zIy x hx).2.1⟩
   obtain⟨c1,-,-⟩:=cnt_bd (uO n e Z k) (z256,z256) 0 zKM (by unfold uO;omega);have hc:=zRD T1 T2 (uO n e Z k) (z256,z256) 0 zKM (by unfold uO;omega) hw;dsimp only at hc;rw[zDw,zDw] at hc;have hstep:xJ n e Z (k+1)=(zAw (xJ n e Z k).1 (xN yQ (yT n e k) (yD n e k Z) (z256,z256)).2.1,zAw (xJ n e Z k).2 (xN yQ (yT n e k) (yD n e k Z) (z256,z256)).2.2):=by rw[xJ];rfl
   have he':xN yQ (yT n e k) (yD n e k Z) (z256,z256)=qB yQ (uO n e Z k) (z256,z256):=he;have hfl':(uO n e Z k).length≤yT n e k*65:=hfl;rw[hstep,he',jF, ←ih];generalize qB yQ (uO n e Z k) (z256,z256)=u at *;generalize xJ n e Z k=v at *;generalize uO n e Z k=l at *;obtain⟨u0,u1,u2⟩:=u;obtain⟨⟨-,-⟩,d1,d2⟩:=b1;obtain⟨⟨y1,y2⟩,d3,d4⟩:=c1;dsimp only at hc y1 y2 d3 d4 ⊢;rw[zIn T1 (zSb l1 y1 d1 d3 (by omega)) 256,zIn T2 (zSb l2 y2 d2 d4 (by omega)) 256];omega
def zBo (e:Nat):Int:=if e=1 then 0 else 114688
def zEL (e:Nat):List Tok:=if e=1 then tab0 else tab4
def lenT_tab4 {s:Int} (h0:0≤s) (h1:s≤12):jL tab4 s=4:=by
 have h:=(zQo ⟨s.toNat,by omega⟩).2 (by show s.toNat<13;omega);have e:((s.toNat:Nat):Int)=s:=by omega
 dsimp only at h;rw[e] at h;exact h
def zMK (T:List Tok):∀l:List Tok,(∀t∈l,0≤t.1∧t.1≤255)→16384*(zBP T tab0 (l.map λu=>(u,false))+zCX (l.map λu=>(u,false)))=sumP zDL l
 | [],_=>rfl
 | t::r,h=>by
   have ht:=h t (by simp);have ih:=zMK T r λy hy=>h y (by simp[hy])
   rw[wG6,zDl,zBP,zCX, ←ih]
   have:jL (if (t,false).2=true then T else tab0) (t,false).1.1=zDL t.1:=by
    rw[if_neg (by simp)];exact zPb ht.1 ht.2
   rw[this];unfold zEE;dsimp only;omega
def first_tab (e:Nat) (c b:Int) (hb:e=1→b=0) (hc: -2047≤c∧c≤2047):16384*((jL (zEL e) (qZ 0 (c-b)).1:Int)+(qZ 0 (c-b)).2.1)≤139264+c*c+8192+zBo e:=by
 have hw:=zSA (c-b)
 by_cases h:e=1
 ·have h1:=zTY c hc;unfold zEL zBo;rw[hb h,Int.sub_zero,if_pos h,if_pos h] at *;unfold zEE at h1;rw[zPb (by unfold qZ;dsimp only;omega) (by unfold qZ;dsimp only;omega)];omega
 unfold zEL zBo;rw[if_neg h,if_neg h];have hs:=zGQ c;rw[lenT_tab4 (by unfold qZ;dsimp only;omega) (by unfold qZ;dsimp only;omega)];unfold qZ;dsimp only;omega
def zto_rng {b:List Int} (h:∀x∈b,-2047≤x∧x≤2047):∀x∈zto b,-2047≤x∧x≤2047:=by
 intro x hx;unfold zto at hx;obtain⟨i,hi,rfl⟩:=wD2.1 hx;rw[wH7]
 cases h1:b[(vB i).toNat]? with
 | none=>simp
 | some x=>exact h x (wM8 h1)
def zUp (e:Nat) {Z:List Int} {k:Nat} (hk:e=1→k=0) (hb:∀x∈Z,-2047≤x∧x≤2047) (hE:uV (yP Z k)≤1057500) :
 16384*(zBP (zEL e) tab0 (zAP (uM Z k))+zCX (zAP (uM Z k)))≤9970396+zBo e+8192*((zAP (uM Z k)).length:Int):=by
 have hz:=zto_rng (b:=yP Z k) λx hx=>hb x (zEv hx)
 have hp:=phi_zto (yP Z k);have hl:=vA (yP Z k);have hwf:=zEB (vW Z k) (zto (yP Z k)) hl;have hbf:e=1→vW Z k=0:=λh=>by unfold vW;rw[if_pos (hk h)]
 unfold uM;rw[zBR _ _ hl] at hwf ⊢;generalize vW Z k=b at *;generalize uV (yP Z k)=en at *;generalize zto (yP Z k)=z at *
 match z,hl with
 | c::l,hl =>
   have h1:=first_tab e c b hbf (hz c (by simp));have h2:=zIK l 0 (λx hx=>hz x (by simp[hx]));have h3:=zMK (zEL e) (vC 0 l) (λt ht=>by have:=hwf t (wR9 _ (by simpa using ht));exact⟨this.1,this.2.1⟩);rw[zRz] at hp;rw[zHj,zBP,zCX,if_pos rfl];simp only[wA8,wQ9,wK1,wK2,List.getD_cons_zero] at h1 h2 h3 ⊢;generalize c*c=u at *;generalize phi l=v at *;generalize sumP zDL (vC 0 l)=y at *;generalize zBP (zEL e) tab0 _=o at *;generalize zCX _=r at *;generalize zBo e=X at *;generalize (jL (zEL e) (qZ 0 (c-b)).1:Int)=m at *;generalize (qZ 0 (c-b)).2.1=m2 at *
   push_cast
   omega
def zJR (e:Nat) {Z:List Int} {n:Nat} (hn:e=1→n≤1) (hb:∀x∈Z,-2047≤x∧x≤2047) (hE:∀k,k<n→uV (yP Z k)≤1057500):∀m k,k+m=n →
 16384*(zBP (zEL e) tab0 (xM Z n k)+zCX (xM Z n k))≤(m:Int)*(9970396+zBo e)+8192*((xM Z n k).length:Int)
 | 0,k,h=>by
   obtain rfl:k=n:=by omega
   rw[zEe,zBP,zCX];simp
 | m+1,k,h=>by
   have h1:=zUp e (Z:=Z) (k:=k) (λhe=>by have:=hn he;omega) hb (hE k (by omega));have h2:=zJR e hn hb hE m (k+1) (by omega);rw[zCn Z n k (by omega),zQu,zRR,wE2];have e3:((m+1:Nat):Int)*(9970396+zBo e)=(m:Int)*(9970396+zBo e)+(9970396+zBo e):=by push_cast;rw[wC5];omega
   rw[e3];generalize (m:Int)*(9970396+zBo e)=q at *
   push_cast
   omega
def piece_blk {n e i j:Nat} {Z:List Int} (hj:j<yT n e i):yP (yD n e i Z) j=yP Z (i*yM n e+j):=by
 unfold yT at hj;unfold yP yD
 rw[List.drop_take,List.take_take,wG0,wE3,wQ8 (by
  rw[←Nat.sub_mul];have:1≤min (n-i*yM n e) (yM n e)-j:=by omega
  have:=wO9 64 this
  omega)]
def zNo {f g:Nat→Int}:∀k,(∀i,i<k→f i≤g i)→jF f k≤jF g k
 | 0,_=>wN7 _
 | k+1,h=>by
   have:=zNo k λi hi=>h i (by omega)
   have:=h k (by omega);rw[jF,jF];omega
def zEI (f g:Nat→Int):∀k,jF (λi=>f i+g i) k=jF f k+jF g k
 | 0=>rfl
 | k+1=>by rw[jF,jF,jF,zEI f g k];omega
def zFz (c:Int) (f:Nat→Int):∀k,jF (λi=>c*f i) k=c*jF f k
 | 0=>by rw[jF,jF,Int.mul_zero]
 | k+1=>by rw[jF,jF,zFz c f k,wQ2]
def zPq (c:Int) (f:Nat→Int):∀k,jF (λi=>f i*c) k=jF f k*c
 | 0=>by rw[jF,jF,Int.zero_mul]
 | k+1=>by rw[jF,jF,zPq c f k,wC5]
def zNX (c:Int):∀k,jF (λ_=>c) k=(k:Int)*c
 | 0=>by rw[jF];simp
 | k+1=>by rw[jF,zNX c k];push_cast;rw[wC5];omega
def zPm (n e:Nat):∀k,k≤zL n e→jF (λi=>((yT n e i:Nat):Int)) k=((atK n e k:Nat):Int)
 | 0,_=>by rw[jF,zHU];rfl
 | k+1,h=>by rw[jF,zPm n e k (by omega),zBG (by omega)];push_cast;rfl
def zNw {counts cs xs cs' xs':List Int} (hb:qQ counts=0) (hM:BM.Made counts cs xs) (hc:counts.length=256) (hl:cs'.length=16) (hz:zQ cs' xs'=0) (ha:∀s:Fin 256,(qL (zH (zC cs' 16) xs') (s.val:Int)).isSome=true) :
 qS (zH (zC cs 16) xs) counts 256≤qS (zH (zC cs' 16) xs') counts 256:=by
 obtain⟨m,e1,h⟩:=BM.fewest (cs':=cs') (xs':=xs') hM hb hl;obtain⟨z1,a1⟩:=zLQ e1;have hall:zEu (zH (zC cs' 16) xs') counts=true:=zNF λk hk=>.inr (ha ⟨k,by omega⟩)
 have e2:zDs cs' xs' counts=(qS (zH (zC cs' 16) xs') counts counts.length,0):=by
  unfold zDs;rw[if_pos hz,if_pos hb,if_pos hall]
 have e3:zDs cs xs counts=(qS (zH (zC cs 16) xs) counts counts.length,0):=by
  unfold zDs;rw[if_pos z1,if_pos hb,if_pos a1]
 have h4:=h _ e2;rw[e3] at e1;have e5:qS (zH (zC cs 16) xs) counts counts.length=m:=congrArg Prod.fst e1;rw[hc] at h4 e5;rw[e5];exact h4
def zMq {n e:Nat} (he:1≤e) (hn:n≤64):zL n e≤64∧(e≠1→zL n e≤32):=by
 by_cases h0:n=0
 ·have:=(zDm (n:=n) (e:=e) (.inr h0)).2;omega
 have hc:¬(e=0∨n=0):=by omega
 have a1:=zFi (n:=n) (e:=e) (i:=64) hc;have a2:=zFi (n:=n) (e:=e) (i:=32) hc;refine⟨wQ6 λh=> ?_,λh1=>wQ6 λh=> ?_⟩
 ·have:=a1.1 h;omega
 have:=a2.1 h;omega
def zVG {n e:Nat} (he:1≤e) (hn:n≤64) {Z:List Int} (hE:qJ n Z=0) (hen:∀k,k<n→uV (yP Z k)≤1057500) {cs1 xs1 cs2 xs2:List Int} (l1:cs1.length=16) (l2:cs2.length=16) (z1:zQ cs1 xs1=0) (z2:zQ cs2 xs2=0)
 (m1:qQ (xJ n e Z (zL n e)).1=0∧BM.Made (xJ n e Z (zL n e)).1 cs1 xs1) (m2:qQ (xJ n e Z (zL n e)).2=0∧BM.Made (xJ n e Z (zL n e)).2 cs2 xs2)
 (hs:∀j,j<zL n e→(xN (yV (zH (zC cs1 16) xs1) (zH (zC cs2 16) xs2)) (yT n e j) (yD n e j Z) []).1=0) :
 jF (λi=>(((yA (zCC (zH (zC cs1 16) xs1) (zH (zC cs2 16) xs2) n e Z i)).length:Nat):Int)) (zL n e)+2*(zL n e:Int)≤10000:=by
 obtain⟨-,f1,f2,-⟩:=zKf (e:=e) hE (by omega) (zL n e) (wA5 _)
 have c1:qS (zH (zC cs1 16) xs1) (xJ n e Z (zL n e)).1 256≤qS (zEL e) (xJ n e Z (zL n e)).1 256:=by
  unfold zEL
  by_cases h:e=1
  ·rw[if_pos h];exact zNw m1.1 m1.2 f1 rfl tab0_ok (λs=>(zLy s).1)
  rw[if_neg h];exact zNw m1.1 m1.2 f1 rfl tab4_ok (λs=>(zQo s).1)
 have c2:qS (zH (zC cs2 16) xs2) (xJ n e Z (zL n e)).2 256≤qS tab0 (xJ n e Z (zL n e)).2 256:=zNw m2.1 m2.2 f2 rfl tab0_ok (λs=>(zLy s).1);have g1:=zJD (zH (zC cs1 16) xs1) (zH (zC cs2 16) xs2) (e:=e) hE (by omega) (zL n e) (wA5 _);have g2:=zJD (zEL e) tab0 (e:=e) hE (by omega) (zL n e) (wA5 _)
 have p1:∀i,i<zL n e→8*(((yA (zCC (zH (zC cs1 16) xs1) (zH (zC cs2 16) xs2) n e Z i)).length:Nat):Int)+(((uO n e Z i).length:Nat):Int)≤2*(zBP (zH (zC cs1 16) xs1) (zH (zC cs2 16) xs2) (uO n e Z i)+zCX (uO n e Z i))+14:=λi hi=>by
  have h1:=zSl l1 l2 z1 z2 (hs i hi);have h2:=zQy (zH (zC cs1 16) xs1) (zH (zC cs2 16) xs2) (uO n e Z i) (λx hx=>(zIy x hx).2.2.1);rw[←h2];unfold zCC uO;omega
 have p2:∀i,i<zL n e→16384*(zBP (zEL e) tab0 (uO n e Z i)+zCX (uO n e Z i))≤((yT n e i:Nat):Int)*(9970396+zBo e)+8192*(((uO n e Z i).length:Nat):Int):=λi hi=>by
  have hp:=zCh.1 (zHH (e:=e) (i:=i) hE);have hat:=zBG (n:=n) (e:=e) (i:=i) hi;have hle:=zMt n e (i+1);have hcut:=zGC (n:=n) (e:=e) (i:=i) hi;refine zJR e (λh=> ?_) hp.2 (λk hk=> ?_) (yT n e i) 0 (by omega)
  ·subst h;unfold yT yM;split<;>omega
  rw[piece_blk hk];refine hen _ ?_;unfold yT at hk;omega
 have q1:=zNo (zL n e) p1;have q2:=zNo (zL n e) p2;rw[zEI,zEI,zFz,zFz,zEI,zNX] at q1;rw[zFz,zEI,zEI,zFz,zPq,zPm n e _ (wA5 _),zDj] at q2;have hk:=zMq (n:=n) he hn;rw[←g1] at q1;rw[←g2] at q2;generalize jF (λi=>(((yA (zCC (zH (zC cs1 16) xs1) (zH (zC cs2 16) xs2) n e Z i)).length:Nat):Int)) (zL n e)=L at *;generalize jF (λi=>(((uO n e Z i).length:Nat):Int)) (zL n e)=TK at *;generalize jF (λi=>zCX (uO n e Z i)) (zL n e)=S at *;generalize qS (zH (zC cs1 16) xs1) _ _=B1 at *;generalize qS (zH (zC cs2 16) xs2) _ _=B2 at *;generalize qS (zEL e) _ _=D1 at *;generalize qS tab0 _ _=D2 at *;have hN:(n:Int)*(9970396+zBo e)≤64*(9970396+zBo e):=wC3 (by omega) (by unfold zBo;split<;>omega);generalize (n:Int)*(9970396+zBo e)=NX at *;generalize zL n e=K at *;unfold zBo at hN
 by_cases h1:e=1
 ·rw[if_pos h1] at hN;omega
 rw[if_neg h1] at hN;have:=hk.2 h1;omega
def zOe (x:Nat→List Nat):∀k,((jA x 0 k).length:Int)≤jF (λi=>(((yA (x i)).length:Nat):Int)) k+2*(k:Int)
 | 0=>by simp[jA,jF]
 | k+1=>by
   have h1:=zOe x k;have h2:=(zLi k).1;rw[zFN,wE2,wE2,jF]
   push_cast
   omega
def zDC (x:Nat→List Nat) (k:Nat) (y:List Nat) (j:Nat):List Nat:=if j=k then y else x j
def zPH (x:Nat→List Nat) (k:Nat) (y:List Nat):∀m,jF (λi=>(((yA (zDC x k y i)).length:Nat):Int)) m≤jF (λi=>(((yA (x i)).length:Nat):Int)) m+if k<m then ((yA y).length:Int) else 0
 | 0=>by rw[jF,jF,if_neg (by omega)];omega
 | m+1=>by
   have ih:=zPH x k y m;rw[jF,jF];unfold zDC at ih ⊢
   by_cases h:m=k
   ·subst h;rw[if_neg (by omega)] at ih;rw[if_pos rfl,if_pos (by omega)];omega
   rw[if_neg h]
   by_cases h2:k<m
   ·rw[if_pos h2] at ih;rw[if_pos (by omega)];omega
   rw[if_neg h2] at ih;rw[if_neg (by omega)];omega
def zLx {x:Nat→List Nat} (h:∀j,∀b∈x j,b<256):∀k,∀b∈jA x 0 k,b<256
 | 0,b,hb=>by simp[jA] at hb
 | k+1,b,hb=>by
   rw[zFN] at hb;rcases wD3.1 hb with hb | hb
   ·exact zLx h k b hb
   rcases wD3.1 hb with hb | hb
   ·exact (zLi k).2 b hb
   exact zQf (h k) b hb
