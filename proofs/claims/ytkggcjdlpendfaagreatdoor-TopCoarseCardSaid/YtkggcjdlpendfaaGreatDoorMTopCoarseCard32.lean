/- Contracts of the functions that the law reaches, part 32. -/
import Derived.Test.YtkggcjdlpendfaaGreatDoorMTopCoarseCard31
namespace Go.Proofs.YtkggcjdlpendfaaGreatDoor
set_option linter.unusedVariables false
set_option linter.unusedSimpArgs false
set_option maxRecDepth 20000
set_option maxHeartbeats 8000000
open Go.RowKit
section
theorem zJf:zAP Tryz.prog 110:=⟨_,Tryz.func110,by kernel_rfl,by kernel_rfl⟩
theorem ext_grow {a w w':World} (h:Ext a w) {row:Option Nat} (hg:w.grownBy w' row) (hB: ∀ b,row=some b→a.heap.size≤b):Ext a w':=Below.grown h hg h.size (fun k hk=>hB k hk)
theorem zIk (tt:Array Value) (hsz0:tt.size=34) (v:Value) (nn ev:Int) (z:Int) (P:List (List Nat)) (hz:z≠0) (w:World)
 (WC: ∀ W,Ext w W→Calls Tryz.prog 122 #[.agg tt,v,.int .i64 nn,.int .i64 ev] W (WhIs z P W)):Calls Tryz.prog 63 #[.agg tt,v,.int .i64 nn,.int .i64 ev] w (zCw (z,[]) w):=by
 have HWC:=zA (fun W h=>(WC W h).mono (fun e W' (h:WhIs z P W e W')=>show e=.returned (.tuple #[.slice none 0 0,.int .i64 z])∧Ext W W' by obtain⟨hx,h⟩:=h;rw[if_neg hz] at h;exact⟨h,hx⟩))
 have hsz:=zA hsz0
 have hzb:(z !=0)=true:=by simpa using hz
 have HZ:=zA hz
 clear WC hsz0 hz
 go_enter Tryz.func63,Tryz.ntmps63
 go_wp2_with (first
  | ((with_reducible apply gS 4);refine wBox rfl 44 (.tmp 0) rfl tt rfl ?_;intro w1 g hb1 hx1 hg)
  | ((with_reducible apply gS 18);refine wLdB rfl 44 (.tmp 4) rfl g rfl hb1 _ Tryz.underlying44 rfl 34 qA hsz.out ?_)
  | (go_at_call 122;(with_reducible refine (HWC.out _ hx1).mono ?_);rintro e w2 ⟨rfl,hx2⟩))
 refine bodyPost_ret (results_tmp2 rfl _ _ _) rfl ?_
 refine⟨hx1.trans hx2, ?_⟩
 rw[if_neg HZ.out]
 rfl
attribute [local irreducible] zD bv zAx qS yP yK plZ uB
theorem zNX (T1 T2:List Tok) (tt:Array Value) (hsz0:tt.size=34) (v:Value) (n e:Nat) (hn:n≤400) (he:e≤100) (P:List (List Nat)) (hK:P.length=yK n e) (hPM: ∀ p∈P,p.length≤1048576∧ ∀ b∈p,b<256) (w:World)
 (WC: ∀ W,Ext w W→Calls Tryz.prog 122 #[.agg tt,v,.int .i64 (n:Int),.int .i64 (e:Int)] W (WhIs 0 P W))
 (SD: ∀ W A' m c' bs' nn',Ext w W→SL W 1 (.slice A' m c') m (zD bs')→(A'=none→c'=0)→(∀ b∈bs',b<256)→m≤1048576→Calls Tryz.prog 110 #[.agg tt,.slice A' m c',.int .i64 nn'] W (zCw (uB true T1 T2 nn' (plZ bs')) W)) :
 Calls Tryz.prog 63 #[.agg tt,v,.int .i64 (n:Int),.int .i64 (e:Int)] w (zCw (zAx T1 T2 n e P (yK n e) 0 []) w):=by
 have hsz:=zA hsz0
 have HSP:=zA (fun W=>zHI n e (by omega) (by omega) W)
 have hKl:=zEu (n:=n) (e:=e)
 have HAT:=zA (fun i (h:i<yK n e)=>zGv h)
 obtain⟨R,hRR⟩: ∃ R,zAx T1 T2 n e P (yK n e) 0 []=R:=⟨_,rfl⟩
 have HR0:Hid (zAx T1 T2 n e P (yK n e-0) 0 []=R):=zA hRR
 rw[hRR]
 obtain⟨K,hKK⟩: ∃ K,yK n e=K:=⟨_,rfl⟩
 rw[hKK] at HSP HR0 HAT hKl hK
 have HPK:=zA hK
 have HWC:=zA (fun W h=>(WC W h).mono (fun e W' (h:WhIs 0 P W e W')=>show ∃ A c VS,e=.returned (.tuple #[.slice A K c,.int .i64 0])∧SL W' 1 (.slice A K c) K VS∧Pieces W' VS P∧NZ VS∧Ext W W' by
  obtain⟨hx,h⟩:=h
  rw[if_pos rfl,hK] at h
  obtain⟨A,c,VS,h1,h2,h3,h4⟩:=h
  exact⟨A,c,VS,h1,h2,h3,h4,hx⟩))
 have HPM:=zA hPM
 have HSD:=zA SD
 clear hRR hKK hK WC hPM SD hsz0
 go_enter Tryz.func63,Tryz.ntmps63
 go_wp2_with (first
  | ((with_reducible apply gS 4);refine wBox rfl 44 (.tmp 0) rfl tt rfl ?_;intro w1 g hb1 hx1 hg)
  | ((with_reducible apply gS 18);refine wLdB rfl 44 (.tmp 4) rfl g rfl hb1 _ Tryz.underlying44 rfl 34 qA hsz.out ?_)
  | (go_at_call 122;(with_reducible refine (HWC.out _ hx1).mono ?_);rintro e2 w2 ⟨PA,pc,VS,rfl,k1,k2,k4,hx2⟩;have hx2':=hx1.trans hx2)
  | (go_at_call 99;(with_reducible refine (HSP.out _).mono ?_);rintro e3 w3 ⟨B3,d3,rfl,hsp,hx3⟩;have hx3':=hx2'.trans hx3))
 have hg3:=(hb1.ext hx2).ext hx3
 have how:OwnV w3 w3.heap.size 33 64 (.slice none 0 0) 0 (ints []):=OwnV.nil _ _ _ _
 have HSP3:=zA hsp
 have HG3:=zA hg3
 have HX3:=zA hx3'
 have HK1:=zA (k1.ext hx3)
 have HK2:=zA (k2.ext hx3)
 have HK4:=zA k4
 clear hb1 hx1 hg hx2 hx2' hx3 hx3' hsp hg3 k1 k2 k4
 go_loopw [12,32] (fun x iv wr=> ∃ (i m:Nat) (acc:List Int),i≤K∧iv=.int .i64 (i:Int)∧m≤i*400∧OwnV wr w3.heap.size 33 64 x m (ints acc)∧Hid (zAx T1 T2 n e P (K-i) i acc=R)∧Ext w3 wr) (fun _ i _=>K-(intOf i).toNat)
 case atStart=>exact⟨0,0,[],by omega,rfl,by omega,how,HR0,Ext.refl _⟩
 case round =>
  clear how HR0
  obtain⟨i,m,acc,hi,rfl,hm,⟨OA,oc,rfl,hown⟩,HR,hx⟩:=hrel
  by_cases hlt:i<K
  ·obtain⟨td,hB,htb,htc⟩:=(HSP3.out.ext hx).part hlt
   subst hB
   obtain⟨pd,u,hB,hpb,hpk,hpc⟩:=HK1.out.at1 hlt
   subst hB
   have hiP:i<P.length:=by rw[HPK.out];exact hlt
   obtain⟨SA,sc,hv,hsl⟩:=HK2.out.2 i hiP
   rw[hv] at hpk
   obtain rfl:=Option.some.inj hpk
   have hnz:=HK4.out _ (wJ8 hv) _ _ _ rfl
   have hpm:=HPM.out P[i] (wE1 hiP)
   have hgd:P.getD i []=P[i]:=by rw[wF2,wA2 hiP];rfl
   obtain⟨lo,hlo⟩: ∃ q,i*yP n e=q:=⟨_,rfl⟩
   obtain⟨hh,hhh⟩: ∃ q,min (lo+yP n e) n=q:=⟨_,rfl⟩
   obtain⟨ln,hln⟩: ∃ q,zAZ n e i=q:=⟨_,rfl⟩
   have hln2:min (n-lo) (yP n e)=ln:=by rw[←hln, ←hlo];rfl
   have e2:((ints (qS n e K)).drop (i*2)).take 2=ints [(lo:Int),(hh:Int)]:=by
    have h:=zEU n e K i hlt
    rw[hlo,hhh] at h
    rw[←h]
    simp[ints,wG9,wG8]
   rw[e2] at htc
   have hlon:lo≤n:=by rw[←hlo];exact HAT.out i hlt
   have hlh:lo≤hh:=by omega
   have hhn:hh≤n:=by omega
   have hd:hh-lo=ln:=by omega
   have HD:=zA hd
   have HTC:=zA htc
   have HBV:=zA (zGw [(lo:Int),(hh:Int)])
   have HS2:=zA (show (bv [(lo:Int),(hh:Int)]).size=2 by rw[zJ];rfl)
   have HS20:=zA (show (Value.agg (bv [0,0])).cells.size=2 by rw[show (Value.agg (bv [0,0])).cells=bv [0,0] from rfl,zJ];rfl)
   have HO2:=zA (xB [(lo:Int),(hh:Int)])
   have HSR:=zA (fun W (h:Ext w3 W)=>HSD.out W SA P[i].length sc P[i] (ln:Int) (HX3.out.trans h) (hsl.ext h) hnz hpm.2 hpm.1)
   have HPC:=zA (fun W (h:Ext w3 W)=>(h.cell (p:=pd.add i) (by rw[yH];exact hpb)).trans hpc)
   have HERa:Hid (∀ r,uB true T1 T2 (ln:Int) (plZ P[i])=r→r.1≠0→R=(r.1,[])):=zA (fun r h h0=>by rw[←HR.out,show K-i=(K-(i+1))+1 by omega];exact sdGo_err (by rw[hln,hgd];exact h) h0)
   have HOKa:Hid (∀ r,uB true T1 T2 (ln:Int) (plZ P[i])=r→r.1=0→zAx T1 T2 n e P (K-(i+1)) (i+1) (acc++r.2)=R):=zA (fun r h h0=>by rw[←HR.out,show K-i=(K-(i+1))+1 by omega];exact (sdGo_ok (by rw[hln,hgd];exact h) h0).symm)
   have hrl:(uB true T1 T2 (ln:Int) (plZ P[i])).1=0→(uB true T1 T2 (ln:Int) (plZ P[i])).2.length=ln*64:=zNY
   obtain⟨r,hr⟩: ∃ r,uB true T1 T2 (ln:Int) (plZ P[i])=r:=⟨_,rfl⟩
   rw[hr] at HSR hrl
   have HER:=zA (HERa.out r hr)
   have HOK:=zA (HOKa.out r hr)
   generalize bv [(lo:Int),(hh:Int)]=sp at *
   have HC0:Hid (sp[0]? =some (.int .i64 (lo:Int))∧sp[1]? =some (.int .i64 (hh:Int))):=zA (by rw[←HBV.out];exact⟨rfl,rfl⟩)
   obtain⟨pl,hpl⟩: ∃ q,P[i].length=q:=⟨_,rfl⟩
   rw[hpl] at HSR HPC
   obtain⟨r1,r2⟩:=r
   dsimp only at hrl HER HOK
   have HRA:Hid (∀ W e W',zCw (r1,r2) W e W'→ ∃ B k d,e=.returned (.tuple #[.slice B k d,.int .i64 r1])∧(r1=0→k=ln∧SL W' 64 (.slice B k d) k (ints r2))∧Ext W W'):=zA (fun W e W' h=>by
    obtain⟨hx,h⟩:=h
    by_cases h0:r1=0
    ·subst h0
     rw[if_pos rfl] at h
     obtain⟨B,k,d,rfl,h1,h2, -⟩:=h
     have h3:=hrl rfl
     exact⟨B,k,d,rfl,fun _=>⟨by dsimp only at h1;omega,h2⟩,hx⟩
    ·rw[if_neg h0] at h
     exact⟨none,0,0,h,fun h=>absurd h h0,hx⟩)
   have htd:td.block<wr.heap.size:=htb
   have hln4:ln≤400:=by omega
   clear htb htc e2 hr hd hln hln2 hhh hlo hlon HR hsl hv hpc hpb hpm hgd hrl hpl hnz
   go_wp2_with (first
    | ((with_reducible apply gS 36);refine yL (by rfl) 139 (.tmp 35) rfl (td.add (i*2)) rfl (ints [(lo:Int),(hh:Int)]) _ HTC.out Tryz.underlying139 rfl vN ?_;rw[HBV.out])
    | ((with_reducible apply gS 14);refine wAlo' rfl (some 14) rfl 139 rfl _ zCO ?_;intro w4 g16 hb4 hx4 hg4)
    | ((with_reducible apply gT 14 36);refine wStB rfl 139 (.tmp 14) (.tmp 36) rfl _ _ rfl rfl hb4 2 vN HS2.out HS20.out HO2.out ?_;intro w5 hb5 hg5;have hx5:Ext wr w5:=hx4.grown hg5 hg4))
   have hx8d:Ext w3 w5.drew:=(hx.trans hx5).drew
   have hb8d:=hb5.drew
   have ho8d:=yJ hown (hx5.drew)
   clear hb4 hx4 hg4 hb5 hg5 hx5
   have HGX:=zA (fun W (h:Ext w5.drew W)=>((HG3.out.ext hx8d).ext h))
   have hI:Ext w5.drew w5.drew:=Ext.refl _
   by_cases h0:r1=0
   ·subst h0
    refine qI (Ext w5.drew) (by kernel_rfl) ?_
    refine xD (k:=0) (by kernel_rfl) rfl (by rfl) (.agg tt) (fun W hW=>zAJ rfl rfl (HGX.out W hW) Tryz.underlying44 rfl qA hsz.out) hI ?_
    simp only[Act.put,sA,sB,sC]
    refine zH (k:=1) (by kernel_rfl) rfl (by rfl) (.slice (some pd) K pc) (zC rfl rfl) hI ?_
    simp only[Act.put,sA,sB,sC]
    refine zH (k:=2) (by kernel_rfl) rfl (by rfl) (.int .i64 (i:Int)) (zC rfl rfl) hI ?_
    simp only[Act.put,sA,sB,sC]
    refine zH (k:=3) (by kernel_rfl) rfl (by rfl) (.pointer (some (pd.add (i*1)))) (jG Tryz.underlying71 zGy rfl rfl rfl hlt) hI ?_
    simp only[Act.put,sA,sB,sC]
    refine xD (k:=4) (by kernel_rfl) rfl (by rfl) (.slice SA pl sc) (fun W hW=>zCM rfl rfl (by rw[wE9];exact HPC.out W (hx8d.trans hW))) hI ?_
    simp only[Act.put,sA,sB,sC]
    refine zH (k:=5) (by kernel_rfl) rfl (by rfl) (.pointer (some ⟨g16,1,none⟩)) (fun w=>by go_simp) hI ?_
    simp only[Act.put,sA,sB,sC]
    refine xD (k:=6) (by kernel_rfl) rfl (by rfl) (.int .i64 (hh:Int)) (fun W hW=>zQ rfl rfl (((hb8d.ext hW).cell 1).trans HC0.out.2)) hI ?_
    simp only[Act.put,sA,sB,sC]
    refine zH (k:=7) (by kernel_rfl) rfl (by rfl) (.pointer (some ⟨g16,0,none⟩)) (fun w=>by go_simp) hI ?_
    simp only[Act.put,sA,sB,sC]
    refine xD (k:=8) (by kernel_rfl) rfl (by rfl) (.int .i64 (lo:Int)) (fun W hW=>zQ rfl rfl (((hb8d.ext hW).cell 0).trans HC0.out.1)) hI ?_
    simp only[Act.put,sA,sB,sC]
    refine zH (k:=9) (by kernel_rfl) rfl (by rfl) (.int .i64 (ln:Int)) (by rw[←HD.out];exact xA (i:=hh) (d:=lo) rfl rfl rfl (by omega) hlh) hI ?_
    simp only[Act.put,sA,sB,sC]
    refine xY (k:=10) (by kernel_rfl) rfl ?_
    refine xH (by rfl) (xI _ _ _ rfl rfl zJf #[.agg tt,.slice SA pl sc,.int .i64 (ln:Int)] (by simp[Act.eval])) ?_
    refine (HSR.out _ hx8d).mono ?_
    intro e9 w9 h9
    obtain⟨B9,k9,d9,rfl,hr9,hx9⟩:=HRA.out _ _ _ h9
    refine⟨_,rfl,zU ⟨hx9, ?_⟩⟩
    simp only[Act.put,sA,sB,sC]
    refine zH (k:=11) (by kernel_rfl) rfl (by rfl) (.tuple #[.slice B9 k9 d9,.int .i64 0]) (zC rfl rfl) hx9 ?_
    simp only[Act.put,sA,sB,sC]
    refine zH (k:=12) (by kernel_rfl) rfl (by rfl) (.slice B9 k9 d9) (yR rfl rfl rfl) hx9 ?_
    simp only[Act.put,sA,sB,sC]
    refine zH (k:=13) (by kernel_rfl) rfl (by rfl) (.int .i64 0) (yR rfl rfl rfl) hx9 ?_
    simp only[Act.put,sA,sB,sC]
    refine zH (k:=14) (by kernel_rfl) rfl (by rfl) (.slice B9 k9 d9) (zW rfl rfl) hx9 ?_
    simp only[Act.put,sA,sB,sC]
    refine zH (k:=15) (by kernel_rfl) rfl (by rfl) (.int .i64 0) (zW rfl rfl) hx9 ?_
    simp only[Act.put,sA,sB,sC]
    refine uE (by kernel_rfl) ?_
    obtain⟨hk9,hs9⟩:=hr9 (by first | rfl | trivial)
    subst hk9
    have ho9:=yJ ho8d hx9
    have hx19:=hx8d.trans hx9
    go_wp2_with (first
     | ((with_reducible apply gS 56);at_builtin;refine wApf zKk rfl (.tmp 54) (.tmp 55) rfl w3.heap.size (.slice OA m oc) m (ints acc) rfl ho9 _ k9 (ints r2) rfl hs9 (qR _) (by omega) (by omega) hx19.size ?_;intro A10 c10 w10 ho10 hgr10 hor10;have hx10:=ext_grow hx19 hgr10 (fun b hb=>(ho9.lt b hb).1)))
    go_roundw
    case rel=>exact⟨i+1,m+k9,acc++r2,by omega,by go_num,by omega,⟨A10,c10,rfl,by rw[uQ];exact ho10⟩,HOK.out (by first | rfl | trivial),hx10⟩
    case measure=>simp[intOf];omega
   ·have h0b:(r1 !=0)=true:=by simpa using h0
    have H0N:=zA h0
    clear h0
    refine qI (Ext w5.drew) (by kernel_rfl) ?_
    refine xD (k:=0) (by kernel_rfl) rfl (by rfl) (.agg tt) (fun W hW=>zAJ rfl rfl (HGX.out W hW) Tryz.underlying44 rfl qA hsz.out) hI ?_
    simp only[Act.put,sA,sB,sC]
    refine zH (k:=1) (by kernel_rfl) rfl (by rfl) (.slice (some pd) K pc) (zC rfl rfl) hI ?_
    simp only[Act.put,sA,sB,sC]
    refine zH (k:=2) (by kernel_rfl) rfl (by rfl) (.int .i64 (i:Int)) (zC rfl rfl) hI ?_
    simp only[Act.put,sA,sB,sC]
    refine zH (k:=3) (by kernel_rfl) rfl (by rfl) (.pointer (some (pd.add (i*1)))) (jG Tryz.underlying71 zGy rfl rfl rfl hlt) hI ?_
    simp only[Act.put,sA,sB,sC]
    refine xD (k:=4) (by kernel_rfl) rfl (by rfl) (.slice SA pl sc) (fun W hW=>zCM rfl rfl (by rw[wE9];exact HPC.out W (hx8d.trans hW))) hI ?_
    simp only[Act.put,sA,sB,sC]
    refine zH (k:=5) (by kernel_rfl) rfl (by rfl) (.pointer (some ⟨g16,1,none⟩)) (fun w=>by go_simp) hI ?_
    simp only[Act.put,sA,sB,sC]
    refine xD (k:=6) (by kernel_rfl) rfl (by rfl) (.int .i64 (hh:Int)) (fun W hW=>zQ rfl rfl (((hb8d.ext hW).cell 1).trans HC0.out.2)) hI ?_
    simp only[Act.put,sA,sB,sC]
    refine zH (k:=7) (by kernel_rfl) rfl (by rfl) (.pointer (some ⟨g16,0,none⟩)) (fun w=>by go_simp) hI ?_
    simp only[Act.put,sA,sB,sC]
    refine xD (k:=8) (by kernel_rfl) rfl (by rfl) (.int .i64 (lo:Int)) (fun W hW=>zQ rfl rfl (((hb8d.ext hW).cell 0).trans HC0.out.1)) hI ?_
    simp only[Act.put,sA,sB,sC]
    refine zH (k:=9) (by kernel_rfl) rfl (by rfl) (.int .i64 (ln:Int)) (by rw[←HD.out];exact xA (i:=hh) (d:=lo) rfl rfl rfl (by omega) hlh) hI ?_
    simp only[Act.put,sA,sB,sC]
    refine xY (k:=10) (by kernel_rfl) rfl ?_
    refine xH (by rfl) (xI _ _ _ rfl rfl zJf #[.agg tt,.slice SA pl sc,.int .i64 (ln:Int)] (by simp[Act.eval])) ?_
    refine (HSR.out _ hx8d).mono ?_
    intro e9 w9 h9
    obtain⟨B9,k9,d9,rfl,hr9,hx9⟩:=HRA.out _ _ _ h9
    refine⟨_,rfl,zU ⟨hx9, ?_⟩⟩
    simp only[Act.put,sA,sB,sC]
    refine zH (k:=11) (by kernel_rfl) rfl (by rfl) (.tuple #[.slice B9 k9 d9,.int .i64 r1]) (zC rfl rfl) hx9 ?_
    simp only[Act.put,sA,sB,sC]
    refine zH (k:=12) (by kernel_rfl) rfl (by rfl) (.slice B9 k9 d9) (yR rfl rfl rfl) hx9 ?_
    simp only[Act.put,sA,sB,sC]
    refine zH (k:=13) (by kernel_rfl) rfl (by rfl) (.int .i64 r1) (yR rfl rfl rfl) hx9 ?_
    simp only[Act.put,sA,sB,sC]
    refine zH (k:=14) (by kernel_rfl) rfl (by rfl) (.slice B9 k9 d9) (zW rfl rfl) hx9 ?_
    simp only[Act.put,sA,sB,sC]
    refine zH (k:=15) (by kernel_rfl) rfl (by rfl) (.int .i64 r1) (zW rfl rfl) hx9 ?_
    simp only[Act.put,sA,sB,sC]
    refine uE (by kernel_rfl) ?_
    go_wp2_with fail
    refine bodyPost_ret (results_tmp2 rfl _ _ _) rfl ?_
    rw[HER.out H0N.out]
    refine⟨HX3.out.trans (hx8d.trans hx9), ?_⟩
    rw[if_neg H0N.out]
    rfl
  ·have hiK:K-i=0:=by omega
   have HR2:Hid (R=(0,acc)):=zA (by rw[←HR.out,hiK,zAx])
   have hnn:=zHb hown
   have hal:acc.length=m*64:=by have:=hown.1;simpa [ints] using this
   clear HR
   go_wp2_with fail
   refine bodyPost_ret (results_tmp2 rfl _ _ _) rfl ?_
   rw[HR2.out]
   refine⟨HX3.out.trans hx, ?_⟩
   rw[if_pos rfl]
   exact⟨OA,m,oc,rfl,hal,(qU hown).1,hnn⟩
end
theorem ex_lenB {o:Oper} {a:Act} {x:Operand} (ho:o.op=.call { callee:=.builtin .len,args:= #[x],argTypes:= #[25] }) {A:Option Addr} {n c:Nat} (hx:a.eval x=.slice A n c) (w:World):(execOp a.eval o).run Tryz.prog w=.ok (.value (.int .i64 (n:Int))) w:=by
 simp[execOp,ho,resolve,invoke,builtin,hx,Result.andThen,Builtin.len_,goInt]
theorem zNK: ∀ (C:List (Nat×Nat)) (xs:List Int),(∀ x∈xs,0≤x∧x≤255)→ ∀ t∈zM C xs,0≤t.1∧t.1≤255
 | [],_,_,t,ht=>by simp[zM] at ht
 | _::_,[],_,t,ht=>by simp[zM] at ht
 | c::C,x::xs,h,t,ht=>by
   simp only[zM,wL6,wJ3] at ht
   rcases ht with rfl | ht
   ·exact h x (by simp)
   ·exact zNK C xs (fun y hy=>h y (by simp[hy])) t ht
theorem tbl_rng {cs xs:List Int} (h:yC cs xs=0): ∀ t∈zM (zG cs 16) xs,0≤t.1∧t.1≤255 :=
 zNK _ _ (fun x hx=>by
  obtain⟨-, -, -, -,h5, -⟩:=zCB h
  exact vF.1 (wB5.1 h5 x hx))
def zDe (wd y x:Nat):Nat:=(y/8*((wd+7)/8)+x/8)*64+(y%8*8+x%8)
def joinAt (Z:List Int) (wd y x:Nat):Int:=qZ (Z.getD (zDe wd y x) 0+128) 0 255
def zHy (Z:List Int) (wd hi:Nat):List Int:=(List.range (wd*hi)).map fun p=>joinAt Z wd (p/wd) (p%wd)
theorem zHS (Z:List Int) (wd hi:Nat):(zHy Z wd hi).length=wd*hi:=by simp[zHy]
def vS (Z:List Int) (wd hi m:Nat):List Int:=(List.range (wd*hi)).map fun p=>if zDe wd (p/wd) (p%wd)<m then joinAt Z wd (p/wd) (p%wd) else 0
theorem zEp (Z:List Int) (wd hi m:Nat):(vS Z wd hi m).length=wd*hi:=by simp[vS]
theorem zOn (Z:List Int) (wd hi:Nat):vS Z wd hi 0=List.replicate (wd*hi) 0:=by
 unfold vS
 apply wH6
 ·simp
 ·intro i h1 h2;simp
theorem jidx_at (wd k j:Nat) (hj:j<64):zDe wd (k/((wd+7)/8)*8+j/8) (k%((wd+7)/8)*8+j%8)=k*64+j:=by
 unfold zDe
 generalize (wd+7)/8=c
 have h1:(k/c*8+j/8)/8=k/c:=by omega
 have h2:(k/c*8+j/8)%8=j/8:=by omega
 have h3:(k%c*8+j%8)/8=k%c:=by omega
 have h4:(k%c*8+j%8)%8=j%8:=by omega
 rw[h1,h2,h3,h4,wI7 (k/c) c,Nat.div_add_mod]
 omega
theorem zNh (wd y x k j:Nat) (hx:x<wd) (hj:j<64) (h:zDe wd y x=k*64+j):k/((wd+7)/8)*8+j/8=y∧k%((wd+7)/8)*8+j%8=x:=by
 unfold zDe at h
 have hc:x/8<(wd+7)/8:=by omega
 generalize (wd+7)/8=c at *
 have h1:y/8*c+x/8=k:=by omega
 have h2:y%8*8+x%8=j:=by omega
 have h3:k/c=y/8:=by rw[←h1,wB0,Nat.add_mul_div_right _ _ (by omega),Nat.div_eq_of_lt hc,wB2]
 have h4:k%c=x/8:=by rw[←h1,wB0,wP9,wK9 hc]
 rw[h3,h4]
 omega
theorem zPV (Z:List Int) (wd hi k j:Nat) (hj:j<64) (hr:k/((wd+7)/8)*8+j/8<hi) (hq:k%((wd+7)/8)*8+j%8<wd) :
 (vS Z wd hi (k*64+j)).set ((k/((wd+7)/8)*8+j/8)*wd+(k%((wd+7)/8)*8+j%8)) (qZ (Z.getD (k*64+j) 0+128) 0 255)=vS Z wd hi (k*64+(j+1)):=by
 have hi1:=jidx_at wd k j hj
 have hinv:=fun y x hx h=>zNh wd y x k j hx hj h
 generalize k/((wd+7)/8)*8+j/8=r at *
 generalize k%((wd+7)/8)*8+j%8=q at *
 apply wH6
 ·simp[zEp]
 ·intro p h1 h2
  have hp:p<wd*hi:=by simpa [zEp] using h2
  have hw:0<wd:=by omega
  rw[wH7]
  by_cases e:r*wd+q=p
  ·rw[if_pos e]
   have e1:p/wd=r:=by rw[←e,wB0,Nat.add_mul_div_right _ _ hw,Nat.div_eq_of_lt hq,wB2]
   have e2:p%wd=q:=by rw[←e,wB0,wP9,wK9 hq]
   simp only[vS,wH8,wH9,e1,e2,joinAt,hi1]
   rw[if_pos (by omega)]
  ·rw[if_neg e]
   simp only[vS,wH8,wH9]
   have hne:zDe wd (p/wd) (p%wd)≠k*64+j:=by
    intro h
    obtain⟨a,b⟩:=hinv _ _ (wF4 _ hw) h
    apply e
    rw[a,b,wI7,Nat.div_add_mod]
   by_cases hlt:zDe wd (p/wd) (p%wd)<k*64+j
   ·rw[if_pos hlt,if_pos (by omega)]
   ·rw[if_neg hlt,if_neg (by omega)]
theorem zOj (Z:List Int) (wd hi k j:Nat) (hj:j<64) (h: ¬(k/((wd+7)/8)*8+j/8<hi∧k%((wd+7)/8)*8+j%8<wd)):vS Z wd hi (k*64+j)=vS Z wd hi (k*64+(j+1)):=by
 have hinv:=fun y x hx h=>zNh wd y x k j hx hj h
 unfold vS
 apply wI0
 intro p hp
 have hp':p<wd*hi:=wB7.1 hp
 rcases wC5 wd with h0 | hw
 ·subst h0;omega
 have hy:p/wd<hi:=Nat.div_lt_of_lt_mul hp'
 have hne:zDe wd (p/wd) (p%wd)≠k*64+j:=by
  intro h9
  obtain⟨a,b⟩:=hinv _ _ (wF4 _ hw) h9
  apply h
  rw[a,b]
  exact⟨hy,wF4 _ hw⟩
 by_cases hlt:zDe wd (p/wd) (p%wd)<k*64+j
 ·rw[if_pos hlt,if_pos (by omega)]
 ·rw[if_neg hlt,if_neg (by omega)]
theorem jidx_lt (wd hi y x:Nat) (hx:x<wd) (hy:y<hi):zDe wd y x<yY wd hi*64:=by
 unfold zDe yY
 have h1:x/8<(wd+7)/8:=by omega
 have h2:y/8<(hi+7)/8:=by omega
 generalize (wd+7)/8=c at *
 generalize (hi+7)/8=d at *
 have h3:(y/8+1)*c≤d*c:=wI5 _ h2
 rw[wJ1,wI7 d c] at h3
 have h4:y/8*c+x/8+1≤c*d:=by omega
 have h5:=wI5 64 h4
 omega
theorem zPc (Z:List Int) (wd hi:Nat):vS Z wd hi (yY wd hi*64)=zHy Z wd hi:=by
 unfold vS zHy
 apply wI0
 intro p hp
 have hp':p<wd*hi:=wB7.1 hp
 rcases wC5 wd with h0 | hw
 ·subst h0;omega
 rw[if_pos (jidx_lt wd hi _ _ (wF4 _ hw) (Nat.div_lt_of_lt_mul hp'))]
def zCu (n:Nat) (Z:List Int) (wd hi:Int) (s:Int):Int:=if s=0 then (if n=yY wd.toNat hi.toNat then (if zN Z (-40000) 40000 then 0 else 1) else 4) else 1
theorem join1_any (z:Int) (w:World):Calls Tryz.prog 168 (#[.int .i64 z]++ #[]) w fun e w'=>e=.returned (.bool (!inB z (-40000) 40000))∧w=w':=by
 by_cases h:z< -40000
 ·have h':decide (z< -40000)=true:=by simpa using h
  have e:inB z (-40000) 40000=false:=zBa.2 (by omega)
  rw[e];clear e
  go_enter Tryz.func168,Tryz.ntmps168
  go_wp2_with fail
  go_ret
  exact⟨rfl,rfl⟩
 ·have h':decide (z< -40000)=false:=by simpa using h
  have e:(!inB z (-40000) 40000)=decide (40000<z):=by rw[wE2];simp[inB];omega
  rw[e];clear e
  go_enter Tryz.func168,Tryz.ntmps168
  go_wp2_with fail
  go_ret
  exact⟨rfl,rfl⟩
theorem zNQ:vJ Tryz.prog 168:=uZ Tryz.func168 (by kernel_rfl) rfl
theorem zFQ {w:World} {A:Option Addr} {n c k:Nat} {Z:List Int} (hv:SL w 64 (.slice A n c) n (ints Z)) (hz:Z.length=n*64) (hk:k<n) :
 ∃ ad zs,A=some ad∧ad.block<w.heap.size∧zAD w (ad.add (k*64)) (ints zs)∧zs=(Z.drop (k*64)).take 64∧zs.length=64:=by
 obtain⟨ad,rfl,hab,hca⟩:=hv.part hk
 have e:((ints Z).drop (k*64)).take 64=ints ((Z.drop (k*64)).take 64):=by simp[ints,wG9,wG8]
 exact⟨ad,_,rfl,hab,by rw[←e];exact hca,rfl,by rw[wI4,wJ4,hz];omega⟩
theorem zFT {zs:List Int} (h:zs.length=64):(ints zs).toArray.size=64:=by simp[zY,h]
theorem zEB:(Value.agg (bv zeros64)).cells.size=64:=by rw[show (Value.agg (bv zeros64)).cells=bv zeros64 from rfl,zJ];rfl
def zEw (n:Nat) (Z:List Int) (wd hi:Int) (w:World) (e:Ending) (w':World):Prop :=
 ∃ A m c,e=.returned (.tuple #[.slice A m c,.int .i64 (zCu n Z wd hi (xJ wd hi))])∧m=(if zCu n Z wd hi (xJ wd hi)=0 then wd.toNat*hi.toNat else 0)∧SL w' 1 (.slice A m c) m (ints (if zCu n Z wd hi (xJ wd hi)=0 then zHy Z wd.toNat hi.toNat else []))∧Ext w w'∧ ∀ ad,A=some ad→w.heap.size≤ad.block
theorem zIv {n:Nat} {Z:List Int} {wd hi:Int} {w w':World} {e:Ending} {k:Int} (hk:zCu n Z wd hi (xJ wd hi)=k) (h0:k≠0) (he:e=.returned (.tuple #[.slice none 0 0,.int .i64 k])) (hx:Ext w w'):zEw n Z wd hi w e w':=by
 unfold zEw
 rw[hk]
 refine⟨none,0,0,he,by rw[if_neg h0], ?_,hx,fun _ e=>by cases e⟩
 rw[if_neg h0]
 exact SL.nil _ _
theorem zQU (n:Nat) (Z:List Int) (v:Value) (wd hi:Int) (w:World) (hv:SL w 64 v n (ints Z)) (hz:Z.length=n*64) (h:xJ wd hi≠0) :
 Calls Tryz.prog 114 #[v,.int .i64 wd,.int .i64 hi] w fun e w'=>e=.returned (.tuple #[.slice none 0 0,.int .i64 1])∧Ext w w':=by
 have HK:=zA (fun W=>uG wd hi W)
 rw[zFt h] at HK
 clear h
 have hbv: #[Value.int .i64 wd,Value.int .i64 hi]=qJ wd hi:=rfl
 have hts:=zA (vY wd hi)
 have ho:=zA (zAm wd hi)
 have HZ0:=zA qN
 generalize qJ wd hi=av at *
 have HZ:=zA hz
 clear hz
 have hv':=hv
 obtain⟨A,c,rfl,hc1,hc2, -, -⟩:=hv'
 go_enter Tryz.func114,Tryz.ntmps114
 go_wp2_with (first
               | (refine wAlo' rfl (some 8) rfl 128 rfl _ zBT ?_;intro w1 g hb1 hx1 hg)
               | (refine wStB rfl 128 (.tmp 8) (.tmp 21) rfl _ _ rfl rfl hb1 2 xL hts.out rfl ho.out ?_;intro w2 hb2 hg2;have hx2:=hx1.grown hg2 (by omega))
               | (refine wLdB rfl 128 (.tmp 8) rfl _ rfl hb2 _ Tryz.underlying128 rfl 2 xL hts.out ?_)
               | (go_at_call 87;(with_reducible refine (HK.out _).mono ?_);rintro e w3 ⟨rfl,hx3⟩;have hx23:=hx2.trans hx3;have hb3:=hb2.ext hx3))
 go_loopw [9,35] (fun s i wr=> ∃ k:Nat,k≤n∧i=.int .i64 (k:Int)∧s=.int .i64 1∧Ext w wr) (fun _ i _=>n-(intOf i).toNat)
 case atStart=>exact⟨0,by omega,rfl,rfl,hx23⟩
 case round =>
  obtain⟨k,hk,rfl,rfl,hx⟩:=hrel
  by_cases hlt:k<n
  ·obtain⟨ad,zs,rfl,hab,hca, -,hl⟩:=zFQ (hv.ext hx) HZ.out hlt
   have HCA:=zA hca
   have HL:=zA hl
   clear hca hl
   go_wp2_with (first
    | (refine yL (by rfl) 33 (.tmp 37) rfl (ad.add (k*64)) rfl (ints zs) _ HCA.out Tryz.underlying33 rfl (by rw[zY,HL.out];exact zF) ?_)
    | (refine wAlo' rfl (some 11) rfl 33 rfl _ HZ0.out ?_;intro w7 g7 hb7 hx7 hg7)
    | (refine wStB rfl 33 (.tmp 11) (.tmp 38) rfl _ _ rfl rfl hb7 64 zF (zFT HL.out) zEB (xB zs) ?_;intro w8 hb8 hg8;have hx8:=hx7.grown hg8 (by omega)))
   go_roundw
   case rel=>exact⟨k+1,by omega,by go_num,rfl,hx.trans hx8⟩
   case measure=>simp[intOf];omega
  ·go_wp2_with fail
   go_ret2
   exact⟨rfl,hx⟩
theorem join_many (n:Nat) (Z:List Int) (v:Value) (wd hi:Nat) (w:World) (hv:SL w 64 v n (ints Z)) (hz:Z.length=n*64) (h0:xJ wd hi=0) (a1:1≤wd) (a2:wd≤64) (b1:1≤hi) (b2:hi≤64) (h:n≠yY wd hi) :
 Calls Tryz.prog 114 #[v,.int .i64 wd,.int .i64 hi] w fun e w'=>e=.returned (.tuple #[.slice none 0 0,.int .i64 4])∧Ext w w':=by
 have HK:=zA (fun W=>uG wd hi W)
 rw[h0] at HK
 clear h0
 have HM:=zA (fun W=>zFd wd hi W a1 a2 b1 b2)
 have hcn:(wd+7)/8*((hi+7)/8)=yY wd hi:=rfl
 rw[hcn] at HM
 clear hcn
 generalize yY wd hi=N at *
 have hne:((n:Int) !=(N:Int))=true:=by simp;omega
 have hneq:(n ==N)=false:=by simpa using h
 clear h
 have hbv: #[Value.int .i64 wd,Value.int .i64 hi]=qJ wd hi:=rfl
 have hts:=zA (vY wd hi)
 have ho:=zA (zAm wd hi)
 have HZ0:=zA qN
 generalize qJ wd hi=av at *
 have HZ:=zA hz
 clear hz
 have hv':=hv
 obtain⟨A,c,rfl,hc1,hc2, -, -⟩:=hv'
 go_enter Tryz.func114,Tryz.ntmps114
 go_wp2_with (first
               | (refine wAlo' rfl (some 8) rfl 128 rfl _ zBT ?_;intro w1 g hb1 hx1 hg)
               | (refine wStB rfl 128 (.tmp 8) (.tmp 21) rfl _ _ rfl rfl hb1 2 xL hts.out rfl ho.out ?_;intro w2 hb2 hg2;have hx2:=hx1.grown hg2 (by omega))
               | (refine wLdB rfl 128 (.tmp 8) rfl _ rfl hb2 _ Tryz.underlying128 rfl 2 xL hts.out ?_)
               | (go_at_call 87;(with_reducible refine (HK.out _).mono ?_);rintro e w3 ⟨rfl,hx3⟩;have hx23:=hx2.trans hx3;have hb3:=hb2.ext hx3)
               | (refine zDf (by rfl) 128 (.tmp 8) rfl _ rfl hb3 _ Tryz.underlying128 rfl 2 xL hts.out ?_)
               | (go_at_call 90;(with_reducible refine (HM.out _).mono ?_);rintro e w5 ⟨rfl,hx5⟩;have hb5:=hb3.ext hx5;have hx35:=hx23.trans hx5))
 go_loopw [9,35] (fun s i wr=> ∃ k:Nat,k≤n∧i=.int .i64 (k:Int)∧s=.int .i64 4∧Ext w wr) (fun _ i _=>n-(intOf i).toNat)
 case atStart=>exact⟨0,by omega,rfl,rfl,hx35⟩
 case round =>
  obtain⟨k,hk,rfl,rfl,hx⟩:=hrel
  by_cases hlt:k<n
  ·obtain⟨ad,zs,rfl,hab,hca, -,hl⟩:=zFQ (hv.ext hx) HZ.out hlt
   have HCA:=zA hca
   have HL:=zA hl
   clear hca hl
   go_wp2_with (first
    | (refine yL (by rfl) 33 (.tmp 37) rfl (ad.add (k*64)) rfl (ints zs) _ HCA.out Tryz.underlying33 rfl (by rw[zY,HL.out];exact zF) ?_)
    | (refine wAlo' rfl (some 11) rfl 33 rfl _ HZ0.out ?_;intro w7 g7 hb7 hx7 hg7)
    | (refine wStB rfl 33 (.tmp 11) (.tmp 38) rfl _ _ rfl rfl hb7 64 zF (zFT HL.out) zEB (xB zs) ?_;intro w8 hb8 hg8;have hx8:=hx7.grown hg8 (by omega)))
   go_roundw
   case rel=>exact⟨k+1,by omega,by go_num,rfl,hx.trans hx8⟩
   case measure=>simp[intOf];omega
  ·go_wp2_with fail
   go_ret2
   exact⟨rfl,hx⟩
theorem allIn_app (xs ys:List Int) (lo hi:Int):zN (xs++ys) lo hi=(zN xs lo hi&&zN ys lo hi):=by simp[zN]
theorem take_next (Z:List Int) (k:Nat):Z.take ((k+1)*64)=Z.take (k*64)++(Z.drop (k*64)).take 64:=by
 rw[show (k+1)*64=k*64+64 by omega,List.take_add]
theorem zNk {w:World} {g:Nat} {t:TypeId} {zs:List Int} (h:Blk w g t (ints zs).toArray) (hl:zs.length=64):SL w 1 (.slice (some ⟨g,0,none⟩) 64 64) zs.length (ints zs):=by
 have:=Blk.bsl (zs:=zs) (c:=64) h (by omega) (by omega)
 rwa [hl] at this ⊢
theorem clampI (z:Int):min (max z 0) 255=qZ z 0 255:=min_max z 0 255 (by decide)
theorem join_in (n:Nat) (Z:List Int) (v:Value) (wd hi:Nat) (w:World) (hv:SL w 64 v n (ints Z)) (hz:Z.length=n*64) (h0:xJ wd hi=0) (a1:1≤wd) (a2:wd≤64) (b1:1≤hi) (b2:hi≤64) (h:n=yY wd hi) :
 Calls Tryz.prog 114 #[v,.int .i64 wd,.int .i64 hi] w (zEw n Z wd hi w):=by
 have HK:=zA (fun W=>uG wd hi W)
 have HE:Hid (zCu n Z wd hi (xJ wd hi)=if zN Z (-40000) 40000 then 0 else 1):=zA (by unfold zCu;rw[h0,if_pos rfl];simp only[wE8];rw[if_pos h])
 rw[h0] at HK
 clear h0
 have HM:=zA (fun W=>zFd wd hi W a1 a2 b1 b2)
 have HP:Hid (∀ k j,k<64→j<64→ ∃ r q:Nat,Hid (r=k/((wd+7)/8)*8+j/8∧q=k%((wd+7)/8)*8+j%8)∧ ∀ W,Calls Tryz.prog 91 #[.agg (qJ wd hi),.int .i64 (k:Int),.int .i64 (j:Int)] W fun e w' =>
  e=.returned (.tuple #[.int .i64 ((r:Nat):Int),.int .i64 ((q:Nat):Int)])∧Ext W w'):=zA fun k j hk hj=>⟨_,_,zA ⟨rfl,rfl⟩,fun W=>zLY wd hi k j W a1 a2 hk hj⟩
 have hcn:(wd+7)/8*((hi+7)/8)=yY wd hi:=rfl
 rw[hcn, ←h] at HM
 clear hcn
 have hn64:n≤64:=by rw[h];have:(wd+7)/8*((hi+7)/8)≤8*8:=wI3 (by omega) (by omega);exact this
 have HN:=zA h
 clear h
 have HCF:=zA (fun W u zs (hl:zs.length=64) (hs:SL W 1 u zs.length (ints zs))=>qY 168 #[] (fun z=> !inB z (-40000) 40000) zNQ u zs W hs (fun z _=>join1_any z W))
 simp only[zCb] at HCF
 have hm:wd*hi≤64*64:=wI3 a2 b2
 obtain⟨n0,hn0⟩: ∃ n0,wd*hi=n0:=⟨_,rfl⟩
 have HN0:=zA hn0
 rw[hn0] at hm
 clear hn0
 have hbv: #[Value.int .i64 wd,Value.int .i64 hi]=qJ wd hi:=rfl
 have hts:=zA (vY wd hi)
 have ho:=zA (zAm wd hi)
 have HZ0:=zA qN
 generalize qJ wd hi=av at *
 have HZ:=zA hz
 clear hz
 have hv':=hv
 obtain⟨A,c,rfl,hc1,hc2, -, -⟩:=hv'
 go_enter Tryz.func114,Tryz.ntmps114
 go_wp2_with (first
               | (refine wAlo' rfl (some 8) rfl 128 rfl _ zBT ?_;intro w1 g hb1 hx1 hg)
               | (refine wStB rfl 128 (.tmp 8) (.tmp 21) rfl _ _ rfl rfl hb1 2 xL hts.out rfl ho.out ?_;intro w2 hb2 hg2;have hx2:=hx1.grown hg2 (by omega))
               | (refine wLdB rfl 128 (.tmp 8) rfl _ rfl hb2 _ Tryz.underlying128 rfl 2 xL hts.out ?_)
               | (go_at_call 87;(with_reducible refine (HK.out _).mono ?_);rintro e w3 ⟨rfl,hx3⟩;have hx23:=hx2.trans hx3;have hb3:=hb2.ext hx3)
               | (refine zDf (by rfl) 128 (.tmp 8) rfl _ rfl hb3 _ Tryz.underlying128 rfl 2 xL hts.out ?_)
               | (go_at_call 90;(with_reducible refine (HM.out _).mono ?_);rintro e w5 ⟨rfl,hx5⟩;have hb5:=hb3.ext hx5;have hx35:=hx23.trans hx5))
 clear hb1 hb2 hb3 hx1 hx2 hx3 hx5 hx23 hg2 HK HM
 go_loopw [9,35] (fun s i wr=> ∃ (k:Nat) (b:Bool),k≤n∧i=.int .i64 (k:Int)∧s=.int .i64 (if b then 0 else 1)∧Hid (b=zN (Z.take (k*64)) (-40000) 40000)∧Blk wr g 128 av∧Ext w wr) (fun _ i _=>n-(intOf i).toNat)
 case atStart=>exact⟨0,true,by omega,rfl,rfl,zA (by simp[zN]),hb5,hx35⟩
 case round =>
  clear hb5 hx35
  obtain⟨k,b,hk,rfl,rfl,HB,hba,hx⟩:=hrel
  by_cases hlt:k<n
  ·obtain⟨ad,zs,rfl,hab,hca,hzs,hl⟩:=zFQ (hv.ext hx) HZ.out hlt
   have HNX:Hid (zN (Z.take ((k+1)*64)) (-40000) 40000=(b&&zN zs (-40000) 40000)):=zA (by
    rw[HB.out,hzs, ←allIn_app, ←take_next])
   have HCA:=zA hca
   have HL:=zA hl
   clear hca hl hzs
   have HCF2:=zA (fun W u=>HCF.out W u zs HL.out)
   generalize hq:zN zs (-40000) 40000=q at *
   clear hq
   cases b with
   | false =>
     go_wp2_with (first
      | (refine yL (by rfl) 33 (.tmp 37) rfl (ad.add (k*64)) rfl (ints zs) _ HCA.out Tryz.underlying33 rfl (by rw[zY,HL.out];exact zF) ?_)
      | (refine wAlo' rfl (some 11) rfl 33 rfl _ HZ0.out ?_;intro w7 g7 hb7 hx7 hg7)
      | (refine wStB rfl 33 (.tmp 11) (.tmp 38) rfl _ _ rfl rfl hb7 64 zF (zFT HL.out) zEB (xB zs) ?_;intro w8 hb8 hg8;have hx8:=hx7.grown hg8 (by omega)))
     go_roundw
     case rel=>exact⟨k+1,false,by omega,by go_num,rfl,zA (by rw[HNX.out];rfl),(hba.ext hx8),hx.trans hx8⟩
     case measure=>simp[intOf];omega
   | true =>
     cases q with
     | true =>
       go_wp2_with (first
        | (refine yL (by rfl) 33 (.tmp 37) rfl (ad.add (k*64)) rfl (ints zs) _ HCA.out Tryz.underlying33 rfl (by rw[zY,HL.out];exact zF) ?_)
        | (refine wAlo' rfl (some 11) rfl 33 rfl _ HZ0.out ?_;intro w7 g7 hb7 hx7 hg7)
        | (refine wStB rfl 33 (.tmp 11) (.tmp 38) rfl _ _ rfl rfl hb7 64 zF (zFT HL.out) zEB (xB zs) ?_;intro w8 hb8 hg8;have hx8:=hx7.grown hg8 (by omega))
        | (go_at_call 88;(with_reducible refine (HCF2.out _ _ (zNk hb8 HL.out)).mono ?_);rintro e w9 ⟨rfl,rfl⟩))
       go_roundw
       case rel=>exact⟨k+1,true,by omega,by go_num,rfl,zA (by rw[HNX.out];rfl),(hba.ext hx8),hx.trans hx8⟩
       case measure=>simp[intOf];omega
     | false =>
       go_wp2_with (first
        | (refine yL (by rfl) 33 (.tmp 37) rfl (ad.add (k*64)) rfl (ints zs) _ HCA.out Tryz.underlying33 rfl (by rw[zY,HL.out];exact zF) ?_)
        | (refine wAlo' rfl (some 11) rfl 33 rfl _ HZ0.out ?_;intro w7 g7 hb7 hx7 hg7)
        | (refine wStB rfl 33 (.tmp 11) (.tmp 38) rfl _ _ rfl rfl hb7 64 zF (zFT HL.out) zEB (xB zs) ?_;intro w8 hb8 hg8;have hx8:=hx7.grown hg8 (by omega))
        | (go_at_call 88;(with_reducible refine (HCF2.out _ _ (zNk hb8 HL.out)).mono ?_);rintro e w9 ⟨rfl,rfl⟩))
       go_roundw
       case rel=>exact⟨k+1,false,by omega,by go_num,rfl,zA (by rw[HNX.out];rfl),(hba.ext hx8),hx.trans hx8⟩
       case measure=>simp[intOf];omega
  ·have ek:k=n:=by omega
   have HA:Hid (zN Z (-40000) 40000=b):=zA (by rw[HB.out,ek, ←HZ.out,wI8])
   rw[ek]
   clear ek hk hlt HB
   cases b with
   | false =>
     go_wp2_with fail
     go_ret2
     exact zIv (by rw[HE.out,HA.out];rfl) (by decide) rfl hx
   | true =>
     go_wp2_with (first
      | (refine zB rfl (.int .i64 ((n0:Nat):Int)) (by rw[←HN0.out];exact zBd (i:=wd) (d:=hi) rfl rfl rfl (by have:=HN0.out;omega)) ?_)
      | (refine jK rfl (some 52) rfl _ _ rfl n0 (by omega) rfl rfl ?_;intro w6 gz hbz hx6 hgz;have hb6:=hba.ext hx6;have hxx:=hx.trans hx6))
     have hgz0:w.heap.size≤gz:=by have:=hx.size;omega
     have hbz0:Blk w6 gz 3 (bv (vS Z wd hi 0)):=by rw[zOn,HN0.out];exact hbz
     clear hbz hba hx hx6
     go_loopw [55] (fun i wr=> ∃ k:Nat,k≤n∧i=.int .i64 (k:Int)∧Blk wr gz 3 (bv (vS Z wd hi (k*64)))∧Blk wr g 128 av∧Ext w wr) (fun i _=>n-(intOf i).toNat)
     case atStart=>exact⟨0,by omega,rfl,hbz0,hb6,hxx⟩
     case round =>
      clear hbz0 hb6 hxx
      obtain⟨k,hk,rfl,hbo,hba,hx⟩:=hrel
      by_cases hlt:k<n
      ·obtain⟨ad,zs,rfl,hab,hca,hzs,hl⟩:=zFQ (hv.ext hx) HZ.out hlt
       have HCA:=zA hca
       have HL:=zA hl
       have HZS:=zA hzs
       clear hca hl hzs
       go_wp2_with (first
        | (refine yL (by rfl) 33 (.tmp 58) rfl (ad.add (k*64)) rfl (ints zs) _ HCA.out Tryz.underlying33 rfl (by rw[zY,HL.out];exact zF) ?_)
        | (refine wAlo' rfl (some 14) rfl 33 rfl _ HZ0.out ?_;intro w7 g7 hb7 hx7 hg7)
        | (refine wStB rfl 33 (.tmp 14) (.tmp 59) rfl _ _ rfl rfl hb7 64 zF (zFT HL.out) zEB (xB zs) ?_;intro w8 hb8 hg8;have hx8:=hx7.grown hg8 (by omega);have hbo8:=hbo.ext hx8;have hba8:=hba.ext hx8;have hxx8:=hx.trans hx8)
        | (refine wLdB rfl 33 (.tmp 14) rfl _ rfl hb8 _ Tryz.underlying33 rfl 64 zF (zFT HL.out) ?_))
       have HBV:Hid (∀ j:Nat,j<64→ ∃ z,(bv zs)[j]? =some (.int .i64 z)∧Hid (z=Z.getD (k*64+j) 0)∧ -40000≤z∧z≤40000):=zA (fun j hj=>by
        have hjl:j<zs.length:=by rw[HL.out];exact hj
        refine⟨zs[j],qG zs j hjl,zA ?_, ?_⟩
        ·have e:=wA2 hjl
         have hzs:=HZS.out
         subst hzs
         rw[wD0 hj,wB4] at e
         rw[wF2,e]
         rfl
        ·have hmem: ∀ z∈zs,z∈Z:=fun z hz=>by
          rw[HZS.out] at hz
          exact wG6 (wG7 hz)
         exact yD.1 HA.out _ (hmem _ (wE1 hjl)))
       have hbve:(ints zs).toArray=bv zs:=rfl
       rw[hbve]
       generalize bv zs=cz at *
       clear hbo hba hx hb7 hx7 hg8 hx8
       go_loopw [61] (fun i wr=> ∃ j:Nat,j≤64∧i=.int .i64 (j:Int)∧Blk wr gz 3 (bv (vS Z wd hi (k*64+j)))∧Blk wr g 128 av∧Ext w wr) (fun i _=>64-(intOf i).toNat)
       case atStart=>exact⟨0,by omega,rfl,hbo8,hba8,hxx8⟩
       case round =>
        clear hbo8 hba8 hxx8 hb8
        obtain⟨j,hj,rfl,hbo,hba,hx⟩:=hrel
        by_cases hltj:j<64
        ·obtain⟨z,hcz,HZV,hz1,hz2⟩:=HBV.out j hltj
         have hat:=fun W=>zEn cz j _ hltj hcz W
         obtain⟨r,q,HRQ,hcall⟩:=HP.out k j (by omega) hltj
         have HCALL:=zA hcall
         clear hcall hcz
         by_cases hrq:r<hi∧q<wd
         ·obtain⟨hr,hq⟩:=hrq
          have d1:decide (r<hi)=true:=by simpa using hr
          have d2:decide (q<wd)=true:=by simpa using hq
          go_upto_region 22 with (first
           | (refine wLdB rfl 128 (.tmp 8) rfl _ rfl hba _ Tryz.underlying128 rfl 2 xL hts.out ?_)
           | (go_at_call 91;(with_reducible refine (HCALL.out _).mono ?_);rintro e w9 ⟨rfl,hx9⟩;have hbo9:=hbo.ext hx9;have hba9:=hba.ext hx9;have hxx9:=hx.trans hx9))
          have hpb:r*wd≤64*64:=wI3 (by omega) a2
          obtain⟨p,hpx⟩: ∃ p,r*wd+q=p:=⟨_,rfl⟩
          have HPX:=zA hpx
          have hp:p<n0:=by
           have h9:=wI5 wd (show r+1≤hi by omega)
           rw[wJ1,wI7 hi wd,HN0.out] at h9
           omega
          clear hpx
          have HSZ:Hid (p<(bv (vS Z wd hi (k*64+j))).size):=zA (by rw[zJ,zEp,HN0.out];exact hp)
          refine wp_region_lit ?_
          refine zB rfl (.slice (some ⟨gz,0,none⟩) n0 n0) (zC rfl rfl) ?_
          simp only[Act.put,sA,sB,sC]
          refine zB rfl (.int .i64 ((r:Nat):Int)) (zC rfl rfl) ?_
          simp only[Act.put,sA,sB,sC]
          refine zB rfl (.int .i64 ((wd:Nat):Int)) (zC rfl rfl) ?_
          simp only[Act.put,sA,sB,sC]
          refine zB rfl (.int .i64 ((r*wd:Nat):Int)) (zBd (i:=r) (d:=wd) rfl rfl rfl (by omega)) ?_
          simp only[Act.put,sA,sB,sC]
          refine zB rfl (.int .i64 ((q:Nat):Int)) (zC rfl rfl) ?_
          simp only[Act.put,sA,sB,sC]
          refine zB rfl (.int .i64 ((p:Nat):Int)) (by rw[←HPX.out];exact zZ (i:=r*wd) (d:=q) rfl rfl rfl (by omega)) ?_
          simp only[Act.put,sA,sB,sC]
          refine zB rfl (.int .i64 (z)) (zC rfl rfl) ?_
          simp only[Act.put,sA,sB,sC]
          refine zB rfl (.int .i64 (z+128)) (zKg (i:=z) (d:=128) rfl rfl rfl (by omega)) ?_
          simp only[Act.put,sA,sB,sC]
          refine zB rfl (.int .i64 (max (z+128) 0)) (ex_maxI (i:=z+128) (d:=0) rfl rfl rfl) ?_
          simp only[Act.put,sA,sB,sC]
          refine zB rfl (.int .i64 (min (max (z+128) 0) 255)) (ex_minI (i:=max (z+128) 0) (d:=255) rfl rfl rfl) ?_
          simp only[Act.put,sA,sB,sC]
          refine zB rfl (.pointer (some ⟨gz,p,none⟩)) (vA Tryz.underlying22 qV rfl rfl rfl hp) ?_
          simp only[Act.put,sA,sB,sC]
          refine uI rfl (.tmp 90) (.tmp 89) rfl gz p (min (max (z+128) 0) 255) rfl rfl hbo9 HSZ.out ?_
          simp only[Act.put,sA,sB,sC]
          have hb9:=hbo9.set_ p (.int .i64 (min (max (z+128) 0) 255))
          have hset:=zPV Z wd hi k j hltj (by rw[←HRQ.out.1];exact hr) (by rw[←HRQ.out.2];exact hq)
          rw[←HRQ.out.1, ←HRQ.out.2,HPX.out, ←HZV.out] at hset
          rw[vH,clampI,hset] at hb9
          have hb10:=hba9.far (p:=⟨gz,p,none⟩) (hbo9.ne_ hba9 (by decide)).symm (.int .i64 (min (max (z+128) 0) 255))
          have hx10:=hxx9.setCell (p:=⟨gz,p,none⟩) hgz0 (.int .i64 (min (max (z+128) 0) 255))
          rw[clampI] at hb10 hx10 ⊢
          clear hset
          go_wp2_with fail
          go_roundw
          case rel=>exact⟨j+1,by omega,by go_num,hb9,hb10,hx10⟩
          case measure=>simp[intOf];omega
         ·have HSK:=zA (zOj Z wd hi k j hltj (by rw[←HRQ.out.1, ←HRQ.out.2];exact hrq))
          rw[HSK.out] at hbo
          by_cases hr:r<hi
          ·have hq: ¬q<wd:=fun hq=>hrq ⟨hr,hq⟩
           have d1:decide (r<hi)=true:=by simpa using hr
           have d2:decide (q<wd)=false:=by simpa using hq
           clear hrq
           go_wp2_with (first
            | (refine wLdB rfl 128 (.tmp 8) rfl _ rfl hba _ Tryz.underlying128 rfl 2 xL hts.out ?_)
            | (go_at_call 91;(with_reducible refine (HCALL.out _).mono ?_);rintro e w9 ⟨rfl,hx9⟩;have hbo9:=hbo.ext hx9;have hba9:=hba.ext hx9;have hxx9:=hx.trans hx9))
           go_roundw
           case rel=>exact⟨j+1,by omega,by go_num,hbo9,hba9,hxx9⟩
           case measure=>simp[intOf];omega
          ·have d1:decide (r<hi)=false:=by simpa using hr
           clear hrq
           go_wp2_with (first
            | (refine wLdB rfl 128 (.tmp 8) rfl _ rfl hba _ Tryz.underlying128 rfl 2 xL hts.out ?_)
            | (go_at_call 91;(with_reducible refine (HCALL.out _).mono ?_);rintro e w9 ⟨rfl,hx9⟩;have hbo9:=hbo.ext hx9;have hba9:=hba.ext hx9;have hxx9:=hx.trans hx9))
           go_roundw
           case rel=>exact⟨j+1,by omega,by go_num,hbo9,hba9,hxx9⟩
           case measure=>simp[intOf];omega
        ·have ej:j=64:=by omega
         rw[ej]
         go_wp2_with fail
         go_roundw
         case rel=>exact⟨k+1,by omega,by go_num,by rw[ej] at hbo;rw[show (k+1)*64=k*64+64 by omega];exact hbo,hba,hx⟩
         case measure=>simp[intOf];omega
      ·have ek:k=n:=by omega
       rw[ek] at hbo ⊢
       rw[HN.out,zPc] at hbo
       go_wp2_with fail
       go_ret2
       have hE:zCu n Z wd hi (xJ wd hi)=0:=by rw[HE.out,HA.out];rfl
       unfold zEw
       rw[hE]
       refine⟨some ⟨gz,0,none⟩,n0,n0,rfl, ?_, ?_,hx,fun ad e=>by cases e;exact hgz0⟩
       ·rw[if_pos rfl];exact HN0.out.symm
       ·rw[if_pos rfl]
        have:=hbo.bsl (c:=n0) (by rw[zHS,HN0.out];omega) (by omega)
        rw[zHS,HN0.out] at this
        exact this
theorem join_any (n:Nat) (Z:List Int) (v:Value) (wd hi:Int) (w:World) (hv:SL w 64 v n (ints Z)) (hz:Z.length=n*64):Calls Tryz.prog 114 #[v,.int .i64 wd,.int .i64 hi] w (zEw n Z wd hi w):=by
 by_cases h:xJ wd hi=0
 ·obtain⟨a,b,rfl,rfl,h1,h2,h3,h4⟩:=zGN h
  by_cases hn:n=yY a b
  ·exact join_in n Z v a b w hv hz h h1 h2 h3 h4 hn
  ·exact (join_many n Z v a b w hv hz h h1 h2 h3 h4 hn).mono fun e w' hh=>zIv (by unfold zCu;rw[h,if_pos rfl];simp only[wE8];rw[if_neg hn]) (by decide) hh.1 hh.2
 ·exact (zQU n Z v wd hi w hv hz h).mono fun e w' hh=>zIv (by unfold zCu;rw[if_neg h]) (by decide) hh.1 hh.2
end Go.Proofs.YtkggcjdlpendfaaGreatDoor
