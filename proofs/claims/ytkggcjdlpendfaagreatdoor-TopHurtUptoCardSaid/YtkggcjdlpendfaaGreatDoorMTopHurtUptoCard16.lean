import Derived.BigGuardPart
import Derived.Lib.Bytealg
import Derived.Test.YtkggcjdlpendfaaGreatDoorMTopHurtUptoCard15
set_option linter.all false
set_option maxRecDepth 20000
set_option maxHeartbeats 8000000
namespace Go.Proofs.YtkggcjdlpendfaaGreatDoor
open Go.RowKit Tryz
def zLM (x:Int) (w:World):Calls prog 187 #[.int .i64 x] w λe w'=>e=.returned (.tuple #[.agg (bv (List.replicate 64 0)),.slice none 0 0,.int .i64 x])∧Ext w w':=by
 have hz0:=zA (show (Value.agg (bv (List.replicate 64 0))).cells.size=64 by rw[show (Value.agg (bv (List.replicate 64 0))).cells=bv (List.replicate 64 0) from rfl,zK];rfl);have hbt:prog.built 33 []=some (bv (List.replicate 64 0)):=by kernel_rfl
 have hal:(prog.info? 33).bind (·.zero)=some (.agg (bv (List.replicate 64 0))):=jX;have HBT:=zA hbt;have HAL:=zA hal;have HO:=zA (xR (List.replicate 64 0));have HS:=zA (show (bv (List.replicate 64 0)).size=64 by rw[zK];rfl);clear hbt hal;generalize bv (List.replicate 64 0)=cz at *;go_enter func187,ntmps187
 go_wp2_with (first
  | ((with_reducible apply gS 2);refine wAlo' rfl (some 2) rfl 33 rfl _ HAL.out ?_;intro w1 g1 hb1 hx1 hg1)
  | (refine vY rfl 33 rfl _ HBT.out ?_)
  | ((with_reducible apply gT 2 5);refine wStB rfl 33 (.tmp 2) (.tmp 5) rfl _ _ rfl rfl hb1 64 zJ HS.out hz0.out HO.out ?_;intro w2 hb2 hg2))
 refine jE rfl rfl _ rfl hb2 _ underlying33 rfl 64 zJ HS.out ⟨rfl,hx1.grown hg2 hg1⟩
section
variable {σ:Type} {f:FuncId} {B:Nat} {S:Nat→Prop} {Inv:World→σ→Prop} {next:Bool→σ→Tok×Int×σ}
def zCY (S:Nat→Prop) (Inv:World→σ→Prop) (w:World) (g:Int×List Int×List Tok×σ) (e:Ending) (w':World):Prop :=
 ∃A c,e=.returned (.tuple #[.agg (bv g.2.1),.slice A g.2.2.1.length c,.int .i64 g.1])∧SL w' 3 (.slice A g.2.2.1.length c) g.2.2.1.length (qW g.2.2.1)∧Inv w' g.2.2.2∧Upd S w w'
set_option maxRecDepth 100000 in
def from_err (before : Int) {ty : TypeId} {v recv : Value} (hm : Meth Tryz.prog ty v "Token" f recv) (C : Src f #[recv] #[] B S Inv next) (w : World) (s : σ) (hI : Inv w s) (hB : B = w.heap.size)
 {t:Tok} {x:Int} {s1:σ} (h:next true s=(t,x,s1)) (hx0:x≠0):Calls prog 162 #[.int .i64 before,.iface ty v] w (zCY S Inv w (x,List.replicate 64 0,[],s1)):=by
 have HA:=zA (λW (a:Inv W s) (b:B≤W.heap.size)=>C.ask true s W a b);rw[h] at HA;simp only[wT4,wT5,wE1,wG4,zET] at HA;have hxb:(x !=0)=true:=by simpa using hx0
 have HN:=zA (λW=>zLM x W);have HAL:=zA (show (prog.info? 33).bind (·.zero)=some (.agg (bv (List.replicate 64 0))) from jX);have HO:=zA (xR (List.replicate 64 0));have HS:=zA (show (bv (List.replicate 64 0)).size=64 by rw[zK];rfl);have hz0:=zA (show (Value.agg (bv (List.replicate 64 0))).cells.size=64 by rw[show (Value.agg (bv (List.replicate 64 0))).cells=bv (List.replicate 64 0) from rfl,zK];rfl);have HK:=zA C.keep;have HLOW:=zA C.low;unfold zCY;generalize hcz:bv (List.replicate 64 0)=cz at *;have HCZ:=zA hcz;have HBs:=zA hB;clear h hx0 C hcz hB;go_enter func162,ntmps162
 go_wp2_with (first
  | ((with_reducible apply gS 4);refine wAlo' rfl (some 4) rfl 33 rfl _ HAL.out ?_;intro w1 g1 hb1 hx1 hg1)
  | ((with_reducible show wpList _ _ _ (⟨some 19, _, _, _, _, _⟩ :: _) _ _); refine xK (by rfl) (zDv (.tmp 18) "Token" _ _ rfl rfl hm #[recv, .bool true] (by simp [Act.eval])) ?_; (with_reducible refine (HA.out _ (HK.out _ _ _ hI (yG hx1)) (by rw [HBs.out]; exact hx1.size)).mono ?_); rintro e w2 ⟨rfl, hi2, hu2⟩; refine ⟨_, rfl, ?_⟩)
  | ((with_reducible apply gS 8);refine wAlo' rfl (some 8) rfl 149 rfl _ zAj ?_;intro w3 g3 hb3 hx3 hg3)
  | ((with_reducible apply gT 8 20);refine wStB rfl 149 (.tmp 8) (.tmp 20) rfl _ _ rfl rfl hb3 3 xI rfl rfl (zDo _ _ _) ?_;intro w4 hb4 hg4)
  | (go_at_call 187;(with_reducible refine (HN.out _).mono ?_);rintro e w5 ⟨rfl,hx5⟩;have hb1':Blk w5 g1 33 (Value.agg cz).cells:=((((hu2.blk hb1 (λk=>by have:=HLOW.out _ k;have:=HBs.out;omega)).ext hx3).grown hg4 (by intro k;have:=wU4 k;have:=(hu2.blk hb1 (λk=>by have:=HLOW.out _ k;have:=HBs.out;omega)).lt;omega))).ext hx5)
  | ((with_reducible apply gT 4 27);refine wStB rfl 33 (.tmp 4) (.tmp 27) rfl _ _ rfl rfl hb1' 64 zJ HS.out hz0.out HO.out ?_;intro w6 hb6 hg6))
 have hu:Upd S w w6:=by
  have h1:Upd S w w2:=(yG (S:=S) hx1).trans hu2 (λ_ k=>.inl k);have h2:=h1.size;have h3:Upd S w w3:=h1.trans (yG (S:=λ_=>False) hx3) (λ_ k=>k.elim);have h4:=h3.trans (zM hg4) (λx k=>.inr (by have:=wU4 k;omega));have h5:=h4.trans (yG (S:=λ_=>False) hx5) (λ_ k=>k.elim);exact h5.trans (zM hg6) (λx k=>.inr (by have:=wU4 k;omega))
 have hi:Inv w6 s1:=by
  have h2:=hu2.size;have h3:=hx1.size;have hBB:=HBs.out;have k3:Upd (λb=>B≤b) w2 w3:=yG hx3;have k4:=k3.trans (zM hg4) (λx k=>.inl (by have:=wU4 k;omega));have k5:=k4.trans (yG (S:=λ_=>False) hx5) (λ_ k=>k.elim);exact HK.out _ _ _ hi2 (k5.trans (zM hg6) (λx k=>.inl (by have:=wU4 k;omega)))
 refine jE rfl rfl _ rfl hb6 _ underlying33 rfl 64 zJ HS.out ?_;exact⟨none,0,rfl,SL.nil _ _,hi,hu⟩
def zNn:((prog.info? 149).bind (·.zero)).isSome=true:=by kernel_rfl
def zIl {w:World} {g:Nat} {T:TypeId} {a b c:Int} (h:Blk w g T #[.int .i64 a,.int .i64 b,.int .i64 c]):w.cell? ⟨g,0,none⟩=some (.int .i64 a)∧w.cell? ⟨g,1,none⟩=some (.int .i64 b)∧w.cell? ⟨g,2,none⟩=some (.int .i64 c):=by rw[h.cell,h.cell,h.cell];exact⟨rfl,rfl,rfl⟩
set_option maxRecDepth 100000 in
def from_bad (before : Int) (hb1 : -2047 ≤ before) (hb2 : before ≤ 2047) {ty : TypeId} {v recv : Value} (hm : Meth Tryz.prog ty v "Token" f recv) (C : Src f #[recv] #[] B S Inv next) (w : World) (s : σ) (hI : Inv w s) (hB : B = w.heap.size)
 {t:Tok} {s1:σ} (h:next true s=(t,0,s1)) (hbad:zBa before t=false):Calls prog 162 #[.int .i64 before,.iface ty v] w (zCY S Inv w (4,List.replicate 64 0,[],s1)):=by
 have HA:=zA (λW (a:Inv W s) (b:B≤W.heap.size)=>C.ask true s W a b);rw[h] at HA;simp only[wT4,wT5,wE1,wG4,zET] at HA;have HN:=zA (λW=>zLM 4 W);have HAL:=zA (show (prog.info? 33).bind (·.zero)=some (.agg (bv (List.replicate 64 0))) from jX);have HO:=zA (xR (List.replicate 64 0));have HS:=zA (show (bv (List.replicate 64 0)).size=64 by rw[zK];rfl);have hz0:=zA (show (Value.agg (bv (List.replicate 64 0))).cells.size=64 by rw[show (Value.agg (bv (List.replicate 64 0))).cells=bv (List.replicate 64 0) from rfl,zK];rfl);have HK:=zA C.keep;have HLOW:=zA C.low;obtain⟨t1,t2,t3⟩:=t;have HBK:=zA (λW=>zQd t2 t3 W);have hbb:=zLO t2 t3
 have hcase:((xH t2 t3).2 !=0)=true∨(((xH t2 t3).2 !=0)=false∧(t1 !=t2)=true)∨(((xH t2 t3).2 !=0)=false∧(t1 !=t2)=false∧inB (before+(xH t2 t3).1) (-2047) 2047=false):=by
  by_cases c1:(xH t2 t3).2=0
  ·by_cases c2:t1=t2
   ·refine .inr (.inr ⟨by simpa using c1,by simpa using c2, ?_⟩);rw[zCe];unfold zBa at hbad;simp only[decide_eq_false_iff_not,not_and] at hbad;have:=hbad c1 c2;omega
   exact .inr (.inl ⟨by simpa using c1,by simpa using c2⟩)
  exact .inl (by simpa using c1)
 have HIC:=zA (λW=>zEH (before+(xH t2 t3).1) W);unfold zCY;clear hbad h C;generalize xH t2 t3=bk at *;obtain⟨b1,b2⟩:=bk;simp only at hbb hcase HBK HIC;obtain⟨hbb1,hbb2,-⟩:=hbb;generalize hcz:bv (List.replicate 64 0)=cz at *;have HCZ:=zA hcz;have HBs:=zA hB;clear hcz hB;rcases hcase with c1 | ⟨c1,c2⟩ | ⟨c1,c2,c3⟩
 all_goals
  go_enter func162,ntmps162
  go_wp2_with (first
   | ((with_reducible apply gS 4);refine wAlo' rfl (some 4) rfl 33 rfl _ HAL.out ?_;intro w1 g1 hb1 hx1 hg1)
   | ((with_reducible show wpList _ _ _ (⟨some 19, _, _, _, _, _⟩ :: _) _ _); refine xK (by rfl) (zDv (.tmp 18) "Token" _ _ rfl rfl hm #[recv, .bool true] (by simp [Act.eval])) ?_; (with_reducible refine (HA.out _ (HK.out _ _ _ hI (yG hx1)) (by rw [HBs.out]; exact hx1.size)).mono ?_); rintro e w2 ⟨rfl, hi2, hu2⟩; refine ⟨_, rfl, ?_⟩)
   | ((with_reducible apply gS 8);refine wAlo' rfl (some 8) rfl 149 rfl _ zAj ?_;intro w3 g3 hb3 hx3 hg3)
   | ((with_reducible apply gT 8 20);refine wStB rfl 149 (.tmp 8) (.tmp 20) rfl _ _ rfl rfl hb3 3 xI rfl rfl (zDo _ _ _) ?_;intro w4 hb4 hg4)
   | ((with_reducible apply gS 30);refine wLdB rfl 149 (.tmp 8) rfl g3 rfl hb4 _ underlying149 rfl 3 xI rfl ?_)
   | ((with_reducible apply gS 31);refine wLit1 rfl 145 149 (.tmp 30) rfl (some 31) rfl underlying145 3 xI zNn _ rfl rfl (by omega) (by omega) ?_;intro w5 g5 hb5 hx5 hg5;obtain⟨q0,q1,q2⟩:=zIl (hb4.ext hx5))
   | (go_at_call 188;(with_reducible refine (HBK.out _).mono ?_);rintro e w' ⟨rfl,rfl⟩)
   | (go_at_call 189;(with_reducible refine (HIC.out _).mono ?_);rintro e w' ⟨rfl,rfl⟩)
   | (go_at_call 187;(with_reducible refine (HN.out _).mono ?_);rintro e w6 ⟨rfl,hx6⟩;have hb1':Blk w6 g1 33 (Value.agg cz).cells:=(((((hu2.blk hb1 (λk=>by have:=HLOW.out _ k;have:=HBs.out;omega)).ext hx3).grown hg4 (by intro k;have:=wU4 k;have:=(hu2.blk hb1 (λk=>by have:=HLOW.out _ k;have:=HBs.out;omega)).lt;omega))).ext hx5).ext hx6)
   | ((with_reducible apply gT 4 58);refine wStB rfl 33 (.tmp 4) (.tmp 58) rfl _ _ rfl rfl hb1' 64 zJ HS.out hz0.out HO.out ?_;intro w7 hb7 hg7))
  have hu:Upd S w w7:=by
   have h1:Upd S w w2:=(yG (S:=S) hx1).trans hu2 (λ_ k=>.inl k);have h2:=h1.size;have h3:Upd S w w3:=h1.trans (yG (S:=λ_=>False) hx3) (λ_ k=>k.elim);have h4:=h3.trans (zM hg4) (λx k=>.inr (by have:=wU4 k;omega));have h5:=h4.trans (yG (S:=λ_=>False) (hx5.trans hx6)) (λ_ k=>k.elim);exact h5.trans (zM hg7) (λx k=>.inr (by have:=wU4 k;omega))
  have hi:Inv w7 s1:=by
   have h2:=hu2.size;have h3:=hx1.size;have hBB:=HBs.out;have k3:Upd (λb=>B≤b) w2 w3:=yG hx3;have k4:=k3.trans (zM hg4) (λx k=>.inl (by have:=wU4 k;omega));have k5:=k4.trans (yG (S:=λ_=>False) (hx5.trans hx6)) (λ_ k=>k.elim);exact HK.out _ _ _ hi2 (k5.trans (zM hg7) (λx k=>.inl (by have:=wU4 k;omega)))
  refine jE rfl rfl _ rfl hb7 _ underlying33 rfl 64 zJ HS.out ?_;exact⟨none,0,rfl,SL.nil _ _,hi,hu⟩
end
section
attribute [local irreducible] qX zto yW zBH bv xH zBk
def zOh (n:Int):bits .and .i64 n 15=n%16:=by
 have h127:(BitVec.ofInt 64 15).toNat=2 ^ 4-1:=by decide
 have key:(BitVec.ofInt 64 n &&&BitVec.ofInt 64 15).toNat=(n%((2 ^ 64:Nat):Int)).toNat%2 ^ 4:=by
  rw[BitVec.toNat_and,BitVec.toNat_ofInt,h127,wJ5]
 show IntKind.i64.wrap ((BitVec.ofInt 64 n &&&BitVec.ofInt 64 15).toNat:Nat)=n%16
 rw[key,IntKind.wrap_i64];omega
def run_and15 (n:Int) (W:World):(binOp .and 3 (.int .i64 n) (.int .i64 15)).run prog W=.ok (.int .i64 (n%16)) W:=by have:=zOh n;go_simp
def zAl:33≠149:=by decide
def zSr (x:Int):prog.built 33 [(0,.int .i64 x)]=some (bv ((List.replicate 64 0).set 0 x)):=by kernel_rfl
def run_shr4 (m d:Nat) (h:m≤255) (hd:d=m/16) (W:World):(binOp .shr 3 (.int .i64 (m:Int)) (.int .u64 4)).run prog W=.ok (.int .i64 (d:Int)) W:=by go_simp
section
variable {σ:Type} {f:FuncId} {B:Nat} {S:Nat→Prop} {Inv:World→σ→Prop} {next:Bool→σ→Tok×Int×σ}
section
variable {w w':World} {FIN G:Int×List Int×List Tok×σ} {before x:Int} {z zx:List Int} {L:List Tok} {q:σ} {A:Option Addr} {n c:Nat} {cz:Array Value} {Z0:List Int}
def zLC (HG:G=if FIN.1≠0 then (FIN.1,Z0,[],FIN.2.2.2) else if yW before FIN.2.1=FIN.2.2.1 then (0,qX FIN.2.1 64,FIN.2.2.1,FIN.2.2.2) else (4,Z0,[],FIN.2.2.2))
 (hF:FIN=(0,z,L,q)) (ht:yW before z=L) (hn:L.length=n) (hx:qX z 64=zx) (hs:SL w' 3 (.slice A L.length c) L.length (qW L)) (hi:Inv w' q) (hu:Upd S w w'):zCY S Inv w G (.returned (.tuple #[.agg (bv zx),.slice A n c,.int .i64 0])) w':=by
 subst hF hn hx;dsimp only at HG
 have hG:G=(0,qX z 64,L,q):=by
  rw[HG,if_neg (show ¬((0:Int)≠0) by simp),if_pos ht]
 subst hG;unfold zCY;dsimp only;exact⟨A,c,rfl,hs,hi,hu⟩
def zFK (HG:G=if FIN.1≠0 then (FIN.1,Z0,[],FIN.2.2.2) else if yW before FIN.2.1=FIN.2.2.1 then (0,qX FIN.2.1 64,FIN.2.2.1,FIN.2.2.2) else (4,Z0,[],FIN.2.2.2))
 (hF:FIN=(x,z,L,q)) (hx:x≠0) (hcz:bv (Z0)=cz) (hi:Inv w' q) (hu:Upd S w w'):zCY S Inv w G (.returned (.tuple #[.agg cz,.slice none 0 0,.int .i64 x])) w':=by subst hF hcz;dsimp only at HG;rw[if_pos hx] at HG;subst HG;unfold zCY;dsimp only;exact⟨none,0,rfl,SL.nil _ _,hi,hu⟩
def zPk (HG:G=if FIN.1≠0 then (FIN.1,Z0,[],FIN.2.2.2) else if yW before FIN.2.1=FIN.2.2.1 then (0,qX FIN.2.1 64,FIN.2.2.1,FIN.2.2.2) else (4,Z0,[],FIN.2.2.2))
 (hF:FIN=(0,z,L,q)) (ht:yW before z≠L) (hcz:bv (Z0)=cz) (hi:Inv w' q) (hu:Upd S w w'):zCY S Inv w G (.returned (.tuple #[.agg cz,.slice none 0 0,.int .i64 4])) w':=by subst hF hcz;dsimp only at HG;rw[if_neg (show ¬((0:Int)≠0) by simp),if_neg ht] at HG;subst HG;exact⟨none,0,rfl,SL.nil _ _,hi,hu⟩
end
set_option maxRecDepth 100000 in
def from_go (before : Int) (hbf1 : -2047 ≤ before) (hbf2 : before ≤ 2047) {ty : TypeId} {v recv : Value} (hm : Meth Tryz.prog ty v "Token" f recv) (C : Src f #[recv] #[] B S Inv next) (w : World) (s : σ) (hI : Inv w s) (hB : B = w.heap.size)
 {t:Tok} {s1:σ} (h:next true s=(t,0,s1)) (hgood:zBa before t=true):Calls prog 162 #[.int .i64 before,.iface ty v] w (zCY S Inv w (vD next before s)):=by
 have HA:=zA (λW (a:Inv W s) (b:B≤W.heap.size)=>C.ask true s W a b);rw[h] at HA;simp only[wT4,wT5,wE1,wG4,zET] at HA;have HA2:=zA (λq W (a:Inv W q) (b:B≤W.heap.size)=>C.ask false q W a b);simp only[wT4,wT5,wE1,wG4,zET] at HA2;have HN:=zA (λx W=>zLM x W);have HAL:=zA (show (prog.info? 33).bind (·.zero)=some (.agg (bv (List.replicate 64 0))) from jX);have HO:=zA (xR (List.replicate 64 0));have HS:=zA (show (bv (List.replicate 64 0)).size=64 by rw[zK];rfl);have hz0:=zA (show (Value.agg (bv (List.replicate 64 0))).cells.size=64 by rw[show (Value.agg (bv (List.replicate 64 0))).cells=bv (List.replicate 64 0) from rfl,zK];rfl);obtain⟨t1,t2,t3⟩:=t;have HBK:=zA (λa b W=>zQd a b W);have hbb:=zLO t2 t3;obtain⟨gg1,gg2,gg3,gg4⟩:=zMu.1 hgood;simp only at gg1 gg2 gg3 gg4;have c1:((xH t2 t3).2 !=0)=false:=by simpa using gg1
 have c2:(t1 !=t2)=false:=by simpa using gg2
 have HIC:Hid (∀W,Calls prog 189 #[.int .i64 (before+(xH t2 t3).1)] W λe w'=>e=.returned (.bool true)∧W=w'):=zA (λW=>by have:=zEH (before+(xH t2 t3).1) W;rwa [uJ.2 ⟨gg3,gg4⟩] at this);obtain⟨FIN,hFIN⟩:∃FIN,goB (next false) 1 ((List.replicate 64 0).set 0 (before+(xH t2 t3).1)) [(t1,t2,t3)] s1=FIN:=⟨_,rfl⟩
 have HG:=zA (blkZ_go h hgood hFIN);have HFIN:=zA hFIN;have HHALF:Half ((List.replicate 64 0).set 0 (before+(xH t2 t3).1)) 1:=Half.init _ gg3 gg4;have HBT:=zA (zSr (before+(xH t2 t3).1));have HO1:=zA (xR ((List.replicate 64 0).set 0 (before+(xH t2 t3).1)));have HS1:=zA (show (bv ((List.replicate 64 0).set 0 (before+(xH t2 t3).1))).size=64 by rw[zK];simp);generalize vD next before s=G at *;clear hgood h hFIN;generalize hbk:xH t2 t3=bk at *;have HBK1:Hid (∀W,Calls prog 188 #[.int .i64 t2,.int .i64 t3] W λe w'=>e=.returned (.tuple #[.int .i64 bk.1,.int .i64 bk.2])∧W=w'):=zA (λW=>by rw[←hbk];exact HBK.out t2 t3 W);clear hbk gg1 gg2;obtain⟨b1,b2⟩:=bk;simp only at hbb HBK1 HIC c1 HFIN HG HHALF gg3 gg4 HBT HO1 HS1;obtain⟨hbb1,hbb2,-⟩:=hbb;generalize (List.replicate 64 0).set 0 (before+b1)=z0 at *;generalize hcz:bv (List.replicate 64 0)=cz at *;have HCZ:=zA hcz;have HBs:=zA hB;clear hcz hB;go_enter func162,ntmps162
 go_wp2_with (first
  | ((with_reducible apply gS 4);refine wAlo' rfl (some 4) rfl 33 rfl _ HAL.out ?_;intro w1 gr hb1 hx1 hg1)
  | ((with_reducible show wpList _ _ _ (⟨some 19, _, _, _, _, _⟩ :: _) _ _); refine xK (by rfl) (zDv (.tmp 18) "Token" _ _ rfl rfl hm #[recv, .bool true] (by simp [Act.eval])) ?_; (with_reducible refine (HA.out _ (C.keep _ _ _ hI (yG hx1)) (by rw [HBs.out]; exact hx1.size)).mono ?_); rintro e w2 ⟨rfl, hi2, hu2⟩; refine ⟨_, rfl, ?_⟩)
  | ((with_reducible apply gS 8);refine wAlo' rfl (some 8) rfl 149 rfl _ zAj ?_;intro w3 g3 hb3 hx3 hg3)
  | ((with_reducible apply gT 8 20);refine wStB rfl 149 (.tmp 8) (.tmp 20) rfl _ _ rfl rfl hb3 3 xI rfl rfl (zDo _ _ _) ?_;intro w4 hb4 hg4)
  | ((with_reducible apply gS 30);refine wLdB rfl 149 (.tmp 8) rfl g3 rfl hb4 _ underlying149 rfl 3 xI rfl ?_)
  | ((with_reducible apply gS 31);refine wLit1 rfl 145 149 (.tmp 30) rfl (some 31) rfl underlying145 3 xI zNn _ rfl rfl (by omega) (by omega) ?_;intro w5 g5 hb5 hx5 hg5;obtain⟨q0,q1,q2⟩:=zIl (hb4.ext hx5))
  | (go_at_call 188;(with_reducible refine (HBK1.out _).mono ?_);rintro e w' ⟨rfl,rfl⟩)
  | (go_at_call 189;(with_reducible refine (HIC.out _).mono ?_);rintro e w' ⟨rfl,rfl⟩)
  | ((with_reducible apply gS 64);refine zFp rfl 33 #[(0,.tmp 63)] rfl (bv z0) (by simpa [Act.eval] using HBT.out) ?_)
  | ((with_reducible apply gS 12);refine wAlo' rfl (some 12) rfl 33 rfl _ HAL.out ?_;intro w6 gb hb6 hx6 hg6)
  | ((with_reducible apply gT 12 64);refine wStB rfl 33 (.tmp 12) (.tmp 64) rfl _ _ rfl rfl hb6 64 zJ HS1.out hz0.out HO1.out ?_;intro w7 hb7 hg7))
 have hF:From B S Inv w w7 gb gr 33 z0 (some ⟨g5,0,none⟩) 1 [(t1,t2,t3)] s1:=by
  have hBB:=HBs.out;have s1':=hx1.size;have s2:=hu2.size;have s3:=hx3.size;have s4:=hg4.size;have s5:=hx5.size;have s6:=hx6.size;have l1:=hb1.lt;have hbr2:=hu2.blk hb1 (λk=>by have:=C.low _ k;omega);have l2:=hbr2.lt;have hbr4:=(hbr2.ext hx3).grown hg4 (by intro k;have:=wU4 k;omega);have hbr6:=(hbr4.ext hx5).ext hx6;have hbr7:=hbr6.grown hg7 (by intro k;have:=wU4 k;have:=(hbr4.ext hx5).lt;omega);have h5:=hb5.lt
  have hrow6:w7.ownsRow B 149 3 (.slice (some ⟨g5,0,none⟩) 1 1) 1 (qW [(t1,t2,t3)]):=by
   refine⟨rfl,.inr ⟨g5,1, #[.int .i64 t1,.int .i64 t2,.int .i64 t3],rfl,by omega, ?_,by omega,by unfold maxLen;omega,rfl,by simp[qW,qN]⟩⟩;exact (hb5.ext hx6).grown hg7 (by intro k;have:=wU4 k;omega)
  refine⟨hb7,by rw[←HCZ.out] at hbr7;exact hbr7,by omega,by omega,by omega,hrow6, ?_, ?_,by have:=hg7.size;omega⟩
  ·have k3:Upd (λb=>B≤b) w2 w3:=yG hx3;have k4:=k3.trans (zM hg4) (λx k=>.inl (by have:=wU4 k;omega));have k5:=k4.trans (yG (S:=λ_=>False) (hx5.trans hx6)) (λ_ k=>k.elim);exact C.keep _ _ _ hi2 (k5.trans (zM hg7) (λx k=>.inl (by have:=wU4 k;omega)))
  have k1:Upd (λx=>S x∨B≤x) w w2:=(yG hx1).trans hu2 (λ_ k=>.inl (.inl k));have k4:=(k1.trans (yG (S:=λ_=>False) hx3) (λ_ k=>k.elim)).trans (zM hg4) (λx k=>.inl (.inr (by have:=wU4 k;omega)));have k5:=k4.trans (yG (S:=λ_=>False) (hx5.trans hx6)) (λ_ k=>k.elim);exact k5.trans (zM hg7) (λx k=>.inl (.inr (by have:=wU4 k;omega)))
 clear hb1 hx1 hg1 hi2 hu2 hb3 hx3 hg3 hb4 hg4 hb5 hx5 hg5 q0 q1 q2 hb6 hx6 hg6 hb7 hg7 HO1 HS1 HBT HBK1 HIC c1 c2 HA
 go_loopw [10,13] (λvl i wr=>∃(k:Nat) (z:List Int) (L:List Tok) (q:σ) (A:Option Addr) (c:Nat),k≤64∧i=.int .i64 (k:Int)∧vl=.slice A L.length c∧1≤k∧L.length≤k∧Half z k∧Hid (goB (next false) k z L q=FIN)∧From B S Inv w wr gb gr 33 z A c L q) (λ_ i _=>64-(intOf i).toNat)
 case atStart=>exact⟨1,z0,[(t1,t2,t3)],s1,some ⟨g5,0,none⟩,1,by omega,rfl,rfl,by omega,by simp,HHALF,HFIN,hF⟩
 case round =>
  clear hF HHALF HFIN;obtain⟨k,z,L,q,A,c,hk,rfl,rfl,hk1,hL,hz,HFIN,hF⟩:=hrel;obtain⟨n,hn⟩:∃n,L.length=n:=⟨_,rfl⟩
  have HLN:=zA hn;rw[hn] at hL ⊢;clear hn
  by_cases hlt:k<64
  ·rcases hq:next false q with ⟨⟨t1,t2,t3⟩,x,q'⟩
   have HQ:=zA hq;have HAq:Hid (∀W,Inv W q→B≤W.heap.size→Calls prog f #[recv,.bool false] W λe w'=>e=.returned (.tuple #[.agg #[.int .i64 t1,.int .i64 t2,.int .i64 t3],.int .i64 x])∧Inv w' q'∧Upd S W w'):=zA (λW a b=>by have:=HA2.out q W a b;rw[hq] at this;exact this);clear hq
   by_cases hx0:x=0
   ·subst hx0;have HBKq:Hid (∀W,Calls prog 188 #[.int .i64 t2,.int .i64 t3] W λe w'=>e=.returned (.tuple #[.int .i64 (xH t2 t3).1,.int .i64 (xH t2 t3).2])∧W=w'):=zA (λW=>HBK.out t2 t3 W);obtain⟨bd1,bd2,-⟩:=zLO t2 t3;have HT:Hid (zBk (t1,t2,t3)=decide ((xH t2 t3).2=0∧t2=t1%16∧t2≤11∧0≤t1∧t1≤255∧(t2=0→t1=0∨t1=240))):=zA (tokOk_def _);obtain⟨bk,hbk⟩:∃bk,xH t2 t3=bk:=⟨_,rfl⟩
    have HBK0:=zA hbk;rw[hbk] at HBKq bd1 bd2 HT;clear hbk;obtain⟨b1,b2⟩:=bk;simp only at HBKq bd1 bd2 HT
    go_upto_region 17 with (first
     | ((with_reducible show wpList _ _ _ (⟨some 69, _, _, _, _, _⟩ :: _) _ _); refine xK (by rfl) (zDv (.tmp 68) "Token" _ _ rfl rfl hm #[recv, .bool false] (by simp [Act.eval])) ?_; (with_reducible refine (HAq.out _ hF.inv hF.size).mono ?_); rintro e w2 ⟨rfl, hi2, hu2⟩; refine ⟨_, rfl, ?_⟩; have hF2 := hF.asked C hu2 hi2)
     | ((with_reducible apply gS 14);refine wAlo' rfl (some 14) rfl 149 rfl _ zAj ?_;intro w3 g14 hb3 hx3 hg3)
     | ((with_reducible apply gT 14 70);refine wStB rfl 149 (.tmp 14) (.tmp 70) rfl _ _ rfl rfl hb3 3 xI rfl rfl (zDo _ _ _) ?_;intro w4 hb4 hg4;have hF4:=hF2.made C hx3 hg3 hg4)
     | ((with_reducible apply gS 81);refine wLdB rfl 149 (.tmp 14) rfl g14 rfl hb4 _ underlying149 rfl 3 xI rfl ?_)
     | ((with_reducible apply gS 82);refine wLit1 rfl 145 149 (.tmp 81) rfl (some 82) rfl underlying145 3 xI zNn _ rfl rfl (by omega) (by omega) ?_;intro w5 g5 hb5 hx5 hg5;have hs5:SL w5 3 (.slice (some ⟨g5,0,none⟩) 1 1) 1 [.int .i64 t1,.int .i64 t2,.int .i64 t3]:=Blk.sl (cs:= #[.int .i64 t1,.int .i64 t2,.int .i64 t3]) hb5 rfl (by omega) (by omega);have hF5:=hF4.ext C hx5;have hrow5:=hF5.row;rw[HLN.out] at hrow5)
     | (at_builtin;go_must (refine wApf zKT rfl (.tmp 80) (.tmp 82) rfl B _ n (qW L) rfl hrow5 _ 1 [.int .i64 t1,.int .i64 t2,.int .i64 t3] rfl hs5 (zKK _ _ _) (by omega) (by omega) hF5.size ?_);intro A' c' w6 hown6 hgr6 hor6;obtain⟨q0,q1,q2⟩:=zIl ((zM hgr6).blk (hb4.ext hx5) (λk=>(hF2.fresh (g:=g14) hg3).2.2.2 _ (by rw[HLN.out];exact k) rfl));have hF6:From B S Inv w w6 gb gr 33 z A' c' (L++[(t1,t2,t3)]) q':=hF5.app C zAl (by rw[HLN.out];exact hown6) (by rw[HLN.out];exact hgr6))
     | (go_at_call 188;(with_reducible refine (HBKq.out _).mono ?_);rintro e w' ⟨rfl,rfl⟩))
    clear hF hF2 hF4 hF5 hb3 hb4 hb5 hx3 hx5 hg3 hg4 hg5 hrow5 hgr6 hor6 hown6 hi2 hu2
    go_cut [15,131] from 65 to 163 (λxv cv wx=>cv=.bool (!zBk (t1,t2,t3))∧wx=w6)
    case first =>
     clear hF6 HFIN HQ HAq HBKq HBK0 HA2 HBK HN HAL HO HS hz0 HG hz HCZ HBs C hm hI HLN hL hk1 hbb1 hbb2 gg3 gg4 bd1 bd2 hbf1 hbf2;have e15:=zOh t1;go_wp2_with fail
     all_goals go_meet
     all_goals (case rel=>exact⟨by rw[HT.out];refine congrArg Value.bool ?_;first | (rw[wS2 (by omega)];rfl) | (rw[wS3 (by omega)];rfl) | (by_cases h9:t1=240<;>first | (rw[wS2 (by omega)];simp[h9];done) | (rw[wS3 (by omega)];simp[h9];done)),rfl⟩)
    case rest =>
     obtain⟨hc1,hc2⟩:=hcut;subst hc1 hc2;obtain⟨Lx,hLx⟩:∃Lx,Lx=L++[(t1,t2,t3)]:=⟨_,rfl⟩
     have HLx:=zA hLx;have HLn:Hid (Lx.length=n+1):=zA (by rw[hLx,wE2,HLN.out];rfl);rw[←hLx] at hF6;clear hLx
     cases hok:zBk (t1,t2,t3) with
     | false =>
       have HFE:Hid (FIN=(4,z,L,q')):=zA (by rw[←HFIN.out,goB_bad hlt HQ.out hok]);clear hok
       go_wp2_with (first
        | (go_at_call 187;(with_reducible refine (HN.out _ _).mono ?_);rintro e w8 ⟨rfl,hx8⟩;have hF8:=hF6.ext C hx8;have hr8:=hF8.r;rw[HCZ.out] at hr8)
        | ((with_reducible apply gT 4 134);refine wStB rfl 33 (.tmp 4) (.tmp 134) rfl _ _ rfl rfl hr8 64 zJ HS.out HS.out HO.out ?_;intro w9 hb9 hg9))
       obtain⟨hi9,hu9,-⟩:=hF8.fin C zAl hg9 HBs.out;refine jE rfl rfl _ rfl hb9 _ underlying33 rfl 64 zJ HS.out ?_;exact zFK HG.out HFE.out (by omega) HCZ.out hi9 hu9
     | true =>
       obtain⟨k1,k2,k3,k4,k5,k6⟩:=zIr.1 hok;simp only at k1 k2 k3 k4 k5 k6;obtain⟨e1,e2,e3,e4⟩:=backR_11 k1 k3;rw[HBK0.out] at e1 e2 e4;simp only at e1 e2 e4;obtain⟨m,hm⟩:∃m:Nat,t1=(m:Int):=⟨t1.toNat,by omega⟩
       subst hm;have hm255:m≤255:=by omega
       have HOK:=zA hok;clear hok k1
       by_cases h0:m=0
       ·subst h0;have HFx:Hid (FIN=(0,z,Lx,q')):=zA (by rw[←HFIN.out,HLx.out,zOK hlt HQ.out HOK.out (by rfl)]);have hz64:Half z k:=hz;clear k2 k3 k4 k5 k6 e1 e2 e3 e4 HFIN HQ HAq HBKq HBK0 HT;obtain⟨nx,hnx⟩:∃nx,nx=n+1:=⟨_,rfl⟩
        have HL2:Hid (Lx.length=nx):=zA (by rw[HLn.out,hnx]);rw[←hnx];clear hnx HLn HLx;have HZF:=zA (λW=>zIt z W hz64.len);have HZL:=zA (show (bv z).size=64 by rw[zK];exact hz64.len);have HZS:=zA (show (bv (qX z 64)).size=64 by rw[zK,uW]);have HZO:=zA (xR (qX z 64))
        have HTK:Hid (∀W,Calls prog 191 #[.int .i64 before,.agg (bv (qX z 64))] W λe w'=>∃D d,e=.returned (.slice D (yW before z).length d)∧SL w' 3 (.slice D (yW before z).length d) (yW before z).length (qW (yW before z))∧Ext W w'):=zA (λW=>by
         have hzz:=zPn z hz64.len
         have h0:z.getD 0 0∈z:=by
          have:0<z.length:=by rw[hz64.len];omega
          simp[wH7,this]
         have hl:=hz64.lo _ h0;have:=zIQ before (qX z 64) W (uW z 64) hbf1 hbf2 (by rw[hzz];exact hl.1) (by rw[hzz];exact hl.2);rw[hzz] at this
         exact this.mono λe w' ⟨D,d,a1,a2,a3,a4⟩=>⟨D,d,a1,a2,a4⟩)
        generalize hTZ:yW before z=TZ at *;have HTZ:=zA hTZ;generalize hzx:qX z 64=zx at *;have HZX:=zA hzx;clear hTZ hzx hz64;obtain⟨nt,hnt⟩:∃nt,TZ.length=nt:=⟨_,rfl⟩
        have HNT:=zA hnt;rw[hnt] at HTK;clear hnt
        by_cases heq:TZ=Lx
        ·have HEQ:=zA heq
         have HSQ:Hid (∀D d W,SL W 3 (.slice D nt d) nt (qW TZ)→SL W 3 (.slice A' nx c') nx (qW Lx)→Calls prog 190 #[.slice D nt d,.slice A' nx c'] W λe w'=>e=.returned (.bool true)∧Ext W w'):=zA (λD d W h1 h2=>by
          have:=zFX (.slice D nt d) (.slice A' nx c') TZ Lx W (by rw[HNT.out];exact h1) (by rw[HL2.out];exact h2)
          rwa [wS2 HEQ.out] at this)
         clear heq
         go_wp2_with (first
          | ((with_reducible apply gS 164);refine wLdB rfl 33 (.tmp 12) rfl gb rfl hF6.b _ underlying33 rfl 64 zJ HZL.out ?_)
          | (go_at_call 82;(with_reducible refine (HZF.out _).mono ?_);rintro e w7 ⟨rfl,hx7⟩;have hF7:=hF6.ext C hx7)
          | ((with_reducible apply gT 12 165);refine wStB rfl 33 (.tmp 12) (.tmp 165) rfl _ _ rfl rfl hF7.b 64 zJ HZS.out HZL.out HZO.out ?_;intro w8 hb8 hg8;have hF8:=hF7.putb C zAl hg8 hb8)
          | ((with_reducible apply gS 167);refine wLdB rfl 33 (.tmp 12) rfl gb rfl hF8.b _ underlying33 rfl 64 zJ HZS.out ?_)
          | (go_at_call 191;(with_reducible refine (HTK.out _).mono ?_);rintro e w10 ⟨D,d',rfl,hs10,hx10⟩;have hF10:=hF8.ext C hx10;have hr10:=zHC hF10.row;rw[HL2.out] at hr10)
          | (go_at_call 190;(with_reducible refine (HSQ.out _ _ _ hs10 hr10).mono ?_);rintro e w11 ⟨rfl,hx11⟩;have hF11:=hF10.ext C hx11;have hrr:=hF11.r;rw[HCZ.out] at hrr)
          | ((with_reducible apply gS 177);refine wLdB rfl 33 (.tmp 12) rfl gb rfl hF11.b _ underlying33 rfl 64 zJ HZS.out ?_)
          | ((with_reducible apply gT 4 177);refine wStB rfl 33 (.tmp 4) (.tmp 177) rfl _ _ rfl rfl hrr 64 zJ HZS.out HS.out HZO.out ?_;intro w12 hb12 hg12))
         obtain⟨hi12,hu12,hs12⟩:=hF11.fin C zAl hg12 HBs.out;refine jE rfl rfl _ rfl hb12 _ underlying33 rfl 64 zJ HZS.out ?_;exact zLC HG.out HFx.out (HTZ.out.trans HEQ.out) HL2.out HZX.out hs12 hi12 hu12
        have HEQ:=zA heq
        have HSQ:Hid (∀D d W,SL W 3 (.slice D nt d) nt (qW TZ)→SL W 3 (.slice A' nx c') nx (qW Lx)→Calls prog 190 #[.slice D nt d,.slice A' nx c'] W λe w'=>e=.returned (.bool false)∧Ext W w'):=zA (λD d W h1 h2=>by
         have:=zFX (.slice D nt d) (.slice A' nx c') TZ Lx W (by rw[HNT.out];exact h1) (by rw[HL2.out];exact h2)
         rwa [wS3 HEQ.out] at this)
        clear heq
        go_wp2_with (first
         | ((with_reducible apply gS 164);refine wLdB rfl 33 (.tmp 12) rfl gb rfl hF6.b _ underlying33 rfl 64 zJ HZL.out ?_)
         | (go_at_call 82;(with_reducible refine (HZF.out _).mono ?_);rintro e w7 ⟨rfl,hx7⟩;have hF7:=hF6.ext C hx7)
         | ((with_reducible apply gT 12 165);refine wStB rfl 33 (.tmp 12) (.tmp 165) rfl _ _ rfl rfl hF7.b 64 zJ HZS.out HZL.out HZO.out ?_;intro w8 hb8 hg8;have hF8:=hF7.putb C zAl hg8 hb8)
         | ((with_reducible apply gS 167);refine wLdB rfl 33 (.tmp 12) rfl gb rfl hF8.b _ underlying33 rfl 64 zJ HZS.out ?_)
         | (go_at_call 191;(with_reducible refine (HTK.out _).mono ?_);rintro e w10 ⟨D,d',rfl,hs10,hx10⟩;have hF10:=hF8.ext C hx10;have hr10:=zHC hF10.row;rw[HL2.out] at hr10)
         | (go_at_call 190;(with_reducible refine (HSQ.out _ _ _ hs10 hr10).mono ?_);rintro e w11 ⟨rfl,hx11⟩;have hF11:=hF10.ext C hx11)
         | (go_at_call 187;(with_reducible refine (HN.out _ _).mono ?_);rintro e w13 ⟨rfl,hx13⟩;have hF13:=hF11.ext C hx13;have hr13:=hF13.r;rw[HCZ.out] at hr13)
         | ((with_reducible apply gT 4 174);refine wStB rfl 33 (.tmp 4) (.tmp 174) rfl _ _ rfl rfl hr13 64 zJ HS.out HS.out HO.out ?_;intro w14 hb14 hg14))
        obtain⟨hi14,hu14,-⟩:=hF13.fin C zAl hg14 HBs.out;refine jE rfl rfl _ rfl hb14 _ underlying33 rfl 64 zJ HS.out ?_;exact zPk HG.out HFx.out (by rw[HTZ.out];exact HEQ.out) HCZ.out hi14 hu14
       have hm0:((m:Int) ==0)=false:=by simp;omega
       have ed:((m:Int)/16).toNat=m/16:=by omega
       by_cases h240:m=240
       ·subst h240;have hb0:b1=0:=by rw[show t2=0 by omega] at e4;exact e4 rfl
        subst hb0
        by_cases hf:64<k+16
        ·have HFE:Hid (FIN=(4,z,L,q')):=zA (by rw[←HFIN.out,zOI hlt HQ.out HOK.out (by simp) (by simp;omega)])
         go_wp2_with (first
          | (go_at_call 187;(with_reducible refine (HN.out _ _).mono ?_);rintro e w8 ⟨rfl,hx8⟩;have hF8:=hF6.ext C hx8;have hr8:=hF8.r;rw[HCZ.out] at hr8)
          | ((with_reducible apply gT 4 161);refine wStB rfl 33 (.tmp 4) (.tmp 161) rfl _ _ rfl rfl hr8 64 zJ HS.out HS.out HO.out ?_;intro w9 hb9 hg9))
         obtain⟨hi9,hu9,-⟩:=hF8.fin C zAl hg9 HBs.out;refine jE rfl rfl _ rfl hb9 _ underlying33 rfl 64 zJ HS.out ?_;exact zFK HG.out HFE.out (by omega) HCZ.out hi9 hu9
        have HST:Hid (goB (next false) (k+16) z Lx q'=FIN):=zA (by rw[←HFIN.out,zGH hlt HQ.out HOK.out (by simp) (by simp;omega),HBK0.out,HLx.out];simp only;rw[show ((240:Nat):Int)/16=15 by rfl,show (15:Int).toNat=15 by rfl,hz.same (by omega) (by omega)]);have hz':Half z (k+16):=⟨hz.len,hz.lo,λj a b=>hz.zero j (by omega) b⟩
        go_wp2_with fail;go_roundw
        case rel=>exact⟨k+16,z,Lx,q',A',c',by omega,by go_num,by rw[HLn.out],by omega,by rw[HLn.out];omega,hz',HST,hF6⟩
        case measure=>simp[intOf];omega
       have hm240:((m:Int) ==240)=false:=by simp;omega
       obtain⟨d,hd⟩:∃d,d=m/16:=⟨_,rfl⟩
       have hd15:d≤15:=by omega
       have HD:Hid (((m:Int)/16).toNat=d):=zA (by omega);have hsh:∀W,(binOp .shr 3 (.int .i64 (m:Int)) (.int .u64 4)).run prog W=.ok (.int .i64 (d:Int)) W:=λW=>run_shr4 m d hm255 hd W
       clear ed hd
       by_cases hf:64<k+d+1
       ·have HFE:Hid (FIN=(4,z,L,q')):=zA (by rw[←HFIN.out,zOI hlt HQ.out HOK.out (by simp;omega) (by simp only;rw[HD.out];omega)])
        go_wp2_with (first
         | ((with_reducible apply gS 148);refine zB rfl (.int .i64 ((d:Nat):Int)) (zBz rfl rfl rfl hsh) ?_)
         | (go_at_call 187;(with_reducible refine (HN.out _ _).mono ?_);rintro e w8 ⟨rfl,hx8⟩;have hF8:=hF6.ext C hx8;have hr8:=hF8.r;rw[HCZ.out] at hr8)
         | ((with_reducible apply gT 4 161);refine wStB rfl 33 (.tmp 4) (.tmp 161) rfl _ _ rfl rfl hr8 64 zJ HS.out HS.out HO.out ?_;intro w9 hb9 hg9))
        obtain⟨hi9,hu9,-⟩:=hF8.fin C zAl hg9 HBs.out;refine jE rfl rfl _ rfl hb9 _ underlying33 rfl 64 zJ HS.out ?_;exact zFK HG.out HFE.out (by omega) HCZ.out hi9 hu9
       have HST:Hid (goB (next false) (k+d+1) (z.set (k+d) b1) Lx q'=FIN):=zA (by rw[←HFIN.out,zGH hlt HQ.out HOK.out (by simp;omega) (by simp only;rw[HD.out];omega),HBK0.out,HLx.out];simp only;rw[HD.out]);have hz':Half (z.set (k+d) b1) (k+d+1):=hz.set (by omega) (by omega) e1 e2;have hfz:=hF6.b.frozen (k+d)
       obtain⟨old,hold⟩:∃u,wc.cell? ⟨gb,k+d,none⟩=some u:=by
        rw[hF6.b.cell];have:=hz.len;exact⟨_,jQ _ (k+d) (by omega)⟩
       go_wp2_with ((with_reducible apply gS 148);refine zB rfl (.int .i64 ((d:Nat):Int)) (zBz rfl rfl rfl hsh) ?_)
       go_roundw
       case rel=>exact⟨k+d+1,z.set (k+d) b1,Lx,q',A',c',by omega,by go_num,by rw[HLn.out],by omega,by rw[HLn.out];omega,hz',HST,hF6.set C zAl _ _⟩
       case measure=>simp[intOf];omega
   have hxb:(x !=0)=true:=by simpa using hx0
   have HFE:Hid (FIN=(x,z,L,q')):=zA (by rw[←HFIN.out,goB_err hlt HQ.out hx0]);have HX0:=zA hx0;clear hx0
   go_wp2_with (first
    | ((with_reducible show wpList _ _ _ (⟨some 69, _, _, _, _, _⟩ :: _) _ _); refine xK (by rfl) (zDv (.tmp 68) "Token" _ _ rfl rfl hm #[recv, .bool false] (by simp [Act.eval])) ?_; (with_reducible refine (HAq.out _ hF.inv hF.size).mono ?_); rintro e w2 ⟨rfl, hi2, hu2⟩; refine ⟨_, rfl, ?_⟩; have hF2 := hF.asked C hu2 hi2)
    | ((with_reducible apply gS 14);refine wAlo' rfl (some 14) rfl 149 rfl _ zAj ?_;intro w3 g14 hb3 hx3 hg3)
    | ((with_reducible apply gT 14 70);refine wStB rfl 149 (.tmp 14) (.tmp 70) rfl _ _ rfl rfl hb3 3 xI rfl rfl (zDo _ _ _) ?_;intro w4 hb4 hg4;have hF4:=hF2.made C hx3 hg3 hg4)
    | (go_at_call 187;(with_reducible refine (HN.out _ _).mono ?_);rintro e w8 ⟨rfl,hx8⟩;have hF8:=hF4.ext C hx8;have hr8:=hF8.r;rw[HCZ.out] at hr8)
    | ((with_reducible apply gT 4 77);refine wStB rfl 33 (.tmp 4) (.tmp 77) rfl _ _ rfl rfl hr8 64 zJ HS.out HS.out HO.out ?_;intro w9 hb9 hg9))
   obtain⟨hi9,hu9,-⟩:=hF8.fin C zAl hg9 HBs.out;refine jE rfl rfl _ rfl hb9 _ underlying33 rfl 64 zJ HS.out ?_;exact zFK HG.out HFE.out HX0.out HCZ.out hi9 hu9
  have hk64:k=64:=by omega
  have HFx:Hid (FIN=(0,z,L,q)):=zA (by rw[←HFIN.out,zLN (by omega)]);have hz64:Half z k:=hz;clear HFIN;have HZF:=zA (λW=>zIt z W hz64.len);have HZL:=zA (show (bv z).size=64 by rw[zK];exact hz64.len);have HZS:=zA (show (bv (qX z 64)).size=64 by rw[zK,uW]);have HZO:=zA (xR (qX z 64))
  have HTK:Hid (∀W,Calls prog 191 #[.int .i64 before,.agg (bv (qX z 64))] W λe w'=>∃D d,e=.returned (.slice D (yW before z).length d)∧SL w' 3 (.slice D (yW before z).length d) (yW before z).length (qW (yW before z))∧Ext W w'):=zA (λW=>by
   have hzz:=zPn z hz64.len
   have h0:z.getD 0 0∈z:=by
    have:0<z.length:=by rw[hz64.len];omega
    simp[wH7,this]
   have hl:=hz64.lo _ h0;have:=zIQ before (qX z 64) W (uW z 64) hbf1 hbf2 (by rw[hzz];exact hl.1) (by rw[hzz];exact hl.2);rw[hzz] at this
   exact this.mono λe w' ⟨D,d,a1,a2,a3,a4⟩=>⟨D,d,a1,a2,a4⟩)
  generalize hTZ:yW before z=TZ at *;have HTZ:=zA hTZ;generalize hzx:qX z 64=zx at *;have HZX:=zA hzx;clear hTZ hzx hz64;obtain⟨nt,hnt⟩:∃nt,TZ.length=nt:=⟨_,rfl⟩
  have HNT:=zA hnt;rw[hnt] at HTK;clear hnt
  by_cases heq:TZ=L
  ·have HEQ:=zA heq
   have HSQ:Hid (∀D d W,SL W 3 (.slice D nt d) nt (qW TZ)→SL W 3 (.slice A n c) n (qW L)→Calls prog 190 #[.slice D nt d,.slice A n c] W λe w'=>e=.returned (.bool true)∧Ext W w'):=zA (λD d W h1 h2=>by
    have:=zFX (.slice D nt d) (.slice A n c) TZ L W (by rw[HNT.out];exact h1) (by rw[HLN.out];exact h2)
    rwa [wS2 HEQ.out] at this)
   clear heq
   go_wp2_with (first
    | ((with_reducible apply gS 164);refine wLdB rfl 33 (.tmp 12) rfl gb rfl hF.b _ underlying33 rfl 64 zJ HZL.out ?_)
    | (go_at_call 82;(with_reducible refine (HZF.out _).mono ?_);rintro e w7 ⟨rfl,hx7⟩;have hF7:=hF.ext C hx7)
    | ((with_reducible apply gT 12 165);refine wStB rfl 33 (.tmp 12) (.tmp 165) rfl _ _ rfl rfl hF7.b 64 zJ HZS.out HZL.out HZO.out ?_;intro w8 hb8 hg8;have hF8:=hF7.putb C zAl hg8 hb8)
    | ((with_reducible apply gS 167);refine wLdB rfl 33 (.tmp 12) rfl gb rfl hF8.b _ underlying33 rfl 64 zJ HZS.out ?_)
    | (go_at_call 191;(with_reducible refine (HTK.out _).mono ?_);rintro e w10 ⟨D,d',rfl,hs10,hx10⟩;have hF10:=hF8.ext C hx10;have hr10:=zHC hF10.row;rw[HLN.out] at hr10)
    | (go_at_call 190;(with_reducible refine (HSQ.out _ _ _ hs10 hr10).mono ?_);rintro e w11 ⟨rfl,hx11⟩;have hF11:=hF10.ext C hx11;have hrr:=hF11.r;rw[HCZ.out] at hrr)
    | ((with_reducible apply gS 177);refine wLdB rfl 33 (.tmp 12) rfl gb rfl hF11.b _ underlying33 rfl 64 zJ HZS.out ?_)
    | ((with_reducible apply gT 4 177);refine wStB rfl 33 (.tmp 4) (.tmp 177) rfl _ _ rfl rfl hrr 64 zJ HZS.out HS.out HZO.out ?_;intro w12 hb12 hg12))
   obtain⟨hi12,hu12,hs12⟩:=hF11.fin C zAl hg12 HBs.out;refine jE rfl rfl _ rfl hb12 _ underlying33 rfl 64 zJ HZS.out ?_;exact zLC HG.out HFx.out (HTZ.out.trans HEQ.out) HLN.out HZX.out hs12 hi12 hu12
  have HEQ:=zA heq
  have HSQ:Hid (∀D d W,SL W 3 (.slice D nt d) nt (qW TZ)→SL W 3 (.slice A n c) n (qW L)→Calls prog 190 #[.slice D nt d,.slice A n c] W λe w'=>e=.returned (.bool false)∧Ext W w'):=zA (λD d W h1 h2=>by
   have:=zFX (.slice D nt d) (.slice A n c) TZ L W (by rw[HNT.out];exact h1) (by rw[HLN.out];exact h2)
   rwa [wS3 HEQ.out] at this)
  clear heq
  go_wp2_with (first
   | ((with_reducible apply gS 164);refine wLdB rfl 33 (.tmp 12) rfl gb rfl hF.b _ underlying33 rfl 64 zJ HZL.out ?_)
   | (go_at_call 82;(with_reducible refine (HZF.out _).mono ?_);rintro e w7 ⟨rfl,hx7⟩;have hF7:=hF.ext C hx7)
   | ((with_reducible apply gT 12 165);refine wStB rfl 33 (.tmp 12) (.tmp 165) rfl _ _ rfl rfl hF7.b 64 zJ HZS.out HZL.out HZO.out ?_;intro w8 hb8 hg8;have hF8:=hF7.putb C zAl hg8 hb8)
   | ((with_reducible apply gS 167);refine wLdB rfl 33 (.tmp 12) rfl gb rfl hF8.b _ underlying33 rfl 64 zJ HZS.out ?_)
   | (go_at_call 191;(with_reducible refine (HTK.out _).mono ?_);rintro e w10 ⟨D,d',rfl,hs10,hx10⟩;have hF10:=hF8.ext C hx10;have hr10:=zHC hF10.row;rw[HLN.out] at hr10)
   | (go_at_call 190;(with_reducible refine (HSQ.out _ _ _ hs10 hr10).mono ?_);rintro e w11 ⟨rfl,hx11⟩;have hF11:=hF10.ext C hx11)
   | (go_at_call 187;(with_reducible refine (HN.out _ _).mono ?_);rintro e w13 ⟨rfl,hx13⟩;have hF13:=hF11.ext C hx13;have hr13:=hF13.r;rw[HCZ.out] at hr13)
   | ((with_reducible apply gT 4 174);refine wStB rfl 33 (.tmp 4) (.tmp 174) rfl _ _ rfl rfl hr13 64 zJ HS.out HS.out HO.out ?_;intro w14 hb14 hg14))
  obtain⟨hi14,hu14,-⟩:=hF13.fin C zAl hg14 HBs.out;refine jE rfl rfl _ rfl hb14 _ underlying33 rfl 64 zJ HS.out ?_;exact zPk HG.out HFx.out (by rw[HTZ.out];exact HEQ.out) HCZ.out hi14 hu14
end
end
section
section
variable {σ:Type} {f:FuncId} {B:Nat} {S:Nat→Prop} {Inv:World→σ→Prop} {next:Bool→σ→Tok×Int×σ}
def from_any (before : Int) (hb1 : -2047 ≤ before) (hb2 : before ≤ 2047) {ty : TypeId} {v recv : Value} (hm : Meth Tryz.prog ty v "Token" f recv) (C : Src f #[recv] #[] B S Inv next) (w : World) (s : σ) (hI : Inv w s) (hB : B = w.heap.size) :
 Calls prog 162 #[.int .i64 before,.iface ty v] w (zCY S Inv w (vD next before s)):=by
 rcases hq:next true s with ⟨t,x,s'⟩
 by_cases hx:x=0
 ·subst hx
  cases hok:zBa before t with
  | false=>rw[zRc hq hok];exact from_bad before hb1 hb2 hm C w s hI hB hq hok
  | true=>exact from_go before hb1 hb2 hm C w s hI hB hq hok
 rw[zRe hq hx];exact from_err before hm C w s hI hB hq hx
end
attribute [local irreducible] qX yW zBH xH
def goB_len {σ:Type} (next:σ→Tok×Int×σ):∀(n i:Nat) (z:List Int) (all:List Tok) (s:σ),64-i=n→i≤64→z.length=64→all.length≤i→(goB next i z all s).2.1.length=64∧(goB next i z all s).2.2.1.length≤64:=by
 intro n
 induction n using Nat.strongRecOn with
 | ind n ih =>
   intro i z all s hn hi hz hl
   by_cases hlt:i<64
   ·rcases hq:next s with ⟨t,e,s'⟩
    by_cases he:e=0
    ·subst he
     cases ht:zBk t with
     | false=>rw[goB_bad hlt hq ht];exact⟨hz,by dsimp only;omega⟩
     | true =>
       by_cases h1:t.1=0
       ·rw[zOK hlt hq ht h1];exact⟨hz,by dsimp only;simp;omega⟩
       by_cases hf:64<i+(t.1/16).toNat+1
       ·rw[zOI hlt hq ht h1 hf];exact⟨hz,by dsimp only;omega⟩
       rw[zGH hlt hq ht h1 hf];exact ih _ (by omega) _ _ _ _ rfl (by omega) (by simpa using hz) (by simp;omega)
    rw[goB_err hlt hq he];exact⟨hz,by dsimp only;omega⟩
   rw[zLN hlt];exact⟨hz,by dsimp only;omega⟩
def zSI {σ:Type} (next:Bool→σ→Tok×Int×σ) (before:Int) (s:σ):(vD next before s).2.1.length=64∧(vD next before s).2.2.1.length≤64:=by
 rcases hq:next true s with ⟨t,x,s'⟩
 by_cases hx:x=0
 ·subst hx
  cases hok:zBa before t with
  | false=>rw[zRc hq hok];exact⟨by simp,by simp⟩
  | true =>
    rw[zQn hq hok];have h:=goB_len (next false) 63 1 ((List.replicate 64 0).set 0 (before+(xH t.2.1 t.2.2).1)) [t] s' (by omega) (by omega) (by simp) (by simp);generalize goB (next false) 1 ((List.replicate 64 0).set 0 (before+(xH t.2.1 t.2.2).1)) [t] s'=g at *;obtain⟨e,z,all,q⟩:=g;dsimp only at h
    by_cases he:e=0
    ·subst he
     by_cases ht:yW before z=all
     ·rw[zOt ht];exact⟨uW _ _,h.2⟩
     rw[finZ_ne ht];exact⟨by simp,by simp⟩
    rw[finZ_err he];exact⟨by simp,by simp⟩
 rw[zRe hq hx];exact⟨by simp,by simp⟩
end
def zAk (next:Bool→Nat→Tok×Int×Nat):Nat→Int→Nat→List Int→Int×List Int×Nat
 | 0,_,p,acc=>(0,acc,p)
 | m+1,before,p,acc=>if (vD next before p).1≠0 then ((vD next before p).1,[],p) else zAk next m ((vD next before p).2.1.getD 0 0) (vD next before p).2.2.2 (acc++(vD next before p).2.1)
def zPG {next:Bool→Nat→Tok×Int×Nat} {m:Nat} {before:Int} {p:Nat} {acc:List Int} (h:(vD next before p).1≠0):zAk next (m+1) before p acc=((vD next before p).1,[],p):=by rw[zAk,if_pos h]
def zMC {next:Bool→Nat→Tok×Int×Nat} {m:Nat} {before:Int} {p:Nat} {acc:List Int} (h:(vD next before p).1=0):zAk next (m+1) before p acc=zAk next m ((vD next before p).2.1.getD 0 0) (vD next before p).2.2.2 (acc++(vD next before p).2.1):=by rw[zAk,if_neg (by simp[h])]
def zPz {next:Bool→Nat→Tok×Int×Nat}:∀(m:Nat) (before:Int) (p:Nat) (acc:List Int) (k:Nat),acc.length=k*64→(zAk next m before p acc).1=0→(zAk next m before p acc).2.1.length=(k+m)*64
 | 0,_,_,acc,k,h,_=>by rw[zAk];simpa using h
 | m+1,before,p,acc,k,h,h0=>by
   by_cases he:(vD next before p).1=0
   ·rw[zMC he] at h0 ⊢;have:=zPz m _ _ (acc++(vD next before p).2.1) (k+1) (by rw[wE2,h,(zSI next before p).1];omega) h0;rw[this];congr 1
    omega
   rw[zPG he] at h0;exact absurd h0 he
def zEC (D:List Bool) (r:Int×List Int×Nat):Int×List Int:=if r.1≠0 then (r.1,[]) else if 7<D.length-r.2.2∨false∈D.drop r.2.2 then (4,[]) else (0,r.2.1)
def ones_iff (L:List Bool):yK L=2 ^ L.length-1↔ ¬false∈L:=by
 rw[←zJT];constructor
 ·intro h hm;have e:L=List.replicate L.length true:=zLc (by simp) h;rw[e] at hm;have:=(wM4.1 hm).2;cases this
 intro h
 have e:L=List.replicate L.length true:=by
  refine List.eq_replicate_iff.2 ⟨rfl,λb hb=> ?_⟩
  cases b with
  | true=>rfl
  | false=>exact absurd hb h
 rw[←e]
def vQ (r:Bool) (T1 T2:List Tok) (nn:Int) (bs:Option (List Nat)):Int×List Int :=
 if nn<0∨400<nn then (1,[]) else match bs with
  | none=>(4,[])
  | some pb=>zEC (zN pb) (zAk (xD r T1 T2 (zN pb)) nn.toNat 0 0 [])
def zCk (r:Int×List Int) (w:World) (e:Ending) (w':World):Prop :=
 Ext w w'∧if r.1=0 then ∃B k d,e=.returned (.tuple #[.slice B k d,.int .i64 0])∧r.2.length=k*64∧SL w' 64 (.slice B k d) k (ints r.2)∧(B=none→d=0)
  else e=.returned (.tuple #[.slice none 0 0,.int .i64 r.1])
def zTh {r:Bool} {T1 T2:List Tok} {D:List Bool} {b:Bool} {p:Nat} (hT1:∀t∈T1,0≤t.1∧t.1≤255) (hT2:∀t∈T2,0≤t.1∧t.1≤255) (h:(xD r T1 T2 D b p).2.1=0) :
 I64 (xD r T1 T2 D b p).1.1∧I64 (xD r T1 T2 D b p).1.2.1∧I64 (xD r T1 T2 D b p).1.2.2:=by
 by_cases h0:(uU (if b then T1 else T2) D p).2.2≠0
 ·rw[zKu h0] at h;exact absurd h h0
 obtain⟨s,p',e⟩:∃s p',uU (if b then T1 else T2) D p=(s,p',0):=⟨_,_,Prod.ext rfl (Prod.ext rfl (by simpa using h0))⟩
 have hr:=zRT (T:=if b then T1 else T2) (D:=D) (p:=p) (by cases b<;>assumption);rw[e] at hr;dsimp only at hr
 by_cases hb:12<(if b then s else s%16)∨(b=false∧11<(if b then s else s%16))
 ·rw[zJE e rfl hb] at h;cases h
 by_cases hl:D.length<p'+(if b then s else s%16).toNat
 ·rw[zIf e rfl hb hl] at h;cases h
 rw[zGF e rfl hb hl];have h12:(if b then s else s%16)≤12:=Int.not_lt.1 λk=>hb (.inl k)
 have h00:0≤(if b then s else s%16):=by cases b<;>simp<;>omega
 have hn:=zEG (D.drop p') (if b then s else s%16).toNat 12 (by omega);have h4:(2:Nat) ^ 12=4096:=by decide
 rw[h4] at hn;unfold I64;dsimp only;refine⟨by omega,by omega,by omega⟩
section
open Go.RowKit Go.Maps Go.WideMaps
def numB_bit (D:List Bool) (p k:Nat) (h:p+k<D.length):yK ((D.drop p).take (k+1))=2*yK ((D.drop p).take k)+yK ((D.drop (p+k)).take 1):=by
 rw[zHL _ _ (by simp;omega)];congr 1
 have e:(D.drop (p+k)).take 1=[D[p+k]]:=by
  rw[wH0 h];rfl
 rw[e];simp[yK]
def zQE (w:World):(zeroValue 3).run prog w=.ok (.int .i64 0) w:=by kernel_rfl
def zSE (gc gr:Nat) (T:List Tok) (A:Option Addr) (n c p:Nat) (bs:List Nat) (w0 w:World) (hc:CoderS w0 gc T) (hg:w0.heap.size≤gr) (hbw:Below gr w0 w) (hr:RdS w gr A n c p bs) (hgw:gr<w.heap.size) :
 Calls prog 243 #[.pointer (some ⟨gc,0,none⟩),.pointer (some ⟨gr,0,none⟩)] w λe w' =>
  e=.returned (.tuple #[.int .i64 (vL T (zN bs) p 16 1).1,.int .i64 (vL T (zN bs) p 16 1).2.2])∧RdS w' gr A n c (if (vL T (zN bs) p 16 1).2.2=0 then (vL T (zN bs) p 16 1).2.1 else if (vL T (zN bs) p 16 1).2.2=3 then 8*n else p+16) bs∧Upd (λx=>x=gr) w w':=by
 have HD:Hid ((zN bs).length=8*n):=zA (by rw[zFS,hr.2.2.1]);have HNB:=zA (numB_bit (zN bs) p);have HLT:=zA (λi (h1:i≤24)=>zEG ((zN bs).drop p) i 24 h1);have HL1:=zA (λq=>zEG ((zN bs).drop q) 1 1 (by omega));have HG0:Hid (∀long,vL T (zN bs) p 0 long=(0,p,4)):=zA (λlong=>getGo_end);have HGO:Hid (∀f long,¬p+long≤8*n→vL T (zN bs) p (f+1) long=(0,p,3)):=zA (λf long h=>getGo_out (by rw[HD.out];exact h));have HGY:Hid (∀f long t,p+long≤8*n→T.find? (zCd (long:Int) (yK (((zN bs).drop p).take long):Nat))=some t→vL T (zN bs) p (f+1) long=(t.1,p+long,0)):=zA (λf long t h hf=>getGo_yes (by rw[HD.out];exact h) hf);have HGN:Hid (∀f long,p+long≤8*n→T.find? (zCd (long:Int) (yK (((zN bs).drop p).take long):Nat))=none→vL T (zN bs) p (f+1) long=vL T (zN bs) p f (long+1)):=zA (λf long h hf=>getGo_no (by rw[HD.out];exact h) hf);obtain⟨ez,hez⟩:∃ez,ez=vL T (zN bs) p 16 1:=⟨_,rfl⟩
 have HEZ:=zA hez;rw[←hez];obtain⟨ps,hps⟩:∃ps,ps=(if ez.2.2=0 then ez.2.1 else if ez.2.2=3 then 8*n else p+16):=⟨_,rfl⟩
 have HPS:=zA hps;rw[←hps];clear hez hps;have hp0:p≤8*n:=hr.2.2.2.2.2.2;go_enter func243,ntmps243;go_wp2_with fail
 go_loopw [6,7] (λv i wr=>∃k:Nat,k≤16∧i=.int .i64 ((k+1:Nat):Int)∧v=.int .i64 ((yK (((zN bs).drop p).take k):Nat):Int)∧Hid (ez=vL T (zN bs) p (16-k) (k+1))∧RdS wr gr A n c (p+k) bs∧Upd (λx=>x=gr) w wr) (λ_ i _=>17-(intOf i).toNat)
 case atStart=>exact⟨0,by omega,rfl,by simp[yK],HEZ,hr,Upd.refl _ _⟩
 case round =>
  clear HEZ hr;obtain⟨k,hk,rfl,rfl,HEZ,hr,hu⟩:=hrel;have hpk:p+k≤8*n:=hr.2.2.2.2.2.2
  by_cases hlt:k<16
  ·have HEK:Hid (ez=vL T (zN bs) p (15-k+1) (k+1)):=zA (by rw[HEZ.out,show 15-k+1=16-k by omega]);clear HEZ
   by_cases hfit:p+k+1≤8*n
   ·have HYES:=zA (λt h=>HEK.out.trans (HGY.out (15-k) (k+1) t (by omega) h));have HNO:=zA (λh=>HEK.out.trans (HGN.out (15-k) (k+1) (by omega) h));have hcw:=hc.below hg (hbw.trans (hu.below (λx hx=>by omega) (by omega)));have HG:Hid (∀W,RdS W gr A n c (p+k) bs→Calls prog 164 #[.pointer (some ⟨gr,0,none⟩),.int .i64 1] W λe w'=>e=.returned (.tuple #[.int .i64 ((yK (((zN bs).drop (p+k)).take 1):Nat):Int),.bool true])∧RdS w' gr A n c (p+k+1) bs∧Upd (λx=>x=gr) W w'):=zA (λW h=>zKa gr A n c (p+k) bs 1 W h hfit (by omega));have HM2:=zA (HNB.out k (by rw[HD.out];omega));have hm0:=HLT.out k (by omega);have hm20:=HLT.out (k+1) (by omega);have hb0:=HL1.out (p+k);generalize yK (((zN bs).drop (p+k)).take 1)=b at *;generalize yK (((zN bs).drop p).take k)=m at *;generalize hm2:yK (((zN bs).drop p).take (k+1))=m2 at *;have HMM:=zA hm2;clear hm2;have hb2:b<2:=by omega
    have hm:m<1099511627776:=by omega
    have hk64:IntKind.i64.wrap (((k+1:Nat):Int)+1)=((k+1+1:Nat):Int):=by rw[IntWalk.i64_in _ (by omega)];omega
    go_upto_region 8 with (go_at_call 164;(with_reducible refine (HG.out _ hr).mono ?_);rintro e w5 ⟨rfl,hr5,hu5⟩)
    refine wp_region_lit ?_;refine zB rfl (.int .i64 ((m:Nat):Int)) (zD rfl rfl) ?_;simp only[Act.put,sA,sB,sC];refine zB rfl (.int .i64 ((2*m:Nat):Int)) (zBz (k:=.i64) (m:=(m:Int)) (k':=.u64) (n:=1) rfl rfl rfl (zLE m hm)) ?_;simp only[Act.put,sA,sB,sC];refine zB rfl (.int .i64 ((b:Nat):Int)) (zD rfl rfl) ?_;simp only[Act.put,sA,sB,sC];refine zB rfl (.int .i64 ((m2:Nat):Int)) (by rw[HM2.out];exact zBz (k:=.i64) (m:=((2*m:Nat):Int)) (k':=.i64) (n:=((b:Nat):Int)) rfl rfl rfl (run_or2 m b hm hb2)) ?_;simp only[Act.put,sA,sB,sC];refine zB rfl (.int .i64 ((m2:Nat):Int)) (zW rfl rfl) ?_;simp only[Act.put,sA,sB,sC];have hcw5:CoderS w5 gc T:=hc.below hg (hbw.trans ((hu.trans hu5 (λx hx=>.inl hx)).below (λx hx=>by omega) (by omega)));have hu15:=hu.trans hu5 (λx hx=>.inl hx);obtain⟨m1,mp,mn,hB,hm1,hmp⟩:=hcw5;have c1:=hB.cell 1;simp only[wH3,wJ6,wJ7] at c1;have hok:okP (((k+1:Nat):Int),(m2:Int)):=⟨by simp only;omega,by simp only;omega⟩
    have HKEY:=zA (zKW _ hok);have HCF:=zA (zQX T ((k+1:Nat):Int) (m2:Int))
    cases hf:T.find? (zCd ((k+1:Nat):Int) (m2:Int)) with
    | some t =>
      rw[hf] at HCF;simp only[Option.map_some] at HCF;have HZ2:=zA (HYES.out t hf);clear hf HYES HNO;go_wp2_with (at_lookup;refine zCP (by rfl) _ _ 239 3 rfl keyed_pair underlying239 _ (zQE _) rfl hmp _ rfl (((k+1:Nat):Int),(m2:Int)) hok HKEY.out (.int .i64 t.1) (by rw[HCF.out];rfl) true (by rw[HCF.out];rfl) ?_)
      go_ret2;rw[HZ2.out];exact⟨rfl,by rw[HPS.out,HZ2.out,if_pos rfl];exact hr5,hu15⟩
    | none =>
      rw[hf] at HCF;simp only[Option.map_none] at HCF;have HZ2:=zA (HNO.out hf);clear hf HYES HNO;go_wp2_with (at_lookup;refine zCP (by rfl) _ _ 239 3 rfl keyed_pair underlying239 _ (zQE _) rfl hmp _ rfl (((k+1:Nat):Int),(m2:Int)) hok HKEY.out (.int .i64 0) (by rw[HCF.out];rfl) false (by rw[HCF.out];rfl) ?_)
      go_roundw
      case rel=>exact⟨k+1,by omega,by go_num,by rw[HMM.out],zA (by rw[HZ2.out,show 15-k=16-(k+1) by omega]),hr5,hu15⟩
      case measure=>simp[intOf];omega
   have HZ2:Hid (ez=(0,p,3)):=zA (HEK.out.trans (HGO.out (15-k) (k+1) (by omega)));have HG:Hid (∀W,RdS W gr A n c (p+k) bs→Calls prog 164 #[.pointer (some ⟨gr,0,none⟩),.int .i64 1] W λe w'=>e=.returned (.tuple #[.int .i64 0,.bool false])∧Ext W w'):=zA (λW h=>get_no gr A n c (p+k) bs 1 W h (by omega) (by omega));go_wp2_with (go_at_call 164;(with_reducible refine (HG.out _ hr).mono ?_);rintro e w5 ⟨rfl,hx5⟩)
   go_ret2;rw[HZ2.out];exact⟨rfl,by rw[HPS.out,HZ2.out,if_neg (show ¬(3:Int)=0 by decide),if_pos rfl,show 8*n=p+k by omega];exact hr.ext hx5,hu.trans (Upd.of_ext (S:=λx=>x=gr) hx5) (λx hx=>.inl hx)⟩
  have ek:k=16:=by omega
  subst ek;rw[HG0.out] at HEZ;go_wp2_with fail;go_ret2;rw[HEZ.out];exact⟨rfl,by rw[HPS.out,HEZ.out,if_neg (show ¬(4:Int)=0 by decide),if_neg (show ¬(4:Int)=3 by decide)];exact hr,hu⟩
