import Derived.BigGuardPart
import Derived.Lib.Bytealg
import Derived.Test.YtkggcjdlpendfaaGreatDoorMTopFewestCard15
set_option linter.all false
set_option maxRecDepth 20000
set_option maxHeartbeats 8000000
namespace Go.Proofs.YtkggcjdlpendfaaGreatDoor
open Go.RowKit
section
attribute [local irreducible] qR zto yC vS bv yZ zBY
def zNx (n:Int):bits .and .i64 n 15=n%16:=by
 have h127:(BitVec.ofInt 64 15).toNat=2 ^ 4-1:=by decide
 have key:(BitVec.ofInt 64 n &&&BitVec.ofInt 64 15).toNat=(n%((2 ^ 64:Nat):Int)).toNat%2 ^ 4:=by
  rw[BitVec.toNat_and,BitVec.toNat_ofInt,h127,wN3]
 show IntKind.i64.wrap ((BitVec.ofInt 64 n &&&BitVec.ofInt 64 15).toNat:Nat)=n%16
 rw[key,IntKind.wrap_i64];omega
def run_and15 (n:Int) (W:World):(binOp .and 3 (.int .i64 n) (.int .i64 15)).run Tryz.prog W=.ok (.int .i64 (n%16)) W:=by
 have:=zNx n;go_simp
def zAd:33≠149:=by decide
def zRd (x:Int):Tryz.prog.built 33 [(0,.int .i64 x)]=some (bv ((List.replicate 64 0).set 0 x)):=by kernel_rfl
def run_shr4 (m d:Nat) (h:m≤255) (hd:d=m/16) (W:World):(binOp .shr 3 (.int .i64 (m:Int)) (.int .u64 4)).run Tryz.prog W=.ok (.int .i64 (d:Int)) W:=by
 go_simp
section
variable {σ:Type} {f:FuncId} {B:Nat} {S:Nat→Prop} {Inv:World→σ→Prop} {next:Bool→σ→Tok×Int×σ}
section
variable {w w':World} {FIN G:Int×List Int×List Tok×σ} {before x:Int} {z zx:List Int} {L:List Tok} {q:σ} {A:Option Addr} {n c:Nat} {cz:Array Value} {Z0:List Int}
def zKF (HG:G=if FIN.1≠0 then (FIN.1,Z0,[],FIN.2.2.2) else if yC before FIN.2.1=FIN.2.2.1 then (0,qR FIN.2.1 64,FIN.2.2.1,FIN.2.2.2) else (4,Z0,[],FIN.2.2.2))
 (hF:FIN=(0,z,L,q)) (ht:yC before z=L) (hn:L.length=n) (hx:qR z 64=zx) (hs:SL w' 3 (.slice A L.length c) L.length (qC L)) (hi:Inv w' q) (hu:Upd S w w'):zCE S Inv w G (.returned (.tuple #[.agg (bv zx),.slice A n c,.int .i64 0])) w':=by
 subst hF hn hx;dsimp only at HG
 have hG:G=(0,qR z 64,L,q):=by
  rw[HG,if_neg (show ¬((0:Int)≠0) by simp),if_pos ht]
 subst hG;unfold zCE;dsimp only;exact⟨A,c,rfl,hs,hi,hu⟩
def zEw (HG:G=if FIN.1≠0 then (FIN.1,Z0,[],FIN.2.2.2) else if yC before FIN.2.1=FIN.2.2.1 then (0,qR FIN.2.1 64,FIN.2.2.1,FIN.2.2.2) else (4,Z0,[],FIN.2.2.2))
 (hF:FIN=(x,z,L,q)) (hx:x≠0) (hcz:bv (Z0)=cz) (hi:Inv w' q) (hu:Upd S w w'):zCE S Inv w G (.returned (.tuple #[.agg cz,.slice none 0 0,.int .i64 x])) w':=by
 subst hF hcz;dsimp only at HG;rw[if_pos hx] at HG;subst HG;unfold zCE;dsimp only;exact⟨none,0,rfl,SL.nil _ _,hi,hu⟩
def zOX (HG:G=if FIN.1≠0 then (FIN.1,Z0,[],FIN.2.2.2) else if yC before FIN.2.1=FIN.2.2.1 then (0,qR FIN.2.1 64,FIN.2.2.1,FIN.2.2.2) else (4,Z0,[],FIN.2.2.2))
 (hF:FIN=(0,z,L,q)) (ht:yC before z≠L) (hcz:bv (Z0)=cz) (hi:Inv w' q) (hu:Upd S w w'):zCE S Inv w G (.returned (.tuple #[.agg cz,.slice none 0 0,.int .i64 4])) w':=by
 subst hF hcz;dsimp only at HG;rw[if_neg (show ¬((0:Int)≠0) by simp),if_neg ht] at HG;subst HG;exact⟨none,0,rfl,SL.nil _ _,hi,hu⟩
end
set_option maxRecDepth 100000 in
def from_go (before : Int) (hbf1 : -2047 ≤ before) (hbf2 : before ≤ 2047) {ty : TypeId} {v recv : Value} (hm : Meth Tryz.prog ty v "Token" f recv) (C : Src f #[recv] #[] B S Inv next) (w : World) (s : σ) (hI : Inv w s) (hB : B = w.heap.size)
 {t:Tok} {s1:σ} (h:next true s=(t,0,s1)) (hgood:zBF before t=true):Calls Tryz.prog 162 #[.int .i64 before,.iface ty v] w (zCE S Inv w (jV next before s)):=by
 have HA:=zA (fun W (a:Inv W s) (b:B≤W.heap.size)=>C.ask true s W a b);rw[h] at HA;simp only[wR4,wR5,wL4,wL5,zCW] at HA;have HA2:=zA (fun q W (a:Inv W q) (b:B≤W.heap.size)=>C.ask false q W a b);simp only[wR4,wR5,wL4,wL5,zCW] at HA2;have HN:=zA (fun x W=>zKV x W);have HAL:=zA (show (Tryz.prog.info? 33).bind (·.zero)=some (.agg (bv (List.replicate 64 0))) from qU);have HO:=zA (xE (List.replicate 64 0));have HS:=zA (show (bv (List.replicate 64 0)).size=64 by rw[zK];rfl);have hz0:=zA (show (Value.agg (bv (List.replicate 64 0))).cells.size=64 by rw[show (Value.agg (bv (List.replicate 64 0))).cells=bv (List.replicate 64 0) from rfl,zK];rfl);obtain⟨t1,t2,t3⟩:=t;have HBK:=zA (fun a b W=>zPd a b W);have hbb:=zKd t2 t3;obtain⟨gg1,gg2,gg3,gg4⟩:=zLA.1 hgood;simp only at gg1 gg2 gg3 gg4;have c1:((yZ t2 t3).2 !=0)=false:=by simpa using gg1
 have c2:(t1 !=t2)=false:=by simpa using gg2
 have HIC:Hid (∀ W,Calls Tryz.prog 189 #[.int .i64 (before+(yZ t2 t3).1)] W fun e w'=>e=.returned (.bool true)∧W=w'):=zA (fun W=>by have:=zDY (before+(yZ t2 t3).1) W;rwa [jS.2 ⟨gg3,gg4⟩] at this);obtain⟨FIN,hFIN⟩: ∃ FIN,goB (next false) 1 ((List.replicate 64 0).set 0 (before+(yZ t2 t3).1)) [(t1,t2,t3)] s1=FIN:=⟨_,rfl⟩
 have HG:=zA (blkZ_go h hgood hFIN);have HFIN:=zA hFIN;have HHALF:Half ((List.replicate 64 0).set 0 (before+(yZ t2 t3).1)) 1:=Half.init _ gg3 gg4;have HBT:=zA (zRd (before+(yZ t2 t3).1));have HO1:=zA (xE ((List.replicate 64 0).set 0 (before+(yZ t2 t3).1)));have HS1:=zA (show (bv ((List.replicate 64 0).set 0 (before+(yZ t2 t3).1))).size=64 by rw[zK];simp);generalize jV next before s=G at *;clear hgood h hFIN;generalize hbk:yZ t2 t3=bk at *;have HBK1:Hid (∀ W,Calls Tryz.prog 188 #[.int .i64 t2,.int .i64 t3] W fun e w'=>e=.returned (.tuple #[.int .i64 bk.1,.int .i64 bk.2])∧W=w'):=zA (fun W=>by rw[←hbk];exact HBK.out t2 t3 W);clear hbk gg1 gg2;obtain⟨b1,b2⟩:=bk;simp only at hbb HBK1 HIC c1 HFIN HG HHALF gg3 gg4 HBT HO1 HS1;obtain⟨hbb1,hbb2, -⟩:=hbb;generalize (List.replicate 64 0).set 0 (before+b1)=z0 at *;generalize hcz:bv (List.replicate 64 0)=cz at *;have HCZ:=zA hcz;have HBs:=zA hB;clear hcz hB;go_enter Tryz.func162,Tryz.ntmps162
 go_wp2_with (first
  | ((with_reducible apply gS 4);refine wAlo' rfl (some 4) rfl 33 rfl _ HAL.out ?_;intro w1 gr hb1 hx1 hg1)
  | ((with_reducible show wpList _ _ _ (⟨some 19, _, _, _, _, _⟩ :: _) _ _); refine xP (by rfl) (zDd (.tmp 18) "Token" _ _ rfl rfl hm #[recv, .bool true] (by simp [Act.eval])) ?_; (with_reducible refine (HA.out _ (C.keep _ _ _ hI (yB hx1)) (by rw [HBs.out]; exact hx1.size)).mono ?_); rintro e w2 ⟨rfl, hi2, hu2⟩; refine ⟨_, rfl, ?_⟩)
  | ((with_reducible apply gS 8);refine wAlo' rfl (some 8) rfl 149 rfl _ zAL ?_;intro w3 g3 hb3 hx3 hg3)
  | ((with_reducible apply gT 8 20);refine wStB rfl 149 (.tmp 8) (.tmp 20) rfl _ _ rfl rfl hb3 3 yP rfl rfl (zCO _ _ _) ?_;intro w4 hb4 hg4)
  | ((with_reducible apply gS 30);refine wLdB rfl 149 (.tmp 8) rfl g3 rfl hb4 _ Tryz.underlying149 rfl 3 yP rfl ?_)
  | ((with_reducible apply gS 31);refine wLit1 rfl 145 149 (.tmp 30) rfl (some 31) rfl Tryz.underlying145 3 yP zMx _ rfl rfl (by omega) (by omega) ?_;intro w5 g5 hb5 hx5 hg5;obtain⟨q0,q1,q2⟩:=zJK (hb4.ext hx5))
  | (go_at_call 188;(with_reducible refine (HBK1.out _).mono ?_);rintro e w' ⟨rfl,rfl⟩)
  | (go_at_call 189;(with_reducible refine (HIC.out _).mono ?_);rintro e w' ⟨rfl,rfl⟩)
  | ((with_reducible apply gS 64);refine zFX rfl 33 #[(0,.tmp 63)] rfl (bv z0) (by simpa [Act.eval] using HBT.out) ?_)
  | ((with_reducible apply gS 12);refine wAlo' rfl (some 12) rfl 33 rfl _ HAL.out ?_;intro w6 gb hb6 hx6 hg6)
  | ((with_reducible apply gT 12 64);refine wStB rfl 33 (.tmp 12) (.tmp 64) rfl _ _ rfl rfl hb6 64 zH HS1.out hz0.out HO1.out ?_;intro w7 hb7 hg7))
 have hF:From B S Inv w w7 gb gr 33 z0 (some ⟨g5,0,none⟩) 1 [(t1,t2,t3)] s1:=by
  have hBB:=HBs.out;have s1':=hx1.size;have s2:=hu2.size;have s3:=hx3.size;have s4:=hg4.size;have s5:=hx5.size;have s6:=hx6.size;have l1:=hb1.lt;have hbr2:=hu2.blk hb1 (fun k=>by have:=C.low _ k;omega);have l2:=hbr2.lt;have hbr4:=(hbr2.ext hx3).grown hg4 (by intro k;have:=Option.some.inj k;omega);have hbr6:=(hbr4.ext hx5).ext hx6;have hbr7:=hbr6.grown hg7 (by intro k;have:=Option.some.inj k;have:=(hbr4.ext hx5).lt;omega);have h5:=hb5.lt
  have hrow6:w7.ownsRow B 149 3 (.slice (some ⟨g5,0,none⟩) 1 1) 1 (qC [(t1,t2,t3)]):=by
   refine⟨rfl,.inr ⟨g5,1, #[.int .i64 t1,.int .i64 t2,.int .i64 t3],rfl,by omega, ?_,by omega,by unfold maxLen;omega,rfl,by simp[qC,xN]⟩⟩;exact (hb5.ext hx6).grown hg7 (by intro k;have:=Option.some.inj k;omega)
  refine⟨hb7,by rw[←HCZ.out] at hbr7;exact hbr7,by omega,by omega,by omega,hrow6, ?_, ?_,by have:=hg7.size;omega⟩
  ·have k3:Upd (fun b=>B≤b) w2 w3:=yB hx3;have k4:=k3.trans (zO hg4) (fun x k=>.inl (by have:=Option.some.inj k;omega));have k5:=k4.trans (yB (S:=fun _=>False) (hx5.trans hx6)) (fun _ k=>k.elim);exact C.keep _ _ _ hi2 (k5.trans (zO hg7) (fun x k=>.inl (by have:=Option.some.inj k;omega)))
  ·have k1:Upd (fun x=>S x∨B≤x) w w2:=(yB hx1).trans hu2 (fun _ k=>.inl (.inl k));have k4:=(k1.trans (yB (S:=fun _=>False) hx3) (fun _ k=>k.elim)).trans (zO hg4) (fun x k=>.inl (.inr (by have:=Option.some.inj k;omega)));have k5:=k4.trans (yB (S:=fun _=>False) (hx5.trans hx6)) (fun _ k=>k.elim);exact k5.trans (zO hg7) (fun x k=>.inl (.inr (by have:=Option.some.inj k;omega)))
 clear hb1 hx1 hg1 hi2 hu2 hb3 hx3 hg3 hb4 hg4 hb5 hx5 hg5 q0 q1 q2 hb6 hx6 hg6 hb7 hg7 HO1 HS1 HBT HBK1 HIC c1 c2 HA
 go_loopw [10,13] (fun vl i wr=> ∃ (k:Nat) (z:List Int) (L:List Tok) (q:σ) (A:Option Addr) (c:Nat),k≤64∧i=.int .i64 (k:Int)∧vl=.slice A L.length c∧1≤k∧L.length≤k∧Half z k∧Hid (goB (next false) k z L q=FIN)∧From B S Inv w wr gb gr 33 z A c L q) (fun _ i _=>64-(intOf i).toNat)
 case atStart=>exact⟨1,z0,[(t1,t2,t3)],s1,some ⟨g5,0,none⟩,1,by omega,rfl,rfl,by omega,by simp,HHALF,HFIN,hF⟩
 case round =>
  clear hF HHALF HFIN;obtain⟨k,z,L,q,A,c,hk,rfl,rfl,hk1,hL,hz,HFIN,hF⟩:=hrel;obtain⟨n,hn⟩: ∃ n,L.length=n:=⟨_,rfl⟩
  have HLN:=zA hn;rw[hn] at hL ⊢;clear hn
  by_cases hlt:k<64
  ·rcases hq:next false q with ⟨⟨t1,t2,t3⟩,x,q'⟩
   have HQ:=zA hq;have HAq:Hid (∀ W,Inv W q→B≤W.heap.size→Calls Tryz.prog f #[recv,.bool false] W fun e w'=>e=.returned (.tuple #[.agg #[.int .i64 t1,.int .i64 t2,.int .i64 t3],.int .i64 x])∧Inv w' q'∧Upd S W w'):=zA (fun W a b=>by have:=HA2.out q W a b;rw[hq] at this;exact this);clear hq
   by_cases hx0:x=0
   ·subst hx0;have HBKq:Hid (∀ W,Calls Tryz.prog 188 #[.int .i64 t2,.int .i64 t3] W fun e w'=>e=.returned (.tuple #[.int .i64 (yZ t2 t3).1,.int .i64 (yZ t2 t3).2])∧W=w'):=zA (fun W=>HBK.out t2 t3 W);obtain⟨bd1,bd2, -⟩:=zKd t2 t3;have HT:Hid (zBY (t1,t2,t3)=decide ((yZ t2 t3).2=0∧t2=t1%16∧t2≤11∧0≤t1∧t1≤255∧(t2=0→t1=0∨t1=240))):=zA (tokOk_def _);obtain⟨bk,hbk⟩: ∃ bk,yZ t2 t3=bk:=⟨_,rfl⟩
    have HBK0:=zA hbk;rw[hbk] at HBKq bd1 bd2 HT;clear hbk;obtain⟨b1,b2⟩:=bk;simp only at HBKq bd1 bd2 HT
    go_upto_region 17 with (first
     | ((with_reducible show wpList _ _ _ (⟨some 69, _, _, _, _, _⟩ :: _) _ _); refine xP (by rfl) (zDd (.tmp 68) "Token" _ _ rfl rfl hm #[recv, .bool false] (by simp [Act.eval])) ?_; (with_reducible refine (HAq.out _ hF.inv hF.size).mono ?_); rintro e w2 ⟨rfl, hi2, hu2⟩; refine ⟨_, rfl, ?_⟩; have hF2 := hF.asked C hu2 hi2)
     | ((with_reducible apply gS 14);refine wAlo' rfl (some 14) rfl 149 rfl _ zAL ?_;intro w3 g14 hb3 hx3 hg3)
     | ((with_reducible apply gT 14 70);refine wStB rfl 149 (.tmp 14) (.tmp 70) rfl _ _ rfl rfl hb3 3 yP rfl rfl (zCO _ _ _) ?_;intro w4 hb4 hg4;have hF4:=hF2.made C hx3 hg3 hg4)
     | ((with_reducible apply gS 81);refine wLdB rfl 149 (.tmp 14) rfl g14 rfl hb4 _ Tryz.underlying149 rfl 3 yP rfl ?_)
     | ((with_reducible apply gS 82);refine wLit1 rfl 145 149 (.tmp 81) rfl (some 82) rfl Tryz.underlying145 3 yP zMx _ rfl rfl (by omega) (by omega) ?_;intro w5 g5 hb5 hx5 hg5;have hs5:SL w5 3 (.slice (some ⟨g5,0,none⟩) 1 1) 1 [.int .i64 t1,.int .i64 t2,.int .i64 t3]:=Blk.sl (cs:= #[.int .i64 t1,.int .i64 t2,.int .i64 t3]) hb5 rfl (by omega) (by omega);have hF5:=hF4.ext C hx5;have hrow5:=hF5.row;rw[HLN.out] at hrow5)
     | (at_builtin;go_must (refine wApf zDi rfl (.tmp 80) (.tmp 82) rfl B _ n (qC L) rfl hrow5 _ 1 [.int .i64 t1,.int .i64 t2,.int .i64 t3] rfl hs5 (zDg _ _ _) (by omega) (by omega) hF5.size ?_);intro A' c' w6 hown6 hgr6 hor6;obtain⟨q0,q1,q2⟩:=zJK ((zO hgr6).blk (hb4.ext hx5) (fun k=>(hF2.fresh (g:=g14) hg3).2.2.2 _ (by rw[HLN.out];exact k) rfl));have hF6:From B S Inv w w6 gb gr 33 z A' c' (L++[(t1,t2,t3)]) q':=hF5.app C zAd (by rw[HLN.out];exact hown6) (by rw[HLN.out];exact hgr6))
     | (go_at_call 188;(with_reducible refine (HBKq.out _).mono ?_);rintro e w' ⟨rfl,rfl⟩))
    clear hF hF2 hF4 hF5 hb3 hb4 hb5 hx3 hx5 hg3 hg4 hg5 hrow5 hgr6 hor6 hown6 hi2 hu2
    go_cut [15,131] from 65 to 163 (fun xv cv wx=>cv=.bool (!zBY (t1,t2,t3))∧wx=w6)
    case first =>
     clear hF6 HFIN HQ HAq HBKq HBK0 HA2 HBK HN HAL HO HS hz0 HG hz HCZ HBs C hm hI HLN hL hk1 hbb1 hbb2 gg3 gg4 bd1 bd2 hbf1 hbf2;have e15:=zNx t1;go_wp2_with fail
     all_goals go_meet
     all_goals (case rel=>exact⟨by rw[HT.out];refine congrArg Value.bool ?_;first | (rw[wL0 (by omega)];rfl) | (rw[wL1 (by omega)];rfl) | (by_cases h9:t1=240<;>first | (rw[wL0 (by omega)];simp[h9];done) | (rw[wL1 (by omega)];simp[h9];done)),rfl⟩)
    case rest =>
     obtain⟨hc1,hc2⟩:=hcut;subst hc1 hc2;obtain⟨Lx,hLx⟩: ∃ Lx,Lx=L++[(t1,t2,t3)]:=⟨_,rfl⟩
     have HLx:=zA hLx;have HLn:Hid (Lx.length=n+1):=zA (by rw[hLx,wF3,HLN.out];rfl);rw[←hLx] at hF6;clear hLx
     cases hok:zBY (t1,t2,t3) with
     | false =>
       have HFE:Hid (FIN=(4,z,L,q')):=zA (by rw[←HFIN.out,goB_bad hlt HQ.out hok]);clear hok
       go_wp2_with (first
        | (go_at_call 187;(with_reducible refine (HN.out _ _).mono ?_);rintro e w8 ⟨rfl,hx8⟩;have hF8:=hF6.ext C hx8;have hr8:=hF8.r;rw[HCZ.out] at hr8)
        | ((with_reducible apply gT 4 134);refine wStB rfl 33 (.tmp 4) (.tmp 134) rfl _ _ rfl rfl hr8 64 zH HS.out HS.out HO.out ?_;intro w9 hb9 hg9))
       obtain⟨hi9,hu9, -⟩:=hF8.fin C zAd hg9 HBs.out;refine vB rfl rfl _ rfl hb9 _ Tryz.underlying33 rfl 64 zH HS.out ?_;exact zEw HG.out HFE.out (by omega) HCZ.out hi9 hu9
     | true =>
       obtain⟨k1,k2,k3,k4,k5,k6⟩:=zJG.1 hok;simp only at k1 k2 k3 k4 k5 k6;obtain⟨e1,e2,e3,e4⟩:=backR_11 k1 k3;rw[HBK0.out] at e1 e2 e4;simp only at e1 e2 e4;obtain⟨m,hm⟩: ∃ m:Nat,t1=(m:Int):=⟨t1.toNat,by omega⟩
       subst hm;have hm255:m≤255:=by omega
       have HOK:=zA hok;clear hok k1
       by_cases h0:m=0
       ·subst h0;have HFx:Hid (FIN=(0,z,Lx,q')):=zA (by rw[←HFIN.out,HLx.out,zMS hlt HQ.out HOK.out (by rfl)]);have hz64:Half z k:=hz;clear k2 k3 k4 k5 k6 e1 e2 e3 e4 HFIN HQ HAq HBKq HBK0 HT;obtain⟨nx,hnx⟩: ∃ nx,nx=n+1:=⟨_,rfl⟩
        have HL2:Hid (Lx.length=nx):=zA (by rw[HLn.out,hnx]);rw[←hnx];clear hnx HLn HLx;have HZF:=zA (fun W=>zJE z W hz64.len);have HZL:=zA (show (bv z).size=64 by rw[zK];exact hz64.len);have HZS:=zA (show (bv (qR z 64)).size=64 by rw[zK,uL]);have HZO:=zA (xE (qR z 64))
        have HTK:Hid (∀ W,Calls Tryz.prog 191 #[.int .i64 before,.agg (bv (qR z 64))] W fun e w'=> ∃ D d,e=.returned (.slice D (yC before z).length d)∧SL w' 3 (.slice D (yC before z).length d) (yC before z).length (qC (yC before z))∧Ext W w'):=zA (fun W=>by
         have hzz:=zNX z hz64.len
         have h0:z.getD 0 0∈z:=by
          have:0<z.length:=by rw[hz64.len];omega
          simp[wF4,this]
         have hl:=hz64.lo _ h0;have:=zHh before (qR z 64) W (uL z 64) hbf1 hbf2 (by rw[hzz];exact hl.1) (by rw[hzz];exact hl.2);rw[hzz] at this
         exact this.mono fun e w' ⟨D,d,a1,a2,a3,a4⟩=>⟨D,d,a1,a2,a4⟩)
        generalize hTZ:yC before z=TZ at *;have HTZ:=zA hTZ;generalize hzx:qR z 64=zx at *;have HZX:=zA hzx;clear hTZ hzx hz64;obtain⟨nt,hnt⟩: ∃ nt,TZ.length=nt:=⟨_,rfl⟩
        have HNT:=zA hnt;rw[hnt] at HTK;clear hnt
        by_cases heq:TZ=Lx
        ·have HEQ:=zA heq
         have HSQ:Hid (∀ D d W,SL W 3 (.slice D nt d) nt (qC TZ)→SL W 3 (.slice A' nx c') nx (qC Lx)→Calls Tryz.prog 190 #[.slice D nt d,.slice A' nx c'] W fun e w'=>e=.returned (.bool true)∧Ext W w'):=zA (fun D d W h1 h2=>by
          have:=zEn (.slice D nt d) (.slice A' nx c') TZ Lx W (by rw[HNT.out];exact h1) (by rw[HL2.out];exact h2)
          rwa [wL0 HEQ.out] at this)
         clear heq
         go_wp2_with (first
          | ((with_reducible apply gS 164);refine wLdB rfl 33 (.tmp 12) rfl gb rfl hF6.b _ Tryz.underlying33 rfl 64 zH HZL.out ?_)
          | (go_at_call 82;(with_reducible refine (HZF.out _).mono ?_);rintro e w7 ⟨rfl,hx7⟩;have hF7:=hF6.ext C hx7)
          | ((with_reducible apply gT 12 165);refine wStB rfl 33 (.tmp 12) (.tmp 165) rfl _ _ rfl rfl hF7.b 64 zH HZS.out HZL.out HZO.out ?_;intro w8 hb8 hg8;have hF8:=hF7.putb C zAd hg8 hb8)
          | ((with_reducible apply gS 167);refine wLdB rfl 33 (.tmp 12) rfl gb rfl hF8.b _ Tryz.underlying33 rfl 64 zH HZS.out ?_)
          | (go_at_call 191;(with_reducible refine (HTK.out _).mono ?_);rintro e w10 ⟨D,d',rfl,hs10,hx10⟩;have hF10:=hF8.ext C hx10;have hr10:=zGL hF10.row;rw[HL2.out] at hr10)
          | (go_at_call 190;(with_reducible refine (HSQ.out _ _ _ hs10 hr10).mono ?_);rintro e w11 ⟨rfl,hx11⟩;have hF11:=hF10.ext C hx11;have hrr:=hF11.r;rw[HCZ.out] at hrr)
          | ((with_reducible apply gS 177);refine wLdB rfl 33 (.tmp 12) rfl gb rfl hF11.b _ Tryz.underlying33 rfl 64 zH HZS.out ?_)
          | ((with_reducible apply gT 4 177);refine wStB rfl 33 (.tmp 4) (.tmp 177) rfl _ _ rfl rfl hrr 64 zH HZS.out HS.out HZO.out ?_;intro w12 hb12 hg12))
         obtain⟨hi12,hu12,hs12⟩:=hF11.fin C zAd hg12 HBs.out;refine vB rfl rfl _ rfl hb12 _ Tryz.underlying33 rfl 64 zH HZS.out ?_;exact zKF HG.out HFx.out (HTZ.out.trans HEQ.out) HL2.out HZX.out hs12 hi12 hu12
        ·have HEQ:=zA heq
         have HSQ:Hid (∀ D d W,SL W 3 (.slice D nt d) nt (qC TZ)→SL W 3 (.slice A' nx c') nx (qC Lx)→Calls Tryz.prog 190 #[.slice D nt d,.slice A' nx c'] W fun e w'=>e=.returned (.bool false)∧Ext W w'):=zA (fun D d W h1 h2=>by
          have:=zEn (.slice D nt d) (.slice A' nx c') TZ Lx W (by rw[HNT.out];exact h1) (by rw[HL2.out];exact h2)
          rwa [wL1 HEQ.out] at this)
         clear heq
         go_wp2_with (first
          | ((with_reducible apply gS 164);refine wLdB rfl 33 (.tmp 12) rfl gb rfl hF6.b _ Tryz.underlying33 rfl 64 zH HZL.out ?_)
          | (go_at_call 82;(with_reducible refine (HZF.out _).mono ?_);rintro e w7 ⟨rfl,hx7⟩;have hF7:=hF6.ext C hx7)
          | ((with_reducible apply gT 12 165);refine wStB rfl 33 (.tmp 12) (.tmp 165) rfl _ _ rfl rfl hF7.b 64 zH HZS.out HZL.out HZO.out ?_;intro w8 hb8 hg8;have hF8:=hF7.putb C zAd hg8 hb8)
          | ((with_reducible apply gS 167);refine wLdB rfl 33 (.tmp 12) rfl gb rfl hF8.b _ Tryz.underlying33 rfl 64 zH HZS.out ?_)
          | (go_at_call 191;(with_reducible refine (HTK.out _).mono ?_);rintro e w10 ⟨D,d',rfl,hs10,hx10⟩;have hF10:=hF8.ext C hx10;have hr10:=zGL hF10.row;rw[HL2.out] at hr10)
          | (go_at_call 190;(with_reducible refine (HSQ.out _ _ _ hs10 hr10).mono ?_);rintro e w11 ⟨rfl,hx11⟩;have hF11:=hF10.ext C hx11)
          | (go_at_call 187;(with_reducible refine (HN.out _ _).mono ?_);rintro e w13 ⟨rfl,hx13⟩;have hF13:=hF11.ext C hx13;have hr13:=hF13.r;rw[HCZ.out] at hr13)
          | ((with_reducible apply gT 4 174);refine wStB rfl 33 (.tmp 4) (.tmp 174) rfl _ _ rfl rfl hr13 64 zH HS.out HS.out HO.out ?_;intro w14 hb14 hg14))
         obtain⟨hi14,hu14, -⟩:=hF13.fin C zAd hg14 HBs.out;refine vB rfl rfl _ rfl hb14 _ Tryz.underlying33 rfl 64 zH HS.out ?_;exact zOX HG.out HFx.out (by rw[HTZ.out];exact HEQ.out) HCZ.out hi14 hu14
       ·have hm0:((m:Int) ==0)=false:=by simp;omega
        have ed:((m:Int)/16).toNat=m/16:=by omega
        by_cases h240:m=240
        ·subst h240;have hb0:b1=0:=by rw[show t2=0 by omega] at e4;exact e4 rfl
         subst hb0
         by_cases hf:64<k+16
         ·have HFE:Hid (FIN=(4,z,L,q')):=zA (by rw[←HFIN.out,zMo hlt HQ.out HOK.out (by simp) (by simp;omega)])
          go_wp2_with (first
           | (go_at_call 187;(with_reducible refine (HN.out _ _).mono ?_);rintro e w8 ⟨rfl,hx8⟩;have hF8:=hF6.ext C hx8;have hr8:=hF8.r;rw[HCZ.out] at hr8)
           | ((with_reducible apply gT 4 161);refine wStB rfl 33 (.tmp 4) (.tmp 161) rfl _ _ rfl rfl hr8 64 zH HS.out HS.out HO.out ?_;intro w9 hb9 hg9))
          obtain⟨hi9,hu9, -⟩:=hF8.fin C zAd hg9 HBs.out;refine vB rfl rfl _ rfl hb9 _ Tryz.underlying33 rfl 64 zH HS.out ?_;exact zEw HG.out HFE.out (by omega) HCZ.out hi9 hu9
         ·have HST:Hid (goB (next false) (k+16) z Lx q'=FIN):=zA (by rw[←HFIN.out,zFM hlt HQ.out HOK.out (by simp) (by simp;omega),HBK0.out,HLx.out];simp only;rw[show ((240:Nat):Int)/16=15 by rfl,show (15:Int).toNat=15 by rfl,hz.same (by omega) (by omega)]);have hz':Half z (k+16):=⟨hz.len,hz.lo,fun j a b=>hz.zero j (by omega) b⟩
          go_wp2_with fail;go_roundw
          case rel=>exact⟨k+16,z,Lx,q',A',c',by omega,by go_num,by rw[HLn.out],by omega,by rw[HLn.out];omega,hz',HST,hF6⟩
          case measure=>simp[intOf];omega
        ·have hm240:((m:Int) ==240)=false:=by simp;omega
         obtain⟨d,hd⟩: ∃ d,d=m/16:=⟨_,rfl⟩
         have hd15:d≤15:=by omega
         have HD:Hid (((m:Int)/16).toNat=d):=zA (by omega);have hsh: ∀ W,(binOp .shr 3 (.int .i64 (m:Int)) (.int .u64 4)).run Tryz.prog W=.ok (.int .i64 (d:Int)) W:=fun W=>run_shr4 m d hm255 hd W
         clear ed hd
         by_cases hf:64<k+d+1
         ·have HFE:Hid (FIN=(4,z,L,q')):=zA (by rw[←HFIN.out,zMo hlt HQ.out HOK.out (by simp;omega) (by simp only;rw[HD.out];omega)])
          go_wp2_with (first
           | ((with_reducible apply gS 148);refine zB rfl (.int .i64 ((d:Nat):Int)) (zCJ rfl rfl rfl hsh) ?_)
           | (go_at_call 187;(with_reducible refine (HN.out _ _).mono ?_);rintro e w8 ⟨rfl,hx8⟩;have hF8:=hF6.ext C hx8;have hr8:=hF8.r;rw[HCZ.out] at hr8)
           | ((with_reducible apply gT 4 161);refine wStB rfl 33 (.tmp 4) (.tmp 161) rfl _ _ rfl rfl hr8 64 zH HS.out HS.out HO.out ?_;intro w9 hb9 hg9))
          obtain⟨hi9,hu9, -⟩:=hF8.fin C zAd hg9 HBs.out;refine vB rfl rfl _ rfl hb9 _ Tryz.underlying33 rfl 64 zH HS.out ?_;exact zEw HG.out HFE.out (by omega) HCZ.out hi9 hu9
         ·have HST:Hid (goB (next false) (k+d+1) (z.set (k+d) b1) Lx q'=FIN):=zA (by rw[←HFIN.out,zFM hlt HQ.out HOK.out (by simp;omega) (by simp only;rw[HD.out];omega),HBK0.out,HLx.out];simp only;rw[HD.out]);have hz':Half (z.set (k+d) b1) (k+d+1):=hz.set (by omega) (by omega) e1 e2;have hfz:=hF6.b.frozen (k+d)
          obtain⟨old,hold⟩: ∃ u,wc.cell? ⟨gb,k+d,none⟩=some u:=by
           rw[hF6.b.cell];have:=hz.len;exact⟨_,qK _ (k+d) (by omega)⟩
          go_wp2_with ((with_reducible apply gS 148);refine zB rfl (.int .i64 ((d:Nat):Int)) (zCJ rfl rfl rfl hsh) ?_)
          go_roundw
          case rel=>exact⟨k+d+1,z.set (k+d) b1,Lx,q',A',c',by omega,by go_num,by rw[HLn.out],by omega,by rw[HLn.out];omega,hz',HST,hF6.set C zAd _ _⟩
          case measure=>simp[intOf];omega
   ·have hxb:(x !=0)=true:=by simpa using hx0
    have HFE:Hid (FIN=(x,z,L,q')):=zA (by rw[←HFIN.out,goB_err hlt HQ.out hx0]);have HX0:=zA hx0;clear hx0
    go_wp2_with (first
     | ((with_reducible show wpList _ _ _ (⟨some 69, _, _, _, _, _⟩ :: _) _ _); refine xP (by rfl) (zDd (.tmp 68) "Token" _ _ rfl rfl hm #[recv, .bool false] (by simp [Act.eval])) ?_; (with_reducible refine (HAq.out _ hF.inv hF.size).mono ?_); rintro e w2 ⟨rfl, hi2, hu2⟩; refine ⟨_, rfl, ?_⟩; have hF2 := hF.asked C hu2 hi2)
     | ((with_reducible apply gS 14);refine wAlo' rfl (some 14) rfl 149 rfl _ zAL ?_;intro w3 g14 hb3 hx3 hg3)
     | ((with_reducible apply gT 14 70);refine wStB rfl 149 (.tmp 14) (.tmp 70) rfl _ _ rfl rfl hb3 3 yP rfl rfl (zCO _ _ _) ?_;intro w4 hb4 hg4;have hF4:=hF2.made C hx3 hg3 hg4)
     | (go_at_call 187;(with_reducible refine (HN.out _ _).mono ?_);rintro e w8 ⟨rfl,hx8⟩;have hF8:=hF4.ext C hx8;have hr8:=hF8.r;rw[HCZ.out] at hr8)
     | ((with_reducible apply gT 4 77);refine wStB rfl 33 (.tmp 4) (.tmp 77) rfl _ _ rfl rfl hr8 64 zH HS.out HS.out HO.out ?_;intro w9 hb9 hg9))
    obtain⟨hi9,hu9, -⟩:=hF8.fin C zAd hg9 HBs.out;refine vB rfl rfl _ rfl hb9 _ Tryz.underlying33 rfl 64 zH HS.out ?_;exact zEw HG.out HFE.out HX0.out HCZ.out hi9 hu9
  ·have hk64:k=64:=by omega
   have HFx:Hid (FIN=(0,z,L,q)):=zA (by rw[←HFIN.out,zKZ (by omega)]);have hz64:Half z k:=hz;clear HFIN;have HZF:=zA (fun W=>zJE z W hz64.len);have HZL:=zA (show (bv z).size=64 by rw[zK];exact hz64.len);have HZS:=zA (show (bv (qR z 64)).size=64 by rw[zK,uL]);have HZO:=zA (xE (qR z 64))
   have HTK:Hid (∀ W,Calls Tryz.prog 191 #[.int .i64 before,.agg (bv (qR z 64))] W fun e w'=> ∃ D d,e=.returned (.slice D (yC before z).length d)∧SL w' 3 (.slice D (yC before z).length d) (yC before z).length (qC (yC before z))∧Ext W w'):=zA (fun W=>by
    have hzz:=zNX z hz64.len
    have h0:z.getD 0 0∈z:=by
     have:0<z.length:=by rw[hz64.len];omega
     simp[wF4,this]
    have hl:=hz64.lo _ h0;have:=zHh before (qR z 64) W (uL z 64) hbf1 hbf2 (by rw[hzz];exact hl.1) (by rw[hzz];exact hl.2);rw[hzz] at this
    exact this.mono fun e w' ⟨D,d,a1,a2,a3,a4⟩=>⟨D,d,a1,a2,a4⟩)
   generalize hTZ:yC before z=TZ at *;have HTZ:=zA hTZ;generalize hzx:qR z 64=zx at *;have HZX:=zA hzx;clear hTZ hzx hz64;obtain⟨nt,hnt⟩: ∃ nt,TZ.length=nt:=⟨_,rfl⟩
   have HNT:=zA hnt;rw[hnt] at HTK;clear hnt
   by_cases heq:TZ=L
   ·have HEQ:=zA heq
    have HSQ:Hid (∀ D d W,SL W 3 (.slice D nt d) nt (qC TZ)→SL W 3 (.slice A n c) n (qC L)→Calls Tryz.prog 190 #[.slice D nt d,.slice A n c] W fun e w'=>e=.returned (.bool true)∧Ext W w'):=zA (fun D d W h1 h2=>by
     have:=zEn (.slice D nt d) (.slice A n c) TZ L W (by rw[HNT.out];exact h1) (by rw[HLN.out];exact h2)
     rwa [wL0 HEQ.out] at this)
    clear heq
    go_wp2_with (first
     | ((with_reducible apply gS 164);refine wLdB rfl 33 (.tmp 12) rfl gb rfl hF.b _ Tryz.underlying33 rfl 64 zH HZL.out ?_)
     | (go_at_call 82;(with_reducible refine (HZF.out _).mono ?_);rintro e w7 ⟨rfl,hx7⟩;have hF7:=hF.ext C hx7)
     | ((with_reducible apply gT 12 165);refine wStB rfl 33 (.tmp 12) (.tmp 165) rfl _ _ rfl rfl hF7.b 64 zH HZS.out HZL.out HZO.out ?_;intro w8 hb8 hg8;have hF8:=hF7.putb C zAd hg8 hb8)
     | ((with_reducible apply gS 167);refine wLdB rfl 33 (.tmp 12) rfl gb rfl hF8.b _ Tryz.underlying33 rfl 64 zH HZS.out ?_)
     | (go_at_call 191;(with_reducible refine (HTK.out _).mono ?_);rintro e w10 ⟨D,d',rfl,hs10,hx10⟩;have hF10:=hF8.ext C hx10;have hr10:=zGL hF10.row;rw[HLN.out] at hr10)
     | (go_at_call 190;(with_reducible refine (HSQ.out _ _ _ hs10 hr10).mono ?_);rintro e w11 ⟨rfl,hx11⟩;have hF11:=hF10.ext C hx11;have hrr:=hF11.r;rw[HCZ.out] at hrr)
     | ((with_reducible apply gS 177);refine wLdB rfl 33 (.tmp 12) rfl gb rfl hF11.b _ Tryz.underlying33 rfl 64 zH HZS.out ?_)
     | ((with_reducible apply gT 4 177);refine wStB rfl 33 (.tmp 4) (.tmp 177) rfl _ _ rfl rfl hrr 64 zH HZS.out HS.out HZO.out ?_;intro w12 hb12 hg12))
    obtain⟨hi12,hu12,hs12⟩:=hF11.fin C zAd hg12 HBs.out;refine vB rfl rfl _ rfl hb12 _ Tryz.underlying33 rfl 64 zH HZS.out ?_;exact zKF HG.out HFx.out (HTZ.out.trans HEQ.out) HLN.out HZX.out hs12 hi12 hu12
   ·have HEQ:=zA heq
    have HSQ:Hid (∀ D d W,SL W 3 (.slice D nt d) nt (qC TZ)→SL W 3 (.slice A n c) n (qC L)→Calls Tryz.prog 190 #[.slice D nt d,.slice A n c] W fun e w'=>e=.returned (.bool false)∧Ext W w'):=zA (fun D d W h1 h2=>by
     have:=zEn (.slice D nt d) (.slice A n c) TZ L W (by rw[HNT.out];exact h1) (by rw[HLN.out];exact h2)
     rwa [wL1 HEQ.out] at this)
    clear heq
    go_wp2_with (first
     | ((with_reducible apply gS 164);refine wLdB rfl 33 (.tmp 12) rfl gb rfl hF.b _ Tryz.underlying33 rfl 64 zH HZL.out ?_)
     | (go_at_call 82;(with_reducible refine (HZF.out _).mono ?_);rintro e w7 ⟨rfl,hx7⟩;have hF7:=hF.ext C hx7)
     | ((with_reducible apply gT 12 165);refine wStB rfl 33 (.tmp 12) (.tmp 165) rfl _ _ rfl rfl hF7.b 64 zH HZS.out HZL.out HZO.out ?_;intro w8 hb8 hg8;have hF8:=hF7.putb C zAd hg8 hb8)
     | ((with_reducible apply gS 167);refine wLdB rfl 33 (.tmp 12) rfl gb rfl hF8.b _ Tryz.underlying33 rfl 64 zH HZS.out ?_)
     | (go_at_call 191;(with_reducible refine (HTK.out _).mono ?_);rintro e w10 ⟨D,d',rfl,hs10,hx10⟩;have hF10:=hF8.ext C hx10;have hr10:=zGL hF10.row;rw[HLN.out] at hr10)
     | (go_at_call 190;(with_reducible refine (HSQ.out _ _ _ hs10 hr10).mono ?_);rintro e w11 ⟨rfl,hx11⟩;have hF11:=hF10.ext C hx11)
     | (go_at_call 187;(with_reducible refine (HN.out _ _).mono ?_);rintro e w13 ⟨rfl,hx13⟩;have hF13:=hF11.ext C hx13;have hr13:=hF13.r;rw[HCZ.out] at hr13)
     | ((with_reducible apply gT 4 174);refine wStB rfl 33 (.tmp 4) (.tmp 174) rfl _ _ rfl rfl hr13 64 zH HS.out HS.out HO.out ?_;intro w14 hb14 hg14))
    obtain⟨hi14,hu14, -⟩:=hF13.fin C zAd hg14 HBs.out;refine vB rfl rfl _ rfl hb14 _ Tryz.underlying33 rfl 64 zH HS.out ?_;exact zOX HG.out HFx.out (by rw[HTZ.out];exact HEQ.out) HCZ.out hi14 hu14
end
end
section
section
variable {σ:Type} {f:FuncId} {B:Nat} {S:Nat→Prop} {Inv:World→σ→Prop} {next:Bool→σ→Tok×Int×σ}
def from_any (before : Int) (hb1 : -2047 ≤ before) (hb2 : before ≤ 2047) {ty : TypeId} {v recv : Value} (hm : Meth Tryz.prog ty v "Token" f recv) (C : Src f #[recv] #[] B S Inv next) (w : World) (s : σ) (hI : Inv w s) (hB : B = w.heap.size) :
 Calls Tryz.prog 162 #[.int .i64 before,.iface ty v] w (zCE S Inv w (jV next before s)):=by
 rcases hq:next true s with ⟨t,x,s'⟩
 by_cases hx:x=0
 ·subst hx
  cases hok:zBF before t with
  | false=>rw[zQg hq hok];exact from_bad before hb1 hb2 hm C w s hI hB hq hok
  | true=>exact from_go before hb1 hb2 hm C w s hI hB hq hok
 ·rw[zQj hq hx];exact from_err before hm C w s hI hB hq hx
end
attribute [local irreducible] qR yC vS yZ
def goB_len {σ:Type} (next:σ→Tok×Int×σ): ∀ (n i:Nat) (z:List Int) (all:List Tok) (s:σ),64-i=n→i≤64→z.length=64→all.length≤i→(goB next i z all s).2.1.length=64∧(goB next i z all s).2.2.1.length≤64:=by
 intro n
 induction n using Nat.strongRecOn with
 | ind n ih =>
   intro i z all s hn hi hz hl
   by_cases hlt:i<64
   ·rcases hq:next s with ⟨t,e,s'⟩
    by_cases he:e=0
    ·subst he
     cases ht:zBY t with
     | false=>rw[goB_bad hlt hq ht];exact⟨hz,by dsimp only;omega⟩
     | true =>
       by_cases h1:t.1=0
       ·rw[zMS hlt hq ht h1];exact⟨hz,by dsimp only;simp;omega⟩
       ·by_cases hf:64<i+(t.1/16).toNat+1
        ·rw[zMo hlt hq ht h1 hf];exact⟨hz,by dsimp only;omega⟩
        ·rw[zFM hlt hq ht h1 hf];exact ih _ (by omega) _ _ _ _ rfl (by omega) (by simpa using hz) (by simp;omega)
    ·rw[goB_err hlt hq he];exact⟨hz,by dsimp only;omega⟩
   ·rw[zKZ hlt];exact⟨hz,by dsimp only;omega⟩
def zQc {σ:Type} (next:Bool→σ→Tok×Int×σ) (before:Int) (s:σ):(jV next before s).2.1.length=64∧(jV next before s).2.2.1.length≤64:=by
 rcases hq:next true s with ⟨t,x,s'⟩
 by_cases hx:x=0
 ·subst hx
  cases hok:zBF before t with
  | false=>rw[zQg hq hok];exact⟨by simp,by simp⟩
  | true =>
    rw[zQW hq hok];have h:=goB_len (next false) 63 1 ((List.replicate 64 0).set 0 (before+(yZ t.2.1 t.2.2).1)) [t] s' (by omega) (by omega) (by simp) (by simp);generalize goB (next false) 1 ((List.replicate 64 0).set 0 (before+(yZ t.2.1 t.2.2).1)) [t] s'=g at *;obtain⟨e,z,all,q⟩:=g;dsimp only at h
    by_cases he:e=0
    ·subst he
     by_cases ht:yC before z=all
     ·rw[zNu ht];exact⟨uL _ _,h.2⟩
     ·rw[finZ_ne ht];exact⟨by simp,by simp⟩
    ·rw[finZ_err he];exact⟨by simp,by simp⟩
 ·rw[zQj hq hx];exact⟨by simp,by simp⟩
end
def zAa (next:Bool→Nat→Tok×Int×Nat):Nat→Int→Nat→List Int→Int×List Int×Nat
 | 0,_,p,acc=>(0,acc,p)
 | m+1,before,p,acc=>if (jV next before p).1≠0 then ((jV next before p).1,[],p) else zAa next m ((jV next before p).2.1.getD 0 0) (jV next before p).2.2.2 (acc++(jV next before p).2.1)
def zNt {next:Bool→Nat→Tok×Int×Nat} {m:Nat} {before:Int} {p:Nat} {acc:List Int} (h:(jV next before p).1≠0):zAa next (m+1) before p acc=((jV next before p).1,[],p):=by rw[zAa,if_pos h]
def zKW {next:Bool→Nat→Tok×Int×Nat} {m:Nat} {before:Int} {p:Nat} {acc:List Int} (h:(jV next before p).1=0):zAa next (m+1) before p acc=zAa next m ((jV next before p).2.1.getD 0 0) (jV next before p).2.2.2 (acc++(jV next before p).2.1):=by rw[zAa,if_neg (by simp[h])]
def zOJ {next:Bool→Nat→Tok×Int×Nat}: ∀ (m:Nat) (before:Int) (p:Nat) (acc:List Int) (k:Nat),acc.length=k*64→(zAa next m before p acc).1=0→(zAa next m before p acc).2.1.length=(k+m)*64
 | 0,_,_,acc,k,h,_=>by rw[zAa];simpa using h
 | m+1,before,p,acc,k,h,h0=>by
   by_cases he:(jV next before p).1=0
   ·rw[zKW he] at h0 ⊢;have:=zOJ m _ _ (acc++(jV next before p).2.1) (k+1) (by rw[wF3,h,(zQc next before p).1];omega) h0;rw[this];congr 1
    omega
   ·rw[zNt he] at h0;exact absurd h0 he
def zDa (D:List Bool) (r:Int×List Int×Nat):Int×List Int:=if r.1≠0 then (r.1,[]) else if 7<D.length-r.2.2∨false∈D.drop r.2.2 then (4,[]) else (0,r.2.1)
def ones_iff (L:List Bool):yJ L=2 ^ L.length-1↔ ¬false∈L:=by
 rw[←zNB];constructor
 ·intro h hm;have e:L=List.replicate L.length true:=zKX (by simp) h;rw[e] at hm;have:=(wK2.1 hm).2;cases this
 ·intro h
  have e:L=List.replicate L.length true:=by
   refine List.eq_replicate_iff.2 ⟨rfl,fun b hb=> ?_⟩
   cases b with
   | true=>rfl
   | false=>exact absurd hb h
  rw[←e]
def uT (r:Bool) (T1 T2:List Tok) (nn:Int) (bs:Option (List Nat)):Int×List Int :=
 if nn<0∨400<nn then (1,[]) else match bs with
  | none=>(4,[])
  | some pb=>zDa (zM pb) (zAa (yU r T1 T2 (zM pb)) nn.toNat 0 0 [])
def zDV (r:Int×List Int) (w:World) (e:Ending) (w':World):Prop :=
 Ext w w'∧if r.1=0 then ∃ B k d,e=.returned (.tuple #[.slice B k d,.int .i64 0])∧r.2.length=k*64∧SL w' 64 (.slice B k d) k (ints r.2)∧(B=none→d=0)
  else e=.returned (.tuple #[.slice none 0 0,.int .i64 r.1])
def zSs {r:Bool} {T1 T2:List Tok} {D:List Bool} {b:Bool} {p:Nat} (hT1: ∀ t∈T1,0≤t.1∧t.1≤255) (hT2: ∀ t∈T2,0≤t.1∧t.1≤255) (h:(yU r T1 T2 D b p).2.1=0) :
 I64 (yU r T1 T2 D b p).1.1∧I64 (yU r T1 T2 D b p).1.2.1∧I64 (yU r T1 T2 D b p).1.2.2:=by
 by_cases h0:(uG (if b then T1 else T2) D p).2.2≠0
 ·rw[zJw h0] at h;exact absurd h h0
 ·obtain⟨s,p',e⟩: ∃ s p',uG (if b then T1 else T2) D p=(s,p',0):=⟨_,_,Prod.ext rfl (Prod.ext rfl (by simpa using h0))⟩
  have hr:=zQA (T:=if b then T1 else T2) (D:=D) (p:=p) (by cases b<;>assumption);rw[e] at hr;dsimp only at hr
  by_cases hb:12<(if b then s else s%16)∨(b=false∧11<(if b then s else s%16))
  ·rw[zID e rfl hb] at h;cases h
  ·by_cases hl:D.length<p'+(if b then s else s%16).toNat
   ·rw[zIC e rfl hb hl] at h;cases h
   ·rw[zFR e rfl hb hl];have h12:(if b then s else s%16)≤12:=Int.not_lt.1 fun k=>hb (.inl k)
    have h00:0≤(if b then s else s%16):=by cases b<;>simp<;>omega
    have hn:=zDT (D.drop p') (if b then s else s%16).toNat 12 (by omega);have h4:(2:Nat) ^ 12=4096:=by decide
    rw[h4] at hn;unfold I64;dsimp only;refine⟨by omega,by omega,by omega⟩
section
open Go.RowKit Go.Maps Go.WideMaps
def numB_bit (D:List Bool) (p k:Nat) (h:p+k<D.length):yJ ((D.drop p).take (k+1))=2*yJ ((D.drop p).take k)+yJ ((D.drop (p+k)).take 1):=by
 rw[zGa _ _ (by simp;omega)];congr 1
 have e:(D.drop (p+k)).take 1=[D[p+k]]:=by
  rw[wG3 h];rfl
 rw[e];simp[yJ]
def zNH (w:World):(zeroValue 3).run Tryz.prog w=.ok (.int .i64 0) w:=by kernel_rfl
def zPi (gc gr:Nat) (T:List Tok) (A:Option Addr) (n c p:Nat) (bs:List Nat) (w0 w:World) (hc:CoderS w0 gc T) (hg:w0.heap.size≤gr) (hbw:Below gr w0 w) (hr:RdS w gr A n c p bs) (hgw:gr<w.heap.size) :
 Calls Tryz.prog 243 #[.pointer (some ⟨gc,0,none⟩),.pointer (some ⟨gr,0,none⟩)] w fun e w' =>
  e=.returned (.tuple #[.int .i64 (vC T (zM bs) p 16 1).1,.int .i64 (vC T (zM bs) p 16 1).2.2])∧RdS w' gr A n c (if (vC T (zM bs) p 16 1).2.2=0 then (vC T (zM bs) p 16 1).2.1 else if (vC T (zM bs) p 16 1).2.2=3 then 8*n else p+16) bs∧Upd (fun x=>x=gr) w w':=by
 have HD:Hid ((zM bs).length=8*n):=zA (by rw[zEk,hr.2.2.1]);have HNB:=zA (numB_bit (zM bs) p);have HLT:=zA (fun i (h1:i≤24)=>zDT ((zM bs).drop p) i 24 h1);have HL1:=zA (fun q=>zDT ((zM bs).drop q) 1 1 (by omega));have HG0:Hid (∀ long,vC T (zM bs) p 0 long=(0,p,4)):=zA (fun long=>getGo_end);have HGO:Hid (∀ f long, ¬p+long≤8*n→vC T (zM bs) p (f+1) long=(0,p,3)):=zA (fun f long h=>getGo_out (by rw[HD.out];exact h));have HGY:Hid (∀ f long t,p+long≤8*n→T.find? (zCK (long:Int) (yJ (((zM bs).drop p).take long):Nat))=some t→vC T (zM bs) p (f+1) long=(t.1,p+long,0)):=zA (fun f long t h hf=>getGo_yes (by rw[HD.out];exact h) hf);have HGN:Hid (∀ f long,p+long≤8*n→T.find? (zCK (long:Int) (yJ (((zM bs).drop p).take long):Nat))=none→vC T (zM bs) p (f+1) long=vC T (zM bs) p f (long+1)):=zA (fun f long h hf=>getGo_no (by rw[HD.out];exact h) hf);obtain⟨ez,hez⟩: ∃ ez,ez=vC T (zM bs) p 16 1:=⟨_,rfl⟩
 have HEZ:=zA hez;rw[←hez];obtain⟨ps,hps⟩: ∃ ps,ps=(if ez.2.2=0 then ez.2.1 else if ez.2.2=3 then 8*n else p+16):=⟨_,rfl⟩
 have HPS:=zA hps;rw[←hps];clear hez hps;have hp0:p≤8*n:=hr.2.2.2.2.2.2;go_enter Tryz.func243,Tryz.ntmps243;go_wp2_with fail
 go_loopw [6,7] (fun v i wr=> ∃ k:Nat,k≤16∧i=.int .i64 ((k+1:Nat):Int)∧v=.int .i64 ((yJ (((zM bs).drop p).take k):Nat):Int)∧Hid (ez=vC T (zM bs) p (16-k) (k+1))∧RdS wr gr A n c (p+k) bs∧Upd (fun x=>x=gr) w wr) (fun _ i _=>17-(intOf i).toNat)
 case atStart=>exact⟨0,by omega,rfl,by simp[yJ],HEZ,hr,Upd.refl _ _⟩
 case round =>
  clear HEZ hr;obtain⟨k,hk,rfl,rfl,HEZ,hr,hu⟩:=hrel;have hpk:p+k≤8*n:=hr.2.2.2.2.2.2
  by_cases hlt:k<16
  ·have HEK:Hid (ez=vC T (zM bs) p (15-k+1) (k+1)):=zA (by rw[HEZ.out,show 15-k+1=16-k by omega]);clear HEZ
   by_cases hfit:p+k+1≤8*n
   ·have HYES:=zA (fun t h=>HEK.out.trans (HGY.out (15-k) (k+1) t (by omega) h));have HNO:=zA (fun h=>HEK.out.trans (HGN.out (15-k) (k+1) (by omega) h));have hcw:=hc.below hg (hbw.trans (hu.below (fun x hx=>by omega) (by omega)));have HG:Hid (∀ W,RdS W gr A n c (p+k) bs→Calls Tryz.prog 164 #[.pointer (some ⟨gr,0,none⟩),.int .i64 1] W fun e w'=>e=.returned (.tuple #[.int .i64 ((yJ (((zM bs).drop (p+k)).take 1):Nat):Int),.bool true])∧RdS w' gr A n c (p+k+1) bs∧Upd (fun x=>x=gr) W w'):=zA (fun W h=>zJY gr A n c (p+k) bs 1 W h hfit (by omega));have HM2:=zA (HNB.out k (by rw[HD.out];omega));have hm0:=HLT.out k (by omega);have hm20:=HLT.out (k+1) (by omega);have hb0:=HL1.out (p+k);generalize yJ (((zM bs).drop (p+k)).take 1)=b at *;generalize yJ (((zM bs).drop p).take k)=m at *;generalize hm2:yJ (((zM bs).drop p).take (k+1))=m2 at *;have HMM:=zA hm2;clear hm2;have hb2:b<2:=by omega
    have hm:m<1099511627776:=by omega
    have hk64:IntKind.i64.wrap (((k+1:Nat):Int)+1)=((k+1+1:Nat):Int):=by rw[IntWalk.i64_in _ (by omega)];omega
    go_upto_region 8 with (go_at_call 164;(with_reducible refine (HG.out _ hr).mono ?_);rintro e w5 ⟨rfl,hr5,hu5⟩)
    refine wp_region_lit ?_;refine zB rfl (.int .i64 ((m:Nat):Int)) (zC rfl rfl) ?_;simp only[Act.put,sA,sB,sC];refine zB rfl (.int .i64 ((2*m:Nat):Int)) (zCJ (k:=.i64) (m:=(m:Int)) (k':=.u64) (n:=1) rfl rfl rfl (zKO m hm)) ?_;simp only[Act.put,sA,sB,sC];refine zB rfl (.int .i64 ((b:Nat):Int)) (zC rfl rfl) ?_;simp only[Act.put,sA,sB,sC];refine zB rfl (.int .i64 ((m2:Nat):Int)) (by rw[HM2.out];exact zCJ (k:=.i64) (m:=((2*m:Nat):Int)) (k':=.i64) (n:=((b:Nat):Int)) rfl rfl rfl (run_or2 m b hm hb2)) ?_;simp only[Act.put,sA,sB,sC];refine zB rfl (.int .i64 ((m2:Nat):Int)) (zW rfl rfl) ?_;simp only[Act.put,sA,sB,sC];have hcw5:CoderS w5 gc T:=hc.below hg (hbw.trans ((hu.trans hu5 (fun x hx=>.inl hx)).below (fun x hx=>by omega) (by omega)));have hu15:=hu.trans hu5 (fun x hx=>.inl hx);obtain⟨m1,mp,mn,hB,hm1,hmp⟩:=hcw5;have c1:=hB.cell 1;simp only[wH5,wN4,wN5] at c1;have hok:okP (((k+1:Nat):Int),(m2:Int)):=⟨by simp only;omega,by simp only;omega⟩
    have HKEY:=zA (zJg _ hok);have HCF:=zA (zOo T ((k+1:Nat):Int) (m2:Int))
    cases hf:T.find? (zCK ((k+1:Nat):Int) (m2:Int)) with
    | some t =>
      rw[hf] at HCF;simp only[Option.map_some] at HCF;have HZ2:=zA (HYES.out t hf);clear hf HYES HNO;go_wp2_with (at_lookup;refine zCC (by rfl) _ _ 239 3 rfl keyed_pair Tryz.underlying239 _ (zNH _) rfl hmp _ rfl (((k+1:Nat):Int),(m2:Int)) hok HKEY.out (.int .i64 t.1) (by rw[HCF.out];rfl) true (by rw[HCF.out];rfl) ?_)
      go_ret2;rw[HZ2.out];exact⟨rfl,by rw[HPS.out,HZ2.out,if_pos rfl];exact hr5,hu15⟩
    | none =>
      rw[hf] at HCF;simp only[Option.map_none] at HCF;have HZ2:=zA (HNO.out hf);clear hf HYES HNO;go_wp2_with (at_lookup;refine zCC (by rfl) _ _ 239 3 rfl keyed_pair Tryz.underlying239 _ (zNH _) rfl hmp _ rfl (((k+1:Nat):Int),(m2:Int)) hok HKEY.out (.int .i64 0) (by rw[HCF.out];rfl) false (by rw[HCF.out];rfl) ?_)
      go_roundw
      case rel=>exact⟨k+1,by omega,by go_num,by rw[HMM.out],zA (by rw[HZ2.out,show 15-k=16-(k+1) by omega]),hr5,hu15⟩
      case measure=>simp[intOf];omega
   ·have HZ2:Hid (ez=(0,p,3)):=zA (HEK.out.trans (HGO.out (15-k) (k+1) (by omega)));have HG:Hid (∀ W,RdS W gr A n c (p+k) bs→Calls Tryz.prog 164 #[.pointer (some ⟨gr,0,none⟩),.int .i64 1] W fun e w'=>e=.returned (.tuple #[.int .i64 0,.bool false])∧Ext W w'):=zA (fun W h=>get_no gr A n c (p+k) bs 1 W h (by omega) (by omega));go_wp2_with (go_at_call 164;(with_reducible refine (HG.out _ hr).mono ?_);rintro e w5 ⟨rfl,hx5⟩)
    go_ret2;rw[HZ2.out];exact⟨rfl,by rw[HPS.out,HZ2.out,if_neg (show ¬(3:Int)=0 by decide),if_pos rfl,show 8*n=p+k by omega];exact hr.ext hx5,hu.trans (Upd.of_ext (S:=fun x=>x=gr) hx5) (fun x hx=>.inl hx)⟩
  ·have ek:k=16:=by omega
   subst ek;rw[HG0.out] at HEZ;go_wp2_with fail;go_ret2;rw[HEZ.out];exact⟨rfl,by rw[HPS.out,HEZ.out,if_neg (show ¬(4:Int)=0 by decide),if_neg (show ¬(4:Int)=3 by decide)];exact hr,hu⟩
end
end Go.Proofs.YtkggcjdlpendfaaGreatDoor
