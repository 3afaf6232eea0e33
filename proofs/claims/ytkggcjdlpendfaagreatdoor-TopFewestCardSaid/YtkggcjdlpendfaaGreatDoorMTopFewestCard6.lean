import Derived.Test.YtkggcjdlpendfaaGreatDoorMTopFewestCard5
set_option linter.all false
set_option maxRecDepth 20000
set_option maxHeartbeats 8000000
namespace Go.Proofs.YtkggcjdlpendfaaGreatDoor
open Go.RowKit
def zBW (t:Tok):Prop:=0≤t.1∧t.1≤255∧0≤t.2.1∧t.2.1≤12∧0≤t.2.2∧t.2.2<2 ^ t.2.1.toNat
def bitsZ_wf (n:Int):0≤(qQ n).1∧(qQ n).1≤12∧0≤(qQ n).2.1∧(qQ n).2.1<2 ^ (qQ n).1.toNat:=by
 unfold qQ;split
 ·next h =>
  obtain⟨s1,s2,s3⟩:=zCu n h.1 h.2;have p:=zAx (szN n);have s2':(n.natAbs:Int)<2 ^ szN n:=by exact_mod_cast s2
  refine⟨by simp,by simp;omega, ?_, ?_⟩
  ·show 0≤(if n<0 then n+2 ^ szN n-1 else n)
   split<;>omega
  ·show (if n<0 then n+2 ^ szN n-1 else n)<2 ^ ((szN n:Nat):Int).toNat
   rw[wF0];split<;>omega
 ·simp
def tokZ_wf (r:Nat) (n:Int) (h:r≤15):zBW (jH (r:Int) n):=by
 obtain⟨a,b,c,d⟩:=bitsZ_wf n;unfold zBW jH;dsimp only;exact⟨by omega,by omega,a,b,c,d⟩
def accT_wf (t0:Tok) (l:List Int) (h0:zBW t0): ∀ k,k≤l.length→ ∀ t∈(vS t0 l k).1,zBW t:=by
 intro k
 induction k with
 | zero=>intro _ t ht;rw[zIn] at ht;simp at ht;subst ht;exact h0
 | succ k ih =>
   intro hk t ht;have ih:=ih (by omega);rw[zFd t0 l k (by omega)] at ht;generalize vS t0 l k=s at *
   by_cases hz:l[k]=0
   ·rw[zEd hz] at ht;exact ih t ht
   ·rw[zGA hz] at ht;simp only[wE6,wK2,wK3] at ht;rcases ht with (ht | ⟨-,rfl⟩) | rfl
    ·exact ih t ht
    ·unfold zBW long;decide
    ·exact tokZ_wf _ _ (by omega)
def zEg (before:Int) (z:List Int) (hz:z.length=64): ∀ t∈yC before z,zBW t:=by
 intro t ht;have h:=accT_wf (jH 0 (z.getD 0 0-before)) (z.drop 1) (tokZ_wf 0 _ (by omega)) 63 (by simp;omega);unfold yC at ht;simp only at ht;split at ht
 ·rcases wE6.1 ht with h1 | h1
  ·exact h t h1
  ·simp at h1;subst h1;unfold zBW;decide
 ·exact h t ht
def yM (Z:List Int) (k:Nat):List Int:=(Z.drop (k*64)).take 64
def jW (Z:List Int) (k:Nat):Int:=if k=0 then 0 else (yM Z (k-1)).getD 0 0
def uU (Z:List Int) (k:Nat):List Tok:=yC (jW Z k) (zto (yM Z k))
def vV (T:List Tok):List (Tok×Bool):=T.zipIdx.map fun p=>(p.1,p.2 ==0)
def zEI (T:List Tok):(vV T).length=T.length:=by simp[vV]
def zHS (T:List Tok) (j:Nat) (h:j<T.length):(vV T).drop j=(T[j],j ==0)::(vV T).drop (j+1):=by
 rw[wG3 (by rw[zEI];exact h)];simp[vV]
def yW (Z:List Int) (n k:Nat):List (Tok×Bool):=(List.range' k (n-k)).flatMap fun i=>vV (uU Z i)
def zDL (Z:List Int) (n k:Nat) (h:k<n):yW Z n k=vV (uU Z k)++yW Z n (k+1):=by
 unfold yW;rw[show n-k=(n-(k+1))+1 by omega,wK4,wJ6]
def zGF (Z:List Int) (n:Nat):yW Z n n=[]:=by unfold yW;simp
section
variable {σ:Type}
def xV (step:σ→Tok→Bool→Int×σ):List (Tok×Bool)→σ→Int×σ
 | [],s=>(0,s)
 | (t,b)::r,s=>if (step s t b).1≠0 then step s t b else xV step r (step s t b).2
def xZ (step:σ→Tok→Bool→Int×σ) (n:Nat) (Z:List Int) (s:σ):Int×σ :=
 if 400<n then (2,s) else if zR Z (-2047) 2047=false then (1,s) else xV step (yW Z n 0) s
def zEM {step:σ→Tok→Bool→Int×σ} {t:Tok} {b:Bool} {r:List (Tok×Bool)} {s:σ} (h:(step s t b).1≠0):xV step ((t,b)::r) s=step s t b:=by unfold xV;rw[if_pos h]
def zAv {step:σ→Tok→Bool→Int×σ} {t:Tok} {b:Bool} {r:List (Tok×Bool)} {s:σ} (h:(step s t b).1=0):xV step ((t,b)::r) s=xV step r (step s t b).2:=by rw[xV,if_neg (by simp[h])]
end
def zEH (Z:List Int) (n k:Nat) (hz:Z.length=n*64) (h:k<n):(yM Z k).length=64:=by
 unfold yM;rw[wI8,wK1];omega
def zIe {Z:List Int} {k:Nat} {x:Int} (h:x∈yM Z k):x∈Z:=wG9 (wH0 h)
def zKY (Z:List Int) (n:Nat) (hz:Z.length=n*64):zR Z (-2047) 2047=true↔ ∀ k,k<n→zR (yM Z k) (-2047) 2047=true:=by
 constructor
 ·intro h k _;rw[yD] at h ⊢;exact fun x hx=>h x (zIe hx)
 ·intro h;rw[yD];intro x hx;obtain⟨i,hi,rfl⟩:=List.getElem_of_mem hx;have h1:=yD.1 (h (i/64) (by omega))
  have h2:(yM Z (i/64))[i%64]? =some Z[i]:=by
   unfold yM;rw[wD0 (by omega),wB4,show i/64*64+i%64=i by omega,wA2 hi]
  exact h1 _ (wK5 h2)
def zBT (k:Nat) (v:Int):Int:=if 0<k∧v<2 ^ (k-1) then v-(2 ^ k-1) else v
def back_in (k:Nat) (v:Nat) (w:World) (hk:k≤12) (h1:(v:Int)<2 ^ k):Calls Tryz.prog 188 #[.int .i64 k,.int .i64 v] w fun e w'=>e=.returned (.tuple #[.int .i64 (zBT k v),.int .i64 0])∧w=w':=by
 have p1:=zEQ k 12 hk;rw[show (2:Int) ^ 12=4096 from by decide] at p1;have p2:=zAx k
 by_cases h0:k=0
 ·subst h0;have:v=0:=by simp at h1;omega
  subst this;go_enter Tryz.func188,Tryz.ntmps188;go_wp2_with fail;go_ret2;exact⟨rfl,rfl⟩
 ·obtain⟨j,rfl⟩: ∃ j,k=j+1:=⟨k-1,by omega⟩
  by_cases hv:(v:Int)<2 ^ j
  ·have hq:((v:Int)/2 ^ j ==0)=true:=by rw[Int.ediv_eq_zero_of_lt (by omega) hv];rfl
   have HF:=zA (show zBT (j+1) v=v-(2 ^ (j+1)-1) by unfold zBT;rw[if_pos ⟨by omega,hv⟩]);clear hv;go_enter Tryz.func188,Tryz.ntmps188;go_wp2_with fail;go_ret2;exact⟨by rw[HF.out];rfl,rfl⟩
  ·have hq:((v:Int)/2 ^ j ==0)=false:=by
    have p3:=zAx j;have:(1:Int)≤v/2 ^ j:=(Int.le_ediv_iff_mul_le (by omega)).2 (by omega);simp;omega
   have HF:=zA (show zBT (j+1) v=v by unfold zBT;rw[if_neg (by simp;omega)]);clear hv;go_enter Tryz.func188,Tryz.ntmps188;go_wp2_with fail;go_ret2;exact⟨by rw[HF.out];rfl,rfl⟩
def back_out (n v:Int) (w:World) (h:n<0∨(¬n<0∧12<n)∨(0≤n∧n≤12∧v<0)∨(0≤n∧n≤12∧0≤v∧2 ^ n.toNat≤v)):Calls Tryz.prog 188 #[.int .i64 n,.int .i64 v] w fun e w'=>e=.returned (.tuple #[.int .i64 0,.int .i64 1])∧w=w':=by
 rcases h with h | ⟨h1,h⟩ | ⟨h1,h2,h⟩ | ⟨h1,h2,h3,h⟩
 ·go_enter Tryz.func188,Tryz.ntmps188;go_wp2_with fail;go_ret2;exact⟨rfl,rfl⟩
 ·go_enter Tryz.func188,Tryz.ntmps188;go_wp2_with fail;go_ret2;exact⟨rfl,rfl⟩
 ·go_enter Tryz.func188,Tryz.ntmps188;go_wp2_with fail;go_ret2;exact⟨rfl,rfl⟩
 ·obtain⟨k,rfl⟩: ∃ k:Nat,n=k:=⟨n.toNat,by omega⟩
  have hk:k≤12:=by omega
  rw[wF0] at h;have p1:=zEQ k 12 hk;rw[show (2:Int) ^ 12=4096 from by decide] at p1;have p2:=zAx k;go_enter Tryz.func188,Tryz.ntmps188;go_wp2_with fail;go_ret2;exact⟨rfl,rfl⟩
def yZ (n v:Int):Int×Int:=if 0≤n∧n≤12∧0≤v∧v<2 ^ n.toNat then (zBT n.toNat v,0) else (0,1)
def zPd (n v:Int) (w:World):Calls Tryz.prog 188 #[.int .i64 n,.int .i64 v] w fun e w'=>e=.returned (.tuple #[.int .i64 (yZ n v).1,.int .i64 (yZ n v).2])∧w=w':=by
 unfold yZ
 by_cases h:0≤n∧n≤12∧0≤v∧v<2 ^ n.toNat
 ·rw[if_pos h];obtain⟨h1,h2,h3,h4⟩:=h;obtain⟨k,rfl⟩: ∃ k:Nat,n=k:=⟨n.toNat,by omega⟩
  obtain⟨v,rfl⟩: ∃ k:Nat,v=k:=⟨v.toNat,by omega⟩
  rw[wF0] at h4 ⊢;exact back_in k v w (by omega) h4
 ·rw[if_neg h];exact back_out n v w (by omega)
def zigAt_inj: ∀ i j:Fin 64,vK i.val=vK j.val→i=j:=by decide+kernel
def zIM (z:List Int): ∀ (k i:Nat),k≤64→i<k→(qR z k).getD (vK i).toNat 0=z.getD i 0:=by
 intro k
 induction k with
 | zero=>intro i _ h;omega
 | succ k ih =>
   intro i hk hi;rw[zHT];have bi:=zHW i (by omega);have bk:=zHW k (by omega);have hl:=uL z k
   by_cases e:i=k
   ·subst e;simp[wF4,wK6,hl,show (vK i).toNat<64 by omega]
   ·have hne:(vK k).toNat≠(vK i).toNat:=by
     intro h;have:vK k=vK i:=by omega
     have:=zigAt_inj ⟨k,by omega⟩ ⟨i,by omega⟩ this;exact e (by simpa using (congrArg Fin.val this).symm)
    have:=ih i (by omega) (by omega);simpa [wF4,wK6,hne] using this
def zNX (z:List Int) (hz:z.length=64):zto (qR z 64)=z:=by
 refine wH9 (by rw[jK,hz]) fun i h1 h2=> ?_
 have:=zIM z 64 i (by omega) (by rw[jK] at h1;exact h1);simp only[zto,wI1,wI2];rw[this];simp[wF4,h2]
def zBY (t:Tok):Bool:=decide ((yZ t.2.1 t.2.2).2=0∧t.2.1=t.1%16∧t.2.1≤11∧0≤t.1∧t.1≤255∧(t.2.1=0→t.1=0∨t.1=240))
def zBF (before:Int) (t:Tok):Bool:=decide ((yZ t.2.1 t.2.2).2=0∧t.1=t.2.1∧ -2047≤before+(yZ t.2.1 t.2.2).1∧before+(yZ t.2.1 t.2.2).1≤2047)
def zKd (n v:Int): -4095≤(yZ n v).1∧(yZ n v).1≤4095∧((yZ n v).2=0∨(yZ n v).2=1):=by
 unfold yZ;split
 ·next h =>
  obtain⟨h1,h2,h3,h4⟩:=h;have p1:=zEQ n.toNat 12 (by omega);rw[show (2:Int) ^ 12=4096 from by decide] at p1;have p2:=zAx n.toNat;refine⟨?_, ?_,.inl rfl⟩
  ·show -4095≤zBT _ _
   unfold zBT;split<;>omega
  ·show zBT _ _≤4095
   unfold zBT;split<;>omega
 ·simp
def backR_11 {n v:Int} (h:(yZ n v).2=0) (h11:n≤11): -2047≤(yZ n v).1∧(yZ n v).1≤2047∧0≤n∧(n=0→(yZ n v).1=0):=by
 unfold yZ at h ⊢;split at h
 ·next hh =>
  rw[if_pos hh];obtain⟨h1,h2,h3,h4⟩:=hh;have p1:=zEQ n.toNat 11 (by omega);rw[show (2:Int) ^ 11=2048 from by decide] at p1;have p2:=zAx n.toNat;refine⟨?_, ?_,h1, ?_⟩
  ·show -2047≤zBT _ _
   unfold zBT;split<;>omega
  ·show zBT _ _≤2047
   unfold zBT;split<;>omega
  ·intro e;subst e;simp at h4;unfold zBT;simp;omega
 ·simp at h
def zJG {t:Tok}:zBY t=true↔(yZ t.2.1 t.2.2).2=0∧t.2.1=t.1%16∧t.2.1≤11∧0≤t.1∧t.1≤255∧(t.2.1=0→t.1=0∨t.1=240):=decide_eq_true_iff
def tokOk_def (t:Tok):zBY t=decide ((yZ t.2.1 t.2.2).2=0∧t.2.1=t.1%16∧t.2.1≤11∧0≤t.1∧t.1≤255∧(t.2.1=0→t.1=0∨t.1=240)):=rfl
def zLA {before:Int} {t:Tok}:zBF before t=true↔(yZ t.2.1 t.2.2).2=0∧t.1=t.2.1∧ -2047≤before+(yZ t.2.1 t.2.2).1∧before+(yZ t.2.1 t.2.2).1≤2047:=by simp[zBF]
section
variable {σ:Type}
def goB (next:σ→Tok×Int×σ) (i:Nat) (z:List Int) (all:List Tok) (s:σ):Int×List Int×List Tok×σ :=
 if h:i<64 then
  if (next s).2.1≠0 then ((next s).2.1,z,all,(next s).2.2)
  else if zBY (next s).1=false then (4,z,all,(next s).2.2)
  else if (next s).1.1=0 then (0,z,all++[(next s).1],(next s).2.2)
  else if 64<i+((next s).1.1/16).toNat+1 then (4,z,all,(next s).2.2)
  else goB next (i+((next s).1.1/16).toNat+1) (z.set (i+((next s).1.1/16).toNat) (yZ (next s).1.2.1 (next s).1.2.2).1) (all++[(next s).1]) (next s).2.2
 else (0,z,all,s)
termination_by 64-i
variable {next:σ→Tok×Int×σ} {i:Nat} {z:List Int} {all:List Tok} {s s':σ} {t:Tok} {e:Int}
def goB_err (hi:i<64) (h:next s=(t,e,s')) (he:e≠0):goB next i z all s=(e,z,all,s'):=by
 unfold goB;rw[dif_pos hi,h,if_pos he]
def goB_bad (hi:i<64) (h:next s=(t,0,s')) (ht:zBY t=false):goB next i z all s=(4,z,all,s'):=by
 unfold goB;rw[dif_pos hi,h,if_neg (by simp),if_pos ht]
def zMS (hi:i<64) (h:next s=(t,0,s')) (ht:zBY t=true) (h0:t.1=0):goB next i z all s=(0,z,all++[t],s'):=by
 unfold goB;rw[dif_pos hi,h,if_neg (by simp),if_neg (by simp[ht]),if_pos h0]
def zMo (hi:i<64) (h:next s=(t,0,s')) (ht:zBY t=true) (h0:t.1≠0) (hf:64<i+(t.1/16).toNat+1):goB next i z all s=(4,z,all,s'):=by
 unfold goB;rw[dif_pos hi,h,if_neg (by simp),if_neg (by simp[ht]),if_neg h0,if_pos hf]
def zFM (hi:i<64) (h:next s=(t,0,s')) (ht:zBY t=true) (h0:t.1≠0) (hf: ¬64<i+(t.1/16).toNat+1) :
 goB next i z all s=goB next (i+(t.1/16).toNat+1) (z.set (i+(t.1/16).toNat) (yZ t.2.1 t.2.2).1) (all++[t]) s':=by
 rw[goB,dif_pos hi,h,if_neg (by simp),if_neg (by simp[ht]),if_neg h0,if_neg hf]
def zKZ (hi: ¬i<64):goB next i z all s=(0,z,all,s):=by
 unfold goB;rw[dif_neg hi]
def jV (next:Bool→σ→Tok×Int×σ) (before:Int) (s:σ):Int×List Int×List Tok×σ :=
 if (next true s).2.1≠0 then ((next true s).2.1,List.replicate 64 0,[],(next true s).2.2)
 else if zBF before (next true s).1=false then (4,List.replicate 64 0,[],(next true s).2.2)
 else
  let g:=goB (next false) 1 ((List.replicate 64 0).set 0 (before+(yZ (next true s).1.2.1 (next true s).1.2.2).1)) [(next true s).1] (next true s).2.2
  if g.1≠0 then (g.1,List.replicate 64 0,[],g.2.2.2)
  else if yC before g.2.1=g.2.2.1 then (0,qR g.2.1 64,g.2.2.1,g.2.2.2)
  else (4,List.replicate 64 0,[],g.2.2.2)
variable {nextB:Bool→σ→Tok×Int×σ} {before:Int}
def zQj (h:nextB true s=(t,e,s')) (he:e≠0):jV nextB before s=(e,List.replicate 64 0,[],s'):=by
 unfold jV;rw[h,if_pos he]
def zQg (h:nextB true s=(t,0,s')) (ht:zBF before t=false):jV nextB before s=(4,List.replicate 64 0,[],s'):=by
 unfold jV;rw[h,if_neg (by simp),if_pos ht]
def blkZ_go (h:nextB true s=(t,0,s')) (ht:zBF before t=true) {g:Int×List Int×List Tok×σ} (hg:goB (nextB false) 1 ((List.replicate 64 0).set 0 (before+(yZ t.2.1 t.2.2).1)) [t] s'=g) :
 jV nextB before s=if g.1≠0 then (g.1,List.replicate 64 0,[],g.2.2.2) else if yC before g.2.1=g.2.2.1 then (0,qR g.2.1 64,g.2.2.1,g.2.2.2) else (4,List.replicate 64 0,[],g.2.2.2):=by
 unfold jV;rw[h,if_neg (by simp),if_neg (by simp[ht])];simp only;rw[hg]
def finZ (before:Int) (g:Int×List Int×List Tok×σ):Int×List Int×List Tok×σ :=
 if g.1≠0 then (g.1,List.replicate 64 0,[],g.2.2.2) else if yC before g.2.1=g.2.2.1 then (0,qR g.2.1 64,g.2.2.1,g.2.2.2) else (4,List.replicate 64 0,[],g.2.2.2)
def zQW (h:nextB true s=(t,0,s')) (ht:zBF before t=true):jV nextB before s=finZ before (goB (nextB false) 1 ((List.replicate 64 0).set 0 (before+(yZ t.2.1 t.2.2).1)) [t] s'):=blkZ_go h ht rfl
def finZ_err {x:Int} (hx:x≠0):finZ before (x,z,all,s)=(x,List.replicate 64 0,[],s):=if_pos hx
def zNu (h:yC before z=all):finZ before ((0:Int),z,all,s)=(0,qR z 64,all,s):=by
 unfold finZ;dsimp only;rw[if_neg (show ¬((0:Int)≠0) by simp),if_pos h]
def finZ_ne (h:yC before z≠all):finZ before ((0:Int),z,all,s)=(4,List.replicate 64 0,[],s):=by
 unfold finZ;dsimp only;rw[if_neg (show ¬((0:Int)≠0) by simp),if_neg h]
structure Half (z:List Int) (i:Nat):Prop where
 len:z.length=64
 lo: ∀ x∈z, -2047≤x∧x≤2047
 zero: ∀ j,i≤j→j<64→z[j]? =some 0
def Half.set {z:List Int} {i k:Nat} (h:Half z i) (hk:i≤k) (hk2:k<64) {x:Int} (h1: -2047≤x) (h2:x≤2047):Half (z.set k x) (k+1) :=
 ⟨by simp[h.len],fun y hy=>by
  rcases wK7 hy with h3 | h3
  ·exact h.lo y h3
  ·rw[h3];exact⟨h1,h2⟩,fun j hj hj2=>by
  rw[wK8 (by omega)];exact h.zero j (by omega) hj2⟩
def Half.same {z:List Int} {i k:Nat} (h:Half z i) (hk:i≤k) (hk2:k<64):z.set k 0=z:=by
 have:=h.zero k hk hk2;obtain⟨h1,h2⟩:=wC2.1 this
 exact wH9 (by simp) fun j a b=>by
  by_cases e:j=k
  ·subst e;simp[h2]
  ·simp[wI0,show ¬k=j by omega]
def Half.init (x:Int) (h1: -2047≤x) (h2:x≤2047):Half ((List.replicate 64 0).set 0 x) 1 :=
 ⟨by simp,fun y hy=>by
  rcases wK7 hy with h3 | h3
  ·simp at h3;omega
  ·omega,fun j hj hj2=>by
  rw[wK8 (by omega),wK9,if_pos hj2]⟩
end
section
variable {P:Program} (w:World)
def zFL (e:TypeId) (he:P.underlying e=some (.int .i64)) (zs:List Int) (i:Nat) (hi:i<zs.length):(part e (bv zs) i).run P w=.ok (.int .i64 zs[i]) w:=by
 have hagg:(isAgg e).run P w=.ok false w:=by
  unfold isAgg;rw[Sem.run_bind,run_underlying he w];rfl
 simp[part,hagg,qK zs i hi]
end
def guardTok:Tryz.prog.eqGuardType Tryz.prog.depth 149=false:=by kernel_rfl
def zPx (w:World) (op:BinOp) (x y:Operand) (xs ys:Array Value):(eqGuard op 149 x y (.agg xs) (.agg ys)).run Tryz.prog w=.ok () w:=run_eqGuard_agg w op _ x y xs ys guardTok
def stoodTok:Tryz.prog.stoodInHeld 149=false:=by kernel_rfl
def run_eqTok (w:World) (t u:Tok):(Op.equalIn 10000 149 (.agg (xN t).toArray) (.agg (xN u).toArray)).run Tryz.prog w=.ok (decide (t=u)) w:=by
 have p0: ∀ (v:Tok),(part 3 (xN v).toArray 0).run Tryz.prog w=.ok (.int .i64 v.1) w:=fun v=>zFL w 3 Tryz.underlying3 [v.1,v.2.1,v.2.2] 0 (by simp)
 have p1: ∀ (v:Tok),(part 3 (xN v).toArray 1).run Tryz.prog w=.ok (.int .i64 v.2.1) w:=fun v=>zFL w 3 Tryz.underlying3 [v.1,v.2.1,v.2.2] 1 (by simp)
 have p2: ∀ (v:Tok),(part 3 (xN v).toArray 2).run Tryz.prog w=.ok (.int .i64 v.2.2) w:=fun v=>zFL w 3 Tryz.underlying3 [v.1,v.2.1,v.2.2] 2 (by simp)
 have hi:=fun a b=>run_equalIn_int w 9998 3 .i64 .i64 a b Tryz.underlying3
 have hst:Tryz.prog.underlying 149=some (.struct (Tryz.prog.fieldsOf 149)):=by kernel_rfl
 rw[run_equalIn_struct w 9999 149 _ _ hst stoodTok];have hf : (Tryz.prog.fieldsOf 149).toList = [{ name := "Sym", type := 3, offset := 0, embedded := false, tag := "", pkgPath := "", byteOffset := 0 }, { name := "Width", type := 3, offset := 1, embedded := false, tag := "", pkgPath := "", byteOffset := 8 }, { name := "Value", type := 3, offset := 2, embedded := false, tag := "", pkgPath := "", byteOffset := 16 }] := by kernel_rfl
 rw[hf];simp only [Op.eqFields, ne_eq, show ("Sym" = "_") = False by decide, show ("Width" = "_") = False by decide, show ("Value" = "_") = False by decide, not_false_eq_true, if_true, Sem.run_bind, p0, p1, p2, hi, Result.andThen_ok, Sem.run_ite, Sem.run_pure];obtain⟨a,b,c⟩:=t;obtain⟨a',b',c'⟩:=u
 by_cases h1:a=a'<;>by_cases h2:b=b'<;>by_cases h3:c=c'<;>simp[h1,h2,h3]
def zSu (w:World) (t u:Tok):(binOp .neq 149 (.agg (xN t).toArray) (.agg (xN u).toArray)).run Tryz.prog w=.ok (.bool (!decide (t=u))) w:=by
 rw[run_neq_struct,run_eqTok];rfl
def tokv_len (t:Tok):(xN t).length=3:=rfl
def zEO (T:List Tok) (k:Nat) (h:k<T.length):((qC T).drop (k*3)).take 3=xN T[k]:=by
 refine List.ext_getElem? fun j=> ?_
 obtain⟨a,b,c⟩:=toks_at T k h
 by_cases hj:j<3
 ·rw[wD0 hj,wB4]
  match j,hj with
  | 0,_=>simpa [xN] using a
  | 1,_=>simpa [xN] using b
  | 2,_=>simpa [xN] using c
 ·rw[wH6 (by rw[wI8];omega),wH6 (by rw[tokv_len];omega)]
def zEL:(Tryz.prog.info? 149).map (·.size)=some 3:=by kernel_rfl
def zPC (T U:List Tok) (k:Nat) (h1:k<T.length) (h2:k<U.length):T.take (k+1)=U.take (k+1)↔T.take k=U.take k∧T[k]=U[k]:=zHp T U k h1 h2
def jD (t:Tok):(xN t).toArray.all (·.oneCell')=true:=by
 rw[wH7];intro x hx;simp[xN] at hx;rcases hx with rfl | rfl | rfl<;>rfl
def zEn (u v:Value) (T U:List Tok) (w:World) (hu:SL w 3 u T.length (qC T)) (hv:SL w 3 v U.length (qC U)) :
 Calls Tryz.prog 190 #[u,v] w fun e w'=>e=.returned (.bool (decide (T=U)))∧Ext w w':=by
 have hu':=hu;have hv':=hv;obtain⟨A,c,rfl,hc1,hc2, -, -⟩:=hu';obtain⟨B,d,rfl,hd1,hd2, -, -⟩:=hv'
 by_cases hl:T.length=U.length
 ·have HE:Hid (T.length=U.length):=hl;obtain⟨n,hn⟩: ∃ n,n=T.length:=⟨_,rfl⟩
  have HTN:Hid (T.length=n):=zA hn.symm;have HUN:Hid (U.length=n):=zA (by rw[←hl,hn]);rw[←hl] at hv hd1 ⊢;rw[←hn] at hu hv hc1 hd1 ⊢;have e1:((n:Int) !=(n:Int))=false:=by simp
  obtain⟨res,hres⟩: ∃ r,r=decide (T=U):=⟨_,rfl⟩
  have HR:=zA hres;rw[←hres];clear hl hn hres;go_enter Tryz.func190,Tryz.ntmps190;go_wp2_with fail
  go_loopw [13] (fun i wr=> ∃ k:Nat,k≤n∧i=.int .i64 k∧Hid (T.take k=U.take k)∧Ext w wr) (fun i _=>n-(intOf i).toNat)
  case atStart=>exact⟨0,by omega,rfl,zA (by simp),Ext.refl w⟩
  case round =>
   obtain⟨k,hk,rfl,HT,hx⟩:=hrel
   by_cases hlt:k<n
   ·obtain⟨ad,rfl,hab,hca⟩:=(hu.ext hx).part hlt;obtain⟨bd,rfl,hbb,hcb⟩:=(hv.ext hx).part hlt;have hkT:k<T.length:=by rw[HTN.out];exact hlt
    have hkU:k<U.length:=by rw[HUN.out];exact hlt
    rw[zEO T k hkT] at hca;rw[zEO U k hkU] at hcb;have HQ:=zA (zPC T U k hkT hkU);generalize ht:T[k]=t at *;generalize hu2:U[k]=t' at *;have HTt:=zA ht;have HTu:=zA hu2;clear ht hu2;have HCA:=zA hca;clear hca
    have HCA':Hid (∀ W,Ext wr.drew W→zAJ W (ad.add (k*3)) (xN t)):=zA (fun W hW j q hq=>by
     rw[(hW.cell (p:=(ad.add (k*3)).add j) (by rw[yN,yN];exact hab))]
     exact HCA.out j q hq)
    have HCB:Hid (∀ W,Ext wr.drew W→zAJ W (bd.add (k*3)) (xN t')):=zA (fun W hW j q hq=>by
     rw[(hW.cell (p:=(bd.add (k*3)).add j) (by rw[yN,yN];exact hbb))]
     exact hcb j q hq)
    have hx3':=hx.drew;go_wp2_with fail;refine qI qS (by kernel_rfl) (by kernel_rfl) ?_
    iterate 3 (refine zBO (by rfl) ?_;apply Exists.intro;refine⟨fun w hw=> ?_, ?_⟩; · (go_simp;with_reducible rfl)
               simp only[Act.put,sA,sB,sC])
    refine zJz (by rfl) 149 (.tmp 18) rfl (ad.add (k*3)) rfl (xN t) _ HCA'.out Tryz.underlying149 rfl zEL ?_;simp only[Act.put,sA,sB,sC]
    iterate 3 (refine zBO (by rfl) ?_;apply Exists.intro;refine⟨fun w hw=> ?_, ?_⟩; · (go_simp;with_reducible rfl)
               simp only[Act.put,sA,sB,sC])
    refine zJz (by rfl) 149 (.tmp 22) rfl (bd.add (k*3)) rfl (xN t') _ HCB.out Tryz.underlying149 rfl zEL ?_;simp only[Act.put,sA,sB,sC];refine zAO (by rfl) .neq 149 _ _ _ rfl (.agg (xN t).toArray) (.agg (xN t').toArray) rfl rfl (.bool (!decide (t=t'))) (fun W=>zPx W _ _ _ _ _) (fun W=>zSu W t t') ?_;simp only[Act.put,sA,sB,sC];refine vH ?_;intro w4 hx4
    by_cases hq:t=t'
    ·have HH:Hid (T.take (k+1)=U.take (k+1)):=zA (HQ.out.2 ⟨HT.out,hq⟩);rw[wL0 hq];clear hq;go_wp2_with fail;go_roundw
     case rel=>exact⟨k+1,by omega,by go_num,HH,hx3'.trans hx4⟩
     case measure=>simp[intOf];omega
    ·have hne:T≠U:=by
      intro h;apply hq;have h1:=HTt.out;have h2:=HTu.out;subst h;exact h1.symm.trans h2
     have HN:=zA hne;rw[wL1 hq];clear hq hne;go_wp2_with fail;go_ret;refine⟨?_,hx3'.trans hx4⟩;rw[HR.out,wL1 HN.out];rfl
   ·go_wp2_with fail;go_ret;refine⟨?_,hx⟩
    have e:T=U:=by
     have:=HT.out
     rwa [wC4 (by rw[HTN.out];omega),wC4 (by rw[HUN.out];omega)] at this
    rw[HR.out,wL0 e];rfl
 ·have hne:decide (T=U)=false:=wL1 (fun h=>hl (by rw[h]));have e1:((T.length:Int) !=(U.length:Int))=true:=by simp;omega
  rw[hne];clear hne hl;go_enter Tryz.func190,Tryz.ntmps190;go_wp2_with fail;go_ret;exact⟨rfl,Ext.refl w⟩
def yP:(Tryz.prog.info? 149).map (·.size)=some 3:=by kernel_rfl
def zAL:(Tryz.prog.info? 149).bind (·.zero)=some (.agg (xN (0,0,0)).toArray):=by kernel_rfl
def zDi:Elt Tryz.prog 145 149 3 24:=⟨Tryz.underlying145,by kernel_rfl,by omega⟩
def zPJ (n:Int):0≤(qQ n).1∧(qQ n).1≤12:=by
 unfold qQ;split
 ·next h=>have:=(zCu n h.1 h.2).1;simp;omega
 ·simp
def zCO (a b c:Int):(#[Value.int .i64 a,.int .i64 b,.int .i64 c]:Array Value).all (·.oneCell')=true:=by
 rw[wH7];intro x hx;simp at hx;rcases hx with rfl | rfl | rfl<;>rfl
def or_add: ∀ r:Fin 16, ∀ x:Fin 13,bits .or .i64 ((r.val:Int)*16) (x.val:Int)=16*(r.val:Int)+(x.val:Int):=by decide
def zLR (r n:Int) (w:World) (h0:0≤r) (h1:r≤15):Calls Tryz.prog 159 #[.int .i64 r,.int .i64 n] w fun e w'=>e=.returned (.agg (xN (jH r n)).toArray)∧Ext w w':=by
 have HB:=zA (fun W=>zOb n W);obtain⟨b1,b2⟩:=zPJ n;have HT:=zA (show xN (jH r n)=[.int .i64 (16*r+(qQ n).1),.int .i64 (qQ n).1,.int .i64 (qQ n).2.1] from rfl);generalize jH r n=tk at *;generalize qQ n=b at *;obtain⟨x1,x2,x3⟩:=b;go_enter Tryz.func159,Tryz.ntmps159
 go_wp2_with (first
  | (refine wAlo' rfl (some 4) rfl 149 rfl _ zAL ?_;intro w1 g1 hb1 hx1 hg1)
  | (go_at_call 186;(with_reducible refine (HB.out _).mono ?_);rintro e w' ⟨rfl,rfl⟩)
  | (refine wStB rfl 149 (.tmp 4) (.tmp 20) rfl _ _ rfl rfl hb1 3 yP rfl rfl (zCO _ _ _) ?_;intro w5 hb5 hg5))
 refine zAy rfl rfl _ rfl hb5 _ Tryz.underlying149 rfl 3 yP rfl ⟨by rw[HT.out],hx1.grown hg5 hg1⟩
def zNU (r:Nat) (m:Int) (w:World) (h1:r≤15):Calls Tryz.prog 209 #[.int .i64 r,.int .i64 m] w fun e w'=>e=.returned (.agg (xN (jH r m)).toArray)∧Ext w w':=by
 have HB:=zA (fun W=>zQY m W);obtain⟨b1,b2⟩:=zPJ m;have HT:=zA (show xN (jH r m)=[.int .i64 (16*r+(qQ m).1),.int .i64 (qQ m).1,.int .i64 (qQ m).2.1] from rfl);generalize jH r m=tk at *;generalize qQ m=b at *;obtain⟨x1,x2,x3⟩:=b;obtain⟨x1,rfl⟩: ∃ k:Nat,x1=k:=⟨x1.toNat,by simp at b1;omega⟩
 have HO:bits .or .i64 ((r:Int)*16) (x1:Int)=16*(r:Int)+(x1:Int):=or_add ⟨r,by omega⟩ ⟨x1,by simp at b2;omega⟩;go_enter Tryz.func209,Tryz.ntmps209
 go_wp2_with (first
  | (refine wAlo' rfl (some 4) rfl 149 rfl _ zAL ?_;intro w1 g1 hb1 hx1 hg1)
  | (go_at_call 216;(with_reducible refine (HB.out _).mono ?_);rintro e w' ⟨rfl,rfl⟩)
  | (refine wStB rfl 149 (.tmp 4) (.tmp 20) rfl _ _ rfl rfl hb1 3 yP rfl rfl (zCO _ _ _) ?_;intro w5 hb5 hg5))
 refine zAy rfl rfl _ rfl hb5 _ Tryz.underlying149 rfl 3 yP rfl ⟨by rw[HT.out],hx1.grown hg5 hg1⟩
def own_ext {w w':World} {base:Nat} {e:TypeId} {size n:Nat} {v:Value} {xs:List Value} (h:w.ownsRow base e size v n xs) (hb:Ext w w'):w'.ownsRow base e size v n xs:=by
 obtain⟨hl,hh⟩:=h;refine⟨hl, ?_⟩;rcases hh with ⟨rfl,rfl⟩ | ⟨g,cap,cur,rfl,h1,hg,h2⟩
 ·exact .inl ⟨rfl,rfl⟩
 ·exact .inr ⟨g,cap,cur,rfl,h1,(hb.block g (Blk.lt (w:=w) (t:=e) (cs:=cur) hg)).trans hg,h2⟩
def zFF (w:World) (T:TypeId) (a b c:Value):SL (w.alloc (.cells #[a,b,c] T)) 3 (.slice (some ⟨w.heap.size,0,none⟩) 1 1) 1 [a,b,c]:=by
 have:=(Blk.new w T #[a,b,c]).sl (size:=3) (n:=1) (c:=1) rfl (by omega) (by omega);simpa using this
def zLU {w:World} {base:Nat} (e:TypeId) (a b c:Value) (hb:base≤w.heap.size) :
 (w.alloc (.cells #[a,b,c] e)).ownsRow base e 3 (.slice (some ⟨w.heap.size,0,none⟩) 1 1) 1 [a,b,c] :=
 ⟨rfl,.inr ⟨w.heap.size,1, #[a,b,c],rfl,hb,heap_alloc_new w _,by omega,by unfold maxLen;omega,rfl,by simp⟩⟩
def zDg (a b c:Int): ∀ u∈[Value.int .i64 a,.int .i64 b,.int .i64 c],u.oneCell'=true:=by
 intro u hu;simp at hu;rcases hu with rfl | rfl | rfl<;>rfl
def zEx {w:World} {base:Nat} {e:TypeId} {v:Value} {T:List Tok} {a b c:Int} (h:w.ownsRow base e 3 v (T.length+1) (qC T++[.int .i64 a,.int .i64 b,.int .i64 c])):w.ownsRow base e 3 v (T++[(a,b,c)]).length (qC (T++[(a,b,c)])):=by
 simpa [qC,xN] using h
def zCW (t:Tok):(xN t).toArray= #[.int .i64 t.1,.int .i64 t.2.1,.int .i64 t.2.2]:=rfl
def size47:(Tryz.prog.info? 32).map (·.size)=some 64:=by kernel_rfl
def zero47:(Tryz.prog.info? 32).bind (·.zero)=some (.agg (bv (List.replicate 64 0))):=by kernel_rfl
def elt_int:Elt Tryz.prog 22 3 1 8:=⟨Tryz.underlying22,by kernel_rfl,by omega⟩
def zord_set (k:Nat) (h:k<64) (z:Int):(zigL.take k++List.replicate (64-k) 0).set k z=zigL.take k++[z]++List.replicate (64-(k+1)) 0:=by
 have hl:(zigL.take k).length=k:=by rw[wI8,zCQ];omega
 rw[wF8 _ _ (by omega),hl,wF9];obtain⟨m,hm⟩: ∃ m,64-k=m+1:=⟨64-k-1,by omega⟩
 have hm2:64-(k+1)=m:=by omega
 rw[hm,hm2,wG0,wG1];simp
def tup {s:Int×Int×Bool} {a b:Int} {c:Bool} (h:s=(a,b,c)):s.1=a∧s.2.1=b∧s.2.2=c:=by subst h;exact⟨rfl,rfl,rfl⟩
def zOE (w:World):Calls Tryz.prog 139 #[] w fun e w'=>e=.returned (.agg (bv zigL))∧Ext w w':=by
 go_enter Tryz.func139,Tryz.ntmps139;go_wp2_with (refine jY rfl 32 rfl _ zero47 ?_;intro w1 g hb1 hx1 hg)
 go_loopw [1,2,3,5] (fun r c u i wr=> ∃ k:Nat,k≤64∧i=.int .i64 k∧r=.int .i64 (zst k).1∧c=.int .i64 (zst k).2.1∧u=.bool (zst k).2.2∧Blk wr g 32 (bv (zigL.take k++List.replicate (64-k) 0))∧Ext w wr) (fun _ _ _ i _=>64-(intOf i).toNat)
 case atStart=>exact⟨0,by omega,rfl,rfl,rfl,rfl,hb1,hx1⟩
 case round =>
  obtain⟨k,hk,rfl,rfl,rfl,rfl,hb,hx⟩:=hrel
  by_cases hlt:k<64
  ·obtain⟨b1,b2,b3,b4⟩:=zst_bd k hlt;have HS:Hid (zst (k+1)=zEm (zst k)):=zA rfl;have HZ:Hid (vK k=8*(zst k).1+(zst k).2.1):=zA rfl
   obtain⟨old,hold⟩: ∃ u,wr.cell? ⟨g,k,none⟩=some u:=by
    rw[hb.cell k];exact⟨_,qK _ k (by simp[zCQ];omega)⟩
   have hfr:=hb.frozen k;have hnew:=zA (hb.set_ k (.int .i64 (8*(zst k).1+(zst k).2.1)));generalize hst:zst k=st at *;obtain⟨r,c,u⟩:=st;have HST:=zA hst;clear hst;simp only at b1 b2 b3 b4 HZ hnew;have fin: ∀ (a b:Int) (d:Bool),zEm (r,c,u)=(a,b,d)→zst (k+1)=(a,b,d):=fun a b d h=>by rw[HS.out,h]
   have FIN:=zA fin
   have hblk:Hid (Blk (wr.setCell ⟨g,k,none⟩ (.int .i64 (8*r+c))) g 32 (bv (zigL.take (k+1)++List.replicate (64-(k+1)) 0))):=by
    have:=hnew.out;rw[jO,zord_set k hlt] at this;rw[zMw k hlt,HZ.out];exact this
   have hxx:=zA (hx.setCell (p:=⟨g,k,none⟩) hg (.int .i64 (8*r+c)));clear fin hnew hb hx
   cases u with
   | true =>
     by_cases h7:c=7
     ·obtain⟨f1,f2,f3⟩:=tup (FIN.out (r+1) c false (by simp[zEm,h7]));have F:=zA f1;have F2:=zA f2;have F3:=zA f3;have h7':(c ==7)=true:=by simpa using h7
      clear f1 f2 f3 h7;go_wp2_with fail;go_roundw
      case rel=>exact⟨k+1,by omega,by go_num,by rw[F.out],by rw[F2.out],by rw[F3.out],hblk.out,hxx.out⟩
      case measure=>simp[intOf];omega
     ·have h7':(c ==7)=false:=by simpa using h7
      by_cases h0:r=0
      ·obtain⟨f1,f2,f3⟩:=tup (FIN.out r (c+1) false (by simp[zEm,h7,h0]));have F:=zA f1;have F2:=zA f2;have F3:=zA f3;have h0':(r ==0)=true:=by simpa using h0
       clear f1 f2 f3 h7 h0;go_wp2_with fail;go_roundw
       case rel=>exact⟨k+1,by omega,by go_num,by rw[F.out],by rw[F2.out],by rw[F3.out],hblk.out,hxx.out⟩
       case measure=>simp[intOf];omega
      ·obtain⟨f1,f2,f3⟩:=tup (FIN.out (r-1) (c+1) true (by simp[zEm,h7,h0]));have F:=zA f1;have F2:=zA f2;have F3:=zA f3;have h0':(r ==0)=false:=by simpa using h0
       clear f1 f2 f3 h7 h0;go_wp2_with fail;go_roundw
       case rel=>exact⟨k+1,by omega,by go_num,by rw[F.out],by rw[F2.out],by rw[F3.out],hblk.out,hxx.out⟩
       case measure=>simp[intOf];omega
   | false =>
     by_cases h7:r=7
     ·obtain⟨f1,f2,f3⟩:=tup (FIN.out r (c+1) true (by simp[zEm,h7]));have F:=zA f1;have F2:=zA f2;have F3:=zA f3;have h7':(r ==7)=true:=by simpa using h7
      clear f1 f2 f3 h7;go_wp2_with fail;go_roundw
      case rel=>exact⟨k+1,by omega,by go_num,by rw[F.out],by rw[F2.out],by rw[F3.out],hblk.out,hxx.out⟩
      case measure=>simp[intOf];omega
     ·have h7':(r ==7)=false:=by simpa using h7
      by_cases h0:c=0
      ·obtain⟨f1,f2,f3⟩:=tup (FIN.out (r+1) c true (by simp[zEm,h7,h0]));have F:=zA f1;have F2:=zA f2;have F3:=zA f3;have h0':(c ==0)=true:=by simpa using h0
       clear f1 f2 f3 h7 h0;go_wp2_with fail;go_roundw
       case rel=>exact⟨k+1,by omega,by go_num,by rw[F.out],by rw[F2.out],by rw[F3.out],hblk.out,hxx.out⟩
       case measure=>simp[intOf];omega
      ·obtain⟨f1,f2,f3⟩:=tup (FIN.out (r+1) (c-1) false (by simp[zEm,h7,h0]));have F:=zA f1;have F2:=zA f2;have F3:=zA f3;have h0':(c ==0)=false:=by simpa using h0
       clear f1 f2 f3 h7 h0;go_wp2_with fail;go_roundw
       case rel=>exact⟨k+1,by omega,by go_num,by rw[F.out],by rw[F2.out],by rw[F3.out],hblk.out,hxx.out⟩
       case measure=>simp[intOf];omega
  ·obtain rfl:k=64:=by omega
   have hs:Hid ((bv zigL).size=64):=zA (by rw[zK,zCQ]);have ho:=zA (xE zigL);have e:zigL.take 64++List.replicate (64-64) 0=zigL:=by rw[wC4 (by rw[zCQ];omega)];simp
   rw[e] at hb;clear e;generalize hcz:bv zigL=cz at *;have HCZ:=zA hcz;clear hcz
   go_wp2_with (first
    | (refine wLdB rfl 32 (.tmp 0) rfl _ rfl hb _ Tryz.underlying32 rfl 64 size47 hs.out ?_)
    | (refine wStB rfl 32 (.tmp 0) (.tmp 51) rfl _ _ rfl rfl hb 64 size47 hs.out hs.out ho.out ?_;intro w7 hb7 hg7))
   exact zAy rfl rfl _ rfl hb7 _ Tryz.underlying32 rfl 64 size47 hs.out ⟨by rw[HCZ.out],hx.grown hg7 hg⟩
def zOa (w:World):Calls Tryz.prog 185 #[] w fun e w'=> ∃ v,e=.returned v∧w'.ownsRow w.heap.size 3 1 v 64 (ints zigL)∧Ext w w':=by
 go_enter Tryz.func185,Tryz.ntmps185;go_wp2_with fail
 go_loopw [1,6] (fun v i wr=> ∃ s:Nat,s≤15∧i=.int .i64 s∧wr.ownsRow w.heap.size 3 1 v (zES s).length (ints (zES s))∧Ext w wr) (fun _ i _=>15-(intOf i).toNat)
 case atStart=>exact⟨0,by omega,rfl,World.ownsRow_nil _ _ _ _,Ext.refl w⟩
 case round =>
  obtain⟨s,hs,rfl,hown,hx⟩:=hrel
  by_cases hlt:s<15
  ·have hsd:decide ((s:Int)<15)=true:=by simp;omega
   go_wp2_with fail;obtain⟨wo,rfl⟩: ∃ wo:World,wo=wr:=⟨_,rfl⟩
   go_loopw [1,9] (fun v i wr=> ∃ k:Nat,k≤8∧i=.int .i64 k∧wr.ownsRow w.heap.size 3 1 v (zES s++zEU s k).length (ints (zES s++zEU s k))∧Ext w wr) (fun _ i _=>8-(intOf i).toNat)
   case atStart=>exact⟨0,by omega,rfl,by simpa [zEU] using hown,hx⟩
   case round =>
    obtain⟨k,hk,rfl,hown2,hx2⟩:=hrel
    by_cases hlk:k<8
    ·have hzl:=zlen s k hs hk;have hlen:(ints (zES s++zEU s k)).length=(zES s++zEU s k).length:=yA _;have HZ:=zA (zrow_succ s k)
     by_cases hp:s%2=0
     ·have hp':((s:Int)%2 ==0)=true:=by simp;omega
      rw[if_pos hp] at HZ
      cases hq:inB ((s:Int)-(7-(k:Int))) 0 7 with
      | true =>
        have hin:=jS.1 hq;have HZ2:=zA (HZ.out.trans (by rw[if_pos hin]));clear HZ hin hp hlen
        go_wp2_with (first
         | (go_at_call 54;refine (zAR _ _ _ _).mono ?_;rintro e w' ⟨rfl,rfl⟩)
         | (at_builtin;go_must (refine jX elt_int rfl _ _ rfl w.heap.size _ _ _ rfl (hown2.alloc _) _ 1 [.int .i64 _] rfl (zMQ _ _ _) (zGX _) (by omega) (by omega) (by have:=hx2.size;simp;omega) ?_);intro v' w7 hown7 hb7))
        go_roundw
        case rel =>
         refine⟨k+1,by omega,by go_num, ?_,(hx2.alloc _).trans' hb7⟩;rw[HZ2.out, ←wG2];exact zQU hown7
        case measure=>simp[intOf];omega
      | false =>
        have hin:=zAI.1 hq;have HZ2:=zA (HZ.out.trans (by rw[if_neg (by omega)]));clear HZ hin hp hlen;go_wp2_with (go_at_call 54;refine (zAR _ _ _ _).mono ?_;rintro e w' ⟨rfl,rfl⟩)
        go_roundw
        case rel=>exact⟨k+1,by omega,by go_num,by rw[HZ2.out,wG6];exact hown2,hx2⟩
        case measure=>simp[intOf];omega
     ·have hp':((s:Int)%2 ==0)=false:=by simp;omega
      rw[if_neg hp] at HZ
      cases hq:inB ((s:Int)-(k:Int)) 0 7 with
      | true =>
        have hin:=jS.1 hq;have HZ2:=zA (HZ.out.trans (by rw[if_pos hin]));clear HZ hin hp hlen
        go_wp2_with (first
         | (go_at_call 54;refine (zAR _ _ _ _).mono ?_;rintro e w' ⟨rfl,rfl⟩)
         | (at_builtin;go_must (refine jX elt_int rfl _ _ rfl w.heap.size _ _ _ rfl (hown2.alloc _) _ 1 [.int .i64 _] rfl (zMQ _ _ _) (zGX _) (by omega) (by omega) (by have:=hx2.size;simp;omega) ?_);intro v' w7 hown7 hb7))
        go_roundw
        case rel =>
         refine⟨k+1,by omega,by go_num, ?_,(hx2.alloc _).trans' hb7⟩;rw[HZ2.out, ←wG2];exact zQU hown7
        case measure=>simp[intOf];omega
      | false =>
        have hin:=zAI.1 hq;have HZ2:=zA (HZ.out.trans (by rw[if_neg (by omega)]));clear HZ hin hp hlen;go_wp2_with (go_at_call 54;refine (zAR _ _ _ _).mono ?_;rintro e w' ⟨rfl,rfl⟩)
        go_roundw
        case rel=>exact⟨k+1,by omega,by go_num,by rw[HZ2.out,wG6];exact hown2,hx2⟩
        case measure=>simp[intOf];omega
    ·obtain rfl:k=8:=by omega
     have HS:=zA (zall_succ s);go_wp2_with fail;go_roundw
     case rel=>exact⟨s+1,by omega,by go_num,by rw[HS.out];exact hown2,hx2⟩
     case measure=>simp[intOf];omega
  ·obtain rfl:s=15:=by omega
   rw[zall_15] at hown;rw[zCQ] at hown;have HSL:=zA hown;clear hown;go_wp2_with fail;go_ret;exact⟨_,rfl,HSL.out,hx⟩
def zQS (w:World):Calls Tryz.prog 185 #[] w fun e w'=> ∃ A c,e=.returned (.slice A 64 c)∧SL w' 1 (.slice A 64 c) 64 (ints zigL)∧(∀ ad,A=some ad→w.heap.size≤ad.block)∧Ext w w' :=
 (zOa w).mono fun e w' ⟨v,he,hs,hx⟩=>by
   obtain⟨A,c,rfl,h1,h2⟩:=zAG hs;exact⟨A,c,he,h1,h2,hx⟩
def zKG (cs:Array Value) (i:Nat) (u:Value) (hi:i<64) (hu:cs[i]? =some u) (w:World):(Instr.index 32 (.agg cs) (.int .i64 (i:Int))).run Tryz.prog w=.ok u w :=
 zCH _ _ 64 cs i u Tryz.underlying32 _ Tryz.underlying3 zJa hi hu w
def zigN (k:Nat) (h:k<64): ∃ n:Nat,vK k=(n:Int)∧n<64:=by
 have:=zHW k h;exact⟨(vK k).toNat,by omega,by omega⟩
def zto_any (zs:List Int) (w:World) (hz:zs.length=64):Calls Tryz.prog 80 #[.agg (bv zs)] w fun e w'=>e=.returned (.agg (bv (zto zs)))∧Ext w w':=by
 have HO:=zA (fun W=>zOE W);have HIX:=zA (fun W (k n:Nat) (hk:k<64) (hn:vK k=(n:Int))=>zKG (bv zigL) k (.int .i64 (n:Int)) hk (by rw[←hn,qK zigL k (by rw[zCQ];exact hk),zKj]) W);have HZ:=zA hz;generalize bv zigL=co at *;generalize hc0:bv zs=cz at *;have HC0:=zA hc0;clear hz hc0;go_enter Tryz.func80,Tryz.ntmps80
 go_wp2_with (first
  | (refine wBox rfl 33 (.tmp 0) rfl cz rfl ?_;intro w1 gz hbz1 hx1 hgz)
  | (refine wAlo' rfl (some 2) rfl 33 rfl _ qU ?_;intro w2 go hbo2 hx2 hgo;have hbz2:=hbz1.ext hx2)
  | (go_at_call 139;refine (HO.out _).mono ?_;rintro e w3 ⟨rfl,hx3⟩;have hbz:=hbz2.ext hx3;have hbo:=hbo2.ext hx3))
 have hne:go≠gz:=by have:=hbz1.lt;omega
 have hgo':w.heap.size≤go:=by have:=hx1.size;omega
 have hxx:=(hx1.trans hx2).trans hx3;clear hbz1 hbz2 hbo2 hx1 hx2 hx3
 go_loopw [6] (fun i wr=> ∃ k:Nat,k≤64∧i=.int .i64 k∧Blk wr gz 33 cz∧Blk wr go 33 (bv ((zto zs).take k++List.replicate (64-k) 0))∧Ext w wr) (fun i _=>64-(intOf i).toNat)
 case atStart=>exact⟨0,by omega,rfl,hbz,by rw[show (zto zs).take 0++List.replicate (64-0) 0=yO from rfl];exact hbo,hxx⟩
 case round =>
  obtain⟨k,hk,rfl,hb1,hb2,hx⟩:=hrel
  by_cases hlt:k<64
  ·obtain⟨n,hn,hn64⟩:=zigN k hlt;have HN:=zA hn;have hzl:n<zs.length:=by have:=HZ.out;omega
   have HD:Hid (zs.getD n 0=zs[n]):=zA (by simp[hzl]);have hlz:wr.cell? ⟨gz,n,none⟩=some (.int .i64 zs[n]):=(hb1.cell n).trans (by rw[←HC0.out];exact qK zs n hzl)
   obtain⟨old,hold⟩: ∃ u,wr.cell? ⟨go,k,none⟩=some u:=by
    rw[hb2.cell k];have hl:((zto zs).take k++List.replicate (64-k) 0).length=64:=by simp[jK];omega
    exact⟨_,qK _ k (by omega)⟩
   have hfr:=hb2.frozen k;have hix:=fun W=>HIX.out W k n hlt HN.out
   clear hn;go_wp2_with fail;go_roundw
   case rel =>
    refine⟨k+1,by omega,by go_num,hb1.far (p:=⟨go,k,none⟩) (by simpa using hne.symm) _, ?_,hx.setCell hgo' _⟩;have:=hb2.set_ k (.int .i64 zs[n]);rw[jO] at this;have e:=zto_set zs k hlt;rw[HN.out,wF0,HD.out] at e;rw[←e];exact this
   case measure=>simp[intOf];omega
  ·obtain rfl:k=64:=by omega
   have e:(zto zs).take 64++List.replicate (64-64) 0=zto zs:=by rw[wC4 (by rw[jK];omega)];simp
   rw[e] at hb2;clear e;have hs:Hid ((bv (zto zs)).size=64):=zA (by rw[zK,jK]);have ho:=zA (xE (zto zs));generalize hcr:bv (zto zs)=cr at *;have HC:=zA hcr;clear hcr
   go_wp2_with (first
    | (refine wLdB rfl 33 (.tmp 2) rfl _ rfl hb2 _ Tryz.underlying33 rfl 64 zH hs.out ?_)
    | (refine wStB rfl 33 (.tmp 2) (.tmp 16) rfl _ _ rfl rfl hb2 64 zH hs.out hs.out ho.out ?_;intro w7 hb7 hg7))
   exact zAy rfl rfl _ rfl hb7 _ Tryz.underlying33 rfl 64 zH hs.out ⟨by rw[HC.out],hx.grown hg7 hgo'⟩
def rzto_any (zs:List Int) (w:World) (hz:zs.length=64):Calls Tryz.prog 158 #[.agg (bv zs)] w fun e w'=>e=.returned (.agg (bv (zto zs)))∧Ext w w':=by
 have HZ:=zA hz;generalize hc0:bv zs=cz at *;have HC0:=zA hc0;clear hz hc0;go_enter Tryz.func158,Tryz.ntmps158
 go_wp2_with (first
  | (refine wBox rfl 33 (.tmp 0) rfl cz rfl ?_;intro w1 gz hbz1 hx1 hgz)
  | (refine wAlo' rfl (some 2) rfl 33 rfl _ qU ?_;intro w2 gr hbr2 hx2 hgr;have hbz2:=hbz1.ext hx2)
  | (refine wAlo' rfl (some 3) rfl 33 rfl _ qU ?_;intro w3 go hbo3 hx3 hgo;have hbz3:=hbz2.ext hx3;have hbr3:=hbr2.ext hx3)
  | (go_at_call 185;refine (zQS _).mono ?_;rintro e w4 ⟨A,c,rfl,hsl,hfs,hx4⟩;have hbz:=hbz3.ext hx4;have hbo:=hbo3.ext hx4;have hbr:=hbr3.ext hx4))
 have hne:go≠gz:=by have:=hbz2.lt;omega
 have hne2:go≠gr:=by have:=hbr2.lt;omega
 have hgo':w.heap.size≤go:=by have:=hx1.size;have:=hx2.size;omega
 have hgr':w.heap.size≤gr:=by have:=hx1.size;omega
 have hxx:=((hx1.trans hx2).trans hx3).trans hx4;have hnsl:=zA (fun ad h=>(show (ad:Addr).block≠go by have:=hfs ad h;have:=hbo3.lt;omega));clear hbz1 hbz2 hbz3 hbo3 hbr2 hbr3 hx1 hx2 hx3 hx4 hfs
 go_loopw [8] (fun i wr=> ∃ k:Nat,k≤64∧i=.int .i64 k∧Blk wr gz 33 cz∧Blk wr go 33 (bv ((zto zs).take k++List.replicate (64-k) 0))∧Blk wr gr 33 (bv yO)∧SL wr 1 (.slice A 64 c) 64 (ints zigL)∧Ext w wr) (fun i _=>64-(intOf i).toNat)
 case atStart=>exact⟨0,by omega,rfl,hbz,by rw[show (zto zs).take 0++List.replicate (64-0) 0=yO from rfl];exact hbo,hbr,hsl,hxx⟩
 case round =>
  obtain⟨k,hk,rfl,hb1,hb2,hbr,hsl,hx⟩:=hrel
  by_cases hlt:k<64
  ·obtain⟨n,hn,hn64⟩:=zigN k hlt;have HN:=zA hn;have hzl:n<zs.length:=by have:=HZ.out;omega
   have HD:Hid (zs.getD n 0=zs[n]):=zA (by simp[hzl]);have hlz:wr.cell? ⟨gz,n,none⟩=some (.int .i64 zs[n]):=(hb1.cell n).trans (by rw[←HC0.out];exact qK zs n hzl)
   obtain⟨old,hold⟩: ∃ u,wr.cell? ⟨go,k,none⟩=some u:=by
    rw[hb2.cell k];have hl:((zto zs).take k++List.replicate (64-k) 0).length=64:=by simp[jK];omega
    exact⟨_,qK _ k (by omega)⟩
   have hfr:=hb2.frozen k;obtain⟨ad,u,rfl, -,hxo,hco⟩:=hsl.at1 hlt;obtain⟨hko,rfl⟩:=zBn _ _ _ hxo;have e0:zigL[k]=(n:Int):=by rw[zKj,HN.out]
   rw[e0] at hco;clear e0 hxo;clear hn;go_wp2_with fail;go_roundw
   case rel =>
    refine⟨k+1,by omega,by go_num,hb1.far (p:=⟨go,k,none⟩) (by simpa using hne.symm) _, ?_,hbr.far (p:=⟨go,k,none⟩) (by simpa using hne2.symm) _,hsl.far (by intro ad' h;exact hnsl.out ad' h) _,hx.setCell hgo' _⟩;have:=hb2.set_ k (.int .i64 zs[n]);rw[jO] at this;have e:=zto_set zs k hlt;rw[HN.out,wF0,HD.out] at e;rw[←e];exact this
   case measure=>simp[intOf];omega
  ·obtain rfl:k=64:=by omega
   have e:(zto zs).take 64++List.replicate (64-64) 0=zto zs:=by rw[wC4 (by rw[jK];omega)];simp
   rw[e] at hb2;clear e;have hs:Hid ((bv (zto zs)).size=64):=zA (by rw[zK,jK]);have ho:=zA (xE (zto zs));generalize hcr:bv (zto zs)=cr at *;have HC:=zA hcr;clear hcr
   go_wp2_with (first
    | (refine wLdB rfl 33 (.tmp 3) rfl _ rfl hb2 _ Tryz.underlying33 rfl 64 zH hs.out ?_)
    | (refine wStB rfl 33 (.tmp 2) (.tmp 19) rfl _ _ rfl rfl hbr 64 zH hs.out (by rw[zK];rfl) ho.out ?_;intro w7 hb7 hg7))
   exact zAy rfl rfl _ rfl hb7 _ Tryz.underlying33 rfl 64 zH hs.out ⟨by rw[HC.out],hx.grown hg7 hgr'⟩
def zJE (zs:List Int) (w:World) (hz:zs.length=64):Calls Tryz.prog 82 #[.agg (bv zs)] w fun e w'=>e=.returned (.agg (bv (qR zs 64)))∧Ext w w':=by
 have HO:=zA (fun W=>zOE W);have HIX:=zA (fun W (k n:Nat) (hk:k<64) (hn:vK k=(n:Int))=>zKG (bv zigL) k (.int .i64 (n:Int)) hk (by rw[←hn,qK zigL k (by rw[zCQ];exact hk),zKj]) W);have HZ:=zA hz;generalize bv zigL=co at *;generalize hc0:bv zs=cz at *;have HC0:=zA hc0;clear hz hc0;go_enter Tryz.func82,Tryz.ntmps82
 go_wp2_with (first
  | (refine wBox rfl 33 (.tmp 0) rfl cz rfl ?_;intro w1 gz hbz1 hx1 hgz)
  | (refine wAlo' rfl (some 2) rfl 33 rfl _ qU ?_;intro w2 go hbo2 hx2 hgo;have hbz2:=hbz1.ext hx2)
  | (go_at_call 139;refine (HO.out _).mono ?_;rintro e w3 ⟨rfl,hx3⟩;have hbz:=hbz2.ext hx3;have hbo:=hbo2.ext hx3))
 have hne:go≠gz:=by have:=hbz1.lt;omega
 have hgo':w.heap.size≤go:=by have:=hx1.size;omega
 have hxx:=(hx1.trans hx2).trans hx3;clear hbz1 hbz2 hbo2 hx1 hx2 hx3
 go_loopw [6] (fun i wr=> ∃ k:Nat,k≤64∧i=.int .i64 k∧Blk wr gz 33 cz∧Blk wr go 33 (bv (qR zs k))∧Ext w wr) (fun i _=>64-(intOf i).toNat)
 case atStart=>exact⟨0,by omega,rfl,hbz,hbo,hxx⟩
 case round =>
  obtain⟨k,hk,rfl,hb1,hb2,hx⟩:=hrel
  by_cases hlt:k<64
  ·obtain⟨n,hn,hn64⟩:=zigN k hlt;have HN:=zA hn;have hzl:k<zs.length:=by have:=HZ.out;omega
   have HD:Hid (zs.getD k 0=zs[k]):=zA (by simp[hzl]);have hlz:wr.cell? ⟨gz,k,none⟩=some (.int .i64 zs[k]):=(hb1.cell k).trans (by rw[←HC0.out];exact qK zs k hzl)
   obtain⟨old,hold⟩: ∃ u,wr.cell? ⟨go,n,none⟩=some u:=by
    rw[hb2.cell n];have hl:(qR zs k).length=64:=uL zs k;exact⟨_,qK _ n (by omega)⟩
   have hfr:=hb2.frozen n;have hix:=fun W=>HIX.out W k n hlt HN.out
   clear hn;go_wp2_with fail;go_roundw
   case rel =>
    refine⟨k+1,by omega,by go_num,hb1.far (p:=⟨go,n,none⟩) (by simpa using hne.symm) _, ?_,hx.setCell hgo' _⟩;have:=hb2.set_ n (.int .i64 zs[k]);rw[jO] at this;rw[zHT,HN.out,wF0,HD.out];exact this
   case measure=>simp[intOf];omega
  ·obtain rfl:k=64:=by omega
   have hs:Hid ((bv (qR zs 64)).size=64):=zA (by rw[zK,uL]);have ho:=zA (xE (qR zs 64));generalize hcr:bv (qR zs 64)=cr at *;have HC:=zA hcr;clear hcr
   go_wp2_with (first
    | (refine wLdB rfl 33 (.tmp 2) rfl _ rfl hb2 _ Tryz.underlying33 rfl 64 zH hs.out ?_)
    | (refine wStB rfl 33 (.tmp 2) (.tmp 16) rfl _ _ rfl rfl hb2 64 zH hs.out hs.out ho.out ?_;intro w7 hb7 hg7))
   exact zAy rfl rfl _ rfl hb7 _ Tryz.underlying33 rfl 64 zH hs.out ⟨by rw[HC.out],hx.grown hg7 hgo'⟩
def zHh (before:Int) (zs:List Int) (w:World) (hz:zs.length=64) (hb1: -2047≤before) (hb2:before≤2047) (h01: -2047≤(zto zs).getD 0 0) (h02:(zto zs).getD 0 0≤2047) :
 Calls Tryz.prog 191 #[.int .i64 before,.agg (bv zs)] w fun e w'=> ∃ A c,e=.returned (.slice A (yC before (zto zs)).length c)∧SL w' 3 (.slice A (yC before (zto zs)).length c) (yC before (zto zs)).length (qC (yC before (zto zs)))∧(∀ ad,A=some ad→w.heap.size≤ad.block)∧Ext w w':=by
 have HZT:=zA (fun W=>zto_any zs W hz);have hZl:=jK zs;have hsz:=zA ((zK zs).trans hz);have hst:=zA ((zK _).trans hZl);have hot:=zA (xE (zto zs));generalize hZ:zto zs=Z at *;clear hZ;have h0l:0<Z.length:=by omega
 have e0:Z.getD 0 0=Z[0]:=by simp[h0l]
 rw[e0] at h01 h02;have HAT:=zA (fun k (hk:k<Z.length)=>qK Z k hk);have HF:Hid (yC before Z=if 0<(vS (jH 0 (Z[0]-before)) (Z.drop 1) 63).2 then (vS (jH 0 (Z[0]-before)) (Z.drop 1) 63).1++[(0,0,0)] else (vS (jH 0 (Z[0]-before)) (Z.drop 1) 63).1):=zA (by unfold yC;rw[e0]);have HT0:Hid (∀ W,Calls Tryz.prog 209 #[.int .i64 0,.int .i64 (Z[0]-before)] W fun e w'=>e=.returned (.agg (xN (jH 0 (Z[0]-before))).toArray)∧Ext W w'):=zA (fun W=>by simpa using zNU 0 (Z[0]-before) W (by omega));simp only[zCW] at HT0;generalize hcz:bv Z=cz at *;generalize bv zs=c0 at *;clear hcz hz e0;generalize ht:jH 0 (Z[0]-before)=t0 at *;clear ht;have hll:(Z.drop 1).length=63:=by simp;omega
 have HLL:=zA hll;have HLK:Hid (∀ k (h:k<(Z.drop 1).length) (h2:k+1<Z.length),(Z.drop 1)[k]=Z[k+1]):=zA (fun k h h2=>by simp);generalize hl:Z.drop 1=l at *;clear hl hll;go_enter Tryz.func191,Tryz.ntmps191
 go_wp2_with (first
  | (refine wBox rfl 33 (.tmp 1) rfl c0 rfl ?_;intro w1 g hbb1 hx1 hg)
  | (refine wLdB rfl 33 (.tmp 3) rfl _ rfl hbb1 _ Tryz.underlying33 rfl 64 zH hsz.out ?_)
  | (go_at_call 80;(with_reducible refine (HZT.out _).mono ?_);rintro e w2 ⟨rfl,hx2⟩;have hbb2:=hbb1.ext hx2)
  | (refine wStB rfl 33 (.tmp 3) (.tmp 10) rfl _ _ rfl rfl hbb2 64 zH hst.out hsz.out hot.out ?_;intro w3 hbb3 hg3;have hc0:w3.cell? ⟨g,0,none⟩=some (.int .i64 Z[0]):=(hbb3.cell 0).trans (HAT.out 0 h0l))
  | (go_at_call 209;(with_reducible refine (HT0.out _).mono ?_);rintro e w4 ⟨rfl,hx4⟩))
 have hown0:=zLU (w:=w4) (base:=w3.heap.size) 149 (.int .i64 t0.1) (.int .i64 t0.2.1) (.int .i64 t0.2.2) hx4.size;have hx5:=hx4.alloc (.cells #[.int .i64 t0.1,.int .i64 t0.2.1,.int .i64 t0.2.2] 149);have hbb5:=hbb3.ext hx5;have hglt:=hbb3.lt;have hxw:Ext w w3:=(hx1.trans hx2).grown hg3 hg;have HB0:Hid (w.heap.size≤w3.heap.size):=zA hxw.size;clear hbb1 hbb2 hx1 hx2 hg3 hc0 hx4 HZT HT0;generalize hw5:w4.alloc (.cells #[.int .i64 t0.1,.int .i64 t0.2.1,.int .i64 t0.2.2] 149)=w5 at *;clear hw5
 go_loopw [5,6,19] (fun v r i wr=> ∃ k:Nat,k≤63∧i=.int .i64 k∧r=.int .i64 ((vS t0 l k).2:Nat)∧wr.ownsRow w3.heap.size 149 3 v (vS t0 l k).1.length (qC (vS t0 l k).1)∧Blk wr g 33 cz∧Ext w3 wr) (fun _ _ i _=>63-(intOf i).toNat)
 case atStart=>exact⟨0,by omega,rfl,rfl,hown0,hbb5,hx5⟩
 case round =>
  clear hown0 hbb5 hx5;obtain⟨k,hk,rfl,rfl,hown,hbb,hx⟩:=hrel;obtain⟨b1,b2⟩:=zMi t0 l k (by have:=HLL.out;omega) (by omega)
  by_cases hlt:k<63
  ·have hkl:k<l.length:=by have:=HLL.out;omega
   have hkZ:k+1<Z.length:=by omega
   have HS:=zA (zFd t0 l k hkl)
   have hcell:wr.cell? ⟨g,1+k,none⟩=some (.int .i64 l[k]):=by
    rw[wB0 1 k];exact (hbb.cell (k+1)).trans (by rw[HAT.out (k+1) hkZ,HLK.out k hkl hkZ])
   generalize vS t0 l k=s at *;obtain⟨acc,rn⟩:=s;simp only at b1 b2 hown ⊢
   by_cases hz0:l[k]=0
   ·rw[zEd hz0] at HS;generalize hnk:vS t0 l (k+1)=s1 at *;have HS1:=HS.out;have hz0':(l[k] ==0)=true:=by simpa using hz0
    clear hz0 HS;go_wp2_with fail;go_roundw
    case rel =>
     refine⟨k+1,by omega,by go_num,by rw[hnk,HS1];simp,by rw[hnk,HS1];exact hown,hbb,hx⟩
    case measure=>simp[intOf];omega
   ·rw[zGA hz0] at HS;have hz0':(l[k] ==0)=false:=by simpa using hz0
    have HTK:=zA (fun W=>zNU (rn%16) l[k] W (by omega));simp only[zCW] at HTK;generalize jH ((rn%16:Nat):Int) l[k]=tk at *;generalize hnk:vS t0 l (k+1)=s1 at *;have HS1:=zA HS.out;have HNK:=zA hnk;clear hz0 HS hnk;go_wp2_with fail
    go_loopw [5,6] (fun v r wr2=> ∃ j:Nat,j≤rn/16∧r=.int .i64 ((rn:Int)-16*j)∧wr2.ownsRow w3.heap.size 149 3 v (acc++List.replicate j long).length (qC (acc++List.replicate j long))∧Blk wr2 g 33 cz∧Ext w3 wr2) (fun _ r _=>(intOf r).toNat)
    case atStart=>exact⟨0,by omega,by simp,by simpa using hown,hbb,hx⟩
    case round =>
     clear hown hbb hx;obtain⟨j,hj,rfl,hown,hbb,hx⟩:=hrel;have hlen:(acc++List.replicate j long).length=acc.length+j:=by simp
     by_cases hj2:j<rn/16
     ·have hgt:(15:Int)<(rn:Int)-16*j:=by omega
      go_wp2_with (at_builtin;go_must (refine jX zDi rfl _ _ rfl w3.heap.size _ _ _ rfl (hown.alloc _) _ 1 [.int .i64 _,.int .i64 _,.int .i64 _] rfl (zFF _ _ _ _ _) (zDg _ _ _) (by omega) (by omega) (by have:=hx.size;simp;omega) ?_);intro v' w7 hown7 hb7)
      go_roundw
      case rel =>
       refine⟨j+1,by omega,by congr 1;omega, ?_,(hbb.alloc _).below hb7 hglt,(hx.alloc _).trans' hb7⟩;rw[List.replicate_succ', ←wG2];exact zEx hown7
      case measure=>simp[intOf];omega
     ·obtain rfl:j=rn/16:=by omega
      have e:(rn:Int)-16*((rn/16:Nat):Int)=((rn%16:Nat):Int):=by omega
      rw[e];clear e hj hj2;have hq:rn%16≤15:=by omega
      generalize rn%16=q at *
      go_wp2_with (first
       | (go_at_call 209;(with_reducible refine (HTK.out _).mono ?_);rintro e w6 ⟨rfl,hx6⟩)
       | (at_builtin;go_must (refine jX zDi rfl _ _ rfl w3.heap.size _ _ _ rfl ((own_ext hown hx6).alloc _) _ 1 [.int .i64 _,.int .i64 _,.int .i64 _] rfl (zFF _ _ _ _ _) (zDg _ _ _) (by omega) (by omega) (by have:=hx.size;have:=hx6.size;simp;omega) ?_);intro v' w7 hown7 hb7))
      go_roundw
      case rel =>
       refine⟨k+1,by omega,by go_num,by rw[HNK.out,HS1.out];rfl, ?_,((hbb.ext hx6).alloc _).below hb7 hglt,((hx.trans hx6).alloc _).trans' hb7⟩;rw[HNK.out,HS1.out];exact zEx hown7
      case measure=>simp[intOf];omega
  ·have ek:k=63:=by omega
   subst ek;generalize vS t0 l 63=s at *;obtain⟨acc,rn⟩:=s;simp only at b1 b2 hown HF
   by_cases hr:0<rn
   ·rw[if_pos hr] at HF;go_wp2_with (at_builtin;go_must (refine jX zDi rfl _ _ rfl w3.heap.size _ _ _ rfl (hown.alloc _) _ 1 [.int .i64 _,.int .i64 _,.int .i64 _] rfl (zFF _ _ _ _ _) (zDg _ _ _) (by omega) (by omega) (by have:=hx.size;simp;omega) ?_);intro v' w7 hown7 hb7)
    go_ret;rw[HF.out];obtain⟨A,c,rfl,hsl,hfs⟩:=zAG (zEx hown7);exact⟨A,c,rfl,hsl,fun ad h=>wD1 HB0.out (hfs ad h),hxw.trans ((hx.alloc _).trans' hb7)⟩
   ·rw[if_neg hr] at HF;go_wp2_with fail;go_ret;rw[HF.out];obtain⟨A,c,rfl,hsl,hfs⟩:=zAG hown;exact⟨A,c,rfl,hsl,fun ad h=>wD1 HB0.out (hfs ad h),hxw.trans hx⟩
def zJl {fn:Func} {p u v:Tmp} {ty:TypeId} (h:fn.results= #[.cell p ty,.tmp u,.tmp v]) (tmps:Array Value) (P:Program) (w:World) :
 (results fn tmps).run P w =
   ((asAddr (tmps.getD p undef)).run P w).andThen fun a w₁=>((loadVar ty a).run P w₁).andThen fun x w₂=>.ok (.tuple #[x,tmps.getD u undef,tmps.getD v undef]) w₂:=by
 simp only[results,h];simp[Sem.run_bind,Result.andThen]
def vB {P:Program} {a:Act} {w:World} {fn:Func} {R:Ending→World→Prop} {p u v:Tmp} {ty:TypeId} (h:fn.results= #[.cell p ty,.tmp u,.tmp v]) (hdf:a.defers=[]) (g:Nat) {t:TypeId} {cs:Array Value}
 (hp:a.tmps.getD p undef=.pointer (some ⟨g,0,none⟩)) (hB:Blk w g t cs) (d:TypeDesc) (hu:P.underlying ty=some d) (hd:(match d with | .struct _ | .array _ _=>true | _=>false)=true)
 (n:Nat) (hs:(P.info? ty).map (·.size)=some n) (hn:cs.size=n) (hR:R (.returned (.tuple #[.agg cs,a.tmps.getD u undef,a.tmps.getD v undef])) w):bodyPost P fn R .ret a w:=by
 refine bodyPost_ret ?_ hdf hR;rw[zJl h];have e:=run_loadVar_row (P:=P) w g t ty cs (0,0) d hB hu hd (by rw[hn];exact hs);simp[hp,asAddr,e,Result.andThen]
def I64 (x:Int):Prop:= -9223372036854775808≤x∧x≤9223372036854775807
section
variable {σ:Type}
structure Src (f:FuncId) (pre post:Array Value) (B:Nat) (S:Nat→Prop) (Inv:World→σ→Prop) (next:Bool→σ→Tok×Int×σ):Prop where
 low: ∀ b,S b→b<B
 ask: ∀ first s W,Inv W s→B≤W.heap.size→Calls Tryz.prog f (pre++ #[.bool first]++post) W fun e w'=>e=.returned (.tuple #[.agg (xN (next first s).1).toArray,.int .i64 (next first s).2.1])∧Inv w' (next first s).2.2∧Upd S W w'
 keep: ∀ s W W',Inv W s→Upd (fun b=>B≤b) W W'→Inv W' s
 wf: ∀ first s W,Inv W s→(next first s).2.1=0→I64 (next first s).1.1∧I64 (next first s).1.2.1∧I64 (next first s).1.2.2
def uI {S S':Nat→Prop} {w w':World} (h:Upd S w w') (hs: ∀ b,S b→S' b):Upd S' w w':=⟨h.os,h.tape,h.output,h.size,fun b hb hn=>h.block b hb (fun k=>hn (hs b k))⟩
def yB {S:Nat→Prop} {w w':World} (h:Ext w w'):Upd S w w':=Upd.of_ext h
structure From (B:Nat) (S:Nat→Prop) (Inv:World→σ→Prop) (w0 w:World) (gb gr:Nat) (T24:TypeId) (z:List Int) (A:Option Addr) (c:Nat) (L:List Tok) (s:σ):Prop where
 b:Blk w gb T24 (bv z)
 r:Blk w gr T24 (bv (List.replicate 64 0))
 hb:B≤gb
 hr:B≤gr
 ne:gb≠gr
 row:w.ownsRow B 149 3 (.slice A L.length c) L.length (qC L)
 inv:Inv w s
 upd:Upd (fun x=>S x∨B≤x) w0 w
 size:B≤w.heap.size
variable {f:FuncId} {pre post:Array Value} {B:Nat} {S:Nat→Prop} {Inv:World→σ→Prop} {next:Bool→σ→Tok×Int×σ} {w0 w w':World} {gb gr:Nat} {z:List Int} {A:Option Addr} {c:Nat} {L:List Tok} {s s':σ} {T24:TypeId}
def zNz {e:TypeId} {size n:Nat} {xs:List Value} {v:Value} (h:w.ownsRow B e size v n xs): ∀ x,v.ownBlock=some x→B≤x:=fun x hx=>(h.lt x hx).1
def From.ext (h:From B S Inv w0 w gb gr T24 z A c L s) (C:Src f pre post B S Inv next) (hx:Ext w w'):From B S Inv w0 w' gb gr T24 z A c L s :=
 ⟨h.b.ext hx,h.r.ext hx,h.hb,h.hr,h.ne,yR h.row hx,C.keep _ _ _ h.inv (yB hx),h.upd.trans (yB (S:=fun _=>False) hx) (fun x k=>k.elim),wD1 h.size hx.size⟩
def From.asked (h:From B S Inv w0 w gb gr T24 z A c L s) (C:Src f pre post B S Inv next) (hu:Upd S w w') (hi:Inv w' s'):From B S Inv w0 w' gb gr T24 z A c L s' :=
 ⟨hu.blk h.b (fun k=>by have:=C.low _ k;have:=h.hb;omega),hu.blk h.r (fun k=>by have:=C.low _ k;have:=h.hr;omega),h.hb,h.hr,h.ne,
  vM h.row hu (fun x hx k=>by have:=zNz h.row x hx;have:=C.low _ k;omega),hi,h.upd.trans hu (fun x k=>.inl (.inl k)),wD1 h.size hu.size⟩
def From.wrote (h:From B S Inv w0 w gb gr T24 z A c L s) (C:Src f pre post B S Inv next) {g:Nat} (hg:w.grownBy w' (some g)) (hB:B≤g) (h1:gb≠g) (h2:gr≠g) (h3: ∀ x,(Value.slice A L.length c).ownBlock=some x→x≠g):From B S Inv w0 w' gb gr T24 z A c L s:=by
 have hu:=zO hg
 exact⟨hu.blk h.b (fun k=>h1 (Option.some.inj k).symm),hu.blk h.r (fun k=>h2 (Option.some.inj k).symm),h.hb,h.hr,h.ne,vM h.row hu (fun x hx k=>h3 x hx (Option.some.inj k).symm),
  C.keep _ _ _ h.inv (uI hu (fun b k=>by have:=Option.some.inj k;omega)),h.upd.trans hu (fun x k=>.inl (.inr (by have:=Option.some.inj k;omega))),wD1 h.size hu.size⟩
def From.apart (h:From B S Inv w0 w gb gr T24 z A c L s) (hT:T24≠149): ∀ x,(Value.slice A L.length c).ownBlock=some x→gb≠x∧gr≠x:=by
 intro x hx;obtain⟨-,hh⟩:=h.row;rcases hh with ⟨e, -⟩ | ⟨g,cap,cur,e, -,hg, -⟩
 ·rw[e] at hx;cases hx
 ·rw[e] at hx;have hx:g=x:=Option.some.inj hx;subst hx;exact⟨Blk.ne_ h.b (w:=w) (g':=g) (t':=149) (cs':=cur) hg hT,Blk.ne_ h.r (w:=w) (g':=g) (t':=149) (cs':=cur) hg hT⟩
def From.app (h:From B S Inv w0 w gb gr T24 z A c L s) (C:Src f pre post B S Inv next) (hT:T24≠149) {A':Option Addr} {c':Nat} {t:Tok}
 (ho:w'.ownsRow B 149 3 (.slice A' (L.length+1) c') (L.length+1) (qC L++xN t)) (hg:w.grownBy w' (Value.slice A L.length c).ownBlock):From B S Inv w0 w' gb gr T24 z A' c' (L++[t]) s:=by
 have hu:=zO hg;have ha:=h.apart hT;have hlo:=zNz h.row;refine⟨hu.blk h.b (fun k=>(ha _ k).1 rfl),hu.blk h.r (fun k=>(ha _ k).2 rfl),h.hb,h.hr,h.ne, ?_,C.keep _ _ _ h.inv (uI hu (fun b k=>hlo _ k)),h.upd.trans hu (fun x k=>.inl (.inr (hlo _ k))),wD1 h.size hu.size⟩;have e1:(L++[t]).length=L.length+1:=by simp
 have e2:qC (L++[t])=qC L++xN t:=by simp[qC]
 rw[e1,e2];exact ho
def From.set (h:From B S Inv w0 w gb gr T24 z A c L s) (C:Src f pre post B S Inv next) (hT:T24≠149) (k:Nat) (x:Int):From B S Inv w0 (w.setCell ⟨gb,k,none⟩ (.int .i64 x)) gb gr T24 (z.set k x) A c L s:=by
 have hu:Upd (fun b=>b=gb) w (w.setCell ⟨gb,k,none⟩ (.int .i64 x)):=Upd.setCell (S:=fun b=>b=gb) (Upd.refl _ w) (p:=⟨gb,k,none⟩) rfl _;refine⟨?_,hu.blk h.r (fun k=>h.ne k.symm),h.hb,h.hr,h.ne,vM h.row hu (fun y hy k=>(h.apart hT y hy).1 k.symm),C.keep _ _ _ h.inv (uI hu (fun b k=>by rw[k];exact h.hb)),h.upd.trans hu (fun x k=>.inl (.inr (by rw[k];exact h.hb))),wD1 h.size hu.size⟩;have:=h.b.set_ k (.int .i64 x)
 rwa [jO] at this
def From.fresh (h:From B S Inv w0 w gb gr T24 z A c L s) {g:Nat} (hg:w.heap.size≤g):B≤g∧gb≠g∧gr≠g∧ ∀ x,(Value.slice A L.length c).ownBlock=some x→x≠g :=
 ⟨wD1 h.size hg,by have:=h.b.lt;omega,by have:=h.r.lt;omega,fun x hx=>by have:=(h.row.lt x hx).2;omega⟩
def From.made (h:From B S Inv w0 w gb gr T24 z A c L s) (C:Src f pre post B S Inv next) {g:Nat} {w3:World} (hx:Ext w w3) (hg:w.heap.size≤g) (hw:w3.grownBy w' (some g)):From B S Inv w0 w' gb gr T24 z A c L s:=by
 obtain⟨h1,h2,h3,h4⟩:=h.fresh hg;exact (h.ext C hx).wrote C hw h1 h2 h3 h4
def From.putb (h:From B S Inv w0 w gb gr T24 z A c L s) (C:Src f pre post B S Inv next) (hT:T24≠149) {z':List Int} (hg:w.grownBy w' (some gb)) (hb:Blk w' gb T24 (bv z')):From B S Inv w0 w' gb gr T24 z' A c L s:=by
 have hu:=zO hg
 exact⟨hb,hu.blk h.r (fun k=>h.ne (Option.some.inj k)),h.hb,h.hr,h.ne,vM h.row hu (fun x hx k=>(h.apart hT x hx).1 (Option.some.inj k)),
  C.keep _ _ _ h.inv (uI hu (fun b k=>by have:=Option.some.inj k;have:=h.hb;omega)),h.upd.trans hu (fun x k=>.inl (.inr (by have:=Option.some.inj k;have:=h.hb;omega))),wD1 h.size hu.size⟩
def From.fin (h:From B S Inv w0 w gb gr T24 z A c L s) (C:Src f pre post B S Inv next) (hT:T24≠149) (hg:w.grownBy w' (some gr)) (hB:B=w0.heap.size):Inv w' s∧Upd S w0 w'∧SL w' 3 (.slice A L.length c) L.length (qC L):=by
 have hu:=zO hg;have hq:=h.upd.trans hu (S':=fun b=>some gr=some b) (fun x k=>.inl (.inr (by have:=Option.some.inj k;have:=h.hr;omega)));refine⟨C.keep _ _ _ h.inv (uI hu (fun b k=>by have:=Option.some.inj k;have:=h.hr;omega)), ?_,zGL (vM h.row hu (fun x hx k=>(h.apart hT x hx).2 (Option.some.inj k)))⟩;exact⟨hq.os,hq.tape,hq.output,hq.size,fun b hb hn=>hq.block b hb (fun k=>k.elim hn (fun k=>by omega))⟩
end
end Go.Proofs.YtkggcjdlpendfaaGreatDoor
