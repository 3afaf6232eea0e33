/- Contracts of the functions that the law reaches, part 9. -/
import Derived.Test.YtkggcjdlpendfaaGreatDoorMTopCoarseCard8
namespace Go.Proofs.YtkggcjdlpendfaaGreatDoor
set_option linter.unusedVariables false
set_option linter.unusedSimpArgs false
set_option maxRecDepth 20000
set_option maxHeartbeats 8000000
open Go.RowKit
theorem zigAt_inj: ∀ i j:Fin 64,jM i.val=jM j.val→i=j:=by decide+kernel
theorem zHW (z:List Int): ∀ (k i:Nat),k≤64→i<k→(xZ z k).getD (jM i).toNat 0=z.getD i 0:=by
 intro k
 induction k with
 | zero=>intro i _ h;omega
 | succ k ih =>
   intro i hk hi
   rw[zFj]
   have bi:=zFi i (by omega)
   have bk:=zFi k (by omega)
   have hl:=vR z k
   by_cases e:i=k
   ·subst e
    simp[wF2,wJ9,hl,show (jM i).toNat<64 by omega]
   ·have hne:(jM k).toNat≠(jM i).toNat:=by
     intro h
     have:jM k=jM i:=by omega
     have:=zigAt_inj ⟨k,by omega⟩ ⟨i,by omega⟩ this
     exact e (by simpa using (congrArg Fin.val this).symm)
    have:=ih i (by omega) (by omega)
    simpa [wF2,wJ9,hne] using this
theorem zLG (z:List Int) (hz:z.length=64):zto (xZ z 64)=z:=by
 refine wH6 (by rw[uD,hz]) fun i h1 h2=> ?_
 have:=zHW z 64 i (by omega) (by rw[uD] at h1;exact h1)
 simp only[zto,wH8,wH9]
 rw[this]
 simp[wF2,h2]
def zAw (t:Tok):Bool:=decide ((yO t.2.1 t.2.2).2=0∧t.2.1=t.1%16∧t.2.1≤11∧0≤t.1∧t.1≤255∧(t.2.1=0→t.1=0∨t.1=240))
def zAk (before:Int) (t:Tok):Bool:=decide ((yO t.2.1 t.2.2).2=0∧t.1=t.2.1∧ -2047≤before+(yO t.2.1 t.2.2).1∧before+(yO t.2.1 t.2.2).1≤2047)
theorem zIx (n v:Int): -4095≤(yO n v).1∧(yO n v).1≤4095∧((yO n v).2=0∨(yO n v).2=1):=by
 unfold yO
 split
 ·next h =>
  obtain⟨h1,h2,h3,h4⟩:=h
  have p1:=zFN n.toNat 12 (by omega)
  rw[show (2:Int) ^ 12=4096 from by decide] at p1
  have p2:=zBQ n.toNat
  refine⟨?_, ?_,.inl rfl⟩
  ·show -4095≤zAr _ _
   unfold zAr;split<;>omega
  ·show zAr _ _≤4095
   unfold zAr;split<;>omega
 ·simp
theorem backR_11 {n v:Int} (h:(yO n v).2=0) (h11:n≤11): -2047≤(yO n v).1∧(yO n v).1≤2047∧0≤n∧(n=0→(yO n v).1=0):=by
 unfold yO at h ⊢
 split at h
 ·next hh =>
  rw[if_pos hh]
  obtain⟨h1,h2,h3,h4⟩:=hh
  have p1:=zFN n.toNat 11 (by omega)
  rw[show (2:Int) ^ 11=2048 from by decide] at p1
  have p2:=zBQ n.toNat
  refine⟨?_, ?_,h1, ?_⟩
  ·show -2047≤zAr _ _
   unfold zAr;split<;>omega
  ·show zAr _ _≤2047
   unfold zAr;split<;>omega
  ·intro e
   subst e
   simp at h4
   unfold zAr
   simp
   omega
 ·simp at h
theorem zHg {t:Tok}:zAw t=true↔(yO t.2.1 t.2.2).2=0∧t.2.1=t.1%16∧t.2.1≤11∧0≤t.1∧t.1≤255∧(t.2.1=0→t.1=0∨t.1=240):=decide_eq_true_iff
theorem tokOk_def (t:Tok):zAw t=decide ((yO t.2.1 t.2.2).2=0∧t.2.1=t.1%16∧t.2.1≤11∧0≤t.1∧t.1≤255∧(t.2.1=0→t.1=0∨t.1=240)):=rfl
theorem zJm {before:Int} {t:Tok}:zAk before t=true↔(yO t.2.1 t.2.2).2=0∧t.1=t.2.1∧ -2047≤before+(yO t.2.1 t.2.2).1∧before+(yO t.2.1 t.2.2).1≤2047:=by simp[zAk]
section
variable {σ:Type}
def goB (next:σ→Tok×Int×σ) (i:Nat) (z:List Int) (all:List Tok) (s:σ):Int×List Int×List Tok×σ :=
 if h:i<64 then
  if (next s).2.1≠0 then ((next s).2.1,z,all,(next s).2.2)
  else if zAw (next s).1=false then (4,z,all,(next s).2.2)
  else if (next s).1.1=0 then (0,z,all++[(next s).1],(next s).2.2)
  else if 64<i+((next s).1.1/16).toNat+1 then (4,z,all,(next s).2.2)
  else goB next (i+((next s).1.1/16).toNat+1) (z.set (i+((next s).1.1/16).toNat) (yO (next s).1.2.1 (next s).1.2.2).1) (all++[(next s).1]) (next s).2.2
 else (0,z,all,s)
termination_by 64-i
variable {next:σ→Tok×Int×σ} {i:Nat} {z:List Int} {all:List Tok} {s s':σ} {t:Tok} {e:Int}
theorem goB_err (hi:i<64) (h:next s=(t,e,s')) (he:e≠0):goB next i z all s=(e,z,all,s'):=by
 unfold goB;rw[dif_pos hi,h,if_pos he]
theorem goB_bad (hi:i<64) (h:next s=(t,0,s')) (ht:zAw t=false):goB next i z all s=(4,z,all,s'):=by
 unfold goB;rw[dif_pos hi,h,if_neg (by simp),if_pos ht]
theorem zKw (hi:i<64) (h:next s=(t,0,s')) (ht:zAw t=true) (h0:t.1=0):goB next i z all s=(0,z,all++[t],s'):=by
 unfold goB;rw[dif_pos hi,h,if_neg (by simp),if_neg (by simp[ht]),if_pos h0]
theorem zKa (hi:i<64) (h:next s=(t,0,s')) (ht:zAw t=true) (h0:t.1≠0) (hf:64<i+(t.1/16).toNat+1):goB next i z all s=(4,z,all,s'):=by
 unfold goB;rw[dif_pos hi,h,if_neg (by simp),if_neg (by simp[ht]),if_neg h0,if_pos hf]
theorem zEG (hi:i<64) (h:next s=(t,0,s')) (ht:zAw t=true) (h0:t.1≠0) (hf: ¬64<i+(t.1/16).toNat+1) :
 goB next i z all s=goB next (i+(t.1/16).toNat+1) (z.set (i+(t.1/16).toNat) (yO t.2.1 t.2.2).1) (all++[t]) s':=by
 rw[goB,dif_pos hi,h,if_neg (by simp),if_neg (by simp[ht]),if_neg h0,if_neg hf]
theorem zJE (hi: ¬i<64):goB next i z all s=(0,z,all,s):=by
 unfold goB;rw[dif_neg hi]
def qW (next:Bool→σ→Tok×Int×σ) (before:Int) (s:σ):Int×List Int×List Tok×σ :=
 if (next true s).2.1≠0 then ((next true s).2.1,List.replicate 64 0,[],(next true s).2.2)
 else if zAk before (next true s).1=false then (4,List.replicate 64 0,[],(next true s).2.2)
 else
  let g:=goB (next false) 1 ((List.replicate 64 0).set 0 (before+(yO (next true s).1.2.1 (next true s).1.2.2).1)) [(next true s).1] (next true s).2.2
  if g.1≠0 then (g.1,List.replicate 64 0,[],g.2.2.2)
  else if yE before g.2.1=g.2.2.1 then (0,xZ g.2.1 64,g.2.2.1,g.2.2.2)
  else (4,List.replicate 64 0,[],g.2.2.2)
variable {nextB:Bool→σ→Tok×Int×σ} {before:Int}
theorem zOm (h:nextB true s=(t,e,s')) (he:e≠0):qW nextB before s=(e,List.replicate 64 0,[],s'):=by
 unfold qW;rw[h,if_pos he]
theorem zNn (h:nextB true s=(t,0,s')) (ht:zAk before t=false):qW nextB before s=(4,List.replicate 64 0,[],s'):=by
 unfold qW;rw[h,if_neg (by simp),if_pos ht]
theorem blkZ_go (h:nextB true s=(t,0,s')) (ht:zAk before t=true) {g:Int×List Int×List Tok×σ} (hg:goB (nextB false) 1 ((List.replicate 64 0).set 0 (before+(yO t.2.1 t.2.2).1)) [t] s'=g) :
 qW nextB before s=if g.1≠0 then (g.1,List.replicate 64 0,[],g.2.2.2) else if yE before g.2.1=g.2.2.1 then (0,xZ g.2.1 64,g.2.2.1,g.2.2.2) else (4,List.replicate 64 0,[],g.2.2.2):=by
 unfold qW
 rw[h,if_neg (by simp),if_neg (by simp[ht])]
 simp only
 rw[hg]
def finZ (before:Int) (g:Int×List Int×List Tok×σ):Int×List Int×List Tok×σ :=
 if g.1≠0 then (g.1,List.replicate 64 0,[],g.2.2.2) else if yE before g.2.1=g.2.2.1 then (0,xZ g.2.1 64,g.2.2.1,g.2.2.2) else (4,List.replicate 64 0,[],g.2.2.2)
theorem zNM (h:nextB true s=(t,0,s')) (ht:zAk before t=true):qW nextB before s=finZ before (goB (nextB false) 1 ((List.replicate 64 0).set 0 (before+(yO t.2.1 t.2.2).1)) [t] s'):=blkZ_go h ht rfl
theorem finZ_err {x:Int} (hx:x≠0):finZ before (x,z,all,s)=(x,List.replicate 64 0,[],s):=if_pos hx
theorem zLv (h:yE before z=all):finZ before ((0:Int),z,all,s)=(0,xZ z 64,all,s):=by
 unfold finZ
 dsimp only
 rw[if_neg (show ¬((0:Int)≠0) by simp),if_pos h]
theorem finZ_ne (h:yE before z≠all):finZ before ((0:Int),z,all,s)=(4,List.replicate 64 0,[],s):=by
 unfold finZ
 dsimp only
 rw[if_neg (show ¬((0:Int)≠0) by simp),if_neg h]
structure Half (z:List Int) (i:Nat):Prop where
 len:z.length=64
 lo: ∀ x∈z, -2047≤x∧x≤2047
 zero: ∀ j,i≤j→j<64→z[j]? =some 0
theorem Half.set {z:List Int} {i k:Nat} (h:Half z i) (hk:i≤k) (hk2:k<64) {x:Int} (h1: -2047≤x) (h2:x≤2047):Half (z.set k x) (k+1) :=
 ⟨by simp[h.len],fun y hy=>by
  rcases wK0 hy with h3 | h3
  ·exact h.lo y h3
  ·rw[h3];exact⟨h1,h2⟩,fun j hj hj2=>by
  rw[wK1 (by omega)];exact h.zero j (by omega) hj2⟩
theorem Half.same {z:List Int} {i k:Nat} (h:Half z i) (hk:i≤k) (hk2:k<64):z.set k 0=z:=by
 have:=h.zero k hk hk2
 obtain⟨h1,h2⟩:=wC2.1 this
 exact wH6 (by simp) fun j a b=>by
  by_cases e:j=k
  ·subst e;simp[h2]
  ·simp[wH7,show ¬k=j by omega]
theorem Half.init (x:Int) (h1: -2047≤x) (h2:x≤2047):Half ((List.replicate 64 0).set 0 x) 1 :=
 ⟨by simp,fun y hy=>by
  rcases wK0 hy with h3 | h3
  ·simp at h3;omega
  ·omega,fun j hj hj2=>by
  rw[wK1 (by omega),wK2,if_pos hj2]⟩
end
section
variable {P:Program} (w:World)
theorem zBr (e:TypeId) (he:P.underlying e=some (.int .i64)) (zs:List Int) (i:Nat) (hi:i<zs.length):(part e (bv zs) i).run P w=.ok (.int .i64 zs[i]) w:=by
 have hagg:(isAgg e).run P w=.ok false w:=by
  unfold isAgg
  rw[Sem.run_bind,run_underlying he w]
  rfl
 simp[part,hagg,qG zs i hi]
theorem zJK (d:Nat) (t e:TypeId) (n:Nat) (ht:P.underlying t=some (.array n e)) (he:P.underlying e=some (.int .i64)) (hs:(P.info? e).map (·.size)=some 1) (xs ys:List Int) (hx:xs.length=n) (hy:ys.length=n) :
 (Op.equalIn (d+2) t (.agg (bv xs)) (.agg (bv ys))).run P w=.ok (decide (xs=ys)) w:=by
 cases hq:P.info? e with
 | none=>simp[hq] at hs
 | some inf =>
   have hz:inf.size=1:=by simpa [hq] using hs
   have hso:(sizeOf e).run P w=.ok 1 w:=by simp[sizeOf,typeInfo,hq,hz]
   unfold Op.equalIn
   simp only[Sem.run_bind,run_underlying ht,Result.andThen_ok,hso,wE9]
   rw[Std.Legacy.Range.forIn_eq_forIn_range']
   simp only[Std.Legacy.Range.size,Nat.sub_zero,wI6,Nat.div_one]
   have key: ∀ (m s:Nat),s+m=n →
    (forIn (m:=Sem) (List.range' s m) ((none,()):Option Bool×Unit) fun i __s=>do
      let __do_lift←part e (bv xs) i
      let __do_lift_1←part e (bv ys) i
      let __do_lift←Op.equalIn (d+1) e __do_lift __do_lift_1
      if (!__do_lift)=true then pure (ForInStep.done (some false,())) else pure (ForInStep.yield (none,()))).run P w
      =.ok (if xs.drop s=ys.drop s then (none,()) else (some false,())) w:=by
    intro m
    induction m with
    | zero =>
      intro s hsn
      rw[wG2 (by omega),wG2 (by omega)]
      simp
    | succ m ih =>
      intro s hsn
      have h1:s<xs.length:=by omega
      have h2:s<ys.length:=by omega
      rw[wJ7,List.forIn_cons]
      simp only[Sem.run_bind,zBr w e he xs s h1,zBr w e he ys s h2,Result.andThen_ok,run_equalIn_int w d e .i64 .i64 _ _ he]
      have hd:(xs.drop s=ys.drop s)=(xs[s]=ys[s]∧xs.drop (s+1)=ys.drop (s+1)):=by
       have e1:=wG1 h1
       have e2:=wG1 h2
       rw[e1,e2,List.cons.injEq]
      simp only[hd]
      by_cases hq2:xs[s]=ys[s]
      ·have hb:(xs[s] ==ys[s])=true:=by simpa using hq2
       simp only[hb,Bool.not_true,wA6,if_false,Sem.run_pure,Result.andThen_ok,ih (s+1) (by omega)]
       simp[hq2]
      ·have hb:(xs[s] ==ys[s])=false:=by simpa using hq2
       simp only[hb,Bool.not_false,if_true,Sem.run_pure,Result.andThen_ok]
       simp[hq2]
   rw[key n 0 (by omega)]
   by_cases h:xs=ys
   ·simp[h]
   ·simp[h]
theorem guard48:Tryz.prog.eqGuardType Tryz.prog.depth 33=false:=by kernel_rfl
theorem run_neq48 (w:World) (xs ys:List Int) (hx:xs.length=64) (hy:ys.length=64):(binOp .neq 33 (.agg (bv xs)) (.agg (bv ys))).run Tryz.prog w=.ok (.bool (!decide (xs=ys))) w:=by
 rw[run_neq_struct,zJK w 9998 33 3 64 Tryz.underlying33 Tryz.underlying3 zFB xs ys hx hy]
 rfl
theorem zPn (w:World) (op:BinOp) (x y:Operand) (xs ys:Array Value):(eqGuard op 33 x y (.agg xs) (.agg ys)).run Tryz.prog w=.ok () w:=run_eqGuard_agg w op _ x y xs ys guard48
end
theorem guardTok:Tryz.prog.eqGuardType Tryz.prog.depth 149=false:=by kernel_rfl
theorem zOX (w:World) (op:BinOp) (x y:Operand) (xs ys:Array Value):(eqGuard op 149 x y (.agg xs) (.agg ys)).run Tryz.prog w=.ok () w:=run_eqGuard_agg w op _ x y xs ys guardTok
theorem stoodTok:Tryz.prog.stoodInHeld 149=false:=by kernel_rfl
theorem run_eqTok (w:World) (t u:Tok):(Op.equalIn 10000 149 (.agg (xV t).toArray) (.agg (xV u).toArray)).run Tryz.prog w=.ok (decide (t=u)) w:=by
 have p0: ∀ (v:Tok),(part 3 (xV v).toArray 0).run Tryz.prog w=.ok (.int .i64 v.1) w:=fun v=>zBr w 3 Tryz.underlying3 [v.1,v.2.1,v.2.2] 0 (by simp)
 have p1: ∀ (v:Tok),(part 3 (xV v).toArray 1).run Tryz.prog w=.ok (.int .i64 v.2.1) w:=fun v=>zBr w 3 Tryz.underlying3 [v.1,v.2.1,v.2.2] 1 (by simp)
 have p2: ∀ (v:Tok),(part 3 (xV v).toArray 2).run Tryz.prog w=.ok (.int .i64 v.2.2) w:=fun v=>zBr w 3 Tryz.underlying3 [v.1,v.2.1,v.2.2] 2 (by simp)
 have hi:=fun a b=>run_equalIn_int w 9998 3 .i64 .i64 a b Tryz.underlying3
 have hst:Tryz.prog.underlying 149=some (.struct (Tryz.prog.fieldsOf 149)):=by kernel_rfl
 rw[run_equalIn_struct w 9999 149 _ _ hst stoodTok]
 have hf : (Tryz.prog.fieldsOf 149).toList = [{ name := "Sym", type := 3, offset := 0, embedded := false, tag := "", pkgPath := "", byteOffset := 0 }, { name := "Width", type := 3, offset := 1, embedded := false, tag := "", pkgPath := "", byteOffset := 8 }, { name := "Value", type := 3, offset := 2, embedded := false, tag := "", pkgPath := "", byteOffset := 16 }] := by kernel_rfl
 rw[hf]
 simp only [Op.eqFields, ne_eq, show ("Sym" = "_") = False by decide, show ("Width" = "_") = False by decide, show ("Value" = "_") = False by decide, not_false_eq_true, if_true, Sem.run_bind, p0, p1, p2, hi, Result.andThen_ok, Sem.run_ite, Sem.run_pure]
 obtain⟨a,b,c⟩:=t
 obtain⟨a',b',c'⟩:=u
 by_cases h1:a=a'<;>by_cases h2:b=b'<;>by_cases h3:c=c'<;>simp[h1,h2,h3]
theorem zPx (w:World) (t u:Tok):(binOp .neq 149 (.agg (xV t).toArray) (.agg (xV u).toArray)).run Tryz.prog w=.ok (.bool (!decide (t=u))) w:=by
 rw[run_neq_struct,run_eqTok]
 rfl
theorem tokv_len (t:Tok):(xV t).length=3:=rfl
theorem zHi (T:List Tok) (k:Nat) (h:k<T.length):((qC T).drop (k*3)).take 3=xV T[k]:=by
 refine List.ext_getElem? fun j=> ?_
 obtain⟨a,b,c⟩:=toks_at T k h
 by_cases hj:j<3
 ·rw[wD0 hj,wB4]
  match j,hj with
  | 0,_=>simpa [xV] using a
  | 1,_=>simpa [xV] using b
  | 2,_=>simpa [xV] using c
 ·rw[wH3 (by rw[wI4];omega),wH3 (by rw[tokv_len];omega)]
theorem zJU:(Tryz.prog.info? 149).map (·.size)=some 3:=by kernel_rfl
theorem zNw (T U:List Tok) (k:Nat) (h1:k<T.length) (h2:k<U.length):T.take (k+1)=U.take (k+1)↔T.take k=U.take k∧T[k]=U[k]:=zGU T U k h1 h2
theorem jO (t:Tok):(xV t).toArray.all (·.oneCell')=true:=by
 rw[wH4]
 intro x hx
 simp[xV] at hx
 rcases hx with rfl | rfl | rfl<;>rfl
theorem zDh (u v:Value) (T U:List Tok) (w:World) (hu:SL w 3 u T.length (qC T)) (hv:SL w 3 v U.length (qC U)) :
 Calls Tryz.prog 190 #[u,v] w fun e w'=>e=.returned (.bool (decide (T=U)))∧Ext w w':=by
 have hu':=hu
 have hv':=hv
 obtain⟨A,c,rfl,hc1,hc2, -, -⟩:=hu'
 obtain⟨B,d,rfl,hd1,hd2, -, -⟩:=hv'
 by_cases hl:T.length=U.length
 ·have HE:Hid (T.length=U.length):=hl
  obtain⟨n,hn⟩: ∃ n,n=T.length:=⟨_,rfl⟩
  have HTN:Hid (T.length=n):=zA hn.symm
  have HUN:Hid (U.length=n):=zA (by rw[←hl,hn])
  rw[←hl] at hv hd1 ⊢
  rw[←hn] at hu hv hc1 hd1 ⊢
  have e1:((n:Int) !=(n:Int))=false:=by simp
  obtain⟨res,hres⟩: ∃ r,r=decide (T=U):=⟨_,rfl⟩
  have HR:=zA hres
  rw[←hres]
  clear hl hn hres
  go_enter Tryz.func190,Tryz.ntmps190
  go_wp2_with fail
  go_loopw [13] (fun i wr=> ∃ k:Nat,k≤n∧i=.int .i64 k∧Hid (T.take k=U.take k)∧Ext w wr) (fun i _=>n-(intOf i).toNat)
  case atStart=>exact⟨0,by omega,rfl,zA (by simp),Ext.refl w⟩
  case round =>
   obtain⟨k,hk,rfl,HT,hx⟩:=hrel
   by_cases hlt:k<n
   ·obtain⟨ad,rfl,hab,hca⟩:=(hu.ext hx).part hlt
    obtain⟨bd,rfl,hbb,hcb⟩:=(hv.ext hx).part hlt
    have hkT:k<T.length:=by rw[HTN.out];exact hlt
    have hkU:k<U.length:=by rw[HUN.out];exact hlt
    rw[zHi T k hkT] at hca
    rw[zHi U k hkU] at hcb
    have HQ:=zA (zNw T U k hkT hkU)
    generalize ht:T[k]=t at *
    generalize hu2:U[k]=t' at *
    have HTt:=zA ht
    have HTu:=zA hu2
    clear ht hu2
    have HCA:=zA hca
    clear hca
    have HCA':Hid (∀ W,Ext wr.drew W→zAD W (ad.add (k*3)) (xV t)):=zA (fun W hW j q hq=>by
     rw[(hW.cell (p:=(ad.add (k*3)).add j) (by rw[yH,yH];exact hab))]
     exact HCA.out j q hq)
    have HCB:Hid (∀ W,Ext wr.drew W→zAD W (bd.add (k*3)) (xV t')):=zA (fun W hW j q hq=>by
     rw[(hW.cell (p:=(bd.add (k*3)).add j) (by rw[yH,yH];exact hbb))]
     exact hcb j q hq)
    have hx3':=hx.drew
    go_wp2_with fail
    refine xW xX (by kernel_rfl) (by kernel_rfl) ?_
    iterate 3 (refine zAf (by rfl) ?_;apply Exists.intro;refine⟨fun w hw=> ?_, ?_⟩; · (go_simp;with_reducible rfl)
               simp only[Act.put,sA,sB,sC])
    refine zIj (by rfl) 149 (.tmp 18) rfl (ad.add (k*3)) rfl (xV t) _ HCA'.out Tryz.underlying149 rfl zJU ?_
    simp only[Act.put,sA,sB,sC]
    iterate 3 (refine zAf (by rfl) ?_;apply Exists.intro;refine⟨fun w hw=> ?_, ?_⟩; · (go_simp;with_reducible rfl)
               simp only[Act.put,sA,sB,sC])
    refine zIj (by rfl) 149 (.tmp 22) rfl (bd.add (k*3)) rfl (xV t') _ HCB.out Tryz.underlying149 rfl zJU ?_
    simp only[Act.put,sA,sB,sC]
    refine uN (by rfl) .neq 149 _ _ _ rfl (.agg (xV t).toArray) (.agg (xV t').toArray) rfl rfl (.bool (!decide (t=t'))) (fun W=>zOX W _ _ _ _ _) (fun W=>zPx W t t') ?_
    simp only[Act.put,sA,sB,sC]
    refine jA ?_
    intro w4 hx4
    by_cases hq:t=t'
    ·have HH:Hid (T.take (k+1)=U.take (k+1)):=zA (HQ.out.2 ⟨HT.out,hq⟩)
     rw[wK3 hq]
     clear hq
     go_wp2_with fail
     go_roundw
     case rel=>exact⟨k+1,by omega,by go_num,HH,hx3'.trans hx4⟩
     case measure=>simp[intOf];omega
    ·have hne:T≠U:=by
      intro h
      apply hq
      have h1:=HTt.out
      have h2:=HTu.out
      subst h
      exact h1.symm.trans h2
     have HN:=zA hne
     rw[wK4 hq]
     clear hq hne
     go_wp2_with fail
     go_ret
     refine⟨?_,hx3'.trans hx4⟩
     rw[HR.out,wK4 HN.out];rfl
   ·go_wp2_with fail
    go_ret
    refine⟨?_,hx⟩
    have e:T=U:=by
     have:=HT.out
     rwa [wC4 (by rw[HTN.out];omega),wC4 (by rw[HUN.out];omega)] at this
    rw[HR.out,wK3 e];rfl
 ·have hne:decide (T=U)=false:=wK4 (fun h=>hl (by rw[h]))
  have e1:((T.length:Int) !=(U.length:Int))=true:=by simp;omega
  rw[hne]
  clear hne hl
  go_enter Tryz.func190,Tryz.ntmps190
  go_wp2_with fail
  go_ret
  exact⟨rfl,Ext.refl w⟩
theorem yQ:(Tryz.prog.info? 149).map (·.size)=some 3:=by kernel_rfl
theorem zAE:(Tryz.prog.info? 149).bind (·.zero)=some (.agg (xV (0,0,0)).toArray):=by kernel_rfl
theorem zHt:Elt Tryz.prog 145 149 3 24:=⟨Tryz.underlying145,by kernel_rfl,by omega⟩
theorem bitsZ_bd (n:Int):0≤(jN n).1∧(jN n).1≤12:=by
 unfold jN
 split
 ·next h=>have:=(zEK n h.1 h.2).1;simp;omega
 ·simp
theorem zCW (a b c:Int):(#[Value.int .i64 a,.int .i64 b,.int .i64 c]:Array Value).all (·.oneCell')=true:=by
 rw[wH4]
 intro x hx
 simp at hx
 rcases hx with rfl | rfl | rfl<;>rfl
theorem or_add: ∀ r:Fin 16, ∀ x:Fin 13,bits .or .i64 ((r.val:Int)*16) (x.val:Int)=16*(r.val:Int)+(x.val:Int):=by decide
theorem zMY (r:Nat) (m:Int) (w:World) (h1:r≤15):Calls Tryz.prog 209 #[.int .i64 r,.int .i64 m] w fun e w'=>e=.returned (.agg (xV (jY r m)).toArray)∧Ext w w':=by
 have HB:=zA (fun W=>zOQ m W)
 obtain⟨b1,b2⟩:=bitsZ_bd m
 have HT:=zA (show xV (jY r m)=[.int .i64 (16*r+(jN m).1),.int .i64 (jN m).1,.int .i64 (jN m).2.1] from rfl)
 generalize jY r m=tk at *
 generalize jN m=b at *
 obtain⟨x1,x2,x3⟩:=b
 obtain⟨x1,rfl⟩: ∃ k:Nat,x1=k:=⟨x1.toNat,by simp at b1;omega⟩
 have HO:bits .or .i64 ((r:Int)*16) (x1:Int)=16*(r:Int)+(x1:Int):=or_add ⟨r,by omega⟩ ⟨x1,by simp at b2;omega⟩
 go_enter Tryz.func209,Tryz.ntmps209
 go_wp2_with (first
  | (refine wAlo' rfl (some 4) rfl 149 rfl _ zAE ?_;intro w1 g1 hb1 hx1 hg1)
  | (go_at_call 216;(with_reducible refine (HB.out _).mono ?_);rintro e w' ⟨rfl,rfl⟩)
  | (refine wStB rfl 149 (.tmp 4) (.tmp 20) rfl _ _ rfl rfl hb1 3 yQ rfl rfl (zCW _ _ _) ?_;intro w5 hb5 hg5))
 refine zBL rfl rfl _ rfl hb5 _ Tryz.underlying149 rfl 3 yQ rfl ⟨by rw[HT.out],hx1.grown hg5 hg1⟩
theorem own_ext {w w':World} {base:Nat} {e:TypeId} {size n:Nat} {v:Value} {xs:List Value} (h:w.ownsRow base e size v n xs) (hb:Ext w w'):w'.ownsRow base e size v n xs:=by
 obtain⟨hl,hh⟩:=h
 refine⟨hl, ?_⟩
 rcases hh with ⟨rfl,rfl⟩ | ⟨g,cap,cur,rfl,h1,hg,h2⟩
 ·exact .inl ⟨rfl,rfl⟩
 ·exact .inr ⟨g,cap,cur,rfl,h1,(hb.block g (Blk.lt (w:=w) (t:=e) (cs:=cur) hg)).trans hg,h2⟩
theorem zKu (w:World) (T:TypeId) (a b c:Value):SL (w.alloc (.cells #[a,b,c] T)) 3 (.slice (some ⟨w.heap.size,0,none⟩) 1 1) 1 [a,b,c]:=by
 have:=(Blk.new w T #[a,b,c]).sl (size:=3) (n:=1) (c:=1) rfl (by omega) (by omega)
 simpa using this
theorem zRC {w:World} {base:Nat} (e:TypeId) (a b c:Value) (hb:base≤w.heap.size) :
 (w.alloc (.cells #[a,b,c] e)).ownsRow base e 3 (.slice (some ⟨w.heap.size,0,none⟩) 1 1) 1 [a,b,c] :=
 ⟨rfl,.inr ⟨w.heap.size,1, #[a,b,c],rfl,hb,heap_alloc_new w _,by omega,by unfold maxLen;omega,rfl,by simp⟩⟩
theorem zHo (a b c:Int): ∀ u∈[Value.int .i64 a,.int .i64 b,.int .i64 c],u.oneCell'=true:=by
 intro u hu
 simp at hu
 rcases hu with rfl | rfl | rfl<;>rfl
theorem zKZ {w:World} {base:Nat} {e:TypeId} {v:Value} {T:List Tok} {a b c:Int} (h:w.ownsRow base e 3 v (T.length+1) (qC T++[.int .i64 a,.int .i64 b,.int .i64 c])):w.ownsRow base e 3 v (T++[(a,b,c)]).length (qC (T++[(a,b,c)])):=by
 simpa [qC,xV] using h
theorem zDA (t:Tok):(xV t).toArray= #[.int .i64 t.1,.int .i64 t.2.1,.int .i64 t.2.2]:=rfl
theorem size47:(Tryz.prog.info? 32).map (·.size)=some 64:=by kernel_rfl
theorem zero47:(Tryz.prog.info? 32).bind (·.zero)=some (.agg (bv (List.replicate 64 0))):=by kernel_rfl
theorem zord_set (k:Nat) (h:k<64) (z:Int):(zigL.take k++List.replicate (64-k) 0).set k z=zigL.take k++[z]++List.replicate (64-(k+1)) 0:=by
 have hl:(zigL.take k).length=k:=by rw[wI4,zCP];omega
 rw[wF6 _ _ (by omega),hl,wF7]
 obtain⟨m,hm⟩: ∃ m,64-k=m+1:=⟨64-k-1,by omega⟩
 have hm2:64-(k+1)=m:=by omega
 rw[hm,hm2,wF8,wF9]
 simp
theorem tup {s:Int×Int×Bool} {a b:Int} {c:Bool} (h:s=(a,b,c)):s.1=a∧s.2.1=b∧s.2.2=c:=by subst h;exact⟨rfl,rfl,rfl⟩
theorem zLO (w:World):Calls Tryz.prog 139 #[] w fun e w'=>e=.returned (.agg (bv zigL))∧Ext w w':=by
 go_enter Tryz.func139,Tryz.ntmps139
 go_wp2_with (refine qX rfl 32 rfl _ zero47 ?_;intro w1 g hb1 hx1 hg)
 go_loopw [1,2,3,5] (fun r c u i wr=> ∃ k:Nat,k≤64∧i=.int .i64 k∧r=.int .i64 (zst k).1∧c=.int .i64 (zst k).2.1∧u=.bool (zst k).2.2∧Blk wr g 32 (bv (zigL.take k++List.replicate (64-k) 0))∧Ext w wr) (fun _ _ _ i _=>64-(intOf i).toNat)
 case atStart=>exact⟨0,by omega,rfl,rfl,rfl,rfl,hb1,hx1⟩
 case round =>
  obtain⟨k,hk,rfl,rfl,rfl,rfl,hb,hx⟩:=hrel
  by_cases hlt:k<64
  ·obtain⟨b1,b2,b3,b4⟩:=zst_bd k hlt
   have HS:Hid (zst (k+1)=zDm (zst k)):=zA rfl
   have HZ:Hid (jM k=8*(zst k).1+(zst k).2.1):=zA rfl
   obtain⟨old,hold⟩: ∃ u,wr.cell? ⟨g,k,none⟩=some u:=by
    rw[hb.cell k]
    exact⟨_,qG _ k (by simp[zCP];omega)⟩
   have hfr:=hb.frozen k
   have hnew:=zA (hb.set_ k (.int .i64 (8*(zst k).1+(zst k).2.1)))
   generalize hst:zst k=st at *
   obtain⟨r,c,u⟩:=st
   have HST:=zA hst
   clear hst
   simp only at b1 b2 b3 b4 HZ hnew
   have fin: ∀ (a b:Int) (d:Bool),zDm (r,c,u)=(a,b,d)→zst (k+1)=(a,b,d):=fun a b d h=>by rw[HS.out,h]
   have FIN:=zA fin
   have hblk:Hid (Blk (wr.setCell ⟨g,k,none⟩ (.int .i64 (8*r+c))) g 32 (bv (zigL.take (k+1)++List.replicate (64-(k+1)) 0))):=by
    have:=hnew.out
    rw[vH,zord_set k hlt] at this
    rw[zKz k hlt,HZ.out]
    exact this
   have hxx:=zA (hx.setCell (p:=⟨g,k,none⟩) hg (.int .i64 (8*r+c)))
   clear fin hnew hb hx
   cases u with
   | true =>
     by_cases h7:c=7
     ·obtain⟨f1,f2,f3⟩:=tup (FIN.out (r+1) c false (by simp[zDm,h7]))
      have F:=zA f1;have F2:=zA f2;have F3:=zA f3
      have h7':(c ==7)=true:=by simpa using h7
      clear f1 f2 f3 h7
      go_wp2_with fail
      go_roundw
      case rel=>exact⟨k+1,by omega,by go_num,by rw[F.out],by rw[F2.out],by rw[F3.out],hblk.out,hxx.out⟩
      case measure=>simp[intOf];omega
     ·have h7':(c ==7)=false:=by simpa using h7
      by_cases h0:r=0
      ·obtain⟨f1,f2,f3⟩:=tup (FIN.out r (c+1) false (by simp[zDm,h7,h0]))
       have F:=zA f1;have F2:=zA f2;have F3:=zA f3
       have h0':(r ==0)=true:=by simpa using h0
       clear f1 f2 f3 h7 h0
       go_wp2_with fail
       go_roundw
       case rel=>exact⟨k+1,by omega,by go_num,by rw[F.out],by rw[F2.out],by rw[F3.out],hblk.out,hxx.out⟩
       case measure=>simp[intOf];omega
      ·obtain⟨f1,f2,f3⟩:=tup (FIN.out (r-1) (c+1) true (by simp[zDm,h7,h0]))
       have F:=zA f1;have F2:=zA f2;have F3:=zA f3
       have h0':(r ==0)=false:=by simpa using h0
       clear f1 f2 f3 h7 h0
       go_wp2_with fail
       go_roundw
       case rel=>exact⟨k+1,by omega,by go_num,by rw[F.out],by rw[F2.out],by rw[F3.out],hblk.out,hxx.out⟩
       case measure=>simp[intOf];omega
   | false =>
     by_cases h7:r=7
     ·obtain⟨f1,f2,f3⟩:=tup (FIN.out r (c+1) true (by simp[zDm,h7]))
      have F:=zA f1;have F2:=zA f2;have F3:=zA f3
      have h7':(r ==7)=true:=by simpa using h7
      clear f1 f2 f3 h7
      go_wp2_with fail
      go_roundw
      case rel=>exact⟨k+1,by omega,by go_num,by rw[F.out],by rw[F2.out],by rw[F3.out],hblk.out,hxx.out⟩
      case measure=>simp[intOf];omega
     ·have h7':(r ==7)=false:=by simpa using h7
      by_cases h0:c=0
      ·obtain⟨f1,f2,f3⟩:=tup (FIN.out (r+1) c true (by simp[zDm,h7,h0]))
       have F:=zA f1;have F2:=zA f2;have F3:=zA f3
       have h0':(c ==0)=true:=by simpa using h0
       clear f1 f2 f3 h7 h0
       go_wp2_with fail
       go_roundw
       case rel=>exact⟨k+1,by omega,by go_num,by rw[F.out],by rw[F2.out],by rw[F3.out],hblk.out,hxx.out⟩
       case measure=>simp[intOf];omega
      ·obtain⟨f1,f2,f3⟩:=tup (FIN.out (r+1) (c-1) false (by simp[zDm,h7,h0]))
       have F:=zA f1;have F2:=zA f2;have F3:=zA f3
       have h0':(c ==0)=false:=by simpa using h0
       clear f1 f2 f3 h7 h0
       go_wp2_with fail
       go_roundw
       case rel=>exact⟨k+1,by omega,by go_num,by rw[F.out],by rw[F2.out],by rw[F3.out],hblk.out,hxx.out⟩
       case measure=>simp[intOf];omega
  ·obtain rfl:k=64:=by omega
   have hs:Hid ((bv zigL).size=64):=zA (by rw[zJ,zCP])
   have ho:=zA (xB zigL)
   have e:zigL.take 64++List.replicate (64-64) 0=zigL:=by rw[wC4 (by rw[zCP];omega)];simp
   rw[e] at hb
   clear e
   generalize hcz:bv zigL=cz at *
   have HCZ:=zA hcz
   clear hcz
   go_wp2_with (first
    | (refine wLdB rfl 32 (.tmp 0) rfl _ rfl hb _ Tryz.underlying32 rfl 64 size47 hs.out ?_)
    | (refine wStB rfl 32 (.tmp 0) (.tmp 51) rfl _ _ rfl rfl hb 64 size47 hs.out hs.out ho.out ?_;intro w7 hb7 hg7))
   exact zBL rfl rfl _ rfl hb7 _ Tryz.underlying32 rfl 64 size47 hs.out ⟨by rw[HCZ.out],hx.grown hg7 hg⟩
theorem zIU (cs:Array Value) (i:Nat) (u:Value) (hi:i<64) (hu:cs[i]? =some u) (w:World):(Instr.index 32 (.agg cs) (.int .i64 (i:Int))).run Tryz.prog w=.ok u w :=
 zBZ _ _ 64 cs i u Tryz.underlying32 _ Tryz.underlying3 zFB hi hu w
theorem zigN (k:Nat) (h:k<64): ∃ n:Nat,jM k=(n:Int)∧n<64:=by
 have:=zFi k h
 exact⟨(jM k).toNat,by omega,by omega⟩
theorem zto_any (zs:List Int) (w:World) (hz:zs.length=64):Calls Tryz.prog 80 #[.agg (bv zs)] w fun e w'=>e=.returned (.agg (bv (zto zs)))∧Ext w w':=by
 have HO:=zA (fun W=>zLO W)
 have HIX:=zA (fun W (k n:Nat) (hk:k<64) (hn:jM k=(n:Int))=>zIU (bv zigL) k (.int .i64 (n:Int)) hk (by rw[←hn,qG zigL k (by rw[zCP];exact hk),zOC]) W)
 have HZ:=zA hz
 generalize bv zigL=co at *
 generalize hc0:bv zs=cz at *
 have HC0:=zA hc0
 clear hz hc0
 go_enter Tryz.func80,Tryz.ntmps80
 go_wp2_with (first
  | (refine wBox rfl 33 (.tmp 0) rfl cz rfl ?_;intro w1 gz hbz1 hx1 hgz)
  | (refine wAlo' rfl (some 2) rfl 33 rfl _ qN ?_;intro w2 go hbo2 hx2 hgo;have hbz2:=hbz1.ext hx2)
  | (go_at_call 139;refine (HO.out _).mono ?_;rintro e w3 ⟨rfl,hx3⟩;have hbz:=hbz2.ext hx3;have hbo:=hbo2.ext hx3))
 have hne:go≠gz:=by have:=hbz1.lt;omega
 have hgo':w.heap.size≤go:=by have:=hx1.size;omega
 have hxx:=(hx1.trans hx2).trans hx3
 clear hbz1 hbz2 hbo2 hx1 hx2 hx3
 go_loopw [6] (fun i wr=> ∃ k:Nat,k≤64∧i=.int .i64 k∧Blk wr gz 33 cz∧Blk wr go 33 (bv ((zto zs).take k++List.replicate (64-k) 0))∧Ext w wr) (fun i _=>64-(intOf i).toNat)
 case atStart=>exact⟨0,by omega,rfl,hbz,by rw[show (zto zs).take 0++List.replicate (64-0) 0=zeros64 from rfl];exact hbo,hxx⟩
 case round =>
  obtain⟨k,hk,rfl,hb1,hb2,hx⟩:=hrel
  by_cases hlt:k<64
  ·obtain⟨n,hn,hn64⟩:=zigN k hlt
   have HN:=zA hn
   have hzl:n<zs.length:=by have:=HZ.out;omega
   have HD:Hid (zs.getD n 0=zs[n]):=zA (by simp[hzl])
   have hlz:wr.cell? ⟨gz,n,none⟩=some (.int .i64 zs[n]):=(hb1.cell n).trans (by rw[←HC0.out];exact qG zs n hzl)
   obtain⟨old,hold⟩: ∃ u,wr.cell? ⟨go,k,none⟩=some u:=by
    rw[hb2.cell k]
    have hl:((zto zs).take k++List.replicate (64-k) 0).length=64:=by simp[uD];omega
    exact⟨_,qG _ k (by omega)⟩
   have hfr:=hb2.frozen k
   have hix:=fun W=>HIX.out W k n hlt HN.out
   clear hn
   go_wp2_with fail
   go_roundw
   case rel =>
    refine⟨k+1,by omega,by go_num,hb1.far (p:=⟨go,k,none⟩) (by simpa using hne.symm) _, ?_,hx.setCell hgo' _⟩
    have:=hb2.set_ k (.int .i64 zs[n])
    rw[vH] at this
    have e:=zto_set zs k hlt
    rw[HN.out,wE8,HD.out] at e
    rw[←e]
    exact this
   case measure=>simp[intOf];omega
  ·obtain rfl:k=64:=by omega
   have e:(zto zs).take 64++List.replicate (64-64) 0=zto zs:=by rw[wC4 (by rw[uD];omega)];simp
   rw[e] at hb2
   clear e
   have hs:Hid ((bv (zto zs)).size=64):=zA (by rw[zJ,uD])
   have ho:=zA (xB (zto zs))
   generalize hcr:bv (zto zs)=cr at *
   have HC:=zA hcr
   clear hcr
   go_wp2_with (first
    | (refine wLdB rfl 33 (.tmp 2) rfl _ rfl hb2 _ Tryz.underlying33 rfl 64 zF hs.out ?_)
    | (refine wStB rfl 33 (.tmp 2) (.tmp 16) rfl _ _ rfl rfl hb2 64 zF hs.out hs.out ho.out ?_;intro w7 hb7 hg7))
   exact zBL rfl rfl _ rfl hb7 _ Tryz.underlying33 rfl 64 zF hs.out ⟨by rw[HC.out],hx.grown hg7 hgo'⟩
theorem zGp (zs:List Int) (w:World) (hz:zs.length=64):Calls Tryz.prog 82 #[.agg (bv zs)] w fun e w'=>e=.returned (.agg (bv (xZ zs 64)))∧Ext w w':=by
 have HO:=zA (fun W=>zLO W)
 have HIX:=zA (fun W (k n:Nat) (hk:k<64) (hn:jM k=(n:Int))=>zIU (bv zigL) k (.int .i64 (n:Int)) hk (by rw[←hn,qG zigL k (by rw[zCP];exact hk),zOC]) W)
 have HZ:=zA hz
 generalize bv zigL=co at *
 generalize hc0:bv zs=cz at *
 have HC0:=zA hc0
 clear hz hc0
 go_enter Tryz.func82,Tryz.ntmps82
 go_wp2_with (first
  | (refine wBox rfl 33 (.tmp 0) rfl cz rfl ?_;intro w1 gz hbz1 hx1 hgz)
  | (refine wAlo' rfl (some 2) rfl 33 rfl _ qN ?_;intro w2 go hbo2 hx2 hgo;have hbz2:=hbz1.ext hx2)
  | (go_at_call 139;refine (HO.out _).mono ?_;rintro e w3 ⟨rfl,hx3⟩;have hbz:=hbz2.ext hx3;have hbo:=hbo2.ext hx3))
 have hne:go≠gz:=by have:=hbz1.lt;omega
 have hgo':w.heap.size≤go:=by have:=hx1.size;omega
 have hxx:=(hx1.trans hx2).trans hx3
 clear hbz1 hbz2 hbo2 hx1 hx2 hx3
 go_loopw [6] (fun i wr=> ∃ k:Nat,k≤64∧i=.int .i64 k∧Blk wr gz 33 cz∧Blk wr go 33 (bv (xZ zs k))∧Ext w wr) (fun i _=>64-(intOf i).toNat)
 case atStart=>exact⟨0,by omega,rfl,hbz,hbo,hxx⟩
 case round =>
  obtain⟨k,hk,rfl,hb1,hb2,hx⟩:=hrel
  by_cases hlt:k<64
  ·obtain⟨n,hn,hn64⟩:=zigN k hlt
   have HN:=zA hn
   have hzl:k<zs.length:=by have:=HZ.out;omega
   have HD:Hid (zs.getD k 0=zs[k]):=zA (by simp[hzl])
   have hlz:wr.cell? ⟨gz,k,none⟩=some (.int .i64 zs[k]):=(hb1.cell k).trans (by rw[←HC0.out];exact qG zs k hzl)
   obtain⟨old,hold⟩: ∃ u,wr.cell? ⟨go,n,none⟩=some u:=by
    rw[hb2.cell n]
    have hl:(xZ zs k).length=64:=vR zs k
    exact⟨_,qG _ n (by omega)⟩
   have hfr:=hb2.frozen n
   have hix:=fun W=>HIX.out W k n hlt HN.out
   clear hn
   go_wp2_with fail
   go_roundw
   case rel =>
    refine⟨k+1,by omega,by go_num,hb1.far (p:=⟨go,n,none⟩) (by simpa using hne.symm) _, ?_,hx.setCell hgo' _⟩
    have:=hb2.set_ n (.int .i64 zs[k])
    rw[vH] at this
    rw[zFj,HN.out,wE8,HD.out]
    exact this
   case measure=>simp[intOf];omega
  ·obtain rfl:k=64:=by omega
   have hs:Hid ((bv (xZ zs 64)).size=64):=zA (by rw[zJ,vR])
   have ho:=zA (xB (xZ zs 64))
   generalize hcr:bv (xZ zs 64)=cr at *
   have HC:=zA hcr
   clear hcr
   go_wp2_with (first
    | (refine wLdB rfl 33 (.tmp 2) rfl _ rfl hb2 _ Tryz.underlying33 rfl 64 zF hs.out ?_)
    | (refine wStB rfl 33 (.tmp 2) (.tmp 16) rfl _ _ rfl rfl hb2 64 zF hs.out hs.out ho.out ?_;intro w7 hb7 hg7))
   exact zBL rfl rfl _ rfl hb7 _ Tryz.underlying33 rfl 64 zF hs.out ⟨by rw[HC.out],hx.grown hg7 hgo'⟩
theorem zGK (before:Int) (zs:List Int) (w:World) (hz:zs.length=64) (hb1: -2047≤before) (hb2:before≤2047) (h01: -2047≤(zto zs).getD 0 0) (h02:(zto zs).getD 0 0≤2047) :
 Calls Tryz.prog 191 #[.int .i64 before,.agg (bv zs)] w fun e w'=> ∃ A c,e=.returned (.slice A (yE before (zto zs)).length c)∧SL w' 3 (.slice A (yE before (zto zs)).length c) (yE before (zto zs)).length (qC (yE before (zto zs)))∧(∀ ad,A=some ad→w.heap.size≤ad.block)∧Ext w w':=by
 have HZT:=zA (fun W=>zto_any zs W hz)
 have hZl:=uD zs
 have hsz:=zA ((zJ zs).trans hz)
 have hst:=zA ((zJ _).trans hZl)
 have hot:=zA (xB (zto zs))
 generalize hZ:zto zs=Z at *
 clear hZ
 have h0l:0<Z.length:=by omega
 have e0:Z.getD 0 0=Z[0]:=by simp[h0l]
 rw[e0] at h01 h02
 have HAT:=zA (fun k (hk:k<Z.length)=>qG Z k hk)
 have HF:Hid (yE before Z=if 0<(zAV (jY 0 (Z[0]-before)) (Z.drop 1) 63).2 then (zAV (jY 0 (Z[0]-before)) (Z.drop 1) 63).1++[(0,0,0)] else (zAV (jY 0 (Z[0]-before)) (Z.drop 1) 63).1):=zA (by unfold yE;rw[e0])
 have HT0:Hid (∀ W,Calls Tryz.prog 209 #[.int .i64 0,.int .i64 (Z[0]-before)] W fun e w'=>e=.returned (.agg (xV (jY 0 (Z[0]-before))).toArray)∧Ext W w'):=zA (fun W=>by simpa using zMY 0 (Z[0]-before) W (by omega))
 simp only[zDA] at HT0
 generalize hcz:bv Z=cz at *
 generalize bv zs=c0 at *
 clear hcz hz e0
 generalize ht:jY 0 (Z[0]-before)=t0 at *
 clear ht
 have hll:(Z.drop 1).length=63:=by simp;omega
 have HLL:=zA hll
 have HLK:Hid (∀ k (h:k<(Z.drop 1).length) (h2:k+1<Z.length),(Z.drop 1)[k]=Z[k+1]):=zA (fun k h h2=>by simp)
 generalize hl:Z.drop 1=l at *
 clear hl hll
 go_enter Tryz.func191,Tryz.ntmps191
 go_wp2_with (first
  | (refine wBox rfl 33 (.tmp 1) rfl c0 rfl ?_;intro w1 g hbb1 hx1 hg)
  | (refine wLdB rfl 33 (.tmp 3) rfl _ rfl hbb1 _ Tryz.underlying33 rfl 64 zF hsz.out ?_)
  | (go_at_call 80;(with_reducible refine (HZT.out _).mono ?_);rintro e w2 ⟨rfl,hx2⟩;have hbb2:=hbb1.ext hx2)
  | (refine wStB rfl 33 (.tmp 3) (.tmp 10) rfl _ _ rfl rfl hbb2 64 zF hst.out hsz.out hot.out ?_;intro w3 hbb3 hg3;have hc0:w3.cell? ⟨g,0,none⟩=some (.int .i64 Z[0]):=(hbb3.cell 0).trans (HAT.out 0 h0l))
  | (go_at_call 209;(with_reducible refine (HT0.out _).mono ?_);rintro e w4 ⟨rfl,hx4⟩))
 have hown0:=zRC (w:=w4) (base:=w3.heap.size) 149 (.int .i64 t0.1) (.int .i64 t0.2.1) (.int .i64 t0.2.2) hx4.size
 have hx5:=hx4.alloc (.cells #[.int .i64 t0.1,.int .i64 t0.2.1,.int .i64 t0.2.2] 149)
 have hbb5:=hbb3.ext hx5
 have hglt:=hbb3.lt
 have hxw:Ext w w3:=(hx1.trans hx2).grown hg3 hg
 have HB0:Hid (w.heap.size≤w3.heap.size):=zA hxw.size
 clear hbb1 hbb2 hx1 hx2 hg3 hc0 hx4 HZT HT0
 generalize hw5:w4.alloc (.cells #[.int .i64 t0.1,.int .i64 t0.2.1,.int .i64 t0.2.2] 149)=w5 at *
 clear hw5
 go_loopw [5,6,19] (fun v r i wr=> ∃ k:Nat,k≤63∧i=.int .i64 k∧r=.int .i64 ((zAV t0 l k).2:Nat)∧wr.ownsRow w3.heap.size 149 3 v (zAV t0 l k).1.length (qC (zAV t0 l k).1)∧Blk wr g 33 cz∧Ext w3 wr) (fun _ _ i _=>63-(intOf i).toNat)
 case atStart=>exact⟨0,by omega,rfl,rfl,hown0,hbb5,hx5⟩
 case round =>
  clear hown0 hbb5 hx5
  obtain⟨k,hk,rfl,rfl,hown,hbb,hx⟩:=hrel
  obtain⟨b1,b2⟩:=accT_bd t0 l k (by have:=HLL.out;omega) (by omega)
  by_cases hlt:k<63
  ·have hkl:k<l.length:=by have:=HLL.out;omega
   have hkZ:k+1<Z.length:=by omega
   have HS:=zA (zHP t0 l k hkl)
   have hcell:wr.cell? ⟨g,1+k,none⟩=some (.int .i64 l[k]):=by
    rw[wB0 1 k]
    exact (hbb.cell (k+1)).trans (by rw[HAT.out (k+1) hkZ,HLK.out k hkl hkZ])
   generalize zAV t0 l k=s at *
   obtain⟨acc,rn⟩:=s
   simp only at b1 b2 hown ⊢
   by_cases hz0:l[k]=0
   ·rw[zFR hz0] at HS
    generalize hnk:zAV t0 l (k+1)=s1 at *
    have HS1:=HS.out
    have hz0':(l[k] ==0)=true:=by simpa using hz0
    clear hz0 HS
    go_wp2_with fail
    go_roundw
    case rel =>
     refine⟨k+1,by omega,by go_num,by rw[hnk,HS1];simp,by rw[hnk,HS1];exact hown,hbb,hx⟩
    case measure=>simp[intOf];omega
   ·rw[zHC hz0] at HS
    have hz0':(l[k] ==0)=false:=by simpa using hz0
    have HTK:=zA (fun W=>zMY (rn%16) l[k] W (by omega))
    simp only[zDA] at HTK
    generalize jY ((rn%16:Nat):Int) l[k]=tk at *
    generalize hnk:zAV t0 l (k+1)=s1 at *
    have HS1:=zA HS.out
    have HNK:=zA hnk
    clear hz0 HS hnk
    go_wp2_with fail
    go_loopw [5,6] (fun v r wr2=> ∃ j:Nat,j≤rn/16∧r=.int .i64 ((rn:Int)-16*j)∧wr2.ownsRow w3.heap.size 149 3 v (acc++List.replicate j long).length (qC (acc++List.replicate j long))∧Blk wr2 g 33 cz∧Ext w3 wr2) (fun _ r _=>(intOf r).toNat)
    case atStart=>exact⟨0,by omega,by simp,by simpa using hown,hbb,hx⟩
    case round =>
     clear hown hbb hx
     obtain⟨j,hj,rfl,hown,hbb,hx⟩:=hrel
     have hlen:(acc++List.replicate j long).length=acc.length+j:=by simp
     by_cases hj2:j<rn/16
     ·have hgt:(15:Int)<(rn:Int)-16*j:=by omega
      go_wp2_with (at_builtin;go_must (refine zBS zHt rfl _ _ rfl w3.heap.size _ _ _ rfl (hown.alloc _) _ 1 [.int .i64 _,.int .i64 _,.int .i64 _] rfl (zKu _ _ _ _ _) (zHo _ _ _) (by omega) (by omega) (by have:=hx.size;simp;omega) ?_);intro v' w7 hown7 hb7)
      go_roundw
      case rel =>
       refine⟨j+1,by omega,by congr 1;omega, ?_,(hbb.alloc _).below hb7 hglt,(hx.alloc _).trans' hb7⟩
       rw[List.replicate_succ', ←wG0]
       exact zKZ hown7
      case measure=>simp[intOf];omega
     ·obtain rfl:j=rn/16:=by omega
      have e:(rn:Int)-16*((rn/16:Nat):Int)=((rn%16:Nat):Int):=by omega
      rw[e]
      clear e hj hj2
      have hq:rn%16≤15:=by omega
      generalize rn%16=q at *
      go_wp2_with (first
       | (go_at_call 209;(with_reducible refine (HTK.out _).mono ?_);rintro e w6 ⟨rfl,hx6⟩)
       | (at_builtin;go_must (refine zBS zHt rfl _ _ rfl w3.heap.size _ _ _ rfl ((own_ext hown hx6).alloc _) _ 1 [.int .i64 _,.int .i64 _,.int .i64 _] rfl (zKu _ _ _ _ _) (zHo _ _ _) (by omega) (by omega) (by have:=hx.size;have:=hx6.size;simp;omega) ?_);intro v' w7 hown7 hb7))
      go_roundw
      case rel =>
       refine⟨k+1,by omega,by go_num,by rw[HNK.out,HS1.out];rfl, ?_,((hbb.ext hx6).alloc _).below hb7 hglt,((hx.trans hx6).alloc _).trans' hb7⟩
       rw[HNK.out,HS1.out]
       exact zKZ hown7
      case measure=>simp[intOf];omega
  ·have ek:k=63:=by omega
   subst ek
   generalize zAV t0 l 63=s at *
   obtain⟨acc,rn⟩:=s
   simp only at b1 b2 hown HF
   by_cases hr:0<rn
   ·rw[if_pos hr] at HF
    go_wp2_with (at_builtin;go_must (refine zBS zHt rfl _ _ rfl w3.heap.size _ _ _ rfl (hown.alloc _) _ 1 [.int .i64 _,.int .i64 _,.int .i64 _] rfl (zKu _ _ _ _ _) (zHo _ _ _) (by omega) (by omega) (by have:=hx.size;simp;omega) ?_);intro v' w7 hown7 hb7)
    go_ret
    rw[HF.out]
    obtain⟨A,c,rfl,hsl,hfs⟩:=zBN (zKZ hown7)
    exact⟨A,c,rfl,hsl,fun ad h=>wD1 HB0.out (hfs ad h),hxw.trans ((hx.alloc _).trans' hb7)⟩
   ·rw[if_neg hr] at HF
    go_wp2_with fail
    go_ret
    rw[HF.out]
    obtain⟨A,c,rfl,hsl,hfs⟩:=zBN hown
    exact⟨A,c,rfl,hsl,fun ad h=>wD1 HB0.out (hfs ad h),hxw.trans hx⟩
end Go.Proofs.YtkggcjdlpendfaaGreatDoor
