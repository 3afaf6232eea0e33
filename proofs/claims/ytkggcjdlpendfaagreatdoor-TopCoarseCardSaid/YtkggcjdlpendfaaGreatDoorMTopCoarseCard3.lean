/- Contracts of the functions that the law reaches, part 3. -/
import Derived.Laws.MakeOwn
import Derived.Test.YtkggcjdlpendfaaGreatDoorMTopCoarseCard2
namespace Go.Proofs.YtkggcjdlpendfaaGreatDoor
set_option linter.unusedVariables false
set_option linter.unusedSimpArgs false
set_option maxRecDepth 20000
set_option maxHeartbeats 8000000
open Go.RowKit
def vJ (P:Program) (f:FuncId):Prop:= ∀ (args:Array Value) (w:World),(callFunc f args).run P w=.ok (.enter f args) w
theorem uZ {P : Program} {f : FuncId} {fn : Func} {c : Code} (hf : P.funcs[f]? = some fn) (hname : (fn.name == "runtime.NumGoroutine") = false) (hb : fn.body = some c) : vJ P f := by
 intro args w
 have hn : ¬ fn.name = "runtime.NumGoroutine" := by simpa using hname
 simp[callFunc,hf,hb,hn]
def zGG (p:Int→Bool) (zs:List Int):Int:=match zs.findIdx? p with | some k=>k | none=> -1
theorem zMn (g:Nat) (cap:Array Value) (p:Int→Bool) (eg:vJ Tryz.prog g) (v:Value) (zs:List Int) (w:World) (hs:SL w 1 v zs.length (ints zs))
 (hp: ∀ z∈zs,Calls Tryz.prog g (#[.int .i64 z]++cap) w fun e w'=>e=.returned (.bool (p z))∧w=w') :
 Calls Tryz.prog 140 #[v,.func (.func g) #[] cap] w fun e w'=>e=.returned (.int .i64 (zGG p zs))∧w=w':=by
 have hs':=hs
 obtain⟨A,c,rfl,hc1,hc2, -, -⟩:=hs'
 go_enter Tryz.func140,Tryz.ntmps140
 go_wp2_with fail
 go_loop [8] (fun i=> ∃ k:Nat,k≤zs.length∧i=.int .i64 k∧ ∀ z∈zs.take k,p z=false) (fun i=>zs.length-(intOf i).toNat)
 case atStart=>exact⟨0,by omega,rfl,by simp⟩
 case round =>
  obtain⟨k,hk,rfl,ht⟩:=hrel
  have HT:Hid (∀ z∈zs.take k,p z=false):=ht
  clear ht
  by_cases hlt:k<zs.length
  ·obtain⟨ad,u,rfl, -,hx,hcell⟩:=hs.at1 hlt
   obtain⟨_,rfl⟩:=zBt _ _ _ hx
   clear hx
   have hcall:=hp zs[k] (wE1 _)
   have HC:Hid (Calls Tryz.prog g (#[.int .i64 zs[k]]++cap) w fun e w'=>e=.returned (.bool (p zs[k]))∧w=w'):=hcall
   have HP:Hid (∀ z∈zs,Calls Tryz.prog g (#[.int .i64 z]++cap) w fun e w'=>e=.returned (.bool (p z))∧w=w'):=hp
   clear hcall hp
   unfold vJ at eg
   by_cases hz:p zs[k]=true
   ·have hfin:zGG p zs=k:=by
     unfold zGG
     have:zs.findIdx? p=some k:=by
      rw[wE6]
      refine⟨hlt,hz,fun j hj=> ?_⟩
      have:=HT.out zs[j] (by
       rw[List.mem_take_iff_getElem]
       exact⟨j,by omega,rfl⟩)
      simp[this]
     rw[this]
    have HF:=zA hfin
    clear hfin
    go_wp2_with fail
    refine HC.out.mono ?_
    rintro e w' ⟨rfl,rfl⟩
    rw[hz];clear hz
    go_wp2
    go_ret
    exact⟨by rw[HF.out];rfl,rfl⟩
   ·have hz':p zs[k]=false:=by simpa using hz
    have HZ:=zA hz'
    clear hz
    go_wp2_with fail
    refine HC.out.mono ?_
    rintro e w' ⟨rfl,rfl⟩
    rw[hz'];clear hz'
    go_wp2
    go_round
    case rel =>
     refine⟨k+1,by omega,by go_num,fun z hz=> ?_⟩
     rw[wC3 hlt] at hz
     rcases wE5.1 hz with h1 | h1
     ·exact HT.out z h1
     ·simp at h1;subst h1;exact HZ.out
    case measure=>simp[intOf];omega
  ·have hfin:zGG p zs= -1:=by
    unfold zGG
    have:zs.findIdx? p=none:=by
     rw[wE7]
     have h:=HT.out
     rwa [wC4 (by omega)] at h
    rw[this]
   have HF:=zA hfin
   clear hfin
   go_wp2
   go_ret
   exact⟨by rw[HF.out];rfl,rfl⟩
theorem idxOf_ge (p:Int→Bool) (zs:List Int):decide (zGG p zs≥0)=zs.any p:=by
 unfold zGG
 cases h:zs.findIdx? p with
 | none =>
   have:zs.any p=false:=by rw[List.any_eq_false];intro x hx;have:=wE7.1 h x hx;simp[this]
   simp[this]
 | some k =>
   have:zs.any p=true:=by
    rw[List.any_eq_true]
    obtain⟨hk,hp, -⟩:=wE6.1 h
    exact⟨_,wE1 hk,hp⟩
   simp[this]
theorem qY (g:Nat) (cap:Array Value) (p:Int→Bool) (eg:vJ Tryz.prog g) (v:Value) (zs:List Int) (w:World) (hs:SL w 1 v zs.length (ints zs))
 (hp: ∀ z∈zs,Calls Tryz.prog g (#[.int .i64 z]++cap) w fun e w'=>e=.returned (.bool (p z))∧w=w') :
 Calls Tryz.prog 88 #[v,.func (.func g) #[] cap] w fun e w'=>e=.returned (.bool (zs.any p))∧w=w':=by
 have HP:=zA hp
 have HG:=zA eg
 clear hp eg
 go_enter Tryz.func88,Tryz.ntmps88
 go_wp2_with (go_at_call 140;refine (zMn g cap p HG.out v zs _ hs HP.out).mono ?_;rintro e w' ⟨rfl,rfl⟩)
 go_ret
 exact⟨by rw[←idxOf_ge];rfl,rfl⟩
theorem zEn (cs:Array Value) (i:Nat) (u:Value) (hi:i<64) (hu:cs[i]? =some u) (w:World):(Instr.index 33 (.agg cs) (.int .i64 (i:Int))).run Tryz.prog w=.ok u w :=
 zBZ _ _ 64 cs i u Tryz.underlying33 _ Tryz.underlying3 zFB hi hu w
theorem zF:(Tryz.prog.info? 33).map (·.size)=some 64:=by kernel_rfl
theorem zFk (x y z:Int) (h:IntKind.i64.wrap (x*y)=z) (W:World):(binOp .mul 3 (.int .i64 x) (.int .i64 y)).run Tryz.prog W=.ok (.int .i64 z) W:=by
 subst h;go_simp
theorem zCJ (x y z:Int) (h:IntKind.i64.wrap (x+y)=z) (W:World):(binOp .add 3 (.int .i64 x) (.int .i64 y)).run Tryz.prog W=.ok (.int .i64 z) W:=by
 subst h;go_simp
theorem zFs (g n:Nat) (h:n<64) (W:World):(Instr.indexAt 33 (.pointer (some ⟨g,0,none⟩)) (.int .i64 (n:Int))).run Tryz.prog W=.ok (.pointer (some ⟨g,n,none⟩)) W:=by
 have h0:(0:Int)≤(n:Int):=by omega
 have h1:(n:Int)<64:=by omega
 go_simp
theorem zGq (W:World) (p:Addr) (z:Int) (h:W.cell? p=some (.int .i64 z)):(Instr.loadAt 3 (.pointer (some p))).run Tryz.prog W=.ok (.int .i64 z) W:=by
 go_simp
theorem zFH (op:BinOp) (x y:Operand) (v w:Int) (W:World):(eqGuard op 3 x y (.int .i64 v) (.int .i64 w)).run Tryz.prog W=.ok () W:=by
 cases op<;>go_simp
theorem zMQ {o:Oper} {a:Act} {w:World} {K:Act→World→Prop} {Q:Exit→Act→World→Prop} (x y:Operand) (ho:o.op=.store 3 x y) (p:Addr) (z:Int) (hx:a.eval x=.pointer (some p)) (hy:a.eval y=.int .i64 z)
 (u:Value) (hc:w.cell? p=some u) (hf:w.frozen? p=false) (h:K (a.put o.dst undef) (w.setCell p (.int .i64 z))):o.wp Tryz.prog a w K Q:=by
 unfold Oper.wp execOp
 simp only[ho,hx,hy]
 go_simp
 exact h
section
variable {o:Oper} {a:Act}
theorem zC {P:Program} {x:Operand} (ho:o.op=.move x) {v:Value} (hx:a.eval x=v) (w:World):(execOp a.eval o).run P w=.ok (.value v) w:=by simp[execOp,ho,hx]
theorem zW {P:Program} {x:Operand} (ho:o.op=.assign x) {v:Value} (hx:a.eval x=v) (w:World):(execOp a.eval o).run P w=.ok (.value v) w:=by simp[execOp,ho,hx]
theorem qE {op:BinOp} {x y:Operand} {t2:TypeId} (ho:o.op=.binOp op 3 x y t2) {m n:Int} (hx:a.eval x=.int .i64 m) (hy:a.eval y=.int .i64 n) {v:Value}
 (hr: ∀ w,(binOp op 3 (.int .i64 m) (.int .i64 n)).run Tryz.prog w=.ok v w) (w:World):(execOp a.eval o).run Tryz.prog w=.ok (.value v) w:=by
 simp[execOp,ho,hx,hy,zBB,hr]
theorem zZ {x y:Operand} {t2:TypeId} (ho:o.op=.binOp .add 3 x y t2) {i d:Nat} (hx:a.eval x=.int .i64 (i:Int)) (hy:a.eval y=.int .i64 (d:Int)) (h:i+d<1000000000000) (w:World) :
 (execOp a.eval o).run Tryz.prog w=.ok (.value (.int .i64 ((i+d:Nat):Int))) w:=qE ho hx hy (zFw i d h) w
theorem xA {x y:Operand} {t2:TypeId} (ho:o.op=.binOp .sub 3 x y t2) {i d:Nat} (hx:a.eval x=.int .i64 (i:Int)) (hy:a.eval y=.int .i64 (d:Int)) (h:i<1000000000000) (h2:d≤i) (w:World) :
 (execOp a.eval o).run Tryz.prog w=.ok (.value (.int .i64 ((i-d:Nat):Int))) w:=qE ho hx hy (zIr i d h h2) w
theorem zBd {x y:Operand} {t2:TypeId} (ho:o.op=.binOp .mul 3 x y t2) {i d:Nat} (hx:a.eval x=.int .i64 (i:Int)) (hy:a.eval y=.int .i64 (d:Int)) (h:i*d<1000000000000) (w:World) :
 (execOp a.eval o).run Tryz.prog w=.ok (.value (.int .i64 ((i*d:Nat):Int))) w:=qE ho hx hy (zDG i d _ rfl h) w
theorem zHl {x y:Operand} {t2:TypeId} (ho:o.op=.binOp .quo 3 x y t2) {i d:Nat} (hx:a.eval x=.int .i64 (i:Int)) (hy:a.eval y=.int .i64 (d:Int)) (h:i<1000000000000) (h2:0<d) (w:World) :
 (execOp a.eval o).run Tryz.prog w=.ok (.value (.int .i64 ((i/d:Nat):Int))) w:=qE ho hx hy (zFq i d h h2) w
theorem zKf {x y:Operand} {t2:TypeId} (ho:o.op=.binOp .rem 3 x y t2) {i d:Nat} (hx:a.eval x=.int .i64 (i:Int)) (hy:a.eval y=.int .i64 (d:Int)) (h:i<1000000000000) (h2:0<d) (w:World) :
 (execOp a.eval o).run Tryz.prog w=.ok (.value (.int .i64 ((i%d:Nat):Int))) w:=qE ho hx hy (zFZ i d h h2) w
theorem zKg {x y:Operand} {t2:TypeId} (ho:o.op=.binOp .add 3 x y t2) {i d:Int} (hx:a.eval x=.int .i64 i) (hy:a.eval y=.int .i64 d) (h: -9223372036854775808≤i+d∧i+d≤9223372036854775807) (w:World) :
 (execOp a.eval o).run Tryz.prog w=.ok (.value (.int .i64 (i+d))) w:=qE ho hx hy (zCJ i d _ (IntWalk.i64_in _ h)) w
theorem run_subI (x y z:Int) (h:IntKind.i64.wrap (x-y)=z) (W:World):(binOp .sub 3 (.int .i64 x) (.int .i64 y)).run Tryz.prog W=.ok (.int .i64 z) W:=by
 subst h;go_simp
theorem zHp {x y:Operand} {t2:TypeId} (ho:o.op=.binOp .sub 3 x y t2) {i d:Int} (hx:a.eval x=.int .i64 i) (hy:a.eval y=.int .i64 d) (h: -9223372036854775808≤i-d∧i-d≤9223372036854775807) (w:World) :
 (execOp a.eval o).run Tryz.prog w=.ok (.value (.int .i64 (i-d))) w:=qE ho hx hy (run_subI i d _ (IntWalk.i64_in _ h)) w
theorem zHs {x y:Operand} {ats:Array TypeId} (ho:o.op=.call { callee:=.builtin .min,args:= #[x,y],argTypes:=ats }) {i d:Nat} (hx:a.eval x=.int .i64 (i:Int)) (hy:a.eval y=.int .i64 (d:Int)) (w:World) :
 (execOp a.eval o).run Tryz.prog w=.ok (.value (.int .i64 ((min i d:Nat):Int))) w:=by
 simp[execOp,ho,hx,hy,resolve,invoke,builtin,Builtin.min_,Builtin.min2]
 split<;>omega
theorem ex_maxI {x y:Operand} {ats:Array TypeId} (ho:o.op=.call { callee:=.builtin .max,args:= #[x,y],argTypes:=ats }) {i d:Int} (hx:a.eval x=.int .i64 i) (hy:a.eval y=.int .i64 d) (w:World) :
 (execOp a.eval o).run Tryz.prog w=.ok (.value (.int .i64 (max i d))) w:=by
 have e:(if i<d then d else i)=max i d:=by split<;>omega
 simp[execOp,ho,hx,hy,resolve,invoke,builtin,Builtin.max_,Builtin.max2,e]
theorem ex_minI {x y:Operand} {ats:Array TypeId} (ho:o.op=.call { callee:=.builtin .min,args:= #[x,y],argTypes:=ats }) {i d:Int} (hx:a.eval x=.int .i64 i) (hy:a.eval y=.int .i64 d) (w:World) :
 (execOp a.eval o).run Tryz.prog w=.ok (.value (.int .i64 (min i d))) w:=by
 have e:(if d<i then d else i)=min i d:=by split<;>omega
 simp[execOp,ho,hx,hy,resolve,invoke,builtin,Builtin.min_,Builtin.min2,e]
theorem yR {P:Program} {x:Operand} {n:Nat} (ho:o.op=.extract x n) {vs:Array Value} (hx:a.eval x=.tuple vs) {v:Value} (hv:vs[n]? =some v) (w:World):(execOp a.eval o).run P w=.ok (.value v) w:=by
 simp[execOp,ho,hx,Instr.extract,hv]
theorem guardG (op:BinOp) (t:TypeId) (x y:Operand) (k k':IntKind) (v w:Int) {P:Program} (W:World):(eqGuard op t x y (.int k v) (.int k' w)).run P W=.ok () W:=by
 cases op<;>simp[eqGuard]
theorem zGl {P:Program} {op:BinOp} {t:TypeId} {x y:Operand} {t2:TypeId} (ho:o.op=.binOp op t x y t2) {m n:Int} (hx:a.eval x=.int .i64 m) (hy:a.eval y=.int .i64 n) {b:Bool}
 (hr: ∀ w,(binOp op t (.int .i64 m) (.int .i64 n)).run P w=.ok (.bool b) w) (w:World):(execOp a.eval o).run P w=.ok (.value (.bool b)) w:=by
 simp[execOp,ho,hx,hy,guardG,hr]
theorem zR {P:Program} {t:TypeId} {x y:Operand} {t2:TypeId} (ho:o.op=.binOp .lss t x y t2) {m n:Int} (hx:a.eval x=.int .i64 m) (hy:a.eval y=.int .i64 n) {b:Bool} (h:decide (m<n)=b) (w:World) :
 (execOp a.eval o).run P w=.ok (.value (.bool b)) w:=zGl ho hx hy (fun w=>by subst h;simp[binOp,Op.intCmp]) w
theorem xP {P:Program} {t:TypeId} {x y:Operand} {t2:TypeId} (ho:o.op=.binOp .gtr t x y t2) {m n:Int} (hx:a.eval x=.int .i64 m) (hy:a.eval y=.int .i64 n) {b:Bool} (h:decide (n<m)=b) (w:World) :
 (execOp a.eval o).run P w=.ok (.value (.bool b)) w:=zGl ho hx hy (fun w=>by subst h;simp[binOp,Op.intCmp]) w
theorem zGr {P:Program} {t:TypeId} {x y:Operand} {t2:TypeId} (ho:o.op=.binOp .leq t x y t2) {m n:Int} (hx:a.eval x=.int .i64 m) (hy:a.eval y=.int .i64 n) {b:Bool} (h:decide (m≤n)=b) (w:World) :
 (execOp a.eval o).run P w=.ok (.value (.bool b)) w:=zGl ho hx hy (fun w=>by subst h;simp[binOp,Op.intCmp]) w
theorem zAB {P:Program} {t:TypeId} {x y:Operand} {t2:TypeId} (ho:o.op=.binOp .eql t x y t2) {m n:Int} (hx:a.eval x=.int .i64 m) (hy:a.eval y=.int .i64 n) {b:Bool} (h:decide (m=n)=b) (w:World) :
 (execOp a.eval o).run P w=.ok (.value (.bool b)) w:=zGl ho hx hy (fun w=>by subst h;by_cases e:m=n<;>simp[binOp,Op.intCmp,e]) w
theorem zAK {P:Program} {t:TypeId} {x y:Operand} {t2:TypeId} (ho:o.op=.binOp .neq t x y t2) {m n:Int} (hx:a.eval x=.int .i64 m) (hy:a.eval y=.int .i64 n) {b:Bool} (h:decide (m≠n)=b) (w:World) :
 (execOp a.eval o).run P w=.ok (.value (.bool b)) w:=zGl ho hx hy (fun w=>by subst h;by_cases e:m=n<;>simp[binOp,Op.intCmp,e]) w
theorem zGm {P:Program} {t:TypeId} {x:Operand} (ho:o.op=.unOp .not t x) {b:Bool} (hx:a.eval x=.bool b) (w:World):(execOp a.eval o).run P w=.ok (.value (.bool (!b))) w:=by
 simp[execOp,ho,hx,Op.unary]
theorem zKx {P:Program} {c x y:Operand} (ho:o.op=.pick c x y) {b:Bool} (hb:a.eval c=.bool b) {v:Value} (hv:(if b then a.eval x else a.eval y)=v) (w:World):(execOp a.eval o).run P w=.ok (.value v) w:=by
 subst hv;simp[execOp,ho,hb,asBool]
theorem zLF {P:Program} {t:TypeId} (ho:o.op=.build t #[]) {cs:Array Value} (hf:P.built t []=some cs) (w:World):(execOp a.eval o).run P w=.ok (.value (.agg cs)) w:=by
 simp only[execOp,ho,Sem.run_bind,run_build w t (#[].map fun (i,x)=>(i,a.eval x)) cs (by simpa using hf),Result.andThen_ok,Sem.run_pure]
theorem zLD {P:Program} {e:TypeId} {sz:Nat} (hs:(P.info? e).map (·.size)=some sz) (w:World):(sizeOf e).run P w=.ok sz w:=by
 cases hq:P.info? e with
 | none=>simp[hq] at hs
 | some i=>have hz:i.size=sz:=by simpa [hq] using hs
           simp[sizeOf,typeInfo,hq,hz]
theorem jG {P:Program} {t e:TypeId} {sz:Nat} (ht:P.underlying t=some (.slice e)) (hs:(P.info? e).map (·.size)=some sz) {x ix:Operand} (ho:o.op=.indexAddr t x ix) {ad:Addr} {n c i:Nat} {k:IntKind} (hx:a.eval x=.slice (some ad) n c) (hi:a.eval ix=.int k (i:Int)) (h:i<n) (w:World) :
 (execOp a.eval o).run P w=.ok (.value (.pointer (some (ad.add (i*sz))))) w:=by
 have hc:((0:Int)≤(i:Int)∧(i:Int)<(n:Int))=True:=by simp;omega
 simp only[execOp,ho,hx,hi,Instr.indexAt,Sem.run_bind,run_underlying ht,Result.andThen_ok,asIntOf,Sem.run_pure,hc,if_true,zLD hs,wE8]
theorem ex_ixArr {P:Program} {t e:TypeId} {sz m:Nat} (ht:P.underlying t=some (.array m e)) (hs:(P.info? e).map (·.size)=some sz) {x ix:Operand} (ho:o.op=.indexAddr t x ix) {ad:Addr} {i:Nat} {k:IntKind} (hx:a.eval x=.pointer (some ad)) (hi:a.eval ix=.int k (i:Int)) (h:i<m) (w:World) :
 (execOp a.eval o).run P w=.ok (.value (.pointer (some (ad.add (i*sz))))) w:=by
 have hc:((0:Int)≤(i:Int)∧(i:Int)<(m:Int))=True:=by simp;omega
 simp only[execOp,ho,hx,hi,Instr.indexAt,Instr.sureAddr,Sem.run_bind,run_underlying ht,Result.andThen_ok,asIntOf,Sem.run_pure,hc,if_true,zLD hs,wE8]
theorem zBU (g m n:Nat):(⟨g,m,none⟩:Addr).add n=⟨g,m+n,none⟩:=by
 unfold Addr.add
 by_cases hn:n=0
 ·subst hn;rfl
 ·rw[if_neg hn]
theorem zEH {P:Program} {t e:TypeId} {sz:Nat} (ht:P.underlying t=some (.slice e)) (hs:(P.info? e).map (·.size)=some sz) {x ix:Operand} (ho:o.op=.indexAddr t x ix) {g m n c i:Nat} {k:IntKind} (hx:a.eval x=.slice (some ⟨g,m,none⟩) n c) (hi:a.eval ix=.int k (i:Int)) (h:i<n) (w:World) :
 (execOp a.eval o).run P w=.ok (.value (.pointer (some ⟨g,m+i*sz,none⟩))) w:=by
 rw[←zBU];exact jG ht hs ho hx hi h w
theorem zLc {P:Program} {t e:TypeId} {sz m:Nat} (ht:P.underlying t=some (.array m e)) (hs:(P.info? e).map (·.size)=some sz) {x ix:Operand} (ho:o.op=.indexAddr t x ix) {g b i:Nat} {k:IntKind} (hx:a.eval x=.pointer (some ⟨g,b,none⟩)) (hi:a.eval ix=.int k (i:Int)) (h:i<m) (w:World) :
 (execOp a.eval o).run P w=.ok (.value (.pointer (some ⟨g,b+i*sz,none⟩))) w:=by
 rw[←zBU];exact ex_ixArr ht hs ho hx hi h w
theorem ex_ixSl1 {P:Program} {t e:TypeId} (ht:P.underlying t=some (.slice e)) (hs:(P.info? e).map (·.size)=some 1) {x ix:Operand} (ho:o.op=.indexAddr t x ix) {g m n c i:Nat} {k:IntKind} (hx:a.eval x=.slice (some ⟨g,m,none⟩) n c) (hi:a.eval ix=.int k (i:Int)) (h:i<n) (w:World) :
 (execOp a.eval o).run P w=.ok (.value (.pointer (some ⟨g,m+i,none⟩))) w:=by
 have:=zEH ht hs ho hx hi h w
 rwa [wE9] at this
theorem vA {P:Program} {t e:TypeId} (ht:P.underlying t=some (.slice e)) (hs:(P.info? e).map (·.size)=some 1) {x ix:Operand} (ho:o.op=.indexAddr t x ix) {g n c i:Nat} {k:IntKind} (hx:a.eval x=.slice (some ⟨g,0,none⟩) n c) (hi:a.eval ix=.int k (i:Int)) (h:i<n) (w:World) :
 (execOp a.eval o).run P w=.ok (.value (.pointer (some ⟨g,i,none⟩))) w:=by
 have:=ex_ixSl1 ht hs ho hx hi h w
 rwa [wB2] at this
theorem ex_ixArr1 {P:Program} {t e:TypeId} {m:Nat} (ht:P.underlying t=some (.array m e)) (hs:(P.info? e).map (·.size)=some 1) {x ix:Operand} (ho:o.op=.indexAddr t x ix) {g b i:Nat} {k:IntKind} (hx:a.eval x=.pointer (some ⟨g,b,none⟩)) (hi:a.eval ix=.int k (i:Int)) (h:i<m) (w:World) :
 (execOp a.eval o).run P w=.ok (.value (.pointer (some ⟨g,b+i,none⟩))) w:=by
 have:=zLc ht hs ho hx hi h w
 rwa [wE9] at this
theorem zGz {P:Program} {t e:TypeId} {m:Nat} (ht:P.underlying t=some (.array m e)) (hs:(P.info? e).map (·.size)=some 1) {x ix:Operand} (ho:o.op=.indexAddr t x ix) {g i:Nat} {k:IntKind} (hx:a.eval x=.pointer (some ⟨g,0,none⟩)) (hi:a.eval ix=.int k (i:Int)) (h:i<m) (w:World) :
 (execOp a.eval o).run P w=.ok (.value (.pointer (some ⟨g,i,none⟩))) w:=by
 have:=ex_ixArr1 ht hs ho hx hi h w
 rwa [wB2] at this
theorem zQ {x:Operand} (ho:o.op=.load 3 x) {p:Addr} (hx:a.eval x=.pointer (some p)) {z:Int} {w:World} (h:w.cell? p=some (.int .i64 z)):(execOp a.eval o).run Tryz.prog w=.ok (.value (.int .i64 z)) w:=by
 simp[execOp,ho,hx,zGq w p z h]
end
theorem qV:(Tryz.prog.info? 3).map (·.size)=some 1:=by kernel_rfl
section
variable {P:Program} {ops:Array Oper} {Q:Exit→Act→World→Prop} {rest:List Oper} {o:Oper} {a:Act} {w:World}
theorem zB (hg:o.guard=none) (v:Value) (h1: ∀ w,(execOp a.eval o).run P w=.ok (.value v) w) (h:wpList P ops Q rest (a.put o.dst v) w):wpList P ops Q (o::rest) a w :=
 wpList_plain hg fun _ hK=>by unfold Oper.wp;rw[h1];exact hK _ _ h
theorem xC (hw:Region.wanted o (yielded ops a.tmps)=true) (v:Value) (h1: ∀ w,(execOp a.eval o).run P w=.ok (.value v) w) (h:wpList P ops Q rest (a.put o.dst v) w):wpList P ops Q (o::rest) a w :=
 vM hw fun _ hK=>by unfold Oper.wp;rw[h1];exact hK _ _ h
theorem zCe (hw:Region.wanted o (yielded ops a.tmps)=true) (v:Value) (h1:(execOp a.eval o).run P w=.ok (.value v) w) (h:wpList P ops Q rest (a.put o.dst v) w):wpList P ops Q (o::rest) a w :=
 vM hw fun _ hK=>by unfold Oper.wp;rw[h1];exact hK _ _ h
theorem yW (hg:o.guard=none) (v:Value) (h1:(execOp a.eval o).run P w=.ok (.value v) w) (h:wpList P ops Q rest (a.put o.dst v) w):wpList P ops Q (o::rest) a w :=
 wpList_plain hg fun _ hK=>by unfold Oper.wp;rw[h1];exact hK _ _ h
end
theorem uI {ops:Array Oper} {Q:Exit→Act→World→Prop} {rest:List Oper} {o:Oper} {a:Act} {w:World} (hg:o.guard=none) (x y:Operand) (ho:o.op=.store 3 x y) (g i:Nat) (z:Int) (hx:a.eval x=.pointer (some ⟨g,i,none⟩)) (hy:a.eval y=.int .i64 z)
 {t:TypeId} {cs:Array Value} (hB:Blk w g t cs) (hi:i<cs.size) (h:wpList Tryz.prog ops Q rest (a.put o.dst undef) (w.setCell ⟨g,i,none⟩ (.int .i64 z))):wpList Tryz.prog ops Q (o::rest) a w :=
 wpList_plain hg fun _ hK=>zMQ x y ho ⟨g,i,none⟩ z hx hy _ ((hB.cell i).trans (wF0 hi)) (hB.frozen i) (hK _ _ h)
theorem jP {S:Nat→Prop} {w w':World} {base:Nat} {e:TypeId} {size n:Nat} {v:Value} {xs:List Value} (h:w.ownsRow base e size v n xs) (hu:Upd S w w') (hS: ∀ x,v.ownBlock=some x→ ¬S x):w'.ownsRow base e size v n xs:=by
 obtain⟨hl,hh⟩:=h
 refine⟨hl, ?_⟩
 rcases hh with ⟨rfl,rfl⟩ | ⟨g,cap,cur,rfl,h1,hg,h2⟩
 ·exact .inl ⟨rfl,rfl⟩
 ·exact .inr ⟨g,cap,cur,rfl,h1,(hu.block g (Blk.lt (w:=w) (t:=e) (cs:=cur) hg) (hS g rfl)).trans hg,h2⟩
theorem zL {w w':World} {row:Option Nat} (hg:w.grownBy w' row):Upd (fun b=>row=some b) w w' :=
 (Upd.refl (fun b=>row=some b) w).grown hg (fun b hb=>.inl hb)
def Apart (w:World) (e:TypeId) (v:Value) (g:Nat) (r1 r2:Option Nat):Prop:=Blk w g e #[v]∧r1≠some g∧r2≠some g
structure Two (w0 w:World) (B:Nat) (e1 e2:TypeId) (v1 v2:Value) (n1 n2:Nat) (xs1 xs2:List Value) (t1 t2:Option (Value×Nat)):Prop where
 ext:Ext w0 w
 base:w0.heap.size≤B∧B≤w.heap.size
 p:w.ownsRow B e1 1 v1 n1 xs1
 m:w.ownsRow B e2 1 v2 n2 xs2
 d: ∀ b,v1.ownBlock=some b→v2.ownBlock≠some b
 a1: ∀ v g,t1=some (v,g)→Apart w e1 v g v1.ownBlock v2.ownBlock
 a2: ∀ v g,t2=some (v,g)→Apart w e2 v g v1.ownBlock v2.ownBlock
section
variable {w0 w w':World} {B:Nat} {e1 e2:TypeId} {v1 v2 v1' v2':Value} {n1 n2 m1 m2:Nat} {xs1 xs2 ys1 ys2:List Value} {t1 t2:Option (Value×Nat)}
theorem Two.later (h:Two w0 w B e1 e2 v1 v2 n1 n2 xs1 xs2 t1 t2) (hx:Ext w w'):Two w0 w' B e1 e2 v1 v2 n1 n2 xs1 xs2 t1 t2 :=
 ⟨h.ext.trans hx,⟨h.base.1,wD1 h.base.2 hx.size⟩,yJ h.p hx,yJ h.m hx,h.d,fun v g e=>by obtain⟨a,b,c⟩:=h.a1 v g e;exact⟨a.ext hx,b,c⟩,fun v g e=>by obtain⟨a,b,c⟩:=h.a2 v g e;exact⟨a.ext hx,b,c⟩⟩
theorem Two.fresh (h:Two w0 w B e1 e2 v1 v2 n1 n2 xs1 xs2 t1 t2) {g:Nat} (hg:w.heap.size≤g):v1.ownBlock≠some g∧v2.ownBlock≠some g :=
 ⟨fun e=>by have:=(h.p.lt g e).2;omega,fun e=>by have:=(h.m.lt g e).2;omega⟩
theorem Two.lit1 (h:Two w0 w B e1 e2 v1 v2 n1 n2 xs1 xs2 t1 t2) {v:Value} {g:Nat} (hb:Blk w' g e1 #[v]) (hx:Ext w w') (hg:w.heap.size≤g):Two w0 w' B e1 e2 v1 v2 n1 n2 xs1 xs2 (some (v,g)) t2:=by
 have k:=h.later hx
 obtain⟨f1,f2⟩:=h.fresh hg
 exact⟨k.ext,k.base,k.p,k.m,k.d,fun u g' e=>by injection e with e;injection e with e e';subst e e';exact⟨hb,f1,f2⟩,k.a2⟩
theorem Two.lit2 (h:Two w0 w B e1 e2 v1 v2 n1 n2 xs1 xs2 t1 t2) {v:Value} {g:Nat} (hb:Blk w' g e2 #[v]) (hx:Ext w w') (hg:w.heap.size≤g):Two w0 w' B e1 e2 v1 v2 n1 n2 xs1 xs2 t1 (some (v,g)):=by
 have k:=h.later hx
 obtain⟨f1,f2⟩:=h.fresh hg
 exact⟨k.ext,k.base,k.p,k.m,k.d,k.a1,fun u g' e=>by injection e with e;injection e with e e';subst e e';exact⟨hb,f1,f2⟩⟩
theorem Apart.grown {e:TypeId} {v:Value} {g:Nat} {r r' r2:Option Nat} (h:Apart w e v g r r2) (hg:w.grownBy w' r) (hr:r'=r∨r'=some w.heap.size):Apart w' e v g r' r2:=by
 obtain⟨hb,h1,h2⟩:=h
 refine⟨(zL hg).blk hb h1, ?_,h2⟩
 rcases hr with rfl | rfl
 ·exact h1
 ·intro e;injection e with e;have:=hb.lt;omega
theorem Apart.swap {e:TypeId} {v:Value} {g:Nat} {r r2:Option Nat} (h:Apart w e v g r r2):Apart w e v g r2 r:=⟨h.1,h.2.2,h.2.1⟩
theorem Two.app1 (h:Two w0 w B e1 e2 v1 v2 n1 n2 xs1 xs2 t1 t2) (ho:w'.ownsRow B e1 1 v1' m1 ys1) (hg:w.grownBy w' v1.ownBlock) (hr:v1'.ownBlock=v1.ownBlock∨v1'.ownBlock=some w.heap.size):Two w0 w' B e1 e2 v1' v2 m1 n2 ys1 xs2 none t2:=by
 have hu:=zL hg
 refine⟨hu.ext h.ext (fun x hx=>by have:=(h.p.lt x hx).1;have:=h.base.1;omega),⟨h.base.1,wD1 h.base.2 hu.size⟩,ho,jP h.m hu (fun x hx e=>h.d x e hx),fun b hb=> ?_,fun _ _ e=>(by cases e),fun v g e=>(h.a2 v g e).grown hg hr⟩
 rcases hr with e | e
 ·exact h.d b (e ▸ hb)
 ·rw[e] at hb
  injection hb with hb
  intro e2
  have:=(h.m.lt b e2).2
  omega
theorem Two.app2 (h:Two w0 w B e1 e2 v1 v2 n1 n2 xs1 xs2 t1 t2) (ho:w'.ownsRow B e2 1 v2' m2 ys2) (hg:w.grownBy w' v2.ownBlock) (hr:v2'.ownBlock=v2.ownBlock∨v2'.ownBlock=some w.heap.size):Two w0 w' B e1 e2 v1 v2' n1 m2 xs1 ys2 t1 none:=by
 have hu:=zL hg
 refine⟨hu.ext h.ext (fun x hx=>by have:=(h.m.lt x hx).1;have:=h.base.1;omega),⟨h.base.1,wD1 h.base.2 hu.size⟩,jP h.p hu (fun x hx e=>h.d x hx e),ho,fun b hb=> ?_,fun v g e=>((h.a1 v g e).swap.grown hg hr).swap,fun _ _ e=>(by cases e)⟩
 rcases hr with e | e
 ·rw[e];exact h.d b hb
 ·rw[e]
  intro e2
  injection e2 with e2
  have:=(h.p.lt b hb).2
  omega
theorem zBO (A:Option Addr) (n c:Nat):(Value.slice A n c).ownBlock=A.map (·.block):=by cases A<;>rfl
theorem zGj {v:Value} (h:v.oneCell'=true): ∀ u∈[v],u.oneCell'=true:=by
 intro u hu
 simp at hu
 subst hu
 exact h
theorem zU {P:Program} {ops:Array Oper} {K:Act→World→Prop} {a:Act} {w:World} (h:K a w):wpList P ops (xE K) [] a w:=h
theorem Two.app1' {A:Option Addr} {c:Nat} (h:Two w0 w B e1 e2 v1 v2 n1 n2 xs1 xs2 t1 t2) (ho:w'.ownsRow B e1 1 (.slice A m1 c) m1 ys1) (hg:w.grownBy w' v1.ownBlock) (hr:A.map (·.block)=v1.ownBlock∨A.map (·.block)=some w.heap.size):Two w0 w' B e1 e2 (.slice A m1 c) v2 m1 n2 ys1 xs2 none t2 :=
 h.app1 ho hg (by rw[zBO];exact hr)
theorem Two.app2' {A:Option Addr} {c:Nat} (h:Two w0 w B e1 e2 v1 v2 n1 n2 xs1 xs2 t1 t2) (ho:w'.ownsRow B e2 1 (.slice A m2 c) m2 ys2) (hg:w.grownBy w' v2.ownBlock) (hr:A.map (·.block)=v2.ownBlock∨A.map (·.block)=some w.heap.size):Two w0 w' B e1 e2 v1 (.slice A m2 c) n1 m2 xs1 ys2 t1 none :=
 h.app2 ho hg (by rw[zBO];exact hr)
theorem zCf {g:Nat} {e:TypeId} {v:Value} (h:Blk w g e #[v]):SL w 1 (.slice (some ⟨g,0,none⟩) 1 1) 1 [v] :=
 ⟨_,_,rfl,by omega,by omega,rfl,fun _=>⟨_,rfl,h.lt,fun j u hu=>by
  have hc:=h.cell j
  rw[zBU]
  simp only[wB2]
  rw[hc, ←hu]
  simp⟩⟩
end
theorem zCX {w:World} {base size n:Nat} {e:TypeId} {v:Value} {xs:List Value} (h:w.ownsRow base e size v n xs): ∀ g,v.ownBlock=some g→ ∃ cs,w.heap[g]? =some (.cells cs e (0,0)):=by
 obtain⟨-,hh⟩:=h
 intro g hg
 rcases hh with ⟨rfl, -⟩ | ⟨k,cap,cur,rfl, -,hk, -⟩
 ·simp[Value.ownBlock] at hg
 ·have:k=g:=by simpa [Value.ownBlock] using hg
  subst this
  exact⟨_,hk⟩
theorem uV {w:World} {B s n g:Nat} {e t:TypeId} {v:Value} {xs:List Value} {cs:Array Value} (h:w.ownsRow B e s v n xs) (hb:Blk w g t cs) (hne:e≠t):some g≠v.ownBlock:=by
 intro hx
 obtain⟨ds,h3⟩:=zCX h g hx.symm
 unfold Blk at hb
 rw[h3] at hb
 injection hb with hb
 injection hb with _ hb
 exact hne hb
def RowsS (w:World) (A:Option Addr) (n c:Nat) (L:List (List Int)):Prop :=
 ∃ vs:List Value,SL w 1 (.slice A n c) n vs∧L.length=n∧ ∀ (k:Nat) (l:List Int),L[k]? =some l→ ∃ (B:Option Addr) (d:Nat),vs[k]? =some (Value.slice B l.length d)∧SL w 1 (.slice B l.length d) l.length (ints l)
theorem RowsS.ext {w w':World} {A:Option Addr} {n c:Nat} {L:List (List Int)} (h:RowsS w A n c L) (hx:Ext w w'):RowsS w' A n c L:=by
 obtain⟨vs,h1,h2,h3⟩:=h
 refine⟨vs,h1.ext hx,h2,fun k l hl=> ?_⟩
 obtain⟨B,d,e,hs⟩:=h3 k l hl
 exact⟨B,d,e,hs.ext hx⟩
theorem RowsS.len {w:World} {A:Option Addr} {n c:Nat} {L:List (List Int)} (h:RowsS w A n c L):L.length=n:=h.choose_spec.2.1
theorem RowsS.cap {w:World} {A:Option Addr} {n c:Nat} {L:List (List Int)} (h:RowsS w A n c L):n≤c∧c≤9223372036854775807:=by
 obtain⟨vs,⟨A',c',e,h1,h2, -⟩, -⟩:=h
 injection e with e1 e2 e3
 subst e3
 exact⟨h1,h2⟩
theorem RowsS.get {w:World} {A:Option Addr} {n c k:Nat} {L:List (List Int)} (h:RowsS w A n c L) (hk:k<n) :
 ∃ ad l B d,A=some ad∧L[k]? =some l∧ad.block<w.heap.size∧w.cell? (ad.add k)=some (.slice B l.length d)∧SL w 1 (.slice B l.length d) l.length (ints l):=by
 obtain⟨vs,h1,h2,h3⟩:=h
 obtain⟨ad,u,ha,hb,hu,hc⟩:=h1.at1 hk
 have hl:L[k]? =some (L[k]'(by omega)):=wA2 (by omega)
 obtain⟨B,d,e,hs⟩:=h3 k _ hl
 rw[e] at hu
 injection hu with hu
 subst hu
 exact⟨ad,_,B,d,ha,hl,hb,hc,hs⟩
theorem RowsS.nil (w:World):RowsS w none 0 0 []:=⟨[],SL.nil w 1,rfl,by simp⟩
def Meth (P:Program) (ty:TypeId) (v:Value) (name:String) (f:FuncId) (recv:Value):Prop :=
 (∀ w, (method (P.types.size + Made.depth) ty v name).run P w = .ok (f, recv) w) ∧ ∃ fn, P.funcs[f]? = some fn ∧ (fn.name == "runtime.NumGoroutine") = false ∧ fn.body.isSome = true
def zAP (P : Program) (f : FuncId) : Prop := ∃ fn, P.funcs[f]? = some fn ∧ (fn.name == "runtime.NumGoroutine") = false ∧ fn.body.isSome = true
section
variable {P:Program} {ops:Array Oper} {rest:List Oper} {o:Oper} {a:Act} {Q:Exit→Act→World→Prop}
theorem zCh (r:Operand) (name:String) (xs:Array Operand) (ts:Array TypeId) (ho:o.op=.call { callee:=.invoke r name,args:=xs,argTypes:=ts }) {ty:TypeId} {v:Value}
 (hr:a.eval r=.iface ty v) {f:FuncId} {recv:Value} (hm:Meth P ty v name f recv) (args:Array Value) (hx: #[recv]++xs.map a.eval=args) (w:World):(execOp a.eval o).run P w=.ok (.enter f args) w:=by
 obtain⟨h1,fn,hf,hname,hb⟩:=hm
 obtain⟨c,hb⟩:=wB1.1 hb
 have hn : ¬ fn.name = "runtime.NumGoroutine" := by simpa using hname
 subst hx
 have e0:(#[Value.iface ty v]++Array.map a.eval xs)[0]? =some (.iface ty v):=by simp[Array.getElem?_append]
 have e1:(#[Value.iface ty v]++Array.map a.eval xs).extract 1 (#[Value.iface ty v]++Array.map a.eval xs).size=xs.map a.eval:=by simp
 simp only[execOp,ho,resolve,hr,invoke,Sem.run_bind,Sem.run_pure,Result.andThen_ok,e0,e1]
 simp[callMethod,callFunc,hf,hb,hn,h1,run_program]
theorem xI (x:Operand) (xs:Array Operand) (ts:Array TypeId) (ho:o.op=.call { callee:=.value x,args:=xs,argTypes:=ts }) {f:FuncId} {cap:Array Value} (hr:a.eval x=.func (.func f) #[] cap)
 (hm:zAP P f) (args:Array Value) (hx:xs.map a.eval++cap=args) (w:World):(execOp a.eval o).run P w=.ok (.enter f args) w:=by
 obtain⟨fn,hf,hname,hb⟩:=hm
 obtain⟨c,hb⟩:=wB1.1 hb
 have hn : ¬ fn.name = "runtime.NumGoroutine" := by simpa using hname
 subst hx
 simp[execOp,ho,resolve,hr,Deferred.ofValue,invoke,callFunc,hf,hb,hn,run_program]
theorem xH {w:World} (hw:Region.wanted o (yielded ops a.tmps)=true) {f:FuncId} {args:Array Value} (hrun: ∀ w,(execOp a.eval o).run P w=.ok (.enter f args) w)
 (h:Calls P f args w fun e w'=> ∃ v,e=.returned v∧wpList P ops Q rest (a.put o.dst v) w'):wpList P ops Q (o::rest) a w :=
 vM hw fun K hK=>by
  unfold Oper.wp
  rw[hrun]
  refine h.mono fun e w' ⟨v,e1,h2⟩=> ?_
  subst e1
  exact hK _ _ h2
end
theorem jZ {o:Oper} {a:Act} {x:Operand} (ho:o.op=.load 22 x) {p:Addr} (hx:a.eval x=.pointer (some p)) {A:Option Addr} {n c:Nat} {w:World} (h:w.cell? p=some (.slice A n c)):(execOp a.eval o).run Tryz.prog w=.ok (.value (.slice A n c)) w:=by
 have hr:(loadVar 22 p).run Tryz.prog w=.ok (.slice A n c) w:=by
  have hi:(Tryz.prog.info? 22).map (·.size)=some 1:=by kernel_rfl
  simp[loadVar,Sem.run_bind,isAgg,run_underlying Tryz.underlying22,run_load,h]
 simp[execOp,ho,hx,Instr.loadAt,Instr.sureAddr,Sem.run_bind,hr]
theorem zHM {ops:Array Oper} {Q:Exit→Act→World→Prop} {rest:List Oper} {o:Oper} {a:Act} {w:World} (hg:o.guard=none) (x y:Operand) (ho:o.op=.store 22 x y) (g i:Nat) (A:Option Addr) (n c:Nat) (hx:a.eval x=.pointer (some ⟨g,i,none⟩)) (hy:a.eval y=.slice A n c)
 {t:TypeId} {cs:Array Value} (hB:Blk w g t cs) (hi:i<cs.size) (h:wpList Tryz.prog ops Q rest (a.put o.dst undef) (w.setCell ⟨g,i,none⟩ (.slice A n c))):wpList Tryz.prog ops Q (o::rest) a w :=
 wpList_plain hg fun _ hK=>by
  have hc:=(hB.cell i).trans (wF0 hi)
  have hf:=hB.frozen i
  unfold Oper.wp execOp
  simp only[ho,hx,hy]
  go_simp
  exact hK _ _ h
abbrev Four:=Int×Int×Int×Int
def qM (s:Four→Int) (t:Int→Int→Int→Four) (a b c:List Int):Nat→List Int
 | 0=>[]
 | k+1=>qM s t a b c k++[s (t (a.getD k 0) (b.getD k 0) (c.getD k 0))]
theorem vI (s:Four→Int) (t:Int→Int→Int→Four) (a b c:List Int): ∀ k,(qM s t a b c k).length=k
 | 0=>rfl
 | k+1=>by rw[qM,wF1,vI s t a b c k];rfl
def zBM (t:Int→Int→Int→Four) (L:List (List Int)):List (List Int) :=
 match L with
 | [a,b,c]=>[qM (·.1) t a b c a.length,qM (·.2.1) t a b c a.length,qM (·.2.2.1) t a b c a.length]
 | _=>L
def zEy (f:FuncId) (t:Int→Int→Int→Four):Prop:= ∀ (a b c:Int) (w:World),Calls Tryz.prog f #[.int .i64 a,.int .i64 b,.int .i64 c] w fun e w'=>e=.returned (.tuple #[.int .i64 (t a b c).1,.int .i64 (t a b c).2.1,.int .i64 (t a b c).2.2.1,.int .i64 (t a b c).2.2.2])∧Ext w w'
theorem uT:(Tryz.prog.info? 22).map (·.size)=some 1:=by kernel_rfl
theorem row_at {w:World} {B:Option Addr} {d i:Nat} {l:List Int} (h:SL w 1 (.slice B l.length d) l.length (ints l)) (hi:i<l.length): ∃ ad,B=some ad∧ad.block<w.heap.size∧w.cell? (ad.add i)=some (.int .i64 (l.getD i 0)):=by
 obtain⟨ad,u,hB,hb,hk,hc⟩:=h.at1 hi
 rw[ints,wC0,wA2 hi] at hk
 injection hk with hk
 subst hk
 refine⟨ad,hB,hb, ?_⟩
 rw[hc,wF2,wA2 hi]
 rfl
def RowsF (w:World) (B:Nat) (A:Option Addr) (n c:Nat) (L:List (List Int)):Prop :=
 ∃ vs:List Value,SL w 1 (.slice A n c) n vs∧L.length=n∧(∀ ad,A=some ad→B≤ad.block)∧ ∀ (k:Nat) (l:List Int),L[k]? =some l→ ∃ (D:Option Addr) (d:Nat),vs[k]? =some (Value.slice D l.length d)∧SL w 1 (.slice D l.length d) l.length (ints l)∧ ∀ ad,D=some ad→B≤ad.block
theorem RowsF.rows {w:World} {B n c:Nat} {A:Option Addr} {L:List (List Int)} (h:RowsF w B A n c L):RowsS w A n c L:=by
 obtain⟨vs,h1,h2, -,h3⟩:=h
 exact⟨vs,h1,h2,fun k l hl=>by obtain⟨D,d,e,hs, -⟩:=h3 k l hl;exact⟨D,d,e,hs⟩⟩
theorem RowsF.mono {w:World} {B B' n c:Nat} {A:Option Addr} {L:List (List Int)} (h:RowsF w B A n c L) (hB:B'≤B):RowsF w B' A n c L:=by
 obtain⟨vs,h1,h2,h4,h3⟩:=h
 exact⟨vs,h1,h2,fun ad e=>wD1 hB (h4 ad e),fun k l hl=>by obtain⟨D,d,e,hs,hd⟩:=h3 k l hl;exact⟨D,d,e,hs,fun ad e=>wD1 hB (hd ad e)⟩⟩
theorem RowsF.upd {S:Nat→Prop} {w w':World} {B n c:Nat} {A:Option Addr} {L:List (List Int)} (h:RowsF w B A n c L) (hu:Upd S w w') (hS: ∀ x,S x→x<B):RowsF w' B A n c L:=by
 obtain⟨vs,h1,h2,h4,h3⟩:=h
 exact⟨vs,h1.upd hu (fun ad e q=>by have:=h4 ad e;have:=hS _ q;omega),h2,h4,fun k l hl=>by
  obtain⟨D,d,e,hs,hd⟩:=h3 k l hl
  exact⟨D,d,e,hs.upd hu (fun ad e q=>by have:=hd ad e;have:=hS _ q;omega),hd⟩⟩
theorem rows_mkF {w:World} {g B:Nat} {T:TypeId} {v0 v1 v2:Value} {a b c:List Int} (hg:Blk w g T #[v0,v1,v2]) (hB:B≤g) (h0: ∃ A d,v0=.slice A a.length d∧SL w 1 v0 a.length (ints a)∧ ∀ ad,A=some ad→B≤ad.block) (h1: ∃ A d,v1=.slice A b.length d∧SL w 1 v1 b.length (ints b)∧ ∀ ad,A=some ad→B≤ad.block) (h2: ∃ A d,v2=.slice A c.length d∧SL w 1 v2 c.length (ints c)∧ ∀ ad,A=some ad→B≤ad.block) :
 RowsF w B (some ⟨g,0,none⟩) 3 3 [a,b,c]:=by
 refine⟨[v0,v1,v2],hg.sl (size:=1) rfl (by omega) (by omega),rfl,fun ad e=>by cases e;exact hB,fun k l hl=> ?_⟩
 rcases k with _ | _ | _ | k
 ·injection hl with hl;subst hl;obtain⟨A,d,rfl,hs,hd⟩:=h0;exact⟨A,d,rfl,hs,hd⟩
 ·injection hl with hl;subst hl;obtain⟨A,d,rfl,hs,hd⟩:=h1;exact⟨A,d,rfl,hs,hd⟩
 ·injection hl with hl;subst hl;obtain⟨A,d,rfl,hs,hd⟩:=h2;exact⟨A,d,rfl,hs,hd⟩
 ·simp at hl
theorem zJG {L:List (List Int)} (h:L.length=3): ∃ a b c,L=[a,b,c]:=by
 match L,h with
 | [a,b,c],_=>exact⟨a,b,c,rfl⟩
theorem zGf (t:Int→Int→Int→Four) {L:List (List Int)} (h:L.length≠3):zBM t L=L:=by
 unfold zBM
 split
 ·exact absurd rfl h
 ·rfl
def OwnV (w:World) (base:Nat) (e:TypeId) (size:Nat) (v:Value) (n:Nat) (xs:List Value):Prop:= ∃ A c,v=.slice A n c∧w.ownsRow base e size (.slice A n c) n xs
theorem OwnV.mk {w:World} {base:Nat} {e:TypeId} {size n:Nat} {v:Value} {xs:List Value} (h:w.ownsRow base e size v n xs):OwnV w base e size v n xs:=by
 obtain⟨A,c,rfl, -, -⟩:=zBN h
 exact⟨A,c,rfl,h⟩
theorem OwnV.nil (w:World) (base:Nat) (e:TypeId) (size:Nat):OwnV w base e size (.slice none 0 0) 0 []:=⟨none,0,rfl,World.ownsRow_nil _ _ _ _⟩
theorem qU {w:World} {base:Nat} {e:TypeId} {size n c:Nat} {A:Option Addr} {xs:List Value} (h:w.ownsRow base e size (.slice A n c) n xs):SL w size (.slice A n c) n xs∧ ∀ ad,A=some ad→base≤ad.block:=by
 obtain⟨B,d,e1,h1,h2⟩:=zBN h
 injection e1 with e1 e2 e3
 subst e1 e3
 exact⟨h1,h2⟩
def zeros64:List Int:=List.replicate 64 0
theorem built48:Tryz.prog.built 33 []=some (bv zeros64):=by kernel_rfl
theorem qN:(Tryz.prog.info? 33).bind (·.zero)=some (.agg (bv zeros64)):=by kernel_rfl
theorem zGY (k m:Nat) (hk:0<k):madeCells (bv (List.replicate k 0)) m=bv (List.replicate m 0):=by
 apply Array.ext
 ·rw[size_madeCells,zJ,wF3]
 ·intro i h1 h2
  have hm:i<m:=by simpa [size_madeCells] using h1
  have h64:i%k<k:=wF4 _ hk
  simp[madeCells,bv,ints,h64]
theorem infoBlk: ∃ i,Tryz.prog.info? 33=some i∧i.zero=some (.agg (bv zeros64))∧i.size=64∧i.bytes=512:=by
 have h1:=zF
 have h2:=qN
 have h3:(Tryz.prog.info? 33).map (·.bytes)=some 512:=by kernel_rfl
 cases hq:Tryz.prog.info? 33 with
 | none=>rw[hq] at h1;cases h1
 | some i =>
   rw[hq] at h1 h2 h3
   exact⟨i,rfl,by simpa using h2,by simpa using h1,by simpa using h3⟩
theorem zDg {ops:Array Oper} {rest:List Oper} {o:Oper} {a:Act} {w:World} {Q:Exit→Act→World→Prop} (hg:o.guard=none) (dst:Option Tmp) (hdst:o.dst=dst) (x y:Operand) (ho:o.op=.makeSlice 25 x y) (n:Nat) (hn:n≤100000)
 (hx:a.eval x=.int .i64 (n:Int)) (hy:a.eval y=.int .i64 (n:Int))
 (h: ∀ w1 g,Blk w1 g 33 (bv (List.replicate (n*64) 0))→Ext w w1→w.heap.size≤g→wpList Tryz.prog ops Q rest (a.put dst (.slice (some ⟨g,0,none⟩) n n)) w1):wpList Tryz.prog ops Q (o::rest) a w:=by
 subst hdst
 obtain⟨i,hi,hz,hs,hb⟩:=infoBlk
 have hr:=run_makeSlice (P:=Tryz.prog) w 25 33 i (.agg (bv zeros64)) Tryz.underlying25 hi hz .i64 .i64 (n:Int) (n:Int) (by omega) (wF5 _) (by rw[hs];omega) (by rw[hb];omega) (by omega)
 rw[wE8,hs,show (Value.agg (bv zeros64)).cells=bv (List.replicate 64 0) from rfl,zGY 64 _ (by omega)] at hr
 refine wpList_plain hg fun _ hK=> ?_
 unfold Oper.wp execOp
 simp only[ho,hx,hy,Sem.run_bind,hr,Result.andThen_ok,Sem.run_pure]
 exact hK _ _ (h _ _ (Blk.new w _ _) ((Ext.refl w).alloc _) (wA5 _))
theorem infoInt: ∃ i,Tryz.prog.info? 3=some i∧i.zero=some (.int .i64 0)∧i.size=1∧i.bytes=8:=by
 have h1:(Tryz.prog.info? 3).map (fun i=>(i.zero,i.size,i.bytes))=some (some (.int .i64 0),1,8):=by kernel_rfl
 cases hq:Tryz.prog.info? 3 with
 | none=>rw[hq] at h1;cases h1
 | some i =>
   rw[hq] at h1
   simp at h1
   exact⟨i,rfl,h1.1,h1.2.1,h1.2.2⟩
theorem jK {ops:Array Oper} {rest:List Oper} {o:Oper} {a:Act} {w:World} {Q:Exit→Act→World→Prop} (hg:o.guard=none) (dst:Option Tmp) (hdst:o.dst=dst) (x y:Operand) (ho:o.op=.makeSlice 22 x y) (n:Nat) (hn:n≤1000000)
 (hx:a.eval x=.int .i64 (n:Int)) (hy:a.eval y=.int .i64 (n:Int))
 (h: ∀ w1 g,Blk w1 g 3 (bv (List.replicate n 0))→Ext w w1→w.heap.size≤g→wpList Tryz.prog ops Q rest (a.put dst (.slice (some ⟨g,0,none⟩) n n)) w1):wpList Tryz.prog ops Q (o::rest) a w:=by
 subst hdst
 obtain⟨i,hi,hz,hs,hb⟩:=infoInt
 have hr:=run_makeSlice (P:=Tryz.prog) w 22 3 i (.int .i64 0) Tryz.underlying22 hi hz .i64 .i64 (n:Int) (n:Int) (by omega) (wF5 _) (by rw[hs];omega) (by rw[hb];omega) (by omega)
 rw[wE8,hs,show (Value.int .i64 0).cells=bv (List.replicate 1 0) from rfl,zGY 1 _ (by omega),wE9] at hr
 refine wpList_plain hg fun _ hK=> ?_
 unfold Oper.wp execOp
 simp only[ho,hx,hy,Sem.run_bind,hr,Result.andThen_ok,Sem.run_pure]
 exact hK _ _ (h _ _ (Blk.new w _ _) ((Ext.refl w).alloc _) (wA5 _))
end Go.Proofs.YtkggcjdlpendfaaGreatDoor
