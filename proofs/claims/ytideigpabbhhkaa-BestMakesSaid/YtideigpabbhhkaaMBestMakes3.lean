/- Contracts for the law BestMakes, part 3: what the functions that it reaches answer, for all arguments that the theorems name. -/
import Derived.Test.YtideigpabbhhkaaMBestMakes1
import Derived.Test.YtideigpabbhhkaaMBestMakes2
import Derived.Deep.QuietTactic
/- slices.IndexFunc, slices.ContainsFunc over a []int, whatever the function value. -/
namespace Go.Proofs.Ytideigpabbhhkaa
set_option linter.unusedVariables false
set_option linter.unusedSimpArgs false
open Go.RowKit
def Enters (P : Program) (f : FuncId) : Prop := ∀ (args : Array Value) (w : World), (callFunc f args).run P w = .ok (.enter f args) w
theorem enters_of {P : Program} {f : FuncId} {fn : Func} {c : Code} (hf : P.funcs[f]? = some fn) (hname : (fn.name == "runtime.NumGoroutine") = false) (hb : fn.body = some c) : Enters P f := by
  intro args w
  have hn : ¬ fn.name = "runtime.NumGoroutine" := by simpa using hname
  simp [callFunc, hf, hb, hn]
def idxOf (p : Int → Bool) (zs : List Int) : Int := match zs.findIdx? p with | some k => k | none => -1
theorem indexFunc_any (g : Nat) (cap : Array Value) (p : Int → Bool) (eg : Enters Try.prog g) (v : Value) (zs : List Int) (w : World) (hs : SL w 1 v zs.length (ints zs))
    (hp : ∀ z ∈ zs, Calls Try.prog g (#[.int .i64 z] ++ cap) w fun e w' => e = .returned (.bool (p z)) ∧ w = w') :
    Calls Try.prog 40 #[v, .func (.func g) #[] cap] w fun e w' => e = .returned (.int .i64 (idxOf p zs)) ∧ w = w' := by
  have hs' := hs
  obtain ⟨A, c, rfl, hc1, hc2, -, -⟩ := hs'
  go_enter Try.func40, Try.ntmps40
  go_wp2_with fail
  go_loop [8] (fun i => ∃ k : Nat, k ≤ zs.length ∧ i = .int .i64 k ∧ ∀ z ∈ zs.take k, p z = false) (fun i => zs.length - (intOf i).toNat)
  case atStart => exact ⟨0, by omega, rfl, by simp⟩
  case round =>
    obtain ⟨k, hk, rfl, ht⟩ := hrel
    have HT : Hid (∀ z ∈ zs.take k, p z = false) := ht
    clear ht
    by_cases hlt : k < zs.length
    · obtain ⟨ad, u, rfl, -, hx, hcell⟩ := hs.at1 hlt
      obtain ⟨_, rfl⟩ := ints_at _ _ _ hx
      clear hx
      have hcall := hp zs[k] (List.getElem_mem _)
      have HC : Hid (Calls Try.prog g (#[.int .i64 zs[k]] ++ cap) w fun e w' => e = .returned (.bool (p zs[k])) ∧ w = w') := hcall
      have HP : Hid (∀ z ∈ zs, Calls Try.prog g (#[.int .i64 z] ++ cap) w fun e w' => e = .returned (.bool (p z)) ∧ w = w') := hp
      clear hcall hp
      unfold Enters at eg
      by_cases hz : p zs[k] = true
      · have hfin : idxOf p zs = k := by
          unfold idxOf
          have : zs.findIdx? p = some k := by
            rw [List.findIdx?_eq_some_iff_getElem]
            refine ⟨hlt, hz, fun j hj => ?_⟩
            have := HT.out zs[j] (by
              rw [List.mem_take_iff_getElem]
              exact ⟨j, by omega, rfl⟩)
            simp [this]
          rw [this]
        have HF := hid_ hfin
        clear hfin
        go_wp2_with fail
        refine HC.out.mono ?_
        rintro e w' ⟨rfl, rfl⟩
        rw [hz]; clear hz
        go_wp2
        go_ret
        exact ⟨by rw [HF.out]; rfl, rfl⟩
      · have hz' : p zs[k] = false := by simpa using hz
        have HZ := hid_ hz'
        clear hz
        go_wp2_with fail
        refine HC.out.mono ?_
        rintro e w' ⟨rfl, rfl⟩
        rw [hz']; clear hz'
        go_wp2
        go_round
        case rel =>
          refine ⟨k + 1, by omega, by go_num, fun z hz => ?_⟩
          rw [List.take_succ_eq_append_getElem hlt] at hz
          rcases List.mem_append.1 hz with h1 | h1
          · exact HT.out z h1
          · simp at h1; subst h1; exact HZ.out
        case measure => simp [intOf]; omega
    · have hfin : idxOf p zs = -1 := by
        unfold idxOf
        have : zs.findIdx? p = none := by
          rw [List.findIdx?_eq_none_iff]
          have h := HT.out
          rwa [List.take_of_length_le (by omega)] at h
        rw [this]
      have HF := hid_ hfin
      clear hfin
      go_wp2
      go_ret
      exact ⟨by rw [HF.out]; rfl, rfl⟩
theorem idxOf_ge (p : Int → Bool) (zs : List Int) : decide (idxOf p zs ≥ 0) = zs.any p := by
  unfold idxOf
  cases h : zs.findIdx? p with
  | none =>
    have : zs.any p = false := by rw [List.any_eq_false]; intro x hx; have := List.findIdx?_eq_none_iff.1 h x hx; simp [this]
    simp [this]
  | some k =>
    have : zs.any p = true := by
      rw [List.any_eq_true]
      obtain ⟨hk, hp, -⟩ := List.findIdx?_eq_some_iff_getElem.1 h
      exact ⟨_, List.getElem_mem hk, hp⟩
    simp [this]
theorem containsFunc_any (g : Nat) (cap : Array Value) (p : Int → Bool) (eg : Enters Try.prog g) (v : Value) (zs : List Int) (w : World) (hs : SL w 1 v zs.length (ints zs))
    (hp : ∀ z ∈ zs, Calls Try.prog g (#[.int .i64 z] ++ cap) w fun e w' => e = .returned (.bool (p z)) ∧ w = w') :
    Calls Try.prog 35 #[v, .func (.func g) #[] cap] w fun e w' => e = .returned (.bool (zs.any p)) ∧ w = w' := by
  have HP := hid_ hp
  have HG := hid_ eg
  clear hp eg
  go_enter Try.func35, Try.ntmps35
  go_wp2_with (go_at_call 40; refine (indexFunc_any g cap p HG.out v zs _ hs HP.out).mono ?_; rintro e w' ⟨rfl, rfl⟩)
  go_ret
  exact ⟨by rw [← idxOf_ge]; rfl, rfl⟩
end Go.Proofs.Ytideigpabbhhkaa
/- api.Block by value: the facts of its type, and the contracts on whether all its numbers lie within bounds. -/
namespace Go.Proofs.Ytideigpabbhhkaa
set_option linter.unusedVariables false
set_option linter.unusedSimpArgs false
open Go.RowKit
end Go.Proofs.Ytideigpabbhhkaa
/- Runs of single operations on integers, said once. -/
namespace Go.Proofs.Ytideigpabbhhkaa
set_option linter.unusedVariables false
set_option linter.unusedSimpArgs false
open Go.RowKit
theorem run_mulI (x y z : Int) (h : IntKind.i64.wrap (x * y) = z) (W : World) : (binOp .mul 3 (.int .i64 x) (.int .i64 y)).run Try.prog W = .ok (.int .i64 z) W := by
  subst h; go_simp
theorem run_addI (x y z : Int) (h : IntKind.i64.wrap (x + y) = z) (W : World) : (binOp .add 3 (.int .i64 x) (.int .i64 y)).run Try.prog W = .ok (.int .i64 z) W := by
  subst h; go_simp
theorem run_loadI (W : World) (p : Addr) (z : Int) (h : W.cell? p = some (.int .i64 z)) : (Instr.loadAt 3 (.pointer (some p))).run Try.prog W = .ok (.int .i64 z) W := by
  go_simp
theorem guardI (op : BinOp) (x y : Operand) (v w : Int) (W : World) : (eqGuard op 3 x y (.int .i64 v) (.int .i64 w)).run Try.prog W = .ok () W := by
  cases op <;> go_simp
theorem wp_storeI {o : Oper} {a : Act} {w : World} {K : Act → World → Prop} {Q : Exit → Act → World → Prop} (x y : Operand) (ho : o.op = .store 3 x y) (p : Addr) (z : Int) (hx : a.eval x = .pointer (some p)) (hy : a.eval y = .int .i64 z)
    (u : Value) (hc : w.cell? p = some u) (hf : w.frozen? p = false) (h : K (a.put o.dst undef) (w.setCell p (.int .i64 z))) : o.wp Try.prog a w K Q := by
  unfold Oper.wp execOp
  simp only [ho, hx, hy]
  go_simp
  exact h
end Go.Proofs.Ytideigpabbhhkaa
/- Runs of single operations as facts (ex_..): for drawn regions (lx_run, lx_read) and for others (wl_run). -/
namespace Go.Proofs.Ytideigpabbhhkaa
set_option linter.unusedVariables false
set_option linter.unusedSimpArgs false
open Go.RowKit
section
variable {o : Oper} {a : Act}
theorem ex_move {P : Program} {x : Operand} (ho : o.op = .move x) {v : Value} (hx : a.eval x = v) (w : World) : (execOp a.eval o).run P w = .ok (.value v) w := by simp [execOp, ho, hx]
theorem ex_assign {P : Program} {x : Operand} (ho : o.op = .assign x) {v : Value} (hx : a.eval x = v) (w : World) : (execOp a.eval o).run P w = .ok (.value v) w := by simp [execOp, ho, hx]
theorem ex_bin {op : BinOp} {x y : Operand} {t2 : TypeId} (ho : o.op = .binOp op 3 x y t2) {m n : Int} (hx : a.eval x = .int .i64 m) (hy : a.eval y = .int .i64 n) {v : Value}
    (hr : ∀ w, (binOp op 3 (.int .i64 m) (.int .i64 n)).run Try.prog w = .ok v w) (w : World) : (execOp a.eval o).run Try.prog w = .ok (.value v) w := by
  simp [execOp, ho, hx, hy, guardN, hr]
theorem ex_addN {x y : Operand} {t2 : TypeId} (ho : o.op = .binOp .add 3 x y t2) {i d : Nat} (hx : a.eval x = .int .i64 (i : Int)) (hy : a.eval y = .int .i64 (d : Int)) (h : i + d < 1000000000000) (w : World) :
    (execOp a.eval o).run Try.prog w = .ok (.value (.int .i64 ((i + d : Nat) : Int))) w := ex_bin ho hx hy (run_addN i d h) w
theorem ex_subN {x y : Operand} {t2 : TypeId} (ho : o.op = .binOp .sub 3 x y t2) {i d : Nat} (hx : a.eval x = .int .i64 (i : Int)) (hy : a.eval y = .int .i64 (d : Int)) (h : i < 1000000000000) (h2 : d ≤ i) (w : World) :
    (execOp a.eval o).run Try.prog w = .ok (.value (.int .i64 ((i - d : Nat) : Int))) w := ex_bin ho hx hy (run_subN i d h h2) w
theorem ex_mulN {x y : Operand} {t2 : TypeId} (ho : o.op = .binOp .mul 3 x y t2) {i d : Nat} (hx : a.eval x = .int .i64 (i : Int)) (hy : a.eval y = .int .i64 (d : Int)) (h : i * d < 1000000000000) (w : World) :
    (execOp a.eval o).run Try.prog w = .ok (.value (.int .i64 ((i * d : Nat) : Int))) w := ex_bin ho hx hy (run_mulN i d _ rfl h) w
theorem ex_quoN {x y : Operand} {t2 : TypeId} (ho : o.op = .binOp .quo 3 x y t2) {i d : Nat} (hx : a.eval x = .int .i64 (i : Int)) (hy : a.eval y = .int .i64 (d : Int)) (h : i < 1000000000000) (h2 : 0 < d) (w : World) :
    (execOp a.eval o).run Try.prog w = .ok (.value (.int .i64 ((i / d : Nat) : Int))) w := ex_bin ho hx hy (run_quoN i d h h2) w
theorem ex_remN {x y : Operand} {t2 : TypeId} (ho : o.op = .binOp .rem 3 x y t2) {i d : Nat} (hx : a.eval x = .int .i64 (i : Int)) (hy : a.eval y = .int .i64 (d : Int)) (h : i < 1000000000000) (h2 : 0 < d) (w : World) :
    (execOp a.eval o).run Try.prog w = .ok (.value (.int .i64 ((i % d : Nat) : Int))) w := ex_bin ho hx hy (run_remN i d h h2) w
theorem ex_addI {x y : Operand} {t2 : TypeId} (ho : o.op = .binOp .add 3 x y t2) {i d : Int} (hx : a.eval x = .int .i64 i) (hy : a.eval y = .int .i64 d) (h : -9223372036854775808 ≤ i + d ∧ i + d ≤ 9223372036854775807) (w : World) :
    (execOp a.eval o).run Try.prog w = .ok (.value (.int .i64 (i + d))) w := ex_bin ho hx hy (run_addI i d _ (IntWalk.i64_in _ h)) w
theorem run_subI (x y z : Int) (h : IntKind.i64.wrap (x - y) = z) (W : World) : (binOp .sub 3 (.int .i64 x) (.int .i64 y)).run Try.prog W = .ok (.int .i64 z) W := by
  subst h; go_simp
theorem ex_subI {x y : Operand} {t2 : TypeId} (ho : o.op = .binOp .sub 3 x y t2) {i d : Int} (hx : a.eval x = .int .i64 i) (hy : a.eval y = .int .i64 d) (h : -9223372036854775808 ≤ i - d ∧ i - d ≤ 9223372036854775807) (w : World) :
    (execOp a.eval o).run Try.prog w = .ok (.value (.int .i64 (i - d))) w := ex_bin ho hx hy (run_subI i d _ (IntWalk.i64_in _ h)) w
theorem ex_mulI {x y : Operand} {t2 : TypeId} (ho : o.op = .binOp .mul 3 x y t2) {i d : Int} (hx : a.eval x = .int .i64 i) (hy : a.eval y = .int .i64 d) (h : -9223372036854775808 ≤ i * d ∧ i * d ≤ 9223372036854775807) (w : World) :
    (execOp a.eval o).run Try.prog w = .ok (.value (.int .i64 (i * d))) w := ex_bin ho hx hy (run_mulI i d _ (IntWalk.i64_in _ h)) w
theorem ex_minN {x y : Operand} {ats : Array TypeId} (ho : o.op = .call { callee := .builtin .min, args := #[x, y], argTypes := ats }) {i d : Nat} (hx : a.eval x = .int .i64 (i : Int)) (hy : a.eval y = .int .i64 (d : Int)) (w : World) :
    (execOp a.eval o).run Try.prog w = .ok (.value (.int .i64 ((min i d : Nat) : Int))) w := by
  simp [execOp, ho, hx, hy, resolve, invoke, builtin, Builtin.min_, Builtin.min2]
  split <;> omega
theorem ex_maxI {x y : Operand} {ats : Array TypeId} (ho : o.op = .call { callee := .builtin .max, args := #[x, y], argTypes := ats }) {i d : Int} (hx : a.eval x = .int .i64 i) (hy : a.eval y = .int .i64 d) (w : World) :
    (execOp a.eval o).run Try.prog w = .ok (.value (.int .i64 (max i d))) w := by
  have e : (if i < d then d else i) = max i d := by split <;> omega
  simp [execOp, ho, hx, hy, resolve, invoke, builtin, Builtin.max_, Builtin.max2, e]
theorem ex_minI {x y : Operand} {ats : Array TypeId} (ho : o.op = .call { callee := .builtin .min, args := #[x, y], argTypes := ats }) {i d : Int} (hx : a.eval x = .int .i64 i) (hy : a.eval y = .int .i64 d) (w : World) :
    (execOp a.eval o).run Try.prog w = .ok (.value (.int .i64 (min i d))) w := by
  have e : (if d < i then d else i) = min i d := by split <;> omega
  simp [execOp, ho, hx, hy, resolve, invoke, builtin, Builtin.min_, Builtin.min2, e]
theorem ex_extract {P : Program} {x : Operand} {n : Nat} (ho : o.op = .extract x n) {vs : Array Value} (hx : a.eval x = .tuple vs) {v : Value} (hv : vs[n]? = some v) (w : World) : (execOp a.eval o).run P w = .ok (.value v) w := by
  simp [execOp, ho, hx, Instr.extract, hv]
theorem guardG (op : BinOp) (t : TypeId) (x y : Operand) (k k' : IntKind) (v w : Int) {P : Program} (W : World) : (eqGuard op t x y (.int k v) (.int k' w)).run P W = .ok () W := by
  cases op <;> simp [eqGuard]
theorem ex_cmp {P : Program} {op : BinOp} {t : TypeId} {x y : Operand} {t2 : TypeId} (ho : o.op = .binOp op t x y t2) {m n : Int} (hx : a.eval x = .int .i64 m) (hy : a.eval y = .int .i64 n) {b : Bool}
    (hr : ∀ w, (binOp op t (.int .i64 m) (.int .i64 n)).run P w = .ok (.bool b) w) (w : World) : (execOp a.eval o).run P w = .ok (.value (.bool b)) w := by
  simp [execOp, ho, hx, hy, guardG, hr]
theorem ex_lss {P : Program} {t : TypeId} {x y : Operand} {t2 : TypeId} (ho : o.op = .binOp .lss t x y t2) {m n : Int} (hx : a.eval x = .int .i64 m) (hy : a.eval y = .int .i64 n) {b : Bool} (h : decide (m < n) = b) (w : World) :
    (execOp a.eval o).run P w = .ok (.value (.bool b)) w := ex_cmp ho hx hy (fun w => by subst h; simp [binOp, Op.intCmp]) w
theorem ex_gtr {P : Program} {t : TypeId} {x y : Operand} {t2 : TypeId} (ho : o.op = .binOp .gtr t x y t2) {m n : Int} (hx : a.eval x = .int .i64 m) (hy : a.eval y = .int .i64 n) {b : Bool} (h : decide (n < m) = b) (w : World) :
    (execOp a.eval o).run P w = .ok (.value (.bool b)) w := ex_cmp ho hx hy (fun w => by subst h; simp [binOp, Op.intCmp]) w
theorem ex_leq {P : Program} {t : TypeId} {x y : Operand} {t2 : TypeId} (ho : o.op = .binOp .leq t x y t2) {m n : Int} (hx : a.eval x = .int .i64 m) (hy : a.eval y = .int .i64 n) {b : Bool} (h : decide (m ≤ n) = b) (w : World) :
    (execOp a.eval o).run P w = .ok (.value (.bool b)) w := ex_cmp ho hx hy (fun w => by subst h; simp [binOp, Op.intCmp]) w
theorem ex_geq {P : Program} {t : TypeId} {x y : Operand} {t2 : TypeId} (ho : o.op = .binOp .geq t x y t2) {m n : Int} (hx : a.eval x = .int .i64 m) (hy : a.eval y = .int .i64 n) {b : Bool} (h : decide (n ≤ m) = b) (w : World) :
    (execOp a.eval o).run P w = .ok (.value (.bool b)) w := ex_cmp ho hx hy (fun w => by subst h; simp [binOp, Op.intCmp]) w
theorem ex_eql {P : Program} {t : TypeId} {x y : Operand} {t2 : TypeId} (ho : o.op = .binOp .eql t x y t2) {m n : Int} (hx : a.eval x = .int .i64 m) (hy : a.eval y = .int .i64 n) {b : Bool} (h : decide (m = n) = b) (w : World) :
    (execOp a.eval o).run P w = .ok (.value (.bool b)) w := ex_cmp ho hx hy (fun w => by subst h; by_cases e : m = n <;> simp [binOp, Op.intCmp, e]) w
theorem ex_neq {P : Program} {t : TypeId} {x y : Operand} {t2 : TypeId} (ho : o.op = .binOp .neq t x y t2) {m n : Int} (hx : a.eval x = .int .i64 m) (hy : a.eval y = .int .i64 n) {b : Bool} (h : decide (m ≠ n) = b) (w : World) :
    (execOp a.eval o).run P w = .ok (.value (.bool b)) w := ex_cmp ho hx hy (fun w => by subst h; by_cases e : m = n <;> simp [binOp, Op.intCmp, e]) w
theorem ex_not {P : Program} {t : TypeId} {x : Operand} (ho : o.op = .unOp .not t x) {b : Bool} (hx : a.eval x = .bool b) (w : World) : (execOp a.eval o).run P w = .ok (.value (.bool (!b))) w := by
  simp [execOp, ho, hx, Op.unary]
theorem ex_pick {P : Program} {c x y : Operand} (ho : o.op = .pick c x y) {b : Bool} (hb : a.eval c = .bool b) {v : Value} (hv : (if b then a.eval x else a.eval y) = v) (w : World) : (execOp a.eval o).run P w = .ok (.value v) w := by
  subst hv; simp [execOp, ho, hb, asBool]
theorem ex_build0 {P : Program} {t : TypeId} (ho : o.op = .build t #[]) {cs : Array Value} (hf : P.built t [] = some cs) (w : World) : (execOp a.eval o).run P w = .ok (.value (.agg cs)) w := by
  simp only [execOp, ho, Sem.run_bind, run_build w t (#[].map fun (i, x) => (i, a.eval x)) cs (by simpa using hf), Result.andThen_ok, Sem.run_pure]
theorem sizeOf_of {P : Program} {e : TypeId} {sz : Nat} (hs : (P.info? e).map (·.size) = some sz) (w : World) : (sizeOf e).run P w = .ok sz w := by
  cases hq : P.info? e with
  | none => simp [hq] at hs
  | some i => have hz : i.size = sz := by simpa [hq] using hs
              simp [sizeOf, typeInfo, hq, hz]
theorem ex_ixSl {P : Program} {t e : TypeId} {sz : Nat} (ht : P.underlying t = some (.slice e)) (hs : (P.info? e).map (·.size) = some sz) {x ix : Operand} (ho : o.op = .indexAddr t x ix) {ad : Addr} {n c i : Nat} {k : IntKind} (hx : a.eval x = .slice (some ad) n c) (hi : a.eval ix = .int k (i : Int)) (h : i < n) (w : World) :
    (execOp a.eval o).run P w = .ok (.value (.pointer (some (ad.add (i * sz))))) w := by
  have hc : ((0 : Int) ≤ (i : Int) ∧ (i : Int) < (n : Int)) = True := by simp; omega
  simp only [execOp, ho, hx, hi, Instr.indexAt, Sem.run_bind, run_underlying ht, Result.andThen_ok, asIntOf, Sem.run_pure, hc, if_true, sizeOf_of hs, Int.toNat_natCast]
theorem ex_ixArr {P : Program} {t e : TypeId} {sz m : Nat} (ht : P.underlying t = some (.array m e)) (hs : (P.info? e).map (·.size) = some sz) {x ix : Operand} (ho : o.op = .indexAddr t x ix) {ad : Addr} {i : Nat} {k : IntKind} (hx : a.eval x = .pointer (some ad)) (hi : a.eval ix = .int k (i : Int)) (h : i < m) (w : World) :
    (execOp a.eval o).run P w = .ok (.value (.pointer (some (ad.add (i * sz))))) w := by
  have hc : ((0 : Int) ≤ (i : Int) ∧ (i : Int) < (m : Int)) = True := by simp; omega
  simp only [execOp, ho, hx, hi, Instr.indexAt, Instr.sureAddr, Sem.run_bind, run_underlying ht, Result.andThen_ok, asIntOf, Sem.run_pure, hc, if_true, sizeOf_of hs, Int.toNat_natCast]
theorem addr_add (g m n : Nat) : (⟨g, m, none⟩ : Addr).add n = ⟨g, m + n, none⟩ := by
  unfold Addr.add
  by_cases hn : n = 0
  · subst hn; rfl
  · rw [if_neg hn]
theorem ex_ixSlG {P : Program} {t e : TypeId} {sz : Nat} (ht : P.underlying t = some (.slice e)) (hs : (P.info? e).map (·.size) = some sz) {x ix : Operand} (ho : o.op = .indexAddr t x ix) {g m n c i : Nat} {k : IntKind} (hx : a.eval x = .slice (some ⟨g, m, none⟩) n c) (hi : a.eval ix = .int k (i : Int)) (h : i < n) (w : World) :
    (execOp a.eval o).run P w = .ok (.value (.pointer (some ⟨g, m + i * sz, none⟩))) w := by
  rw [← addr_add]; exact ex_ixSl ht hs ho hx hi h w
theorem ex_ixArrG {P : Program} {t e : TypeId} {sz m : Nat} (ht : P.underlying t = some (.array m e)) (hs : (P.info? e).map (·.size) = some sz) {x ix : Operand} (ho : o.op = .indexAddr t x ix) {g b i : Nat} {k : IntKind} (hx : a.eval x = .pointer (some ⟨g, b, none⟩)) (hi : a.eval ix = .int k (i : Int)) (h : i < m) (w : World) :
    (execOp a.eval o).run P w = .ok (.value (.pointer (some ⟨g, b + i * sz, none⟩))) w := by
  rw [← addr_add]; exact ex_ixArr ht hs ho hx hi h w
theorem ex_ixSl1 {P : Program} {t e : TypeId} (ht : P.underlying t = some (.slice e)) (hs : (P.info? e).map (·.size) = some 1) {x ix : Operand} (ho : o.op = .indexAddr t x ix) {g m n c i : Nat} {k : IntKind} (hx : a.eval x = .slice (some ⟨g, m, none⟩) n c) (hi : a.eval ix = .int k (i : Int)) (h : i < n) (w : World) :
    (execOp a.eval o).run P w = .ok (.value (.pointer (some ⟨g, m + i, none⟩))) w := by
  have := ex_ixSlG ht hs ho hx hi h w
  rwa [Nat.mul_one] at this
theorem ex_ixSl0 {P : Program} {t e : TypeId} (ht : P.underlying t = some (.slice e)) (hs : (P.info? e).map (·.size) = some 1) {x ix : Operand} (ho : o.op = .indexAddr t x ix) {g n c i : Nat} {k : IntKind} (hx : a.eval x = .slice (some ⟨g, 0, none⟩) n c) (hi : a.eval ix = .int k (i : Int)) (h : i < n) (w : World) :
    (execOp a.eval o).run P w = .ok (.value (.pointer (some ⟨g, i, none⟩))) w := by
  have := ex_ixSl1 ht hs ho hx hi h w
  rwa [Nat.zero_add] at this
theorem ex_ixArr1 {P : Program} {t e : TypeId} {m : Nat} (ht : P.underlying t = some (.array m e)) (hs : (P.info? e).map (·.size) = some 1) {x ix : Operand} (ho : o.op = .indexAddr t x ix) {g b i : Nat} {k : IntKind} (hx : a.eval x = .pointer (some ⟨g, b, none⟩)) (hi : a.eval ix = .int k (i : Int)) (h : i < m) (w : World) :
    (execOp a.eval o).run P w = .ok (.value (.pointer (some ⟨g, b + i, none⟩))) w := by
  have := ex_ixArrG ht hs ho hx hi h w
  rwa [Nat.mul_one] at this
theorem ex_ixArr0 {P : Program} {t e : TypeId} {m : Nat} (ht : P.underlying t = some (.array m e)) (hs : (P.info? e).map (·.size) = some 1) {x ix : Operand} (ho : o.op = .indexAddr t x ix) {g i : Nat} {k : IntKind} (hx : a.eval x = .pointer (some ⟨g, 0, none⟩)) (hi : a.eval ix = .int k (i : Int)) (h : i < m) (w : World) :
    (execOp a.eval o).run P w = .ok (.value (.pointer (some ⟨g, i, none⟩))) w := by
  have := ex_ixArr1 ht hs ho hx hi h w
  rwa [Nat.zero_add] at this
theorem ex_loadI {x : Operand} (ho : o.op = .load 3 x) {p : Addr} (hx : a.eval x = .pointer (some p)) {z : Int} {w : World} (h : w.cell? p = some (.int .i64 z)) : (execOp a.eval o).run Try.prog w = .ok (.value (.int .i64 z)) w := by
  simp [execOp, ho, hx, run_loadI w p z h]
end
theorem sizeI : (Try.prog.info? 3).map (·.size) = some 1 := by kernel_rfl
section
variable {P : Program} {ops : Array Oper} {Q : Exit → Act → World → Prop} {rest : List Oper} {o : Oper} {a : Act} {w : World}
theorem wl_run (hg : o.guard = none) (v : Value) (h1 : ∀ w, (execOp a.eval o).run P w = .ok (.value v) w) (h : wpList P ops Q rest (a.put o.dst v) w) : wpList P ops Q (o :: rest) a w :=
  wpList_plain hg fun _ hK => by unfold Oper.wp; rw [h1]; exact hK _ _ h
theorem wl_run_g (hw : Region.wanted o (yielded ops a.tmps) = true) (v : Value) (h1 : ∀ w, (execOp a.eval o).run P w = .ok (.value v) w) (h : wpList P ops Q rest (a.put o.dst v) w) : wpList P ops Q (o :: rest) a w :=
  wpList_wanted hw fun _ hK => by unfold Oper.wp; rw [h1]; exact hK _ _ h
theorem wl_read_g (hw : Region.wanted o (yielded ops a.tmps) = true) (v : Value) (h1 : (execOp a.eval o).run P w = .ok (.value v) w) (h : wpList P ops Q rest (a.put o.dst v) w) : wpList P ops Q (o :: rest) a w :=
  wpList_wanted hw fun _ hK => by unfold Oper.wp; rw [h1]; exact hK _ _ h
theorem wl_skip (hw : Region.wanted o (yielded ops a.tmps) = false) (h : wpList P ops Q rest (a.put o.dst undef) w) : wpList P ops Q (o :: rest) a w :=
  wpList_step fun K hK => by rw [if_neg (by rw [hw]; simp)]; exact hK _ _ h
theorem wl_read (hg : o.guard = none) (v : Value) (h1 : (execOp a.eval o).run P w = .ok (.value v) w) (h : wpList P ops Q rest (a.put o.dst v) w) : wpList P ops Q (o :: rest) a w :=
  wpList_plain hg fun _ hK => by unfold Oper.wp; rw [h1]; exact hK _ _ h
end
theorem wl_storeI {ops : Array Oper} {Q : Exit → Act → World → Prop} {rest : List Oper} {o : Oper} {a : Act} {w : World} (hg : o.guard = none) (x y : Operand) (ho : o.op = .store 3 x y) (g i : Nat) (z : Int) (hx : a.eval x = .pointer (some ⟨g, i, none⟩)) (hy : a.eval y = .int .i64 z)
    {t : TypeId} {cs : Array Value} (hB : Blk w g t cs) (hi : i < cs.size) (h : wpList Try.prog ops Q rest (a.put o.dst undef) (w.setCell ⟨g, i, none⟩ (.int .i64 z))) : wpList Try.prog ops Q (o :: rest) a w :=
  wpList_plain hg fun _ hK => wp_storeI x y ho ⟨g, i, none⟩ z hx hy _ ((hB.cell i).trans (Array.getElem?_eq_getElem hi)) (hB.frozen i) (hK _ _ h)
end Go.Proofs.Ytideigpabbhhkaa
/- Calls of a method of an interface value and of a function value, each by the contract of what it comes to. -/
namespace Go.Proofs.Ytideigpabbhhkaa
set_option linter.unusedVariables false
set_option linter.unusedSimpArgs false
open Go.RowKit
/-- the interface value's method comes to function f, with this receiver -/
def Meth (P : Program) (ty : TypeId) (v : Value) (name : String) (f : FuncId) (recv : Value) : Prop :=
  (∀ w, (method (P.types.size + Made.depth) ty v name).run P w = .ok (f, recv) w) ∧ ∃ fn, P.funcs[f]? = some fn ∧ (fn.name == "runtime.NumGoroutine") = false ∧ fn.body.isSome = true
def Goes (P : Program) (f : FuncId) : Prop := ∃ fn, P.funcs[f]? = some fn ∧ (fn.name == "runtime.NumGoroutine") = false ∧ fn.body.isSome = true
section
variable {P : Program} {ops : Array Oper} {rest : List Oper} {o : Oper} {a : Act} {Q : Exit → Act → World → Prop}
theorem run_invoke (r : Operand) (name : String) (xs : Array Operand) (ts : Array TypeId) (ho : o.op = .call { callee := .invoke r name, args := xs, argTypes := ts }) {ty : TypeId} {v : Value}
    (hr : a.eval r = .iface ty v) {f : FuncId} {recv : Value} (hm : Meth P ty v name f recv) (args : Array Value) (hx : #[recv] ++ xs.map a.eval = args) (w : World) : (execOp a.eval o).run P w = .ok (.enter f args) w := by
  obtain ⟨h1, fn, hf, hname, hb⟩ := hm
  obtain ⟨c, hb⟩ := Option.isSome_iff_exists.1 hb
  have hn : ¬ fn.name = "runtime.NumGoroutine" := by simpa using hname
  subst hx
  have e0 : (#[Value.iface ty v] ++ Array.map a.eval xs)[0]? = some (.iface ty v) := by simp [Array.getElem?_append]
  have e1 : (#[Value.iface ty v] ++ Array.map a.eval xs).extract 1 (#[Value.iface ty v] ++ Array.map a.eval xs).size = xs.map a.eval := by simp
  simp only [execOp, ho, resolve, hr, invoke, Sem.run_bind, Sem.run_pure, Result.andThen_ok, e0, e1]
  simp [callMethod, callFunc, hf, hb, hn, h1, run_program]
theorem run_callv (x : Operand) (xs : Array Operand) (ts : Array TypeId) (ho : o.op = .call { callee := .value x, args := xs, argTypes := ts }) {f : FuncId} {cap : Array Value} (hr : a.eval x = .func (.func f) #[] cap)
    (hm : Goes P f) (args : Array Value) (hx : xs.map a.eval ++ cap = args) (w : World) : (execOp a.eval o).run P w = .ok (.enter f args) w := by
  obtain ⟨fn, hf, hname, hb⟩ := hm
  obtain ⟨c, hb⟩ := Option.isSome_iff_exists.1 hb
  have hn : ¬ fn.name = "runtime.NumGoroutine" := by simpa using hname
  subst hx
  simp [execOp, ho, resolve, hr, Deferred.ofValue, invoke, callFunc, hf, hb, hn, run_program]
theorem wl_enter {w : World} (hw : Region.wanted o (yielded ops a.tmps) = true) {f : FuncId} {args : Array Value} (hrun : ∀ w, (execOp a.eval o).run P w = .ok (.enter f args) w)
    (h : Calls P f args w fun e w' => ∃ v, e = .returned v ∧ wpList P ops Q rest (a.put o.dst v) w') : wpList P ops Q (o :: rest) a w :=
  wpList_wanted hw fun K hK => by
    unfold Oper.wp
    rw [hrun]
    refine h.mono fun e w' ⟨v, e1, h2⟩ => ?_
    subst e1
    exact hK _ _ h2
end
end Go.Proofs.Ytideigpabbhhkaa
/- Slices of packs (best.pack): an element loaded, stored; byWeight. -/
namespace Go.Proofs.Ytideigpabbhhkaa
set_option linter.unusedVariables false
set_option linter.unusedSimpArgs false
open Go.RowKit
abbrev Pk := Int × Value
def cellsP (L : List Pk) : List Value := L.flatMap fun p => [.int .i64 p.1, p.2]
def pkV (p : Pk) : Array Value := #[.int .i64 p.1, p.2]
theorem cellsP_len (L : List Pk) : (cellsP L).length = 2 * L.length := by
  induction L with
  | nil => rfl
  | cons p L ih => simp only [cellsP, List.flatMap_cons, List.length_append, List.length_cons, List.length_nil] at ih ⊢; omega
theorem cellsP_app (a b : List Pk) : cellsP (a ++ b) = cellsP a ++ cellsP b := by simp [cellsP]
theorem cellsP_split (L : List Pk) (i : Nat) (h : i < L.length) (p : Pk) : cellsP (L.set i p) = cellsP (L.take i) ++ ([.int .i64 p.1, p.2] ++ cellsP (L.drop (i + 1))) := by
  rw [List.set_eq_take_append_cons_drop, if_pos h, cellsP_app]
  rfl
theorem cellsP_at (L : List Pk) (i : Nat) (h : i < L.length) : cellsP L = cellsP (L.take i) ++ ([.int .i64 L[i].1, L[i].2] ++ cellsP (L.drop (i + 1))) := by
  have := cellsP_split L i h L[i]
  rwa [List.set_getElem_self] at this
/-- block gd holds these packs, and whatever behind -/
def DS (w : World) (gd : Nat) (L : List Pk) (rest : List Value) : Prop := Blk w gd 59 (cellsP L ++ rest).toArray
theorem sizePk : (Try.prog.info? 59).map (·.size) = some 2 := by kernel_rfl
section
variable {ops : Array Oper} {rest : List Oper} {o : Oper} {ac : Act} {w : World} {Q : Exit → Act → World → Prop}
theorem ex_loadPk {x : Operand} (ho : o.op = .load 59 x) {gd : Nat} {L : List Pk} {tl : List Value} (hB : DS w gd L tl) {i : Nat} (hi : i < L.length) (hx : ac.eval x = .pointer (some ⟨gd, i * 2, none⟩)) :
    (execOp ac.eval o).run Try.prog w = .ok (.value (.agg (pkV L[i]))) w := by
  have hr : w.rangeAt gd (i * 2) [.int .i64 L[i].1, L[i].2] := by
    unfold DS at hB
    rw [cellsP_at L i hi, List.append_assoc, List.append_assoc] at hB
    have hl : (cellsP (L.take i)).length = i * 2 := by rw [cellsP_len, List.length_take]; omega
    intro j v hv
    rw [hB.cell, List.getElem?_toArray, List.getElem?_append_right (by omega), hl, show i * 2 + j - i * 2 = j by omega, List.getElem?_append_left (List.getElem?_eq_some_iff.1 hv).1]
    exact hv
  unfold execOp
  simp only [ho, hx, Instr.loadAt, Instr.sureAddr, Sem.run_bind, Sem.run_pure, Result.andThen_ok, run_loadVar_mid w gd (i * 2) 59 _ _ hr Try.underlying59 rfl sizePk]
  rfl
theorem wl_storePk (hgd : o.guard = none) (x y : Operand) (ho : o.op = .store 59 x y) (gd : Nat) (L : List Pk) (tl : List Value) (hB : DS w gd L tl) (i : Nat) (hi : i < L.length) (p : Pk) (h1 : p.2.oneCell' = true) (hx : ac.eval x = .pointer (some ⟨gd, i * 2, none⟩)) (hy : ac.eval y = .agg (pkV p))
    (h : ∀ w1, DS w1 gd (L.set i p) tl → Upd (fun b => b = gd) w w1 → wpList Try.prog ops Q rest (ac.put o.dst undef) w1) : wpList Try.prog ops Q (o :: rest) ac w := by
  unfold DS at hB h
  rw [cellsP_at L i hi, List.append_assoc, List.append_assoc] at hB
  refine wpList_store_part hgd _ x y ho gd (i * 2) [.int .i64 p.1, p.2] hx hy hB (by rw [cellsP_len, List.length_take]; omega) rfl sizePk (fun v hv => ?_) (fun w1 k1 k2 => h w1 ?_ k2)
  · simp at hv
    rcases hv with rfl | rfl
    · rfl
    · exact h1
  · rw [cellsP_split L i hi p, List.append_assoc, List.append_assoc]
    exact k1
end
def cmpZ (a b : Int) : Int := if a < b then -1 else if b < a then 1 else 0
theorem isNaN_any (a : Int) (w : World) : Calls Try.prog 43 #[.int .i64 a] w fun e w' => e = .returned (.bool false) ∧ w = w' := by
  go_enter Try.func43, Try.ntmps43
  go_wp2_with ((with_reducible show wpList _ _ _ (⟨some 5, _, _, _, _, _⟩ :: _) _ _); refine wl_run rfl (.bool false) (ex_neq rfl rfl rfl (by simp)) ?_)
  go_ret
  exact ⟨rfl, rfl⟩
theorem compare_any (a b : Int) (w : World) : Calls Try.prog 38 #[.int .i64 a, .int .i64 b] w fun e w' => e = .returned (.int .i64 (cmpZ a b)) ∧ w = w' := by
  have h1 := hid_ (isNaN_any a w)
  have h2 := hid_ (isNaN_any b w)
  by_cases hab : a < b
  · have e : cmpZ a b = -1 := by unfold cmpZ; rw [if_pos hab]
    rw [e]
    go_enter Try.func38, Try.ntmps38
    go_wp2_with (first
      | (go_at_call 43; (with_reducible refine h1.out.mono ?_); rintro e w1 ⟨rfl, rfl⟩)
      | (go_at_call 43; (with_reducible refine h2.out.mono ?_); rintro e w1 ⟨rfl, rfl⟩)
      | ((with_reducible show wpList _ _ _ (⟨some 16, _, _, _, _, _⟩ :: _) _ _); refine wl_run rfl (.bool true) (ex_lss rfl rfl rfl (by simpa using hab)) ?_))
    go_ret
    exact ⟨rfl, rfl⟩
  · by_cases hba : b < a
    · have e : cmpZ a b = 1 := by unfold cmpZ; rw [if_neg hab, if_pos hba]
      rw [e]
      go_enter Try.func38, Try.ntmps38
      go_wp2_with (first
        | (go_at_call 43; (with_reducible refine h1.out.mono ?_); rintro e w1 ⟨rfl, rfl⟩)
        | (go_at_call 43; (with_reducible refine h2.out.mono ?_); rintro e w1 ⟨rfl, rfl⟩)
        | ((with_reducible show wpList _ _ _ (⟨some 16, _, _, _, _, _⟩ :: _) _ _); refine wl_run rfl (.bool false) (ex_lss rfl rfl rfl (by simpa using hab)) ?_)
        | ((with_reducible show wpList _ _ _ (⟨some 19, _, _, _, _, _⟩ :: _) _ _); refine wl_run rfl (.bool true) (ex_gtr rfl rfl rfl (by simpa using hba)) ?_))
      go_ret
      exact ⟨rfl, rfl⟩
    · have e : cmpZ a b = 0 := by unfold cmpZ; rw [if_neg hab, if_neg hba]
      rw [e]
      go_enter Try.func38, Try.ntmps38
      go_wp2_with (first
        | (go_at_call 43; (with_reducible refine h1.out.mono ?_); rintro e w1 ⟨rfl, rfl⟩)
        | (go_at_call 43; (with_reducible refine h2.out.mono ?_); rintro e w1 ⟨rfl, rfl⟩)
        | ((with_reducible show wpList _ _ _ (⟨some 16, _, _, _, _, _⟩ :: _) _ _); refine wl_run rfl (.bool false) (ex_lss rfl rfl rfl (by simpa using hab)) ?_)
        | ((with_reducible show wpList _ _ _ (⟨some 19, _, _, _, _, _⟩ :: _) _ _); refine wl_run rfl (.bool false) (ex_gtr rfl rfl rfl (by simpa using hba)) ?_))
      go_ret
      exact ⟨rfl, rfl⟩
theorem byWeight_any (p q : Pk) (w : World) : Calls Try.prog 28 #[.agg (pkV p), .agg (pkV q)] w fun e w' => e = .returned (.int .i64 (cmpZ p.1 q.1)) ∧ Ext w w' := by
  have HC := hid_ (fun W => compare_any p.1 q.1 W)
  have c1 := hid_ (fun (W : World) g (h : Blk W g 59 (pkV p)) => h.cell 0)
  have c2 := hid_ (fun (W : World) g (h : Blk W g 59 (pkV q)) => h.cell 0)
  obtain ⟨a, s⟩ := p
  obtain ⟨b, t⟩ := q
  generalize hp : pkV (a, s) = pv at *
  generalize hq : pkV (b, t) = qv at *
  have e1 : pv[0]? = some (.int .i64 a) := by rw [← hp]; rfl
  have e2 : qv[0]? = some (.int .i64 b) := by rw [← hq]; rfl
  rw [e1] at c1
  rw [e2] at c2
  dsimp only at HC
  clear hp hq e1 e2
  go_enter Try.func28, Try.ntmps28
  go_wp2_with (first
    | ((with_reducible show wpList _ _ _ (⟨some 2, _, _, _, _, _⟩ :: _) _ _); refine wpList_box_abs rfl 59 (.tmp 0) rfl pv rfl ?_; intro w1 g1 hb1 hx1 hg1)
    | ((with_reducible show wpList _ _ _ (⟨some 3, _, _, _, _, _⟩ :: _) _ _); refine wpList_box_abs rfl 59 (.tmp 1) rfl qv rfl ?_; intro w2 g2 hb2 hx2 hg2; have k1 := c1.out _ _ (hb1.ext hx2); have k2 := c2.out _ _ hb2)
    | ((with_reducible show wpList _ _ _ (⟨some 6, _, _, _, _, _⟩ :: _) _ _); refine wl_read rfl (.int .i64 a) (ex_loadI rfl rfl k1) ?_)
    | ((with_reducible show wpList _ _ _ (⟨some 8, _, _, _, _, _⟩ :: _) _ _); refine wl_read rfl (.int .i64 b) (ex_loadI rfl rfl k2) ?_)
    | (go_at_call 38; (with_reducible refine (HC.out _).mono ?_); rintro e w3 ⟨rfl, rfl⟩))
  go_ret
  exact ⟨rfl, hx1.trans hx2⟩
theorem goesBy : Goes Try.prog 28 := ⟨_, Try.func28, rfl, rfl⟩
end Go.Proofs.Ytideigpabbhhkaa
namespace Go.Proofs.Ytideigpabbhhkaa.SM
set_option linter.unusedVariables false
set_option linter.unusedSimpArgs false
section
variable {α : Type} (d : α) (wt : α → Int)
def at_ (M : List α) (x : Nat) : α := M.getD x d
def wA (M : List α) (x : Nat) : Int := wt (at_ d M x)
def swp (M : List α) (i j : Nat) : List α := (M.set i (at_ d M j)).set j (at_ d M i)
theorem swp_len (M : List α) (i j : Nat) : (swp d M i j).length = M.length := by simp [swp]
theorem at_get (M : List α) (x : Nat) (h : x < M.length) : at_ d M x = M[x] := by simp [at_, h]
theorem at_swp (M : List α) (i j x : Nat) (hi : i < M.length) (hj : j < M.length) : at_ d (swp d M i j) x = if x = j then at_ d M i else if x = i then at_ d M j else at_ d M x := by
  unfold swp
  simp only [at_, List.getD_eq_getElem?_getD, List.getElem?_set]
  by_cases hxj : x = j
  · subst hxj
    simp [hj]
  · have hjx : ¬ j = x := fun h => hxj h.symm
    by_cases hxi : x = i
    · subst hxi
      simp [hxj, hjx, hi]
    · have hix : ¬ i = x := fun h => hxi h.symm
      simp [hxj, hxi, hjx, hix]
theorem swp_perm (M : List α) (i j : Nat) (hi : i < M.length) (hj : j < M.length) : (swp d M i j).Perm M := by
  have h := Array.swap_perm (xs := M.toArray) (i := i) (j := j) (by simpa using hi) (by simpa using hj)
  have e : (M.toArray.swap i j (by simpa using hi) (by simpa using hj)).toList = swp d M i j := by
    simp [swp, at_get d M i hi, at_get d M j hj]
  have := Array.perm_iff_toList_perm.1 h
  rwa [e] at this
/-- M is L but for an order of the places a .. b -/
structure Seg (L M : List α) (a b : Nat) : Prop where
  perm : M.Perm L
  out : ∀ x, x < a ∨ b ≤ x → at_ d M x = at_ d L x
  val : ∀ x, a ≤ x → x < b → ∃ y, a ≤ y ∧ y < b ∧ at_ d M x = at_ d L y
theorem Seg.refl (L : List α) (a b : Nat) : Seg d L L a b := ⟨.refl _, fun _ _ => rfl, fun x h1 h2 => ⟨x, h1, h2, rfl⟩⟩
theorem Seg.trans {L M N : List α} {a b : Nat} (h : Seg d L M a b) (k : Seg d M N a b) : Seg d L N a b := ⟨k.perm.trans h.perm, fun x hx => (k.out x hx).trans (h.out x hx), fun x h1 h2 => by
    obtain ⟨y, p1, p2, e⟩ := k.val x h1 h2
    obtain ⟨z, q1, q2, f⟩ := h.val y p1 p2
    exact ⟨z, q1, q2, e.trans f⟩⟩
theorem Seg.wide {L M : List α} {a b a' b' : Nat} (h : Seg d L M a b) (h1 : a' ≤ a) (h2 : b ≤ b') : Seg d L M a' b' := ⟨h.perm, fun x hx => h.out x (by omega), fun x p q => by
    by_cases hx : a ≤ x ∧ x < b
    · obtain ⟨y, p1, p2, e⟩ := h.val x hx.1 hx.2
      exact ⟨y, by omega, by omega, e⟩
    · exact ⟨x, p, q, h.out x (by omega)⟩⟩
theorem Seg.len {L M : List α} {a b : Nat} (h : Seg d L M a b) : M.length = L.length := h.perm.length_eq
theorem Seg.swp {L : List α} {a b i j : Nat} (hi : i < L.length) (hj : j < L.length) (h1 : a ≤ i) (h2 : i < b) (h3 : a ≤ j) (h4 : j < b) : Seg d L (swp d L i j) a b :=
  ⟨swp_perm d L i j hi hj, fun x hx => by rw [at_swp d L i j x hi hj, if_neg (by omega), if_neg (by omega)], fun x p q => by
    rw [at_swp d L i j x hi hj]
    split
    · exact ⟨i, h1, h2, rfl⟩
    · split
      · exact ⟨j, h3, h4, rfl⟩
      · exact ⟨x, p, q, rfl⟩⟩
def Sorted (M : List α) (a b : Nat) : Prop := ∀ x y, a ≤ x → x < y → y < b → wA d wt M x ≤ wA d wt M y
theorem Sorted.of_out {L M : List α} {a b a' b' : Nat} (h : Sorted d wt L a b) (hs : Seg d L M a' b') (hd : b ≤ a' ∨ b' ≤ a) : Sorted d wt M a b := fun x y h1 h2 h3 => by
  unfold wA
  rw [hs.out x (by omega), hs.out y (by omega)]
  exact h x y h1 h2 h3
theorem Sorted.sub {M : List α} {a b a' b' : Nat} (h : Sorted d wt M a b) (h1 : a ≤ a') (h2 : b' ≤ b) : Sorted d wt M a' b' := fun x y p q r => h x y (by omega) q (by omega)
/-- one step of the insertion: the place j's element goes one down -/
structure Ins (M : List α) (a j i : Nat) : Prop where
  rest : ∀ x y, a ≤ x → x < y → y ≤ i → x ≠ j → y ≠ j → wA d wt M x ≤ wA d wt M y
  up : ∀ y, j < y → y ≤ i → wA d wt M j ≤ wA d wt M y
theorem Ins.start {M : List α} {a i : Nat} (h : Sorted d wt M a i) : Ins d wt M a i i := ⟨fun x y h1 h2 h3 h4 h5 => h x y h1 h2 (by omega), fun y h1 h2 => by omega⟩
theorem Ins.step {M : List α} {a j i : Nat} (h : Ins d wt M a j i) (hj : a < j) (hji : j ≤ i) (hi : i < M.length) (hl : wA d wt M j < wA d wt M (j - 1)) : Ins d wt (swp d M j (j - 1)) a (j - 1) i := by
  have hw : ∀ x, wA d wt (swp d M j (j - 1)) x = if x = j - 1 then wA d wt M j else if x = j then wA d wt M (j - 1) else wA d wt M x := fun x => by
    unfold wA
    rw [at_swp d M j (j - 1) x (by omega) (by omega)]
    split
    · rfl
    · split <;> rfl
  refine ⟨fun x y h1 h2 h3 h4 h5 => ?_, fun y h1 h2 => ?_⟩
  · rw [hw, hw, if_neg h4, if_neg h5]
    by_cases hxj : x = j
    · rw [if_pos hxj, if_neg (by omega)]
      exact h.rest (j - 1) y (by omega) (by omega) h3 (by omega) (by omega)
    · rw [if_neg hxj]
      by_cases hyj : y = j
      · rw [if_pos hyj]
        exact h.rest x (j - 1) h1 (by omega) (by omega) hxj (by omega)
      · rw [if_neg hyj]
        exact h.rest x y h1 h2 h3 hxj hyj
  · rw [hw, hw, if_pos rfl, if_neg (by omega)]
    by_cases hyj : y = j
    · rw [if_pos hyj]
      omega
    · rw [if_neg hyj]
      exact h.up y (by omega) h2
theorem Ins.stop {M : List α} {a j i : Nat} (h : Ins d wt M a j i) (hd : j = a ∨ wA d wt M (j - 1) ≤ wA d wt M j) (haj : a ≤ j) : Sorted d wt M a (i + 1) := fun x y h1 h2 h3 => by
  by_cases hxj : x = j
  · subst hxj
    exact h.up y h2 (by omega)
  · by_cases hyj : y = j
    · subst hyj
      rcases hd with hd | hd
      · omega
      · by_cases hx : x = y - 1
        · subst hx; exact hd
        · exact Int.le_trans (h.rest x (y - 1) h1 (by omega) (by omega) hxj (by omega)) hd
    · exact h.rest x y h1 h2 (by omega) hxj hyj
/-- two sorted neighbours whose first one lies below the second one -/
theorem Sorted.join {M : List α} {a m b : Nat} (h1 : Sorted d wt M a m) (h2 : Sorted d wt M m b) (h : ∀ x y, a ≤ x → x < m → m ≤ y → y < b → wA d wt M x ≤ wA d wt M y) : Sorted d wt M a b := fun x y p q r => by
  by_cases hx : x < m
  · by_cases hy : y < m
    · exact h1 x y p q hy
    · exact h x y p hx (by omega) r
  · exact h2 x y (by omega) q r
end
end Go.Proofs.Ytideigpabbhhkaa.SM
