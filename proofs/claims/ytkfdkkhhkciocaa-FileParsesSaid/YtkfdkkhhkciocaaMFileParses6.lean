/- Contracts for the law FileParses, part 6: what the functions that it reaches answer, for all arguments that the theorems name. -/
import Derived.Test.YtkfdkkhhkciocaaMFileParses1
import Derived.Test.YtkfdkkhhkciocaaMFileParses4
import Derived.Test.YtkfdkkhhkciocaaMFileParses5
/- Calls of a method of an interface value and of a function value, each by the contract of what it comes to. -/
namespace Go.Proofs.Ytkfdkkhhkciocaa
set_option linter.unusedVariables false
set_option linter.unusedSimpArgs false
open Go.RowKit
/-- the interface value's method comes to function f, with this receiver -/
def Meth (P : Program) (ty : TypeId) (v : Value) (name : String) (f : FuncId) (recv : Value) : Prop :=
  (∀ w, (method (P.types.size + Made.depth) ty v name).run P w = .ok (f, recv) w) ∧ ∃ fn, P.funcs[f]? = some fn ∧ (fn.name == "runtime.NumGoroutine") = false ∧ fn.body.isSome = true
def Goes (P : Program) (f : FuncId) : Prop := ∃ fn, P.funcs[f]? = some fn ∧ (fn.name == "runtime.NumGoroutine") = false ∧ fn.body.isSome = true
section
variable {P : Program} {ops : Array Oper} {rest : List Oper} {o : Oper} {a : Act} {Q : Exit → Act → World → Prop}
theorem run_invoke (r : Operand) (name : String) (xs : Array Operand) (ts : Array TypeId) (ho : o.op = .call { callee := .invoke r name, args := xs, argTypes := ts }) {ty : TypeId} {v : Value}
    (hr : a.eval r = .iface ty v) {f : FuncId} {recv : Value} (hm : Meth P ty v name f recv) (args : Array Value) (hx : #[recv] ++ xs.map a.eval = args) (w : World) : (execOp a.eval o).run P w = .ok (.enter f args) w := by
  obtain ⟨h1, fn, hf, hname, hb⟩ := hm
  obtain ⟨c, hb⟩ := Option.isSome_iff_exists.1 hb
  have hn : ¬ fn.name = "runtime.NumGoroutine" := by simpa using hname
  subst hx
  have e0 : (#[Value.iface ty v] ++ Array.map a.eval xs)[0]? = some (.iface ty v) := by simp [Array.getElem?_append]
  have e1 : (#[Value.iface ty v] ++ Array.map a.eval xs).extract 1 (#[Value.iface ty v] ++ Array.map a.eval xs).size = xs.map a.eval := by simp
  simp only [execOp, ho, resolve, hr, invoke, Sem.run_bind, Sem.run_pure, Result.andThen_ok, e0, e1]
  simp [callMethod, callFunc, hf, hb, hn, h1, run_program]
theorem run_callv (x : Operand) (xs : Array Operand) (ts : Array TypeId) (ho : o.op = .call { callee := .value x, args := xs, argTypes := ts }) {f : FuncId} {cap : Array Value} (hr : a.eval x = .func (.func f) #[] cap)
    (hm : Goes P f) (args : Array Value) (hx : xs.map a.eval ++ cap = args) (w : World) : (execOp a.eval o).run P w = .ok (.enter f args) w := by
  obtain ⟨fn, hf, hname, hb⟩ := hm
  obtain ⟨c, hb⟩ := Option.isSome_iff_exists.1 hb
  have hn : ¬ fn.name = "runtime.NumGoroutine" := by simpa using hname
  subst hx
  simp [execOp, ho, resolve, hr, Deferred.ofValue, invoke, callFunc, hf, hb, hn, run_program]
theorem wl_enter {w : World} (hw : Region.wanted o (yielded ops a.tmps) = true) {f : FuncId} {args : Array Value} (hrun : ∀ w, (execOp a.eval o).run P w = .ok (.enter f args) w)
    (h : Calls P f args w fun e w' => ∃ v, e = .returned v ∧ wpList P ops Q rest (a.put o.dst v) w') : wpList P ops Q (o :: rest) a w :=
  wpList_wanted hw fun K hK => by
    unfold Oper.wp
    rw [hrun]
    refine h.mono fun e w' ⟨v, e1, h2⟩ => ?_
    subst e1
    exact hK _ _ h2
end
end Go.Proofs.Ytkfdkkhhkciocaa
/- file.reader: a number at a place; a table. -/
namespace Go.Proofs.Ytkfdkkhhkciocaa
set_option linter.unusedVariables false
set_option linter.unusedSimpArgs false
open Go.RowKit
def cnt (bs : List Nat) (p j : Nat) : Nat := 256 * bs.getD (p + 2 * j) 0 + bs.getD (p + 2 * j + 1) 0
def cntL (bs : List Nat) (p k : Nat) : List Int := (List.range k).map fun j => ((cnt bs p j : Nat) : Int)
def cntS (bs : List Nat) (p : Nat) : Nat → Nat
  | 0 => 0
  | k + 1 => cntS bs p k + cnt bs p k
def symL (bs : List Nat) (q k : Nat) : List Int := (List.range k).map fun j => ((bs.getD (q + j) 0 : Nat) : Int)
/-- a reader of bs at byte p -/
def PRk (w : World) (gr : Nat) (bs : List Nat) (p : Nat) : Prop := PR w gr (bs.drop p) (decide (bs.length < p))
theorem getD_lt {bs : List Nat} (hlt : ∀ b ∈ bs, b < 256) (p : Nat) : bs.getD p 0 < 256 := by
  rw [List.getD_eq_getElem?_getD]
  cases h : bs[p]? with
  | none => simp
  | some b => exact hlt b (List.mem_of_getElem? h)
theorem cnt_lt {bs : List Nat} (hlt : ∀ b ∈ bs, b < 256) (p j : Nat) : cnt bs p j ≤ 65535 := by
  have h1 := getD_lt hlt (p + 2 * j)
  have h2 := getD_lt hlt (p + 2 * j + 1)
  unfold cnt
  omega
theorem cntS_le {bs : List Nat} (hlt : ∀ b ∈ bs, b < 256) (p : Nat) : ∀ k, cntS bs p k ≤ 65535 * k
  | 0 => by simp [cntS]
  | k + 1 => by
    have := cntS_le hlt p k
    have := cnt_lt hlt p k
    rw [cntS]
    omega
theorem cntL_len (bs : List Nat) (p k : Nat) : (cntL bs p k).length = k := by simp [cntL]
theorem cntL_succ (bs : List Nat) (p k : Nat) : cntL bs p (k + 1) = cntL bs p k ++ [((cnt bs p k : Nat) : Int)] := by simp [cntL, List.range_succ]
theorem symL_len (bs : List Nat) (q k : Nat) : (symL bs q k).length = k := by simp [symL]
theorem symL_succ (bs : List Nat) (q k : Nat) : symL bs q (k + 1) = symL bs q k ++ [((bs.getD (q + k) 0 : Nat) : Int)] := by simp [symL, List.range_succ]
theorem number_at (gr : Nat) (bs : List Nat) (p : Nat) (w : World) (hlt : ∀ b ∈ bs, b < 256) (h : PRk w gr bs p) :
    Calls Try.prog 35 #[.pointer (some ⟨gr, 0, none⟩)] w fun e w' => e = .returned (.int .i64 ((bs.getD p 0 : Nat) : Int)) ∧ PRk w' gr bs (p + 1) ∧ Upd (fun b => b = gr) w w' := by
  refine (number_any gr (bs.drop p) _ w (fun b hb => hlt b (List.mem_of_mem_drop hb)) h).mono ?_
  rintro e w' ⟨rfl, h1, h2⟩
  refine ⟨?_, ?_, h2⟩
  · congr 3
    rw [List.headD_eq_head?_getD, List.head?_drop, List.getD_eq_getElem?_getD]
  · unfold PRk
    have e1 : (bs.drop p).tail = bs.drop (p + 1) := by rw [List.tail_drop]
    have e2 : (decide (bs.length < p) || (bs.drop p).isEmpty) = decide (bs.length < p + 1) := by
      rw [Bool.eq_iff_iff]
      simp only [Bool.or_eq_true, decide_eq_true_eq, List.isEmpty_iff, List.drop_eq_nil_iff]
      omega
    rw [← e1, ← e2]
    exact h1
theorem run_shl8 (m : Nat) (h : m < 1000000) (W : World) : (binOp .shl 3 (.int .i64 (m : Int)) (.int .u64 8)).run Try.prog W = .ok (.int .i64 ((256 * m : Nat) : Int)) W := by
  have e : IntKind.i64.wrap ((m : Int) * 2 ^ (min 8 IntKind.i64.bits)) = ((256 * m : Nat) : Int) := by
    rw [show min 8 IntKind.i64.bits = 8 by decide, IntWalk.i64_in _ (by omega)]; omega
  simp [binOp, Op.shift, e]
theorem run_or8 (m b : Nat) (h : m < 1000000) (hb : b < 256) (W : World) : (binOp .or 3 (.int .i64 ((256 * m : Nat) : Int)) (.int .i64 (b : Int))).run Try.prog W = .ok (.int .i64 ((256 * m + b : Nat) : Int)) W := by
  have e : bits .or .i64 ((256 * m : Nat) : Int) (b : Int) = ((256 * m + b : Nat) : Int) := by
    have hx : 256 * m ||| b = 256 * m + b := by
      rw [show 256 * m = 2 ^ 8 * m by rfl, ← Nat.two_pow_add_eq_or_of_lt (i := 8) (by omega)]
    show IntKind.i64.wrap ((BitVec.ofInt 64 ((256 * m : Nat) : Int) ||| BitVec.ofInt 64 (b : Int)).toNat : Int) = _
    rw [BitVec.toNat_or, BitVec.ofInt_natCast, BitVec.ofInt_natCast, BitVec.toNat_ofNat, BitVec.toNat_ofNat, Nat.mod_eq_of_lt (by omega), Nat.mod_eq_of_lt (by omega), hx]
    exact IntWalk.i64_in _ (by omega)
  have e2 : binOp .or 3 (.int .i64 ((256 * m : Nat) : Int)) (.int .i64 (b : Int)) = pure (.int .i64 (bits .or .i64 ((256 * m : Nat) : Int) (b : Int))) := by rw [binOp_or, intBits_or]
  rw [e2, e]
  rfl
theorem tblv_set (xs : List Int) (s : Value) (k : Nat) (z : Int) (h : k < xs.length) : (tblv xs s).setIfInBounds k (.int .i64 z) = tblv (xs.set k z) s := by
  unfold tblv ints
  rw [List.setIfInBounds_toArray, List.set_append_left _ _ (by simpa using h), List.map_set]
theorem cntL_set (bs : List Nat) (p k : Nat) (h : k < 16) : (cntL bs p k ++ List.replicate (16 - k) 0).set k ((cnt bs p k : Nat) : Int) = cntL bs p (k + 1) ++ List.replicate (16 - (k + 1)) 0 := by
  rw [List.set_append_right _ _ (by rw [cntL_len]; omega), cntL_len, Nat.sub_self, show 16 - k = (16 - (k + 1)) + 1 by omega, List.replicate_succ, List.set_cons_zero, cntL_succ, List.append_assoc]
  rfl
theorem zeroTblv : (Try.prog.info? 41).bind (·.zero) = some (.agg (tblv (List.replicate 16 0) (.slice none 0 0))) := zeroTbl
theorem elt_intP : Elt Try.prog 30 3 1 8 := ⟨Try.underlying30, by kernel_rfl, by omega⟩
theorem zeroIP : ((Try.prog.info? 3).bind (·.zero)).isSome = true := by kernel_rfl
theorem tblNeI : 3 ≠ 41 := by decide
theorem sizeTbl1 : (Try.prog.info? 41).map (·.size) = some 17 := by kernel_rfl
theorem tblv_get (xs : List Int) (s : Value) (k : Nat) (h : k < xs.length) : (tblv xs s)[k]? = some (.int .i64 xs[k]) := by
  unfold tblv ints
  simp [List.getElem?_append, h]
theorem tblv_one' (cs : List Int) (A : Option Addr) (k c : Nat) : (tblv cs (.slice A k c)).all (·.oneCell') = true := by
  unfold tblv ints
  simp [Value.oneCell']
theorem tblv_setLast (cs : List Int) (s u : Value) (h : cs.length = 16) : (tblv cs s).setIfInBounds 16 u = tblv cs u := by
  unfold tblv
  rw [List.setIfInBounds_toArray, List.set_append_right _ _ (by rw [ints_len, h]; omega), ints_len, h]
  rfl
theorem goesNum : Goes Try.prog 35 := ⟨_, Try.func35, rfl, rfl⟩
set_option maxRecDepth 20000 in
set_option maxHeartbeats 4000000 in
theorem table_any (gr : Nat) (bs : List Nat) (p : Nat) (w : World) (hlt : ∀ b ∈ bs, b < 256) (hp : p ≤ 10000000) (h : PRk w gr bs p) :
    Calls Try.prog 37 #[.pointer (some ⟨gr, 0, none⟩)] w fun e w' => ∃ (k : Nat) (A : Option Addr) (c : Nat), k ≤ cntS bs p 16 ∧ (k < cntS bs p 16 → bs.length < p + 32 + k) ∧ e = .returned (.agg (tblv (cntL bs p 16) (.slice A k c))) ∧
      w'.ownsRow w.heap.size 3 1 (.slice A k c) k (ints (symL bs (p + 32) k)) ∧ PRk w' gr bs (p + 32 + k) ∧ Upd (fun b => b = gr) w w' := by
  have HN := hid_ (fun q W (h : PRk W gr bs q) => number_at gr bs q W hlt h)
  have HS := hid_ (cntS_le hlt p)
  have HG := hid_ (fun q => getD_lt hlt q)
  have HC := hid_ (fun k => cnt_lt hlt p k)
  have hgrw := h.lt
  have HP := hid_ h
  clear h
  go_enter Try.func37, Try.ntmps37
  go_wp2_with (first
    | (show wpList _ _ _ (⟨some 2, _, _, _, _, _⟩ :: _) _ _; refine wpList_alloc_abs' rfl (some 2) rfl 41 rfl _ zeroTblv ?_; intro w2 gt hbt hx2 hgt))
  have hne : gr < gt := by omega
  have HP2 := hid_ (HP.out.ext hx2)
  have hu2 : Upd (fun b => b = gr ∨ b = gt) w w2 := Upd.of_ext hx2
  clear hx2 HP
  go_loopw [3, 5] (fun s i wr => ∃ k : Nat, k ≤ 16 ∧ i = .int .i64 (k : Int) ∧ s = .int .i64 ((cntS bs p k : Nat) : Int) ∧ PRk wr gr bs (p + 2 * k) ∧ Blk wr gt 41 (tblv (cntL bs p k ++ List.replicate (16 - k) 0) (.slice none 0 0)) ∧ Upd (fun b => b = gr ∨ b = gt) w wr) (fun _ i _ => 16 - (intOf i).toNat)
  case atStart => exact ⟨0, by omega, rfl, rfl, HP2.out, hbt, hu2⟩
  case round =>
    clear hbt hu2 HP2
    obtain ⟨k, hk, rfl, rfl, hpr, hbt, hu⟩ := hrel
    by_cases hlt16 : k < 16
    · have HCK := hid_ (HC.out k)
      have HSK := hid_ (HS.out k)
      have HE : Hid (cntS bs p (k + 1) = cntS bs p k + cnt bs p k) := hid_ rfl
      have HX : Hid (cnt bs p k = 256 * bs.getD (p + 2 * k) 0 + bs.getD (p + 2 * k + 1) 0) := hid_ rfl
      have HN1 := hid_ (HN.out (p + 2 * k))
      have HN2 := hid_ (HN.out (p + 2 * k + 1))
      have hb1 := HG.out (p + 2 * k)
      have hb2 := HG.out (p + 2 * k + 1)
      have hset : Hid ((tblv (cntL bs p k ++ List.replicate (16 - k) 0) (.slice none 0 0)).setIfInBounds k (.int .i64 ((cnt bs p k : Nat) : Int)) = tblv (cntL bs p (k + 1) ++ List.replicate (16 - (k + 1)) 0) (.slice none 0 0)) := hid_ (by
        rw [tblv_set _ _ _ _ (by rw [List.length_append, cntL_len, List.length_replicate]; omega), cntL_set _ _ _ hlt16])
      have hsz : k < (tblv (cntL bs p k ++ List.replicate (16 - k) 0) (.slice none 0 0)).size := by rw [tblv_size _ _ (by rw [List.length_append, cntL_len, List.length_replicate]; omega)]; omega
      have hget : Hid ((tblv (cntL bs p (k + 1) ++ List.replicate (16 - (k + 1)) 0) (.slice none 0 0))[k]? = some (.int .i64 ((cnt bs p k : Nat) : Int))) := hid_ (by
        rw [tblv_get _ _ _ (by rw [List.length_append, cntL_len, List.length_replicate]; omega), List.getElem_append_left (by rw [cntL_len]; omega)]
        simp [cntL])
      generalize hT1 : tblv (cntL bs p k ++ List.replicate (16 - k) 0) (.slice none 0 0) = T1 at *
      generalize hT2 : tblv (cntL bs p (k + 1) ++ List.replicate (16 - (k + 1)) 0) (.slice none 0 0) = T2 at *
      have HT2 := hid_ hT2
      clear hT1 hT2
      generalize bs.getD (p + 2 * k) 0 = x1 at *
      generalize bs.getD (p + 2 * k + 1) 0 = x2 at *
      have hS1 : cntS bs p k ≤ 1048560 := by have := HSK.out; omega
      generalize hS : cntS bs p k = S at *
      generalize hS2 : cntS bs p (k + 1) = S2 at *
      have HS2 := hid_ hS2
      clear hS hS2
      generalize hK : cnt bs p k = ck at *
      clear hK
      obtain ⟨y1, hy1⟩ : ∃ y, 256 * x1 = y := ⟨_, rfl⟩
      have R1 : Hid (∀ W, (binOp .shl 3 (.int .i64 (x1 : Int)) (.int .u64 8)).run Try.prog W = .ok (.int .i64 (y1 : Int)) W) := hid_ (fun W => by rw [← hy1]; exact run_shl8 x1 (by omega) W)
      have R2 : Hid (∀ W, (binOp .or 3 (.int .i64 (y1 : Int)) (.int .i64 (x2 : Int))).run Try.prog W = .ok (.int .i64 (ck : Int)) W) := hid_ (fun W => by rw [HX.out, ← hy1]; exact run_or8 x1 x2 (by omega) hb2 W)
      have hck := HCK.out
      clear HX HCK HSK hy1
      go_wp2_with (first
        | (go_at_call 35; (with_reducible refine (HN1.out _ hpr).mono ?_); rintro e w3 ⟨rfl, hpr3, hu3⟩; have hbt3 := hu3.blk hbt (by omega))
        | (show wpList _ _ _ (⟨some 11, _, _, _, _, _⟩ :: _) _ _; refine wl_run rfl (.int .i64 (y1 : Int)) (ex_binK rfl rfl rfl R1.out) ?_)
        | (go_at_call 35; (with_reducible refine (HN2.out _ hpr3).mono ?_); rintro e w4 ⟨rfl, hpr4, hu4⟩; have hbt4 := hu4.blk hbt3 (by omega))
        | (show wpList _ _ _ (⟨some 14, _, _, _, _, _⟩ :: _) _ _; refine wl_run rfl (.int .i64 (ck : Int)) (ex_binK rfl rfl rfl R2.out) ?_)
        | (show wpList _ _ _ (⟨none, .store _ (.tmp 16) (.tmp 14), _, _, _, _⟩ :: _) _ _; refine wl_storeI rfl _ _ rfl gt k _ rfl rfl hbt4 hsz ?_; have hbt5 := hbt4.set_ k (.int .i64 (ck : Int)); rw [hset.out] at hbt5; have hl5 := (hbt5.cell k).trans hget.out; have hu5 := ((hu.trans hu3 (fun x h => .inl (.inl h))).trans hu4 (fun x h => .inl (.inl h))).setCell (p := ⟨gt, k, none⟩) (.inr rfl) (.int .i64 (ck : Int)); have hpr5 := hpr4.upd ((Upd.refl (fun b => b = gt) w4).setCell (p := ⟨gt, k, none⟩) rfl (.int .i64 (ck : Int))) (fun x h => by rw [h]; exact hne); clear hpr hu hpr3 hpr4 hu3 hu4 hbt hbt3 hbt4; generalize w4.setCell ⟨gt, k, none⟩ (.int .i64 (ck : Int)) = w5 at *)
        | (show wpList _ _ _ (⟨some 21, _, _, _, _, _⟩ :: _) _ _; refine wl_read rfl (.int .i64 (ck : Int)) (ex_loadI rfl rfl hl5) ?_)
        | (show wpList _ _ _ (⟨some 22, _, _, _, _, _⟩ :: _) _ _; refine wl_run rfl (.int .i64 ((S + ck : Nat) : Int)) (ex_addN rfl rfl rfl (by omega)) ?_))
      go_roundw
      case rel => exact ⟨k + 1, by omega, by go_num, by rw [HS2.out, HE.out]; go_num, by rw [show p + 2 * (k + 1) = p + 2 * k + 1 + 1 by omega]; exact hpr5, by rw [HT2.out]; exact hbt5, hu5⟩
      case measure => simp [intOf]; omega
    · obtain rfl : k = 16 := by omega
      rw [show 16 - 16 = 0 by rfl, List.replicate_zero, List.append_nil] at hbt
      have hall := HS.out 16
      generalize hS : cntS bs p 16 = S at *
      have HS16 := hid_ hS
      clear hS
      have HT : Hid (∀ A k c, (tblv (cntL bs p 16) (.slice A k c)).size = 17) := hid_ (fun A k c => tblv_size _ _ (by rw [cntL_len]))
      have HO : Hid (∀ A k c, (tblv (cntL bs p 16) (.slice A k c)).all (·.oneCell') = true) := hid_ (fun A k c => tblv_one' _ A k c)
      have HL : Hid (∀ A k c B m d, (tblv (cntL bs p 16) (.slice A k c)).setIfInBounds 16 (.slice B m d) = tblv (cntL bs p 16) (.slice B m d)) := hid_ (fun A k c B m d => tblv_setLast _ _ _ (by rw [cntL_len]))
      have HG16 : Hid (∀ A k c, (tblv (cntL bs p 16) (.slice A k c))[16]? = some (.slice A k c)) := hid_ (fun A k c => by
        have : (tblv (cntL bs p 16) (.slice A k c)) = (tblv (cntL bs p 16) (.slice A k c)) := rfl
        unfold tblv ints
        simp [List.getElem?_append, cntL_len])
      obtain ⟨TV, hTV⟩ : ∃ TV : Option Addr → Nat → Nat → Array Value, TV = fun A k c => tblv (cntL bs p 16) (.slice A k c) := ⟨_, rfl⟩
      have HTV := hid_ hTV
      have eT : ∀ A k c, tblv (cntL bs p 16) (.slice A k c) = TV A k c := fun A k c => by rw [hTV]
      simp only [eT] at HT HO HL HG16 hbt
      have HeT := hid_ eT
      clear hTV eT
      have hp0 : PRk wr gr bs (p + 32 + 0) := hpr
      have own0 : wr.ownsRow w.heap.size 3 1 (.slice none 0 0) 0 (ints (symL bs (p + 32) 0)) := own_nil _ _ _ _
      go_wp2_with fail
      go_loopw [25] (fun i w9 => ∃ (k : Nat) (A : Option Addr) (c : Nat), k ≤ S ∧ i = .int .i64 (k : Int) ∧ PRk w9 gr bs (p + 32 + k) ∧ Blk w9 gt 41 (TV A k c) ∧ w9.ownsRow w.heap.size 3 1 (.slice A k c) k (ints (symL bs (p + 32) k)) ∧ Upd (fun b => b = gr ∨ b = gt) w w9) (fun i _ => S - (intOf i).toNat)
      case atStart => exact ⟨0, none, 0, by omega, rfl, hp0, hbt, own0, hu⟩
      case round =>
        clear hpr hbt hu hp0 own0
        obtain ⟨k, A, c, hk, rfl, hpr, hbt, hown, hu⟩ := hrel
        have HEND : Hid (∀ W, (k < S → bs.length < p + 32 + k) → wr.grownBy W (some gt) → ∃ (k' : Nat) (A' : Option Addr) (c' : Nat), k' ≤ cntS bs p 16 ∧ (k' < cntS bs p 16 → bs.length < p + 32 + k') ∧ Ending.returned (.agg (TV A k c)) = .returned (.agg (tblv (cntL bs p 16) (.slice A' k' c'))) ∧
            W.ownsRow w.heap.size 3 1 (.slice A' k' c') k' (ints (symL bs (p + 32) k')) ∧ PRk W gr bs (p + 32 + k') ∧ Upd (fun b => b = gr) w W) := hid_ (fun W hl hg => by
          have hug := upd_grown hg
          refine ⟨k, A, c, by rw [HS16.out]; exact hk, by rw [HS16.out]; exact hl, by rw [HeT.out], own_upd2 hown hug (fun x hx q => own_blk_ne hown hbt tblNeI (by rw [q, hx])), hpr.upd hug (fun x q => by injection q with q; omega), ?_⟩
          have hu2 := hu.grown hg (fun b hb => by injection hb with hb; exact .inl (.inr hb.symm))
          exact ⟨hu2.os, hu2.tape, hu2.output, hu2.size, fun b hb hn => hu2.block b hb (fun h => h.elim hn (fun h => by omega))⟩)
        have hfl := hpr.flag
        by_cases hlt2 : k < S
        · by_cases hsh : bs.length < p + 32 + k
          · rw [show decide (bs.length < p + 32 + k) = true by simpa using hsh] at hfl
            go_wp2_with (first
              | (show wpList _ _ _ (⟨some 39, _, _, _, _, _⟩ :: _) _ _; refine wpList_load_blk rfl 41 (.tmp 2) rfl gt rfl hbt _ Try.underlying41 rfl 17 sizeTbl1 (HT.out A k c) ?_)
              | (show wpList _ _ _ (⟨none, .store _ (.tmp 2) (.tmp 39), _, _, _, _⟩ :: _) _ _; refine wpList_store_blk rfl 41 (.tmp 2) (.tmp 39) rfl gt _ rfl rfl hbt 17 sizeTbl1 (HT.out A k c) (HT.out A k c) (HO.out A k c) ?_; intro w7 hb7 hg7))
            exact ret_cell rfl rfl gt rfl hb7 _ Try.underlying41 rfl 17 sizeTbl1 (HT.out A k c) (HEND.out _ (fun _ => hsh) hg7)
          · rw [show decide (bs.length < p + 32 + k) = false by simpa using hsh] at hfl
            go_wp2_with fail
            have HNK := hid_ (HN.out (p + 32 + k))
            have HSY := hid_ (symL_succ bs (p + 32) k)
            generalize bs.getD (p + 32 + k) 0 = x at *
            have hbD := hbt.drew
            have hprD := (show PRk wr.drew gr bs (p + 32 + k) from hpr)
            have hownD := (show wr.drew.ownsRow w.heap.size 3 1 (.slice A k c) k (ints (symL bs (p + 32) k)) from hown)
            have huD := hu.drew
            clear hpr hbt hown hu HEND hfl
            refine wp_region_of (fun j => !(j == 7)) (fun W => Blk W gt 41 (TV A k c)) (by kernel_rfl) ?_
            refine of_run (k := 0) (by kernel_rfl) rfl (by rfl) (.pointer (some ⟨gt, 16, none⟩)) (fun W => by go_simp) hbD ?_
            simp only [Act.put, List.setIfInBounds_toArray, List.set_cons_succ, List.set_cons_zero]
            refine of_run (k := 2) (by kernel_rfl) rfl (by rfl) (.pointer (some ⟨gr, 0, none⟩)) (ex_move rfl rfl) hbD ?_
            simp only [Act.put, List.setIfInBounds_toArray, List.set_cons_succ, List.set_cons_zero]
            refine of_fix (k := 1) (by kernel_rfl) rfl (by rfl) (.slice A k c) (fun W hW => ex_loadL rfl rfl ((hW.cell 16).trans (HG16.out A k c))) hbD ?_
            simp only [Act.put, List.setIfInBounds_toArray, List.set_cons_succ, List.set_cons_zero]
            refine of_loud (k := 3) (by kernel_rfl) rfl ?_
            refine wl_enter (by rfl) (run_callv _ _ _ rfl rfl goesNum #[.pointer (some ⟨gr, 0, none⟩)] (by simp [Act.eval])) ?_
            refine (HNK.out wr.drew hprD).mono ?_
            rintro e w3 ⟨rfl, hpr3, hu3⟩
            have hb3 := hu3.blk hbD (by omega)
            have hown3 := own_upd hownD hu3 (fun y hy => by omega)
            have hu03 := huD.trans hu3 (fun y hy => .inl (.inl hy))
            refine ⟨_, rfl, oi_end ⟨fun _ => hb3, ?_⟩⟩
            simp only [Act.put, List.setIfInBounds_toArray, List.set_cons_succ, List.set_cons_zero]
            refine of_loud (k := 4) (by kernel_rfl) rfl ?_
            refine wpList_lit1 rfl 30 3 (.tmp 34) rfl (some 35) rfl Try.underlying30 1 sizeI zeroIP _ rfl rfl (by omega) (by omega) ?_
            intro w4 g4 hb4 hx4 hg4
            refine oi_end ⟨fun _ => hb3.ext hx4, ?_⟩
            simp only [Act.put, List.setIfInBounds_toArray, List.set_cons_succ, List.set_cons_zero]
            refine of_loud (k := 5) (by kernel_rfl) rfl ?_
            refine wpList_append_slf elt_intP rfl (.tmp 32) (.tmp 35) rfl w.heap.size (.slice A k c) k (ints (symL bs (p + 32) k)) rfl (own_keep hown3 hx4) _ 1 (ints [(x : Int)]) rfl (blk_one hb4) (ints_one_mem _) (by omega) (by omega) (by have := hu03.size; have := hx4.size; omega) ?_
            intro A5 c5 w5 ho5 hg5 hr5
            have hown4 := own_keep hown3 hx4
            have hug := upd_grown hg5
            have hb5 := hug.blk (hb3.ext hx4) (fun q => own_blk_ne hown4 (hb3.ext hx4) tblNeI q.symm)
            have hpr5 := (hpr3.ext hx4).upd hug (fun y hy => by have := (hown4.lt y hy).1; omega)
            have hu5 := (hu03.trans (Upd.of_ext (S := fun _ => False) hx4) (fun _ h => h.elim)).grown hg5 (fun b hb => .inr (hown4.lt b hb).1)
            refine oi_end ⟨fun _ => hb5, ?_⟩
            simp only [Act.put, List.setIfInBounds_toArray, List.set_cons_succ, List.set_cons_zero]
            refine of_run (k := 6) (by kernel_rfl) rfl (by rfl) (.pointer (some ⟨gt, 16, none⟩)) (fun W => by go_simp) hb5 ?_
            simp only [Act.put, List.setIfInBounds_toArray, List.set_cons_succ, List.set_cons_zero]
            refine of_loud (k := 7) (by kernel_rfl) rfl ?_
            refine wl_storeL rfl _ _ rfl gt 16 A5 (k + 1) c5 rfl rfl hb5 (by rw [HT.out]; omega) ?_
            have hb6 := hb5.set_ 16 (.slice A5 (k + 1) c5)
            rw [HL.out] at hb6
            have hu6s := (Upd.refl (fun b => b = gt) w5).setCell (p := ⟨gt, 16, none⟩) rfl (.slice A5 (k + 1) c5)
            have hpr6 := hpr5.upd hu6s (fun y hy => by omega)
            have hown6 := own_upd2 ho5 hu6s (fun y hy q => own_blk_ne ho5 hb5 tblNeI (by rw [hy, q]))
            have hu6 := hu5.trans hu6s (fun y hy => .inl (.inr hy))
            refine oi_end ⟨fun h => (by cases h), ?_⟩
            simp only [Act.put, List.setIfInBounds_toArray, List.set_cons_succ, List.set_cons_zero]
            refine of_done (by kernel_rfl) ?_
            go_wp2_with fail
            go_roundw
            case rel => exact ⟨k + 1, A5, c5, by omega, by go_num, hpr6, hb6, by rw [HSY.out, ints_app]; exact hown6, hu6⟩
            case measure => simp [intOf]; omega
        · go_wp2_with (first
            | (show wpList _ _ _ (⟨some 39, _, _, _, _, _⟩ :: _) _ _; refine wpList_load_blk rfl 41 (.tmp 2) rfl gt rfl hbt _ Try.underlying41 rfl 17 sizeTbl1 (HT.out A k c) ?_)
            | (show wpList _ _ _ (⟨none, .store _ (.tmp 2) (.tmp 39), _, _, _, _⟩ :: _) _ _; refine wpList_store_blk rfl 41 (.tmp 2) (.tmp 39) rfl gt _ rfl rfl hbt 17 sizeTbl1 (HT.out A k c) (HT.out A k c) (HO.out A k c) ?_; intro w7 hb7 hg7))
          exact ret_cell rfl rfl gt rfl hb7 _ Try.underlying41 rfl 17 sizeTbl1 (HT.out A k c) (HEND.out _ (fun h => absurd h hlt2) hg7)
end Go.Proofs.Ytkfdkkhhkciocaa
/- file.within. -/
namespace Go.Proofs.Ytkfdkkhhkciocaa
set_option linter.unusedVariables false
set_option linter.unusedSimpArgs false
open Go.RowKit
theorem fwithin_any (n lo hi : Int) (w : World) :
    Calls Try.prog 45 #[.int .i64 n, .int .i64 lo, .int .i64 hi] w fun e w' => e = .returned (.bool (inB n lo hi)) ∧ w = w' := by
  by_cases h : lo ≤ n
  · have h' : decide (lo ≤ n) = true := by simpa using h
    have e : inB n lo hi = decide (n ≤ hi) := by rw [Bool.eq_iff_iff, inB_iff]; simp; omega
    rw [e]; clear e
    go_enter Try.func45, Try.ntmps45
    go_wp2
    go_ret
    exact ⟨rfl, rfl⟩
  · have h' : decide (lo ≤ n) = false := by simpa using h
    have e : inB n lo hi = false := inB_not.2 (by omega)
    rw [e]; clear e
    go_enter Try.func45, Try.ntmps45
    go_wp2
    go_ret
    exact ⟨rfl, rfl⟩
end Go.Proofs.Ytkfdkkhhkciocaa
/- file.Check: an argument out of its bounds. -/
namespace Go.Proofs.Ytkfdkkhhkciocaa
set_option linter.unusedVariables false
set_option linter.unusedSimpArgs false
open Go.RowKit
set_option maxRecDepth 20000 in
set_option maxHeartbeats 4000000 in
theorem fcheck_na (wd hi pt ev : Int) (qs : List Int) (t1 t2 : List Value) (sd : Value) (w : World) (hq : qs.length = 64) (h1 : t1.length = 17) (h2 : t2.length = 17) (k1 : inB wd 1 64 = false) :
    Calls Try.prog 17 #[.agg (fileL wd hi pt qs t1 t2 ev sd).toArray] w fun e w' => e = .returned (.int .i64 1) ∧ Ext w w' := by
  have HF := hid_ (fun W g (hb : Blk W g 45 (fileL wd hi pt qs t1 t2 ev sd).toArray) => fileB hb hq h1 h2)
  have W1 := hid_ (fun W => fwithin_any wd 1 64 W)
  have W2 := hid_ (fun W => fwithin_any hi 1 64 W)
  have W3 := hid_ (fun W => fwithin_any ev 0 100 W)
  generalize (fileL wd hi pt qs t1 t2 ev sd).toArray = fv at *
  generalize inB wd 1 64 = b1 at *
  generalize inB hi 1 64 = b2 at *
  generalize inB ev 0 100 = b3 at *
  subst k1
  go_enter Try.func17, Try.ntmps17
  go_wp2_with (first
    | (refine wpList_box_abs rfl 45 (.tmp 0) rfl fv rfl ?_; intro w1 g hb1 hx1 hg; obtain ⟨c0, c1, c2, -, -, -, -, c101, -⟩ := HF.out _ _ hb1)
    | (go_at_call 45; (with_reducible refine (W1.out _).mono ?_); rintro e w2 ⟨rfl, rfl⟩)
    | (go_at_call 45; (with_reducible refine (W2.out _).mono ?_); rintro e w2 ⟨rfl, rfl⟩)
    | (go_at_call 45; (with_reducible refine (W3.out _).mono ?_); rintro e w2 ⟨rfl, rfl⟩))
  go_ret
  exact ⟨rfl, hx1⟩
end Go.Proofs.Ytkfdkkhhkciocaa
/- file.Check: an argument out of its bounds. -/
namespace Go.Proofs.Ytkfdkkhhkciocaa
set_option linter.unusedVariables false
set_option linter.unusedSimpArgs false
open Go.RowKit
set_option maxRecDepth 20000 in
set_option maxHeartbeats 4000000 in
theorem fcheck_nb (wd hi pt ev : Int) (qs : List Int) (t1 t2 : List Value) (sd : Value) (w : World) (hq : qs.length = 64) (h1 : t1.length = 17) (h2 : t2.length = 17) (k1 : inB wd 1 64 = true) (k2 : inB hi 1 64 = false) :
    Calls Try.prog 17 #[.agg (fileL wd hi pt qs t1 t2 ev sd).toArray] w fun e w' => e = .returned (.int .i64 1) ∧ Ext w w' := by
  have HF := hid_ (fun W g (hb : Blk W g 45 (fileL wd hi pt qs t1 t2 ev sd).toArray) => fileB hb hq h1 h2)
  have W1 := hid_ (fun W => fwithin_any wd 1 64 W)
  have W2 := hid_ (fun W => fwithin_any hi 1 64 W)
  have W3 := hid_ (fun W => fwithin_any ev 0 100 W)
  generalize (fileL wd hi pt qs t1 t2 ev sd).toArray = fv at *
  generalize inB wd 1 64 = b1 at *
  generalize inB hi 1 64 = b2 at *
  generalize inB ev 0 100 = b3 at *
  subst k1 k2
  go_enter Try.func17, Try.ntmps17
  go_wp2_with (first
    | (refine wpList_box_abs rfl 45 (.tmp 0) rfl fv rfl ?_; intro w1 g hb1 hx1 hg; obtain ⟨c0, c1, c2, -, -, -, -, c101, -⟩ := HF.out _ _ hb1)
    | (go_at_call 45; (with_reducible refine (W1.out _).mono ?_); rintro e w2 ⟨rfl, rfl⟩)
    | (go_at_call 45; (with_reducible refine (W2.out _).mono ?_); rintro e w2 ⟨rfl, rfl⟩)
    | (go_at_call 45; (with_reducible refine (W3.out _).mono ?_); rintro e w2 ⟨rfl, rfl⟩))
  go_ret
  exact ⟨rfl, hx1⟩
end Go.Proofs.Ytkfdkkhhkciocaa
/- file.Check: an argument out of its bounds. -/
namespace Go.Proofs.Ytkfdkkhhkciocaa
set_option linter.unusedVariables false
set_option linter.unusedSimpArgs false
open Go.RowKit
set_option maxRecDepth 20000 in
set_option maxHeartbeats 4000000 in
theorem fcheck_nc (wd hi pt ev : Int) (qs : List Int) (t1 t2 : List Value) (sd : Value) (w : World) (hq : qs.length = 64) (h1 : t1.length = 17) (h2 : t2.length = 17) (k1 : inB wd 1 64 = true) (k2 : inB hi 1 64 = true) (p1 : (pt != 1) = true) (p2 : (pt != 3) = true) :
    Calls Try.prog 17 #[.agg (fileL wd hi pt qs t1 t2 ev sd).toArray] w fun e w' => e = .returned (.int .i64 1) ∧ Ext w w' := by
  have HF := hid_ (fun W g (hb : Blk W g 45 (fileL wd hi pt qs t1 t2 ev sd).toArray) => fileB hb hq h1 h2)
  have W1 := hid_ (fun W => fwithin_any wd 1 64 W)
  have W2 := hid_ (fun W => fwithin_any hi 1 64 W)
  have W3 := hid_ (fun W => fwithin_any ev 0 100 W)
  generalize (fileL wd hi pt qs t1 t2 ev sd).toArray = fv at *
  generalize inB wd 1 64 = b1 at *
  generalize inB hi 1 64 = b2 at *
  generalize inB ev 0 100 = b3 at *
  subst k1 k2
  go_enter Try.func17, Try.ntmps17
  go_wp2_with (first
    | (refine wpList_box_abs rfl 45 (.tmp 0) rfl fv rfl ?_; intro w1 g hb1 hx1 hg; obtain ⟨c0, c1, c2, -, -, -, -, c101, -⟩ := HF.out _ _ hb1)
    | (go_at_call 45; (with_reducible refine (W1.out _).mono ?_); rintro e w2 ⟨rfl, rfl⟩)
    | (go_at_call 45; (with_reducible refine (W2.out _).mono ?_); rintro e w2 ⟨rfl, rfl⟩)
    | (go_at_call 45; (with_reducible refine (W3.out _).mono ?_); rintro e w2 ⟨rfl, rfl⟩))
  go_ret
  exact ⟨rfl, hx1⟩
end Go.Proofs.Ytkfdkkhhkciocaa
/- file.Check: an argument out of its bounds. -/
namespace Go.Proofs.Ytkfdkkhhkciocaa
set_option linter.unusedVariables false
set_option linter.unusedSimpArgs false
open Go.RowKit
set_option maxRecDepth 20000 in
set_option maxHeartbeats 4000000 in
theorem fcheck_nd (wd hi ev : Int) (qs : List Int) (t1 t2 : List Value) (sd : Value) (w : World) (hq : qs.length = 64) (h1 : t1.length = 17) (h2 : t2.length = 17) (k1 : inB wd 1 64 = true) (k2 : inB hi 1 64 = true) (k3 : inB ev 0 100 = false) :
    Calls Try.prog 17 #[.agg (fileL wd hi 1 qs t1 t2 ev sd).toArray] w fun e w' => e = .returned (.int .i64 1) ∧ Ext w w' := by
  have HF := hid_ (fun W g (hb : Blk W g 45 (fileL wd hi 1 qs t1 t2 ev sd).toArray) => fileB hb hq h1 h2)
  have W1 := hid_ (fun W => fwithin_any wd 1 64 W)
  have W2 := hid_ (fun W => fwithin_any hi 1 64 W)
  have W3 := hid_ (fun W => fwithin_any ev 0 100 W)
  generalize (fileL wd hi 1 qs t1 t2 ev sd).toArray = fv at *
  generalize inB wd 1 64 = b1 at *
  generalize inB hi 1 64 = b2 at *
  generalize inB ev 0 100 = b3 at *
  subst k1 k2 k3
  go_enter Try.func17, Try.ntmps17
  go_wp2_with (first
    | (refine wpList_box_abs rfl 45 (.tmp 0) rfl fv rfl ?_; intro w1 g hb1 hx1 hg; obtain ⟨c0, c1, c2, -, -, -, -, c101, -⟩ := HF.out _ _ hb1)
    | (go_at_call 45; (with_reducible refine (W1.out _).mono ?_); rintro e w2 ⟨rfl, rfl⟩)
    | (go_at_call 45; (with_reducible refine (W2.out _).mono ?_); rintro e w2 ⟨rfl, rfl⟩)
    | (go_at_call 45; (with_reducible refine (W3.out _).mono ?_); rintro e w2 ⟨rfl, rfl⟩))
  go_ret
  exact ⟨rfl, hx1⟩
end Go.Proofs.Ytkfdkkhhkciocaa
/- file.Check: an argument out of its bounds. -/
namespace Go.Proofs.Ytkfdkkhhkciocaa
set_option linter.unusedVariables false
set_option linter.unusedSimpArgs false
open Go.RowKit
set_option maxRecDepth 20000 in
set_option maxHeartbeats 4000000 in
theorem fcheck_ne (wd hi ev : Int) (qs : List Int) (t1 t2 : List Value) (sd : Value) (w : World) (hq : qs.length = 64) (h1 : t1.length = 17) (h2 : t2.length = 17) (k1 : inB wd 1 64 = true) (k2 : inB hi 1 64 = true) (k3 : inB ev 0 100 = false) :
    Calls Try.prog 17 #[.agg (fileL wd hi 3 qs t1 t2 ev sd).toArray] w fun e w' => e = .returned (.int .i64 1) ∧ Ext w w' := by
  have HF := hid_ (fun W g (hb : Blk W g 45 (fileL wd hi 3 qs t1 t2 ev sd).toArray) => fileB hb hq h1 h2)
  have W1 := hid_ (fun W => fwithin_any wd 1 64 W)
  have W2 := hid_ (fun W => fwithin_any hi 1 64 W)
  have W3 := hid_ (fun W => fwithin_any ev 0 100 W)
  generalize (fileL wd hi 3 qs t1 t2 ev sd).toArray = fv at *
  generalize inB wd 1 64 = b1 at *
  generalize inB hi 1 64 = b2 at *
  generalize inB ev 0 100 = b3 at *
  subst k1 k2 k3
  go_enter Try.func17, Try.ntmps17
  go_wp2_with (first
    | (refine wpList_box_abs rfl 45 (.tmp 0) rfl fv rfl ?_; intro w1 g hb1 hx1 hg; obtain ⟨c0, c1, c2, -, -, -, -, c101, -⟩ := HF.out _ _ hb1)
    | (go_at_call 45; (with_reducible refine (W1.out _).mono ?_); rintro e w2 ⟨rfl, rfl⟩)
    | (go_at_call 45; (with_reducible refine (W2.out _).mono ?_); rintro e w2 ⟨rfl, rfl⟩)
    | (go_at_call 45; (with_reducible refine (W3.out _).mono ?_); rintro e w2 ⟨rfl, rfl⟩))
  go_ret
  exact ⟨rfl, hx1⟩
end Go.Proofs.Ytkfdkkhhkciocaa
/- file.Check: an argument out of its bounds. -/
namespace Go.Proofs.Ytkfdkkhhkciocaa
set_option linter.unusedVariables false
set_option linter.unusedSimpArgs false
open Go.RowKit
theorem fcheck_no (wd hi pt ev : Int) (qs : List Int) (t1 t2 : List Value) (sd : Value) (w : World) (hq : qs.length = 64) (h1 : t1.length = 17) (h2 : t2.length = 17) (h : argsOK wd hi pt ev = false) :
    Calls Try.prog 17 #[.agg (fileL wd hi pt qs t1 t2 ev sd).toArray] w fun e w' => e = .returned (.int .i64 1) ∧ Ext w w' := by
  unfold argsOK at h
  cases k1 : inB wd 1 64 with
  | false => exact fcheck_na wd hi pt ev qs t1 t2 sd w hq h1 h2 k1
  | true =>
    cases k2 : inB hi 1 64 with
    | false => exact fcheck_nb wd hi pt ev qs t1 t2 sd w hq h1 h2 k1 k2
    | true =>
      by_cases p1 : pt = 1
      · subst p1
        cases k3 : inB ev 0 100 with
        | false => exact fcheck_nd wd hi ev qs t1 t2 sd w hq h1 h2 k1 k2 k3
        | true => rw [k1, k2, k3] at h; cases h
      · by_cases p3 : pt = 3
        · subst p3
          cases k3 : inB ev 0 100 with
          | false => exact fcheck_ne wd hi ev qs t1 t2 sd w hq h1 h2 k1 k2 k3
          | true => rw [k1, k2, k3] at h; cases h
        · exact fcheck_nc wd hi pt ev qs t1 t2 sd w hq h1 h2 k1 k2 (by simpa using p1) (by simpa using p3)
end Go.Proofs.Ytkfdkkhhkciocaa
/- power of the reference: 1 << k. -/
namespace Go.Proofs.Ytkfdkkhhkciocaa
set_option linter.unusedVariables false
set_option linter.unusedSimpArgs false
open Go.RowKit
theorem pow_le (k m : Nat) (h : k ≤ m) : (2 : Int) ^ k ≤ 2 ^ m := by
  have := Nat.pow_le_pow_right (n := 2) (by omega) h
  exact_mod_cast this
theorem pow_pos' (k : Nat) : (1 : Int) ≤ 2 ^ k := by
  have := Nat.two_pow_pos k
  exact_mod_cast this
theorem power_any (k : Nat) (w : World) (hk : k ≤ 62) : Calls Try.prog 100 #[.int .i64 k] w fun e w' => e = .returned (.int .i64 (2 ^ k)) ∧ w = w' := by
  have h1 := pow_le k 62 hk
  have h2 := pow_pos' k
  have h3 : (2 : Int) ^ 62 = 4611686018427387904 := by decide
  rw [h3] at h1
  clear h3
  go_enter Try.func100, Try.ntmps100
  go_wp2
  go_ret
  exact ⟨rfl, rfl⟩
end Go.Proofs.Ytkfdkkhhkciocaa
