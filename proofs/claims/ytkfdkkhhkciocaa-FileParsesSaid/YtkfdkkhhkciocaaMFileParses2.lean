/- Contracts for the law FileParses, part 2: what the functions that it reaches answer, for all arguments that the theorems name. -/
import Derived.Test.YtkfdkkhhkciocaaMFileParses1
import Derived.Deep.MidRow
import Derived.WalkKit
import Derived.Deep.QuietTactic
/- Arithmetic on casts of natural numbers, run; binOp in drawn regions. -/
namespace Go.Proofs.Ytkfdkkhhkciocaa
set_option linter.unusedVariables false
set_option linter.unusedSimpArgs false
open Go.RowKit
theorem guardN (op : BinOp) (x y : Operand) (v w : Int) (W : World) : (eqGuard op 3 x y (.int .i64 v) (.int .i64 w)).run Try.prog W = .ok () W := by
  cases op <;> go_simp
theorem run_quoN (i d : Nat) (h : i < 1000000000000) (hd : 0 < d) (W : World) : (binOp .quo 3 (.int .i64 (i : Int)) (.int .i64 (d : Int))).run Try.prog W = .ok (.int .i64 ((i / d : Nat) : Int)) W := by
  have h0 : (0 : Int) ≤ (i : Int) := by omega
  have h1 : ¬ d = 0 := by omega
  have h2 : (i / d : Nat) ≤ i := Nat.div_le_self _ _
  have h5 : ∀ q : Nat, q ≤ i → IntKind.i64.wrap (q : Int) = (q : Int) := fun q hq => IntWalk.i64_in _ (by omega)
  have h4 : IntKind.i64.wrap ((i : Int) / (d : Int)) = (i : Int) / (d : Int) := by rw [← Int.natCast_ediv]; exact h5 _ h2
  have h3 : (Int.tdiv (i : Int) (d : Int)) = (i : Int) / (d : Int) := Int.tdiv_eq_ediv_of_nonneg h0
  go_simp
theorem run_remN (i d : Nat) (h : i < 1000000000000) (hd : 0 < d) (W : World) : (binOp .rem 3 (.int .i64 (i : Int)) (.int .i64 (d : Int))).run Try.prog W = .ok (.int .i64 ((i % d : Nat) : Int)) W := by
  have h0 : (0 : Int) ≤ (i : Int) := by omega
  have h1 : ¬ d = 0 := by omega
  have h3 : (Int.tmod (i : Int) (d : Int)) = (i : Int) % (d : Int) := Int.tmod_eq_emod_of_nonneg h0
  go_simp
theorem run_mulN (i d k : Nat) (h : i * d = k) (hk : k < 1000000000000) (W : World) : (binOp .mul 3 (.int .i64 (i : Int)) (.int .i64 (d : Int))).run Try.prog W = .ok (.int .i64 (k : Int)) W := by
  have h4 : IntKind.i64.wrap ((i : Int) * (d : Int)) = (k : Int) := by rw [← Int.natCast_mul, h]; exact IntWalk.i64_in _ (by omega)
  go_simp
theorem run_addN (i d : Nat) (h : i + d < 1000000000000) (W : World) : (binOp .add 3 (.int .i64 (i : Int)) (.int .i64 (d : Int))).run Try.prog W = .ok (.int .i64 ((i + d : Nat) : Int)) W := by
  have h4 : IntKind.i64.wrap ((i : Int) + (d : Int)) = ((i + d : Nat) : Int) := by rw [← Int.natCast_add]; exact IntWalk.i64_in _ (by omega)
  go_simp
theorem run_subN (i d : Nat) (h : i < 1000000000000) (h2 : d ≤ i) (W : World) : (binOp .sub 3 (.int .i64 (i : Int)) (.int .i64 (d : Int))).run Try.prog W = .ok (.int .i64 ((i - d : Nat) : Int)) W := by
  have h4 : IntKind.i64.wrap ((i : Int) - (d : Int)) = ((i - d : Nat) : Int) := by rw [← Int.natCast_sub h2]; exact IntWalk.i64_in _ (by omega)
  go_simp
section
variable {P : Program} {md : Region.Mode} {ops : Array Oper} {R : World → World → Prop} {Q : Exit → Act → World → Prop} {rest : List Oper} {o : Oper} {k : Nat} {listed : Array Bool} {a : Act} {wc : World}
theorem lx_binOp (hw : Region.wanted o (yielded ops a.tmps) = true) (op : BinOp) (t : TypeId) (x y : Operand) (t2 : TypeId) (ho : o.op = .binOp op t x y t2) (vx vy : Value) (hx : a.eval x = vx) (hy : a.eval y = vy) (v : Value)
    (hg : ∀ w, (eqGuard op t x y vx vy).run P w = .ok () w) (hr : ∀ w, (binOp op t vx vy).run P w = .ok v w) (h : wpLx P md ops R Q rest (k + 1) (listed.setIfInBounds k true) (a.put o.dst v) wc) : wpLx P md ops R Q (o :: rest) k listed a wc :=
  lx_run hw v (fun w => by simp [execOp, ho, hx, hy, hg, hr]) h
end
theorem run_loadN (W : World) (p : Addr) (z : Int) (h : W.cell? p = some (.int .i64 z)) : (Instr.loadAt 3 (.pointer (some p))).run Try.prog W = .ok (.int .i64 z) W := by
  go_simp
end Go.Proofs.Ytkfdkkhhkciocaa
/- A load of a whole row or struct at any address (a slice's element of many cells). -/
namespace Go.Proofs.Ytkfdkkhhkciocaa
set_option linter.unusedVariables false
set_option linter.unusedSimpArgs false
open Go.RowKit
/-- the cells cs lie from address p on -/
def CellsAt (w : World) (p : Addr) (cs : List Value) : Prop := ∀ j v, cs[j]? = some v → w.cell? (p.add j) = some v
section
variable {P : Program}
theorem run_loadVar_any (w : World) (p : Addr) (ty : TypeId) (cs : List Value) (d : TypeDesc) (hc : CellsAt w p cs) (hu : P.underlying ty = some d) (hd : d.isRow = true) (hi : (P.info? ty).map (·.size) = some cs.length) :
    (loadVar ty p).run P w = .ok (.agg cs.toArray) w := by
  have hl : (loadCells p cs.length).run P w = .ok cs.toArray w := run_loadCells_list (P := P) w p cs hc
  cases hq : P.info? ty with
  | none => simp [hq] at hi
  | some i =>
    have hs : i.size = cs.length := by simpa [hq] using hi
    have hagg : (isAgg ty).run P w = .ok true w := by
      unfold isAgg
      rw [Sem.run_bind, run_underlying hu w]
      cases d <;> simp_all
    simp [loadVar, Sem.run_bind, hagg, sizeOf, typeInfo, hq, hs, hl]
theorem wpList_load_any {ops : Array Oper} {rest : List Oper} {op : Oper} {a : Act} {w : World} {Q : Exit → Act → World → Prop} (hw : Region.wanted op (yielded ops a.tmps) = true) (ty : TypeId) (x : Operand) (ho : op.op = .load ty x)
    (p : Addr) (hx : a.eval x = .pointer (some p)) (cs : List Value) (d : TypeDesc) (hc : CellsAt w p cs) (hu : P.underlying ty = some d) (hd : d.isRow = true) (hi : (P.info? ty).map (·.size) = some cs.length)
    (h : wpList P ops Q rest (a.put op.dst (.agg cs.toArray)) w) : wpList P ops Q (op :: rest) a w :=
  wpList_wanted hw fun _ hK => by
    unfold Oper.wp execOp
    simp only [ho, hx, Instr.loadAt, Instr.sureAddr, Sem.run_bind, Sem.run_pure, Result.andThen_ok, run_loadVar_any w p ty cs d hc hu hd hi]
    exact hK _ _ h
theorem lx_load_any {md : Region.Mode} {ops : Array Oper} {R : World → World → Prop} {Q : Exit → Act → World → Prop} {rest : List Oper} {o : Oper} {k : Nat} {listed : Array Bool} {a : Act} {wc : World} (hw : Region.wanted o (yielded ops a.tmps) = true) (ty : TypeId) (x : Operand) (ho : o.op = .load ty x)
    (p : Addr) (hx : a.eval x = .pointer (some p)) (cs : List Value) (d : TypeDesc) (hc : ∀ w, R wc w → CellsAt w p cs) (hu : P.underlying ty = some d) (hd : d.isRow = true) (hi : (P.info? ty).map (·.size) = some cs.length)
    (h : wpLx P md ops R Q rest (k + 1) (listed.setIfInBounds k true) (a.put o.dst (.agg cs.toArray)) wc) : wpLx P md ops R Q (o :: rest) k listed a wc := by
  refine lx_read hw _ (fun w hC => ?_) h
  unfold execOp
  simp only [ho, hx, Instr.loadAt, Instr.sureAddr, Sem.run_bind, Sem.run_pure, Result.andThen_ok, run_loadVar_any w p ty cs d (hc w hC) hu hd hi]
end
/-- the k-th part of a slice whose elements have sz cells -/
theorem SL.part {w : World} {sz n c : Nat} {A : Option Addr} {xs : List Value} (h : SL w sz (.slice A n c) n xs) {k : Nat} (hk : k < n) : ∃ ad, A = some ad ∧ ad.block < w.heap.size ∧ CellsAt w (ad.add (k * sz)) ((xs.drop (k * sz)).take sz) := by
  obtain ⟨A', c', he, -, -, hl, hf⟩ := h
  injection he with e1 e2 e3
  subst e1
  obtain ⟨ad, rfl, hb, hcell⟩ := hf (by omega)
  refine ⟨ad, rfl, hb, fun j v hv => ?_⟩
  rw [add_of_add]
  have hj : j < sz := by have := (List.getElem?_eq_some_iff.1 hv).1; simp at this; omega
  rw [List.getElem?_take_of_lt hj, List.getElem?_drop] at hv
  exact hcell _ _ hv
end Go.Proofs.Ytkfdkkhhkciocaa
namespace Go.Proofs.Ytkfdkkhhkciocaa
set_option linter.unusedVariables false
set_option linter.unusedSimpArgs false
open Go.RowKit
def ints (zs : List Int) : List Value := zs.map (Value.int .i64)
theorem ints_at (zs : List Int) (k : Nat) (u : Value) (h : (ints zs)[k]? = some u) : ∃ hk : k < zs.length, u = .int .i64 zs[k] := by
  unfold ints at h
  rw [List.getElem?_map] at h
  obtain ⟨z, hz, rfl⟩ := Option.map_eq_some_iff.1 h
  obtain ⟨hk, e⟩ := List.getElem?_eq_some_iff.1 hz
  exact ⟨hk, by rw [e]⟩
theorem ints_len (zs : List Int) : (ints zs).length = zs.length := by simp [ints]
theorem take_succ_iff {α : Type} (xs ys : List α) (k : Nat) (h1 : k < xs.length) (h2 : k < ys.length) :
    xs.take (k + 1) = ys.take (k + 1) ↔ xs.take k = ys.take k ∧ xs[k] = ys[k] := by
  rw [List.take_succ_eq_append_getElem h1, List.take_succ_eq_append_getElem h2]
  constructor
  · intro h
    have := List.append_inj h (by simp; omega)
    exact ⟨this.1, by simpa using this.2⟩
  · rintro ⟨a, b⟩; rw [a, b]
set_option maxHeartbeats 400000 in
theorem eqInt_any (u v : Value) (xs ys : List Int) (w : World) (hu : SL w 1 u xs.length (ints xs)) (hv : SL w 1 v ys.length (ints ys)) :
    Calls Try.prog 13 #[u, v] w fun e w' => e = .returned (.bool (decide (xs = ys))) ∧ w = w' := by
  have hu' := hu
  have hv' := hv
  obtain ⟨A, c, rfl, hc1, hc2, -, -⟩ := hu'
  obtain ⟨B, d, rfl, hd1, hd2, -, -⟩ := hv'
  by_cases hl : (xs.length : Int) != ys.length
  · go_enter Try.func13, Try.ntmps13
    go_wp2
    go_ret
    refine ⟨?_, rfl⟩
    have : xs ≠ ys := by rintro rfl; simp at hl
    simp [this]
  · have h9 : (xs.length : Int) = ys.length := by simpa using hl
    have hl' : xs.length = ys.length := by omega
    clear h9
    have HL := hl'
    have hn : ((xs.length : Int) != ys.length) = false := by simpa using hl
    have HE : Hid (xs.length = ys.length) := HL
    clear hl HL
    go_enter Try.func13, Try.ntmps13
    clear hl'
    go_wp2
    go_loop [14] (fun i => ∃ k : Nat, k ≤ xs.length ∧ i = .int .i64 k ∧ xs.take k = ys.take k) (fun i => xs.length - (intOf i).toNat)
    case atStart => exact ⟨0, by omega, rfl, by simp⟩
    case round =>
      obtain ⟨k, hk, rfl, ht⟩ := hrel
      have HT : Hid (xs.take k = ys.take k) := ht
      clear ht
      by_cases hlt : k < xs.length
      · have hlt2 : k < ys.length := by have := HE.out; omega
        obtain ⟨ad, u, rfl, -, hx, hcell⟩ := hu.at1 hlt
        obtain ⟨_, rfl⟩ := ints_at _ _ _ hx
        obtain ⟨bd, u, rfl, -, hy, hcell2⟩ := hv.at1 hlt2
        obtain ⟨_, rfl⟩ := ints_at _ _ _ hy
        clear hx hy
        by_cases hq : xs[k] = ys[k]
        · have hq' : ((xs[k] : Int) != ys[k]) = false := by simpa using hq
          have HQ : Hid (xs[k] = ys[k]) := hq
          clear hq
          go_wp2
          go_round
          case rel => exact ⟨k + 1, by omega, by go_num, (take_succ_iff _ _ _ hlt hlt2).2 ⟨HT.out, HQ.out⟩⟩
          case measure => simp [intOf]; omega
        · have hq' : ((xs[k] : Int) != ys[k]) = true := by simpa using hq
          go_wp2
          go_ret
          refine ⟨?_, rfl⟩
          have : xs ≠ ys := by rintro rfl; exact hq rfl
          simp [this]
      · go_wp2
        go_ret
        refine ⟨?_, rfl⟩
        have e : xs = ys := by
          have := HT.out
          rwa [List.take_of_length_le (by omega), List.take_of_length_le (by have := HE.out; omega)] at this
        simp [e]
theorem Blk.ints {w : World} {g : Nat} {T : TypeId} {zs : List Int} (h : Blk w g T (ints zs).toArray) (hl : zs.length ≤ 9223372036854775807) :
    SL w 1 (.slice (some ⟨g, 0, none⟩) zs.length zs.length) zs.length (Go.Proofs.Ytkfdkkhhkciocaa.ints zs) := by
  have := h.sl (size := 1) (n := zs.length) (c := zs.length) (by simp [ints_len]) (Nat.le_refl _) hl
  simpa using this
/-- a literal against itself -/
theorem eqInt_lit (zs : List Int) (T : TypeId) (w1 : World) (hl : zs.length ≤ 9223372036854775807) (n g1 g2 : Nat) (hn : zs.length = n) (h1 : w1.heap.size = g1) (h2 : w1.heap.size + 1 = g2) (cs : List Value) (hcs : ints zs = cs) :
    Calls Try.prog 13 #[.slice (some ⟨g1, 0, none⟩) n n, .slice (some ⟨g2, 0, none⟩) n n] ((w1.alloc (.cells cs.toArray T)).alloc (.cells cs.toArray T)) fun e w' => e = .returned (.bool true) ∧ ((w1.alloc (.cells cs.toArray T)).alloc (.cells cs.toArray T)) = w' := by
  subst hn h1 h2 hcs
  have hA : Blk ((w1.alloc (.cells (ints zs).toArray T)).alloc (.cells (ints zs).toArray T)) w1.heap.size T (ints zs).toArray := (Blk.new w1 T _).alloc _
  have hB : Blk ((w1.alloc (.cells (ints zs).toArray T)).alloc (.cells (ints zs).toArray T)) (w1.heap.size + 1) T (ints zs).toArray := by
    have := Blk.new (w1.alloc (.cells (ints zs).toArray T)) T (ints zs).toArray
    rwa [World.size_alloc] at this
  exact (eqInt_any _ _ zs zs _ (hA.ints hl) (hB.ints hl)).mono fun e w' ⟨he, hw⟩ => ⟨by simpa using he, hw⟩
end Go.Proofs.Ytkfdkkhhkciocaa
/- Plain arithmetic: rounding, clamping. -/
namespace Go.Proofs.Ytkfdkkhhkciocaa
set_option linter.unusedVariables false
set_option linter.unusedSimpArgs false
/-- rounding of a number not below 0 -/
def rp (n d : Int) : Int := (2 * n + d) / (2 * d)
def rnd (n d : Int) : Int := if n < 0 then -(rp (-n) d) else rp n d
theorem rp_bounds (n d : Int) (h0 : 0 ≤ n) (hd : 1 ≤ d) : 0 ≤ rp n d ∧ rp n d ≤ n + 1 := by
  unfold rp
  constructor
  · exact Int.ediv_nonneg (by omega) (by omega)
  · have h1 : (2 * n + d) / (2 * d) * (2 * d) ≤ 2 * n + d := Int.ediv_mul_le _ (by omega)
    generalize (2 * n + d) / (2 * d) = q at *
    refine Int.not_lt.1 fun hq => ?_
    have h2 : (n + 2) * (2 * d) ≤ q * (2 * d) := Int.mul_le_mul_of_nonneg_right (by omega) (by omega)
    have h3 : n * 2 ≤ n * (2 * d) := Int.mul_le_mul_of_nonneg_left (by omega) h0
    rw [Int.add_mul] at h2
    omega
theorem rp_eq (n d : Int) (hd : 1 ≤ d) : rp n d = n / d + (if d ≤ 2 * (n % d) then 1 else 0) := by
  have e := Int.mul_ediv_add_emod n d
  have r0 := Int.emod_nonneg n (show d ≠ 0 by omega)
  have r1 := Int.emod_lt_of_pos n (show 0 < d by omega)
  unfold rp
  have e2 : 2 * n + d = (2 * (n % d) + d) + (2 * d) * (n / d) := by
    have : 2 * d * (n / d) = 2 * (d * (n / d)) := Int.mul_assoc _ _ _
    omega
  rw [e2, Int.add_mul_ediv_left _ _ (by omega)]
  have : (2 * (n % d) + d) / (2 * d) = if d ≤ 2 * (n % d) then 1 else 0 := by
    split
    · have e3 : 2 * (n % d) + d = (2 * (n % d) - d) + (2 * d) * 1 := by omega
      rw [e3, Int.add_mul_ediv_left _ _ (by omega), Int.ediv_eq_zero_of_lt (by omega) (by omega)]
      rfl
    · exact Int.ediv_eq_zero_of_lt (by omega) (by omega)
  rw [this]; omega
theorem rnd_bounds (n d : Int) (hd : 1 ≤ d) : -(n.natAbs : Int) - 1 ≤ rnd n d ∧ rnd n d ≤ n.natAbs + 1 := by
  unfold rnd
  split
  · have := rp_bounds (-n) d (by omega) hd; omega
  · have := rp_bounds n d (by omega) hd; omega
def clampZ (n lo hi : Int) : Int := if n < lo then lo else if hi < n then hi else n
theorem clampZ_bounds (n lo hi : Int) (h : lo ≤ hi) : lo ≤ clampZ n lo hi ∧ clampZ n lo hi ≤ hi := by
  unfold clampZ; split <;> (try split) <;> omega
theorem min_max (n lo hi : Int) (h : lo ≤ hi) : min (max n lo) hi = clampZ n lo hi := by
  unfold clampZ; split <;> (try split) <;> omega
/-- within bounds? -/
def inB (n lo hi : Int) : Bool := decide (lo ≤ n ∧ n ≤ hi)
theorem inB_iff {n lo hi : Int} : inB n lo hi = true ↔ lo ≤ n ∧ n ≤ hi := by simp [inB]
theorem inB_not {n lo hi : Int} : inB n lo hi = false ↔ n < lo ∨ hi < n := by rw [← Bool.not_eq_true, inB_iff]; omega
/-- are all within bounds? -/
def allIn (zs : List Int) (lo hi : Int) : Bool := zs.all fun z => inB z lo hi
theorem allIn_iff {zs : List Int} {lo hi : Int} : allIn zs lo hi = true ↔ ∀ z ∈ zs, lo ≤ z ∧ z ≤ hi := by simp [allIn, inB_iff]
theorem allIn_no {zs : List Int} {lo hi : Int} {k : Nat} (hk : k < zs.length) (h : inB zs[k] lo hi = false) : allIn zs lo hi = false := by
  rw [← Bool.not_eq_true, allIn_iff]
  intro hh
  have := inB_iff.2 (hh _ (List.getElem_mem hk))
  rw [this] at h; cases h
theorem allIn_not {zs : List Int} {lo hi : Int} : (!zs.any fun z => decide (z < lo) || decide (hi < z)) = allIn zs lo hi := by
  rw [Bool.eq_iff_iff, allIn_iff]
  simp only [Bool.not_eq_true', List.any_eq_false, Bool.or_eq_true, decide_eq_true_eq]
  exact ⟨fun h z hz => by have := h z hz; omega, fun h z hz => by have := h z hz; omega⟩
theorem inB_any {zs : List Int} {lo hi : Int} : (zs.any fun z => !inB z lo hi) = !allIn zs lo hi := by
  simp [allIn, List.all_eq_not_any_not]
end Go.Proofs.Ytkfdkkhhkciocaa
/- Rows of integers by value: general facts. -/
namespace Go.Proofs.Ytkfdkkhhkciocaa
set_option linter.unusedVariables false
set_option linter.unusedSimpArgs false
open Go.RowKit
theorem sizeInt : (Try.prog.info? 3).map (·.size) = some 1 := by kernel_rfl
/-- a block of 64 numbers, as a value -/
def bv (zs : List Int) : Array Value := (ints zs).toArray
theorem bv_size (zs : List Int) : (bv zs).size = zs.length := by simp [bv, ints_len]
theorem bv_at (zs : List Int) (k : Nat) (h : k < zs.length) : (bv zs)[k]? = some (.int .i64 zs[k]) := by simp [bv, ints, h]
theorem bv_one (zs : List Int) : (bv zs).all (·.oneCell') = true := by
  simp only [bv, Array.all_eq_true_iff_forall_mem]
  intro v hv
  simp only [List.mem_toArray, ints, List.mem_map] at hv
  obtain ⟨z, -, rfl⟩ := hv
  rfl
theorem bv_set (zs : List Int) (k : Nat) (z : Int) : (bv zs).setIfInBounds k (.int .i64 z) = bv (zs.set k z) := by
  simp [bv, ints, List.map_set]
theorem Blk.bsl {w : World} {g : Nat} {T : TypeId} {zs : List Int} {c : Nat} (h : Blk w g T (bv zs)) (hc : zs.length ≤ c) (hc2 : c ≤ 9223372036854775807) :
    SL w 1 (.slice (some ⟨g, 0, none⟩) zs.length c) zs.length (Go.Proofs.Ytkfdkkhhkciocaa.ints zs) := by
  have := h.sl (size := 1) (n := zs.length) (c := c) (by simp [bv_size]) hc hc2
  simpa [bv] using this
theorem allIn_take {zs : List Int} {lo hi : Int} {k : Nat} (h : ∀ z ∈ zs.take k, lo ≤ z ∧ z ≤ hi) (hk : k < zs.length) (hz : lo ≤ zs[k] ∧ zs[k] ≤ hi) : ∀ z ∈ zs.take (k + 1), lo ≤ z ∧ z ≤ hi := by
  rw [List.take_succ_eq_append_getElem hk]
  intro z hz'
  rcases List.mem_append.1 hz' with h1 | h1
  · exact h z h1
  · simp at h1; subst h1; exact hz
end Go.Proofs.Ytkfdkkhhkciocaa
namespace Go.Proofs.Ytkfdkkhhkciocaa
set_option linter.unusedVariables false
set_option linter.unusedSimpArgs false
open Go.RowKit
theorem rround_any (n d : Int) (w : World) (hn1 : -1000000000000000000 ≤ n) (hn : n ≤ 1000000000000000000) (hd : 1 ≤ d) (hd2 : d ≤ 1000000000000000000) :
    Calls Try.prog 99 #[.int .i64 n, .int .i64 d] w fun e w' => e = .returned (.int .i64 (rnd n d)) ∧ w = w' := by
  have pos : ∀ n : Int, 0 ≤ n → 0 ≤ n / d ∧ n / d ≤ n ∧ 0 ≤ n % d ∧ n % d < d := fun n h0 =>
    ⟨Int.ediv_nonneg h0 (by omega), Int.ediv_le_self _ h0, Int.emod_nonneg _ (by omega), Int.emod_lt_of_pos _ (by omega)⟩
  by_cases h : n < 0
  · obtain ⟨m, rfl⟩ : ∃ m, n = -m := ⟨-n, by omega⟩
    have hm : 0 < m := by omega
    obtain ⟨q0, q1, r0, r1⟩ := pos m (by omega)
    have hfin : rnd (-m) d = -(m / d + (if d ≤ 2 * (m % d) then 1 else 0)) := by rw [rnd, if_pos h, rp_eq _ _ hd]; simp
    clear h pos
    by_cases h2 : d ≤ 2 * (m % d)
    · rw [hfin, if_pos h2]; clear hfin
      go_enter Try.func99, Try.ntmps99
      go_wp2
      go_ret
      exact ⟨by simp, rfl⟩
    · rw [hfin, if_neg h2]; clear hfin
      go_enter Try.func99, Try.ntmps99
      go_wp2
      go_ret
      exact ⟨by simp, rfl⟩
  · obtain ⟨q0, q1, r0, r1⟩ := pos n (by omega)
    have hfin : rnd n d = n / d + (if d ≤ 2 * (n % d) then 1 else 0) := by rw [rnd, if_neg h, rp_eq _ _ hd]
    clear pos
    by_cases h2 : d ≤ 2 * (n % d)
    · rw [hfin, if_pos h2]; clear hfin
      go_enter Try.func99, Try.ntmps99
      go_wp2
      go_ret
      exact ⟨rfl, rfl⟩
    · rw [hfin, if_neg h2]; clear hfin
      go_enter Try.func99, Try.ntmps99
      go_wp2
      go_ret
      exact ⟨by simp, rfl⟩
theorem clamp_any (n lo hi : Int) (w : World) :
    Calls Try.prog 101 #[.int .i64 n, .int .i64 lo, .int .i64 hi] w fun e w' => e = .returned (.int .i64 (clampZ n lo hi)) ∧ w = w' := by
  by_cases h : n < lo
  · go_enter Try.func101, Try.ntmps101
    go_wp2
    go_ret
    exact ⟨by simp [clampZ, h], rfl⟩
  · by_cases h2 : hi < n
    · go_enter Try.func101, Try.ntmps101
      go_wp2
      go_ret
      exact ⟨by unfold clampZ; rw [if_neg (by omega), if_pos h2]; rfl, rfl⟩
    · go_enter Try.func101, Try.ntmps101
      go_wp2
      go_ret
      exact ⟨by unfold clampZ; rw [if_neg (by omega), if_neg (by omega)]; rfl, rfl⟩
theorem outside_any (n lo hi : Int) (w : World) :
    Calls Try.prog 28 #[.int .i64 n, .int .i64 lo, .int .i64 hi] w fun e w' => e = .returned (.bool (!inB n lo hi)) ∧ w = w' := by
  by_cases h : n < lo
  · have h' : decide (n < lo) = true := by simpa using h
    have e : (!inB n lo hi) = true := by rw [inB_not.2 (Or.inl h)]; rfl
    rw [e]; clear e
    go_enter Try.func28, Try.ntmps28
    go_wp2
    go_ret
    exact ⟨rfl, rfl⟩
  · have h' : decide (n < lo) = false := by simpa using h
    have e : (!inB n lo hi) = decide (hi < n) := by rw [Bool.eq_iff_iff, Bool.not_eq_true', inB_not]; simp; omega
    rw [e]; clear e
    go_enter Try.func28, Try.ntmps28
    go_wp2
    go_ret
    exact ⟨rfl, rfl⟩
end Go.Proofs.Ytkfdkkhhkciocaa
/- slices.IndexFunc, slices.ContainsFunc over a []int, whatever the function value. -/
namespace Go.Proofs.Ytkfdkkhhkciocaa
set_option linter.unusedVariables false
set_option linter.unusedSimpArgs false
open Go.RowKit
def Enters (P : Program) (f : FuncId) : Prop := ∀ (args : Array Value) (w : World), (callFunc f args).run P w = .ok (.enter f args) w
theorem enters_of {P : Program} {f : FuncId} {fn : Func} {c : Code} (hf : P.funcs[f]? = some fn) (hname : (fn.name == "runtime.NumGoroutine") = false) (hb : fn.body = some c) : Enters P f := by
  intro args w
  have hn : ¬ fn.name = "runtime.NumGoroutine" := by simpa using hname
  simp [callFunc, hf, hb, hn]
def idxOf (p : Int → Bool) (zs : List Int) : Int := match zs.findIdx? p with | some k => k | none => -1
theorem indexFunc_any (g : Nat) (cap : Array Value) (p : Int → Bool) (eg : Enters Try.prog g) (v : Value) (zs : List Int) (w : World) (hs : SL w 1 v zs.length (ints zs))
    (hp : ∀ z ∈ zs, Calls Try.prog g (#[.int .i64 z] ++ cap) w fun e w' => e = .returned (.bool (p z)) ∧ w = w') :
    Calls Try.prog 114 #[v, .func (.func g) #[] cap] w fun e w' => e = .returned (.int .i64 (idxOf p zs)) ∧ w = w' := by
  have hs' := hs
  obtain ⟨A, c, rfl, hc1, hc2, -, -⟩ := hs'
  go_enter Try.func114, Try.ntmps114
  go_wp2_with fail
  go_loop [8] (fun i => ∃ k : Nat, k ≤ zs.length ∧ i = .int .i64 k ∧ ∀ z ∈ zs.take k, p z = false) (fun i => zs.length - (intOf i).toNat)
  case atStart => exact ⟨0, by omega, rfl, by simp⟩
  case round =>
    obtain ⟨k, hk, rfl, ht⟩ := hrel
    have HT : Hid (∀ z ∈ zs.take k, p z = false) := ht
    clear ht
    by_cases hlt : k < zs.length
    · obtain ⟨ad, u, rfl, -, hx, hcell⟩ := hs.at1 hlt
      obtain ⟨_, rfl⟩ := ints_at _ _ _ hx
      clear hx
      have hcall := hp zs[k] (List.getElem_mem _)
      have HC : Hid (Calls Try.prog g (#[.int .i64 zs[k]] ++ cap) w fun e w' => e = .returned (.bool (p zs[k])) ∧ w = w') := hcall
      have HP : Hid (∀ z ∈ zs, Calls Try.prog g (#[.int .i64 z] ++ cap) w fun e w' => e = .returned (.bool (p z)) ∧ w = w') := hp
      clear hcall hp
      unfold Enters at eg
      by_cases hz : p zs[k] = true
      · have hfin : idxOf p zs = k := by
          unfold idxOf
          have : zs.findIdx? p = some k := by
            rw [List.findIdx?_eq_some_iff_getElem]
            refine ⟨hlt, hz, fun j hj => ?_⟩
            have := HT.out zs[j] (by
              rw [List.mem_take_iff_getElem]
              exact ⟨j, by omega, rfl⟩)
            simp [this]
          rw [this]
        have HF := hid_ hfin
        clear hfin
        go_wp2_with fail
        refine HC.out.mono ?_
        rintro e w' ⟨rfl, rfl⟩
        rw [hz]; clear hz
        go_wp2
        go_ret
        exact ⟨by rw [HF.out]; rfl, rfl⟩
      · have hz' : p zs[k] = false := by simpa using hz
        have HZ := hid_ hz'
        clear hz
        go_wp2_with fail
        refine HC.out.mono ?_
        rintro e w' ⟨rfl, rfl⟩
        rw [hz']; clear hz'
        go_wp2
        go_round
        case rel =>
          refine ⟨k + 1, by omega, by go_num, fun z hz => ?_⟩
          rw [List.take_succ_eq_append_getElem hlt] at hz
          rcases List.mem_append.1 hz with h1 | h1
          · exact HT.out z h1
          · simp at h1; subst h1; exact HZ.out
        case measure => simp [intOf]; omega
    · have hfin : idxOf p zs = -1 := by
        unfold idxOf
        have : zs.findIdx? p = none := by
          rw [List.findIdx?_eq_none_iff]
          have h := HT.out
          rwa [List.take_of_length_le (by omega)] at h
        rw [this]
      have HF := hid_ hfin
      clear hfin
      go_wp2
      go_ret
      exact ⟨by rw [HF.out]; rfl, rfl⟩
theorem idxOf_ge (p : Int → Bool) (zs : List Int) : decide (idxOf p zs ≥ 0) = zs.any p := by
  unfold idxOf
  cases h : zs.findIdx? p with
  | none =>
    have : zs.any p = false := by rw [List.any_eq_false]; intro x hx; have := List.findIdx?_eq_none_iff.1 h x hx; simp [this]
    simp [this]
  | some k =>
    have : zs.any p = true := by
      rw [List.any_eq_true]
      obtain ⟨hk, hp, -⟩ := List.findIdx?_eq_some_iff_getElem.1 h
      exact ⟨_, List.getElem_mem hk, hp⟩
    simp [this]
theorem containsFunc_any (g : Nat) (cap : Array Value) (p : Int → Bool) (eg : Enters Try.prog g) (v : Value) (zs : List Int) (w : World) (hs : SL w 1 v zs.length (ints zs))
    (hp : ∀ z ∈ zs, Calls Try.prog g (#[.int .i64 z] ++ cap) w fun e w' => e = .returned (.bool (p z)) ∧ w = w') :
    Calls Try.prog 85 #[v, .func (.func g) #[] cap] w fun e w' => e = .returned (.bool (zs.any p)) ∧ w = w' := by
  have HP := hid_ hp
  have HG := hid_ eg
  clear hp eg
  go_enter Try.func85, Try.ntmps85
  go_wp2_with (go_at_call 114; refine (indexFunc_any g cap p HG.out v zs _ hs HP.out).mono ?_; rintro e w' ⟨rfl, rfl⟩)
  go_ret
  exact ⟨by rw [← idxOf_ge]; rfl, rfl⟩
end Go.Proofs.Ytkfdkkhhkciocaa
/- api.Block by value: the facts of its type, and the contracts on whether all its numbers lie within bounds. -/
namespace Go.Proofs.Ytkfdkkhhkciocaa
set_option linter.unusedVariables false
set_option linter.unusedSimpArgs false
open Go.RowKit
theorem run_index48 (cs : Array Value) (i : Nat) (u : Value) (hi : i < 64) (hu : cs[i]? = some u) (w : World) : (Instr.index 24 (.agg cs) (.int .i64 (i : Int))).run Try.prog w = .ok u w :=
  run_index_agg _ _ 64 cs i u Try.underlying24 _ Try.underlying3 sizeInt hi hu w
theorem size48 : (Try.prog.info? 24).map (·.size) = some 64 := by kernel_rfl
set_option maxHeartbeats 400000 in
theorem blockWithin_any (zs : List Int) (lo hi : Int) (w : World) (hz : zs.length = 64) :
    Calls Try.prog 33 #[.agg (bv zs), .int .i64 lo, .int .i64 hi] w fun e w' => e = .returned (.bool (allIn zs lo hi)) ∧ Ext w w' := by
  have HZ : Hid (zs.length = 64) := hz
  have hs := (bv_size zs).trans hz
  have HS : Hid ((bv zs).size = 64) := hs
  have hat := bv_at zs
  generalize hcs : bv zs = cs at *
  have HA : Hid (∀ (k : Nat) (h : k < zs.length), cs[k]? = some (.int .i64 zs[k])) := hat
  clear hat hs hz hcs
  go_enter Try.func33, Try.ntmps33
  go_wp2_with (refine wpList_load_blk rfl 24 _ rfl _ rfl (Blk.new w 24 cs) _ Try.underlying24 rfl 64 size48 HS.out ?_)
  go_loop [10] (fun i => ∃ k : Nat, k ≤ 64 ∧ i = .int .i64 k ∧ ∀ z ∈ zs.take k, lo ≤ z ∧ z ≤ hi) (fun i => 64 - (intOf i).toNat)
  case atStart => exact ⟨0, by omega, rfl, by simp⟩
  case round =>
    obtain ⟨k, hk, rfl, ht⟩ := hrel
    have HT : Hid (∀ z ∈ zs.take k, lo ≤ z ∧ z ≤ hi) := ht
    clear ht
    by_cases hlt : k < 64
    · have hlt2 : k < zs.length := by have := HZ.out; omega
      have hat := fun W => run_index48 cs k _ hlt (HA.out k hlt2) W
      cases hd : inB zs[k] lo hi with
      | true =>
        have HI := hid_ (inB_iff.1 hd)
        go_wp2_with (go_at_call 28; refine (outside_any _ _ _ _).mono ?_; rintro e w' ⟨rfl, rfl⟩)
        go_round
        case rel => exact ⟨k + 1, by omega, by go_num, allIn_take HT.out hlt2 HI.out⟩
        case measure => simp [intOf]; omega
      | false =>
        have HF := hid_ (allIn_no hlt2 hd)
        go_wp2_with (go_at_call 28; refine (outside_any _ _ _ _).mono ?_; rintro e w' ⟨rfl, rfl⟩)
        go_ret
        exact ⟨by rw [HF.out]; rfl, (Ext.refl w).alloc _⟩
    · have hfin : allIn zs lo hi = true := allIn_iff.2 (by have := HT.out; rwa [List.take_of_length_le (by have := HZ.out; omega)] at this)
      have HF : Hid (allIn zs lo hi = true) := hfin
      clear hfin
      go_wp2
      go_ret
      exact ⟨by rw [HF.out]; rfl, (Ext.refl w).alloc _⟩
end Go.Proofs.Ytkfdkkhhkciocaa
/- Runs of single operations on integers, said once. -/
namespace Go.Proofs.Ytkfdkkhhkciocaa
set_option linter.unusedVariables false
set_option linter.unusedSimpArgs false
open Go.RowKit
theorem run_mulI (x y z : Int) (h : IntKind.i64.wrap (x * y) = z) (W : World) : (binOp .mul 3 (.int .i64 x) (.int .i64 y)).run Try.prog W = .ok (.int .i64 z) W := by
  subst h; go_simp
theorem run_addI (x y z : Int) (h : IntKind.i64.wrap (x + y) = z) (W : World) : (binOp .add 3 (.int .i64 x) (.int .i64 y)).run Try.prog W = .ok (.int .i64 z) W := by
  subst h; go_simp
theorem run_indexI (g n : Nat) (h : n < 64) (W : World) : (Instr.indexAt 24 (.pointer (some ⟨g, 0, none⟩)) (.int .i64 (n : Int))).run Try.prog W = .ok (.pointer (some ⟨g, n, none⟩)) W := by
  have h0 : (0 : Int) ≤ (n : Int) := by omega
  have h1 : (n : Int) < 64 := by omega
  go_simp
theorem run_loadI (W : World) (p : Addr) (z : Int) (h : W.cell? p = some (.int .i64 z)) : (Instr.loadAt 3 (.pointer (some p))).run Try.prog W = .ok (.int .i64 z) W := by
  go_simp
theorem guardI (op : BinOp) (x y : Operand) (v w : Int) (W : World) : (eqGuard op 3 x y (.int .i64 v) (.int .i64 w)).run Try.prog W = .ok () W := by
  cases op <;> go_simp
theorem wp_storeI {o : Oper} {a : Act} {w : World} {K : Act → World → Prop} {Q : Exit → Act → World → Prop} (x y : Operand) (ho : o.op = .store 3 x y) (p : Addr) (z : Int) (hx : a.eval x = .pointer (some p)) (hy : a.eval y = .int .i64 z)
    (u : Value) (hc : w.cell? p = some u) (hf : w.frozen? p = false) (h : K (a.put o.dst undef) (w.setCell p (.int .i64 z))) : o.wp Try.prog a w K Q := by
  unfold Oper.wp execOp
  simp only [ho, hx, hy]
  go_simp
  exact h
end Go.Proofs.Ytkfdkkhhkciocaa
