/- Contracts for the law BestMakes, part 15: what the functions that it reaches answer, for all arguments that the theorems name. -/
import Derived.Test.YtideigpabbhhkaaMBestMakes3
import Derived.Test.YtideigpabbhhkaaMBestMakes14
import Derived.Test.YtideigpabbhhkaaMBestMakes10
/- '==' on arrays of integers. -/
namespace Go.Proofs.Ytideigpabbhhkaa
set_option linter.unusedVariables false
set_option linter.unusedSimpArgs false
open Go.RowKit
section
variable {P : Program} (w : World)
theorem run_part_int (e : TypeId) (he : P.underlying e = some (.int .i64)) (zs : List Int) (i : Nat) (hi : i < zs.length) : (part e (bv zs) i).run P w = .ok (.int .i64 zs[i]) w := by
  have hagg : (isAgg e).run P w = .ok false w := by
    unfold isAgg
    rw [Sem.run_bind, run_underlying he w]
    rfl
  simp [part, hagg, bv_at zs i hi]
theorem run_equalIn_ints (d : Nat) (t e : TypeId) (n : Nat) (ht : P.underlying t = some (.array n e)) (he : P.underlying e = some (.int .i64)) (hs : (P.info? e).map (·.size) = some 1) (xs ys : List Int) (hx : xs.length = n) (hy : ys.length = n) :
    (Op.equalIn (d + 2) t (.agg (bv xs)) (.agg (bv ys))).run P w = .ok (decide (xs = ys)) w := by
  cases hq : P.info? e with
  | none => simp [hq] at hs
  | some inf =>
    have hz : inf.size = 1 := by simpa [hq] using hs
    have hso : (sizeOf e).run P w = .ok 1 w := by simp [sizeOf, typeInfo, hq, hz]
    unfold Op.equalIn
    simp only [Sem.run_bind, run_underlying ht, Result.andThen_ok, hso, Nat.mul_one]
    rw [Std.Legacy.Range.forIn_eq_forIn_range']
    simp only [Std.Legacy.Range.size, Nat.sub_zero, Nat.add_sub_cancel, Nat.div_one]
    have key : ∀ (m s : Nat), s + m = n →
        (forIn (m := Sem) (List.range' s m) ((none, ()) : Option Bool × Unit) fun i __s => do
            let __do_lift ← part e (bv xs) i
            let __do_lift_1 ← part e (bv ys) i
            let __do_lift ← Op.equalIn (d + 1) e __do_lift __do_lift_1
            if (!__do_lift) = true then pure (ForInStep.done (some false, ())) else pure (ForInStep.yield (none, ()))).run P w
          = .ok (if xs.drop s = ys.drop s then (none, ()) else (some false, ())) w := by
      intro m
      induction m with
      | zero =>
        intro s hsn
        rw [List.drop_eq_nil_of_le (by omega), List.drop_eq_nil_of_le (by omega)]
        simp
      | succ m ih =>
        intro s hsn
        have h1 : s < xs.length := by omega
        have h2 : s < ys.length := by omega
        rw [List.range'_succ, List.forIn_cons]
        simp only [Sem.run_bind, run_part_int w e he xs s h1, run_part_int w e he ys s h2, Result.andThen_ok, run_equalIn_int w d e .i64 .i64 _ _ he]
        have hd : (xs.drop s = ys.drop s) = (xs[s] = ys[s] ∧ xs.drop (s + 1) = ys.drop (s + 1)) := by
          have e1 := List.drop_eq_getElem_cons h1
          have e2 := List.drop_eq_getElem_cons h2
          rw [e1, e2, List.cons.injEq]
        simp only [hd]
        by_cases hq2 : xs[s] = ys[s]
        · have hb : (xs[s] == ys[s]) = true := by simpa using hq2
          simp only [hb, Bool.not_true, Bool.false_eq_true, if_false, Sem.run_pure, Result.andThen_ok, ih (s + 1) (by omega)]
          simp [hq2]
        · have hb : (xs[s] == ys[s]) = false := by simpa using hq2
          simp only [hb, Bool.not_false, if_true, Sem.run_pure, Result.andThen_ok]
          simp [hq2]
    rw [key n 0 (by omega)]
    by_cases h : xs = ys
    · simp [h]
    · simp [h]
end
end Go.Proofs.Ytideigpabbhhkaa
/- best.Make on any counts; two empty tables are equal. -/
namespace Go.Proofs.Ytideigpabbhhkaa
set_option linter.unusedVariables false
set_option linter.unusedSimpArgs false
open Go.RowKit
theorem builtT0 : Try.prog.built 25 [] = some (tblv (List.replicate 16 0) (.slice none 0 0)) := by
  show _ = some (ints (List.replicate 16 0) ++ [Value.slice none 0 0]).toArray
  kernel_rfl
set_option maxRecDepth 20000 in
set_option maxHeartbeats 2000000 in
theorem make_bad (counts : List Int) (A : Option Addr) (n c : Nat) (hn : counts.length = n) (w : World) (hv : SL w 1 (.slice A n c) n (ints counts)) (hb : bcheckZ counts ≠ 0) :
    Calls Try.prog 15 #[.slice A n c] w fun e w' => e = .returned (.tuple #[.agg (tblv (List.replicate 16 0) (.slice none 0 0)), .int .i64 (bcheckZ counts)]) ∧ Ext w w' := by
  have HB := hid_ (fun W (hx : Ext w W) => bcheck_any counts (.slice A n c) W (by rw [hn]; exact hv.ext hx))
  have hz2 : (bcheckZ counts != 0) = true := by simpa using hb
  have HT := hid_ builtT0
  have HZ := zeroTblM
  have hts := hid_ (tblv_size (List.replicate 16 0) (.slice none 0 0) (by simp))
  have hzs : Hid ((Value.agg (tblv (List.replicate 16 0) (.slice none 0 0))).cells.size = 17) := hid_ (tblv_size _ _ (by simp))
  have HON := hid_ (tblM_one (List.replicate 16 0) none 0 0)
  generalize bcheckZ counts = z at *
  generalize tblv (List.replicate 16 0) (.slice none 0 0) = tv at *
  clear hb
  go_enter Try.func15, Try.ntmps15
  go_wp2_with (first
    | ((with_reducible show wpList _ _ _ (⟨some 2, _, _, _, _, _⟩ :: _) _ _); refine wpList_alloc_abs' rfl (some 2) rfl 25 rfl _ HZ ?_; intro w1 gp hp1 hx1 hgp)
    | (go_at_call 25; (with_reducible refine (HB.out _ hx1).mono ?_); rintro e w2 ⟨rfl, rfl⟩)
    | ((with_reducible show wpList _ _ _ (⟨some 23, _, _, _, _, _⟩ :: _) _ _); refine wpList_build0_g (by rfl) 25 rfl _ HT.out ?_)
    | ((with_reducible show wpList _ _ _ (⟨none, .store _ (.tmp 2) (.tmp 23), _, _, _, _⟩ :: _) _ _); refine wpList_store_blk rfl 25 (.tmp 2) (.tmp 23) rfl gp tv rfl rfl hp1 17 sizeTbl hts.out hzs.out HON.out ?_; intro w5 hb5 hg5; have hx5 := hx1.grown hg5 hgp))
  exact ret_cell_tmp rfl rfl gp rfl hb5 _ Try.underlying25 rfl 17 sizeTbl hts.out ⟨rfl, hx5⟩
theorem guardM16 : Try.prog.eqGuardType Try.prog.depth 22 = false := by kernel_rfl
theorem run_eqlM16 (w : World) (xs : List Int) (hx : xs.length = 16) : (binOp .eql 22 (.agg (bv xs)) (.agg (bv xs))).run Try.prog w = .ok (.bool true) w := by
  rw [run_eql_struct, run_equalIn_ints w 9998 22 3 16 Try.underlying22 Try.underlying3 sizeInt xs xs hx hx]
  simp
theorem run_guardM16 (w : World) (op : BinOp) (x y : Operand) (xs ys : Array Value) : (eqGuard op 22 x y (.agg xs) (.agg ys)).run Try.prog w = .ok () w := run_eqGuard_agg w op _ x y xs ys guardM16
theorem ex_eqM16 {o : Oper} {a : Act} {x y : Operand} {t2 : TypeId} (ho : o.op = .binOp .eql 22 x y t2) (xs : List Int) (h : xs.length = 16) (hx : a.eval x = .agg (bv xs)) (hy : a.eval y = .agg (bv xs)) (w : World) : (execOp a.eval o).run Try.prog w = .ok (.value (.bool true)) w := by
  simp [execOp, ho, hx, hy, run_guardM16, run_eqlM16 w xs h]
set_option maxRecDepth 20000 in
set_option maxHeartbeats 2000000 in
theorem tableEqM (cs xs : List Int) (s1 s2 : Value) (w : World) (hc : cs.length = 16) (h1 : SL w 1 s1 xs.length (ints xs)) (h2 : SL w 1 s2 xs.length (ints xs)) :
    Calls Try.prog 17 #[.agg (tblv cs s1), .agg (tblv cs s2)] w fun e w' => e = .returned (.bool true) ∧ Ext w w' := by
  have h1' := h1
  have h2' := h2
  obtain ⟨A1, c1, rfl, -, -, -, -⟩ := h1'
  obtain ⟨A2, c2, rfl, -, -, -, -⟩ := h2'
  have HR1 := hid_ (fun W g (h : Blk W g 25 (tblv cs (.slice A1 xs.length c1))) => And.intro (tblv_range h) (tblv_last h hc))
  have HR2 := hid_ (fun W g (h : Blk W g 25 (tblv cs (.slice A2 xs.length c2))) => And.intro (tblv_range h) (tblv_last h hc))
  have HQ := hid_ (fun W (hx : Ext w W) => eqInt_any (.slice A1 xs.length c1) (.slice A2 xs.length c2) xs xs W (h1.ext hx) (h2.ext hx))
  rw [decide_eq_true (rfl : xs = xs)] at HQ
  generalize xs.length = n at *
  have hl : (ints cs).length = 16 := by rw [ints_len, hc]
  generalize tblv cs (.slice A1 n c1) = T1 at *
  generalize tblv cs (.slice A2 n c2) = T2 at *
  go_enter Try.func17, Try.ntmps17
  go_wp2_with (first
    | ((with_reducible show wpList _ _ _ (⟨some 2, _, _, _, _, _⟩ :: _) _ _); refine wpList_box_abs rfl 25 (.tmp 0) rfl T1 rfl ?_; intro w1 g1 hb1 hx1 hg1)
    | ((with_reducible show wpList _ _ _ (⟨some 3, _, _, _, _, _⟩ :: _) _ _); refine wpList_box_abs rfl 25 (.tmp 1) rfl T2 rfl ?_; intro w2 g2 hb2 hx2 hg2; have hb12 := hb1.ext hx2; have hr1 := HR1.out _ _ hb12; have hr2 := HR2.out _ _ hb2)
    | ((with_reducible show wpList _ _ _ (⟨some 6, _, _, _, _, _⟩ :: _) _ _); refine wpList_load_mid rfl 22 (.tmp 5) rfl g1 0 rfl (ints cs) _ hr1.1 Try.underlying22 rfl (by rw [hl]; exact size16) ?_)
    | ((with_reducible show wpList _ _ _ (⟨some 8, _, _, _, _, _⟩ :: _) _ _); refine wpList_load_mid rfl 22 (.tmp 7) rfl g2 0 rfl (ints cs) _ hr2.1 Try.underlying22 rfl (by rw [hl]; exact size16) ?_)
    | ((with_reducible show wpList _ _ _ (⟨some 9, _, _, _, _, _⟩ :: _) _ _); refine wl_run rfl (.bool true) (ex_eqM16 rfl cs hc rfl rfl) ?_)
    | ((with_reducible show wpList _ _ _ (⟨some 12, _, _, _, _, _⟩ :: _) _ _); refine wl_read_g (by rfl) (.slice A1 n c1) (ex_loadL rfl rfl hr1.2) ?_)
    | ((with_reducible show wpList _ _ _ (⟨some 14, _, _, _, _, _⟩ :: _) _ _); refine wl_read_g (by rfl) (.slice A2 n c2) (ex_loadL rfl rfl hr2.2) ?_)
    | (go_at_call 31; (with_reducible refine (HQ.out _ (hx1.trans hx2)).mono ?_); rintro e w5 ⟨rfl, rfl⟩))
  go_ret
  exact ⟨rfl, hx1.trans hx2⟩
end Go.Proofs.Ytideigpabbhhkaa
/- BestCost of the reference in plain words. -/
namespace Go.Proofs.Ytideigpabbhhkaa.BM
set_option linter.unusedVariables false
set_option linter.unusedSimpArgs false
/-- the weights that come -/
def posN (cs : List Int) : Nat → List Nat
  | 0 => []
  | i + 1 => posN cs i ++ (if 0 < cs.getD i 0 then [(cs.getD i 0).toNat] else [])
theorem singN_pos (cs : List Int) : ∀ i, (singN cs i).map (·.1) = 0 :: posN cs i
  | 0 => rfl
  | i + 1 => by
    rw [singN, posN, List.map_append, singN_pos cs i]
    split <;> simp
theorem posN_bd (cs : List Int) (h : ∀ z ∈ cs, z ≤ 9999) : ∀ i, (posN cs i).length ≤ i ∧ ∀ x ∈ posN cs i, x ≤ 9999
  | 0 => by simp [posN]
  | i + 1 => by
    obtain ⟨h1, h2⟩ := posN_bd cs h i
    rw [posN, List.length_append]
    refine ⟨by split <;> simp <;> omega, fun x hx => ?_⟩
    rcases List.mem_append.1 hx with hx | hx
    · exact h2 x hx
    · split at hx
      · rename_i hpos
        have e : x = (cs.getD i 0).toNat := by simpa using hx
        subst e
        rw [List.getD_eq_getElem?_getD] at hpos ⊢
        cases hq : cs[i]? with
        | none => rw [hq] at hpos; simp at hpos
        | some z => have := h z (List.mem_of_getElem? hq); simp; omega
      · cases hx
def far : Nat := 1099511627776
/-- what BestCost answers, for the weights ws from the lightest on -/
def bestZ (ws : List Nat) : Nat := if ws.length = 1 then 0 else pre ws ws.length + D (pre ws) far 15 ws.length 2
theorem D_far (W : Nat → Nat) (f : Nat) : ∀ left m, D W f 0 left m ≤ f := fun left m => by unfold D; split <;> omega
theorem D_le (W : Nat → Nat) (fr : Nat) : ∀ f left m, D W fr f left m ≤ fr
  | 0, left, m => D_far W fr left m
  | f + 1, left, m => by
    unfold D
    split
    · omega
    · exact minTo_far _ _ _
/-- the best after c rounds -/
def bestC (W : Nat → Nat) (f left m : Nat) : Nat → Nat
  | 0 => if left = 0 then 0 else far
  | c + 1 => if c = left then 0 else match f with
    | 0 => bestC W 0 left m c
    | f' + 1 => min (bestC W (f' + 1) left m c) (W (left - c) + D W far f' (left - c) (min (2 * (m - c)) (left - c)))
theorem bestC_le (W : Nat → Nat) (f left m : Nat) : ∀ c, bestC W f left m c ≤ far
  | 0 => by unfold bestC; split <;> simp [far]
  | c + 1 => by
    have ih := bestC_le W f left m c
    unfold bestC
    split
    · simp [far]
    · cases f with
      | zero => exact ih
      | succ f' => exact Nat.le_trans (Nat.min_le_left _ _) ih
theorem bestC_end (W : Nat → Nat) (f left m : Nat) (h0 : 0 < left) : bestC W f left m (min m left + 1) = D W far f left m := by
  by_cases hl : left ≤ m
  · rw [Nat.min_eq_right hl, D_fit _ _ _ _ _ hl]
    unfold bestC
    rw [if_pos rfl]
  · rw [Nat.min_eq_left (by omega)]
    cases f with
    | zero =>
      have h : ∀ c, c ≤ m + 1 → bestC W 0 left m c = far := fun c => by
        induction c with
        | zero => intro _; unfold bestC; rw [if_neg (by omega)]
        | succ c ih => intro hc; unfold bestC; rw [if_neg (by omega)]; exact ih (by omega)
      rw [h _ (Nat.le_refl _)]
      unfold D
      rw [if_neg hl]
    | succ f' =>
      have h : ∀ c, c ≤ m → bestC W (f' + 1) left m (c + 1) = minTo far (fun c => W (left - c) + D W far f' (left - c) (min (2 * (m - c)) (left - c))) c := fun c => by
        induction c with
        | zero =>
          intro _
          unfold bestC minTo
          rw [if_neg (by omega)]
          unfold bestC
          rw [if_neg (by omega)]
        | succ c ih =>
          intro hc
          rw [minTo, ← ih (by omega)]
          conv => lhs; unfold bestC
          rw [if_neg (by omega)]
      rw [h m (Nat.le_refl _)]
      conv => rhs; unfold D
      rw [if_neg hl]
theorem pre_rev (X : List Nat) (p : Nat) (hp : p < X.length) : pre X.reverse (X.length - p) = pre X.reverse (X.length - (p + 1)) + X[p] := by
  unfold pre
  have h1 : X.length - p = (X.length - (p + 1)) + 1 := by omega
  rw [h1, List.take_succ_eq_append_getElem (by rw [List.length_reverse]; omega), List.sum_append, List.getElem_reverse]
  simp
  congr 1
  omega
theorem pre_bd {ws : List Nat} {b : Nat} (h : ∀ x ∈ ws, x ≤ b) (k : Nat) : pre ws k ≤ k * b := by
  unfold pre
  induction k generalizing ws with
  | zero => simp
  | succ k ih =>
    cases ws with
    | nil => simp
    | cons x ws =>
      have h1 := h x (by simp)
      have h2 := ih (ws := ws) (fun y hy => h y (by simp [hy]))
      rw [List.take_succ_cons, List.sum_cons, Nat.add_mul]
      omega
end Go.Proofs.Ytideigpabbhhkaa.BM
/- BestCost of the reference: what its lists and tables hold. -/
namespace Go.Proofs.Ytideigpabbhhkaa
set_option linter.unusedVariables false
set_option linter.unusedSimpArgs false
open Go.RowKit
open SM
def ng (z : Int) : Int := -z
theorem desc_of_sorted {X : List Nat} {m : Nat} (hm : X.length = m) (h : Sorted 0 ng (X.map Int.ofNat) 0 m) : X.Pairwise (fun a b => b ≤ a) := by
  rw [List.pairwise_iff_getElem]
  intro i j hi hj hij
  have := h i j (Nat.zero_le _) hij (by omega)
  unfold wA ng at this
  rw [at_get 0 _ i (by rw [List.length_map]; omega), at_get 0 _ j (by rw [List.length_map]; omega), List.getElem_map, List.getElem_map] at this
  simp at this
  omega
/-- what stays of the weights from each place on, filled from the place p on -/
def restL (W : Nat → Nat) (N p : Nat) : List Int := (List.range (N + 1)).map fun j => if p ≤ j then ((W (N - j) : Nat) : Int) else 0
theorem restL_len (W : Nat → Nat) (N p : Nat) : (restL W N p).length = N + 1 := by simp [restL]
theorem restL_get (W : Nat → Nat) (N p j : Nat) (hj : j < (restL W N p).length) : (restL W N p)[j] = if p ≤ j then ((W (N - j) : Nat) : Int) else 0 := by simp [restL]
theorem restL_start {W : Nat → Nat} (h0 : W 0 = 0) (N : Nat) : restL W N N = List.replicate (N + 1) 0 := by
  rw [List.eq_replicate_iff]
  refine ⟨restL_len W N N, fun b hb => ?_⟩
  obtain ⟨j, hj, rfl⟩ := List.mem_map.1 hb
  have := List.mem_range.1 hj
  by_cases h : N ≤ j
  · rw [if_pos h, show N - j = 0 by omega, h0]; rfl
  · rw [if_neg h]
theorem restL_set (W : Nat → Nat) (N q : Nat) (hq : q ≤ N) : (restL W N (q + 1)).set q ((W (N - q) : Nat) : Int) = restL W N q := by
  apply List.ext_getElem
  · rw [List.length_set, restL_len, restL_len]
  · intro j h1 h2
    rw [List.getElem_set, restL_get, restL_get]
    by_cases h : q = j
    · subst h; rw [if_pos rfl, if_pos (Nat.le_refl _)]
    · rw [if_neg h]
      by_cases h3 : q + 1 ≤ j
      · rw [if_pos h3, if_pos (by omega)]
      · rw [if_neg h3, if_neg (by omega)]
/-- a row, filled up to the place q -/
def rowP (R : Nat → Nat) (n q : Nat) : List Int := (List.range n).map fun m => if m < q then ((R m : Nat) : Int) else 0
theorem rowP_len (R : Nat → Nat) (n q : Nat) : (rowP R n q).length = n := by simp [rowP]
theorem rowP_get (R : Nat → Nat) (n q j : Nat) (hj : j < (rowP R n q).length) : (rowP R n q)[j] = if j < q then ((R j : Nat) : Int) else 0 := by simp [rowP]
theorem rowP_start (R : Nat → Nat) (n : Nat) : rowP R n 0 = List.replicate n 0 := by
  rw [List.eq_replicate_iff]
  refine ⟨rowP_len R n 0, fun b hb => ?_⟩
  obtain ⟨j, hj, rfl⟩ := List.mem_map.1 hb
  rw [if_neg (by omega)]
theorem rowP_set (R : Nat → Nat) (n q : Nat) : (rowP R n q).set q ((R q : Nat) : Int) = rowP R n (q + 1) := by
  apply List.ext_getElem
  · rw [List.length_set, rowP_len, rowP_len]
  · intro j h1 h2
    rw [List.getElem_set, rowP_get, rowP_get]
    by_cases h : q = j
    · subst h; rw [if_pos rfl, if_pos (by omega)]
    · rw [if_neg h]
      by_cases h3 : j < q
      · rw [if_pos h3, if_pos (by omega)]
      · rw [if_neg h3, if_neg (by omega)]
/-- the rows of a table, filled up to the place i -/
def rowsV (G : Nat → Nat) (n i : Nat) : List Value := (List.range n).map fun j => if j < i then Value.slice (some ⟨G j, 0, none⟩) n n else .slice none 0 0
theorem rowsV_len (G : Nat → Nat) (n i : Nat) : (rowsV G n i).length = n := by simp [rowsV]
theorem rowsV_get (G : Nat → Nat) (n i j : Nat) (hj : j < (rowsV G n i).length) : (rowsV G n i)[j] = if j < i then Value.slice (some ⟨G j, 0, none⟩) n n else .slice none 0 0 := by simp [rowsV]
theorem rowsV_start (G : Nat → Nat) (n : Nat) : rowsV G n 0 = List.replicate n (.slice none 0 0) := by
  rw [List.eq_replicate_iff]
  refine ⟨rowsV_len G n 0, fun b hb => ?_⟩
  obtain ⟨j, hj, rfl⟩ := List.mem_map.1 hb
  rw [if_neg (by omega)]
def putG (G : Nat → Nat) (i g : Nat) (j : Nat) : Nat := if j = i then g else G j
theorem rowsV_set (G : Nat → Nat) (n i g : Nat) : (rowsV G n i).set i (Value.slice (some ⟨g, 0, none⟩) n n) = rowsV (putG G i g) n (i + 1) := by
  apply List.ext_getElem
  · rw [List.length_set, rowsV_len, rowsV_len]
  · intro j h1 h2
    rw [List.getElem_set, rowsV_get, rowsV_get]
    unfold putG
    by_cases h : i = j
    · subst h; rw [if_pos rfl, if_pos (by omega), if_pos rfl]
    · rw [if_neg h]
      by_cases h3 : j < i
      · rw [if_pos h3, if_pos (by omega), if_neg (by omega)]
      · rw [if_neg h3, if_neg (by omega)]
/-- v is a table of n rows of n numbers -/
def TabAt (w : World) (v : Value) (n : Nat) (T : Nat → Nat → Nat) : Prop :=
  ∃ g, v = .slice (some ⟨g, 0, none⟩) n n ∧ ∀ i, i < n → ∃ gi, w.cell? ⟨g, i, none⟩ = some (.slice (some ⟨gi, 0, none⟩) n n) ∧ ∀ m, m < n → w.cell? ⟨gi, m, none⟩ = some (.int .i64 ((T i m : Nat) : Int))
theorem TabAt.ext {w w' : World} {v : Value} {n : Nat} {T : Nat → Nat → Nat} (h : TabAt w v n T) (hx : Ext w w') : TabAt w' v n T := by
  obtain ⟨g, rfl, h⟩ := h
  refine ⟨g, rfl, fun i hi => ?_⟩
  obtain ⟨gi, h1, h2⟩ := h i hi
  exact ⟨gi, cell_later hx h1, fun m hm => cell_later hx (h2 m hm)⟩
theorem TabAt.made {w : World} {gn n : Nat} {T : Nat → Nat → Nat} {G : Nat → Nat} (hb : Blk w gn 23 (rowsV G n n).toArray) (hr : ∀ j, j < n → Blk w (G j) 3 (ints (rowP (T j) n n)).toArray) : TabAt w (.slice (some ⟨gn, 0, none⟩) n n) n T := by
  refine ⟨gn, rfl, fun i hi => ⟨G i, ?_, fun m hm => ?_⟩⟩
  · rw [hb.cell, List.getElem?_toArray, List.getElem?_eq_getElem (by rw [rowsV_len]; exact hi), rowsV_get, if_pos hi]
  · have hl : m < (rowP (T i) n n).length := by rw [rowP_len]; exact hm
    rw [(hr i hi).cell, List.getElem?_toArray]
    unfold ints
    rw [List.getElem?_map, List.getElem?_eq_getElem hl, rowP_get, if_pos hm]
    rfl
theorem blk_ints {w : World} {g : Nat} {L : List Int} (h : Blk w g 3 (ints L).toArray) (j : Nat) (hj : j < L.length) : w.cell? ⟨g, j, none⟩ = some (.int .i64 L[j]) := by
  rw [h.cell, List.getElem?_toArray]
  unfold ints
  rw [List.getElem?_map, List.getElem?_eq_getElem hj]
  rfl
theorem blk_ints_set {w : World} {g : Nat} {L : List Int} (h : Blk w g 3 (ints L).toArray) (j : Nat) (z : Int) : Blk (w.setCell ⟨g, j, none⟩ (.int .i64 z)) g 3 (ints (L.set j z)).toArray := by
  have := h.set_ j (.int .i64 z)
  rw [List.setIfInBounds_toArray] at this
  unfold ints at this ⊢
  rwa [List.map_set]
theorem putG_self (G : Nat → Nat) (i g : Nat) : putG G i g i = g := by unfold putG; rw [if_pos rfl]
theorem rows_at {w : World} {gn n i a : Nat} {G : Nat → Nat} (h : Blk w gn 23 (rowsV G n i).toArray) (ha : a < n) (hi : a < i) : w.cell? ⟨gn, a, none⟩ = some (.slice (some ⟨G a, 0, none⟩) n n) := by
  rw [h.cell, List.getElem?_toArray, List.getElem?_eq_getElem (by rw [rowsV_len]; exact ha), rowsV_get, if_pos hi]
theorem ex_addB {o : Oper} {a : Act} {x y : Operand} {t2 : TypeId} (ho : o.op = .binOp .add 3 x y t2) {i d : Nat} (hx : a.eval x = .int .i64 (i : Int)) (hy : a.eval y = .int .i64 (d : Int)) (h : i + d < 9000000000000000000) (w : World) :
    (execOp a.eval o).run Try.prog w = .ok (.value (.int .i64 ((i + d : Nat) : Int))) w := by
  rw [Int.natCast_add]
  exact ex_addI ho hx hy (by omega) w
theorem bestC_last (W : Nat → Nat) (f left q : Nat) : BM.bestC W f left q (left + 1) = 0 := by unfold BM.bestC; rw [if_pos rfl]
theorem bestC_zero (W : Nat → Nat) (left q c : Nat) (h : c ≠ left) : BM.bestC W 0 left q (c + 1) = BM.bestC W 0 left q c := by
  conv => lhs; unfold BM.bestC
  rw [if_neg h]
theorem bestC_next (W : Nat → Nat) (f left q c : Nat) (h : c ≠ left) : BM.bestC W (f + 1) left q (c + 1) = min (BM.bestC W (f + 1) left q c) (W (left - c) + BM.D W BM.far f (left - c) (min (2 * (q - c)) (left - c))) := by
  conv => lhs; unfold BM.bestC
  rw [if_neg h]
theorem bestC_first (W : Nat → Nat) (f left q : Nat) (h : 0 < left) : BM.bestC W f left q 0 = BM.far := by unfold BM.bestC; rw [if_neg (by omega)]
theorem D_none (W : Nat → Nat) (fr f q : Nat) : BM.D W fr f 0 q = 0 := BM.D_fit W fr f 0 q (Nat.zero_le _)
theorem sizeLB : (Try.prog.info? 23).map (·.size) = some 1 := by kernel_rfl
theorem listNeI : 3 ≠ 23 := by decide
end Go.Proofs.Ytideigpabbhhkaa
