/- Contracts for the law FrameBlocks, part 12: what the functions that it reaches answer, for all arguments that the theorems name. -/
import Derived.Test.YtkfdkkhhkciocaaMFrameBlocks11
import Derived.Test.YtkfdkkhhkciocaaMFrameBlocks3
import Derived.Test.YtkfdkkhhkciocaaMFrameBlocks2
import Derived.Test.YtkfdkkhhkciocaaMFrameBlocks5
import Derived.Test.YtkfdkkhhkciocaaMFrameBlocks4
/- plane.area: place; plane.Many. -/
namespace Go.Proofs.Ytkfdkkhhkciocaa
set_option linter.unusedVariables false
set_option linter.unusedSimpArgs false
open Go.RowKit
set_option maxRecDepth 20000 in
set_option maxHeartbeats 1000000 in
theorem place_any (wd : Nat) (hi : Int) (b i : Nat) (w : World) (h1 : 1 ≤ wd) (h2 : wd ≤ 64) (hb : b < 64) (hi64 : i < 64) :
    Calls Try.prog 88 #[.agg (areaV wd hi), .int .i64 (b : Int), .int .i64 (i : Int)] w fun e w' =>
      e = .returned (.tuple #[.int .i64 ((b / ((wd + 7) / 8) * 8 + i / 8 : Nat) : Int), .int .i64 ((b % ((wd + 7) / 8) * 8 + i % 8 : Nat) : Int)]) ∧ Ext w w' := by
  have HA := hid_ (fun W => across_any wd hi W h1 h2)
  have hts := hid_ (areaV_size wd hi)
  have hc : 1 ≤ (wd + 7) / 8 ∧ (wd + 7) / 8 ≤ 8 := by omega
  generalize (wd + 7) / 8 = c at *
  generalize areaV wd hi = av at *
  have q1 : b / c ≤ b := Nat.div_le_self _ _
  have q2 : b % c < c := Nat.mod_lt _ (by omega)
  go_enter Try.func88, Try.ntmps88
  go_wp2_with (refine wpList_box_abs rfl 134 (.tmp 0) rfl av rfl ?_; intro w1 g hb1 hx1 hg)
  have hx1' := hx1.drew
  have hb1' := hb1.drew
  refine wp_region_lx later_ext (by kernel_rfl) (by kernel_rfl) ?_
  refine lx_ex (by rfl) ?_; apply Exists.intro; refine ⟨fun w hw => ?_, ?_⟩; · (go_simp; with_reducible rfl)
  simp only [Act.put, List.setIfInBounds_toArray, List.set_cons_succ, List.set_cons_zero]
  refine lx_load_blk (by rfl) 134 (.tmp 3) rfl g rfl (fun w h => hb1'.ext h) _ Try.underlying134 rfl 2 sizeArea hts.out ?_
  simp only [Act.put, List.setIfInBounds_toArray, List.set_cons_succ, List.set_cons_zero]
  refine lx_callF (by rfl) 115 Try.func115 rfl rfl _ _ rfl #[.agg av] (by simp [Act.eval]) (.int .i64 (c : Int)) (fun W h => HA.out W) ?_
  simp only [Act.put, List.setIfInBounds_toArray, List.set_cons_succ, List.set_cons_zero]
  refine lx_binOp (by rfl) .quo 3 _ _ _ rfl (.int .i64 ((b : Nat) : Int)) (.int .i64 ((c : Nat) : Int)) rfl rfl (.int .i64 ((b / c : Nat) : Int)) (guardN _ _ _ _ _) (run_quoN _ _ (by omega) (by omega)) ?_
  simp only [Act.put, List.setIfInBounds_toArray, List.set_cons_succ, List.set_cons_zero]
  refine lx_binOp (by rfl) .mul 3 _ _ _ rfl (.int .i64 ((b / c : Nat) : Int)) (.int .i64 ((8 : Nat) : Int)) rfl rfl (.int .i64 ((b / c * 8 : Nat) : Int)) (guardN _ _ _ _ _) (run_mulN _ _ _ rfl (by omega)) ?_
  simp only [Act.put, List.setIfInBounds_toArray, List.set_cons_succ, List.set_cons_zero]
  refine lx_ex (by rfl) ?_; apply Exists.intro; refine ⟨fun w hw => ?_, ?_⟩; · (go_simp; with_reducible rfl)
  simp only [Act.put, List.setIfInBounds_toArray, List.set_cons_succ, List.set_cons_zero]
  refine lx_binOp (by rfl) .quo 3 _ _ _ rfl (.int .i64 ((i : Nat) : Int)) (.int .i64 ((8 : Nat) : Int)) rfl rfl (.int .i64 ((i / 8 : Nat) : Int)) (guardN _ _ _ _ _) (run_quoN _ _ (by omega) (by omega)) ?_
  simp only [Act.put, List.setIfInBounds_toArray, List.set_cons_succ, List.set_cons_zero]
  refine lx_binOp (by rfl) .add 3 _ _ _ rfl (.int .i64 ((b / c * 8 : Nat) : Int)) (.int .i64 ((i / 8 : Nat) : Int)) rfl rfl (.int .i64 ((b / c * 8 + i / 8 : Nat) : Int)) (guardN _ _ _ _ _) (run_addN _ _ (by omega)) ?_
  simp only [Act.put, List.setIfInBounds_toArray, List.set_cons_succ, List.set_cons_zero]
  refine lx_ex (by rfl) ?_; apply Exists.intro; refine ⟨fun w hw => ?_, ?_⟩; · (go_simp; with_reducible rfl)
  simp only [Act.put, List.setIfInBounds_toArray, List.set_cons_succ, List.set_cons_zero]
  refine lx_load_blk (by rfl) 134 (.tmp 3) rfl g rfl (fun w h => hb1'.ext h) _ Try.underlying134 rfl 2 sizeArea hts.out ?_
  simp only [Act.put, List.setIfInBounds_toArray, List.set_cons_succ, List.set_cons_zero]
  refine lx_callF (by rfl) 115 Try.func115 rfl rfl _ _ rfl #[.agg av] (by simp [Act.eval]) (.int .i64 (c : Int)) (fun W h => HA.out W) ?_
  simp only [Act.put, List.setIfInBounds_toArray, List.set_cons_succ, List.set_cons_zero]
  refine lx_binOp (by rfl) .rem 3 _ _ _ rfl (.int .i64 ((b : Nat) : Int)) (.int .i64 ((c : Nat) : Int)) rfl rfl (.int .i64 ((b % c : Nat) : Int)) (guardN _ _ _ _ _) (run_remN _ _ (by omega) (by omega)) ?_
  simp only [Act.put, List.setIfInBounds_toArray, List.set_cons_succ, List.set_cons_zero]
  refine lx_binOp (by rfl) .mul 3 _ _ _ rfl (.int .i64 ((b % c : Nat) : Int)) (.int .i64 ((8 : Nat) : Int)) rfl rfl (.int .i64 ((b % c * 8 : Nat) : Int)) (guardN _ _ _ _ _) (run_mulN _ _ _ rfl (by omega)) ?_
  simp only [Act.put, List.setIfInBounds_toArray, List.set_cons_succ, List.set_cons_zero]
  refine lx_ex (by rfl) ?_; apply Exists.intro; refine ⟨fun w hw => ?_, ?_⟩; · (go_simp; with_reducible rfl)
  simp only [Act.put, List.setIfInBounds_toArray, List.set_cons_succ, List.set_cons_zero]
  refine lx_binOp (by rfl) .rem 3 _ _ _ rfl (.int .i64 ((i : Nat) : Int)) (.int .i64 ((8 : Nat) : Int)) rfl rfl (.int .i64 ((i % 8 : Nat) : Int)) (guardN _ _ _ _ _) (run_remN _ _ (by omega) (by omega)) ?_
  simp only [Act.put, List.setIfInBounds_toArray, List.set_cons_succ, List.set_cons_zero]
  refine lx_binOp (by rfl) .add 3 _ _ _ rfl (.int .i64 ((b % c * 8 : Nat) : Int)) (.int .i64 ((i % 8 : Nat) : Int)) rfl rfl (.int .i64 ((b % c * 8 + i % 8 : Nat) : Int)) (guardN _ _ _ _ _) (run_addN _ _ (by omega)) ?_
  simp only [Act.put, List.setIfInBounds_toArray, List.set_cons_succ, List.set_cons_zero]
  generalize hmm : b / c * 8 + i / 8 = m at *
  generalize hnn : b % c * 8 + i % 8 = n at *
  have HMM := hid_ hmm
  have HNN := hid_ hnn
  clear hmm hnn
  refine lx_ex (by rfl) ?_; apply Exists.intro; refine ⟨fun w hw => ?_, ?_⟩; · (go_simp; with_reducible rfl)
  simp only [Act.put, List.setIfInBounds_toArray, List.set_cons_succ, List.set_cons_zero]
  refine lx_ex (by rfl) ?_; apply Exists.intro; refine ⟨fun w hw => ?_, ?_⟩; · (go_simp; with_reducible rfl)
  simp only [Act.put, List.setIfInBounds_toArray, List.set_cons_succ, List.set_cons_zero]
  refine lx_nil ?_
  intro w3 hx3
  go_wp2_with fail
  go_ret2
  rw [HMM.out, HNN.out]
  exact ⟨rfl, hx1'.trans hx3⟩
theorem zeroArea : (Try.prog.info? 134).bind (·.zero) = some (.agg #[.int .i64 0, .int .i64 0]) := by kernel_rfl
theorem all_one (l : List Value) (h : ∀ u ∈ l, u.oneCell' = true) : l.toArray.all (·.oneCell') = true :=
  Array.all_eq_true_iff_forall_mem.2 (fun v hv => h v (by simpa using hv))
theorem areaV_one (wd hi : Int) : (areaV wd hi).all (·.oneCell') = true := all_one [.int .i64 wd, .int .i64 hi] (by intro u hu; simp at hu; rcases hu with rfl | rfl <;> rfl)
theorem sides_ok {wd hi : Int} (h : sidesZ wd hi = 0) : ∃ a b : Nat, wd = (a : Int) ∧ hi = (b : Int) ∧ 1 ≤ a ∧ a ≤ 64 ∧ 1 ≤ b ∧ b ≤ 64 := by
  unfold sidesZ at h
  cases h1 : inB wd 1 64 with
  | false => rw [h1] at h; cases h
  | true =>
    cases h2 : inB hi 1 64 with
    | false => rw [h1, h2] at h; cases h
    | true =>
      have := inB_iff.1 h1
      have := inB_iff.1 h2
      exact ⟨wd.toNat, hi.toNat, by omega, by omega, by omega, by omega, by omega, by omega⟩
theorem sides_no {wd hi : Int} (h : sidesZ wd hi ≠ 0) : sidesZ wd hi = 1 := by
  unfold sidesZ at h ⊢
  split
  · next h2 => rw [if_pos h2] at h; exact absurd rfl h
  · rfl
def manyZ (wd hi : Int) : Int := if sidesZ wd hi = 0 then (((wd.toNat + 7) / 8 * ((hi.toNat + 7) / 8) : Nat) : Int) else 0
set_option maxRecDepth 20000 in
set_option maxHeartbeats 1000000 in
theorem Many_any (wd hi : Int) (w : World) :
    Calls Try.prog 59 #[.int .i64 wd, .int .i64 hi] w fun e w' => e = .returned (.tuple #[.int .i64 (manyZ wd hi), .int .i64 (sidesZ wd hi)]) ∧ Ext w w' := by
  have HK := hid_ (fun W => areaCheck_any wd hi W)
  by_cases h : sidesZ wd hi = 0
  · have HM : Hid (∀ W, Calls Try.prog 87 #[.agg (areaV wd hi)] W fun e w' => e = .returned (.int .i64 (manyZ wd hi)) ∧ Ext W w') := hid_ (by
      intro W
      unfold manyZ
      rw [if_pos h]
      obtain ⟨a, b, rfl, rfl, a1, a2, b1, b2⟩ := sides_ok h
      exact many_any a b W a1 a2 b1 b2)
    generalize manyZ wd hi = m at *
    rw [h] at HK ⊢
    clear h
    have hbv : #[Value.int .i64 wd, Value.int .i64 hi] = areaV wd hi := rfl
    have hts := hid_ (areaV_size wd hi)
    have ho := hid_ (areaV_one wd hi)
    generalize areaV wd hi = av at *
    go_enter Try.func59, Try.ntmps59
    go_wp2_with (first
      | (refine wpList_alloc_abs' rfl (some 6) rfl 134 rfl _ zeroArea ?_; intro w1 g hb1 hx1 hg)
      | (refine wpList_store_blk rfl 134 (.tmp 6) (.tmp 10) rfl _ _ rfl rfl hb1 2 sizeArea hts.out rfl ho.out ?_; intro w2 hb2 hg2; have hx2 := hx1.grown hg2 (by omega))
      | (refine wpList_load_blk rfl 134 (.tmp 6) rfl _ rfl hb2 _ Try.underlying134 rfl 2 sizeArea hts.out ?_)
      | (go_at_call 84; (with_reducible refine (HK.out _).mono ?_); rintro e w3 ⟨rfl, hx3⟩; have hb3 := hb2.ext hx3)
      | (refine wpList_load_blk rfl 134 (.tmp 6) rfl _ rfl hb3 _ Try.underlying134 rfl 2 sizeArea hts.out ?_)
      | (go_at_call 87; (with_reducible refine (HM.out _).mono ?_); rintro e w4 ⟨rfl, hx4⟩))
    go_ret2
    exact ⟨rfl, (hx2.trans hx3).trans hx4⟩
  · have e : manyZ wd hi = 0 := by unfold manyZ; rw [if_neg h]
    rw [e]
    have h1 := sides_no h
    rw [h1] at HK ⊢
    clear h h1 e
    have hbv : #[Value.int .i64 wd, Value.int .i64 hi] = areaV wd hi := rfl
    have hts := hid_ (areaV_size wd hi)
    have ho := hid_ (areaV_one wd hi)
    generalize areaV wd hi = av at *
    go_enter Try.func59, Try.ntmps59
    go_wp2_with (first
      | (refine wpList_alloc_abs' rfl (some 6) rfl 134 rfl _ zeroArea ?_; intro w1 g hb1 hx1 hg)
      | (refine wpList_store_blk rfl 134 (.tmp 6) (.tmp 10) rfl _ _ rfl rfl hb1 2 sizeArea hts.out rfl ho.out ?_; intro w2 hb2 hg2; have hx2 := hx1.grown hg2 (by omega))
      | (refine wpList_load_blk rfl 134 (.tmp 6) rfl _ rfl hb2 _ Try.underlying134 rfl 2 sizeArea hts.out ?_)
      | (go_at_call 84; (with_reducible refine (HK.out _).mono ?_); rintro e w3 ⟨rfl, hx3⟩; have hb3 := hb2.ext hx3))
    go_ret2
    exact ⟨rfl, hx2.trans hx3⟩
end Go.Proofs.Ytkfdkkhhkciocaa
/- plane.Cut: the cases that answer an error. -/
namespace Go.Proofs.Ytkfdkkhhkciocaa
set_option linter.unusedVariables false
set_option linter.unusedSimpArgs false
open Go.RowKit
theorem cut1_any (z : Int) (w : World) : Calls Try.prog 86 (#[.int .i64 z] ++ #[]) w fun e w' => e = .returned (.bool (!inB z 0 255)) ∧ w = w' := by
  by_cases h : z < 0
  · have h' : decide (z < 0) = true := by simpa using h
    have e : inB z 0 255 = false := inB_not.2 (by omega)
    rw [e]; clear e
    go_enter Try.func86, Try.ntmps86
    go_wp2_with fail
    go_ret
    exact ⟨rfl, rfl⟩
  · have h' : decide (z < 0) = false := by simpa using h
    have e : (!inB z 0 255) = decide (255 < z) := by rw [Bool.eq_iff_iff]; simp [inB]; omega
    rw [e]; clear e
    go_enter Try.func86, Try.ntmps86
    go_wp2_with fail
    go_ret
    exact ⟨rfl, rfl⟩
theorem enters_cut1 : Enters Try.prog 86 := enters_of Try.func86 (by kernel_rfl) rfl
/-- the errno of Cut -/
def cutE (xs : List Int) (wd hi : Int) : Int := if sidesZ wd hi = 0 then (if (xs.length : Int) = wd * hi then (if allIn xs 0 255 then 0 else 1) else 4) else 1
set_option maxRecDepth 20000 in
set_option maxHeartbeats 1000000 in
theorem cut_sides (xs : List Int) (v : Value) (wd hi : Int) (w : World) (hv : SL w 1 v xs.length (ints xs)) (h : sidesZ wd hi ≠ 0) :
    Calls Try.prog 50 #[v, .int .i64 wd, .int .i64 hi] w fun e w' => e = .returned (.tuple #[.slice none 0 0, .int .i64 1]) ∧ Ext w w' := by
  have HK := hid_ (fun W => areaCheck_any wd hi W)
  rw [sides_no h] at HK
  clear h
  have hbv : #[Value.int .i64 wd, Value.int .i64 hi] = areaV wd hi := rfl
  have hts := hid_ (areaV_size wd hi)
  have ho := hid_ (areaV_one wd hi)
  generalize areaV wd hi = av at *
  obtain ⟨A, c, rfl, hc1, hc2, -, -⟩ := hv
  go_enter Try.func50, Try.ntmps50
  go_wp2_with (first
    | (refine wpList_alloc_abs' rfl (some 8) rfl 134 rfl _ zeroArea ?_; intro w1 g hb1 hx1 hg)
    | (refine wpList_store_blk rfl 134 (.tmp 8) (.tmp 17) rfl _ _ rfl rfl hb1 2 sizeArea hts.out rfl ho.out ?_; intro w2 hb2 hg2; have hx2 := hx1.grown hg2 (by omega))
    | (refine wpList_load_blk rfl 134 (.tmp 8) rfl _ rfl hb2 _ Try.underlying134 rfl 2 sizeArea hts.out ?_)
    | (go_at_call 84; (with_reducible refine (HK.out _).mono ?_); rintro e w3 ⟨rfl, hx3⟩))
  go_ret2
  exact ⟨rfl, hx2.trans hx3⟩
set_option maxRecDepth 20000 in
set_option maxHeartbeats 1000000 in
theorem cut_long (xs : List Int) (v : Value) (wd hi : Nat) (w : World) (hv : SL w 1 v xs.length (ints xs)) (h0 : sidesZ wd hi = 0) (a2 : wd ≤ 64) (b2 : hi ≤ 64) (h : xs.length ≠ wd * hi) :
    Calls Try.prog 50 #[v, .int .i64 wd, .int .i64 hi] w fun e w' => e = .returned (.tuple #[.slice none 0 0, .int .i64 4]) ∧ Ext w w' := by
  have HK := hid_ (fun W => areaCheck_any wd hi W)
  rw [h0] at HK
  clear h0
  have hm : wd * hi ≤ 64 * 64 := Nat.mul_le_mul a2 b2
  have hw1 : IntKind.i64.wrap ((wd : Int) * (hi : Int)) = (wd : Int) * (hi : Int) := by rw [← Int.natCast_mul]; exact IntWalk.i64_in _ (by omega)
  have hne : ((xs.length : Int) != (wd : Int) * (hi : Int)) = true := by rw [← Int.natCast_mul]; simp; omega
  have hbv : #[Value.int .i64 wd, Value.int .i64 hi] = areaV wd hi := rfl
  have hts := hid_ (areaV_size wd hi)
  have ho := hid_ (areaV_one wd hi)
  generalize areaV wd hi = av at *
  obtain ⟨A, c, rfl, hc1, hc2, -, -⟩ := hv
  clear h hm
  go_enter Try.func50, Try.ntmps50
  go_wp2_with (first
    | (refine wpList_alloc_abs' rfl (some 8) rfl 134 rfl _ zeroArea ?_; intro w1 g hb1 hx1 hg)
    | (refine wpList_store_blk rfl 134 (.tmp 8) (.tmp 17) rfl _ _ rfl rfl hb1 2 sizeArea hts.out rfl ho.out ?_; intro w2 hb2 hg2; have hx2 := hx1.grown hg2 (by omega))
    | (refine wpList_load_blk rfl 134 (.tmp 8) rfl _ rfl hb2 _ Try.underlying134 rfl 2 sizeArea hts.out ?_)
    | (go_at_call 84; (with_reducible refine (HK.out _).mono ?_); rintro e w3 ⟨rfl, hx3⟩))
  go_ret2
  exact ⟨rfl, hx2.trans hx3⟩
set_option maxRecDepth 20000 in
set_option maxHeartbeats 1000000 in
theorem cut_out (xs : List Int) (v : Value) (wd hi : Nat) (w : World) (hv : SL w 1 v xs.length (ints xs)) (h0 : sidesZ wd hi = 0) (a2 : wd ≤ 64) (b2 : hi ≤ 64) (h : xs.length = wd * hi) (hq : allIn xs 0 255 = false) :
    Calls Try.prog 50 #[v, .int .i64 wd, .int .i64 hi] w fun e w' => e = .returned (.tuple #[.slice none 0 0, .int .i64 1]) ∧ Ext w w' := by
  have HK := hid_ (fun W => areaCheck_any wd hi W)
  rw [h0] at HK
  clear h0
  have HCF := hid_ (fun W (hs : SL W 1 v xs.length (ints xs)) => containsFunc_any 86 #[] (fun z => !inB z 0 255) enters_cut1 v xs W hs (fun z _ => cut1_any z W))
  simp only [inB_any, hq] at HCF
  clear hq
  have hm : wd * hi ≤ 64 * 64 := Nat.mul_le_mul a2 b2
  have hw1 : IntKind.i64.wrap ((wd : Int) * (hi : Int)) = (wd : Int) * (hi : Int) := by rw [← Int.natCast_mul]; exact IntWalk.i64_in _ (by omega)
  have hne : ((xs.length : Int) != (wd : Int) * (hi : Int)) = false := by rw [← Int.natCast_mul]; simp; omega
  have hbv : #[Value.int .i64 wd, Value.int .i64 hi] = areaV wd hi := rfl
  have hts := hid_ (areaV_size wd hi)
  have ho := hid_ (areaV_one wd hi)
  generalize areaV wd hi = av at *
  have hv' := hv
  obtain ⟨A, c, rfl, hc1, hc2, -, -⟩ := hv'
  clear h hm
  go_enter Try.func50, Try.ntmps50
  go_wp2_with (first
    | (refine wpList_alloc_abs' rfl (some 8) rfl 134 rfl _ zeroArea ?_; intro w1 g hb1 hx1 hg)
    | (refine wpList_store_blk rfl 134 (.tmp 8) (.tmp 17) rfl _ _ rfl rfl hb1 2 sizeArea hts.out rfl ho.out ?_; intro w2 hb2 hg2; have hx2 := hx1.grown hg2 (by omega))
    | (refine wpList_load_blk rfl 134 (.tmp 8) rfl _ rfl hb2 _ Try.underlying134 rfl 2 sizeArea hts.out ?_)
    | (go_at_call 84; (with_reducible refine (HK.out _).mono ?_); rintro e w3 ⟨rfl, hx3⟩; have hx23 := hx2.trans hx3)
    | (go_at_call 85; (with_reducible refine (HCF.out _ (hv.ext hx23)).mono ?_); rintro e w4 ⟨rfl, rfl⟩))
  go_ret2
  exact ⟨rfl, hx23⟩
end Go.Proofs.Ytkfdkkhhkciocaa
/- What Cut answers, as a flat list of numbers. -/
namespace Go.Proofs.Ytkfdkkhhkciocaa
set_option linter.unusedVariables false
set_option linter.unusedSimpArgs false
open Go.RowKit
/-- the number at place i of block k -/
def cutAt (xs : List Int) (wd hi k i : Nat) : Int := xs.getD (min (k / ((wd + 7) / 8) * 8 + i / 8) (hi - 1) * wd + min (k % ((wd + 7) / 8) * 8 + i % 8) (wd - 1)) 0 - 128
def cutN (wd hi : Nat) : Nat := (wd + 7) / 8 * ((hi + 7) / 8)
def cutZ (xs : List Int) (wd hi : Nat) : List Int := (List.range (cutN wd hi * 64)).map fun j => cutAt xs wd hi (j / 64) (j % 64)
theorem cutZ_len (xs : List Int) (wd hi : Nat) : (cutZ xs wd hi).length = cutN wd hi * 64 := by simp [cutZ]
theorem cutZ_at (xs : List Int) (wd hi k i : Nat) (hi64 : i < 64) (h : k * 64 + i < cutN wd hi * 64) : (cutZ xs wd hi)[k * 64 + i]? = some (cutAt xs wd hi k i) := by
  unfold cutZ
  rw [List.getElem?_map, List.getElem?_range h]
  show some (cutAt xs wd hi ((k * 64 + i) / 64) ((k * 64 + i) % 64)) = _
  rw [show (k * 64 + i) / 64 = k by omega, show (k * 64 + i) % 64 = i by omega]
/-- the first m numbers written, the rest still zero -/
def midZ (Z : List Int) (m : Nat) : List Int := Z.take m ++ List.replicate (Z.length - m) 0
theorem midZ_len (Z : List Int) (m : Nat) (h : m ≤ Z.length) : (midZ Z m).length = Z.length := by simp [midZ]; omega
theorem midZ_zero (Z : List Int) : midZ Z 0 = List.replicate Z.length 0 := by simp [midZ]
theorem midZ_all (Z : List Int) : midZ Z Z.length = Z := by simp [midZ]
theorem midZ_set (Z : List Int) (m : Nat) (z : Int) (h : Z[m]? = some z) : (midZ Z m).set m z = midZ Z (m + 1) := by
  obtain ⟨hm, hz⟩ := List.getElem?_eq_some_iff.1 h
  unfold midZ
  have e : Z.length - m = (Z.length - (m + 1)) + 1 := by omega
  have e2 : Z.take (m + 1) = Z.take m ++ [z] := by rw [List.take_add_one, h]; rfl
  rw [e2, e, List.replicate_succ, List.set_append_right _ _ (by simp; omega), List.length_take, show min m Z.length = m by omega, Nat.sub_self, List.set_cons_zero, List.append_assoc]
  rfl
/-- the sum's place lies in the plane -/
theorem cut_place (wd hi r c : Nat) (h1 : 1 ≤ wd) (h2 : 1 ≤ hi) : min r (hi - 1) * wd + min c (wd - 1) < wd * hi := by
  have a : min r (hi - 1) ≤ hi - 1 := Nat.min_le_right _ _
  have b : min c (wd - 1) ≤ wd - 1 := Nat.min_le_right _ _
  have c1 : min r (hi - 1) * wd ≤ (hi - 1) * wd := Nat.mul_le_mul_right _ a
  obtain ⟨h, rfl⟩ : ∃ h, hi = h + 1 := ⟨hi - 1, by omega⟩
  rw [Nat.add_sub_cancel] at c1 ⊢
  rw [Nat.mul_succ, Nat.mul_comm wd h]
  omega
end Go.Proofs.Ytkfdkkhhkciocaa
/- plane.Cut: the good case. -/
namespace Go.Proofs.Ytkfdkkhhkciocaa
set_option linter.unusedVariables false
set_option linter.unusedSimpArgs false
open Go.RowKit
set_option maxRecDepth 20000 in
set_option maxHeartbeats 2000000 in
theorem cut_good (xs : List Int) (v : Value) (wd hi : Nat) (w : World) (hv : SL w 1 v xs.length (ints xs)) (h0 : sidesZ wd hi = 0) (a1 : 1 ≤ wd) (a2 : wd ≤ 64) (b1 : 1 ≤ hi) (b2 : hi ≤ 64) (h : xs.length = wd * hi) (hq : allIn xs 0 255 = true) :
    Calls Try.prog 50 #[v, .int .i64 wd, .int .i64 hi] w fun e w' => ∃ g, e = .returned (.tuple #[.slice (some ⟨g, 0, none⟩) (cutN wd hi) (cutN wd hi), .int .i64 0]) ∧ Blk w' g 24 (bv (cutZ xs wd hi)) ∧ Ext w w' ∧ w.heap.size ≤ g := by
  have HK := hid_ (fun W => areaCheck_any wd hi W)
  rw [h0] at HK
  clear h0
  have HCF := hid_ (fun W (hs : SL W 1 v xs.length (ints xs)) => containsFunc_any 86 #[] (fun z => !inB z 0 255) enters_cut1 v xs W hs (fun z _ => cut1_any z W))
  simp only [inB_any, hq] at HCF
  have HQ := hid_ hq
  clear hq
  have HM := hid_ (fun W => many_any wd hi W a1 a2 b1 b2)
  have HP : Hid (∀ k j, k < 64 → j < 64 → ∃ r q : Nat, Hid (r = k / ((wd + 7) / 8) * 8 + j / 8 ∧ q = k % ((wd + 7) / 8) * 8 + j % 8) ∧ ∀ W, Calls Try.prog 88 #[.agg (areaV wd hi), .int .i64 (k : Int), .int .i64 (j : Int)] W fun e w' =>
      e = .returned (.tuple #[.int .i64 ((r : Nat) : Int), .int .i64 ((q : Nat) : Int)]) ∧ Ext W w') := hid_ fun k j hk hj => ⟨_, _, hid_ ⟨rfl, rfl⟩, fun W => place_any wd hi k j W a1 a2 hk hj⟩
  have hm : wd * hi ≤ 64 * 64 := Nat.mul_le_mul a2 b2
  have hw1 : IntKind.i64.wrap ((wd : Int) * (hi : Int)) = (wd : Int) * (hi : Int) := by rw [← Int.natCast_mul]; exact IntWalk.i64_in _ (by omega)
  have hne : ((xs.length : Int) != (wd : Int) * (hi : Int)) = false := by rw [← Int.natCast_mul]; simp; omega
  have hbv : #[Value.int .i64 wd, Value.int .i64 hi] = areaV wd hi := rfl
  have hts := hid_ (areaV_size wd hi)
  have ho := hid_ (areaV_one wd hi)
  have hn64 : cutN wd hi ≤ 64 := by have : (wd + 7) / 8 * ((hi + 7) / 8) ≤ 8 * 8 := Nat.mul_le_mul (by omega) (by omega); exact this
  have hcn : (wd + 7) / 8 * ((hi + 7) / 8) = cutN wd hi := rfl
  rw [hcn] at HM
  clear hcn
  have HZL := hid_ (cutZ_len xs wd hi)
  have HXL := hid_ h
  generalize areaV wd hi = av at *
  have hv' := hv
  obtain ⟨A, c, rfl, hc1, hc2, -, -⟩ := hv'
  clear h hm
  generalize hn : cutN wd hi = n at *
  have HN := hid_ hn
  clear hn
  go_enter Try.func50, Try.ntmps50
  go_wp2_with (first
    | (refine wpList_alloc_abs' rfl (some 8) rfl 134 rfl _ zeroArea ?_; intro w1 g hb1 hx1 hg)
    | (refine wpList_store_blk rfl 134 (.tmp 8) (.tmp 17) rfl _ _ rfl rfl hb1 2 sizeArea hts.out rfl ho.out ?_; intro w2 hb2 hg2; have hx2 := hx1.grown hg2 (by omega))
    | (refine wpList_load_blk rfl 134 (.tmp 8) rfl _ rfl hb2 _ Try.underlying134 rfl 2 sizeArea hts.out ?_)
    | (go_at_call 84; (with_reducible refine (HK.out _).mono ?_); rintro e w3 ⟨rfl, hx3⟩; have hx23 := hx2.trans hx3; have hb3 := hb2.ext hx3)
    | (go_at_call 85; (with_reducible refine (HCF.out _ (hv.ext hx23)).mono ?_); rintro e w4 ⟨rfl, rfl⟩)
    | (refine wpList_load_blk rfl 134 (.tmp 8) rfl _ rfl hb3 _ Try.underlying134 rfl 2 sizeArea hts.out ?_)
    | (go_at_call 87; (with_reducible refine (HM.out _).mono ?_); rintro e w5 ⟨rfl, hx5⟩; have hb5 := hb3.ext hx5; have hx35 := hx23.trans hx5)
    | (refine wpList_makeBlocks rfl (some 36) rfl _ _ rfl n (by omega) rfl rfl ?_; intro w6 gz hbz hx6 hgz; have hb6 := hb5.ext hx6; have hx36 := hx35.trans hx6))
  have hgz0 : w.heap.size ≤ gz := by have := hx35.size; omega
  have hbz0 : Blk w6 gz 24 (bv (midZ (cutZ xs wd hi) 0)) := by rw [midZ_zero, HZL.out]; exact hbz
  generalize hZ : cutZ xs wd hi = Z at *
  have HZ := hid_ hZ
  clear hZ hbz hb2 hb3 hb5 hx1 hx2 hx3 hx5 hx6 hx23 hx35 hg2
  go_loopw [39] (fun i wr => ∃ k : Nat, k ≤ n ∧ i = .int .i64 (k : Int) ∧ Blk wr gz 24 (bv (midZ Z (k * 64))) ∧ Blk wr g 134 av ∧ Ext w wr) (fun i _ => n - (intOf i).toNat)
  case atStart => exact ⟨0, by omega, rfl, hbz0, hb6, hx36⟩
  case round =>
    clear hbz0 hb6 hx36
    obtain ⟨k, hk, rfl, hbo, hba, hxo⟩ := hrel
    by_cases hlt : k < n
    · go_wp2_with fail
      go_loopw [42] (fun i wr => ∃ j : Nat, j ≤ 64 ∧ i = .int .i64 (j : Int) ∧ Blk wr gz 24 (bv (midZ Z (k * 64 + j))) ∧ Blk wr g 134 av ∧ Ext w wr) (fun i _ => 64 - (intOf i).toNat)
      case atStart => exact ⟨0, by omega, rfl, hbo, hba, hxo⟩
      case round =>
        clear hbo hba hxo
        obtain ⟨j, hj, rfl, hbi, hbj, hxi⟩ := hrel
        by_cases hlj : j < 64
        · obtain ⟨r, q, HRQ, hcall⟩ := HP.out k j (by omega) hlj
          have HCALL := hid_ hcall
          clear hcall
          go_wp2_with (first
            | (refine wpList_load_blk rfl 134 (.tmp 8) rfl _ rfl hbj _ Try.underlying134 rfl 2 sizeArea hts.out ?_)
            | (go_at_call 88; (with_reducible refine (HCALL.out _).mono ?_); rintro e w7 ⟨rfl, hx7⟩; have hbi7 := hbi.ext hx7; have hbj7 := hbj.ext hx7; have hxi7 := hxi.trans hx7))
          have hpl := cut_place wd hi r q a1 b1
          have hm1 : min r (hi - 1) * wd ≤ 64 * 64 := Nat.mul_le_mul (by omega) a2
          obtain ⟨p, hpx⟩ : ∃ p, min r (hi - 1) * wd + min q (wd - 1) = p := ⟨_, rfl⟩
          have hp : p < xs.length := by have := HXL.out; omega
          obtain ⟨ad, u, rfl, hadb, hxp, hcell⟩ := hv.at1 hp
          obtain ⟨hpl', rfl⟩ := ints_at _ _ _ hxp
          have hzb := allIn_iff.1 HQ.out _ (List.getElem_mem hpl')
          have hval : cutAt xs wd hi k j = xs[p] - 128 := by
            unfold cutAt
            rw [← HRQ.out.1, ← HRQ.out.2, hpx, List.getD_eq_getElem?_getD, List.getElem?_eq_getElem hpl']
            rfl
          generalize xs[p] = z at *
          have hx7' := hxi7.drew
          have hcz : ∀ W, Ext w7.drew W → W.cell? (ad.add (p * 1)) = some (.int .i64 z) := fun W hW => by
            rw [Nat.mul_one, ((hx7'.trans hW).cell (p := ad.add p) (by rw [block_of_add]; exact hadb))]
            exact hcell
          refine wp_region_lxt later_ext 20 (by kernel_rfl) (by kernel_rfl) ?_
          simp only [List.take, List.drop]
          refine lx_run (by rfl) (.slice (some ⟨gz, 0, none⟩) n n) (ex_move rfl rfl) ?_
          simp only [Act.put, List.setIfInBounds_toArray, List.set_cons_succ, List.set_cons_zero]
          refine lx_run (by rfl) (.int .i64 ((k : Nat) : Int)) (ex_move rfl rfl) ?_
          simp only [Act.put, List.setIfInBounds_toArray, List.set_cons_succ, List.set_cons_zero]
          refine lx_run (by rfl) (.int .i64 ((j : Nat) : Int)) (ex_move rfl rfl) ?_
          simp only [Act.put, List.setIfInBounds_toArray, List.set_cons_succ, List.set_cons_zero]
          refine lx_run (by rfl) (.slice (some ad) xs.length c) (ex_move rfl rfl) ?_
          simp only [Act.put, List.setIfInBounds_toArray, List.set_cons_succ, List.set_cons_zero]
          refine lx_run (by rfl) (.int .i64 ((r : Nat) : Int)) (ex_move rfl rfl) ?_
          simp only [Act.put, List.setIfInBounds_toArray, List.set_cons_succ, List.set_cons_zero]
          refine lx_run (by rfl) (.int .i64 ((hi : Nat) : Int)) (ex_move rfl rfl) ?_
          simp only [Act.put, List.setIfInBounds_toArray, List.set_cons_succ, List.set_cons_zero]
          refine lx_run (by rfl) (.int .i64 ((hi - 1 : Nat) : Int)) (ex_subN (i := hi) (d := 1) rfl rfl rfl (by omega) (by omega)) ?_
          simp only [Act.put, List.setIfInBounds_toArray, List.set_cons_succ, List.set_cons_zero]
          refine lx_run (by rfl) (.int .i64 ((min r (hi - 1) : Nat) : Int)) (ex_minN (i := r) (d := hi - 1) rfl rfl rfl) ?_
          simp only [Act.put, List.setIfInBounds_toArray, List.set_cons_succ, List.set_cons_zero]
          refine lx_run (by rfl) (.int .i64 ((wd : Nat) : Int)) (ex_move rfl rfl) ?_
          simp only [Act.put, List.setIfInBounds_toArray, List.set_cons_succ, List.set_cons_zero]
          refine lx_run (by rfl) (.int .i64 (((min r (hi - 1)) * wd : Nat) : Int)) (ex_mulN (i := min r (hi - 1)) (d := wd) rfl rfl rfl (by omega)) ?_
          simp only [Act.put, List.setIfInBounds_toArray, List.set_cons_succ, List.set_cons_zero]
          refine lx_run (by rfl) (.int .i64 ((q : Nat) : Int)) (ex_move rfl rfl) ?_
          simp only [Act.put, List.setIfInBounds_toArray, List.set_cons_succ, List.set_cons_zero]
          refine lx_run (by rfl) (.int .i64 ((wd : Nat) : Int)) (ex_move rfl rfl) ?_
          simp only [Act.put, List.setIfInBounds_toArray, List.set_cons_succ, List.set_cons_zero]
          refine lx_run (by rfl) (.int .i64 ((wd - 1 : Nat) : Int)) (ex_subN (i := wd) (d := 1) rfl rfl rfl (by omega) (by omega)) ?_
          simp only [Act.put, List.setIfInBounds_toArray, List.set_cons_succ, List.set_cons_zero]
          refine lx_run (by rfl) (.int .i64 ((min q (wd - 1) : Nat) : Int)) (ex_minN (i := q) (d := wd - 1) rfl rfl rfl) ?_
          simp only [Act.put, List.setIfInBounds_toArray, List.set_cons_succ, List.set_cons_zero]
          refine lx_run (by rfl) (.int .i64 ((((min r (hi - 1)) * wd) + (min q (wd - 1)) : Nat) : Int)) (ex_addN (i := (min r (hi - 1)) * wd) (d := min q (wd - 1)) rfl rfl rfl (by omega)) ?_
          simp only [Act.put, List.setIfInBounds_toArray, List.set_cons_succ, List.set_cons_zero]
          rw [hpx]
          refine lx_run (by rfl) (.pointer (some (ad.add (p * 1)))) (ex_ixSl Try.underlying30 sizeI rfl rfl rfl hp) ?_
          simp only [Act.put, List.setIfInBounds_toArray, List.set_cons_succ, List.set_cons_zero]
          refine lx_read (by rfl) (.int .i64 z) (fun W hW => ex_loadI rfl rfl (hcz W hW)) ?_
          simp only [Act.put, List.setIfInBounds_toArray, List.set_cons_succ, List.set_cons_zero]
          refine lx_run (by rfl) (.int .i64 (z - (((128 : Nat) : Int)))) (ex_subI (i := z) (d := ((128 : Nat) : Int)) rfl rfl rfl (by omega)) ?_
          simp only [Act.put, List.setIfInBounds_toArray, List.set_cons_succ, List.set_cons_zero]
          refine lx_run (by rfl) (.pointer (some ⟨gz, 0 + k * 64, none⟩)) (ex_ixSlG Try.underlying29 size48 rfl rfl rfl hlt) ?_
          simp only [Act.put, List.setIfInBounds_toArray, List.set_cons_succ, List.set_cons_zero]
          refine lx_run (by rfl) (.pointer (some ⟨gz, 0 + k * 64 + j * 1, none⟩)) (ex_ixArrG Try.underlying24 sizeI rfl rfl rfl hlj) ?_
          simp only [Act.put, List.setIfInBounds_toArray, List.set_cons_succ, List.set_cons_zero]
          refine lx_nil ?_
          intro W hW
          have hbi8 := (hbi7.drew).ext hW
          have hbj8 := (hbj7.drew).ext hW
          have hx8 := hx7'.trans hW
          have hlen : k * 64 + j < (bv (midZ Z (k * 64 + j))).size := by rw [bv_size, midZ_len _ _ (by rw [HZL.out]; omega), HZL.out]; omega
          refine wl_storeI rfl (.tmp 71) (.tmp 69) rfl gz (0 + k * 64 + j * 1) (z - 128) rfl rfl hbi8 (by rw [Nat.zero_add, Nat.mul_one]; exact hlen) ?_
          simp only [Act.put, List.setIfInBounds_toArray, List.set_cons_succ, List.set_cons_zero]
          have hb9 := hbi8.set_ (0 + k * 64 + j * 1) (.int .i64 (z - 128))
          rw [bv_set, Nat.zero_add, Nat.mul_one, midZ_set Z (k * 64 + j) (z - 128) (by rw [← HZ.out, cutZ_at xs wd hi k j hlj (by have := HN.out; omega), hval])] at hb9
          have hb10 := hbj8.far (p := ⟨gz, k * 64 + j, none⟩) (hbi8.ne_ hbj8 (by decide)).symm (.int .i64 (z - 128))
          have hx9 := hx8.setCell (p := ⟨gz, k * 64 + j, none⟩) hgz0 (.int .i64 (z - 128))
          rw [show 0 + k * 64 + j * 1 = k * 64 + j by omega]
          generalize W.setCell ⟨gz, k * 64 + j, none⟩ (.int .i64 (z - 128)) = W9 at *
          go_wp2_with fail
          go_roundw
          case rel => exact ⟨j + 1, by omega, by go_num, hb9, hb10, hx9⟩
          case measure => simp [intOf]; omega
        · have ej : j = 64 := by omega
          rw [ej]
          go_wp2_with fail
          go_roundw
          case rel => exact ⟨k + 1, by omega, by go_num, by rw [ej] at hbi; rw [show (k + 1) * 64 = k * 64 + 64 by omega]; exact hbi, hbj, hxi⟩
          case measure => simp [intOf]; omega
    · have ek : k = n := by omega
      rw [ek] at hbo
      rw [ek]
      go_wp2_with fail
      go_ret2
      refine ⟨gz, rfl, ?_, hxo, hgz0⟩
      rw [← HZL.out, midZ_all] at hbo
      rw [HZ.out]
      exact hbo
end Go.Proofs.Ytkfdkkhhkciocaa
/- PlaneCut of the reference: the cases that answer an error; many of the reference. -/
namespace Go.Proofs.Ytkfdkkhhkciocaa
set_option linter.unusedVariables false
set_option linter.unusedSimpArgs false
open Go.RowKit
set_option maxRecDepth 20000 in
set_option maxHeartbeats 1000000 in
theorem rcut_sides (xs : List Int) (v : Value) (wd hi : Int) (w : World) (hv : SL w 1 v xs.length (ints xs)) (h : sidesZ wd hi ≠ 0) :
    Calls Try.prog 56 #[v, .int .i64 wd, .int .i64 hi] w fun e w' => e = .returned (.tuple #[.slice none 0 0, .int .i64 1]) ∧ Ext w w' := by
  have HK := hid_ (fun W => sidesCheck_any wd hi W)
  rw [sides_no h] at HK
  clear h
  obtain ⟨A, c, rfl, hc1, hc2, -, -⟩ := hv
  go_enter Try.func56, Try.ntmps56
  go_wp2_with (go_at_call 95; (with_reducible refine (HK.out _).mono ?_); rintro e w3 ⟨rfl, rfl⟩)
  go_ret2
  exact ⟨rfl, Ext.refl _⟩
set_option maxRecDepth 20000 in
set_option maxHeartbeats 1000000 in
theorem rcut_long (xs : List Int) (v : Value) (wd hi : Nat) (w : World) (hv : SL w 1 v xs.length (ints xs)) (h0 : sidesZ wd hi = 0) (a2 : wd ≤ 64) (b2 : hi ≤ 64) (h : xs.length ≠ wd * hi) :
    Calls Try.prog 56 #[v, .int .i64 wd, .int .i64 hi] w fun e w' => e = .returned (.tuple #[.slice none 0 0, .int .i64 4]) ∧ Ext w w' := by
  have HK := hid_ (fun W => sidesCheck_any wd hi W)
  rw [h0] at HK
  clear h0
  have hm : wd * hi ≤ 64 * 64 := Nat.mul_le_mul a2 b2
  have hw1 : IntKind.i64.wrap ((wd : Int) * (hi : Int)) = (wd : Int) * (hi : Int) := by rw [← Int.natCast_mul]; exact IntWalk.i64_in _ (by omega)
  have hne : ((xs.length : Int) != (wd : Int) * (hi : Int)) = true := by rw [← Int.natCast_mul]; simp; omega
  obtain ⟨A, c, rfl, hc1, hc2, -, -⟩ := hv
  clear h hm
  go_enter Try.func56, Try.ntmps56
  go_wp2_with (go_at_call 95; (with_reducible refine (HK.out _).mono ?_); rintro e w3 ⟨rfl, rfl⟩)
  go_ret2
  exact ⟨rfl, Ext.refl _⟩
set_option maxRecDepth 20000 in
set_option maxHeartbeats 1000000 in
theorem rcut_out (xs : List Int) (v : Value) (wd hi : Nat) (w : World) (hv : SL w 1 v xs.length (ints xs)) (h0 : sidesZ wd hi = 0) (a2 : wd ≤ 64) (b2 : hi ≤ 64) (h : xs.length = wd * hi) (hq : allIn xs 0 255 = false) :
    Calls Try.prog 56 #[v, .int .i64 wd, .int .i64 hi] w fun e w' => e = .returned (.tuple #[.slice none 0 0, .int .i64 1]) ∧ Ext w w' := by
  have HK := hid_ (fun W => sidesCheck_any wd hi W)
  rw [h0] at HK
  clear h0
  have HQ := hid_ hq
  clear hq
  have hm : wd * hi ≤ 64 * 64 := Nat.mul_le_mul a2 b2
  have hw1 : IntKind.i64.wrap ((wd : Int) * (hi : Int)) = (wd : Int) * (hi : Int) := by rw [← Int.natCast_mul]; exact IntWalk.i64_in _ (by omega)
  have hne : ((xs.length : Int) != (wd : Int) * (hi : Int)) = false := by rw [← Int.natCast_mul]; simp; omega
  have hv' := hv
  obtain ⟨A, c, rfl, hc1, hc2, -, -⟩ := hv'
  clear h hm
  go_enter Try.func56, Try.ntmps56
  go_wp2_with (go_at_call 95; (with_reducible refine (HK.out _).mono ?_); rintro e w3 ⟨rfl, rfl⟩)
  go_loop [30] (fun i => ∃ k : Nat, k ≤ xs.length ∧ i = .int .i64 (k : Int) ∧ ∀ z ∈ xs.take k, 0 ≤ z ∧ z ≤ 255) (fun i => xs.length - (intOf i).toNat)
  case atStart => exact ⟨0, by omega, rfl, by simp⟩
  case round =>
    obtain ⟨k, hk, rfl, hin⟩ := hrel
    have HIN := hid_ hin
    clear hin
    by_cases hlt : k < xs.length
    · obtain ⟨ad, u, rfl, -, hxk, hcell⟩ := hv.at1 hlt
      obtain ⟨hkl, rfl⟩ := ints_at _ _ _ hxk
      clear hxk
      cases hq : inB xs[k] 0 255 with
      | true =>
        have HN := hid_ (allIn_take HIN.out hkl (inB_iff.1 hq))
        go_wp2_with (go_at_call 28; refine (outside_any _ _ _ _).mono ?_; rintro e w' ⟨rfl, rfl⟩)
        go_round
        case rel => exact ⟨k + 1, by omega, by go_num, HN.out⟩
        case measure => simp [intOf]; omega
      | false =>
        go_wp2_with (go_at_call 28; refine (outside_any _ _ _ _).mono ?_; rintro e w' ⟨rfl, rfl⟩)
        go_ret2
        exact ⟨rfl, Ext.refl _⟩
    · have emk : k = xs.length := by omega
      have hall : allIn xs 0 255 = true := allIn_iff.2 fun z hz => HIN.out z (by rw [emk, List.take_length]; exact hz)
      have h9 := HQ.out
      rw [hall] at h9
      cases h9
end Go.Proofs.Ytkfdkkhhkciocaa
/- A slice literal of one block. -/
namespace Go.Proofs.Ytkfdkkhhkciocaa
set_option linter.unusedVariables false
set_option linter.unusedSimpArgs false
open Go.RowKit
theorem elt_blk : Elt Try.prog 29 24 64 512 := ⟨Try.underlying29, by kernel_rfl, by decide⟩
theorem zero48' : ((Try.prog.info? 24).bind (·.zero)).isSome = true := by rw [zero48]; rfl
theorem blk_sl1 {w : World} {g : Nat} {t : TypeId} {zs : List Int} (h : Blk w g t (bv zs)) (hz : zs.length = 64) : SL w 64 (.slice (some ⟨g, 0, none⟩) 1 1) 1 (ints zs) := by
  have := h.sl (size := 64) (n := 1) (c := 1) (by rw [bv_size, hz]) (by omega) (by omega)
  simpa [bv] using this
end Go.Proofs.Ytkfdkkhhkciocaa
