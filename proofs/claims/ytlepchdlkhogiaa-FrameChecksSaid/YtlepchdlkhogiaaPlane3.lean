/- plane.area: place; plane.Many. -/
import Derived.Test.YtlepchdlkhogiaaPlane2
namespace Go.Proofs.Ytlepchdlkhogiaa
set_option linter.unusedVariables false
set_option linter.unusedSimpArgs false
open Go.RowKit
set_option maxRecDepth 20000 in
set_option maxHeartbeats 1000000 in
theorem place_any (wd : Nat) (hi : Int) (b i : Nat) (w : World) (h1 : 1 ≤ wd) (h2 : wd ≤ 64) (hb : b < 64) (hi64 : i < 64) :
    Calls Try.prog 35 #[.agg (areaV wd hi), .int .i64 (b : Int), .int .i64 (i : Int)] w fun e w' =>
      e = .returned (.tuple #[.int .i64 ((b / ((wd + 7) / 8) * 8 + i / 8 : Nat) : Int), .int .i64 ((b % ((wd + 7) / 8) * 8 + i % 8 : Nat) : Int)]) ∧ Ext w w' := by
  have HA := hid_ (fun W => across_any wd hi W h1 h2)
  have hts := hid_ (areaV_size wd hi)
  have hc : 1 ≤ (wd + 7) / 8 ∧ (wd + 7) / 8 ≤ 8 := by omega
  generalize (wd + 7) / 8 = c at *
  generalize areaV wd hi = av at *
  have q1 : b / c ≤ b := Nat.div_le_self _ _
  have q2 : b % c < c := Nat.mod_lt _ (by omega)
  go_enter Try.func35, Try.ntmps35
  go_wp2_with (refine wpList_box_abs rfl 69 (.tmp 0) rfl av rfl ?_; intro w1 g hb1 hx1 hg)
  have hx1' := hx1.drew
  have hb1' := hb1.drew
  refine wp_region_lx later_ext (by kernel_rfl) (by kernel_rfl) ?_
  refine lx_ex (by rfl) ?_; apply Exists.intro; refine ⟨fun w hw => ?_, ?_⟩; · (go_simp; with_reducible rfl)
  simp only [Act.put, List.setIfInBounds_toArray, List.set_cons_succ, List.set_cons_zero]
  refine lx_load_blk (by rfl) 69 (.tmp 3) rfl g rfl (fun w h => hb1'.ext h) _ Try.underlying69 rfl 2 sizeArea hts.out ?_
  simp only [Act.put, List.setIfInBounds_toArray, List.set_cons_succ, List.set_cons_zero]
  refine lx_callF (by rfl) 64 Try.func64 rfl rfl _ _ rfl #[.agg av] (by simp [Act.eval]) (.int .i64 (c : Int)) (fun W h => HA.out W) ?_
  simp only [Act.put, List.setIfInBounds_toArray, List.set_cons_succ, List.set_cons_zero]
  refine lx_binOp (by rfl) .quo 3 _ _ _ rfl (.int .i64 ((b : Nat) : Int)) (.int .i64 ((c : Nat) : Int)) rfl rfl (.int .i64 ((b / c : Nat) : Int)) (guardN _ _ _ _ _) (run_quoN _ _ (by omega) (by omega)) ?_
  simp only [Act.put, List.setIfInBounds_toArray, List.set_cons_succ, List.set_cons_zero]
  refine lx_binOp (by rfl) .mul 3 _ _ _ rfl (.int .i64 ((b / c : Nat) : Int)) (.int .i64 ((8 : Nat) : Int)) rfl rfl (.int .i64 ((b / c * 8 : Nat) : Int)) (guardN _ _ _ _ _) (run_mulN _ _ _ rfl (by omega)) ?_
  simp only [Act.put, List.setIfInBounds_toArray, List.set_cons_succ, List.set_cons_zero]
  refine lx_ex (by rfl) ?_; apply Exists.intro; refine ⟨fun w hw => ?_, ?_⟩; · (go_simp; with_reducible rfl)
  simp only [Act.put, List.setIfInBounds_toArray, List.set_cons_succ, List.set_cons_zero]
  refine lx_binOp (by rfl) .quo 3 _ _ _ rfl (.int .i64 ((i : Nat) : Int)) (.int .i64 ((8 : Nat) : Int)) rfl rfl (.int .i64 ((i / 8 : Nat) : Int)) (guardN _ _ _ _ _) (run_quoN _ _ (by omega) (by omega)) ?_
  simp only [Act.put, List.setIfInBounds_toArray, List.set_cons_succ, List.set_cons_zero]
  refine lx_binOp (by rfl) .add 3 _ _ _ rfl (.int .i64 ((b / c * 8 : Nat) : Int)) (.int .i64 ((i / 8 : Nat) : Int)) rfl rfl (.int .i64 ((b / c * 8 + i / 8 : Nat) : Int)) (guardN _ _ _ _ _) (run_addN _ _ (by omega)) ?_
  simp only [Act.put, List.setIfInBounds_toArray, List.set_cons_succ, List.set_cons_zero]
  refine lx_ex (by rfl) ?_; apply Exists.intro; refine ⟨fun w hw => ?_, ?_⟩; · (go_simp; with_reducible rfl)
  simp only [Act.put, List.setIfInBounds_toArray, List.set_cons_succ, List.set_cons_zero]
  refine lx_load_blk (by rfl) 69 (.tmp 3) rfl g rfl (fun w h => hb1'.ext h) _ Try.underlying69 rfl 2 sizeArea hts.out ?_
  simp only [Act.put, List.setIfInBounds_toArray, List.set_cons_succ, List.set_cons_zero]
  refine lx_callF (by rfl) 64 Try.func64 rfl rfl _ _ rfl #[.agg av] (by simp [Act.eval]) (.int .i64 (c : Int)) (fun W h => HA.out W) ?_
  simp only [Act.put, List.setIfInBounds_toArray, List.set_cons_succ, List.set_cons_zero]
  refine lx_binOp (by rfl) .rem 3 _ _ _ rfl (.int .i64 ((b : Nat) : Int)) (.int .i64 ((c : Nat) : Int)) rfl rfl (.int .i64 ((b % c : Nat) : Int)) (guardN _ _ _ _ _) (run_remN _ _ (by omega) (by omega)) ?_
  simp only [Act.put, List.setIfInBounds_toArray, List.set_cons_succ, List.set_cons_zero]
  refine lx_binOp (by rfl) .mul 3 _ _ _ rfl (.int .i64 ((b % c : Nat) : Int)) (.int .i64 ((8 : Nat) : Int)) rfl rfl (.int .i64 ((b % c * 8 : Nat) : Int)) (guardN _ _ _ _ _) (run_mulN _ _ _ rfl (by omega)) ?_
  simp only [Act.put, List.setIfInBounds_toArray, List.set_cons_succ, List.set_cons_zero]
  refine lx_ex (by rfl) ?_; apply Exists.intro; refine ⟨fun w hw => ?_, ?_⟩; · (go_simp; with_reducible rfl)
  simp only [Act.put, List.setIfInBounds_toArray, List.set_cons_succ, List.set_cons_zero]
  refine lx_binOp (by rfl) .rem 3 _ _ _ rfl (.int .i64 ((i : Nat) : Int)) (.int .i64 ((8 : Nat) : Int)) rfl rfl (.int .i64 ((i % 8 : Nat) : Int)) (guardN _ _ _ _ _) (run_remN _ _ (by omega) (by omega)) ?_
  simp only [Act.put, List.setIfInBounds_toArray, List.set_cons_succ, List.set_cons_zero]
  refine lx_binOp (by rfl) .add 3 _ _ _ rfl (.int .i64 ((b % c * 8 : Nat) : Int)) (.int .i64 ((i % 8 : Nat) : Int)) rfl rfl (.int .i64 ((b % c * 8 + i % 8 : Nat) : Int)) (guardN _ _ _ _ _) (run_addN _ _ (by omega)) ?_
  simp only [Act.put, List.setIfInBounds_toArray, List.set_cons_succ, List.set_cons_zero]
  generalize hmm : b / c * 8 + i / 8 = m at *
  generalize hnn : b % c * 8 + i % 8 = n at *
  have HMM := hid_ hmm
  have HNN := hid_ hnn
  clear hmm hnn
  refine lx_ex (by rfl) ?_; apply Exists.intro; refine ⟨fun w hw => ?_, ?_⟩; · (go_simp; with_reducible rfl)
  simp only [Act.put, List.setIfInBounds_toArray, List.set_cons_succ, List.set_cons_zero]
  refine lx_ex (by rfl) ?_; apply Exists.intro; refine ⟨fun w hw => ?_, ?_⟩; · (go_simp; with_reducible rfl)
  simp only [Act.put, List.setIfInBounds_toArray, List.set_cons_succ, List.set_cons_zero]
  refine lx_nil ?_
  intro w3 hx3
  go_wp2_with fail
  go_ret2
  rw [HMM.out, HNN.out]
  exact ⟨rfl, hx1'.trans hx3⟩
theorem zeroArea : (Try.prog.info? 69).bind (·.zero) = some (.agg #[.int .i64 0, .int .i64 0]) := by kernel_rfl
theorem all_one (l : List Value) (h : ∀ u ∈ l, u.oneCell' = true) : l.toArray.all (·.oneCell') = true :=
  Array.all_eq_true_iff_forall_mem.2 (fun v hv => h v (by simpa using hv))
theorem areaV_one (wd hi : Int) : (areaV wd hi).all (·.oneCell') = true := all_one [.int .i64 wd, .int .i64 hi] (by intro u hu; simp at hu; rcases hu with rfl | rfl <;> rfl)
theorem sides_ok {wd hi : Int} (h : sidesZ wd hi = 0) : ∃ a b : Nat, wd = (a : Int) ∧ hi = (b : Int) ∧ 1 ≤ a ∧ a ≤ 64 ∧ 1 ≤ b ∧ b ≤ 64 := by
  unfold sidesZ at h
  cases h1 : inB wd 1 64 with
  | false => rw [h1] at h; cases h
  | true =>
    cases h2 : inB hi 1 64 with
    | false => rw [h1, h2] at h; cases h
    | true =>
      have := inB_iff.1 h1
      have := inB_iff.1 h2
      exact ⟨wd.toNat, hi.toNat, by omega, by omega, by omega, by omega, by omega, by omega⟩
theorem sides_no {wd hi : Int} (h : sidesZ wd hi ≠ 0) : sidesZ wd hi = 1 := by
  unfold sidesZ at h ⊢
  split
  · next h2 => rw [if_pos h2] at h; exact absurd rfl h
  · rfl
def manyZ (wd hi : Int) : Int := if sidesZ wd hi = 0 then (((wd.toNat + 7) / 8 * ((hi.toNat + 7) / 8) : Nat) : Int) else 0
set_option maxRecDepth 20000 in
set_option maxHeartbeats 1000000 in
theorem Many_any (wd hi : Int) (w : World) :
    Calls Try.prog 12 #[.int .i64 wd, .int .i64 hi] w fun e w' => e = .returned (.tuple #[.int .i64 (manyZ wd hi), .int .i64 (sidesZ wd hi)]) ∧ Ext w w' := by
  have HK := hid_ (fun W => areaCheck_any wd hi W)
  by_cases h : sidesZ wd hi = 0
  · have HM : Hid (∀ W, Calls Try.prog 34 #[.agg (areaV wd hi)] W fun e w' => e = .returned (.int .i64 (manyZ wd hi)) ∧ Ext W w') := hid_ (by
      intro W
      unfold manyZ
      rw [if_pos h]
      obtain ⟨a, b, rfl, rfl, a1, a2, b1, b2⟩ := sides_ok h
      exact many_any a b W a1 a2 b1 b2)
    generalize manyZ wd hi = m at *
    rw [h] at HK ⊢
    clear h
    have hbv : #[Value.int .i64 wd, Value.int .i64 hi] = areaV wd hi := rfl
    have hts := hid_ (areaV_size wd hi)
    have ho := hid_ (areaV_one wd hi)
    generalize areaV wd hi = av at *
    go_enter Try.func12, Try.ntmps12
    go_wp2_with (first
      | (refine wpList_alloc_abs' rfl (some 6) rfl 69 rfl _ zeroArea ?_; intro w1 g hb1 hx1 hg)
      | (refine wpList_store_blk rfl 69 (.tmp 6) (.tmp 10) rfl _ _ rfl rfl hb1 2 sizeArea hts.out rfl ho.out ?_; intro w2 hb2 hg2; have hx2 := hx1.grown hg2 (by omega))
      | (refine wpList_load_blk rfl 69 (.tmp 6) rfl _ rfl hb2 _ Try.underlying69 rfl 2 sizeArea hts.out ?_)
      | (go_at_call 31; (with_reducible refine (HK.out _).mono ?_); rintro e w3 ⟨rfl, hx3⟩; have hb3 := hb2.ext hx3)
      | (refine wpList_load_blk rfl 69 (.tmp 6) rfl _ rfl hb3 _ Try.underlying69 rfl 2 sizeArea hts.out ?_)
      | (go_at_call 34; (with_reducible refine (HM.out _).mono ?_); rintro e w4 ⟨rfl, hx4⟩))
    go_ret2
    exact ⟨rfl, (hx2.trans hx3).trans hx4⟩
  · have e : manyZ wd hi = 0 := by unfold manyZ; rw [if_neg h]
    rw [e]
    have h1 := sides_no h
    rw [h1] at HK ⊢
    clear h h1 e
    have hbv : #[Value.int .i64 wd, Value.int .i64 hi] = areaV wd hi := rfl
    have hts := hid_ (areaV_size wd hi)
    have ho := hid_ (areaV_one wd hi)
    generalize areaV wd hi = av at *
    go_enter Try.func12, Try.ntmps12
    go_wp2_with (first
      | (refine wpList_alloc_abs' rfl (some 6) rfl 69 rfl _ zeroArea ?_; intro w1 g hb1 hx1 hg)
      | (refine wpList_store_blk rfl 69 (.tmp 6) (.tmp 10) rfl _ _ rfl rfl hb1 2 sizeArea hts.out rfl ho.out ?_; intro w2 hb2 hg2; have hx2 := hx1.grown hg2 (by omega))
      | (refine wpList_load_blk rfl 69 (.tmp 6) rfl _ rfl hb2 _ Try.underlying69 rfl 2 sizeArea hts.out ?_)
      | (go_at_call 31; (with_reducible refine (HK.out _).mono ?_); rintro e w3 ⟨rfl, hx3⟩; have hb3 := hb2.ext hx3))
    go_ret2
    exact ⟨rfl, hx2.trans hx3⟩
end Go.Proofs.Ytlepchdlkhogiaa
