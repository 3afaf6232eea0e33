/- Contracts for the law FrameBlocks, part 7: what the functions that it reaches answer, for all arguments that the theorems name. -/
import Derived.Test.YtkfdkkhhkciocaaMFrameBlocks1
import Derived.Test.YtkfdkkhhkciocaaMFrameBlocks3
import Derived.Deep.QuietTactic
import Derived.BigQuiet
namespace Go.Proofs.Ytkfdkkhhkciocaa
set_option linter.unusedVariables false
set_option linter.unusedSimpArgs false
open Go.RowKit
theorem round_pos (n d : Int) (w : World) (h0 : 0 ≤ n) (hn : n ≤ 1000000000000000000) (hd : 1 ≤ d) (hd2 : d ≤ 1000000000000000000) :
    Calls Try.prog 94 #[.int .i64 n, .int .i64 d] w fun e w' => e = .returned (.int .i64 (rp n d)) ∧ w = w' := by
  go_enter Try.func94, Try.ntmps94
  go_wp2_with fail
  go_ret
  exact ⟨rfl, rfl⟩
theorem round_any (n d : Int) (w : World) (hn1 : -1000000000000000000 ≤ n) (hn : n ≤ 1000000000000000000) (hd : 1 ≤ d) (hd2 : d ≤ 1000000000000000000) :
    Calls Try.prog 94 #[.int .i64 n, .int .i64 d] w fun e w' => e = .returned (.int .i64 (rnd n d)) ∧ w = w' := by
  by_cases h : n < 0
  · have hb := rp_bounds (-n) d (by omega) hd
    obtain ⟨hb1, hb2⟩ := hb
    go_enter Try.func94, Try.ntmps94
    go_wp2_with (go_at_call 94; refine (round_pos _ _ _ (by omega) (by omega) hd hd2).mono ?_; rintro e w' ⟨rfl, rfl⟩)
    go_ret
    exact ⟨by simp [rnd, h], rfl⟩
  · unfold rnd; rw [if_neg h]
    exact round_pos n d w (by omega) hn hd hd2
theorem within_any (n most : Int) (w : World) (h0 : 0 ≤ most) (h1 : most ≤ 1000000000000000000) :
    Calls Try.prog 93 #[.int .i64 n, .int .i64 most] w fun e w' => e = .returned (.int .i64 (clampZ n (-most) most)) ∧ w = w' := by
  have hd : n < -most ∨ (-most ≤ n ∧ n ≤ most) ∨ most < n := by omega
  rcases hd with hd | ⟨hd1, hd2⟩ | hd
  · have e : clampZ n (-most) most = -most := by unfold clampZ; rw [if_pos hd]
    rw [e]; clear e
    go_enter Try.func93, Try.ntmps93
    go_wp2
    all_goals
      go_ret
      refine ⟨?_, rfl⟩
      first
        | rfl
        | (show Ending.returned (.int .i64 (min (max n (-most)) most)) = _; congr 2; omega)
  · have e : clampZ n (-most) most = n := by unfold clampZ; rw [if_neg (by omega), if_neg (by omega)]
    rw [e]; clear e
    go_enter Try.func93, Try.ntmps93
    go_wp2
    all_goals
      go_ret
      refine ⟨?_, rfl⟩
      first
        | (show Ending.returned (.int .i64 (min (max n (-most)) most)) = _; congr 2; omega)
        | (congr 2; try omega)
  · have e : clampZ n (-most) most = most := by unfold clampZ; rw [if_neg (by omega), if_pos hd]
    rw [e]; clear e
    have hd' : ¬ n < -most := by omega
    go_enter Try.func93, Try.ntmps93
    go_wp2
    all_goals
      go_ret
      refine ⟨?_, rfl⟩
      first
        | rfl
        | (show Ending.returned (.int .i64 (min (max n (-most)) most)) = _; congr 2; omega)
end Go.Proofs.Ytkfdkkhhkciocaa
/- tint.three. -/
namespace Go.Proofs.Ytkfdkkhhkciocaa
set_option linter.unusedVariables false
set_option linter.unusedSimpArgs false
open Go.RowKit
set_option maxRecDepth 20000
theorem size65 : (Try.prog.info? 131).map (·.size) = some 12 := by kernel_rfl
theorem size64_ : (Try.prog.info? 130).map (·.size) = some 4 := by kernel_rfl
theorem size66 : (Try.prog.info? 132).map (·.size) = some 3 := by kernel_rfl
theorem zero66 : (Try.prog.info? 132).bind (·.zero) = some (.agg (bv [0, 0, 0])) := by kernel_rfl
theorem zero64_ : (Try.prog.info? 130).bind (·.zero) = some (.agg (bv [0, 0, 0, 0])) := by kernel_rfl
theorem results_tmp4 {fn : Func} {t u v x : Tmp} (h : fn.results = #[.tmp t, .tmp u, .tmp v, .tmp x]) (tmps : Array Value) (P : Program) (w : World) :
    (results fn tmps).run P w = .ok (.tuple #[tmps.getD t undef, tmps.getD u undef, tmps.getD v undef, tmps.getD x undef]) w := by
  simp [results, h]
/-- row i of the matrix -/
def mrow (m : List Int) (i : Nat) : List Int := (m.drop (i * 4)).take 4
def msum (m l : List Int) (i : Nat) (k : Nat) : Int := (mrow m i).getD 3 0 + (List.zipWith (· * ·) ((mrow m i).take k) (l.take k)).sum
def mval (m l : List Int) (i : Nat) : Int := clampZ (rnd (msum m l i 3) 65536) 0 255
theorem mrow_len (m : List Int) (hm : m.length = 12) (i : Nat) (hi : i < 3) : (mrow m i).length = 4 := by simp [mrow]; omega
theorem mrow_bd (m : List Int) (M : Int) (hb : ∀ z ∈ m, -M ≤ z ∧ z ≤ M) (i : Nat) : ∀ z ∈ mrow m i, -M ≤ z ∧ z ≤ M :=
  fun z hz => hb z (List.mem_of_mem_drop (List.mem_of_mem_take hz))
theorem msum_succ (m l : List Int) (i k : Nat) (h1 : k < (mrow m i).length) (h2 : k < l.length) : msum m l i (k + 1) = msum m l i k + (mrow m i)[k] * l[k] := by
  unfold msum
  rw [List.take_succ_eq_append_getElem h1, List.take_succ_eq_append_getElem h2, List.zipWith_append (by simp; omega)]
  simp; omega
theorem msum_bd (m l : List Int) (M : Int) (hM : 0 ≤ M) (hb : ∀ z ∈ m, -M ≤ z ∧ z ≤ M) (hm : m.length = 12) (hl : l.length = 3) (hlb : allIn l 0 255 = true) (i : Nat) (hi : i < 3) :
    ∀ k, k ≤ 3 → -(M + k * (M * 255)) ≤ msum m l i k ∧ msum m l i k ≤ M + k * (M * 255) := by
  intro k
  have hrl := mrow_len m hm i hi
  induction k with
  | zero =>
    intro _
    have h3 : 3 < (mrow m i).length := by omega
    have : msum m l i 0 = (mrow m i)[3] := by simp [msum, h3]
    have := mrow_bd m M hb i _ (List.getElem_mem h3)
    omega
  | succ k ih =>
    intro hk
    have h1 : k < (mrow m i).length := by omega
    have h2 : k < l.length := by omega
    have := ih (by omega)
    rw [msum_succ m l i k h1 h2]
    obtain ⟨a1, a2⟩ := mrow_bd m M hb i _ (List.getElem_mem h1)
    obtain ⟨b1, b2⟩ := allIn_iff.1 hlb _ (List.getElem_mem h2)
    generalize (mrow m i)[k] = x at *
    generalize l[k] = y at *
    have e1 : x * y ≤ M * y := Int.mul_le_mul_of_nonneg_right a2 b1
    have e2 : M * y ≤ M * 255 := Int.mul_le_mul_of_nonneg_left b2 hM
    have e3 : -M * y ≤ x * y := Int.mul_le_mul_of_nonneg_right a1 b1
    rw [Int.neg_mul] at e3
    have e4 : ((k + 1 : Nat) : Int) * (M * 255) = k * (M * 255) + M * 255 := by rw [Int.natCast_succ, Int.add_mul, Int.one_mul]
    omega
theorem run_index_row (m : List Int) (i : Nat) (hi : i < 3) (w : World) : (Instr.index 131 (.agg (bv m)) (.int .i64 (i : Int))).run Try.prog w = .ok (.agg (bv (mrow m i))) w := by
  have hc : ((0 : Int) ≤ (i : Int) ∧ (i : Int) < ((3 : Nat) : Int)) = True := by simp; omega
  have hso : (sizeOf 130).run Try.prog w = .ok 4 w := by
    cases hq : Try.prog.info? 130 with
    | none => have := size64_; simp [hq] at this
    | some inf =>
      have : inf.size = 4 := by have := size64_; simpa [hq] using this
      simp [sizeOf, typeInfo, hq, this]
  have e : (bv m).extract (i * 4) (i * 4 + 4) = bv (mrow m i) := by
    simp [bv, ints, mrow, List.extract_toArray, List.extract_eq_take_drop, List.map_take, List.map_drop]
  simp only [Instr.index, asIntOf, Sem.run_bind, Sem.run_pure, Result.andThen_ok, run_underlying Try.underlying131, hc, if_true]
  simp [part, hso, e]
theorem mvals_set (m l : List Int) (i : Nat) (hi : i < 3) : ((List.range i).map (mval m l) ++ List.replicate (3 - i) 0).set i (mval m l i) = (List.range (i + 1)).map (mval m l) ++ List.replicate (3 - (i + 1)) 0 := by
  have hl : ((List.range i).map (mval m l)).length = i := by simp
  rw [List.set_append_right _ _ (by omega), hl, Nat.sub_self]
  obtain ⟨j, hj⟩ : ∃ j, 3 - i = j + 1 := ⟨3 - i - 1, by omega⟩
  have hj2 : 3 - (i + 1) = j := by omega
  rw [hj, hj2, List.replicate_succ, List.set_cons_zero, List.range_succ, List.map_append]
  simp
theorem run_index66 (cs : Array Value) (i : Nat) (u : Value) (hi : i < 3) (hu : cs[i]? = some u) (w : World) : (Instr.index 132 (.agg cs) (.int .i64 (i : Int))).run Try.prog w = .ok u w :=
  run_index_agg _ _ 3 cs i u Try.underlying132 _ Try.underlying3 sizeInt hi hu w
set_option maxHeartbeats 800000 in
theorem three_in (m l : List Int) (w : World) (hm : m.length = 12) (hl : l.length = 3) (hmb : ∀ z ∈ m, -20000000 ≤ z ∧ z ≤ 20000000) (hlb : allIn l 0 255 = true) :
    Calls Try.prog 83 #[.agg (bv m), .agg (bv l)] w fun e w' => e = .returned (.tuple #[.int .i64 (mval m l 0), .int .i64 (mval m l 1), .int .i64 (mval m l 2), .int .i64 0]) ∧ Ext w w' := by
  have HL := hid_ hl
  have HLB := hid_ (allIn_iff.1 hlb)
  have hsm := hid_ ((bv_size m).trans hm)
  have hsl := hid_ ((bv_size l).trans hl)
  have HRL := hid_ (fun i hi => mrow_len m hm i hi)
  have HRB := hid_ (mrow_bd m 20000000 hmb)
  have HSB := hid_ (msum_bd m l 20000000 (by omega) hmb hm hl hlb)
  have HIR := hid_ (fun i hi W => run_index_row m i hi W)
  generalize hcm : bv m = cm at *
  generalize hcl : bv l = cl at *
  have HCL := hid_ hcl
  clear hcm hcl hm hl hmb hlb
  go_enter Try.func83, Try.ntmps83
  go_wp2_with (first
    | (refine wpList_box_abs rfl 131 (.tmp 0) rfl cm rfl ?_; intro w1 gm hbm1 hx1 hgm)
    | (refine wpList_box_abs rfl 132 (.tmp 1) rfl cl rfl ?_; intro w2 gl hbl2 hx2 hgl; have hbm2 := hbm1.ext hx2)
    | (refine wpList_alloc_abs' rfl (some 8) rfl 132 rfl _ zero66 ?_; intro w3 go hbo3 hx3 hgo; have hbm3 := hbm2.ext hx3; have hbl3 := hbl2.ext hx3)
    | (refine wpList_load_blk rfl 131 (.tmp 2) rfl _ rfl hbm3 _ Try.underlying131 rfl 12 size65 hsm.out ?_))
  have hne : go ≠ gl := by have := hbl2.lt; omega
  have hgo' : w.heap.size ≤ go := by have := hx1.size; have := hx2.size; omega
  have hxx := (hx1.trans hx2).trans hx3
  clear hbm1 hbm2 hbm3 hbl2 hx1 hx2 hx3
  go_loopw [15] (fun i wr => ∃ k : Nat, k ≤ 3 ∧ i = .int .i64 k ∧ Blk wr gl 132 cl ∧ Blk wr go 132 (bv ((List.range k).map (mval m l) ++ List.replicate (3 - k) 0)) ∧ Ext w wr) (fun i _ => 3 - (intOf i).toNat)
  case atStart => exact ⟨0, by omega, rfl, hbl3, hbo3, hxx⟩
  case round =>
    obtain ⟨k, hk, rfl, hb1, hb2, hx⟩ := hrel
    by_cases hlt : k < 3
    · have hix := HIR.out k hlt
      have hrl := HRL.out k hlt
      have hrs := hid_ ((bv_size (mrow m k)).trans hrl)
      have hro := hid_ (bv_one (mrow m k))
      have hz4 : Hid ((Value.agg (bv [0, 0, 0, 0])).cells.size = 4) := hid_ rfl
      have hrz := zero64_
      have HRZ := hid_ hrz
      have h3 : 3 < (mrow m k).length := by omega
      have hr3 := hid_ (bv_at (mrow m k) 3 h3)
      have HRK := hid_ (fun j (hj : j < (mrow m k).length) => bv_at (mrow m k) j hj)
      clear hrz
      generalize bv (mrow m k) = cr at *
      go_wp2_with (first
        | (refine wpList_alloc_abs' rfl (some 10) rfl 130 rfl _ HRZ.out ?_; intro w4 gr hbr4 hx4 hgr)
        | (refine wpList_store_blk rfl 130 (.tmp 10) (.tmp 18) rfl _ _ rfl rfl hbr4 4 size64_ hrs.out hz4.out hro.out ?_; intro w5 hbr5 hg5; have hl3 : w5.cell? ⟨gr, 3, none⟩ = some (.int .i64 (mrow m k)[3]) := (hbr5.cell 3).trans hr3.out; have hbl5 := (hb1.ext hx4).grown hg5 (by have := hb1.lt; simp; omega); have hbo5 := (hb2.ext hx4).grown hg5 (by have := hb2.lt; simp; omega))
        | (refine wpList_load_blk rfl 132 (.tmp 3) rfl _ rfl hbl5 _ Try.underlying132 rfl 3 size66 hsl.out ?_))
      have hgr' : w.heap.size ≤ gr := by have := hx.size; omega
      have hx5 := (hx.trans hx4).grown hg5 hgr'
      clear hb1 hb2 hx hx4 hg5 hbr4
      have hs0 : msum m l k 0 = (mrow m k)[3] := by simp [msum, h3]
      have HS0 := hid_ hs0
      clear hs0
      go_loop [11, 22] (fun s j => ∃ n : Nat, n ≤ 3 ∧ j = .int .i64 n ∧ s = .int .i64 (msum m l k n)) (fun _ j => 3 - (intOf j).toNat)
      case atStart => exact ⟨0, by omega, rfl, by rw [HS0.out]⟩
      case round =>
        obtain ⟨n, hn, rfl, rfl⟩ := hrel
        by_cases hlt2 : n < 3
        · have hnl : n < l.length := by have := HL.out; omega
          have hnr : n < (mrow m k).length := by omega
          have hix2 := run_index66 cl n (.int .i64 l[n]) hlt2 (by rw [← HCL.out]; exact bv_at l n hnl)
          have hrn : w5.cell? ⟨gr, n, none⟩ = some (.int .i64 (mrow m k)[n]) := (hbr5.cell n).trans (HRK.out n hnr)
          obtain ⟨l1, l2⟩ := HLB.out _ (List.getElem_mem hnl)
          obtain ⟨r1, r2⟩ := HRB.out k _ (List.getElem_mem hnr)
          obtain ⟨s1, s2⟩ := HSB.out k hlt n hn
          have HN := hid_ (msum_succ m l k n hnr hnl)
          generalize (mrow m k)[n] = x at *
          generalize l[n] = y at *
          have e1 : x * y ≤ 20000000 * y := Int.mul_le_mul_of_nonneg_right r2 l1
          have e3 : -20000000 * y ≤ x * y := Int.mul_le_mul_of_nonneg_right r1 l1
          generalize msum m l k n = s at *
          go_wp2_with fail
          go_round
          case rel => exact ⟨n + 1, by omega, by go_num, by rw [HN.out]⟩
          case measure => simp [intOf]; omega
        · obtain rfl : n = 3 := by omega
          obtain ⟨s1, s2⟩ := HSB.out k hlt 3 hn
          obtain ⟨q1, q2⟩ := rnd_bounds (msum m l k 3) 65536 (by omega)
          have HR := hid_ (fun W => round_any (msum m l k 3) 65536 W (by omega) (by omega) (by omega) (by omega))
          have HM2 : Hid (min (max (rnd (msum m l k 3) 65536) 0) 255 = mval m l k) := hid_ (by unfold mval clampZ; (repeat' split) <;> omega)
          have HM : Hid ((if 255 < (if rnd (msum m l k 3) 65536 < 0 then 0 else rnd (msum m l k 3) 65536) then 255 else (if rnd (msum m l k 3) 65536 < 0 then 0 else rnd (msum m l k 3) 65536)) = mval m l k) := hid_ (by unfold mval clampZ; (repeat' split) <;> omega)
          obtain ⟨old, hold⟩ : ∃ u, w5.cell? ⟨go, k, none⟩ = some u := by
            rw [hbo5.cell k]
            have hl : ((List.range k).map (mval m l) ++ List.replicate (3 - k) 0).length = 3 := by simp; omega
            exact ⟨_, bv_at _ k (by omega)⟩
          have hfr := hbo5.frozen k
          generalize rnd (msum m l k 3) 65536 = r at *
          generalize msum m l k 3 = s at *
          go_wp2_with (go_at_call 94; (with_reducible refine (HR.out _).mono ?_); rintro e w' ⟨rfl, rfl⟩)
          first
            | rw [HM.out]
            | rw [HM2.out]
          go_roundw
          case rel =>
            refine ⟨k + 1, by omega, by go_num, hbl5.far (p := ⟨go, k, none⟩) (by simpa using hne.symm) _, ?_, hx5.setCell (by omega) _⟩
            have := hbo5.set_ k (.int .i64 (mval m l k))
            rw [bv_set, mvals_set m l k hlt] at this
            exact this
          case measure => simp [intOf]; omega
    · have ek : k = 3 := by omega
      rw [ek] at hb2
      have hc0 : wr.cell? ⟨go, 0, none⟩ = some (.int .i64 (mval m l 0)) := (hb2.cell 0).trans (by rfl)
      have hc1 : wr.cell? ⟨go, 1, none⟩ = some (.int .i64 (mval m l 1)) := (hb2.cell 1).trans (by rfl)
      have hc2 : wr.cell? ⟨go, 2, none⟩ = some (.int .i64 (mval m l 2)) := (hb2.cell 2).trans (by rfl)
      go_wp2_with fail
      go_quiet (fail)
      go_wp2_with fail
      (try simp only [Exit.inBlock, Exit.then]); refine bodyPost_ret (results_tmp4 rfl _ _ _) rfl ?_; exact ⟨rfl, hx.trans (below_drewN (Ext.refl wr) nq)⟩
set_option maxHeartbeats 800000 in
theorem three_out (m l : List Int) (w : World) (hm : m.length = 12) (hl : l.length = 3) (hmb : ∀ z ∈ m, -20000000 ≤ z ∧ z ≤ 20000000) (hlb : allIn l 0 255 = false) :
    Calls Try.prog 83 #[.agg (bv m), .agg (bv l)] w fun e w' => e = .returned (.tuple #[.int .i64 0, .int .i64 0, .int .i64 0, .int .i64 1]) ∧ Ext w w' := by
  have HL := hid_ hl
  have HLB := hid_ hlb
  have hsm := hid_ ((bv_size m).trans hm)
  have hsl := hid_ ((bv_size l).trans hl)
  have hrl := mrow_len m hm 0 (by omega)
  have HRB := hid_ (mrow_bd m 20000000 hmb 0)
  have HIR := fun W => run_index_row m 0 (by omega) W
  generalize hcm : bv m = cm at *
  generalize hcl : bv l = cl at *
  have HCL := hid_ hcl
  clear hcm hcl hm hl hmb hlb
  have hrs := hid_ ((bv_size (mrow m 0)).trans hrl)
  have hro := hid_ (bv_one (mrow m 0))
  have hz4 : Hid ((Value.agg (bv [0, 0, 0, 0])).cells.size = 4) := hid_ rfl
  have hrz := zero64_
  have HRZ := hid_ hrz
  have h3 : 3 < (mrow m 0).length := by omega
  have hr3 := hid_ (bv_at (mrow m 0) 3 h3)
  have HRK := hid_ (fun j (hj : j < (mrow m 0).length) => bv_at (mrow m 0) j hj)
  clear hrz
  generalize bv (mrow m 0) = cr at *
  go_enter Try.func83, Try.ntmps83
  go_wp2_with (first
    | (refine wpList_box_abs rfl 131 (.tmp 0) rfl cm rfl ?_; intro w1 gm hbm1 hx1 hgm)
    | (refine wpList_box_abs rfl 132 (.tmp 1) rfl cl rfl ?_; intro w2 gl hbl2 hx2 hgl; have hbm2 := hbm1.ext hx2)
    | (refine wpList_alloc_abs' rfl (some 8) rfl 132 rfl _ zero66 ?_; intro w3 go hbo3 hx3 hgo; have hbm3 := hbm2.ext hx3; have hbl3 := hbl2.ext hx3)
    | (refine wpList_load_blk rfl 131 (.tmp 2) rfl _ rfl hbm3 _ Try.underlying131 rfl 12 size65 hsm.out ?_))
  have hxx := (hx1.trans hx2).trans hx3
  clear hbm1 hbm2 hbm3 hbl2 hx1 hx2 hx3
  go_loopw [15] (fun i wr => i = .int .i64 0 ∧ Blk wr gl 132 cl ∧ Ext w wr) (fun i _ => 3 - (intOf i).toNat)
  case atStart => exact ⟨rfl, hbl3, hxx⟩
  case round =>
    obtain ⟨rfl, hb1, hx⟩ := hrel
    have hix : ∀ W, (Instr.index 131 (.agg cm) (.int .i64 0)).run Try.prog W = .ok (.agg cr) W := HIR
    go_wp2_with (first
      | (refine wpList_alloc_abs' rfl (some 10) rfl 130 rfl _ HRZ.out ?_; intro w4 gr hbr4 hx4 hgr)
      | (refine wpList_store_blk rfl 130 (.tmp 10) (.tmp 18) rfl _ _ rfl rfl hbr4 4 size64_ hrs.out hz4.out hro.out ?_; intro w5 hbr5 hg5; have hl3 : w5.cell? ⟨gr, 3, none⟩ = some (.int .i64 (mrow m 0)[3]) := (hbr5.cell 3).trans hr3.out; have hbl5 := (hb1.ext hx4).grown hg5 (by have := hb1.lt; simp; omega))
      | (refine wpList_load_blk rfl 132 (.tmp 3) rfl _ rfl hbl5 _ Try.underlying132 rfl 3 size66 hsl.out ?_))
    have hgr' : w.heap.size ≤ gr := by have := hx.size; omega
    have hx5 := (hx.trans hx4).grown hg5 hgr'
    clear hb1 hx hx4 hg5 hbr4
    obtain ⟨b1, b2⟩ := HRB.out _ (List.getElem_mem h3)
    go_loop [11, 22] (fun s j => ∃ n : Nat, n ≤ 3 ∧ j = .int .i64 n ∧ (∃ z : Int, s = .int .i64 z ∧ -(20000000 + n * (20000000 * 255)) ≤ z ∧ z ≤ 20000000 + n * (20000000 * 255)) ∧ ∀ z ∈ l.take n, 0 ≤ z ∧ z ≤ 255) (fun _ j => 3 - (intOf j).toNat)
    case atStart => exact ⟨0, by omega, rfl, ⟨_, rfl, by omega, by omega⟩, by simp⟩
    case round =>
      obtain ⟨n, hn, rfl, ⟨s, rfl, s1, s2⟩, hin⟩ := hrel
      by_cases hlt2 : n < 3
      · have hnl : n < l.length := by have := HL.out; omega
        have hnr : n < (mrow m 0).length := by omega
        have hix2 := run_index66 cl n (.int .i64 l[n]) hlt2 (by rw [← HCL.out]; exact bv_at l n hnl)
        have hrn : w5.cell? ⟨gr, n, none⟩ = some (.int .i64 (mrow m 0)[n]) := (hbr5.cell n).trans (HRK.out n hnr)
        obtain ⟨r1, r2⟩ := HRB.out _ (List.getElem_mem hnr)
        have HIN := hid_ hin
        clear hin
        by_cases h0 : l[n] < 0
        · clear s1 s2
          go_wp2_with fail
          (try simp only [Exit.inBlock, Exit.then]); refine bodyPost_ret (results_tmp4 rfl _ _ _) rfl ?_; exact ⟨rfl, hx5⟩
        · by_cases h1 : 255 < l[n]
          · clear s1 s2
            go_wp2_with fail
            (try simp only [Exit.inBlock, Exit.then]); refine bodyPost_ret (results_tmp4 rfl _ _ _) rfl ?_; exact ⟨rfl, hx5⟩
          · have HN := hid_ (allIn_take HIN.out hnl (lo := 0) (hi := 255) ⟨by omega, by omega⟩)
            generalize (mrow m 0)[n] = x at *
            generalize l[n] = y at *
            have e1 : x * y ≤ 20000000 * y := Int.mul_le_mul_of_nonneg_right r2 (by omega)
            have e3 : -20000000 * y ≤ x * y := Int.mul_le_mul_of_nonneg_right r1 (by omega)
            go_wp2_with fail
            go_round
            case rel => exact ⟨n + 1, by omega, by go_num, ⟨_, rfl, by omega, by omega⟩, HN.out⟩
            case measure => simp [intOf]; omega
      · exfalso
        have := HLB.out
        rw [← Bool.not_eq_true, allIn_iff] at this
        refine this fun z hz => hin z ?_
        rwa [List.take_of_length_le (by have := HL.out; omega)]
def threeZ (m l : List Int) : Int × Int × Int × Int := if allIn l 0 255 then (mval m l 0, mval m l 1, mval m l 2, 0) else (0, 0, 0, 1)
theorem three_any (m l : List Int) (w : World) (hm : m.length = 12) (hl : l.length = 3) (hmb : ∀ z ∈ m, -20000000 ≤ z ∧ z ≤ 20000000) :
    Calls Try.prog 83 #[.agg (bv m), .agg (bv l)] w fun e w' => e = .returned (.tuple #[.int .i64 (threeZ m l).1, .int .i64 (threeZ m l).2.1, .int .i64 (threeZ m l).2.2.1, .int .i64 (threeZ m l).2.2.2]) ∧ Ext w w' := by
  unfold threeZ
  cases h1 : allIn l 0 255 with
  | false => simpa using three_out m l w hm hl hmb h1
  | true => simpa using three_in m l w hm hl hmb h1
end Go.Proofs.Ytkfdkkhhkciocaa
/- tint.To, tint.From, and the reference's. -/
namespace Go.Proofs.Ytkfdkkhhkciocaa
set_option linter.unusedVariables false
set_option linter.unusedSimpArgs false
open Go.RowKit
set_option maxRecDepth 20000
set_option maxHeartbeats 400000 in
theorem tsamples_any (l : List Int) (A : Option Addr) (c : Nat) (w : World) (n : Nat) (hn : l.length = n) (hl : SL w 1 (.slice A n c) n (ints l)) (hb : n ≤ 1000) :
    Calls Try.prog 96 #[.slice A n c] w fun e w' => e = .returned (.bool (allIn l 0 255)) ∧ w = w' := by
  subst hn
  go_enter Try.func96, Try.ntmps96
  go_wp2_with fail
  go_loop [7] (fun i => ∃ k : Nat, k ≤ l.length ∧ i = .int .i64 k ∧ ∀ z ∈ l.take k, 0 ≤ z ∧ z ≤ 255) (fun i => l.length - (intOf i).toNat)
  case atStart => exact ⟨0, by omega, rfl, by simp⟩
  case round =>
    obtain ⟨k, hk, rfl, hin⟩ := hrel
    by_cases hlt : k < l.length
    · obtain ⟨ad, u, rfl, -, hxo, hco⟩ := hl.at1 hlt
      obtain ⟨hko, rfl⟩ := ints_at _ _ _ hxo
      cases hq : inB l[k] 0 255 with
      | true =>
        have HN := hid_ (allIn_take hin hlt (inB_iff.1 hq))
        clear hin hxo
        go_wp2_with (go_at_call 28; refine (outside_any _ _ _ _).mono ?_; rintro e w' ⟨rfl, rfl⟩)
        go_round
        case rel => exact ⟨k + 1, by omega, by go_num, HN.out⟩
        case measure => simp [intOf]; omega
      | false =>
        have HF := hid_ (allIn_no hlt hq)
        clear hin hxo
        go_wp2_with (go_at_call 28; refine (outside_any _ _ _ _).mono ?_; rintro e w' ⟨rfl, rfl⟩)
        go_ret
        exact ⟨by rw [HF.out]; rfl, rfl⟩
    · have HF : Hid (allIn l 0 255 = true) := hid_ (allIn_iff.2 fun z hz => hin z (by rwa [List.take_of_length_le (by omega)]))
      clear hin
      go_wp2_with fail
      go_ret
      exact ⟨by rw [HF.out]; rfl, rfl⟩
theorem sample_any (n : Int) (w : World) (h1 : -1000000000000 ≤ n) (h2 : n ≤ 1000000000000) :
    Calls Try.prog 97 #[.int .i64 n] w fun e w' => e = .returned (.int .i64 (clampZ (rnd n 65536) 0 255)) ∧ w = w' := by
  have HR := hid_ (fun W => rround_any n 65536 W (by omega) (by omega) (by omega) (by omega))
  generalize rnd n 65536 = r at *
  go_enter Try.func97, Try.ntmps97
  go_wp2_with (first
    | (go_at_call 99; (with_reducible refine (HR.out _).mono ?_); rintro e w' ⟨rfl, rfl⟩)
    | (go_at_call 101; refine (clamp_any _ _ _ _).mono ?_; rintro e w' ⟨rfl, rfl⟩))
  go_ret
  exact ⟨rfl, rfl⟩
def toM : List Int := [19595, 38470, 7471, 0, -11059, -21709, 32768, 8388608, 32768, -27439, -5329, 8388608]
theorem tintTo_any (r g b : Int) (w : World) : Calls Try.prog 49 #[.int .i64 r, .int .i64 g, .int .i64 b] w fun e w' => e = .returned (.tuple #[.int .i64 (threeZ toM [r, g, b]).1, .int .i64 (threeZ toM [r, g, b]).2.1, .int .i64 (threeZ toM [r, g, b]).2.2.1, .int .i64 (threeZ toM [r, g, b]).2.2.2]) ∧ Ext w w' := by
  have HT := hid_ (fun W => three_any toM [r, g, b] W rfl rfl (by decide))
  have e1 : bv toM = #[.int .i64 19595, .int .i64 38470, .int .i64 7471, .int .i64 0, .int .i64 (-11059), .int .i64 (-21709), .int .i64 32768, .int .i64 8388608, .int .i64 32768, .int .i64 (-27439), .int .i64 (-5329), .int .i64 8388608] := rfl
  have e2 : bv [r, g, b] = #[.int .i64 r, .int .i64 g, .int .i64 b] := rfl
  rw [e1, e2] at HT
  clear e1 e2
  generalize threeZ toM [r, g, b] = t at *
  go_enter Try.func49, Try.ntmps49
  go_wp2_with (first
    | (go_at_call 83; (with_reducible refine (HT.out _).mono ?_); rintro e w1 ⟨rfl, hx1⟩))
  (try simp only [Exit.inBlock, Exit.then]); refine bodyPost_ret (results_tmp4 rfl _ _ _) rfl ?_; exact ⟨rfl, hx1⟩
theorem rtintTo_any (r g b : Int) (w : World) : Calls Try.prog 55 #[.int .i64 r, .int .i64 g, .int .i64 b] w fun e w' => e = .returned (.tuple #[.int .i64 (threeZ toM [r, g, b]).1, .int .i64 (threeZ toM [r, g, b]).2.1, .int .i64 (threeZ toM [r, g, b]).2.2.1, .int .i64 (threeZ toM [r, g, b]).2.2.2]) ∧ Ext w w' := by
  have HS := hid_ (fun W A c (h : SL W 1 (.slice A 3 c) 3 (ints [r, g, b])) => tsamples_any [r, g, b] A c W 3 rfl h (by omega))
  have HSL := hid_ (fun (W : World) => (Blk.new W 3 #[.int .i64 r, .int .i64 g, .int .i64 b]).sl (size := 1) (n := 3) (c := 3) rfl (by omega) (by omega))
  cases hq : allIn [r, g, b] 0 255 with
  | true =>
    rw [hq] at HS
    have hb := allIn_iff.1 hq
    obtain ⟨r1, r2⟩ := hb r (by simp)
    obtain ⟨g1, g2⟩ := hb g (by simp)
    obtain ⟨b1, b2⟩ := hb b (by simp)
    have e0 : mval toM [r, g, b] 0 = clampZ (rnd (19595 * r + 38470 * g + 7471 * b) 65536) 0 255 := by
      unfold mval msum mrow toM; simp; congr 2; omega
    have e1 : mval toM [r, g, b] 1 = clampZ (rnd (8388608 + 32768 * b - 11059 * r - 21709 * g) 65536) 0 255 := by
      unfold mval msum mrow toM; simp; congr 2; omega
    have e2 : mval toM [r, g, b] 2 = clampZ (rnd (8388608 + 32768 * r - 27439 * g - 5329 * b) 65536) 0 255 := by
      unfold mval msum mrow toM; simp; congr 2; omega
    have HF := hid_ (show threeZ toM [r, g, b] = (clampZ (rnd (19595 * r + 38470 * g + 7471 * b) 65536) 0 255, clampZ (rnd (8388608 + 32768 * b - 11059 * r - 21709 * g) 65536) 0 255, clampZ (rnd (8388608 + 32768 * r - 27439 * g - 5329 * b) 65536) 0 255, 0) by unfold threeZ; rw [if_pos hq, e0, e1, e2])
    clear e0 e1 e2 hb hq
    rw [HF.out]
    have H0 := hid_ (fun W => sample_any (19595 * r + 38470 * g + 7471 * b) W (by omega) (by omega))
    have H1 := hid_ (fun W => sample_any (8388608 + 32768 * b - 11059 * r - 21709 * g) W (by omega) (by omega))
    have H2 := hid_ (fun W => sample_any (8388608 + 32768 * r - 27439 * g - 5329 * b) W (by omega) (by omega))
    generalize clampZ (rnd (19595 * r + 38470 * g + 7471 * b) 65536) 0 255 = z0 at *
    generalize clampZ (rnd (8388608 + 32768 * b - 11059 * r - 21709 * g) 65536) 0 255 = z1 at *
    generalize clampZ (rnd (8388608 + 32768 * r - 27439 * g - 5329 * b) 65536) 0 255 = z2 at *
    go_enter Try.func55, Try.ntmps55
    go_wp2_with (first
      | (go_at_call 96; (with_reducible refine (HS.out _ _ _ (HSL.out _)).mono ?_); rintro e w1 ⟨rfl, rfl⟩)
      | (go_at_call 97; (with_reducible refine (H0.out _).mono ?_); rintro e w1 ⟨rfl, rfl⟩)
      | (go_at_call 97; (with_reducible refine (H1.out _).mono ?_); rintro e w1 ⟨rfl, rfl⟩)
      | (go_at_call 97; (with_reducible refine (H2.out _).mono ?_); rintro e w1 ⟨rfl, rfl⟩))
    (try simp only [Exit.inBlock, Exit.then]); refine bodyPost_ret (results_tmp4 rfl _ _ _) rfl ?_; exact ⟨rfl, (Ext.refl w).alloc _⟩
  | false =>
    rw [hq] at HS
    have HF := hid_ (show threeZ toM [r, g, b] = (0, 0, 0, 1) by unfold threeZ; rw [hq]; rfl)
    rw [HF.out]
    clear hq
    go_enter Try.func55, Try.ntmps55
    go_wp2_with (go_at_call 96; (with_reducible refine (HS.out _ _ _ (HSL.out _)).mono ?_); rintro e w1 ⟨rfl, rfl⟩)
    (try simp only [Exit.inBlock, Exit.then]); refine bodyPost_ret (results_tmp4 rfl _ _ _) rfl ?_; exact ⟨rfl, (Ext.refl w).alloc _⟩
end Go.Proofs.Ytkfdkkhhkciocaa
/- Steps of a drawn region's one walk, at a class of worlds of one's own choosing. -/
namespace Go.Proofs.Ytkfdkkhhkciocaa
set_option linter.unusedVariables false
set_option linter.unusedSimpArgs false
open Go.RowKit
section
variable {P : Program} {ops : Array Oper} {C : World → Prop} {Q : Act → Prop} {a : Act} {o : Oper} {rest : List Oper}
theorem q_at (hw : Region.wanted o (yielded ops a.tmps) = true) (v : Value) (hq : ∀ w, C w → o.quietAt P a C w v) (h : wpQuiet P ops C Q rest (a.put o.dst v)) : wpQuiet P ops C Q (o :: rest) a := by
  refine wpQuiet_step fun K hK => ?_
  rw [if_pos hw]
  exact ⟨v, hq, hK _ h⟩
theorem q_skip (hw : Region.wanted o (yielded ops a.tmps) = false) (h : wpQuiet P ops C Q rest (a.put o.dst undef)) : wpQuiet P ops C Q (o :: rest) a := by
  refine wpQuiet_step fun K hK => ?_
  rw [if_neg (by rw [hw]; simp)]
  exact hK _ h
theorem q_run (hw : Region.wanted o (yielded ops a.tmps) = true) (v : Value) (hq : ∀ w, (execOp a.eval o).run P w = .ok (.value v) w) (h : wpQuiet P ops C Q rest (a.put o.dst v)) : wpQuiet P ops C Q (o :: rest) a :=
  q_at hw v (fun w _ => by unfold Oper.quietAt; rw [hq]; exact ⟨rfl, rfl⟩) h
theorem q_move (hw : Region.wanted o (yielded ops a.tmps) = true) (x : Operand) (ho : o.op = .move x) (v : Value) (hx : a.eval x = v) (h : wpQuiet P ops C Q rest (a.put o.dst v)) : wpQuiet P ops C Q (o :: rest) a :=
  q_run hw _ (fun w => by simp [execOp, ho, hx]) h
theorem q_assign (hw : Region.wanted o (yielded ops a.tmps) = true) (x : Operand) (ho : o.op = .assign x) (v : Value) (hx : a.eval x = v) (h : wpQuiet P ops C Q rest (a.put o.dst v)) : wpQuiet P ops C Q (o :: rest) a :=
  q_run hw _ (fun w => by simp [execOp, ho, hx]) h
theorem q_pick (hw : Region.wanted o (yielded ops a.tmps) = true) (c x y : Operand) (ho : o.op = .pick c x y) (b : Bool) (hb : a.eval c = .bool b) (v : Value) (hv : (if b then a.eval x else a.eval y) = v) (h : wpQuiet P ops C Q rest (a.put o.dst v)) : wpQuiet P ops C Q (o :: rest) a :=
  q_run hw _ (fun w => by subst hv; simp [execOp, ho, hb, asBool]) h
theorem q_load_blk (hw : Region.wanted o (yielded ops a.tmps) = true) (ty : TypeId) (x : Operand) (ho : o.op = .load ty x) (g : Nat) (hx : a.eval x = .pointer (some ⟨g, 0, none⟩))
    {t : TypeId} {cs : Array Value} (hB : ∀ w, C w → Blk w g t cs) (d : TypeDesc) (hu : P.underlying ty = some d) (hd : (match d with | .struct _ | .array _ _ => true | _ => false) = true)
    (n : Nat) (hs : (P.info? ty).map (·.size) = some n) (hn : cs.size = n) (h : wpQuiet P ops C Q rest (a.put o.dst (.agg cs))) : wpQuiet P ops C Q (o :: rest) a := by
  refine q_at hw _ (fun w hC => ?_) h
  unfold Oper.quietAt execOp
  simp only [ho, hx, Instr.loadAt, Instr.sureAddr, Sem.run_bind, Sem.run_pure, Result.andThen_ok, run_loadVar_row w g t ty cs (0, 0) d (hB w hC) hu hd (by rw [hn]; exact hs)]
  exact ⟨rfl, rfl⟩
theorem q_call (hw : Region.wanted o (yielded ops a.tmps) = true) (f : FuncId) (args : Array Value) (he : ∀ w, (execOp a.eval o).run P w = .ok (.enter f args) w) (v : Value)
    (hc : ∀ w, C w → Calls P f args w fun e w' => e = .returned v ∧ C w') (h : wpQuiet P ops C Q rest (a.put o.dst v)) : wpQuiet P ops C Q (o :: rest) a := by
  refine q_at hw v (fun w hC => ?_) h
  unfold Oper.quietAt
  rw [he]
  exact ⟨rfl, hc w hC⟩
theorem q_callF (hw : Region.wanted o (yielded ops a.tmps) = true) (f : FuncId) {fn : Func} (hf : P.funcs[f]? = some fn) (hname : (fn.name == "runtime.NumGoroutine") = false) (hb : fn.body.isSome = true) (xs : Array Operand) (ts : Array TypeId)
    (ho : o.op = .call { callee := .value (.func f), args := xs, argTypes := ts }) (args : Array Value) (hx : xs.map a.eval = args) (v : Value)
    (hc : ∀ w, C w → Calls P f args w fun e w' => e = .returned v ∧ C w') (h : wpQuiet P ops C Q rest (a.put o.dst v)) : wpQuiet P ops C Q (o :: rest) a := by
  obtain ⟨c, hb⟩ := Option.isSome_iff_exists.1 hb
  have hn : ¬ fn.name = "runtime.NumGoroutine" := by simpa using hname
  refine q_call hw f args (fun w => ?_) v hc h
  have he : a.eval (.func f) = .func (.func f) #[] #[] := rfl
  simp [execOp, ho, resolve, hx, he, Deferred.ofValue, invoke, callFunc, hf, hb, hn]
theorem q_index (hw : Region.wanted o (yielded ops a.tmps) = true) (t : TypeId) (x ix : Operand) (ho : o.op = .index t x ix) (vx vi : Value) (hx : a.eval x = vx) (hi : a.eval ix = vi) (v : Value) (hr : ∀ w, (Instr.index t vx vi).run P w = .ok v w) (h : wpQuiet P ops C Q rest (a.put o.dst v)) : wpQuiet P ops C Q (o :: rest) a :=
  q_run hw v (fun w => by simp [execOp, ho, hx, hi, hr]) h
theorem q_binOp (hw : Region.wanted o (yielded ops a.tmps) = true) (op : BinOp) (t : TypeId) (x y : Operand) (t2 : TypeId) (ho : o.op = .binOp op t x y t2) (vx vy : Value) (hx : a.eval x = vx) (hy : a.eval y = vy) (v : Value)
    (hg : ∀ w, (eqGuard op t x y vx vy).run P w = .ok () w) (hr : ∀ w, (binOp op t vx vy).run P w = .ok v w) (h : wpQuiet P ops C Q rest (a.put o.dst v)) : wpQuiet P ops C Q (o :: rest) a :=
  q_run hw v (fun w => by simp [execOp, ho, hx, hy, hg, hr]) h
theorem q_build (hw : Region.wanted o (yielded ops a.tmps) = true) (t : TypeId) (parts : Array (Nat × Operand)) (ho : o.op = .build t parts) (cs : Array Value) (hf : P.built t (parts.map fun (i, x) => (i, a.eval x)).toList = some cs)
    (h : wpQuiet P ops C Q rest (a.put o.dst (.agg cs))) : wpQuiet P ops C Q (o :: rest) a := by
  exact q_run hw _ (fun w => by simp only [execOp, ho, Sem.run_bind, run_build w t _ cs hf, Result.andThen_ok, Sem.run_pure]) h
end
end Go.Proofs.Ytkfdkkhhkciocaa
