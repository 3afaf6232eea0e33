/- tint.three. -/
import Derived.Deep.QuietTactic
import Derived.BigQuiet
import Derived.Test.YtpkaimpidhcoiaaBlocks
import Derived.Test.YtpkaimpidhcoiaaQuantRound
namespace Go.Proofs.Ytpkaimpidhcoiaa
set_option linter.unusedVariables false
set_option linter.unusedSimpArgs false
open Go.RowKit
theorem size65 : (Try.prog.info? 37).map (·.size) = some 12 := by kernel_rfl
theorem size64_ : (Try.prog.info? 36).map (·.size) = some 4 := by kernel_rfl
theorem size66 : (Try.prog.info? 38).map (·.size) = some 3 := by kernel_rfl
theorem zero66 : (Try.prog.info? 38).bind (·.zero) = some (.agg (bv [0, 0, 0])) := by kernel_rfl
theorem zero64_ : (Try.prog.info? 36).bind (·.zero) = some (.agg (bv [0, 0, 0, 0])) := by kernel_rfl
theorem results_tmp4 {fn : Func} {t u v x : Tmp} (h : fn.results = #[.tmp t, .tmp u, .tmp v, .tmp x]) (tmps : Array Value) (P : Program) (w : World) :
    (results fn tmps).run P w = .ok (.tuple #[tmps.getD t undef, tmps.getD u undef, tmps.getD v undef, tmps.getD x undef]) w := by
  simp [results, h]
/-- row i of the matrix -/
def mrow (m : List Int) (i : Nat) : List Int := (m.drop (i * 4)).take 4
def msum (m l : List Int) (i : Nat) (k : Nat) : Int := (mrow m i).getD 3 0 + (List.zipWith (· * ·) ((mrow m i).take k) (l.take k)).sum
def mval (m l : List Int) (i : Nat) : Int := clampZ (rnd (msum m l i 3) 65536) 0 255
theorem mrow_len (m : List Int) (hm : m.length = 12) (i : Nat) (hi : i < 3) : (mrow m i).length = 4 := by simp [mrow]; omega
theorem mrow_bd (m : List Int) (M : Int) (hb : ∀ z ∈ m, -M ≤ z ∧ z ≤ M) (i : Nat) : ∀ z ∈ mrow m i, -M ≤ z ∧ z ≤ M :=
  fun z hz => hb z (List.mem_of_mem_drop (List.mem_of_mem_take hz))
theorem msum_succ (m l : List Int) (i k : Nat) (h1 : k < (mrow m i).length) (h2 : k < l.length) : msum m l i (k + 1) = msum m l i k + (mrow m i)[k] * l[k] := by
  unfold msum
  rw [List.take_succ_eq_append_getElem h1, List.take_succ_eq_append_getElem h2, List.zipWith_append (by simp; omega)]
  simp; omega
theorem msum_bd (m l : List Int) (M : Int) (hM : 0 ≤ M) (hb : ∀ z ∈ m, -M ≤ z ∧ z ≤ M) (hm : m.length = 12) (hl : l.length = 3) (hlb : allIn l 0 255 = true) (i : Nat) (hi : i < 3) :
    ∀ k, k ≤ 3 → -(M + k * (M * 255)) ≤ msum m l i k ∧ msum m l i k ≤ M + k * (M * 255) := by
  intro k
  have hrl := mrow_len m hm i hi
  induction k with
  | zero =>
    intro _
    have h3 : 3 < (mrow m i).length := by omega
    have : msum m l i 0 = (mrow m i)[3] := by simp [msum, h3]
    have := mrow_bd m M hb i _ (List.getElem_mem h3)
    omega
  | succ k ih =>
    intro hk
    have h1 : k < (mrow m i).length := by omega
    have h2 : k < l.length := by omega
    have := ih (by omega)
    rw [msum_succ m l i k h1 h2]
    obtain ⟨a1, a2⟩ := mrow_bd m M hb i _ (List.getElem_mem h1)
    obtain ⟨b1, b2⟩ := allIn_iff.1 hlb _ (List.getElem_mem h2)
    generalize (mrow m i)[k] = x at *
    generalize l[k] = y at *
    have e1 : x * y ≤ M * y := Int.mul_le_mul_of_nonneg_right a2 b1
    have e2 : M * y ≤ M * 255 := Int.mul_le_mul_of_nonneg_left b2 hM
    have e3 : -M * y ≤ x * y := Int.mul_le_mul_of_nonneg_right a1 b1
    rw [Int.neg_mul] at e3
    have e4 : ((k + 1 : Nat) : Int) * (M * 255) = k * (M * 255) + M * 255 := by rw [Int.natCast_succ, Int.add_mul, Int.one_mul]
    omega
theorem run_index_row (m : List Int) (i : Nat) (hi : i < 3) (w : World) : (Instr.index 37 (.agg (bv m)) (.int .i64 (i : Int))).run Try.prog w = .ok (.agg (bv (mrow m i))) w := by
  have hc : ((0 : Int) ≤ (i : Int) ∧ (i : Int) < ((3 : Nat) : Int)) = True := by simp; omega
  have hso : (sizeOf 36).run Try.prog w = .ok 4 w := by
    cases hq : Try.prog.info? 36 with
    | none => have := size64_; simp [hq] at this
    | some inf =>
      have : inf.size = 4 := by have := size64_; simpa [hq] using this
      simp [sizeOf, typeInfo, hq, this]
  have e : (bv m).extract (i * 4) (i * 4 + 4) = bv (mrow m i) := by
    simp [bv, ints, mrow, List.extract_toArray, List.extract_eq_take_drop, List.map_take, List.map_drop]
  simp only [Instr.index, asIntOf, Sem.run_bind, Sem.run_pure, Result.andThen_ok, run_underlying Try.underlying37, hc, if_true]
  simp [part, hso, e]
theorem mvals_set (m l : List Int) (i : Nat) (hi : i < 3) : ((List.range i).map (mval m l) ++ List.replicate (3 - i) 0).set i (mval m l i) = (List.range (i + 1)).map (mval m l) ++ List.replicate (3 - (i + 1)) 0 := by
  have hl : ((List.range i).map (mval m l)).length = i := by simp
  rw [List.set_append_right _ _ (by omega), hl, Nat.sub_self]
  obtain ⟨j, hj⟩ : ∃ j, 3 - i = j + 1 := ⟨3 - i - 1, by omega⟩
  have hj2 : 3 - (i + 1) = j := by omega
  rw [hj, hj2, List.replicate_succ, List.set_cons_zero, List.range_succ, List.map_append]
  simp
theorem run_index66 (cs : Array Value) (i : Nat) (u : Value) (hi : i < 3) (hu : cs[i]? = some u) (w : World) : (Instr.index 38 (.agg cs) (.int .i64 (i : Int))).run Try.prog w = .ok u w :=
  run_index_agg _ _ 3 cs i u Try.underlying38 _ Try.underlying3 sizeInt hi hu w
set_option maxHeartbeats 800000 in
theorem three_in (m l : List Int) (w : World) (hm : m.length = 12) (hl : l.length = 3) (hmb : ∀ z ∈ m, -20000000 ≤ z ∧ z ≤ 20000000) (hlb : allIn l 0 255 = true) :
    Calls Try.prog 20 #[.agg (bv m), .agg (bv l)] w fun e w' => e = .returned (.tuple #[.int .i64 (mval m l 0), .int .i64 (mval m l 1), .int .i64 (mval m l 2), .int .i64 0]) ∧ Ext w w' := by
  have HL := hid_ hl
  have HLB := hid_ (allIn_iff.1 hlb)
  have hsm := hid_ ((bv_size m).trans hm)
  have hsl := hid_ ((bv_size l).trans hl)
  have HRL := hid_ (fun i hi => mrow_len m hm i hi)
  have HRB := hid_ (mrow_bd m 20000000 hmb)
  have HSB := hid_ (msum_bd m l 20000000 (by omega) hmb hm hl hlb)
  have HIR := hid_ (fun i hi W => run_index_row m i hi W)
  generalize hcm : bv m = cm at *
  generalize hcl : bv l = cl at *
  have HCL := hid_ hcl
  clear hcm hcl hm hl hmb hlb
  go_enter Try.func20, Try.ntmps20
  go_wp2_with (first
    | (refine wpList_box_abs rfl 37 (.tmp 0) rfl cm rfl ?_; intro w1 gm hbm1 hx1 hgm)
    | (refine wpList_box_abs rfl 38 (.tmp 1) rfl cl rfl ?_; intro w2 gl hbl2 hx2 hgl; have hbm2 := hbm1.ext hx2)
    | (refine wpList_alloc_abs' rfl (some 8) rfl 38 rfl _ zero66 ?_; intro w3 go hbo3 hx3 hgo; have hbm3 := hbm2.ext hx3; have hbl3 := hbl2.ext hx3)
    | (refine wpList_load_blk rfl 37 (.tmp 2) rfl _ rfl hbm3 _ Try.underlying37 rfl 12 size65 hsm.out ?_))
  have hne : go ≠ gl := by have := hbl2.lt; omega
  have hgo' : w.heap.size ≤ go := by have := hx1.size; have := hx2.size; omega
  have hxx := (hx1.trans hx2).trans hx3
  clear hbm1 hbm2 hbm3 hbl2 hx1 hx2 hx3
  go_loopw [15] (fun i wr => ∃ k : Nat, k ≤ 3 ∧ i = .int .i64 k ∧ Blk wr gl 38 cl ∧ Blk wr go 38 (bv ((List.range k).map (mval m l) ++ List.replicate (3 - k) 0)) ∧ Ext w wr) (fun i _ => 3 - (intOf i).toNat)
  case atStart => exact ⟨0, by omega, rfl, hbl3, hbo3, hxx⟩
  case round =>
    obtain ⟨k, hk, rfl, hb1, hb2, hx⟩ := hrel
    by_cases hlt : k < 3
    · have hix := HIR.out k hlt
      have hrl := HRL.out k hlt
      have hrs := hid_ ((bv_size (mrow m k)).trans hrl)
      have hro := hid_ (bv_one (mrow m k))
      have hz4 : Hid ((Value.agg (bv [0, 0, 0, 0])).cells.size = 4) := hid_ rfl
      have hrz := zero64_
      have HRZ := hid_ hrz
      have h3 : 3 < (mrow m k).length := by omega
      have hr3 := hid_ (bv_at (mrow m k) 3 h3)
      have HRK := hid_ (fun j (hj : j < (mrow m k).length) => bv_at (mrow m k) j hj)
      clear hrz
      generalize bv (mrow m k) = cr at *
      go_wp2_with (first
        | (refine wpList_alloc_abs' rfl (some 10) rfl 36 rfl _ HRZ.out ?_; intro w4 gr hbr4 hx4 hgr)
        | (refine wpList_store_blk rfl 36 (.tmp 10) (.tmp 18) rfl _ _ rfl rfl hbr4 4 size64_ hrs.out hz4.out hro.out ?_; intro w5 hbr5 hg5; have hl3 : w5.cell? ⟨gr, 3, none⟩ = some (.int .i64 (mrow m k)[3]) := (hbr5.cell 3).trans hr3.out; have hbl5 := (hb1.ext hx4).grown hg5 (by have := hb1.lt; simp; omega); have hbo5 := (hb2.ext hx4).grown hg5 (by have := hb2.lt; simp; omega))
        | (refine wpList_load_blk rfl 38 (.tmp 3) rfl _ rfl hbl5 _ Try.underlying38 rfl 3 size66 hsl.out ?_))
      have hgr' : w.heap.size ≤ gr := by have := hx.size; omega
      have hx5 := (hx.trans hx4).grown hg5 hgr'
      clear hb1 hb2 hx hx4 hg5 hbr4
      have hs0 : msum m l k 0 = (mrow m k)[3] := by simp [msum, h3]
      have HS0 := hid_ hs0
      clear hs0
      go_loop [11, 22] (fun s j => ∃ n : Nat, n ≤ 3 ∧ j = .int .i64 n ∧ s = .int .i64 (msum m l k n)) (fun _ j => 3 - (intOf j).toNat)
      case atStart => exact ⟨0, by omega, rfl, by rw [HS0.out]⟩
      case round =>
        obtain ⟨n, hn, rfl, rfl⟩ := hrel
        by_cases hlt2 : n < 3
        · have hnl : n < l.length := by have := HL.out; omega
          have hnr : n < (mrow m k).length := by omega
          have hix2 := run_index66 cl n (.int .i64 l[n]) hlt2 (by rw [← HCL.out]; exact bv_at l n hnl)
          have hrn : w5.cell? ⟨gr, n, none⟩ = some (.int .i64 (mrow m k)[n]) := (hbr5.cell n).trans (HRK.out n hnr)
          obtain ⟨l1, l2⟩ := HLB.out _ (List.getElem_mem hnl)
          obtain ⟨r1, r2⟩ := HRB.out k _ (List.getElem_mem hnr)
          obtain ⟨s1, s2⟩ := HSB.out k hlt n hn
          have HN := hid_ (msum_succ m l k n hnr hnl)
          generalize (mrow m k)[n] = x at *
          generalize l[n] = y at *
          have e1 : x * y ≤ 20000000 * y := Int.mul_le_mul_of_nonneg_right r2 l1
          have e3 : -20000000 * y ≤ x * y := Int.mul_le_mul_of_nonneg_right r1 l1
          generalize msum m l k n = s at *
          go_wp2_with fail
          go_round
          case rel => exact ⟨n + 1, by omega, by go_num, by rw [HN.out]⟩
          case measure => simp [intOf]; omega
        · obtain rfl : n = 3 := by omega
          obtain ⟨s1, s2⟩ := HSB.out k hlt 3 hn
          obtain ⟨q1, q2⟩ := rnd_bounds (msum m l k 3) 65536 (by omega)
          have HR := hid_ (fun W => round_any (msum m l k 3) 65536 W (by omega) (by omega) (by omega) (by omega))
          have HM : Hid ((if 255 < (if rnd (msum m l k 3) 65536 < 0 then 0 else rnd (msum m l k 3) 65536) then 255 else (if rnd (msum m l k 3) 65536 < 0 then 0 else rnd (msum m l k 3) 65536)) = mval m l k) := hid_ (by unfold mval clampZ; (repeat' split) <;> omega)
          obtain ⟨old, hold⟩ : ∃ u, w5.cell? ⟨go, k, none⟩ = some u := by
            rw [hbo5.cell k]
            have hl : ((List.range k).map (mval m l) ++ List.replicate (3 - k) 0).length = 3 := by simp; omega
            exact ⟨_, bv_at _ k (by omega)⟩
          have hfr := hbo5.frozen k
          generalize rnd (msum m l k 3) 65536 = r at *
          generalize msum m l k 3 = s at *
          go_wp2_with (go_at_call 32; (with_reducible refine (HR.out _).mono ?_); rintro e w' ⟨rfl, rfl⟩)
          rw [HM.out]
          go_roundw
          case rel =>
            refine ⟨k + 1, by omega, by go_num, hbl5.far (p := ⟨go, k, none⟩) (by simpa using hne.symm) _, ?_, hx5.setCell (by omega) _⟩
            have := hbo5.set_ k (.int .i64 (mval m l k))
            rw [bv_set, mvals_set m l k hlt] at this
            exact this
          case measure => simp [intOf]; omega
    · have ek : k = 3 := by omega
      rw [ek] at hb2
      have hc0 : wr.cell? ⟨go, 0, none⟩ = some (.int .i64 (mval m l 0)) := (hb2.cell 0).trans (by rfl)
      have hc1 : wr.cell? ⟨go, 1, none⟩ = some (.int .i64 (mval m l 1)) := (hb2.cell 1).trans (by rfl)
      have hc2 : wr.cell? ⟨go, 2, none⟩ = some (.int .i64 (mval m l 2)) := (hb2.cell 2).trans (by rfl)
      go_wp2_with fail
      go_quiet (fail)
      go_wp2_with fail
      (try simp only [Exit.inBlock, Exit.then]); refine bodyPost_ret (results_tmp4 rfl _ _ _) rfl ?_; exact ⟨rfl, hx.trans (below_drewN (Ext.refl wr) nq)⟩
set_option maxHeartbeats 800000 in
theorem three_out (m l : List Int) (w : World) (hm : m.length = 12) (hl : l.length = 3) (hmb : ∀ z ∈ m, -20000000 ≤ z ∧ z ≤ 20000000) (hlb : allIn l 0 255 = false) :
    Calls Try.prog 20 #[.agg (bv m), .agg (bv l)] w fun e w' => e = .returned (.tuple #[.int .i64 0, .int .i64 0, .int .i64 0, .int .i64 1]) ∧ Ext w w' := by
  have HL := hid_ hl
  have HLB := hid_ hlb
  have hsm := hid_ ((bv_size m).trans hm)
  have hsl := hid_ ((bv_size l).trans hl)
  have hrl := mrow_len m hm 0 (by omega)
  have HRB := hid_ (mrow_bd m 20000000 hmb 0)
  have HIR := fun W => run_index_row m 0 (by omega) W
  generalize hcm : bv m = cm at *
  generalize hcl : bv l = cl at *
  have HCL := hid_ hcl
  clear hcm hcl hm hl hmb hlb
  have hrs := hid_ ((bv_size (mrow m 0)).trans hrl)
  have hro := hid_ (bv_one (mrow m 0))
  have hz4 : Hid ((Value.agg (bv [0, 0, 0, 0])).cells.size = 4) := hid_ rfl
  have hrz := zero64_
  have HRZ := hid_ hrz
  have h3 : 3 < (mrow m 0).length := by omega
  have hr3 := hid_ (bv_at (mrow m 0) 3 h3)
  have HRK := hid_ (fun j (hj : j < (mrow m 0).length) => bv_at (mrow m 0) j hj)
  clear hrz
  generalize bv (mrow m 0) = cr at *
  go_enter Try.func20, Try.ntmps20
  go_wp2_with (first
    | (refine wpList_box_abs rfl 37 (.tmp 0) rfl cm rfl ?_; intro w1 gm hbm1 hx1 hgm)
    | (refine wpList_box_abs rfl 38 (.tmp 1) rfl cl rfl ?_; intro w2 gl hbl2 hx2 hgl; have hbm2 := hbm1.ext hx2)
    | (refine wpList_alloc_abs' rfl (some 8) rfl 38 rfl _ zero66 ?_; intro w3 go hbo3 hx3 hgo; have hbm3 := hbm2.ext hx3; have hbl3 := hbl2.ext hx3)
    | (refine wpList_load_blk rfl 37 (.tmp 2) rfl _ rfl hbm3 _ Try.underlying37 rfl 12 size65 hsm.out ?_))
  have hxx := (hx1.trans hx2).trans hx3
  clear hbm1 hbm2 hbm3 hbl2 hx1 hx2 hx3
  go_loopw [15] (fun i wr => i = .int .i64 0 ∧ Blk wr gl 38 cl ∧ Ext w wr) (fun i _ => 3 - (intOf i).toNat)
  case atStart => exact ⟨rfl, hbl3, hxx⟩
  case round =>
    obtain ⟨rfl, hb1, hx⟩ := hrel
    have hix : ∀ W, (Instr.index 37 (.agg cm) (.int .i64 0)).run Try.prog W = .ok (.agg cr) W := HIR
    go_wp2_with (first
      | (refine wpList_alloc_abs' rfl (some 10) rfl 36 rfl _ HRZ.out ?_; intro w4 gr hbr4 hx4 hgr)
      | (refine wpList_store_blk rfl 36 (.tmp 10) (.tmp 18) rfl _ _ rfl rfl hbr4 4 size64_ hrs.out hz4.out hro.out ?_; intro w5 hbr5 hg5; have hl3 : w5.cell? ⟨gr, 3, none⟩ = some (.int .i64 (mrow m 0)[3]) := (hbr5.cell 3).trans hr3.out; have hbl5 := (hb1.ext hx4).grown hg5 (by have := hb1.lt; simp; omega))
      | (refine wpList_load_blk rfl 38 (.tmp 3) rfl _ rfl hbl5 _ Try.underlying38 rfl 3 size66 hsl.out ?_))
    have hgr' : w.heap.size ≤ gr := by have := hx.size; omega
    have hx5 := (hx.trans hx4).grown hg5 hgr'
    clear hb1 hx hx4 hg5 hbr4
    obtain ⟨b1, b2⟩ := HRB.out _ (List.getElem_mem h3)
    go_loop [11, 22] (fun s j => ∃ n : Nat, n ≤ 3 ∧ j = .int .i64 n ∧ (∃ z : Int, s = .int .i64 z ∧ -(20000000 + n * (20000000 * 255)) ≤ z ∧ z ≤ 20000000 + n * (20000000 * 255)) ∧ ∀ z ∈ l.take n, 0 ≤ z ∧ z ≤ 255) (fun _ j => 3 - (intOf j).toNat)
    case atStart => exact ⟨0, by omega, rfl, ⟨_, rfl, by omega, by omega⟩, by simp⟩
    case round =>
      obtain ⟨n, hn, rfl, ⟨s, rfl, s1, s2⟩, hin⟩ := hrel
      by_cases hlt2 : n < 3
      · have hnl : n < l.length := by have := HL.out; omega
        have hnr : n < (mrow m 0).length := by omega
        have hix2 := run_index66 cl n (.int .i64 l[n]) hlt2 (by rw [← HCL.out]; exact bv_at l n hnl)
        have hrn : w5.cell? ⟨gr, n, none⟩ = some (.int .i64 (mrow m 0)[n]) := (hbr5.cell n).trans (HRK.out n hnr)
        obtain ⟨r1, r2⟩ := HRB.out _ (List.getElem_mem hnr)
        have HIN := hid_ hin
        clear hin
        by_cases h0 : l[n] < 0
        · clear s1 s2
          go_wp2_with fail
          (try simp only [Exit.inBlock, Exit.then]); refine bodyPost_ret (results_tmp4 rfl _ _ _) rfl ?_; exact ⟨rfl, hx5⟩
        · by_cases h1 : 255 < l[n]
          · clear s1 s2
            go_wp2_with fail
            (try simp only [Exit.inBlock, Exit.then]); refine bodyPost_ret (results_tmp4 rfl _ _ _) rfl ?_; exact ⟨rfl, hx5⟩
          · have HN := hid_ (allIn_take HIN.out hnl (lo := 0) (hi := 255) ⟨by omega, by omega⟩)
            generalize (mrow m 0)[n] = x at *
            generalize l[n] = y at *
            have e1 : x * y ≤ 20000000 * y := Int.mul_le_mul_of_nonneg_right r2 (by omega)
            have e3 : -20000000 * y ≤ x * y := Int.mul_le_mul_of_nonneg_right r1 (by omega)
            go_wp2_with fail
            go_round
            case rel => exact ⟨n + 1, by omega, by go_num, ⟨_, rfl, by omega, by omega⟩, HN.out⟩
            case measure => simp [intOf]; omega
      · exfalso
        have := HLB.out
        rw [← Bool.not_eq_true, allIn_iff] at this
        refine this fun z hz => hin z ?_
        rwa [List.take_of_length_le (by have := HL.out; omega)]
def threeZ (m l : List Int) : Int × Int × Int × Int := if allIn l 0 255 then (mval m l 0, mval m l 1, mval m l 2, 0) else (0, 0, 0, 1)
theorem three_any (m l : List Int) (w : World) (hm : m.length = 12) (hl : l.length = 3) (hmb : ∀ z ∈ m, -20000000 ≤ z ∧ z ≤ 20000000) :
    Calls Try.prog 20 #[.agg (bv m), .agg (bv l)] w fun e w' => e = .returned (.tuple #[.int .i64 (threeZ m l).1, .int .i64 (threeZ m l).2.1, .int .i64 (threeZ m l).2.2.1, .int .i64 (threeZ m l).2.2.2]) ∧ Ext w w' := by
  unfold threeZ
  cases h1 : allIn l 0 255 with
  | false => simpa using three_out m l w hm hl hmb h1
  | true => simpa using three_in m l w hm hl hmb h1
end Go.Proofs.Ytpkaimpidhcoiaa
