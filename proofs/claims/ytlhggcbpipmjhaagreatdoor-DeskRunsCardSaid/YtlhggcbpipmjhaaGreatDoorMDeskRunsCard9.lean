/- Contracts for the law DeskRunsCard, part 9: what the functions that it reaches answer, for all arguments that the theorems name. -/
import Derived.Deep.QuietTactic
import Derived.BigQuiet
import Derived.Test.YtlhggcbpipmjhaaGreatDoorMDeskRunsCard7
import Derived.Test.YtlhggcbpipmjhaaGreatDoorMDeskRunsCard8
import Derived.Test.YtlhggcbpipmjhaaGreatDoorMDeskRunsCard1
import Derived.Test.YtlhggcbpipmjhaaGreatDoorMDeskRunsCard4
import Derived.Test.YtlhggcbpipmjhaaGreatDoorMDeskRunsCard2
import Derived.Test.YtlhggcbpipmjhaaGreatDoorMDeskRunsCard6
namespace Go.Proofs.YtlhggcbpipmjhaaGreatDoor
set_option linter.unusedVariables false
set_option linter.unusedSimpArgs false
open Go.RowKit
set_option maxRecDepth 20000
theorem size65 : (Tryz.prog.info? 101).map (·.size) = some 12 := by kernel_rfl
theorem size64_ : (Tryz.prog.info? 100).map (·.size) = some 4 := by kernel_rfl
theorem size66 : (Tryz.prog.info? 102).map (·.size) = some 3 := by kernel_rfl
theorem zero66 : (Tryz.prog.info? 102).bind (·.zero) = some (.agg (bv [0, 0, 0])) := by kernel_rfl
theorem zero64_ : (Tryz.prog.info? 100).bind (·.zero) = some (.agg (bv [0, 0, 0, 0])) := by kernel_rfl
theorem results_tmp4 {fn : Func} {t u v x : Tmp} (h : fn.results = #[.tmp t, .tmp u, .tmp v, .tmp x]) (tmps : Array Value) (P : Program) (w : World) :
 (results fn tmps).run P w = .ok (.tuple #[tmps.getD t undef, tmps.getD u undef, tmps.getD v undef, tmps.getD x undef]) w := by
 simp [results, h]
def mrow (m : List Int) (i : Nat) : List Int := (m.drop (i * 4)).take 4
def msum (m l : List Int) (i : Nat) (k : Nat) : Int := (mrow m i).getD 3 0 + (List.zipWith (· * ·) ((mrow m i).take k) (l.take k)).sum
def mval (m l : List Int) (i : Nat) : Int := clampZ (rnd (msum m l i 3) 65536) 0 255
theorem mrow_len (m : List Int) (hm : m.length = 12) (i : Nat) (hi : i < 3) : (mrow m i).length = 4 := by simp [mrow]; omega
theorem mrow_bd (m : List Int) (M : Int) (hb : ∀ z ∈ m, -M ≤ z ∧ z ≤ M) (i : Nat) : ∀ z ∈ mrow m i, -M ≤ z ∧ z ≤ M :=
 fun z hz => hb z (List.mem_of_mem_drop (List.mem_of_mem_take hz))
theorem msum_succ (m l : List Int) (i k : Nat) (h1 : k < (mrow m i).length) (h2 : k < l.length) : msum m l i (k + 1) = msum m l i k + (mrow m i)[k] * l[k] := by
 unfold msum
 rw [List.take_succ_eq_append_getElem h1, List.take_succ_eq_append_getElem h2, List.zipWith_append (by simp; omega)]
 simp; omega
theorem msum_bd (m l : List Int) (M : Int) (hM : 0 ≤ M) (hb : ∀ z ∈ m, -M ≤ z ∧ z ≤ M) (hm : m.length = 12) (hl : l.length = 3) (hlb : allIn l 0 255 = true) (i : Nat) (hi : i < 3) :
 ∀ k, k ≤ 3 → -(M + k * (M * 255)) ≤ msum m l i k ∧ msum m l i k ≤ M + k * (M * 255) := by
 intro k
 have hrl := mrow_len m hm i hi
 induction k with
 | zero =>
   intro _
   have h3 : 3 < (mrow m i).length := by omega
   have : msum m l i 0 = (mrow m i)[3] := by simp [msum, h3]
   have := mrow_bd m M hb i _ (List.getElem_mem h3)
   omega
 | succ k ih =>
   intro hk
   have h1 : k < (mrow m i).length := by omega
   have h2 : k < l.length := by omega
   have := ih (by omega)
   rw [msum_succ m l i k h1 h2]
   obtain ⟨a1, a2⟩ := mrow_bd m M hb i _ (List.getElem_mem h1)
   obtain ⟨b1, b2⟩ := allIn_iff.1 hlb _ (List.getElem_mem h2)
   generalize (mrow m i)[k] = x at *
   generalize l[k] = y at *
   have e1 : x * y ≤ M * y := Int.mul_le_mul_of_nonneg_right a2 b1
   have e2 : M * y ≤ M * 255 := Int.mul_le_mul_of_nonneg_left b2 hM
   have e3 : -M * y ≤ x * y := Int.mul_le_mul_of_nonneg_right a1 b1
   rw [Int.neg_mul] at e3
   have e4 : ((k + 1 : Nat) : Int) * (M * 255) = k * (M * 255) + M * 255 := by rw [Int.natCast_succ, Int.add_mul, Int.one_mul]
   omega
theorem run_index_row (m : List Int) (i : Nat) (hi : i < 3) (w : World) : (Instr.index 101 (.agg (bv m)) (.int .i64 (i : Int))).run Tryz.prog w = .ok (.agg (bv (mrow m i))) w := by
 have hc : ((0 : Int) ≤ (i : Int) ∧ (i : Int) < ((3 : Nat) : Int)) = True := by simp; omega
 have hso : (sizeOf 100).run Tryz.prog w = .ok 4 w := by
  cases hq : Tryz.prog.info? 100 with
  | none => have := size64_; simp [hq] at this
  | some inf =>
    have : inf.size = 4 := by have := size64_; simpa [hq] using this
    simp [sizeOf, typeInfo, hq, this]
 have e : (bv m).extract (i * 4) (i * 4 + 4) = bv (mrow m i) := by
  simp [bv, ints, mrow, List.extract_toArray, List.extract_eq_take_drop, List.map_take, List.map_drop]
 simp only [Instr.index, asIntOf, Sem.run_bind, Sem.run_pure, Result.andThen_ok, run_underlying Tryz.underlying101, hc, if_true]
 simp [part, hso, e]
theorem mvals_set (m l : List Int) (i : Nat) (hi : i < 3) : ((List.range i).map (mval m l) ++ List.replicate (3 - i) 0).set i (mval m l i) = (List.range (i + 1)).map (mval m l) ++ List.replicate (3 - (i + 1)) 0 := by
 have hl : ((List.range i).map (mval m l)).length = i := by simp
 rw [List.set_append_right _ _ (by omega), hl, Nat.sub_self]
 obtain ⟨j, hj⟩ : ∃ j, 3 - i = j + 1 := ⟨3 - i - 1, by omega⟩
 have hj2 : 3 - (i + 1) = j := by omega
 rw [hj, hj2, List.replicate_succ, List.set_cons_zero, List.range_succ, List.map_append]
 simp
theorem run_index66 (cs : Array Value) (i : Nat) (u : Value) (hi : i < 3) (hu : cs[i]? = some u) (w : World) : (Instr.index 102 (.agg cs) (.int .i64 (i : Int))).run Tryz.prog w = .ok u w :=
 run_index_agg _ _ 3 cs i u Tryz.underlying102 _ Tryz.underlying3 sizeInt hi hu w
set_option maxHeartbeats 800000 in
theorem three_in (m l : List Int) (w : World) (hm : m.length = 12) (hl : l.length = 3) (hmb : ∀ z ∈ m, -20000000 ≤ z ∧ z ≤ 20000000) (hlb : allIn l 0 255 = true) :
 Calls Tryz.prog 78 #[.agg (bv m), .agg (bv l)] w fun e w' => e = .returned (.tuple #[.int .i64 (mval m l 0), .int .i64 (mval m l 1), .int .i64 (mval m l 2), .int .i64 0]) ∧ Ext w w' := by
 have HL := hid_ hl
 have HLB := hid_ (allIn_iff.1 hlb)
 have hsm := hid_ ((bv_size m).trans hm)
 have hsl := hid_ ((bv_size l).trans hl)
 have HRL := hid_ (fun i hi => mrow_len m hm i hi)
 have HRB := hid_ (mrow_bd m 20000000 hmb)
 have HSB := hid_ (msum_bd m l 20000000 (by omega) hmb hm hl hlb)
 have HIR := hid_ (fun i hi W => run_index_row m i hi W)
 generalize hcm : bv m = cm at *
 generalize hcl : bv l = cl at *
 have HCL := hid_ hcl
 clear hcm hcl hm hl hmb hlb
 go_enter Tryz.func78, Tryz.ntmps78
 go_wp2_with (first
  | (refine wBox rfl 101 (.tmp 0) rfl cm rfl ?_; intro w1 gm hbm1 hx1 hgm)
  | (refine wBox rfl 102 (.tmp 1) rfl cl rfl ?_; intro w2 gl hbl2 hx2 hgl; have hbm2 := hbm1.ext hx2)
  | (refine wAlo' rfl (some 8) rfl 102 rfl _ zero66 ?_; intro w3 go hbo3 hx3 hgo; have hbm3 := hbm2.ext hx3; have hbl3 := hbl2.ext hx3)
  | (refine wLdB rfl 101 (.tmp 2) rfl _ rfl hbm3 _ Tryz.underlying101 rfl 12 size65 hsm.out ?_))
 have hne : go ≠ gl := by have := hbl2.lt; omega
 have hgo' : w.heap.size ≤ go := by have := hx1.size; have := hx2.size; omega
 have hxx := (hx1.trans hx2).trans hx3
 clear hbm1 hbm2 hbm3 hbl2 hx1 hx2 hx3
 go_loopw [15] (fun i wr => ∃ k : Nat, k ≤ 3 ∧ i = .int .i64 k ∧ Blk wr gl 102 cl ∧ Blk wr go 102 (bv ((List.range k).map (mval m l) ++ List.replicate (3 - k) 0)) ∧ Ext w wr) (fun i _ => 3 - (intOf i).toNat)
 case atStart => exact ⟨0, by omega, rfl, hbl3, hbo3, hxx⟩
 case round =>
  obtain ⟨k, hk, rfl, hb1, hb2, hx⟩ := hrel
  by_cases hlt : k < 3
  ·have hix := HIR.out k hlt
   have hrl := HRL.out k hlt
   have hrs := hid_ ((bv_size (mrow m k)).trans hrl)
   have hro := hid_ (bv_one (mrow m k))
   have hz4 : Hid ((Value.agg (bv [0, 0, 0, 0])).cells.size = 4) := hid_ rfl
   have hrz := zero64_
   have HRZ := hid_ hrz
   have h3 : 3 < (mrow m k).length := by omega
   have hr3 := hid_ (bv_at (mrow m k) 3 h3)
   have HRK := hid_ (fun j (hj : j < (mrow m k).length) => bv_at (mrow m k) j hj)
   clear hrz
   generalize bv (mrow m k) = cr at *
   go_wp2_with (first
    | (refine wAlo' rfl (some 10) rfl 100 rfl _ HRZ.out ?_; intro w4 gr hbr4 hx4 hgr)
    | (refine wStB rfl 100 (.tmp 10) (.tmp 18) rfl _ _ rfl rfl hbr4 4 size64_ hrs.out hz4.out hro.out ?_; intro w5 hbr5 hg5; have hl3 : w5.cell? ⟨gr, 3, none⟩ = some (.int .i64 (mrow m k)[3]) := (hbr5.cell 3).trans hr3.out; have hbl5 := (hb1.ext hx4).grown hg5 (by have := hb1.lt; simp; omega); have hbo5 := (hb2.ext hx4).grown hg5 (by have := hb2.lt; simp; omega))
    | (refine wLdB rfl 102 (.tmp 3) rfl _ rfl hbl5 _ Tryz.underlying102 rfl 3 size66 hsl.out ?_))
   have hgr' : w.heap.size ≤ gr := by have := hx.size; omega
   have hx5 := (hx.trans hx4).grown hg5 hgr'
   clear hb1 hb2 hx hx4 hg5 hbr4
   have hs0 : msum m l k 0 = (mrow m k)[3] := by simp [msum, h3]
   have HS0 := hid_ hs0
   clear hs0
   go_loop [11, 22] (fun s j => ∃ n : Nat, n ≤ 3 ∧ j = .int .i64 n ∧ s = .int .i64 (msum m l k n)) (fun _ j => 3 - (intOf j).toNat)
   case atStart => exact ⟨0, by omega, rfl, by rw [HS0.out]⟩
   case round =>
    obtain ⟨n, hn, rfl, rfl⟩ := hrel
    by_cases hlt2 : n < 3
    ·have hnl : n < l.length := by have := HL.out; omega
     have hnr : n < (mrow m k).length := by omega
     have hix2 := run_index66 cl n (.int .i64 l[n]) hlt2 (by rw [← HCL.out]; exact bv_at l n hnl)
     have hrn : w5.cell? ⟨gr, n, none⟩ = some (.int .i64 (mrow m k)[n]) := (hbr5.cell n).trans (HRK.out n hnr)
     obtain ⟨l1, l2⟩ := HLB.out _ (List.getElem_mem hnl)
     obtain ⟨r1, r2⟩ := HRB.out k _ (List.getElem_mem hnr)
     obtain ⟨s1, s2⟩ := HSB.out k hlt n hn
     have HN := hid_ (msum_succ m l k n hnr hnl)
     generalize (mrow m k)[n] = x at *
     generalize l[n] = y at *
     have e1 : x * y ≤ 20000000 * y := Int.mul_le_mul_of_nonneg_right r2 l1
     have e3 : -20000000 * y ≤ x * y := Int.mul_le_mul_of_nonneg_right r1 l1
     generalize msum m l k n = s at *
     go_wp2_with fail
     go_round
     case rel => exact ⟨n + 1, by omega, by go_num, by rw [HN.out]⟩
     case measure => simp [intOf]; omega
    ·obtain rfl : n = 3 := by omega
     obtain ⟨s1, s2⟩ := HSB.out k hlt 3 hn
     obtain ⟨q1, q2⟩ := rnd_bounds (msum m l k 3) 65536 (by omega)
     have HR := hid_ (fun W => round_any (msum m l k 3) 65536 W (by omega) (by omega) (by omega) (by omega))
     have HM2 : Hid (min (max (rnd (msum m l k 3) 65536) 0) 255 = mval m l k) := hid_ (by unfold mval clampZ; (repeat' split) <;> omega)
     have HM : Hid ((if 255 < (if rnd (msum m l k 3) 65536 < 0 then 0 else rnd (msum m l k 3) 65536) then 255 else (if rnd (msum m l k 3) 65536 < 0 then 0 else rnd (msum m l k 3) 65536)) = mval m l k) := hid_ (by unfold mval clampZ; (repeat' split) <;> omega)
     obtain ⟨old, hold⟩ : ∃ u, w5.cell? ⟨go, k, none⟩ = some u := by
      rw [hbo5.cell k]
      have hl : ((List.range k).map (mval m l) ++ List.replicate (3 - k) 0).length = 3 := by simp; omega
      exact ⟨_, bv_at _ k (by omega)⟩
     have hfr := hbo5.frozen k
     generalize rnd (msum m l k 3) 65536 = r at *
     generalize msum m l k 3 = s at *
     go_wp2_with (go_at_call 74; (with_reducible refine (HR.out _).mono ?_); rintro e w' ⟨rfl, rfl⟩)
     first
      | rw [HM.out]
      | rw [HM2.out]
     go_roundw
     case rel =>
      refine ⟨k + 1, by omega, by go_num, hbl5.far (p := ⟨go, k, none⟩) (by simpa using hne.symm) _, ?_, hx5.setCell (by omega) _⟩
      have := hbo5.set_ k (.int .i64 (mval m l k))
      rw [bv_set, mvals_set m l k hlt] at this
      exact this
     case measure => simp [intOf]; omega
  ·have ek : k = 3 := by omega
   rw [ek] at hb2
   have hc0 : wr.cell? ⟨go, 0, none⟩ = some (.int .i64 (mval m l 0)) := (hb2.cell 0).trans (by rfl)
   have hc1 : wr.cell? ⟨go, 1, none⟩ = some (.int .i64 (mval m l 1)) := (hb2.cell 1).trans (by rfl)
   have hc2 : wr.cell? ⟨go, 2, none⟩ = some (.int .i64 (mval m l 2)) := (hb2.cell 2).trans (by rfl)
   go_wp2_with fail
   go_quiet (fail)
   go_wp2_with fail
   (try simp only [Exit.inBlock, Exit.then]); refine bodyPost_ret (results_tmp4 rfl _ _ _) rfl ?_; exact ⟨rfl, hx.trans (below_drewN (Ext.refl wr) nq)⟩
set_option maxHeartbeats 800000 in
theorem three_out (m l : List Int) (w : World) (hm : m.length = 12) (hl : l.length = 3) (hmb : ∀ z ∈ m, -20000000 ≤ z ∧ z ≤ 20000000) (hlb : allIn l 0 255 = false) :
 Calls Tryz.prog 78 #[.agg (bv m), .agg (bv l)] w fun e w' => e = .returned (.tuple #[.int .i64 0, .int .i64 0, .int .i64 0, .int .i64 1]) ∧ Ext w w' := by
 have HL := hid_ hl
 have HLB := hid_ hlb
 have hsm := hid_ ((bv_size m).trans hm)
 have hsl := hid_ ((bv_size l).trans hl)
 have hrl := mrow_len m hm 0 (by omega)
 have HRB := hid_ (mrow_bd m 20000000 hmb 0)
 have HIR := fun W => run_index_row m 0 (by omega) W
 generalize hcm : bv m = cm at *
 generalize hcl : bv l = cl at *
 have HCL := hid_ hcl
 clear hcm hcl hm hl hmb hlb
 have hrs := hid_ ((bv_size (mrow m 0)).trans hrl)
 have hro := hid_ (bv_one (mrow m 0))
 have hz4 : Hid ((Value.agg (bv [0, 0, 0, 0])).cells.size = 4) := hid_ rfl
 have hrz := zero64_
 have HRZ := hid_ hrz
 have h3 : 3 < (mrow m 0).length := by omega
 have hr3 := hid_ (bv_at (mrow m 0) 3 h3)
 have HRK := hid_ (fun j (hj : j < (mrow m 0).length) => bv_at (mrow m 0) j hj)
 clear hrz
 generalize bv (mrow m 0) = cr at *
 go_enter Tryz.func78, Tryz.ntmps78
 go_wp2_with (first
  | (refine wBox rfl 101 (.tmp 0) rfl cm rfl ?_; intro w1 gm hbm1 hx1 hgm)
  | (refine wBox rfl 102 (.tmp 1) rfl cl rfl ?_; intro w2 gl hbl2 hx2 hgl; have hbm2 := hbm1.ext hx2)
  | (refine wAlo' rfl (some 8) rfl 102 rfl _ zero66 ?_; intro w3 go hbo3 hx3 hgo; have hbm3 := hbm2.ext hx3; have hbl3 := hbl2.ext hx3)
  | (refine wLdB rfl 101 (.tmp 2) rfl _ rfl hbm3 _ Tryz.underlying101 rfl 12 size65 hsm.out ?_))
 have hxx := (hx1.trans hx2).trans hx3
 clear hbm1 hbm2 hbm3 hbl2 hx1 hx2 hx3
 go_loopw [15] (fun i wr => i = .int .i64 0 ∧ Blk wr gl 102 cl ∧ Ext w wr) (fun i _ => 3 - (intOf i).toNat)
 case atStart => exact ⟨rfl, hbl3, hxx⟩
 case round =>
  obtain ⟨rfl, hb1, hx⟩ := hrel
  have hix : ∀ W, (Instr.index 101 (.agg cm) (.int .i64 0)).run Tryz.prog W = .ok (.agg cr) W := HIR
  go_wp2_with (first
   | (refine wAlo' rfl (some 10) rfl 100 rfl _ HRZ.out ?_; intro w4 gr hbr4 hx4 hgr)
   | (refine wStB rfl 100 (.tmp 10) (.tmp 18) rfl _ _ rfl rfl hbr4 4 size64_ hrs.out hz4.out hro.out ?_; intro w5 hbr5 hg5; have hl3 : w5.cell? ⟨gr, 3, none⟩ = some (.int .i64 (mrow m 0)[3]) := (hbr5.cell 3).trans hr3.out; have hbl5 := (hb1.ext hx4).grown hg5 (by have := hb1.lt; simp; omega))
   | (refine wLdB rfl 102 (.tmp 3) rfl _ rfl hbl5 _ Tryz.underlying102 rfl 3 size66 hsl.out ?_))
  have hgr' : w.heap.size ≤ gr := by have := hx.size; omega
  have hx5 := (hx.trans hx4).grown hg5 hgr'
  clear hb1 hx hx4 hg5 hbr4
  obtain ⟨b1, b2⟩ := HRB.out _ (List.getElem_mem h3)
  go_loop [11, 22] (fun s j => ∃ n : Nat, n ≤ 3 ∧ j = .int .i64 n ∧ (∃ z : Int, s = .int .i64 z ∧ -(20000000 + n * (20000000 * 255)) ≤ z ∧ z ≤ 20000000 + n * (20000000 * 255)) ∧ ∀ z ∈ l.take n, 0 ≤ z ∧ z ≤ 255) (fun _ j => 3 - (intOf j).toNat)
  case atStart => exact ⟨0, by omega, rfl, ⟨_, rfl, by omega, by omega⟩, by simp⟩
  case round =>
   obtain ⟨n, hn, rfl, ⟨s, rfl, s1, s2⟩, hin⟩ := hrel
   by_cases hlt2 : n < 3
   ·have hnl : n < l.length := by have := HL.out; omega
    have hnr : n < (mrow m 0).length := by omega
    have hix2 := run_index66 cl n (.int .i64 l[n]) hlt2 (by rw [← HCL.out]; exact bv_at l n hnl)
    have hrn : w5.cell? ⟨gr, n, none⟩ = some (.int .i64 (mrow m 0)[n]) := (hbr5.cell n).trans (HRK.out n hnr)
    obtain ⟨r1, r2⟩ := HRB.out _ (List.getElem_mem hnr)
    have HIN := hid_ hin
    clear hin
    by_cases h0 : l[n] < 0
    ·clear s1 s2
     go_wp2_with fail
     (try simp only [Exit.inBlock, Exit.then]); refine bodyPost_ret (results_tmp4 rfl _ _ _) rfl ?_; exact ⟨rfl, hx5⟩
    ·by_cases h1 : 255 < l[n]
     ·clear s1 s2
      go_wp2_with fail
      (try simp only [Exit.inBlock, Exit.then]); refine bodyPost_ret (results_tmp4 rfl _ _ _) rfl ?_; exact ⟨rfl, hx5⟩
     ·have HN := hid_ (allIn_take HIN.out hnl (lo := 0) (hi := 255) ⟨by omega, by omega⟩)
      generalize (mrow m 0)[n] = x at *
      generalize l[n] = y at *
      have e1 : x * y ≤ 20000000 * y := Int.mul_le_mul_of_nonneg_right r2 (by omega)
      have e3 : -20000000 * y ≤ x * y := Int.mul_le_mul_of_nonneg_right r1 (by omega)
      go_wp2_with fail
      go_round
      case rel => exact ⟨n + 1, by omega, by go_num, ⟨_, rfl, by omega, by omega⟩, HN.out⟩
      case measure => simp [intOf]; omega
   ·exfalso
    have := HLB.out
    rw [← Bool.not_eq_true, allIn_iff] at this
    refine this fun z hz => hin z ?_
    rwa [List.take_of_length_le (by have := HL.out; omega)]
def threeZ (m l : List Int) : Int × Int × Int × Int := if allIn l 0 255 then (mval m l 0, mval m l 1, mval m l 2, 0) else (0, 0, 0, 1)
theorem three_any (m l : List Int) (w : World) (hm : m.length = 12) (hl : l.length = 3) (hmb : ∀ z ∈ m, -20000000 ≤ z ∧ z ≤ 20000000) :
 Calls Tryz.prog 78 #[.agg (bv m), .agg (bv l)] w fun e w' => e = .returned (.tuple #[.int .i64 (threeZ m l).1, .int .i64 (threeZ m l).2.1, .int .i64 (threeZ m l).2.2.1, .int .i64 (threeZ m l).2.2.2]) ∧ Ext w w' := by
 unfold threeZ
 cases h1 : allIn l 0 255 with
 | false => simpa using three_out m l w hm hl hmb h1
 | true => simpa using three_in m l w hm hl hmb h1
set_option maxRecDepth 20000
set_option maxHeartbeats 400000 in
theorem tsamples_any (l : List Int) (A : Option Addr) (c : Nat) (w : World) (n : Nat) (hn : l.length = n) (hl : SL w 1 (.slice A n c) n (ints l)) (hb : n ≤ 1000) :
 Calls Tryz.prog 60 #[.slice A n c] w fun e w' => e = .returned (.bool (allIn l 0 255)) ∧ w = w' := by
 subst hn
 go_enter Tryz.func60, Tryz.ntmps60
 go_wp2_with fail
 go_loop [7] (fun i => ∃ k : Nat, k ≤ l.length ∧ i = .int .i64 k ∧ ∀ z ∈ l.take k, 0 ≤ z ∧ z ≤ 255) (fun i => l.length - (intOf i).toNat)
 case atStart => exact ⟨0, by omega, rfl, by simp⟩
 case round =>
  obtain ⟨k, hk, rfl, hin⟩ := hrel
  by_cases hlt : k < l.length
  ·obtain ⟨ad, u, rfl, -, hxo, hco⟩ := hl.at1 hlt
   obtain ⟨hko, rfl⟩ := ints_at _ _ _ hxo
   cases hq : inB l[k] 0 255 with
   | true =>
     have HN := hid_ (allIn_take hin hlt (inB_iff.1 hq))
     clear hin hxo
     go_wp2_with (go_at_call 20; refine (outside_any _ _ _ _).mono ?_; rintro e w' ⟨rfl, rfl⟩)
     go_round
     case rel => exact ⟨k + 1, by omega, by go_num, HN.out⟩
     case measure => simp [intOf]; omega
   | false =>
     have HF := hid_ (allIn_no hlt hq)
     clear hin hxo
     go_wp2_with (go_at_call 20; refine (outside_any _ _ _ _).mono ?_; rintro e w' ⟨rfl, rfl⟩)
     go_ret
     exact ⟨by rw [HF.out]; rfl, rfl⟩
  ·have HF : Hid (allIn l 0 255 = true) := hid_ (allIn_iff.2 fun z hz => hin z (by rwa [List.take_of_length_le (by omega)]))
   clear hin
   go_wp2_with fail
   go_ret
   exact ⟨by rw [HF.out]; rfl, rfl⟩
theorem sample_any (n : Int) (w : World) (h1 : -1000000000000 ≤ n) (h2 : n ≤ 1000000000000) :
 Calls Tryz.prog 61 #[.int .i64 n] w fun e w' => e = .returned (.int .i64 (clampZ (rnd n 65536) 0 255)) ∧ w = w' := by
 have HR := hid_ (fun W => rround_any n 65536 W (by omega) (by omega) (by omega) (by omega))
 generalize rnd n 65536 = r at *
 go_enter Tryz.func61, Tryz.ntmps61
 go_wp2_with (first
  | (go_at_call 63; (with_reducible refine (HR.out _).mono ?_); rintro e w' ⟨rfl, rfl⟩)
  | (go_at_call 31; refine (clamp_any _ _ _ _).mono ?_; rintro e w' ⟨rfl, rfl⟩))
 go_ret
 exact ⟨rfl, rfl⟩
def toM : List Int := [19595, 38470, 7471, 0, -11059, -21709, 32768, 8388608, 32768, -27439, -5329, 8388608]
theorem tintTo_any (r g b : Int) (w : World) : Calls Tryz.prog 47 #[.int .i64 r, .int .i64 g, .int .i64 b] w fun e w' => e = .returned (.tuple #[.int .i64 (threeZ toM [r, g, b]).1, .int .i64 (threeZ toM [r, g, b]).2.1, .int .i64 (threeZ toM [r, g, b]).2.2.1, .int .i64 (threeZ toM [r, g, b]).2.2.2]) ∧ Ext w w' := by
 have HT := hid_ (fun W => three_any toM [r, g, b] W rfl rfl (by decide))
 have e1 : bv toM = #[.int .i64 19595, .int .i64 38470, .int .i64 7471, .int .i64 0, .int .i64 (-11059), .int .i64 (-21709), .int .i64 32768, .int .i64 8388608, .int .i64 32768, .int .i64 (-27439), .int .i64 (-5329), .int .i64 8388608] := rfl
 have e2 : bv [r, g, b] = #[.int .i64 r, .int .i64 g, .int .i64 b] := rfl
 rw [e1, e2] at HT
 clear e1 e2
 generalize threeZ toM [r, g, b] = t at *
 go_enter Tryz.func47, Tryz.ntmps47
 go_wp2_with (first
  | (go_at_call 78; (with_reducible refine (HT.out _).mono ?_); rintro e w1 ⟨rfl, hx1⟩))
 (try simp only [Exit.inBlock, Exit.then]); refine bodyPost_ret (results_tmp4 rfl _ _ _) rfl ?_; exact ⟨rfl, hx1⟩
theorem rtintTo_any (r g b : Int) (w : World) : Calls Tryz.prog 24 #[.int .i64 r, .int .i64 g, .int .i64 b] w fun e w' => e = .returned (.tuple #[.int .i64 (threeZ toM [r, g, b]).1, .int .i64 (threeZ toM [r, g, b]).2.1, .int .i64 (threeZ toM [r, g, b]).2.2.1, .int .i64 (threeZ toM [r, g, b]).2.2.2]) ∧ Ext w w' := by
 have HS := hid_ (fun W A c (h : SL W 1 (.slice A 3 c) 3 (ints [r, g, b])) => tsamples_any [r, g, b] A c W 3 rfl h (by omega))
 have HSL := hid_ (fun (W : World) => (Blk.new W 3 #[.int .i64 r, .int .i64 g, .int .i64 b]).sl (size := 1) (n := 3) (c := 3) rfl (by omega) (by omega))
 cases hq : allIn [r, g, b] 0 255 with
 | true =>
   rw [hq] at HS
   have hb := allIn_iff.1 hq
   obtain ⟨r1, r2⟩ := hb r (by simp)
   obtain ⟨g1, g2⟩ := hb g (by simp)
   obtain ⟨b1, b2⟩ := hb b (by simp)
   have e0 : mval toM [r, g, b] 0 = clampZ (rnd (19595 * r + 38470 * g + 7471 * b) 65536) 0 255 := by
    unfold mval msum mrow toM; simp; congr 2; omega
   have e1 : mval toM [r, g, b] 1 = clampZ (rnd (8388608 + 32768 * b - 11059 * r - 21709 * g) 65536) 0 255 := by
    unfold mval msum mrow toM; simp; congr 2; omega
   have e2 : mval toM [r, g, b] 2 = clampZ (rnd (8388608 + 32768 * r - 27439 * g - 5329 * b) 65536) 0 255 := by
    unfold mval msum mrow toM; simp; congr 2; omega
   have HF := hid_ (show threeZ toM [r, g, b] = (clampZ (rnd (19595 * r + 38470 * g + 7471 * b) 65536) 0 255, clampZ (rnd (8388608 + 32768 * b - 11059 * r - 21709 * g) 65536) 0 255, clampZ (rnd (8388608 + 32768 * r - 27439 * g - 5329 * b) 65536) 0 255, 0) by unfold threeZ; rw [if_pos hq, e0, e1, e2])
   clear e0 e1 e2 hb hq
   rw [HF.out]
   have H0 := hid_ (fun W => sample_any (19595 * r + 38470 * g + 7471 * b) W (by omega) (by omega))
   have H1 := hid_ (fun W => sample_any (8388608 + 32768 * b - 11059 * r - 21709 * g) W (by omega) (by omega))
   have H2 := hid_ (fun W => sample_any (8388608 + 32768 * r - 27439 * g - 5329 * b) W (by omega) (by omega))
   generalize clampZ (rnd (19595 * r + 38470 * g + 7471 * b) 65536) 0 255 = z0 at *
   generalize clampZ (rnd (8388608 + 32768 * b - 11059 * r - 21709 * g) 65536) 0 255 = z1 at *
   generalize clampZ (rnd (8388608 + 32768 * r - 27439 * g - 5329 * b) 65536) 0 255 = z2 at *
   go_enter Tryz.func24, Tryz.ntmps24
   go_wp2_with (first
    | (go_at_call 60; (with_reducible refine (HS.out _ _ _ (HSL.out _)).mono ?_); rintro e w1 ⟨rfl, rfl⟩)
    | (go_at_call 61; (with_reducible refine (H0.out _).mono ?_); rintro e w1 ⟨rfl, rfl⟩)
    | (go_at_call 61; (with_reducible refine (H1.out _).mono ?_); rintro e w1 ⟨rfl, rfl⟩)
    | (go_at_call 61; (with_reducible refine (H2.out _).mono ?_); rintro e w1 ⟨rfl, rfl⟩))
   (try simp only [Exit.inBlock, Exit.then]); refine bodyPost_ret (results_tmp4 rfl _ _ _) rfl ?_; exact ⟨rfl, (Ext.refl w).alloc _⟩
 | false =>
   rw [hq] at HS
   have HF := hid_ (show threeZ toM [r, g, b] = (0, 0, 0, 1) by unfold threeZ; rw [hq]; rfl)
   rw [HF.out]
   clear hq
   go_enter Tryz.func24, Tryz.ntmps24
   go_wp2_with (go_at_call 60; (with_reducible refine (HS.out _ _ _ (HSL.out _)).mono ?_); rintro e w1 ⟨rfl, rfl⟩)
   (try simp only [Exit.inBlock, Exit.then]); refine bodyPost_ret (results_tmp4 rfl _ _ _) rfl ?_; exact ⟨rfl, (Ext.refl w).alloc _⟩
def frM : List Int := [65536, 0, 91881, -11760768, 65536, -22554, -46802, 8877568, 65536, 116130, 0, -14864640]
theorem tintFrom_any (y u v : Int) (w : World) : Calls Tryz.prog 48 #[.int .i64 y, .int .i64 u, .int .i64 v] w fun e w' => e = .returned (.tuple #[.int .i64 (threeZ frM [y, u, v]).1, .int .i64 (threeZ frM [y, u, v]).2.1, .int .i64 (threeZ frM [y, u, v]).2.2.1, .int .i64 (threeZ frM [y, u, v]).2.2.2]) ∧ Ext w w' := by
 have HT := hid_ (fun W => three_any frM [y, u, v] W rfl rfl (by decide))
 have e1 : bv frM = #[.int .i64 65536, .int .i64 0, .int .i64 91881, .int .i64 (-11760768), .int .i64 65536, .int .i64 (-22554), .int .i64 (-46802), .int .i64 8877568, .int .i64 65536, .int .i64 116130, .int .i64 0, .int .i64 (-14864640)] := rfl
 have e2 : bv [y, u, v] = #[.int .i64 y, .int .i64 u, .int .i64 v] := rfl
 rw [e1, e2] at HT
 clear e1 e2
 generalize threeZ frM [y, u, v] = t at *
 go_enter Tryz.func48, Tryz.ntmps48
 go_wp2_with (first
  | (go_at_call 78; (with_reducible refine (HT.out _).mono ?_); rintro e w1 ⟨rfl, hx1⟩))
 (try simp only [Exit.inBlock, Exit.then]); refine bodyPost_ret (results_tmp4 rfl _ _ _) rfl ?_; exact ⟨rfl, hx1⟩
theorem rtintFrom_any (y u v : Int) (w : World) : Calls Tryz.prog 25 #[.int .i64 y, .int .i64 u, .int .i64 v] w fun e w' => e = .returned (.tuple #[.int .i64 (threeZ frM [y, u, v]).1, .int .i64 (threeZ frM [y, u, v]).2.1, .int .i64 (threeZ frM [y, u, v]).2.2.1, .int .i64 (threeZ frM [y, u, v]).2.2.2]) ∧ Ext w w' := by
 have HS := hid_ (fun W A c (h : SL W 1 (.slice A 3 c) 3 (ints [y, u, v])) => tsamples_any [y, u, v] A c W 3 rfl h (by omega))
 have HSL := hid_ (fun (W : World) => (Blk.new W 3 #[.int .i64 y, .int .i64 u, .int .i64 v]).sl (size := 1) (n := 3) (c := 3) rfl (by omega) (by omega))
 cases hq : allIn [y, u, v] 0 255 with
 | true =>
   rw [hq] at HS
   have hb := allIn_iff.1 hq
   obtain ⟨r1, r2⟩ := hb y (by simp)
   obtain ⟨g1, g2⟩ := hb u (by simp)
   obtain ⟨b1, b2⟩ := hb v (by simp)
   have e0 : mval frM [y, u, v] 0 = clampZ (rnd (65536 * y + 91881 * (v - 128)) 65536) 0 255 := by
    unfold mval msum mrow frM; simp; congr 2; omega
   have e1 : mval frM [y, u, v] 1 = clampZ (rnd (65536 * y - 22554 * (u - 128) - 46802 * (v - 128)) 65536) 0 255 := by
    unfold mval msum mrow frM; simp; congr 2; omega
   have e2 : mval frM [y, u, v] 2 = clampZ (rnd (65536 * y + 116130 * (u - 128)) 65536) 0 255 := by
    unfold mval msum mrow frM; simp; congr 2; omega
   have HF := hid_ (show threeZ frM [y, u, v] = (clampZ (rnd (65536 * y + 91881 * (v - 128)) 65536) 0 255, clampZ (rnd (65536 * y - 22554 * (u - 128) - 46802 * (v - 128)) 65536) 0 255, clampZ (rnd (65536 * y + 116130 * (u - 128)) 65536) 0 255, 0) by unfold threeZ; rw [if_pos hq, e0, e1, e2])
   clear e0 e1 e2 hb hq
   rw [HF.out]
   have H0 := hid_ (fun W => sample_any (65536 * y + 91881 * (v - 128)) W (by omega) (by omega))
   have H1 := hid_ (fun W => sample_any (65536 * y - 22554 * (u - 128) - 46802 * (v - 128)) W (by omega) (by omega))
   have H2 := hid_ (fun W => sample_any (65536 * y + 116130 * (u - 128)) W (by omega) (by omega))
   generalize clampZ (rnd (65536 * y + 91881 * (v - 128)) 65536) 0 255 = z0 at *
   generalize clampZ (rnd (65536 * y - 22554 * (u - 128) - 46802 * (v - 128)) 65536) 0 255 = z1 at *
   generalize clampZ (rnd (65536 * y + 116130 * (u - 128)) 65536) 0 255 = z2 at *
   go_enter Tryz.func25, Tryz.ntmps25
   go_wp2_with (first
    | (go_at_call 60; (with_reducible refine (HS.out _ _ _ (HSL.out _)).mono ?_); rintro e w1 ⟨rfl, rfl⟩)
    | (go_at_call 61; (with_reducible refine (H0.out _).mono ?_); rintro e w1 ⟨rfl, rfl⟩)
    | (go_at_call 61; (with_reducible refine (H1.out _).mono ?_); rintro e w1 ⟨rfl, rfl⟩)
    | (go_at_call 61; (with_reducible refine (H2.out _).mono ?_); rintro e w1 ⟨rfl, rfl⟩))
   (try simp only [Exit.inBlock, Exit.then]); refine bodyPost_ret (results_tmp4 rfl _ _ _) rfl ?_; exact ⟨rfl, (Ext.refl w).alloc _⟩
 | false =>
   rw [hq] at HS
   have HF := hid_ (show threeZ frM [y, u, v] = (0, 0, 0, 1) by unfold threeZ; rw [hq]; rfl)
   rw [HF.out]
   clear hq
   go_enter Tryz.func25, Tryz.ntmps25
   go_wp2_with (go_at_call 60; (with_reducible refine (HS.out _ _ _ (HSL.out _)).mono ?_); rintro e w1 ⟨rfl, rfl⟩)
   (try simp only [Exit.inBlock, Exit.then]); refine bodyPost_ret (results_tmp4 rfl _ _ _) rfl ?_; exact ⟨rfl, (Ext.refl w).alloc _⟩
structure Ans where
 e : Int
 s : List UInt8
 b : List Int
 q : List Int
def okS : List UInt8 := [111, 107]
def noZ (e : Int) (b q : List Int) : Ans := ⟨e, [], b, q⟩
def byZ (r : List Int × Int) (b q : List Int) : Ans := if r.2 = 0 then ⟨0, okS, r.1.map fun z => clampZ z (-40000) 40000, q⟩ else noZ r.2 b q
def setZ (b q n : List Int) : Ans := if inB (n.getD 0 0) 0 63 then (if inB (n.getD 1 0) (-40000) 40000 then ⟨0, okS, b.set (n.getD 0 0).toNat (n.getD 1 0), q⟩ else noZ 1 b q) else noZ 5 b q
def coarseZ (b q n : List Int) : Ans := if inB (n.getD 0 0) 1 255 then ⟨0, okS, b, List.replicate 64 (n.getD 0 0)⟩ else noZ 1 b q
def showZ (b q : List Int) : Ans := ⟨0, toldZ (b.take 8), b, q⟩
def symsZ (b : List Int) : List Int := (tokensZ 0 (zto b)).map (·.1)
def syZ (b q : List Int) : Ans := if allIn b (-2047) 2047 then ⟨0, toldZ (symsZ b), b, q⟩ else noZ 1 b q
def sizeZ (b q n : List Int) : Ans := if (bitsZ (n.getD 0 0)).2.2 = 0 then ⟨0, toldZ [(bitsZ (n.getD 0 0)).1, (bitsZ (n.getD 0 0)).2.1], b, q⟩ else noZ (bitsZ (n.getD 0 0)).2.2 b q
def tint3 (m n : List Int) : Int × Int × Int × Int := threeZ m [n.getD 0 0, n.getD 1 0, n.getD 2 0]
def tintZ (m b q n : List Int) : Ans := if (tint3 m n).2.2.2 = 0 then ⟨0, toldZ [(tint3 m n).1, (tint3 m n).2.1, (tint3 m n).2.2.1], b, q⟩ else noZ (tint3 m n).2.2.2 b q
def bstZ (b q n : List Int) : Ans := if bcheckZ n = 0 then ⟨0, toldZ [BM.bestOf n], b, q⟩ else noZ (bcheckZ n) b q
def actZ (k : Nat) (b q n : List Int) : Ans :=
 match k with
 | 0 => setZ b q n
 | 1 => coarseZ b q n
 | 2 => showZ b q
 | 3 => syZ b q
 | 4 => byZ (waveR toC b) b q
 | 5 => byZ (waveR frC b) b q
 | 6 => byZ (bothZ downF b q 40000) b q
 | 7 => byZ (bothZ upF b q 2047) b q
 | 8 => sizeZ b q n
 | 9 => tintZ toM b q n
 | 10 => tintZ frM b q n
 | _ => bstZ b q n
def kindZ (w : List UInt8) : Option Nat :=
 if w = [115, 101, 116] then some 0 else if w = [99, 111, 97, 114, 115, 101] then some 1 else if w = [115, 104, 111, 119] then some 2 else if w = [116, 111, 107, 101, 110, 115] then some 3
 else if w = [119, 97, 118, 101] then some 4 else if w = [98, 97, 99, 107] then some 5 else if w = [100, 111, 119, 110] then some 6 else if w = [117, 112] then some 7
 else if w = [115, 105, 122, 101] then some 8 else if w = [116, 105, 110, 116] then some 9 else if w = [112, 108, 97, 105, 110] then some 10 else if w = [98, 101, 115, 116] then some 11 else none
def manyZ (k : Nat) : Int := match k with | 0 => 2 | 1 => 1 | 2 => 0 | 3 => 0 | 4 => 0 | 5 => 0 | 6 => 0 | 7 => 0 | 8 => 1 | 9 => 3 | 10 => 3 | _ => -1
def okM (k m : Nat) : Bool := if manyZ k < 0 then decide (1 ≤ m) else decide ((m : Int) = manyZ k)
def numsZ : List (List UInt8) → Option (List Int)
 | [] => some []
 | w :: r => match numP w with
   | none => none
   | some z => (numsZ r).map (z :: ·)
def lineZ (b q : List Int) (ws : List (List UInt8)) : Ans :=
 match ws with
 | [] => noZ 4 b q
 | w :: r => match kindZ w with
   | none => noZ 4 b q
   | some k => if okM k r.length then (match numsZ r with
     | none => noZ 4 b q
     | some n => actZ k b q n) else noZ 4 b q
def saysZ (a : Ans) : List UInt8 := if a.e = 0 then a.s else [101, 114, 114, 111, 114, 32] ++ Lib.itoa a.e
def stepZ (s : List (List UInt8) × List Int × List Int) (l : List UInt8) : List (List UInt8) × List Int × List Int :=
 (s.1 ++ [saysZ (lineZ s.2.1 s.2.2 (wGo [] l))], (lineZ s.2.1 s.2.2 (wGo [] l)).b, (lineZ s.2.1 s.2.2 (wGo [] l)).q)
def runZ (ls : List (List UInt8)) : List (List UInt8) × List Int × List Int := ls.foldl stepZ ([], zeros64, List.replicate 64 1)
theorem runZ_snoc (ls : List (List UInt8)) (l : List UInt8) : runZ (ls ++ [l]) = stepZ (runZ ls) l := by unfold runZ; rw [List.foldl_append]; rfl
theorem numsZ_append (l : List (List UInt8)) (w : List UInt8) : numsZ (l ++ [w]) = match numsZ l with | none => none | some n => (numP w).map fun z => n ++ [z] := by
 induction l with
 | nil => show (match numP w with | none => none | some z => some [z]) = (numP w).map fun z => [z]; cases numP w <;> rfl
 | cons x r ih =>
   show (match numP x with | none => none | some z => (numsZ (r ++ [w])).map (z :: ·)) = _
   rw [ih]
   show _ = match (match numP x with | none => none | some z => (numsZ r).map (z :: ·)) with | none => none | some n => (numP w).map fun z => n ++ [z]
   cases numP x with
   | none => rfl
   | some z =>
     cases numsZ r with
     | none => rfl
     | some n =>
       show ((numP w).map fun u => n ++ [u]).map (z :: ·) = (numP w).map fun u => (z :: n) ++ [u]
       cases numP w <;> rfl
theorem numsZ_pre {l m : List (List UInt8)} (h : numsZ l = none) : numsZ (l ++ m) = none := by
 induction l with
 | nil => cases h
 | cons x r ih =>
   show (match numP x with | none => none | some z => (numsZ (r ++ m)).map (z :: ·)) = none
   have h' : (match numP x with | none => none | some z => (numsZ r).map (z :: ·)) = none := h
   cases hx : numP x with
   | none => rfl
   | some z =>
     rw [hx] at h'
     have : numsZ r = none := by
      cases h9 : numsZ r with
      | none => rfl
      | some n => rw [h9] at h'; cases h'
     rw [ih this]
     rfl
def StOk (b q : List Int) : Prop := b.length = 64 ∧ q.length = 64 ∧ ∀ z ∈ b, -40000 ≤ z ∧ z ≤ 40000
theorem by_ok {r : List Int × Int} {b q : List Int} (h : StOk b q) (hr : r.1.length = 64) : StOk (byZ r b q).b (byZ r b q).q := by
 unfold byZ
 split
 ·refine ⟨by simpa using hr, h.2.1, fun z hz => ?_⟩
  obtain ⟨y, -, rfl⟩ := List.mem_map.1 hz
  exact clampZ_bounds y _ _ (by omega)
 ·exact h
theorem act_ok (k : Nat) {b q n : List Int} (h : StOk b q) : StOk (actZ k b q n).b (actZ k b q n).q := by
 unfold actZ
 split
 ·unfold setZ
  split
  ·split
   ·next h1 h2 =>
    refine ⟨by simpa using h.1, h.2.1, fun z hz => ?_⟩
    rcases List.mem_or_eq_of_mem_set hz with h3 | h3
    ·exact h.2.2 z h3
    ·rw [h3]; exact inB_iff.1 h2
   ·exact h
  ·exact h
 ·unfold coarseZ
  split
  ·exact ⟨h.1, by simp, h.2.2⟩
  ·exact h
 ·exact h
 ·unfold syZ
  split
  ·exact h
  ·exact h
 ·exact by_ok h (waveR_len _ _)
 ·exact by_ok h (waveR_len _ _)
 ·exact by_ok h (bothZ_len _ _ _ _ h.1 h.2.1)
 ·exact by_ok h (bothZ_len _ _ _ _ h.1 h.2.1)
 ·unfold sizeZ; split <;> exact h
 ·unfold tintZ; split <;> exact h
 ·unfold tintZ; split <;> exact h
 ·unfold bstZ; split <;> exact h
theorem line_ok {b q : List Int} (h : StOk b q) (ws : List (List UInt8)) : StOk (lineZ b q ws).b (lineZ b q ws).q := by
 unfold lineZ
 split
 ·exact h
 ·split
  ·exact h
  ·split
   ·split
    ·exact h
    ·exact act_ok _ h
   ·exact h
theorem run_ok (ls : List (List UInt8)) : ∀ s : List (List UInt8) × List Int × List Int, StOk s.2.1 s.2.2 → StOk (ls.foldl stepZ s).2.1 (ls.foldl stepZ s).2.2 := by
 induction ls with
 | nil => exact fun s h => h
 | cons l r ih => exact fun s h => ih _ (line_ok h _)
theorem runZ_ok (ls : List (List UInt8)) : StOk (runZ ls).2.1 (runZ ls).2.2 := run_ok ls _ ⟨rfl, by simp, fun z hz => by have := List.eq_of_mem_replicate hz; omega⟩
theorem runZ_len (ls : List (List UInt8)) : (runZ ls).1.length = ls.length := by
 have : ∀ (ls : List (List UInt8)) (s : List (List UInt8) × List Int × List Int), (ls.foldl stepZ s).1.length = s.1.length + ls.length := by
  intro ls
  induction ls with
  | nil => intro s; simp
  | cons l r ih => intro s; show (r.foldl stepZ (stepZ s l)).1.length = _; rw [ih]; simp [stepZ]; omega
 have h := this ls ([], zeros64, List.replicate 64 1)
 simpa [runZ] using h
theorem act_e (k : Nat) (b q n : List Int) : 0 ≤ (actZ k b q n).e ∧ (actZ k b q n).e ≤ 9 := by
 unfold actZ
 split
 ·unfold setZ noZ; split <;> (try split) <;> dsimp only <;> omega
 ·unfold coarseZ noZ; split <;> dsimp only <;> omega
 ·unfold showZ; dsimp only; omega
 ·unfold syZ noZ; split <;> dsimp only <;> omega
 ·unfold byZ waveR noZ; split <;> split <;> simp_all
 ·unfold byZ waveR noZ; split <;> split <;> simp_all
 ·unfold byZ bothZ noZ; split <;> split <;> (try split) <;> simp_all
 ·unfold byZ bothZ noZ; split <;> split <;> (try split) <;> simp_all
 ·unfold sizeZ bitsZ noZ; split <;> split <;> simp_all
 ·unfold tintZ tint3 threeZ noZ; split <;> split <;> simp_all
 ·unfold tintZ tint3 threeZ noZ; split <;> split <;> simp_all
 ·unfold bstZ bcheckZ noZ; split <;> split <;> (try split) <;> simp_all
theorem line_e (b q : List Int) (ws : List (List UInt8)) : 0 ≤ (lineZ b q ws).e ∧ (lineZ b q ws).e ≤ 9 := by
 unfold lineZ
 split
 ·exact ⟨by simp [noZ], by simp [noZ]⟩
 ·split
  ·exact ⟨by simp [noZ], by simp [noZ]⟩
  ·split
   ·split
    ·exact ⟨by simp [noZ], by simp [noZ]⟩
    ·exact act_e _ _ _ _
   ·exact ⟨by simp [noZ], by simp [noZ]⟩
theorem accT_len (t0 : Tok) (l : List Int) : ∀ k, k ≤ l.length → (accT t0 l k).1.length + (accT t0 l k).2 ≤ 1 + k ∧ (accT t0 l k).1 ≠ [] := by
 intro k
 induction k with
 | zero => intro _; simp [accT_zero]
 | succ k ih =>
   intro h1
   obtain ⟨a, b⟩ := ih (by omega)
   rw [accT_succ t0 l k (by omega)]
   unfold stepT
   split
   ·exact ⟨by dsimp only; omega, b⟩
   ·exact ⟨by simp only [List.length_append, List.length_replicate, List.length_cons, List.length_nil]; omega, by simp⟩
theorem syms_good (b : List Int) (h : b.length = 64) : (symsZ b).length ≤ 1000 ∧ symsZ b ≠ [] ∧ ∀ z ∈ symsZ b, -900000000000 ≤ z ∧ z ≤ 900000000000 := by
 have hz : (zto b).length = 64 := by simp [zto]
 obtain ⟨h1, h2⟩ := accT_len (tokZ 0 ((zto b).getD 0 0 - 0)) ((zto b).drop 1) 63 (by simp [hz])
 have h3 : (tokensZ 0 (zto b)).length ≤ 1000 ∧ tokensZ 0 (zto b) ≠ [] := by
  unfold tokensZ
  dsimp only
  split
  ·exact ⟨by rw [List.length_append]; simp only [List.length_cons, List.length_nil]; omega, by simp⟩
  ·exact ⟨by omega, h2⟩
 unfold symsZ
 refine ⟨by rw [List.length_map]; exact h3.1, by simpa using h3.2, fun z hz' => ?_⟩
 obtain ⟨t, ht, rfl⟩ := List.mem_map.1 hz'
 have := tokensZ_wf 0 (zto b) hz t ht
 unfold tokWf at this
 omega
theorem bits_good (n : Int) : ∀ z ∈ [(bitsZ n).1, (bitsZ n).2.1], -900000000000 ≤ z ∧ z ≤ 900000000000 := by
 obtain ⟨a, b, c, d⟩ := bitsZ_wf n
 have : (2 : Int) ^ (bitsZ n).1.toNat ≤ 2 ^ 12 := by
  have h1 : 2 ^ (bitsZ n).1.toNat ≤ 2 ^ 12 := Nat.pow_le_pow_right (by omega) (by omega)
  exact_mod_cast h1
 intro z hz
 simp only [List.mem_cons, List.not_mem_nil, or_false] at hz
 rcases hz with rfl | rfl <;> omega
theorem tint_good (m n : List Int) : ∀ z ∈ [(tint3 m n).1, (tint3 m n).2.1, (tint3 m n).2.2.1], -900000000000 ≤ z ∧ z ≤ 900000000000 := by
 intro z hz
 unfold tint3 threeZ mval at hz
 split at hz
 ·simp only [List.mem_cons, List.not_mem_nil, or_false] at hz
  rcases hz with rfl | rfl | rfl
  ·have := clampZ_bounds (rnd (msum m [n.getD 0 0, n.getD 1 0, n.getD 2 0] 0 3) 65536) 0 255 (by omega); omega
  ·have := clampZ_bounds (rnd (msum m [n.getD 0 0, n.getD 1 0, n.getD 2 0] 1 3) 65536) 0 255 (by omega); omega
  ·have := clampZ_bounds (rnd (msum m [n.getD 0 0, n.getD 1 0, n.getD 2 0] 2 3) 65536) 0 255 (by omega); omega
 ·simp at hz; omega
end Go.Proofs.YtlhggcbpipmjhaaGreatDoor
