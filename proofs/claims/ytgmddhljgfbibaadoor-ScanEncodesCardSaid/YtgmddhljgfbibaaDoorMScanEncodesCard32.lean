/- Contracts for the law ScanEncodesCard, part 32: what the functions that it reaches answer, for all arguments that the theorems name. -/
import Derived.Test.YtgmddhljgfbibaaDoorMScanEncodesCard19
import Derived.Test.YtgmddhljgfbibaaDoorMScanEncodesCard28
import Derived.Test.YtgmddhljgfbibaaDoorMScanEncodesCard30
import Derived.Test.YtgmddhljgfbibaaDoorMScanEncodesCard31
/- scan.Encode. Printed by wip/gen/mkscanenc.py. -/
namespace Go.Proofs.YtgmddhljgfbibaaDoor
set_option linter.unusedVariables false
set_option linter.unusedSimpArgs false
open Go.RowKit
theorem cnt_okS : ∀ (l : List (Tok × Bool)) (s : List Int × List Int), (eatGo cntStep l s).1 = 0
  | [], _ => rfl
  | (_, _) :: r, _ => by rw [eatGo_ok rfl]; exact cnt_okS r _
theorem each_eS (n : Nat) (Z : List Int) (s : List Int × List Int) : (eachZ cntStep n Z s).1 = blocksE n Z := by
  unfold eachZ blocksE
  split
  · rfl
  · split
    · rfl
    · exact cnt_okS _ _
theorem blocksE_le {n : Nat} {Z : List Int} (h : blocksE n Z = 0) : n ≤ 400 := by
  unfold blocksE at h
  by_cases h1 : 400 < n
  · rw [if_pos h1] at h; cases h
  · omega
/-- Counts, by what it answers -/
theorem counts_code (A : Option Addr) (n c : Nat) (Z : List Int) (hZ : Z.length = n * 64) (w : World) (hs : SL w 64 (.slice A n c) n (ints Z)) :
    Calls Tryd.prog 49 #[.slice A n c] w fun e w' => ∃ u v, e = .returned (.tuple #[u, v, .int .i64 (blocksE n Z)]) ∧ Ext w w' :=
  (counts_any A n c Z hZ w hs).mono fun e w' h => by
    obtain ⟨hx, h⟩ := h
    rw [each_eS] at h
    by_cases h0 : blocksE n Z = 0
    · rw [if_pos h0] at h
      obtain ⟨gA, gB, rfl, -⟩ := h
      exact ⟨_, _, by rw [h0], hx⟩
    · rw [if_neg h0] at h
      exact ⟨_, _, h, hx⟩
theorem run_convS (n : Nat) (W : World) : (convert 3 5 (.int .i64 (n : Int))).run Tryd.prog W = .ok (.int .u8 ((n % 256 : Nat) : Int)) W := by
  simp [convert, run_underlying Tryd.underlying3, run_underlying Tryd.underlying5, Conv.intToInt, show IntKind.u8.wrap (n : Int) = ((n % 256 : Nat) : Int) by simp [IntKind.wrap, IntKind.signed, IntKind.bits]]
theorem ex_convS {o : Oper} {a : Act} {x : Operand} (ho : o.op = .convert 3 5 x) {n : Nat} (hx : a.eval x = .int .i64 (n : Int)) (h : n < 256) (w : World) : (execOp a.eval o).run Tryd.prog w = .ok (.value (.int .u8 (n : Int))) w := by
  simp only [execOp, ho, hx, Sem.run_bind, run_convS, Result.andThen_ok, Sem.run_pure, Nat.mod_eq_of_lt h]
theorem goesSegEnc : Goes Tryd.prog 12 := ⟨_, Tryd.func12, by kernel_rfl, by kernel_rfl⟩
theorem sizeTblsS : (Tryd.prog.info? 34).map (·.size) = some 34 := sizeTbls
theorem spanNe : 109 ≠ 5 := by decide
attribute [local irreducible] bytesV bv segR scanGo spansL cutE cutK blocksE stuffZ packB padB
set_option maxRecDepth 20000 in
set_option maxHeartbeats 4000000 in
theorem scanEnc_bad (t1 t2 : List Value) (z1 z2 : Int) (v : Value) (nn : Int) (w : World) (h0I : ¬ nn < 0) (h4I : ¬ 100 < nn) (h1 : t1.length = 17) (h2 : t2.length = 17)
    (o1 : t1.toArray.all (·.oneCell') = true) (o2 : t2.toArray.all (·.oneCell') = true)
    (C1 : ∀ W, Ext w W → Calls Tryd.prog 48 #[.agg t1.toArray] W fun e W' => e = .returned (.int .i64 z1) ∧ Ext W W')
    (C2 : ∀ W, Ext w W → Calls Tryd.prog 48 #[.agg t2.toArray] W fun e W' => e = .returned (.int .i64 z2) ∧ Ext W W')
    (hne : (if z1 = 0 then z2 else z1) ≠ 0) :
    Calls Tryd.prog 18 #[.agg (t1 ++ t2).toArray, v, .int .i64 nn] w (SegIs (if z1 = 0 then z2 else z1, []) w) := by
  have hl1 := hid_ h1
  have hl2 := hid_ h2
  have hsz := hid_ (tblsWhole h1 h2)
  have HB2 := hid_ (built2 t1 t2 h1 h2)
  have HRT := hid_ (fun W g (hb : Blk W g 32 (t1 ++ t2).toArray) => range_two h1 hb)
  have HRU := hid_ (fun W g (hb : Blk W g 34 (t1 ++ t2).toArray) => range_two h1 hb)
  have hs1 : Hid (t1.toArray.size = 17) := hid_ (by simpa using h1)
  have hs2 : Hid (t2.toArray.size = 17) := hid_ (by simpa using h2)
  have hz17 : Hid ((ints (List.replicate 16 0) ++ [Value.slice none 0 0]).toArray.size = 17) := hid_ (by simp [ints])
  have HO1 := hid_ o1
  have HO2 := hid_ o2
  have HC1 := hid_ C1
  have HC2 := hid_ C2
  clear o1 o2 C1 C2 h1 h2
  generalize hR : (if z1 = 0 then z2 else z1) = R at *
  have HR := hid_ hR
  have HNE := hid_ hne
  clear hR hne
  go_enter Tryd.func18, Tryd.ntmps18
  go_wp2_with (first
    | (show wpList _ _ _ (⟨some 3, _, _, _, _, _⟩ :: _) _ _; refine wpList_box_abs rfl 34 (.tmp 0) rfl (t1 ++ t2).toArray rfl ?_; intro w1 g hb1 hx1 hg; have hr1 := HRU.out _ _ hb1)
    | (show wpList _ _ _ (⟨some 26, _, _, _, _, _⟩ :: _) _ _; refine wpList_load_mid rfl 32 (.tmp 25) rfl g 0 rfl t1 _ hr1.1 Tryd.underlying32 rfl (by rw [hl1.out]; exact sizeTbl) ?_)
    | (show wpList _ _ _ (⟨some 28, _, _, _, _, _⟩ :: _) _ _; refine wpList_load_mid rfl 32 (.tmp 27) rfl g 17 rfl t2 _ hr1.2 Tryd.underlying32 rfl (by rw [hl2.out]; exact sizeTbl) ?_)
    | (show wpList _ _ _ (⟨some 29, _, _, _, _, _⟩ :: _) _ _; refine Go.Great.wpList_buildSliceTo rfl 102 32 2 _ rfl _ rfl (some 29) rfl Tryd.underlying102 _ (by simp [Act.eval]; exact HB2.out) ?_))
  have hbn0 := Blk.new w1 32 (t1 ++ t2).toArray
  have hb3 := hb1.alloc (.cells (t1 ++ t2).toArray 32)
  have hx3 := hx1.alloc (.cells (t1 ++ t2).toArray 32)
  clear hb1 hr1 hx1
  go_loopw [31] (fun i wr => ∃ k : Nat, k ≤ 2 ∧ i = .int .i64 (k : Int) ∧ (1 ≤ k → z1 = 0) ∧ (2 ≤ k → z2 = 0) ∧ Blk wr g 34 (t1 ++ t2).toArray ∧ Blk wr w1.heap.size 32 (t1 ++ t2).toArray ∧ Ext w wr) (fun i _ => 2 - (intOf i).toNat)
  case atStart => exact ⟨0, by omega, rfl, fun h => absurd h (by omega), fun h => absurd h (by omega), hb3, hbn0, hx3⟩
  case round =>
    clear hb3 hbn0 hx3
    obtain ⟨k, hk, rfl, e1, e2, hb, hbn, hx⟩ := hrel
    rcases (by omega : k = 0 ∨ k = 1 ∨ k = 2) with rfl | rfl | rfl
    · have hr := (HRT.out _ _ hbn).1
      by_cases hz : z1 = 0
      · subst hz
        go_wp2_with (first
          | (show wpList _ _ _ (⟨some 34, _, _, _, _, _⟩ :: _) _ _; refine wpList_load_mid rfl 32 (.tmp 33) rfl _ 0 rfl t1 _ hr Tryd.underlying32 rfl (by rw [hl1.out]; exact sizeTbl) ?_)
          | (show wpList _ _ _ (⟨some 9, _, _, _, _, _⟩ :: _) _ _; refine wpList_alloc_abs' rfl (some 9) rfl 32 rfl _ zeroTbl ?_; intro w4 ga hba4 hx4 hga)
          | (show wpList _ _ _ (⟨none, .store _ (.tmp 9) (.tmp 34), _, _, _, _⟩ :: _) _ _; refine wpList_store_blk rfl 32 (.tmp 9) (.tmp 34) rfl _ _ rfl rfl hba4 17 sizeTbl hs1.out hz17.out HO1.out ?_; intro w5 hba5 hg5; have hx5 := (hx.trans hx4).grown hg5 (by have := hx.size; omega))
          | (show wpList _ _ _ (⟨some 35, _, _, _, _, _⟩ :: _) _ _; refine wpList_load_blk rfl 32 (.tmp 9) rfl _ rfl hba5 _ Tryd.underlying32 rfl 17 sizeTbl hs1.out ?_)
          | (go_at_call 48; (with_reducible refine (HC1.out _ hx5).mono ?_); rintro e w6 ⟨rfl, hx6⟩))
        go_roundw
        case rel => exact ⟨1, by omega, by go_num, by simp, fun h => absurd h (by omega), ((hb.ext hx4).grown hg5 (by have := hb.lt; simp; omega)).ext hx6, ((hbn.ext hx4).grown hg5 (by have := hbn.lt; simp; omega)).ext hx6, hx5.trans hx6⟩
        case measure => simp [intOf]
      · have hz1 : (z1 != 0) = true := by simpa using hz
        have HZ := hid_ hz
        clear hz
        go_wp2_with (first
          | (show wpList _ _ _ (⟨some 34, _, _, _, _, _⟩ :: _) _ _; refine wpList_load_mid rfl 32 (.tmp 33) rfl _ 0 rfl t1 _ hr Tryd.underlying32 rfl (by rw [hl1.out]; exact sizeTbl) ?_)
          | (show wpList _ _ _ (⟨some 9, _, _, _, _, _⟩ :: _) _ _; refine wpList_alloc_abs' rfl (some 9) rfl 32 rfl _ zeroTbl ?_; intro w4 ga hba4 hx4 hga)
          | (show wpList _ _ _ (⟨none, .store _ (.tmp 9) (.tmp 34), _, _, _, _⟩ :: _) _ _; refine wpList_store_blk rfl 32 (.tmp 9) (.tmp 34) rfl _ _ rfl rfl hba4 17 sizeTbl hs1.out hz17.out HO1.out ?_; intro w5 hba5 hg5; have hx5 := (hx.trans hx4).grown hg5 (by have := hx.size; omega))
          | (show wpList _ _ _ (⟨some 35, _, _, _, _, _⟩ :: _) _ _; refine wpList_load_blk rfl 32 (.tmp 9) rfl _ rfl hba5 _ Tryd.underlying32 rfl 17 sizeTbl hs1.out ?_)
          | (go_at_call 48; (with_reducible refine (HC1.out _ hx5).mono ?_); rintro e w6 ⟨rfl, hx6⟩))
        refine bodyPost_ret (results_tmp2 rfl _ _ _) rfl ?_
        refine ⟨hx5.trans hx6, ?_⟩
        rw [if_neg HNE.out, ← HR.out, if_neg HZ.out]
        rfl
    · have hr := (HRT.out _ _ hbn).2
      have hz0 := e1 (by omega)
      have hz2 : z2 = R := by rw [← HR.out, if_pos hz0]
      have hzb : (z2 != 0) = true := by rw [hz2]; simpa using HNE.out
      have HZ2 := hid_ hz2
      clear hz0 e1 e2 hz2
      go_wp2_with (first
        | (show wpList _ _ _ (⟨some 34, _, _, _, _, _⟩ :: _) _ _; refine wpList_load_mid rfl 32 (.tmp 33) rfl _ 17 rfl t2 _ hr Tryd.underlying32 rfl (by rw [hl2.out]; exact sizeTbl) ?_)
        | (show wpList _ _ _ (⟨some 9, _, _, _, _, _⟩ :: _) _ _; refine wpList_alloc_abs' rfl (some 9) rfl 32 rfl _ zeroTbl ?_; intro w4 ga hba4 hx4 hga)
        | (show wpList _ _ _ (⟨none, .store _ (.tmp 9) (.tmp 34), _, _, _, _⟩ :: _) _ _; refine wpList_store_blk rfl 32 (.tmp 9) (.tmp 34) rfl _ _ rfl rfl hba4 17 sizeTbl hs2.out hz17.out HO2.out ?_; intro w5 hba5 hg5; have hx5 := (hx.trans hx4).grown hg5 (by have := hx.size; omega))
        | (show wpList _ _ _ (⟨some 35, _, _, _, _, _⟩ :: _) _ _; refine wpList_load_blk rfl 32 (.tmp 9) rfl _ rfl hba5 _ Tryd.underlying32 rfl 17 sizeTbl hs2.out ?_)
        | (go_at_call 48; (with_reducible refine (HC2.out _ hx5).mono ?_); rintro e w6 ⟨rfl, hx6⟩))
      refine bodyPost_ret (results_tmp2 rfl _ _ _) rfl ?_
      refine ⟨hx5.trans hx6, ?_⟩
      rw [if_neg HNE.out, ← HZ2.out]
      rfl
    · exact absurd (by rw [← HR.out, if_pos (e1 (by omega)), e2 (by omega)]) HNE.out
set_option maxRecDepth 20000 in
set_option maxHeartbeats 8000000 in
theorem scanEnc_good (T1 T2 : List Tok) (f1 : FitT T1) (f2 : FitT T2) (t1 t2 : List Value) (A : Option Addr) (n c : Nat) (Z : List Int) (hZ : Z.length = n * 64) (e : Nat) (he : e ≤ 100) (w : World) (hs : SL w 64 (.slice A n c) n (ints Z)) (h1 : t1.length = 17) (h2 : t2.length = 17)
    (o1 : t1.toArray.all (·.oneCell') = true) (o2 : t2.toArray.all (·.oneCell') = true)
    (C1 : ∀ W, Ext w W → Calls Tryd.prog 48 #[.agg t1.toArray] W fun e W' => e = .returned (.int .i64 0) ∧ Ext W W')
    (C2 : ∀ W, Ext w W → Calls Tryd.prog 48 #[.agg t2.toArray] W fun e W' => e = .returned (.int .i64 0) ∧ Ext W W')
    (SG : ∀ W A' m c' P, Ext w W → P.length = m * 64 → SL W 64 (.slice A' m c') m (ints P) → Calls Tryd.prog 12 #[.agg (t1 ++ t2).toArray, .slice A' m c'] W (SegIs (segR T1 T2 m P) W)) :
    Calls Tryd.prog 18 #[.agg (t1 ++ t2).toArray, .slice A n c, .int .i64 (e : Int)] w (SegIs (scanR T1 T2 n e Z) w) := by
  have hl1 := hid_ h1
  have hl2 := hid_ h2
  have hsz := hid_ (tblsWhole h1 h2)
  have HB2 := hid_ (built2 t1 t2 h1 h2)
  have HRT := hid_ (fun W g (hb : Blk W g 32 (t1 ++ t2).toArray) => range_two h1 hb)
  have HRU := hid_ (fun W g (hb : Blk W g 34 (t1 ++ t2).toArray) => range_two h1 hb)
  have hs1 : Hid (t1.toArray.size = 17) := hid_ (by simpa using h1)
  have hs2 : Hid (t2.toArray.size = 17) := hid_ (by simpa using h2)
  have hz17 : Hid ((ints (List.replicate 16 0) ++ [Value.slice none 0 0]).toArray.size = 17) := hid_ (by simp [ints])
  have HO1 := hid_ o1
  have HO2 := hid_ o2
  have HC1 := hid_ C1
  have HC2 := hid_ C2
  have HSG := hid_ SG
  have HCO := hid_ (fun W (h : Ext w W) => counts_code A n c Z hZ W (hs.ext h))
  have HSL := hid_ (fun i m => segR_len f1 f2 m (pieceZ n e i Z))
  have HZ := hid_ hZ
  have HS := hid_ hs
  have H20 : Hid (decide ((e : Int) < 0) = false) := hid_ (by rw [decide_eq_false_iff_not]; omega)
  have H23 : Hid (decide ((100 : Int) < (e : Int)) = false) := hid_ (by rw [decide_eq_false_iff_not]; omega)
  have hnc : n ≤ c := by obtain ⟨A', c', q, q1, q2, -, -⟩ := hs; injection q with q3 q4 q5; omega
  clear o1 o2 C1 C2 h1 h2 SG hZ hs f1 f2
  obtain ⟨FR, hFR⟩ : ∃ r, scanR T1 T2 n e Z = r := ⟨_, rfl⟩
  have HFE : Hid (blocksE n Z ≠ 0 → FR = (blocksE n Z, [])) := hid_ (fun h => by rw [← hFR]; unfold scanR; rw [if_pos h])
  have HFO : Hid (blocksE n Z = 0 → FR = scanGo T1 T2 n e Z (cutK n e) 0 []) := hid_ (fun h => by rw [← hFR]; unfold scanR; rw [if_neg (by simp [h])])
  rw [hFR]
  clear hFR
  go_enter Tryd.func18, Tryd.ntmps18
  go_wp2_with (first
    | (show wpList _ _ _ (⟨some 20, _, _, _, _, _⟩ :: _) _ _; refine wl_run rfl (.bool false) (ex_lss rfl rfl rfl H20.out) ?_)
    | (show wpList _ _ _ (⟨some 23, _, _, _, _, _⟩ :: _) _ _; refine wl_run_g (by rfl) (.bool false) (ex_gtr rfl rfl rfl H23.out) ?_)
    | (show wpList _ _ _ (⟨some 3, _, _, _, _, _⟩ :: _) _ _; refine wpList_box_abs rfl 34 (.tmp 0) rfl (t1 ++ t2).toArray rfl ?_; intro w1 g hb1 hx1 hg; have hr1 := HRU.out _ _ hb1)
    | (show wpList _ _ _ (⟨some 26, _, _, _, _, _⟩ :: _) _ _; refine wpList_load_mid rfl 32 (.tmp 25) rfl g 0 rfl t1 _ hr1.1 Tryd.underlying32 rfl (by rw [hl1.out]; exact sizeTbl) ?_)
    | (show wpList _ _ _ (⟨some 28, _, _, _, _, _⟩ :: _) _ _; refine wpList_load_mid rfl 32 (.tmp 27) rfl g 17 rfl t2 _ hr1.2 Tryd.underlying32 rfl (by rw [hl2.out]; exact sizeTbl) ?_)
    | (show wpList _ _ _ (⟨some 29, _, _, _, _, _⟩ :: _) _ _; refine Go.Great.wpList_buildSliceTo rfl 102 32 2 _ rfl _ rfl (some 29) rfl Tryd.underlying102 _ (by simp [Act.eval]; exact HB2.out) ?_))
  have hbn0 := Blk.new w1 32 (t1 ++ t2).toArray
  have hb3 := hb1.alloc (.cells (t1 ++ t2).toArray 32)
  have hx3 := hx1.alloc (.cells (t1 ++ t2).toArray 32)
  clear hb1 hr1 hx1
  go_loopw [31] (fun i wr => ∃ k : Nat, k ≤ 2 ∧ i = .int .i64 (k : Int) ∧ Blk wr g 34 (t1 ++ t2).toArray ∧ Blk wr w1.heap.size 32 (t1 ++ t2).toArray ∧ Ext w wr) (fun i _ => 2 - (intOf i).toNat)
  case atStart => exact ⟨0, by omega, rfl, hb3, hbn0, hx3⟩
  case round =>
    clear hb3 hbn0 hx3
    obtain ⟨k, hk, rfl, hb, hbn, hx⟩ := hrel
    rcases (by omega : k = 0 ∨ k = 1 ∨ k = 2) with rfl | rfl | rfl
    · have hr := (HRT.out _ _ hbn).1
      go_wp2_with (first
        | (show wpList _ _ _ (⟨some 34, _, _, _, _, _⟩ :: _) _ _; refine wpList_load_mid rfl 32 (.tmp 33) rfl _ 0 rfl t1 _ hr Tryd.underlying32 rfl (by rw [hl1.out]; exact sizeTbl) ?_)
        | (show wpList _ _ _ (⟨some 9, _, _, _, _, _⟩ :: _) _ _; refine wpList_alloc_abs' rfl (some 9) rfl 32 rfl _ zeroTbl ?_; intro w4 ga hba4 hx4 hga)
        | (show wpList _ _ _ (⟨none, .store _ (.tmp 9) (.tmp 34), _, _, _, _⟩ :: _) _ _; refine wpList_store_blk rfl 32 (.tmp 9) (.tmp 34) rfl _ _ rfl rfl hba4 17 sizeTbl hs1.out hz17.out HO1.out ?_; intro w5 hba5 hg5; have hx5 := (hx.trans hx4).grown hg5 (by have := hx.size; omega))
        | (show wpList _ _ _ (⟨some 35, _, _, _, _, _⟩ :: _) _ _; refine wpList_load_blk rfl 32 (.tmp 9) rfl _ rfl hba5 _ Tryd.underlying32 rfl 17 sizeTbl hs1.out ?_)
        | (go_at_call 48; (with_reducible refine (HC1.out _ hx5).mono ?_); rintro e w6 ⟨rfl, hx6⟩))
      go_roundw
      case rel => exact ⟨1, by omega, by go_num, ((hb.ext hx4).grown hg5 (by have := hb.lt; simp; omega)).ext hx6, ((hbn.ext hx4).grown hg5 (by have := hbn.lt; simp; omega)).ext hx6, hx5.trans hx6⟩
      case measure => simp [intOf]
    · have hr := (HRT.out _ _ hbn).2
      go_wp2_with (first
        | (show wpList _ _ _ (⟨some 34, _, _, _, _, _⟩ :: _) _ _; refine wpList_load_mid rfl 32 (.tmp 33) rfl _ 17 rfl t2 _ hr Tryd.underlying32 rfl (by rw [hl2.out]; exact sizeTbl) ?_)
        | (show wpList _ _ _ (⟨some 9, _, _, _, _, _⟩ :: _) _ _; refine wpList_alloc_abs' rfl (some 9) rfl 32 rfl _ zeroTbl ?_; intro w4 ga hba4 hx4 hga)
        | (show wpList _ _ _ (⟨none, .store _ (.tmp 9) (.tmp 34), _, _, _, _⟩ :: _) _ _; refine wpList_store_blk rfl 32 (.tmp 9) (.tmp 34) rfl _ _ rfl rfl hba4 17 sizeTbl hs2.out hz17.out HO2.out ?_; intro w5 hba5 hg5; have hx5 := (hx.trans hx4).grown hg5 (by have := hx.size; omega))
        | (show wpList _ _ _ (⟨some 35, _, _, _, _, _⟩ :: _) _ _; refine wpList_load_blk rfl 32 (.tmp 9) rfl _ rfl hba5 _ Tryd.underlying32 rfl 17 sizeTbl hs2.out ?_)
        | (go_at_call 48; (with_reducible refine (HC2.out _ hx5).mono ?_); rintro e w6 ⟨rfl, hx6⟩))
      go_roundw
      case rel => exact ⟨2, by omega, by go_num, ((hb.ext hx4).grown hg5 (by have := hb.lt; simp; omega)).ext hx6, ((hbn.ext hx4).grown hg5 (by have := hbn.lt; simp; omega)).ext hx6, hx5.trans hx6⟩
      case measure => simp [intOf]
    · clear HRT HRU HB2 HC1 HC2 hbn hs1 hs2 hz17 HO1 HO2 hl1 hl2
      generalize (t1 ++ t2).toArray = tt at *
      by_cases hbe : blocksE n Z = 0
      · have hn4 := blocksE_le hbe
        rw [hbe] at HCO
        have HSP := hid_ (fun W => spans_any n e (by omega) (by omega) W)
        have hK := cutK_le (n := n) (e := e)
        have hRR : ∃ R, scanGo T1 T2 n e Z (cutK n e) 0 [] = R := ⟨_, rfl⟩
        obtain ⟨R, hRR⟩ := hRR
        have HR0 : Hid (scanGo T1 T2 n e Z (cutK n e - 0) 0 [] = R) := hid_ hRR
        have HFR : Hid (FR = R) := hid_ (by rw [HFO.out hbe, hRR])
        have HAT := hid_ (fun i (h : i < cutK n e) => cut_at h)
        obtain ⟨K, hKK⟩ : ∃ K, cutK n e = K := ⟨_, rfl⟩
        rw [hKK] at HSP HR0 HAT hK
        clear hRR hKK hbe HFE HFO
        go_wp2_with (first
          | (go_at_call 49; (with_reducible refine (HCO.out _ hx).mono ?_); rintro e w2 ⟨u2, v2, rfl, hx2⟩; have hx2' := hx.trans hx2)
          | (go_at_call 50; (with_reducible refine (HSP.out _).mono ?_); rintro e w3 ⟨B3, d3, rfl, hsp, hx3⟩; have hx3' := hx2'.trans hx3))
        have hg3 := (hb.ext hx2).ext hx3
        have how : OwnV w3 w3.heap.size 5 1 (.slice none 0 0) 0 (bytesV []) := by unfold bytesV; exact OwnV.nil _ _ _ _
        have HSP3 := hid_ hsp
        have HG3 := hid_ hg3
        have HX3 := hid_ hx3'
        clear hb hx hx2 hx2' hx3 hx3' hsp hg3
        go_loopw [14, 55] (fun x iv wr => ∃ (i m : Nat) (acc : List Nat), i ≤ K ∧ iv = .int .i64 (i : Int) ∧ Hid (acc.length = m) ∧ m ≤ i * 1000000002 ∧ OwnV wr w3.heap.size 5 1 x m (bytesV acc) ∧ Hid (scanGo T1 T2 n e Z (K - i) i acc = R) ∧ Ext w3 wr) (fun _ i _ => K - (intOf i).toNat)
        case atStart => exact ⟨0, 0, [], by omega, rfl, hid_ rfl, by omega, how, HR0, Ext.refl _⟩
        case round =>
          clear how HR0
          obtain ⟨i, m, acc, hi, rfl, HM, hm, ⟨OA, oc, rfl, hown⟩, HR, hx⟩ := hrel
          by_cases hlt : i < K
          · obtain ⟨td, hB, htb, htc⟩ := (HSP3.out.ext hx).part hlt
            subst hB
            obtain ⟨lo, hlo⟩ : ∃ q, i * cutE n e = q := ⟨_, rfl⟩
            obtain ⟨hh, hhh⟩ : ∃ q, min (lo + cutE n e) n = q := ⟨_, rfl⟩
            obtain ⟨ln, hln⟩ : ∃ q, min (n - lo) (cutE n e) = q := ⟨_, rfl⟩
            have e2 : ((ints (spansL n e K)).drop (i * 2)).take 2 = ints [(lo : Int), (hh : Int)] := by
              have h := spansL_at n e K i hlt
              rw [hlo, hhh] at h
              rw [← h]
              simp [ints, List.map_drop, List.map_take]
            rw [e2] at htc
            have hlon : lo ≤ n := by rw [← hlo]; exact HAT.out i hlt
            have hlh : lo ≤ hh := by omega
            have hhn : hh ≤ n := by omega
            have hd : hh - lo = ln := by omega
            have HTC := hid_ htc
            have HBV := hid_ (bv_out [(lo : Int), (hh : Int)])
            have HS2 := hid_ (show (bv [(lo : Int), (hh : Int)]).size = 2 by rw [bv_size]; rfl)
            have HS20 := hid_ (show (Value.agg (bv [0, 0])).cells.size = 2 by rw [show (Value.agg (bv [0, 0])).cells = bv [0, 0] from rfl, bv_size]; rfl)
            have HO2 := hid_ (bv_one [(lo : Int), (hh : Int)])
            have HP : Hid ((pieceZ n e i Z).length = ln * 64) := hid_ (by rw [pieceZ_len HZ.out, hlo, hln])
            have HPS := hid_ (fun W (h : Ext w W) => (HS.out.ext h).subK hlh hhn)
            have e3 : ((ints Z).drop (lo * 64)).take ((hh - lo) * 64) = ints (pieceZ n e i Z) := by
              unfold pieceZ
              rw [hlo, hln, hd]
              simp [ints, List.map_drop, List.map_take]
            rw [e3, hd] at HPS
            have HSR := hid_ (fun W (h : Ext w W) => HSG.out W _ _ _ _ h HP.out (HPS.out W h))
            have HER : Hid (∀ r, segR T1 T2 ln (pieceZ n e i Z) = r → r.1 ≠ 0 → R = (r.1, [])) := hid_ (fun r h h0 => by rw [← HR.out, show K - i = (K - (i + 1)) + 1 by omega]; exact scanGo_err (by rw [hlo, hln]; exact h) h0)
            have HOK : Hid (∀ r, segR T1 T2 ln (pieceZ n e i Z) = r → r.1 = 0 → scanGo T1 T2 n e Z (K - (i + 1)) (i + 1) (acc ++ markZ i ++ r.2) = R) := hid_ (fun r h h0 => by rw [← HR.out, show K - i = (K - (i + 1)) + 1 by omega]; exact (scanGo_ok (by rw [hlo, hln]; exact h) h0).symm)
            have hsl := HSL.out i ln
            obtain ⟨r, hr⟩ : ∃ r, segR T1 T2 ln (pieceZ n e i Z) = r := ⟨_, rfl⟩
            rw [hr] at HSR hsl
            have HER := hid_ (HER.out r hr)
            have HOK := hid_ (HOK.out r hr)
            obtain ⟨cl, hcl⟩ : ∃ q, c - lo = q := ⟨_, rfl⟩
            rw [hcl] at HSR
            have HSUB := hid_ (fun (o : Oper) (a : Act) (x lo' hi' : Operand) (ho : o.op = .slice 35 x (some lo') (some hi') none) (hx : a.eval x = .slice A n c) (h1 : a.eval lo' = .int .i64 (lo : Int)) (h2 : a.eval hi' = .int .i64 (hh : Int)) (W : World) => ex_subK ho hx h1 h2 hlh hhn hnc W)
            rw [hd, hcl] at HSUB
            generalize subA A c lo = SA at *
            generalize pieceZ n e i Z = P at *
            generalize bv [(lo : Int), (hh : Int)] = sp at *
            have HC0 : Hid (sp[0]? = some (.int .i64 (lo : Int)) ∧ sp[1]? = some (.int .i64 (hh : Int))) := hid_ (by rw [← HBV.out]; exact ⟨rfl, rfl⟩)
            clear htc e2 hr e3 hcl hd hln hhh hlo hhn hlh hlon HR HPS HP
            obtain ⟨r1, r2⟩ := r
            dsimp only at hsl HER HOK
            have HRA : Hid (∀ W e W', SegIs (r1, r2) W e W' → ∃ B k d, e = .returned (.tuple #[.slice B k d, .int .i64 r1]) ∧ (r1 = 0 → r2.length = k ∧ SL W' 1 (.slice B k d) k (bytesV r2)) ∧ Ext W W') := hid_ (fun W e W' h => by
              obtain ⟨hx, h⟩ := h
              by_cases h0 : r1 = 0
              · subst h0
                rw [if_pos rfl] at h
                obtain ⟨B, k, d, rfl, h1, h2, -⟩ := h
                exact ⟨B, k, d, rfl, fun _ => ⟨h1, h2⟩, hx⟩
              · rw [if_neg h0] at h
                exact ⟨none, 0, 0, h, fun h => absurd h h0, hx⟩)
            have htd : td.block < wr.heap.size := htb
            clear htb
            by_cases hp : 0 < i
            · have H61 : Hid (decide ((0 : Int) < (i : Int)) = true) := hid_ (by rw [decide_eq_true]; omega)
              obtain ⟨i1, hi1⟩ : ∃ q, i - 1 = q := ⟨_, rfl⟩
              have HI1 := hid_ hi1
              obtain ⟨q, hq⟩ : ∃ q, 208 + i1 % 8 = q := ⟨_, rfl⟩
              have HMK := hid_ (fun W => mark_any i1 (by omega) W)
              rw [hq] at HMK
              have hq2 : q < 256 := by omega
              have HMZ : Hid (markZ i = [255, q]) := hid_ (by unfold markZ; rw [if_neg (by omega), hi1, hq])
              clear hi1 hq
              by_cases h0 : r1 = 0
              · subst h0
                go_wp2_with (first
                  | (show wpList _ _ _ (⟨some 59, _, _, _, _, _⟩ :: _) _ _; refine wpList_load_any (by rfl) 109 (.tmp 58) rfl (td.add (i * 2)) rfl (ints [(lo : Int), (hh : Int)]) _ HTC.out Tryd.underlying109 rfl sizeSpan ?_; rw [HBV.out])
                  | (show wpList _ _ _ (⟨some 16, _, _, _, _, _⟩ :: _) _ _; refine wpList_alloc_abs' rfl (some 16) rfl 109 rfl _ zeroSpan ?_; intro w4 g16 hb4 hx4 hg4)
                  | (show wpList _ _ _ (⟨none, .store _ (.tmp 16) (.tmp 59), _, _, _, _⟩ :: _) _ _; refine wpList_store_blk rfl 109 (.tmp 16) (.tmp 59) rfl _ _ rfl rfl hb4 2 sizeSpan HS2.out HS20.out HO2.out ?_; intro w5 hb5 hg5; have hx5 : Ext wr w5 := hx4.grown hg5 hg4)
                  | (show wpList _ _ _ (⟨some 61, _, _, _, _, _⟩ :: _) _ _; refine wl_run rfl (.bool true) (ex_gtr rfl rfl rfl H61.out) ?_)
                  | (show wpList _ _ _ (⟨some 64, _, _, _, _, _⟩ :: _) _ _; refine wl_run rfl (.int .i64 ((i1 : Nat) : Int)) (by rw [← HI1.out]; exact ex_subN (i := i) (d := 1) rfl rfl rfl (by omega) (by omega)) ?_)
                  | (go_at_call 51; (with_reducible refine (HMK.out _).mono ?_); rintro e w6 ⟨rfl, rfl⟩)
                  | (show wpList _ _ _ (⟨some 66, _, _, _, _, _⟩ :: _) _ _; refine wl_run rfl (.int .u8 ((q : Nat) : Int)) (ex_convS rfl rfl (by omega)) ?_)
                  | (show wpList _ _ _ (⟨some 67, _, _, _, _, _⟩ :: _) _ _; refine wpList_lit2B rfl _ _ rfl (some 67) rfl 255 q rfl rfl ?_; intro w7 g7 hb7 hx7 hg7; have ho7 := own_keep hown (hx5.trans hx7))
                  | (show wpList _ _ _ (⟨some 68, _, _, _, _, _⟩ :: _) _ _; at_builtin; refine wpList_append_slf elt_by rfl (.tmp 62) (.tmp 67) rfl w3.heap.size (.slice OA m oc) m (bytesV acc) rfl ho7 _ 2 (bytesV [255, q]) rfl (byte_row rfl hb7) (byteOne _) (by omega) (by omega) (by have := hx.size; have := (hx5.trans hx7).size; omega) ?_; intro A8 c8 w8 ho8 hgr8 hor8; have hx8 := ((hx.trans hx5).trans hx7).grown' hgr8 (fun b hb => (ho7.lt b hb).1); have hb8 := (upd_grown hgr8).blk (hb5.ext hx7) (fun e => own_blkE (hb5.ext hx7) ho7 spanNe e.symm)))
                have hx8d : Ext w3 w8.drew := hx8.drew
                have hb8d := hb8.drew
                have ho8d : w8.drew.ownsRow w3.heap.size 5 1 (.slice A8 (m + 2) c8) (m + 2) (bytesV acc ++ bytesV [255, q]) := ho8
                clear hb7 hx7 hg7 ho7 ho8 hgr8 hor8 hx8 hb8 hb4 hx4 hg4 hb5 hg5 hx5
                have HGX := hid_ (fun W (h : Ext w8.drew W) => ((HG3.out.ext hx8d).ext h))
                have hI : Ext w8.drew w8.drew := Ext.refl _
                refine wp_region_oi (Ext w8.drew) (by kernel_rfl) ?_
                refine oi_fix (k := 0) (by kernel_rfl) rfl (by rfl) (.agg tt) (fun W hW => ex_loadB rfl rfl (HGX.out W hW) Tryd.underlying34 rfl sizeTbls hsz.out) hI ?_
                simp only [Act.put, List.setIfInBounds_toArray, List.set_cons_succ, List.set_cons_zero]
                refine oi_run (k := 1) (by kernel_rfl) rfl (by rfl) (.slice A n c) (ex_move rfl rfl) hI ?_
                simp only [Act.put, List.setIfInBounds_toArray, List.set_cons_succ, List.set_cons_zero]
                refine oi_run (k := 2) (by kernel_rfl) rfl (by rfl) (.pointer (some ⟨g16, 0, none⟩)) (fun w => by go_simp) hI ?_
                simp only [Act.put, List.setIfInBounds_toArray, List.set_cons_succ, List.set_cons_zero]
                refine oi_fix (k := 3) (by kernel_rfl) rfl (by rfl) (.int .i64 (lo : Int)) (fun W hW => ex_loadI rfl rfl (((hb8d.ext hW).cell 0).trans HC0.out.1)) hI ?_
                simp only [Act.put, List.setIfInBounds_toArray, List.set_cons_succ, List.set_cons_zero]
                refine oi_run (k := 4) (by kernel_rfl) rfl (by rfl) (.pointer (some ⟨g16, 1, none⟩)) (fun w => by go_simp) hI ?_
                simp only [Act.put, List.setIfInBounds_toArray, List.set_cons_succ, List.set_cons_zero]
                refine oi_fix (k := 5) (by kernel_rfl) rfl (by rfl) (.int .i64 (hh : Int)) (fun W hW => ex_loadI rfl rfl (((hb8d.ext hW).cell 1).trans HC0.out.2)) hI ?_
                simp only [Act.put, List.setIfInBounds_toArray, List.set_cons_succ, List.set_cons_zero]
                refine oi_run (k := 6) (by kernel_rfl) rfl (by rfl) (.slice SA ln cl) (HSUB.out _ _ _ _ _ rfl rfl rfl rfl) hI ?_
                simp only [Act.put, List.setIfInBounds_toArray, List.set_cons_succ, List.set_cons_zero]
                refine oi_loud (k := 7) (by kernel_rfl) rfl ?_
                refine wl_enter (by rfl) (run_callv _ _ _ rfl rfl goesSegEnc #[.agg tt, .slice SA ln cl] (by simp [Act.eval])) ?_
                refine (HSR.out _ (HX3.out.trans hx8d)).mono ?_
                intro e9 w9 h9
                obtain ⟨B9, k9, d9, rfl, hr9, hx9⟩ := HRA.out _ _ _ h9
                refine ⟨_, rfl, oi_end ⟨hx9, ?_⟩⟩
                simp only [Act.put, List.setIfInBounds_toArray, List.set_cons_succ, List.set_cons_zero]
                refine oi_run (k := 8) (by kernel_rfl) rfl (by rfl) (.tuple #[.slice B9 k9 d9, .int .i64 0]) (ex_move rfl rfl) hx9 ?_
                simp only [Act.put, List.setIfInBounds_toArray, List.set_cons_succ, List.set_cons_zero]
                refine oi_run (k := 9) (by kernel_rfl) rfl (by rfl) (.slice B9 k9 d9) (ex_extract rfl rfl rfl) hx9 ?_
                simp only [Act.put, List.setIfInBounds_toArray, List.set_cons_succ, List.set_cons_zero]
                refine oi_run (k := 10) (by kernel_rfl) rfl (by rfl) (.int .i64 0) (ex_extract rfl rfl rfl) hx9 ?_
                simp only [Act.put, List.setIfInBounds_toArray, List.set_cons_succ, List.set_cons_zero]
                refine oi_run (k := 11) (by kernel_rfl) rfl (by rfl) (.slice B9 k9 d9) (ex_assign rfl rfl) hx9 ?_
                simp only [Act.put, List.setIfInBounds_toArray, List.set_cons_succ, List.set_cons_zero]
                refine oi_run (k := 12) (by kernel_rfl) rfl (by rfl) (.int .i64 0) (ex_assign rfl rfl) hx9 ?_
                simp only [Act.put, List.setIfInBounds_toArray, List.set_cons_succ, List.set_cons_zero]
                refine oi_done (by kernel_rfl) ?_
                obtain ⟨hk9, hs9⟩ := hr9 (by first | rfl | trivial)
                have ho9 := own_keep ho8d hx9
                go_wp2_with (first
                  | (show wpList _ _ _ (⟨some 85, _, _, _, _, _⟩ :: _) _ _; at_builtin; refine wpList_append_slf elt_by rfl (.tmp 83) (.tmp 84) rfl w3.heap.size (.slice A8 (m + 2) c8) (m + 2) (bytesV acc ++ bytesV [255, q]) rfl ho9 _ k9 (bytesV r2) rfl hs9 (byteOne _) (by omega) (by omega) (by have := (hx8d.trans hx9).size; omega) ?_; intro A10 c10 w10 ho10 hgr10 hor10; have hx10 := (hx8d.trans hx9).grown' hgr10 (fun b hb => (ho9.lt b hb).1)))
                go_roundw
                case rel =>
                  refine ⟨i + 1, m + 2 + k9, acc ++ markZ i ++ r2, by omega, by go_num, hid_ ?_, by omega, ⟨A10, c10, rfl, ?_⟩, HOK.out (by first | rfl | trivial), hx10⟩
                  · rw [List.length_append, List.length_append, HM.out, hk9, HMZ.out]; rfl
                  · rw [bytesV_app', bytesV_app', HMZ.out]
                    exact ho10
                case measure => simp [intOf]; omega
              · have h0b : (r1 != 0) = true := by simpa using h0
                have H0N := hid_ h0
                clear h0
                go_wp2_with (first
                  | (show wpList _ _ _ (⟨some 59, _, _, _, _, _⟩ :: _) _ _; refine wpList_load_any (by rfl) 109 (.tmp 58) rfl (td.add (i * 2)) rfl (ints [(lo : Int), (hh : Int)]) _ HTC.out Tryd.underlying109 rfl sizeSpan ?_; rw [HBV.out])
                  | (show wpList _ _ _ (⟨some 16, _, _, _, _, _⟩ :: _) _ _; refine wpList_alloc_abs' rfl (some 16) rfl 109 rfl _ zeroSpan ?_; intro w4 g16 hb4 hx4 hg4)
                  | (show wpList _ _ _ (⟨none, .store _ (.tmp 16) (.tmp 59), _, _, _, _⟩ :: _) _ _; refine wpList_store_blk rfl 109 (.tmp 16) (.tmp 59) rfl _ _ rfl rfl hb4 2 sizeSpan HS2.out HS20.out HO2.out ?_; intro w5 hb5 hg5; have hx5 : Ext wr w5 := hx4.grown hg5 hg4)
                  | (show wpList _ _ _ (⟨some 61, _, _, _, _, _⟩ :: _) _ _; refine wl_run rfl (.bool true) (ex_gtr rfl rfl rfl H61.out) ?_)
                  | (show wpList _ _ _ (⟨some 64, _, _, _, _, _⟩ :: _) _ _; refine wl_run rfl (.int .i64 ((i1 : Nat) : Int)) (by rw [← HI1.out]; exact ex_subN (i := i) (d := 1) rfl rfl rfl (by omega) (by omega)) ?_)
                  | (go_at_call 51; (with_reducible refine (HMK.out _).mono ?_); rintro e w6 ⟨rfl, rfl⟩)
                  | (show wpList _ _ _ (⟨some 66, _, _, _, _, _⟩ :: _) _ _; refine wl_run rfl (.int .u8 ((q : Nat) : Int)) (ex_convS rfl rfl (by omega)) ?_)
                  | (show wpList _ _ _ (⟨some 67, _, _, _, _, _⟩ :: _) _ _; refine wpList_lit2B rfl _ _ rfl (some 67) rfl 255 q rfl rfl ?_; intro w7 g7 hb7 hx7 hg7; have ho7 := own_keep hown (hx5.trans hx7))
                  | (show wpList _ _ _ (⟨some 68, _, _, _, _, _⟩ :: _) _ _; at_builtin; refine wpList_append_slf elt_by rfl (.tmp 62) (.tmp 67) rfl w3.heap.size (.slice OA m oc) m (bytesV acc) rfl ho7 _ 2 (bytesV [255, q]) rfl (byte_row rfl hb7) (byteOne _) (by omega) (by omega) (by have := hx.size; have := (hx5.trans hx7).size; omega) ?_; intro A8 c8 w8 ho8 hgr8 hor8; have hx8 := ((hx.trans hx5).trans hx7).grown' hgr8 (fun b hb => (ho7.lt b hb).1); have hb8 := (upd_grown hgr8).blk (hb5.ext hx7) (fun e => own_blkE (hb5.ext hx7) ho7 spanNe e.symm)))
                have hx8d : Ext w3 w8.drew := hx8.drew
                have hb8d := hb8.drew
                have ho8d : w8.drew.ownsRow w3.heap.size 5 1 (.slice A8 (m + 2) c8) (m + 2) (bytesV acc ++ bytesV [255, q]) := ho8
                clear hb7 hx7 hg7 ho7 ho8 hgr8 hor8 hx8 hb8 hb4 hx4 hg4 hb5 hg5 hx5
                have HGX := hid_ (fun W (h : Ext w8.drew W) => ((HG3.out.ext hx8d).ext h))
                have hI : Ext w8.drew w8.drew := Ext.refl _
                refine wp_region_oi (Ext w8.drew) (by kernel_rfl) ?_
                refine oi_fix (k := 0) (by kernel_rfl) rfl (by rfl) (.agg tt) (fun W hW => ex_loadB rfl rfl (HGX.out W hW) Tryd.underlying34 rfl sizeTbls hsz.out) hI ?_
                simp only [Act.put, List.setIfInBounds_toArray, List.set_cons_succ, List.set_cons_zero]
                refine oi_run (k := 1) (by kernel_rfl) rfl (by rfl) (.slice A n c) (ex_move rfl rfl) hI ?_
                simp only [Act.put, List.setIfInBounds_toArray, List.set_cons_succ, List.set_cons_zero]
                refine oi_run (k := 2) (by kernel_rfl) rfl (by rfl) (.pointer (some ⟨g16, 0, none⟩)) (fun w => by go_simp) hI ?_
                simp only [Act.put, List.setIfInBounds_toArray, List.set_cons_succ, List.set_cons_zero]
                refine oi_fix (k := 3) (by kernel_rfl) rfl (by rfl) (.int .i64 (lo : Int)) (fun W hW => ex_loadI rfl rfl (((hb8d.ext hW).cell 0).trans HC0.out.1)) hI ?_
                simp only [Act.put, List.setIfInBounds_toArray, List.set_cons_succ, List.set_cons_zero]
                refine oi_run (k := 4) (by kernel_rfl) rfl (by rfl) (.pointer (some ⟨g16, 1, none⟩)) (fun w => by go_simp) hI ?_
                simp only [Act.put, List.setIfInBounds_toArray, List.set_cons_succ, List.set_cons_zero]
                refine oi_fix (k := 5) (by kernel_rfl) rfl (by rfl) (.int .i64 (hh : Int)) (fun W hW => ex_loadI rfl rfl (((hb8d.ext hW).cell 1).trans HC0.out.2)) hI ?_
                simp only [Act.put, List.setIfInBounds_toArray, List.set_cons_succ, List.set_cons_zero]
                refine oi_run (k := 6) (by kernel_rfl) rfl (by rfl) (.slice SA ln cl) (HSUB.out _ _ _ _ _ rfl rfl rfl rfl) hI ?_
                simp only [Act.put, List.setIfInBounds_toArray, List.set_cons_succ, List.set_cons_zero]
                refine oi_loud (k := 7) (by kernel_rfl) rfl ?_
                refine wl_enter (by rfl) (run_callv _ _ _ rfl rfl goesSegEnc #[.agg tt, .slice SA ln cl] (by simp [Act.eval])) ?_
                refine (HSR.out _ (HX3.out.trans hx8d)).mono ?_
                intro e9 w9 h9
                obtain ⟨B9, k9, d9, rfl, hr9, hx9⟩ := HRA.out _ _ _ h9
                refine ⟨_, rfl, oi_end ⟨hx9, ?_⟩⟩
                simp only [Act.put, List.setIfInBounds_toArray, List.set_cons_succ, List.set_cons_zero]
                refine oi_run (k := 8) (by kernel_rfl) rfl (by rfl) (.tuple #[.slice B9 k9 d9, .int .i64 r1]) (ex_move rfl rfl) hx9 ?_
                simp only [Act.put, List.setIfInBounds_toArray, List.set_cons_succ, List.set_cons_zero]
                refine oi_run (k := 9) (by kernel_rfl) rfl (by rfl) (.slice B9 k9 d9) (ex_extract rfl rfl rfl) hx9 ?_
                simp only [Act.put, List.setIfInBounds_toArray, List.set_cons_succ, List.set_cons_zero]
                refine oi_run (k := 10) (by kernel_rfl) rfl (by rfl) (.int .i64 r1) (ex_extract rfl rfl rfl) hx9 ?_
                simp only [Act.put, List.setIfInBounds_toArray, List.set_cons_succ, List.set_cons_zero]
                refine oi_run (k := 11) (by kernel_rfl) rfl (by rfl) (.slice B9 k9 d9) (ex_assign rfl rfl) hx9 ?_
                simp only [Act.put, List.setIfInBounds_toArray, List.set_cons_succ, List.set_cons_zero]
                refine oi_run (k := 12) (by kernel_rfl) rfl (by rfl) (.int .i64 r1) (ex_assign rfl rfl) hx9 ?_
                simp only [Act.put, List.setIfInBounds_toArray, List.set_cons_succ, List.set_cons_zero]
                refine oi_done (by kernel_rfl) ?_
                go_wp2_with fail
                refine bodyPost_ret (results_tmp2 rfl _ _ _) rfl ?_
                rw [HFR.out, HER.out H0N.out]
                refine ⟨HX3.out.trans (hx8d.trans hx9), ?_⟩
                rw [if_neg H0N.out]
                rfl
            · have H61 : Hid (decide ((0 : Int) < (i : Int)) = false) := hid_ (by rw [decide_eq_false_iff_not]; omega)
              have HMZ : Hid (markZ i = []) := hid_ (by unfold markZ; rw [if_pos (by omega)])
              by_cases h0 : r1 = 0
              · subst h0
                go_wp2_with (first
                  | (show wpList _ _ _ (⟨some 59, _, _, _, _, _⟩ :: _) _ _; refine wpList_load_any (by rfl) 109 (.tmp 58) rfl (td.add (i * 2)) rfl (ints [(lo : Int), (hh : Int)]) _ HTC.out Tryd.underlying109 rfl sizeSpan ?_; rw [HBV.out])
                  | (show wpList _ _ _ (⟨some 16, _, _, _, _, _⟩ :: _) _ _; refine wpList_alloc_abs' rfl (some 16) rfl 109 rfl _ zeroSpan ?_; intro w4 g16 hb4 hx4 hg4)
                  | (show wpList _ _ _ (⟨none, .store _ (.tmp 16) (.tmp 59), _, _, _, _⟩ :: _) _ _; refine wpList_store_blk rfl 109 (.tmp 16) (.tmp 59) rfl _ _ rfl rfl hb4 2 sizeSpan HS2.out HS20.out HO2.out ?_; intro w5 hb5 hg5; have hx5 : Ext wr w5 := hx4.grown hg5 hg4)
                  | (show wpList _ _ _ (⟨some 61, _, _, _, _, _⟩ :: _) _ _; refine wl_run rfl (.bool false) (ex_gtr rfl rfl rfl H61.out) ?_))
                have hx8d : Ext w3 w5.drew := (hx.trans hx5).drew
                have hb8d := hb5.drew
                have ho8d := own_keep hown (hx5.drew)
                clear hb4 hx4 hg4 hb5 hg5 hx5
                have HGX := hid_ (fun W (h : Ext w5.drew W) => ((HG3.out.ext hx8d).ext h))
                have hI : Ext w5.drew w5.drew := Ext.refl _
                refine wp_region_oi (Ext w5.drew) (by kernel_rfl) ?_
                refine oi_fix (k := 0) (by kernel_rfl) rfl (by rfl) (.agg tt) (fun W hW => ex_loadB rfl rfl (HGX.out W hW) Tryd.underlying34 rfl sizeTbls hsz.out) hI ?_
                simp only [Act.put, List.setIfInBounds_toArray, List.set_cons_succ, List.set_cons_zero]
                refine oi_run (k := 1) (by kernel_rfl) rfl (by rfl) (.slice A n c) (ex_move rfl rfl) hI ?_
                simp only [Act.put, List.setIfInBounds_toArray, List.set_cons_succ, List.set_cons_zero]
                refine oi_run (k := 2) (by kernel_rfl) rfl (by rfl) (.pointer (some ⟨g16, 0, none⟩)) (fun w => by go_simp) hI ?_
                simp only [Act.put, List.setIfInBounds_toArray, List.set_cons_succ, List.set_cons_zero]
                refine oi_fix (k := 3) (by kernel_rfl) rfl (by rfl) (.int .i64 (lo : Int)) (fun W hW => ex_loadI rfl rfl (((hb8d.ext hW).cell 0).trans HC0.out.1)) hI ?_
                simp only [Act.put, List.setIfInBounds_toArray, List.set_cons_succ, List.set_cons_zero]
                refine oi_run (k := 4) (by kernel_rfl) rfl (by rfl) (.pointer (some ⟨g16, 1, none⟩)) (fun w => by go_simp) hI ?_
                simp only [Act.put, List.setIfInBounds_toArray, List.set_cons_succ, List.set_cons_zero]
                refine oi_fix (k := 5) (by kernel_rfl) rfl (by rfl) (.int .i64 (hh : Int)) (fun W hW => ex_loadI rfl rfl (((hb8d.ext hW).cell 1).trans HC0.out.2)) hI ?_
                simp only [Act.put, List.setIfInBounds_toArray, List.set_cons_succ, List.set_cons_zero]
                refine oi_run (k := 6) (by kernel_rfl) rfl (by rfl) (.slice SA ln cl) (HSUB.out _ _ _ _ _ rfl rfl rfl rfl) hI ?_
                simp only [Act.put, List.setIfInBounds_toArray, List.set_cons_succ, List.set_cons_zero]
                refine oi_loud (k := 7) (by kernel_rfl) rfl ?_
                refine wl_enter (by rfl) (run_callv _ _ _ rfl rfl goesSegEnc #[.agg tt, .slice SA ln cl] (by simp [Act.eval])) ?_
                refine (HSR.out _ (HX3.out.trans hx8d)).mono ?_
                intro e9 w9 h9
                obtain ⟨B9, k9, d9, rfl, hr9, hx9⟩ := HRA.out _ _ _ h9
                refine ⟨_, rfl, oi_end ⟨hx9, ?_⟩⟩
                simp only [Act.put, List.setIfInBounds_toArray, List.set_cons_succ, List.set_cons_zero]
                refine oi_run (k := 8) (by kernel_rfl) rfl (by rfl) (.tuple #[.slice B9 k9 d9, .int .i64 0]) (ex_move rfl rfl) hx9 ?_
                simp only [Act.put, List.setIfInBounds_toArray, List.set_cons_succ, List.set_cons_zero]
                refine oi_run (k := 9) (by kernel_rfl) rfl (by rfl) (.slice B9 k9 d9) (ex_extract rfl rfl rfl) hx9 ?_
                simp only [Act.put, List.setIfInBounds_toArray, List.set_cons_succ, List.set_cons_zero]
                refine oi_run (k := 10) (by kernel_rfl) rfl (by rfl) (.int .i64 0) (ex_extract rfl rfl rfl) hx9 ?_
                simp only [Act.put, List.setIfInBounds_toArray, List.set_cons_succ, List.set_cons_zero]
                refine oi_run (k := 11) (by kernel_rfl) rfl (by rfl) (.slice B9 k9 d9) (ex_assign rfl rfl) hx9 ?_
                simp only [Act.put, List.setIfInBounds_toArray, List.set_cons_succ, List.set_cons_zero]
                refine oi_run (k := 12) (by kernel_rfl) rfl (by rfl) (.int .i64 0) (ex_assign rfl rfl) hx9 ?_
                simp only [Act.put, List.setIfInBounds_toArray, List.set_cons_succ, List.set_cons_zero]
                refine oi_done (by kernel_rfl) ?_
                obtain ⟨hk9, hs9⟩ := hr9 (by first | rfl | trivial)
                have ho9 := own_keep ho8d hx9
                go_wp2_with (first
                  | (show wpList _ _ _ (⟨some 85, _, _, _, _, _⟩ :: _) _ _; at_builtin; refine wpList_append_slf elt_by rfl (.tmp 83) (.tmp 84) rfl w3.heap.size (.slice OA m oc) (m) (bytesV acc) rfl ho9 _ k9 (bytesV r2) rfl hs9 (byteOne _) (by omega) (by omega) (by have := (hx8d.trans hx9).size; omega) ?_; intro A10 c10 w10 ho10 hgr10 hor10; have hx10 := (hx8d.trans hx9).grown' hgr10 (fun b hb => (ho9.lt b hb).1)))
                go_roundw
                case rel =>
                  refine ⟨i + 1, m + k9, acc ++ markZ i ++ r2, by omega, by go_num, hid_ ?_, by omega, ⟨A10, c10, rfl, ?_⟩, HOK.out (by first | rfl | trivial), hx10⟩
                  · rw [List.length_append, List.length_append, HM.out, hk9, HMZ.out]; rfl
                  · rw [bytesV_app', bytesV_app', HMZ.out]
                    rw [show bytesV [] = [] by unfold bytesV; rfl, List.append_nil]; exact ho10
                case measure => simp [intOf]; omega
              · have h0b : (r1 != 0) = true := by simpa using h0
                have H0N := hid_ h0
                clear h0
                go_wp2_with (first
                  | (show wpList _ _ _ (⟨some 59, _, _, _, _, _⟩ :: _) _ _; refine wpList_load_any (by rfl) 109 (.tmp 58) rfl (td.add (i * 2)) rfl (ints [(lo : Int), (hh : Int)]) _ HTC.out Tryd.underlying109 rfl sizeSpan ?_; rw [HBV.out])
                  | (show wpList _ _ _ (⟨some 16, _, _, _, _, _⟩ :: _) _ _; refine wpList_alloc_abs' rfl (some 16) rfl 109 rfl _ zeroSpan ?_; intro w4 g16 hb4 hx4 hg4)
                  | (show wpList _ _ _ (⟨none, .store _ (.tmp 16) (.tmp 59), _, _, _, _⟩ :: _) _ _; refine wpList_store_blk rfl 109 (.tmp 16) (.tmp 59) rfl _ _ rfl rfl hb4 2 sizeSpan HS2.out HS20.out HO2.out ?_; intro w5 hb5 hg5; have hx5 : Ext wr w5 := hx4.grown hg5 hg4)
                  | (show wpList _ _ _ (⟨some 61, _, _, _, _, _⟩ :: _) _ _; refine wl_run rfl (.bool false) (ex_gtr rfl rfl rfl H61.out) ?_))
                have hx8d : Ext w3 w5.drew := (hx.trans hx5).drew
                have hb8d := hb5.drew
                have ho8d := own_keep hown (hx5.drew)
                clear hb4 hx4 hg4 hb5 hg5 hx5
                have HGX := hid_ (fun W (h : Ext w5.drew W) => ((HG3.out.ext hx8d).ext h))
                have hI : Ext w5.drew w5.drew := Ext.refl _
                refine wp_region_oi (Ext w5.drew) (by kernel_rfl) ?_
                refine oi_fix (k := 0) (by kernel_rfl) rfl (by rfl) (.agg tt) (fun W hW => ex_loadB rfl rfl (HGX.out W hW) Tryd.underlying34 rfl sizeTbls hsz.out) hI ?_
                simp only [Act.put, List.setIfInBounds_toArray, List.set_cons_succ, List.set_cons_zero]
                refine oi_run (k := 1) (by kernel_rfl) rfl (by rfl) (.slice A n c) (ex_move rfl rfl) hI ?_
                simp only [Act.put, List.setIfInBounds_toArray, List.set_cons_succ, List.set_cons_zero]
                refine oi_run (k := 2) (by kernel_rfl) rfl (by rfl) (.pointer (some ⟨g16, 0, none⟩)) (fun w => by go_simp) hI ?_
                simp only [Act.put, List.setIfInBounds_toArray, List.set_cons_succ, List.set_cons_zero]
                refine oi_fix (k := 3) (by kernel_rfl) rfl (by rfl) (.int .i64 (lo : Int)) (fun W hW => ex_loadI rfl rfl (((hb8d.ext hW).cell 0).trans HC0.out.1)) hI ?_
                simp only [Act.put, List.setIfInBounds_toArray, List.set_cons_succ, List.set_cons_zero]
                refine oi_run (k := 4) (by kernel_rfl) rfl (by rfl) (.pointer (some ⟨g16, 1, none⟩)) (fun w => by go_simp) hI ?_
                simp only [Act.put, List.setIfInBounds_toArray, List.set_cons_succ, List.set_cons_zero]
                refine oi_fix (k := 5) (by kernel_rfl) rfl (by rfl) (.int .i64 (hh : Int)) (fun W hW => ex_loadI rfl rfl (((hb8d.ext hW).cell 1).trans HC0.out.2)) hI ?_
                simp only [Act.put, List.setIfInBounds_toArray, List.set_cons_succ, List.set_cons_zero]
                refine oi_run (k := 6) (by kernel_rfl) rfl (by rfl) (.slice SA ln cl) (HSUB.out _ _ _ _ _ rfl rfl rfl rfl) hI ?_
                simp only [Act.put, List.setIfInBounds_toArray, List.set_cons_succ, List.set_cons_zero]
                refine oi_loud (k := 7) (by kernel_rfl) rfl ?_
                refine wl_enter (by rfl) (run_callv _ _ _ rfl rfl goesSegEnc #[.agg tt, .slice SA ln cl] (by simp [Act.eval])) ?_
                refine (HSR.out _ (HX3.out.trans hx8d)).mono ?_
                intro e9 w9 h9
                obtain ⟨B9, k9, d9, rfl, hr9, hx9⟩ := HRA.out _ _ _ h9
                refine ⟨_, rfl, oi_end ⟨hx9, ?_⟩⟩
                simp only [Act.put, List.setIfInBounds_toArray, List.set_cons_succ, List.set_cons_zero]
                refine oi_run (k := 8) (by kernel_rfl) rfl (by rfl) (.tuple #[.slice B9 k9 d9, .int .i64 r1]) (ex_move rfl rfl) hx9 ?_
                simp only [Act.put, List.setIfInBounds_toArray, List.set_cons_succ, List.set_cons_zero]
                refine oi_run (k := 9) (by kernel_rfl) rfl (by rfl) (.slice B9 k9 d9) (ex_extract rfl rfl rfl) hx9 ?_
                simp only [Act.put, List.setIfInBounds_toArray, List.set_cons_succ, List.set_cons_zero]
                refine oi_run (k := 10) (by kernel_rfl) rfl (by rfl) (.int .i64 r1) (ex_extract rfl rfl rfl) hx9 ?_
                simp only [Act.put, List.setIfInBounds_toArray, List.set_cons_succ, List.set_cons_zero]
                refine oi_run (k := 11) (by kernel_rfl) rfl (by rfl) (.slice B9 k9 d9) (ex_assign rfl rfl) hx9 ?_
                simp only [Act.put, List.setIfInBounds_toArray, List.set_cons_succ, List.set_cons_zero]
                refine oi_run (k := 12) (by kernel_rfl) rfl (by rfl) (.int .i64 r1) (ex_assign rfl rfl) hx9 ?_
                simp only [Act.put, List.setIfInBounds_toArray, List.set_cons_succ, List.set_cons_zero]
                refine oi_done (by kernel_rfl) ?_
                go_wp2_with fail
                refine bodyPost_ret (results_tmp2 rfl _ _ _) rfl ?_
                rw [HFR.out, HER.out H0N.out]
                refine ⟨HX3.out.trans (hx8d.trans hx9), ?_⟩
                rw [if_neg H0N.out]
                rfl
          · have hiK : K - i = 0 := by omega
            have HR2 : Hid (R = (0, acc)) := hid_ (by rw [← HR.out, hiK, scanGo])
            have hnn := own_noneB hown
            clear HR
            go_wp2_with fail
            refine bodyPost_ret (results_tmp2 rfl _ _ _) rfl ?_
            rw [HFR.out, HR2.out]
            refine ⟨HX3.out.trans hx, ?_⟩
            rw [if_pos rfl]
            exact ⟨OA, m, oc, rfl, HM.out, (own_out hown).1, hnn⟩
      · have hbb : (blocksE n Z != 0) = true := by simpa using hbe
        have HBE := hid_ hbe
        have HFR := hid_ (HFE.out hbe)
        clear hbe HFE HFO
        generalize blocksE n Z = be at *
        go_wp2_with (first
          | (go_at_call 49; (with_reducible refine (HCO.out _ hx).mono ?_); rintro e w2 ⟨u2, v2, rfl, hx2⟩; have hx2' := hx.trans hx2))
        refine bodyPost_ret (results_tmp2 rfl _ _ _) rfl ?_
        rw [HFR.out]
        refine ⟨hx2', ?_⟩
        rw [if_neg HBE.out]
        rfl
end Go.Proofs.YtgmddhljgfbibaaDoor
