/- Contracts for the law RescueDecodesCard, part 22: what the functions that it reaches answer, for all arguments that the theorems name. -/
import Derived.Test.YtkggcjdlpendfaaGreatDoorMRescueDecodesCard21
import Derived.Test.YtkggcjdlpendfaaGreatDoorMRescueDecodesCard19
import Derived.Deep.Cut
import Derived.Test.YtkggcjdlpendfaaGreatDoorMRescueDecodesCard15
namespace Go.Proofs.YtkggcjdlpendfaaGreatDoor
set_option linter.unusedVariables false
set_option linter.unusedSimpArgs false
open Go.RowKit
def PcErr (z : Int) (w : World) (e : Ending) (w' : World) : Prop := e = .returned (.tuple #[.slice none 0 0, .slice none 0 0, .int .i64 z]) ∧ Ext w w'
set_option maxRecDepth 20000 in
theorem pieces_range (tt : Array Value) (v : Value) (nn ev : Int) (w : World) (h : ev < 0 ∨ 100 < ev ∨ nn < 0 ∨ 400 < nn) : Calls Tryz.prog 109 #[.agg tt, v, .int .i64 nn, .int .i64 ev] w (PcErr 1 w) := by
 by_cases h15 : ev < 0
 ·have H15 : Hid (decide (ev < 0) = true) := hid_ (by rw [decide_eq_true_eq]; omega)
  clear h h15
  go_enter Tryz.func109, Tryz.ntmps109
  go_wp2_with (first
   | ((with_reducible apply gS 4); refine wBox rfl 44 (.tmp 0) rfl tt rfl ?_; intro w1 g hb1 hx1 hg)
   | ((with_reducible apply gS 15); refine wl_run rfl (.bool true) (ex_lss rfl rfl rfl H15.out) ?_))
  go_ret3
  exact ⟨rfl, hx1⟩
 ·skip
  by_cases h18 : 100 < ev
  ·have H15 : Hid (decide (ev < 0) = false) := hid_ (by rw [decide_eq_false_iff_not]; omega)
   have H18 : Hid (decide (100 < ev) = true) := hid_ (by rw [decide_eq_true_eq]; omega)
   clear h h15 h18
   go_enter Tryz.func109, Tryz.ntmps109
   go_wp2_with (first
    | ((with_reducible apply gS 4); refine wBox rfl 44 (.tmp 0) rfl tt rfl ?_; intro w1 g hb1 hx1 hg)
    | ((with_reducible apply gS 15); refine wl_run rfl (.bool false) (ex_lss rfl rfl rfl H15.out) ?_)
    | ((with_reducible apply gS 18); refine wl_run_g (by rfl) (.bool true) (ex_gtr rfl rfl rfl H18.out) ?_))
   go_ret3
   exact ⟨rfl, hx1⟩
  ·skip
   by_cases h22 : nn < 0
   ·have H15 : Hid (decide (ev < 0) = false) := hid_ (by rw [decide_eq_false_iff_not]; omega)
    have H18 : Hid (decide (100 < ev) = false) := hid_ (by rw [decide_eq_false_iff_not]; omega)
    have H22 : Hid (decide (nn < 0) = true) := hid_ (by rw [decide_eq_true_eq]; omega)
    clear h h15 h18 h22
    go_enter Tryz.func109, Tryz.ntmps109
    go_wp2_with (first
     | ((with_reducible apply gS 4); refine wBox rfl 44 (.tmp 0) rfl tt rfl ?_; intro w1 g hb1 hx1 hg)
     | ((with_reducible apply gS 15); refine wl_run rfl (.bool false) (ex_lss rfl rfl rfl H15.out) ?_)
     | ((with_reducible apply gS 18); refine wl_run_g (by rfl) (.bool false) (ex_gtr rfl rfl rfl H18.out) ?_)
     | ((with_reducible apply gS 22); refine wl_run_g (by rfl) (.bool true) (ex_lss rfl rfl rfl H22.out) ?_))
    go_ret3
    exact ⟨rfl, hx1⟩
   ·skip
    have h26 : 400 < nn := by omega
    have H15 : Hid (decide (ev < 0) = false) := hid_ (by rw [decide_eq_false_iff_not]; omega)
    have H18 : Hid (decide (100 < ev) = false) := hid_ (by rw [decide_eq_false_iff_not]; omega)
    have H22 : Hid (decide (nn < 0) = false) := hid_ (by rw [decide_eq_false_iff_not]; omega)
    have H26 : Hid (decide (400 < nn) = true) := hid_ (by rw [decide_eq_true_eq]; omega)
    clear h h15 h18 h22 h26
    go_enter Tryz.func109, Tryz.ntmps109
    go_wp2_with (first
     | ((with_reducible apply gS 4); refine wBox rfl 44 (.tmp 0) rfl tt rfl ?_; intro w1 g hb1 hx1 hg)
     | ((with_reducible apply gS 15); refine wl_run rfl (.bool false) (ex_lss rfl rfl rfl H15.out) ?_)
     | ((with_reducible apply gS 18); refine wl_run_g (by rfl) (.bool false) (ex_gtr rfl rfl rfl H18.out) ?_)
     | ((with_reducible apply gS 22); refine wl_run_g (by rfl) (.bool false) (ex_lss rfl rfl rfl H22.out) ?_)
     | ((with_reducible apply gS 26); refine wl_run_g (by rfl) (.bool true) (ex_gtr rfl rfl rfl H26.out) ?_))
    go_ret3
    exact ⟨rfl, hx1⟩
set_option maxRecDepth 20000 in
set_option maxHeartbeats 4000000 in
theorem pieces_bad (t1 t2 : List Value) (z1 z2 : Int) (v : Value) (nn ev : Int) (w : World) (he : 0 ≤ ev ∧ ev ≤ 100) (hn : 0 ≤ nn ∧ nn ≤ 400) (h1 : t1.length = 17) (h2 : t2.length = 17)
 (o1 : t1.toArray.all (·.oneCell') = true) (o2 : t2.toArray.all (·.oneCell') = true)
 (C1 : ∀ W, Ext w W → Calls Tryz.prog 102 #[.agg t1.toArray] W fun e W' => e = .returned (.int .i64 z1) ∧ Ext W W')
 (C2 : ∀ W, Ext w W → Calls Tryz.prog 102 #[.agg t2.toArray] W fun e W' => e = .returned (.int .i64 z2) ∧ Ext W W')
 (hne : (if z1 = 0 then z2 else z1) ≠ 0) :
 Calls Tryz.prog 109 #[.agg (t1 ++ t2).toArray, v, .int .i64 nn, .int .i64 ev] w (PcErr (if z1 = 0 then z2 else z1) w) := by
 have hl1 := hid_ h1
 have hl2 := hid_ h2
 have HB2 := hid_ (built2 t1 t2 h1 h2)
 have HRT := hid_ (fun W g (hb : Blk W g 42 (t1 ++ t2).toArray) => range_two h1 hb)
 have HRU := hid_ (fun W g (hb : Blk W g 44 (t1 ++ t2).toArray) => range_two h1 hb)
 have hs1 : Hid (t1.toArray.size = 17) := hid_ (by simpa using h1)
 have hs2 : Hid (t2.toArray.size = 17) := hid_ (by simpa using h2)
 have hz17 : Hid ((ints (List.replicate 16 0) ++ [Value.slice none 0 0]).toArray.size = 17) := hid_ (by simp [ints])
 have HO1 := hid_ o1
 have HO2 := hid_ o2
 have HC1 := hid_ C1
 have HC2 := hid_ C2
 have H15 : Hid (decide (ev < 0) = false) := hid_ (by rw [decide_eq_false_iff_not]; omega)
 have H18 : Hid (decide (100 < ev) = false) := hid_ (by rw [decide_eq_false_iff_not]; omega)
 have H22 : Hid (decide (nn < 0) = false) := hid_ (by rw [decide_eq_false_iff_not]; omega)
 have H26 : Hid (decide (400 < nn) = false) := hid_ (by rw [decide_eq_false_iff_not]; omega)
 clear o1 o2 C1 C2 h1 h2 he hn
 generalize hR : (if z1 = 0 then z2 else z1) = R at *
 have HR := hid_ hR
 have HNE := hid_ hne
 clear hR hne
 go_enter Tryz.func109, Tryz.ntmps109
 go_wp2_with (first
  | ((with_reducible apply gS 4); refine wBox rfl 44 (.tmp 0) rfl (t1 ++ t2).toArray rfl ?_; intro w1 g hb1 hx1 hg; have hr1 := HRU.out _ _ hb1)
  | ((with_reducible apply gS 15); refine wl_run rfl (.bool false) (ex_lss rfl rfl rfl H15.out) ?_)
  | ((with_reducible apply gS 18); refine wl_run_g (by rfl) (.bool false) (ex_gtr rfl rfl rfl H18.out) ?_)
  | ((with_reducible apply gS 22); refine wl_run_g (by rfl) (.bool false) (ex_lss rfl rfl rfl H22.out) ?_)
  | ((with_reducible apply gS 26); refine wl_run_g (by rfl) (.bool false) (ex_gtr rfl rfl rfl H26.out) ?_)
  | ((with_reducible apply gS 29); refine wpList_load_mid rfl 42 (.tmp 28) rfl g 0 rfl t1 _ hr1.1 Tryz.underlying42 rfl (by rw [hl1.out]; exact sizeTbl) ?_)
  | ((with_reducible apply gS 31); refine wpList_load_mid rfl 42 (.tmp 30) rfl g 17 rfl t2 _ hr1.2 Tryz.underlying42 rfl (by rw [hl2.out]; exact sizeTbl) ?_)
  | ((with_reducible apply gS 32); refine Go.Great.wpList_buildSliceTo rfl 115 42 2 _ rfl _ rfl (some 32) rfl Tryz.underlying115 _ (by simp [Act.eval]; exact HB2.out) ?_))
 have hbn0 := Blk.new w1 42 (t1 ++ t2).toArray
 have hb3 := hb1.alloc (.cells (t1 ++ t2).toArray 42)
 have hx3 := hx1.alloc (.cells (t1 ++ t2).toArray 42)
 clear hb1 hr1 hx1
 go_loopw [34] (fun i wr => ∃ k : Nat, k ≤ 2 ∧ i = .int .i64 (k : Int) ∧ (1 ≤ k → z1 = 0) ∧ (2 ≤ k → z2 = 0) ∧ Blk wr g 44 (t1 ++ t2).toArray ∧ Blk wr w1.heap.size 42 (t1 ++ t2).toArray ∧ Ext w wr) (fun i _ => 2 - (intOf i).toNat)
 case atStart => exact ⟨0, by omega, rfl, fun h => absurd h (by omega), fun h => absurd h (by omega), hb3, hbn0, hx3⟩
 case round =>
  clear hb3 hbn0 hx3
  obtain ⟨k, hk, rfl, e1, e2, hb, hbn, hx⟩ := hrel
  rcases (by omega : k = 0 ∨ k = 1 ∨ k = 2) with rfl | rfl | rfl
  ·have hr := (HRT.out _ _ hbn).1
   by_cases hz : z1 = 0
   ·subst hz
    go_wp2_with (first
     | ((with_reducible apply gS 37); refine wpList_load_mid rfl 42 (.tmp 36) rfl _ 0 rfl t1 _ hr Tryz.underlying42 rfl (by rw [hl1.out]; exact sizeTbl) ?_)
     | ((with_reducible apply gS 12); refine wAlo' rfl (some 12) rfl 42 rfl _ zeroTbl ?_; intro w4 ga hba4 hx4 hga)
     | ((with_reducible apply gT 12 37); refine wStB rfl 42 (.tmp 12) (.tmp 37) rfl _ _ rfl rfl hba4 17 sizeTbl hs1.out hz17.out HO1.out ?_; intro w5 hba5 hg5; have hx5 := (hx.trans hx4).grown hg5 (by have := hx.size; omega))
     | ((with_reducible apply gS 38); refine wLdB rfl 42 (.tmp 12) rfl _ rfl hba5 _ Tryz.underlying42 rfl 17 sizeTbl hs1.out ?_)
     | (go_at_call 102; (with_reducible refine (HC1.out _ hx5).mono ?_); rintro e w6 ⟨rfl, hx6⟩))
    go_roundw
    case rel => exact ⟨1, by omega, by go_num, by simp, fun h => absurd h (by omega), ((hb.ext hx4).grown hg5 (by have := hb.lt; simp; omega)).ext hx6, ((hbn.ext hx4).grown hg5 (by have := hbn.lt; simp; omega)).ext hx6, hx5.trans hx6⟩
    case measure => simp [intOf]
   ·have hz1 : (z1 != 0) = true := by simpa using hz
    have HZ := hid_ hz
    clear hz
    go_wp2_with (first
     | ((with_reducible apply gS 37); refine wpList_load_mid rfl 42 (.tmp 36) rfl _ 0 rfl t1 _ hr Tryz.underlying42 rfl (by rw [hl1.out]; exact sizeTbl) ?_)
     | ((with_reducible apply gS 12); refine wAlo' rfl (some 12) rfl 42 rfl _ zeroTbl ?_; intro w4 ga hba4 hx4 hga)
     | ((with_reducible apply gT 12 37); refine wStB rfl 42 (.tmp 12) (.tmp 37) rfl _ _ rfl rfl hba4 17 sizeTbl hs1.out hz17.out HO1.out ?_; intro w5 hba5 hg5; have hx5 := (hx.trans hx4).grown hg5 (by have := hx.size; omega))
     | ((with_reducible apply gS 38); refine wLdB rfl 42 (.tmp 12) rfl _ rfl hba5 _ Tryz.underlying42 rfl 17 sizeTbl hs1.out ?_)
     | (go_at_call 102; (with_reducible refine (HC1.out _ hx5).mono ?_); rintro e w6 ⟨rfl, hx6⟩))
    go_ret3
    refine ⟨?_, hx5.trans hx6⟩
    rw [← HR.out, if_neg HZ.out]
    rfl
  ·have hr := (HRT.out _ _ hbn).2
   have hz0 := e1 (by omega)
   have hz2 : z2 = R := by rw [← HR.out, if_pos hz0]
   have hzb : (z2 != 0) = true := by rw [hz2]; simpa using HNE.out
   have HZ2 := hid_ hz2
   clear hz0 e1 e2 hz2
   go_wp2_with (first
    | ((with_reducible apply gS 37); refine wpList_load_mid rfl 42 (.tmp 36) rfl _ 17 rfl t2 _ hr Tryz.underlying42 rfl (by rw [hl2.out]; exact sizeTbl) ?_)
    | ((with_reducible apply gS 12); refine wAlo' rfl (some 12) rfl 42 rfl _ zeroTbl ?_; intro w4 ga hba4 hx4 hga)
    | ((with_reducible apply gT 12 37); refine wStB rfl 42 (.tmp 12) (.tmp 37) rfl _ _ rfl rfl hba4 17 sizeTbl hs2.out hz17.out HO2.out ?_; intro w5 hba5 hg5; have hx5 := (hx.trans hx4).grown hg5 (by have := hx.size; omega))
    | ((with_reducible apply gS 38); refine wLdB rfl 42 (.tmp 12) rfl _ rfl hba5 _ Tryz.underlying42 rfl 17 sizeTbl hs2.out ?_)
    | (go_at_call 102; (with_reducible refine (HC2.out _ hx5).mono ?_); rintro e w6 ⟨rfl, hx6⟩))
   go_ret3
   refine ⟨?_, hx5.trans hx6⟩
   rw [← HZ2.out]
   rfl
  ·exact absurd (by rw [← HR.out, if_pos (e1 (by omega)), e2 (by omega)]) HNE.out
set_option maxRecDepth 20000 in
set_option maxHeartbeats 8000000 in
theorem pieces_good (t1 t2 : List Value) (v : Value) (bs : List Nat) (nn ev : Int) (w : World) (he : 0 ≤ ev ∧ ev ≤ 100) (hn : 0 ≤ nn ∧ nn ≤ 400) (hs : SL w 1 v bs.length (bytesV bs)) (hlt : ∀ b ∈ bs, b < 256) (hl : bs.length ≤ 1048576) (h1 : t1.length = 17) (h2 : t2.length = 17)
 (o1 : t1.toArray.all (·.oneCell') = true) (o2 : t2.toArray.all (·.oneCell') = true)
 (C1 : ∀ W, Ext w W → Calls Tryz.prog 102 #[.agg t1.toArray] W fun e W' => e = .returned (.int .i64 0) ∧ Ext W W')
 (C2 : ∀ W, Ext w W → Calls Tryz.prog 102 #[.agg t2.toArray] W fun e W' => e = .returned (.int .i64 0) ∧ Ext W W') :
 Calls Tryz.prog 109 #[.agg (t1 ++ t2).toArray, v, .int .i64 nn, .int .i64 ev] w (SpIsN (spGo bs [] [] []) w) := by
 have hl1 := hid_ h1
 have hl2 := hid_ h2
 have HB2 := hid_ (built2 t1 t2 h1 h2)
 have HRT := hid_ (fun W g (hb : Blk W g 42 (t1 ++ t2).toArray) => range_two h1 hb)
 have HRU := hid_ (fun W g (hb : Blk W g 44 (t1 ++ t2).toArray) => range_two h1 hb)
 have hs1 : Hid (t1.toArray.size = 17) := hid_ (by simpa using h1)
 have hs2 : Hid (t2.toArray.size = 17) := hid_ (by simpa using h2)
 have hz17 : Hid ((ints (List.replicate 16 0) ++ [Value.slice none 0 0]).toArray.size = 17) := hid_ (by simp [ints])
 have HO1 := hid_ o1
 have HO2 := hid_ o2
 have HC1 := hid_ C1
 have HC2 := hid_ C2
 have H15 : Hid (decide (ev < 0) = false) := hid_ (by rw [decide_eq_false_iff_not]; omega)
 have H18 : Hid (decide (100 < ev) = false) := hid_ (by rw [decide_eq_false_iff_not]; omega)
 have H22 : Hid (decide (nn < 0) = false) := hid_ (by rw [decide_eq_false_iff_not]; omega)
 have H26 : Hid (decide (400 < nn) = false) := hid_ (by rw [decide_eq_false_iff_not]; omega)
 have HSP := hid_ (fun W (h : Ext w W) => split_anyN bs v W (hs.ext h) hlt hl)
 generalize spGo bs [] [] [] = z at *
 clear o1 o2 C1 C2 h1 h2 he hn hs hlt hl
 go_enter Tryz.func109, Tryz.ntmps109
 go_wp2_with (first
  | ((with_reducible apply gS 4); refine wBox rfl 44 (.tmp 0) rfl (t1 ++ t2).toArray rfl ?_; intro w1 g hb1 hx1 hg; have hr1 := HRU.out _ _ hb1)
  | ((with_reducible apply gS 15); refine wl_run rfl (.bool false) (ex_lss rfl rfl rfl H15.out) ?_)
  | ((with_reducible apply gS 18); refine wl_run_g (by rfl) (.bool false) (ex_gtr rfl rfl rfl H18.out) ?_)
  | ((with_reducible apply gS 22); refine wl_run_g (by rfl) (.bool false) (ex_lss rfl rfl rfl H22.out) ?_)
  | ((with_reducible apply gS 26); refine wl_run_g (by rfl) (.bool false) (ex_gtr rfl rfl rfl H26.out) ?_)
  | ((with_reducible apply gS 29); refine wpList_load_mid rfl 42 (.tmp 28) rfl g 0 rfl t1 _ hr1.1 Tryz.underlying42 rfl (by rw [hl1.out]; exact sizeTbl) ?_)
  | ((with_reducible apply gS 31); refine wpList_load_mid rfl 42 (.tmp 30) rfl g 17 rfl t2 _ hr1.2 Tryz.underlying42 rfl (by rw [hl2.out]; exact sizeTbl) ?_)
  | ((with_reducible apply gS 32); refine Go.Great.wpList_buildSliceTo rfl 115 42 2 _ rfl _ rfl (some 32) rfl Tryz.underlying115 _ (by simp [Act.eval]; exact HB2.out) ?_))
 have hbn0 := Blk.new w1 42 (t1 ++ t2).toArray
 have hb3 := hb1.alloc (.cells (t1 ++ t2).toArray 42)
 have hx3 := hx1.alloc (.cells (t1 ++ t2).toArray 42)
 clear hb1 hr1 hx1
 go_loopw [34] (fun i wr => ∃ k : Nat, k ≤ 2 ∧ i = .int .i64 (k : Int) ∧ Blk wr g 44 (t1 ++ t2).toArray ∧ Blk wr w1.heap.size 42 (t1 ++ t2).toArray ∧ Ext w wr) (fun i _ => 2 - (intOf i).toNat)
 case atStart => exact ⟨0, by omega, rfl, hb3, hbn0, hx3⟩
 case round =>
  clear hb3 hbn0 hx3
  obtain ⟨k, hk, rfl, hb, hbn, hx⟩ := hrel
  rcases (by omega : k = 0 ∨ k = 1 ∨ k = 2) with rfl | rfl | rfl
  ·have hr := (HRT.out _ _ hbn).1
   go_wp2_with (first
    | ((with_reducible apply gS 37); refine wpList_load_mid rfl 42 (.tmp 36) rfl _ 0 rfl t1 _ hr Tryz.underlying42 rfl (by rw [hl1.out]; exact sizeTbl) ?_)
    | ((with_reducible apply gS 12); refine wAlo' rfl (some 12) rfl 42 rfl _ zeroTbl ?_; intro w4 ga hba4 hx4 hga)
    | ((with_reducible apply gT 12 37); refine wStB rfl 42 (.tmp 12) (.tmp 37) rfl _ _ rfl rfl hba4 17 sizeTbl hs1.out hz17.out HO1.out ?_; intro w5 hba5 hg5; have hx5 := (hx.trans hx4).grown hg5 (by have := hx.size; omega))
    | ((with_reducible apply gS 38); refine wLdB rfl 42 (.tmp 12) rfl _ rfl hba5 _ Tryz.underlying42 rfl 17 sizeTbl hs1.out ?_)
    | (go_at_call 102; (with_reducible refine (HC1.out _ hx5).mono ?_); rintro e w6 ⟨rfl, hx6⟩))
   go_roundw
   case rel => exact ⟨1, by omega, by go_num, ((hb.ext hx4).grown hg5 (by have := hb.lt; simp; omega)).ext hx6, ((hbn.ext hx4).grown hg5 (by have := hbn.lt; simp; omega)).ext hx6, hx5.trans hx6⟩
   case measure => simp [intOf]
  ·have hr := (HRT.out _ _ hbn).2
   go_wp2_with (first
    | ((with_reducible apply gS 37); refine wpList_load_mid rfl 42 (.tmp 36) rfl _ 17 rfl t2 _ hr Tryz.underlying42 rfl (by rw [hl2.out]; exact sizeTbl) ?_)
    | ((with_reducible apply gS 12); refine wAlo' rfl (some 12) rfl 42 rfl _ zeroTbl ?_; intro w4 ga hba4 hx4 hga)
    | ((with_reducible apply gT 12 37); refine wStB rfl 42 (.tmp 12) (.tmp 37) rfl _ _ rfl rfl hba4 17 sizeTbl hs2.out hz17.out HO2.out ?_; intro w5 hba5 hg5; have hx5 := (hx.trans hx4).grown hg5 (by have := hx.size; omega))
    | ((with_reducible apply gS 38); refine wLdB rfl 42 (.tmp 12) rfl _ rfl hba5 _ Tryz.underlying42 rfl 17 sizeTbl hs2.out ?_)
    | (go_at_call 102; (with_reducible refine (HC2.out _ hx5).mono ?_); rintro e w6 ⟨rfl, hx6⟩))
   go_roundw
   case rel => exact ⟨2, by omega, by go_num, ((hb.ext hx4).grown hg5 (by have := hb.lt; simp; omega)).ext hx6, ((hbn.ext hx4).grown hg5 (by have := hbn.lt; simp; omega)).ext hx6, hx5.trans hx6⟩
   case measure => simp [intOf]
  ·clear HRT HRU HB2 HC1 HC2 hbn hs1 hs2 hz17 HO1 HO2 hl1 hl2
   cases z with
   | none =>
     go_wp2_with (first
      | (go_at_call 34; (with_reducible refine (HSP.out _ hx).mono ?_); rintro e w2 ⟨rfl, hx2⟩))
     go_ret3
     exact ⟨rfl, hx.trans hx2⟩
   | some q =>
     obtain ⟨P, M⟩ := q
     go_wp2_with (first
      | (go_at_call 34; (with_reducible refine (HSP.out _ hx).mono ?_); rintro e w2 ⟨A, c, B, d, VS, rfl, k1, k2, k3, hx2, k4⟩))
     go_ret3
     exact ⟨A, c, B, d, VS, rfl, k1, k2, k3, hx.trans hx2, k4⟩
set_option maxRecDepth 20000 in
theorem rpieces_range (tt : Array Value) (v : Value) (nn ev : Int) (w : World) (h : ev < 0 ∨ 100 < ev ∨ nn < 0 ∨ 400 < nn) : Calls Tryz.prog 116 #[.agg tt, v, .int .i64 nn, .int .i64 ev] w (PcErr 1 w) := by
 have HE := hid_ (fun W => outside_any ev 0 100 W)
 have HN := hid_ (fun W => outside_any nn 0 400 W)
 cases he : inB ev 0 100 with
 | false =>
   rw [he] at HE
   clear h he HN
   go_enter Tryz.func116, Tryz.ntmps116
   go_wp2_with (first
    | ((with_reducible apply gS 4); refine wBox rfl 44 (.tmp 0) rfl tt rfl ?_; intro w1 g hb1 hx1 hg)
    | (go_at_call 54; (with_reducible refine (HE.out _).mono ?_); rintro e w' ⟨rfl, rfl⟩))
   go_ret3
   exact ⟨rfl, hx1⟩
 | true =>
   have h3 := inB_iff.1 he
   have hn : inB nn 0 400 = false := by
    cases hq : inB nn 0 400 with
    | false => rfl
    | true => have := inB_iff.1 hq; omega
   rw [he] at HE
   rw [hn] at HN
   clear h h3 he hn
   go_enter Tryz.func116, Tryz.ntmps116
   go_wp2_with (first
    | ((with_reducible apply gS 4); refine wBox rfl 44 (.tmp 0) rfl tt rfl ?_; intro w1 g hb1 hx1 hg)
    | (go_at_call 54; (with_reducible refine (HE.out _).mono ?_); rintro e w' ⟨rfl, rfl⟩)
    | (go_at_call 54; (with_reducible refine (HN.out _).mono ?_); rintro e w' ⟨rfl, rfl⟩))
   go_ret3
   exact ⟨rfl, hx1⟩
set_option maxRecDepth 20000 in
theorem rpieces_bad (tt : Array Value) (hsz0 : tt.size = 34) (z : Int) (hz : z ≠ 0) (v : Value) (nn ev : Int) (w : World) (he : 0 ≤ ev ∧ ev ≤ 100) (hn : 0 ≤ nn ∧ nn ≤ 400)
 (CT : ∀ W, Ext w W → Calls Tryz.prog 76 #[.agg tt] W fun e W' => e = .returned (.int .i64 z) ∧ Ext W W') : Calls Tryz.prog 116 #[.agg tt, v, .int .i64 nn, .int .i64 ev] w (PcErr z w) := by
 have HE := hid_ (fun W => outside_any ev 0 100 W)
 have HN := hid_ (fun W => outside_any nn 0 400 W)
 rw [inB_iff.2 he] at HE
 rw [inB_iff.2 hn] at HN
 have HCT := hid_ CT
 have hsz := hid_ hsz0
 have hzb : (z != 0) = true := by simpa using hz
 clear hsz0 CT hz he hn
 go_enter Tryz.func116, Tryz.ntmps116
 go_wp2_with (first
  | ((with_reducible apply gS 4); refine wBox rfl 44 (.tmp 0) rfl tt rfl ?_; intro w1 g hb1 hx1 hg)
  | (go_at_call 54; (with_reducible refine (HE.out _).mono ?_); rintro e w' ⟨rfl, rfl⟩)
  | (go_at_call 54; (with_reducible refine (HN.out _).mono ?_); rintro e w' ⟨rfl, rfl⟩)
  | ((with_reducible apply gS 18); refine wLdB rfl 44 (.tmp 4) rfl g rfl hb1 _ Tryz.underlying44 rfl 34 sizeTbls hsz.out ?_)
  | (go_at_call 76; (with_reducible refine (HCT.out _ hx1).mono ?_); rintro e w2 ⟨rfl, hx2⟩))
 go_ret3
 exact ⟨rfl, hx1.trans hx2⟩
set_option maxRecDepth 20000 in
theorem rpieces_good (tt : Array Value) (hsz0 : tt.size = 34) (v : Value) (bs : List Nat) (nn ev : Int) (w : World) (he : 0 ≤ ev ∧ ev ≤ 100) (hn : 0 ≤ nn ∧ nn ≤ 400) (hs : SL w 1 v bs.length (bytesV bs)) (hlt : ∀ b ∈ bs, b < 256) (hl : bs.length ≤ 1048576)
 (CT : ∀ W, Ext w W → Calls Tryz.prog 76 #[.agg tt] W fun e W' => e = .returned (.int .i64 0) ∧ Ext W W') : Calls Tryz.prog 116 #[.agg tt, v, .int .i64 nn, .int .i64 ev] w (SpIs (spGo bs [] [] []) w) := by
 have HE := hid_ (fun W => outside_any ev 0 100 W)
 have HN := hid_ (fun W => outside_any nn 0 400 W)
 rw [inB_iff.2 he] at HE
 rw [inB_iff.2 hn] at HN
 have HCT := hid_ CT
 have hsz := hid_ hsz0
 have HSP := hid_ (fun W (h : Ext w W) => rsplit_any bs v W (hs.ext h) hlt hl)
 generalize spGo bs [] [] [] = z at *
 clear hsz0 CT he hn hs hlt hl
 cases z with
 | none =>
   go_enter Tryz.func116, Tryz.ntmps116
   go_wp2_with (first
    | ((with_reducible apply gS 4); refine wBox rfl 44 (.tmp 0) rfl tt rfl ?_; intro w1 g hb1 hx1 hg)
    | (go_at_call 54; (with_reducible refine (HE.out _).mono ?_); rintro e w' ⟨rfl, rfl⟩)
    | (go_at_call 54; (with_reducible refine (HN.out _).mono ?_); rintro e w' ⟨rfl, rfl⟩)
    | ((with_reducible apply gS 18); refine wLdB rfl 44 (.tmp 4) rfl g rfl hb1 _ Tryz.underlying44 rfl 34 sizeTbls hsz.out ?_)
    | (go_at_call 76; (with_reducible refine (HCT.out _ hx1).mono ?_); rintro e w2 ⟨rfl, hx2⟩; have hx2' := hx1.trans hx2)
    | (go_at_call 53; (with_reducible refine (HSP.out _ hx2').mono ?_); rintro e w3 ⟨rfl, hx3⟩))
   go_ret3
   exact ⟨rfl, hx2'.trans hx3⟩
 | some q =>
   obtain ⟨P, M⟩ := q
   go_enter Tryz.func116, Tryz.ntmps116
   go_wp2_with (first
    | ((with_reducible apply gS 4); refine wBox rfl 44 (.tmp 0) rfl tt rfl ?_; intro w1 g hb1 hx1 hg)
    | (go_at_call 54; (with_reducible refine (HE.out _).mono ?_); rintro e w' ⟨rfl, rfl⟩)
    | (go_at_call 54; (with_reducible refine (HN.out _).mono ?_); rintro e w' ⟨rfl, rfl⟩)
    | ((with_reducible apply gS 18); refine wLdB rfl 44 (.tmp 4) rfl g rfl hb1 _ Tryz.underlying44 rfl 34 sizeTbls hsz.out ?_)
    | (go_at_call 76; (with_reducible refine (HCT.out _ hx1).mono ?_); rintro e w2 ⟨rfl, hx2⟩; have hx2' := hx1.trans hx2)
    | (go_at_call 53; (with_reducible refine (HSP.out _ hx2').mono ?_); rintro e w3 ⟨A, c, B, d, VS, rfl, k1, k2, k3, hx3⟩))
   go_ret3
   exact ⟨A, c, B, d, VS, rfl, k1, k2, k3, hx2'.trans hx3⟩
section
open Go.RowKit Go.Maps Go.WideMaps
theorem numB_bit (D : List Bool) (p k : Nat) (h : p + k < D.length) : numB ((D.drop p).take (k + 1)) = 2 * numB ((D.drop p).take k) + numB ((D.drop (p + k)).take 1) := by
 rw [numB_take_succ _ _ (by simp; omega)]
 congr 1
 have e : (D.drop (p + k)).take 1 = [D[p + k]] := by
  rw [List.drop_eq_getElem_cons h]; rfl
 rw [e]
 simp [numB]
theorem zero_intV (w : World) : (zeroValue 3).run Tryz.prog w = .ok (.int .i64 0) w := by kernel_rfl
set_option maxRecDepth 20000 in
set_option maxHeartbeats 2000000 in
theorem coderGet_pos (gc gr : Nat) (T : List Tok) (A : Option Addr) (n c p : Nat) (bs : List Nat) (w0 w : World) (hc : CoderS w0 gc T) (hg : w0.heap.size ≤ gr) (hbw : Below gr w0 w) (hr : RdS w gr A n c p bs) (hgw : gr < w.heap.size) :
 Calls Tryz.prog 243 #[.pointer (some ⟨gc, 0, none⟩), .pointer (some ⟨gr, 0, none⟩)] w fun e w' =>
  e = .returned (.tuple #[.int .i64 (getGo T (digsOf bs) p 16 1).1, .int .i64 (getGo T (digsOf bs) p 16 1).2.2]) ∧ RdS w' gr A n c (if (getGo T (digsOf bs) p 16 1).2.2 = 0 then (getGo T (digsOf bs) p 16 1).2.1 else if (getGo T (digsOf bs) p 16 1).2.2 = 3 then 8 * n else p + 16) bs ∧ Upd (fun x => x = gr) w w' := by
 have HD : Hid ((digsOf bs).length = 8 * n) := hid_ (by rw [digsOf_len, hr.2.2.1])
 have HNB := hid_ (numB_bit (digsOf bs) p)
 have HLT := hid_ (fun i (h1 : i ≤ 24) => numB_take_lt ((digsOf bs).drop p) i 24 h1)
 have HL1 := hid_ (fun q => numB_take_lt ((digsOf bs).drop q) 1 1 (by omega))
 have HG0 : Hid (∀ long, getGo T (digsOf bs) p 0 long = (0, p, 4)) := hid_ (fun long => getGo_end)
 have HGO : Hid (∀ f long, ¬ p + long ≤ 8 * n → getGo T (digsOf bs) p (f + 1) long = (0, p, 3)) := hid_ (fun f long h => getGo_out (by rw [HD.out]; exact h))
 have HGY : Hid (∀ f long t, p + long ≤ 8 * n → T.find? (hasCode (long : Int) (numB (((digsOf bs).drop p).take long) : Nat)) = some t → getGo T (digsOf bs) p (f + 1) long = (t.1, p + long, 0)) := hid_ (fun f long t h hf => getGo_yes (by rw [HD.out]; exact h) hf)
 have HGN : Hid (∀ f long, p + long ≤ 8 * n → T.find? (hasCode (long : Int) (numB (((digsOf bs).drop p).take long) : Nat)) = none → getGo T (digsOf bs) p (f + 1) long = getGo T (digsOf bs) p f (long + 1)) := hid_ (fun f long h hf => getGo_no (by rw [HD.out]; exact h) hf)
 obtain ⟨ez, hez⟩ : ∃ ez, ez = getGo T (digsOf bs) p 16 1 := ⟨_, rfl⟩
 have HEZ := hid_ hez
 rw [← hez]
 obtain ⟨ps, hps⟩ : ∃ ps, ps = (if ez.2.2 = 0 then ez.2.1 else if ez.2.2 = 3 then 8 * n else p + 16) := ⟨_, rfl⟩
 have HPS := hid_ hps
 rw [← hps]
 clear hez hps
 have hp0 : p ≤ 8 * n := hr.2.2.2.2.2.2
 go_enter Tryz.func243, Tryz.ntmps243
 go_wp2_with fail
 go_loopw [6, 7] (fun v i wr => ∃ k : Nat, k ≤ 16 ∧ i = .int .i64 ((k + 1 : Nat) : Int) ∧ v = .int .i64 ((numB (((digsOf bs).drop p).take k) : Nat) : Int) ∧ Hid (ez = getGo T (digsOf bs) p (16 - k) (k + 1)) ∧ RdS wr gr A n c (p + k) bs ∧ Upd (fun x => x = gr) w wr) (fun _ i _ => 17 - (intOf i).toNat)
 case atStart => exact ⟨0, by omega, rfl, by simp [numB], HEZ, hr, Upd.refl _ _⟩
 case round =>
  clear HEZ hr
  obtain ⟨k, hk, rfl, rfl, HEZ, hr, hu⟩ := hrel
  have hpk : p + k ≤ 8 * n := hr.2.2.2.2.2.2
  by_cases hlt : k < 16
  ·have HEK : Hid (ez = getGo T (digsOf bs) p (15 - k + 1) (k + 1)) := hid_ (by rw [HEZ.out, show 15 - k + 1 = 16 - k by omega])
   clear HEZ
   by_cases hfit : p + k + 1 ≤ 8 * n
   ·have HYES := hid_ (fun t h => HEK.out.trans (HGY.out (15 - k) (k + 1) t (by omega) h))
    have HNO := hid_ (fun h => HEK.out.trans (HGN.out (15 - k) (k + 1) (by omega) h))
    have hcw := hc.below hg (hbw.trans (hu.below (fun x hx => by omega) (by omega)))
    have HG : Hid (∀ W, RdS W gr A n c (p + k) bs → Calls Tryz.prog 164 #[.pointer (some ⟨gr, 0, none⟩), .int .i64 1] W fun e w' => e = .returned (.tuple #[.int .i64 ((numB (((digsOf bs).drop (p + k)).take 1) : Nat) : Int), .bool true]) ∧ RdS w' gr A n c (p + k + 1) bs ∧ Upd (fun x => x = gr) W w') := hid_ (fun W h => get_yes gr A n c (p + k) bs 1 W h hfit (by omega))
    have HM2 := hid_ (HNB.out k (by rw [HD.out]; omega))
    have hm0 := HLT.out k (by omega)
    have hm20 := HLT.out (k + 1) (by omega)
    have hb0 := HL1.out (p + k)
    generalize numB (((digsOf bs).drop (p + k)).take 1) = b at *
    generalize numB (((digsOf bs).drop p).take k) = m at *
    generalize hm2 : numB (((digsOf bs).drop p).take (k + 1)) = m2 at *
    have HMM := hid_ hm2
    clear hm2
    have hb2 : b < 2 := by omega
    have hm : m < 1099511627776 := by omega
    have hk64 : IntKind.i64.wrap (((k + 1 : Nat) : Int) + 1) = ((k + 1 + 1 : Nat) : Int) := by rw [IntWalk.i64_in _ (by omega)]; omega
    go_upto_region 8 with (go_at_call 164; (with_reducible refine (HG.out _ hr).mono ?_); rintro e w5 ⟨rfl, hr5, hu5⟩)
    refine wp_region_lit ?_
    refine wl_run rfl (.int .i64 ((m : Nat) : Int)) (ex_move rfl rfl) ?_
    simp only [Act.put, sA, sB, sC]
    refine wl_run rfl (.int .i64 ((2 * m : Nat) : Int)) (ex_binK (k := .i64) (m := (m : Int)) (k' := .u64) (n := 1) rfl rfl rfl (run_shl_one m hm)) ?_
    simp only [Act.put, sA, sB, sC]
    refine wl_run rfl (.int .i64 ((b : Nat) : Int)) (ex_move rfl rfl) ?_
    simp only [Act.put, sA, sB, sC]
    refine wl_run rfl (.int .i64 ((m2 : Nat) : Int)) (by rw [HM2.out]; exact ex_binK (k := .i64) (m := ((2 * m : Nat) : Int)) (k' := .i64) (n := ((b : Nat) : Int)) rfl rfl rfl (run_or2 m b hm hb2)) ?_
    simp only [Act.put, sA, sB, sC]
    refine wl_run rfl (.int .i64 ((m2 : Nat) : Int)) (ex_assign rfl rfl) ?_
    simp only [Act.put, sA, sB, sC]
    have hcw5 : CoderS w5 gc T := hc.below hg (hbw.trans ((hu.trans hu5 (fun x hx => .inl hx)).below (fun x hx => by omega) (by omega)))
    have hu15 := hu.trans hu5 (fun x hx => .inl hx)
    obtain ⟨m1, mp, mn, hB, hm1, hmp⟩ := hcw5
    have c1 := hB.cell 1
    simp only [List.getElem?_toArray, List.getElem?_cons_zero, List.getElem?_cons_succ] at c1
    have hok : okP (((k + 1 : Nat) : Int), (m2 : Int)) := ⟨by simp only; omega, by simp only; omega⟩
    have HKEY := hid_ (keyOf_P _ hok)
    have HCF := hid_ (codeF_hasCode T ((k + 1 : Nat) : Int) (m2 : Int))
    cases hf : T.find? (hasCode ((k + 1 : Nat) : Int) (m2 : Int)) with
    | some t =>
      rw [hf] at HCF
      simp only [Option.map_some] at HCF
      have HZ2 := hid_ (HYES.out t hf)
      clear hf HYES HNO
      go_wp2_with (at_lookup; refine wpList_look_ok_g (by rfl) _ _ 239 3 rfl keyed_pair Tryz.underlying239 _ (zero_intV _) rfl hmp _ rfl (((k + 1 : Nat) : Int), (m2 : Int)) hok HKEY.out (.int .i64 t.1) (by rw [HCF.out]; rfl) true (by rw [HCF.out]; rfl) ?_)
      go_ret2
      rw [HZ2.out]
      exact ⟨rfl, by rw [HPS.out, HZ2.out, if_pos rfl]; exact hr5, hu15⟩
    | none =>
      rw [hf] at HCF
      simp only [Option.map_none] at HCF
      have HZ2 := hid_ (HNO.out hf)
      clear hf HYES HNO
      go_wp2_with (at_lookup; refine wpList_look_ok_g (by rfl) _ _ 239 3 rfl keyed_pair Tryz.underlying239 _ (zero_intV _) rfl hmp _ rfl (((k + 1 : Nat) : Int), (m2 : Int)) hok HKEY.out (.int .i64 0) (by rw [HCF.out]; rfl) false (by rw [HCF.out]; rfl) ?_)
      go_roundw
      case rel => exact ⟨k + 1, by omega, by go_num, by rw [HMM.out], hid_ (by rw [HZ2.out, show 15 - k = 16 - (k + 1) by omega]), hr5, hu15⟩
      case measure => simp [intOf]; omega
   ·have HZ2 : Hid (ez = (0, p, 3)) := hid_ (HEK.out.trans (HGO.out (15 - k) (k + 1) (by omega)))
    have HG : Hid (∀ W, RdS W gr A n c (p + k) bs → Calls Tryz.prog 164 #[.pointer (some ⟨gr, 0, none⟩), .int .i64 1] W fun e w' => e = .returned (.tuple #[.int .i64 0, .bool false]) ∧ Ext W w') := hid_ (fun W h => get_no gr A n c (p + k) bs 1 W h (by omega) (by omega))
    go_wp2_with (go_at_call 164; (with_reducible refine (HG.out _ hr).mono ?_); rintro e w5 ⟨rfl, hx5⟩)
    go_ret2
    rw [HZ2.out]
    exact ⟨rfl, by rw [HPS.out, HZ2.out, if_neg (show ¬ (3 : Int) = 0 by decide), if_pos rfl, show 8 * n = p + k by omega]; exact hr.ext hx5, hu.trans (Upd.of_ext (S := fun x => x = gr) hx5) (fun x hx => .inl hx)⟩
  ·have ek : k = 16 := by omega
   subst ek
   rw [HG0.out] at HEZ
   go_wp2_with fail
   go_ret2
   rw [HEZ.out]
   exact ⟨rfl, by rw [HPS.out, HEZ.out, if_neg (show ¬ (4 : Int) = 0 by decide), if_neg (show ¬ (4 : Int) = 3 by decide)]; exact hr, hu⟩
end
end Go.Proofs.YtkggcjdlpendfaaGreatDoor
