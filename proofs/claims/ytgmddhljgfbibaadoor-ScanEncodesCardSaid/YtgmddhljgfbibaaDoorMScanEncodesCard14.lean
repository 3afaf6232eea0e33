/- Contracts for the law ScanEncodesCard, part 14: what the functions that it reaches answer, for all arguments that the theorems name. -/
import Derived.Test.YtgmddhljgfbibaaDoorMScanEncodesCard13
import Derived.Test.YtgmddhljgfbibaaDoorMScanEncodesCard11
import Derived.Test.YtgmddhljgfbibaaDoorMScanEncodesCard12
import Derived.Test.YtgmddhljgfbibaaDoorMScanEncodesCard8
import Derived.Test.YtgmddhljgfbibaaDoorMScanEncodesCard4
import Derived.Test.YtgmddhljgfbibaaDoorMScanEncodesCard7
import Derived.Lib.CountLaws
import Derived.Test.YtgmddhljgfbibaaDoorMScanEncodesCard5
import Derived.Laws.MakeOwn
import Derived.Test.YtgmddhljgfbibaaDoorMScanEncodesCard6
/- seg.made: the coders of both tables. -/
namespace Go.Proofs.YtgmddhljgfbibaaDoor
set_option linter.unusedVariables false
set_option linter.unusedSimpArgs false
open Go.RowKit
section
variable {P : Program} {o : Oper} {a : Act}
theorem ex_build1 {t : TypeId} {x : Operand} (ho : o.op = .build t #[(0, x)]) {vx : Value} (hx : a.eval x = vx) {cs : Array Value} (hf : P.built t [(0, vx)] = some cs) (w : World) : (execOp a.eval o).run P w = .ok (.value (.agg cs)) w := by
  simp only [execOp, ho, Sem.run_bind, run_build w t (#[(0, x)].map fun (i, x) => (i, a.eval x)) cs (by simpa [hx] using hf), Result.andThen_ok, Sem.run_pure]
theorem ex_build2 {t : TypeId} {x y : Operand} (ho : o.op = .build t #[(0, x), (1, y)]) {vx vy : Value} (hx : a.eval x = vx) (hy : a.eval y = vy) {cs : Array Value} (hf : P.built t [(0, vx), (1, vy)] = some cs) (w : World) : (execOp a.eval o).run P w = .ok (.value (.agg cs)) w := by
  simp only [execOp, ho, Sem.run_bind, run_build w t (#[(0, x), (1, y)].map fun (i, x) => (i, a.eval x)) cs (by simpa [hx, hy] using hf), Result.andThen_ok, Sem.run_pure]
end
theorem builtCoders (p q : Addr) : Tryd.prog.built 115 [(0, .pointer (some p)), (1, .pointer (some q))] = some #[.pointer (some p), .pointer (some q)] := by
  show _ = _
  kernel_rfl
theorem goesNew : Goes Tryd.prog 54 := ⟨_, Tryd.func54, by kernel_rfl, by kernel_rfl⟩
section
variable {P : Program} {o : Oper} {a : Act}
theorem ex_loadMid {ty : TypeId} {x : Operand} (ho : o.op = .load ty x) {b off : Nat} (hx : a.eval x = .pointer (some ⟨b, off, none⟩)) {cs : List Value} {w : World} (hc : w.rangeAt b off cs) {d : TypeDesc} (hu : P.underlying ty = some d) (hd : d.isRow = true) (hi : (P.info? ty).map (·.size) = some cs.length) :
    (execOp a.eval o).run P w = .ok (.value (.agg cs.toArray)) w := by
  simp only [execOp, ho, hx, Sem.run_bind, run_loadAt_mid w b off ty cs d hc hu hd hi, Result.andThen_ok, Sem.run_pure]
end
set_option maxRecDepth 20000 in
set_option maxHeartbeats 4000000 in
theorem made_bad (t1 t2 : List Value) (z1 z2 : Int) (w : World) (h1 : t1.length = 17) (h2 : t2.length = 17)
    (o1 : t1.toArray.all (·.oneCell') = true) (o2 : t2.toArray.all (·.oneCell') = true)
    (C1 : ∀ W, Ext w W → Calls Tryd.prog 48 #[.agg t1.toArray] W fun e W' => e = .returned (.int .i64 z1) ∧ Ext W W')
    (C2 : ∀ W, Ext w W → Calls Tryd.prog 48 #[.agg t2.toArray] W fun e W' => e = .returned (.int .i64 z2) ∧ Ext W W')
    (hne : (if z1 = 0 then z2 else z1) ≠ 0) :
    Calls Tryd.prog 22 #[.agg (t1 ++ t2).toArray] w fun e w' => e = .returned (.tuple #[.pointer none, .int .i64 (if z1 = 0 then z2 else z1)]) ∧ Ext w w' := by
  have hl1 := hid_ h1
  have hl2 := hid_ h2
  have HB2 := hid_ (built2 t1 t2 h1 h2)
  have HRT := hid_ (fun W g (hb : Blk W g 32 (t1 ++ t2).toArray) => range_two h1 hb)
  have HRU := hid_ (fun W g (hb : Blk W g 34 (t1 ++ t2).toArray) => range_two h1 hb)
  have hs1 : Hid (t1.toArray.size = 17) := hid_ (by simpa using h1)
  have hs2 : Hid (t2.toArray.size = 17) := hid_ (by simpa using h2)
  have hz17 : Hid ((ints (List.replicate 16 0) ++ [Value.slice none 0 0]).toArray.size = 17) := hid_ (by simp [ints])
  have hl3 : Hid ((t1 ++ t2).toArray.size = 34) := hid_ (by simp [h1, h2])
  have HO1 := hid_ o1
  have HO2 := hid_ o2
  have HC1 := hid_ C1
  have HC2 := hid_ C2
  clear o1 o2 C1 C2 h1 h2
  generalize hR : (if z1 = 0 then z2 else z1) = R at *
  have HR := hid_ hR
  have HNE := hid_ hne
  clear hR hne
  go_enter Tryd.func22, Tryd.ntmps22
  go_wp2_with (first
    | (show wpList _ _ _ (⟨some 1, _, _, _, _, _⟩ :: _) _ _; refine wpList_box_abs rfl 34 (.tmp 0) rfl (t1 ++ t2).toArray rfl ?_; intro w1 g hb1 hx1 hg; have hr1 := HRU.out _ _ hb1)
    | (show wpList _ _ _ (⟨some 8, _, _, _, _, _⟩ :: _) _ _; refine wpList_load_mid rfl 32 (.tmp 7) rfl g 0 rfl t1 _ hr1.1 Tryd.underlying32 rfl (by rw [hl1.out]; exact sizeTbl) ?_)
    | (show wpList _ _ _ (⟨some 10, _, _, _, _, _⟩ :: _) _ _; refine wpList_load_mid rfl 32 (.tmp 9) rfl g 17 rfl t2 _ hr1.2 Tryd.underlying32 rfl (by rw [hl2.out]; exact sizeTbl) ?_)
    | (show wpList _ _ _ (⟨some 11, _, _, _, _, _⟩ :: _) _ _; refine Go.Great.wpList_buildSliceTo rfl 102 32 2 _ rfl _ rfl (some 11) rfl Tryd.underlying102 _ (by simp [Act.eval]; exact HB2.out) ?_))
  have hbn0 := Blk.new w1 32 (t1 ++ t2).toArray
  have hb3 := hb1.alloc (.cells (t1 ++ t2).toArray 32)
  have hx3 := hx1.alloc (.cells (t1 ++ t2).toArray 32)
  clear hb1 hr1 hx1
  go_loopw [13] (fun i wr => ∃ k : Nat, k ≤ 2 ∧ i = .int .i64 (k : Int) ∧ (1 ≤ k → z1 = 0) ∧ (2 ≤ k → z2 = 0) ∧ Blk wr g 34 (t1 ++ t2).toArray ∧ Blk wr w1.heap.size 32 (t1 ++ t2).toArray ∧ Ext w wr) (fun i _ => 2 - (intOf i).toNat)
  case atStart => exact ⟨0, by omega, rfl, fun h => absurd h (by omega), fun h => absurd h (by omega), hb3, hbn0, hx3⟩
  case round =>
    clear hb3 hbn0 hx3
    obtain ⟨k, hk, rfl, e1, e2, hb, hbn, hx⟩ := hrel
    rcases (by omega : k = 0 ∨ k = 1 ∨ k = 2) with rfl | rfl | rfl
    · have hr := (HRT.out _ _ hbn).1
      by_cases hz : z1 = 0
      · subst hz
        go_wp2_with (first
          | (show wpList _ _ _ (⟨some 16, _, _, _, _, _⟩ :: _) _ _; refine wpList_load_mid rfl 32 (.tmp 15) rfl _ 0 rfl t1 _ hr Tryd.underlying32 rfl (by rw [hl1.out]; exact sizeTbl) ?_)
          | (show wpList _ _ _ (⟨some 5, _, _, _, _, _⟩ :: _) _ _; refine wpList_alloc_abs' rfl (some 5) rfl 32 rfl _ zeroTbl ?_; intro w4 ga hba4 hx4 hga)
          | (show wpList _ _ _ (⟨none, .store _ (.tmp 5) (.tmp 16), _, _, _, _⟩ :: _) _ _; refine wpList_store_blk rfl 32 (.tmp 5) (.tmp 16) rfl _ _ rfl rfl hba4 17 sizeTbl hs1.out hz17.out HO1.out ?_; intro w5 hba5 hg5; have hx5 := (hx.trans hx4).grown hg5 (by have := hx.size; omega))
          | (show wpList _ _ _ (⟨some 17, _, _, _, _, _⟩ :: _) _ _; refine wpList_load_blk rfl 32 (.tmp 5) rfl _ rfl hba5 _ Tryd.underlying32 rfl 17 sizeTbl hs1.out ?_)
          | (go_at_call 48; (with_reducible refine (HC1.out _ hx5).mono ?_); rintro e w6 ⟨rfl, hx6⟩))
        go_roundw
        case rel => exact ⟨1, by omega, by go_num, by simp, fun h => absurd h (by omega), ((hb.ext hx4).grown hg5 (by have := hb.lt; simp; omega)).ext hx6, ((hbn.ext hx4).grown hg5 (by have := hbn.lt; simp; omega)).ext hx6, hx5.trans hx6⟩
        case measure => simp [intOf]
      · have hz1 : (z1 != 0) = true := by simpa using hz
        have HZ := hid_ hz
        clear hz
        go_wp2_with (first
          | (show wpList _ _ _ (⟨some 16, _, _, _, _, _⟩ :: _) _ _; refine wpList_load_mid rfl 32 (.tmp 15) rfl _ 0 rfl t1 _ hr Tryd.underlying32 rfl (by rw [hl1.out]; exact sizeTbl) ?_)
          | (show wpList _ _ _ (⟨some 5, _, _, _, _, _⟩ :: _) _ _; refine wpList_alloc_abs' rfl (some 5) rfl 32 rfl _ zeroTbl ?_; intro w4 ga hba4 hx4 hga)
          | (show wpList _ _ _ (⟨none, .store _ (.tmp 5) (.tmp 16), _, _, _, _⟩ :: _) _ _; refine wpList_store_blk rfl 32 (.tmp 5) (.tmp 16) rfl _ _ rfl rfl hba4 17 sizeTbl hs1.out hz17.out HO1.out ?_; intro w5 hba5 hg5; have hx5 := (hx.trans hx4).grown hg5 (by have := hx.size; omega))
          | (show wpList _ _ _ (⟨some 17, _, _, _, _, _⟩ :: _) _ _; refine wpList_load_blk rfl 32 (.tmp 5) rfl _ rfl hba5 _ Tryd.underlying32 rfl 17 sizeTbl hs1.out ?_)
          | (go_at_call 48; (with_reducible refine (HC1.out _ hx5).mono ?_); rintro e w6 ⟨rfl, hx6⟩))
        refine bodyPost_ret (results_tmp2 rfl _ _ _) rfl ?_
        exact ⟨by rw [← HR.out, if_neg HZ.out]; rfl, hx5.trans hx6⟩
    · have hr := (HRT.out _ _ hbn).2
      have hz0 := e1 (by omega)
      have hz2 : z2 = R := by rw [← HR.out, if_pos hz0]
      have hzb : (z2 != 0) = true := by rw [hz2]; simpa using HNE.out
      have HZ2 := hid_ hz2
      clear hz0 e1 e2 hz2
      go_wp2_with (first
        | (show wpList _ _ _ (⟨some 16, _, _, _, _, _⟩ :: _) _ _; refine wpList_load_mid rfl 32 (.tmp 15) rfl _ 17 rfl t2 _ hr Tryd.underlying32 rfl (by rw [hl2.out]; exact sizeTbl) ?_)
        | (show wpList _ _ _ (⟨some 5, _, _, _, _, _⟩ :: _) _ _; refine wpList_alloc_abs' rfl (some 5) rfl 32 rfl _ zeroTbl ?_; intro w4 ga hba4 hx4 hga)
        | (show wpList _ _ _ (⟨none, .store _ (.tmp 5) (.tmp 16), _, _, _, _⟩ :: _) _ _; refine wpList_store_blk rfl 32 (.tmp 5) (.tmp 16) rfl _ _ rfl rfl hba4 17 sizeTbl hs2.out hz17.out HO2.out ?_; intro w5 hba5 hg5; have hx5 := (hx.trans hx4).grown hg5 (by have := hx.size; omega))
        | (show wpList _ _ _ (⟨some 17, _, _, _, _, _⟩ :: _) _ _; refine wpList_load_blk rfl 32 (.tmp 5) rfl _ rfl hba5 _ Tryd.underlying32 rfl 17 sizeTbl hs2.out ?_)
        | (go_at_call 48; (with_reducible refine (HC2.out _ hx5).mono ?_); rintro e w6 ⟨rfl, hx6⟩))
      refine bodyPost_ret (results_tmp2 rfl _ _ _) rfl ?_
      exact ⟨by rw [← HZ2.out]; rfl, hx5.trans hx6⟩
    · exact absurd (by rw [← HR.out, if_pos (e1 (by omega)), e2 (by omega)]) HNE.out
set_option maxRecDepth 20000 in
set_option maxHeartbeats 4000000 in
theorem made_good (T1 T2 : List Tok) (t1 t2 : List Value) (w : World) (h1 : t1.length = 17) (h2 : t2.length = 17)
    (o1 : t1.toArray.all (·.oneCell') = true) (o2 : t2.toArray.all (·.oneCell') = true)
    (C1 : ∀ W, Ext w W → Calls Tryd.prog 48 #[.agg t1.toArray] W fun e W' => e = .returned (.int .i64 0) ∧ Ext W W')
    (C2 : ∀ W, Ext w W → Calls Tryd.prog 48 #[.agg t2.toArray] W fun e W' => e = .returned (.int .i64 0) ∧ Ext W W')
    (N1 : ∀ W, Ext w W → Calls Tryd.prog 54 #[.agg t1.toArray] W fun e W' => ∃ gc, e = .returned (.pointer (some ⟨gc, 0, none⟩)) ∧ CoderS W' gc T1 ∧ Ext W W')
    (N2 : ∀ W, Ext w W → Calls Tryd.prog 54 #[.agg t2.toArray] W fun e W' => ∃ gc, e = .returned (.pointer (some ⟨gc, 0, none⟩)) ∧ CoderS W' gc T2 ∧ Ext W W') :
    Calls Tryd.prog 22 #[.agg (t1 ++ t2).toArray] w fun e w' => ∃ gk gc1 gc2, e = .returned (.tuple #[.pointer (some ⟨gk, 0, none⟩), .int .i64 0]) ∧ Blk w' gk 115 #[.pointer (some ⟨gc1, 0, none⟩), .pointer (some ⟨gc2, 0, none⟩)] ∧ CoderS w' gc1 T1 ∧ CoderS w' gc2 T2 ∧ Ext w w' := by
  have HN1 := hid_ N1
  have HN2 := hid_ N2
  clear N1 N2
  have hl1 := hid_ h1
  have hl2 := hid_ h2
  have HB2 := hid_ (built2 t1 t2 h1 h2)
  have HRT := hid_ (fun W g (hb : Blk W g 32 (t1 ++ t2).toArray) => range_two h1 hb)
  have HRU := hid_ (fun W g (hb : Blk W g 34 (t1 ++ t2).toArray) => range_two h1 hb)
  have hs1 : Hid (t1.toArray.size = 17) := hid_ (by simpa using h1)
  have hs2 : Hid (t2.toArray.size = 17) := hid_ (by simpa using h2)
  have hz17 : Hid ((ints (List.replicate 16 0) ++ [Value.slice none 0 0]).toArray.size = 17) := hid_ (by simp [ints])
  have hl3 : Hid ((t1 ++ t2).toArray.size = 34) := hid_ (by simp [h1, h2])
  have HO1 := hid_ o1
  have HO2 := hid_ o2
  have HC1 := hid_ C1
  have HC2 := hid_ C2
  clear o1 o2 C1 C2 h1 h2
  go_enter Tryd.func22, Tryd.ntmps22
  go_wp2_with (first
    | (show wpList _ _ _ (⟨some 1, _, _, _, _, _⟩ :: _) _ _; refine wpList_box_abs rfl 34 (.tmp 0) rfl (t1 ++ t2).toArray rfl ?_; intro w1 g hb1 hx1 hg; have hr1 := HRU.out _ _ hb1)
    | (show wpList _ _ _ (⟨some 8, _, _, _, _, _⟩ :: _) _ _; refine wpList_load_mid rfl 32 (.tmp 7) rfl g 0 rfl t1 _ hr1.1 Tryd.underlying32 rfl (by rw [hl1.out]; exact sizeTbl) ?_)
    | (show wpList _ _ _ (⟨some 10, _, _, _, _, _⟩ :: _) _ _; refine wpList_load_mid rfl 32 (.tmp 9) rfl g 17 rfl t2 _ hr1.2 Tryd.underlying32 rfl (by rw [hl2.out]; exact sizeTbl) ?_)
    | (show wpList _ _ _ (⟨some 11, _, _, _, _, _⟩ :: _) _ _; refine Go.Great.wpList_buildSliceTo rfl 102 32 2 _ rfl _ rfl (some 11) rfl Tryd.underlying102 _ (by simp [Act.eval]; exact HB2.out) ?_))
  have hbn0 := Blk.new w1 32 (t1 ++ t2).toArray
  have hb3 := hb1.alloc (.cells (t1 ++ t2).toArray 32)
  have hx3 := hx1.alloc (.cells (t1 ++ t2).toArray 32)
  clear hb1 hr1 hx1
  go_loopw [13] (fun i wr => ∃ k : Nat, k ≤ 2 ∧ i = .int .i64 (k : Int) ∧ Blk wr g 34 (t1 ++ t2).toArray ∧ Blk wr w1.heap.size 32 (t1 ++ t2).toArray ∧ Ext w wr) (fun i _ => 2 - (intOf i).toNat)
  case atStart => exact ⟨0, by omega, rfl, hb3, hbn0, hx3⟩
  case round =>
    clear hb3 hbn0 hx3
    obtain ⟨k, hk, rfl, hb, hbn, hx⟩ := hrel
    rcases (by omega : k = 0 ∨ k = 1 ∨ k = 2) with rfl | rfl | rfl
    · have hr := (HRT.out _ _ hbn).1
      go_wp2_with (first
        | (show wpList _ _ _ (⟨some 16, _, _, _, _, _⟩ :: _) _ _; refine wpList_load_mid rfl 32 (.tmp 15) rfl _ 0 rfl t1 _ hr Tryd.underlying32 rfl (by rw [hl1.out]; exact sizeTbl) ?_)
        | (show wpList _ _ _ (⟨some 5, _, _, _, _, _⟩ :: _) _ _; refine wpList_alloc_abs' rfl (some 5) rfl 32 rfl _ zeroTbl ?_; intro w4 ga hba4 hx4 hga)
        | (show wpList _ _ _ (⟨none, .store _ (.tmp 5) (.tmp 16), _, _, _, _⟩ :: _) _ _; refine wpList_store_blk rfl 32 (.tmp 5) (.tmp 16) rfl _ _ rfl rfl hba4 17 sizeTbl hs1.out hz17.out HO1.out ?_; intro w5 hba5 hg5; have hx5 := (hx.trans hx4).grown hg5 (by have := hx.size; omega))
        | (show wpList _ _ _ (⟨some 17, _, _, _, _, _⟩ :: _) _ _; refine wpList_load_blk rfl 32 (.tmp 5) rfl _ rfl hba5 _ Tryd.underlying32 rfl 17 sizeTbl hs1.out ?_)
        | (go_at_call 48; (with_reducible refine (HC1.out _ hx5).mono ?_); rintro e w6 ⟨rfl, hx6⟩))
      go_roundw
      case rel => exact ⟨1, by omega, by go_num, ((hb.ext hx4).grown hg5 (by have := hb.lt; simp; omega)).ext hx6, ((hbn.ext hx4).grown hg5 (by have := hbn.lt; simp; omega)).ext hx6, hx5.trans hx6⟩
      case measure => simp [intOf]
    · have hr := (HRT.out _ _ hbn).2
      go_wp2_with (first
        | (show wpList _ _ _ (⟨some 16, _, _, _, _, _⟩ :: _) _ _; refine wpList_load_mid rfl 32 (.tmp 15) rfl _ 17 rfl t2 _ hr Tryd.underlying32 rfl (by rw [hl2.out]; exact sizeTbl) ?_)
        | (show wpList _ _ _ (⟨some 5, _, _, _, _, _⟩ :: _) _ _; refine wpList_alloc_abs' rfl (some 5) rfl 32 rfl _ zeroTbl ?_; intro w4 ga hba4 hx4 hga)
        | (show wpList _ _ _ (⟨none, .store _ (.tmp 5) (.tmp 16), _, _, _, _⟩ :: _) _ _; refine wpList_store_blk rfl 32 (.tmp 5) (.tmp 16) rfl _ _ rfl rfl hba4 17 sizeTbl hs2.out hz17.out HO2.out ?_; intro w5 hba5 hg5; have hx5 := (hx.trans hx4).grown hg5 (by have := hx.size; omega))
        | (show wpList _ _ _ (⟨some 17, _, _, _, _, _⟩ :: _) _ _; refine wpList_load_blk rfl 32 (.tmp 5) rfl _ rfl hba5 _ Tryd.underlying32 rfl 17 sizeTbl hs2.out ?_)
        | (go_at_call 48; (with_reducible refine (HC2.out _ hx5).mono ?_); rintro e w6 ⟨rfl, hx6⟩))
      go_roundw
      case rel => exact ⟨2, by omega, by go_num, ((hb.ext hx4).grown hg5 (by have := hb.lt; simp; omega)).ext hx6, ((hbn.ext hx4).grown hg5 (by have := hbn.lt; simp; omega)).ext hx6, hx5.trans hx6⟩
      case measure => simp [intOf]
    · have HRD := hid_ (fun W (h : Ext wr W) => HRU.out W g (hb.ext h))
      clear hb hbn
      go_wp2_with fail
      have hI : Ext wr wr.drew := (Ext.refl wr).drew
      refine wp_region_oi (Ext wr) (by kernel_rfl) ?_
      refine oi_run (k := 0) (by kernel_rfl) rfl (by rfl) (.pointer (some ⟨g, 0, none⟩)) (fun w => by go_simp) hI ?_
      simp only [Act.put, List.setIfInBounds_toArray, List.set_cons_succ, List.set_cons_zero]
      refine oi_fix (k := 1) (by kernel_rfl) rfl (by rfl) (.agg t1.toArray) (fun W hW => ex_loadMid rfl rfl (HRD.out W hW).1 Tryd.underlying32 rfl (by rw [hl1.out]; exact sizeTbl)) hI ?_
      simp only [Act.put, List.setIfInBounds_toArray, List.set_cons_succ, List.set_cons_zero]
      refine oi_run (k := 3) (by kernel_rfl) rfl (by rfl) (.pointer (some ⟨g, 17, none⟩)) (fun w => by go_simp) hI ?_
      simp only [Act.put, List.setIfInBounds_toArray, List.set_cons_succ, List.set_cons_zero]
      refine oi_fix (k := 4) (by kernel_rfl) rfl (by rfl) (.agg t2.toArray) (fun W hW => ex_loadMid rfl rfl (HRD.out W hW).2 Tryd.underlying32 rfl (by rw [hl2.out]; exact sizeTbl)) hI ?_
      simp only [Act.put, List.setIfInBounds_toArray, List.set_cons_succ, List.set_cons_zero]
      refine oi_loud (k := 2) (by kernel_rfl) rfl ?_
      refine wl_enter (by rfl) (run_callv _ _ _ rfl rfl goesNew #[.agg t1.toArray] (by simp [Act.eval])) ?_
      refine (HN1.out _ (hx.trans hI)).mono ?_
      rintro e w5 ⟨gc1, rfl, hc1, hx5⟩
      have hI5 := hI.trans hx5
      refine ⟨_, rfl, oi_end ⟨hI5, ?_⟩⟩
      simp only [Act.put, List.setIfInBounds_toArray, List.set_cons_succ, List.set_cons_zero]
      refine oi_loud (k := 5) (by kernel_rfl) rfl ?_
      refine wl_enter (by rfl) (run_callv _ _ _ rfl rfl goesNew #[.agg t2.toArray] (by simp [Act.eval])) ?_
      refine (HN2.out _ (hx.trans hI5)).mono ?_
      rintro e w6 ⟨gc2, rfl, hc2, hx6⟩
      have hI6 := hI5.trans hx6
      refine ⟨_, rfl, oi_end ⟨hI6, ?_⟩⟩
      simp only [Act.put, List.setIfInBounds_toArray, List.set_cons_succ, List.set_cons_zero]
      refine oi_run (k := 6) (by kernel_rfl) rfl (by rfl) (.agg #[.pointer (some ⟨gc1, 0, none⟩), .pointer (some ⟨gc2, 0, none⟩)]) (ex_build2 rfl rfl rfl (builtCoders _ _)) hI6 ?_
      simp only [Act.put, List.setIfInBounds_toArray, List.set_cons_succ, List.set_cons_zero]
      refine oi_loud (k := 7) (by kernel_rfl) rfl ?_
      refine wpList_box_abs rfl 115 (.tmp 29) rfl #[.pointer (some ⟨gc1, 0, none⟩), .pointer (some ⟨gc2, 0, none⟩)] rfl ?_
      intro w7 gk hb7 hx7 hg7
      have hI7 := hI6.trans hx7
      refine oi_end ⟨hI7, ?_⟩
      simp only [Act.put, List.setIfInBounds_toArray, List.set_cons_succ, List.set_cons_zero]
      refine oi_run (k := 8) (by kernel_rfl) rfl (by rfl) (.pointer (some ⟨gk, 0, none⟩)) (ex_assign rfl rfl) hI7 ?_
      simp only [Act.put, List.setIfInBounds_toArray, List.set_cons_succ, List.set_cons_zero]
      refine oi_run (k := 9) (by kernel_rfl) rfl (by rfl) (.int .i64 0) (ex_assign rfl rfl) hI7 ?_
      simp only [Act.put, List.setIfInBounds_toArray, List.set_cons_succ, List.set_cons_zero]
      refine oi_done (by kernel_rfl) ?_
      go_wp2_with fail
      refine bodyPost_ret (results_tmp2 rfl _ _ _) rfl ?_
      exact ⟨gk, gc1, gc2, rfl, hb7, (hc1.ext hx6).ext hx7, hc2.ext hx7, hx.trans hI7⟩
end Go.Proofs.YtgmddhljgfbibaaDoor
/- Splitting stuffed bytes: plain. -/
namespace Go.Proofs.YtgmddhljgfbibaaDoor
set_option linter.unusedVariables false
set_option linter.unusedSimpArgs false
open Go.RowKit
/-- pieces, marks; none: an error -/
def spGo : List Nat → List (List Nat) → List Nat → List Nat → Option (List (List Nat) × List Nat)
  | [], P, M, c => some (P ++ [c], M)
  | [x], P, M, c => if x = 255 then none else some (P ++ [c ++ [x]], M)
  | x :: y :: r, P, M, c => if x = 255 then (if y = 255 then none else if y = 0 then spGo r P M (c ++ [255, 0]) else spGo r (P ++ [c]) (M ++ [y]) []) else spGo (y :: r) P M (c ++ [x])
theorem sp_end {bs : List Nat} {i : Nat} {P : List (List Nat)} {M c : List Nat} (h : bs.length ≤ i) : spGo (bs.drop i) P M c = some (P ++ [c], M) := by
  rw [List.drop_of_length_le h, spGo]
theorem sp_plain {bs : List Nat} {i : Nat} {P : List (List Nat)} {M c : List Nat} (h : i < bs.length) (hx : bs[i] ≠ 255) : spGo (bs.drop i) P M c = spGo (bs.drop (i + 1)) P M (c ++ [bs[i]]) := by
  rw [List.drop_eq_getElem_cons h]
  cases hd : bs.drop (i + 1) with
  | nil => simp [spGo, hx]
  | cons y r => simp [spGo, hx]
theorem sp_two {bs : List Nat} {i : Nat} {P : List (List Nat)} {M c : List Nat} (h : i + 1 < bs.length) (hx : bs[i] = 255) :
    spGo (bs.drop i) P M c = if bs[i + 1] = 255 then none else if bs[i + 1] = 0 then spGo (bs.drop (i + 2)) P M (c ++ [255, 0]) else spGo (bs.drop (i + 2)) (P ++ [c]) (M ++ [bs[i + 1]]) [] := by
  rw [List.drop_eq_getElem_cons (by omega), List.drop_eq_getElem_cons h, spGo, if_pos hx]
theorem sp_last {bs : List Nat} {i : Nat} {P : List (List Nat)} {M c : List Nat} (h : i + 1 = bs.length) (hx : bs[i]'(by omega) = 255) : spGo (bs.drop i) P M c = none := by
  rw [List.drop_eq_getElem_cons (by omega), List.drop_of_length_le (by omega), spGo, if_pos hx]
/-- every piece and every mark takes room in the bytes -/
theorem sp_len : ∀ (r : List Nat) (P : List (List Nat)) (M c : List Nat) (z : List (List Nat) × List Nat), spGo r P M c = some z → z.1.length ≤ P.length + r.length + 1 ∧ z.2.length ≤ M.length + r.length
  | [], P, M, c, z, h => by simp [spGo] at h; subst h; simp
  | [x], P, M, c, z, h => by
    simp only [spGo] at h
    split at h
    · cases h
    · simp at h; subst h; simp
  | x :: y :: r, P, M, c, z, h => by
    simp only [spGo] at h
    split at h
    · split at h
      · cases h
      · split at h
        · have := sp_len r P M (c ++ [255, 0]) z h
          simp only [List.length_cons]; omega
        · have := sp_len r (P ++ [c]) (M ++ [y]) [] z h
          simp only [List.length_append, List.length_cons, List.length_nil] at this ⊢; omega
    · have := sp_len (y :: r) P M (c ++ [x]) z h
      simp only [List.length_cons] at this ⊢; omega
/-- a slice of slices of bytes -/
def Pieces (w : World) (VS : List Value) (P : List (List Nat)) : Prop :=
  VS.length = P.length ∧ ∀ i (h : i < P.length), ∃ A c, VS[i]? = some (.slice A P[i].length c) ∧ SL w 1 (.slice A P[i].length c) P[i].length (bytesV P[i])
theorem Pieces.ext {w w' : World} {VS : List Value} {P : List (List Nat)} (h : Pieces w VS P) (hx : Ext w w') : Pieces w' VS P :=
  ⟨h.1, fun i hi => by obtain ⟨A, c, h1, h2⟩ := h.2 i hi; exact ⟨A, c, h1, h2.ext hx⟩⟩
theorem Pieces.snoc {w : World} {VS : List Value} {P : List (List Nat)} (h : Pieces w VS P) {A : Option Addr} {n c : Nat} {l : List Nat} (hn : l.length = n) (hs : SL w 1 (.slice A n c) n (bytesV l)) : Pieces w (VS ++ [.slice A n c]) (P ++ [l]) := by
  subst hn
  refine ⟨by simp [h.1], fun i hi => ?_⟩
  by_cases hlt : i < P.length
  · obtain ⟨B, d, h1, h2⟩ := h.2 i hlt
    refine ⟨B, d, ?_, ?_⟩
    · rw [List.getElem?_append_left (by rw [h.1]; exact hlt), h1, List.getElem_append_left hlt]
    · rw [List.getElem_append_left hlt]; exact h2
  · have e : i = P.length := by simp at hi; omega
    subst e
    refine ⟨A, c, ?_, ?_⟩
    · rw [List.getElem?_append_right (by rw [h.1]; exact Nat.le_refl _), h.1]; simp
    · simpa using hs
end Go.Proofs.YtgmddhljgfbibaaDoor
/- Replacing in bytes, in plain words. -/
namespace Go.Proofs.YtgmddhljgfbibaaDoor
set_option linter.unusedVariables false
set_option linter.unusedSimpArgs false
open Go.RowKit
/-- bytes as the library's laws have them -/
def b8 (s : List Nat) : List UInt8 := s.map UInt8.ofNat
theorem b8_len (s : List Nat) : (b8 s).length = s.length := by simp [b8]
theorem b8_drop (s : List Nat) (k : Nat) : b8 (s.drop k) = (b8 s).drop k := by simp [b8]
def ixN (s o : List Nat) : Int := Lib.index (b8 s) (b8 o)
def cntN (s o : List Nat) : Nat := Lib.count (b8 s) (b8 o)
/-- the first m places replaced -/
def replN : Nat → List Nat → List Nat → List Nat → List Nat
  | 0, s, _, _ => s
  | m + 1, s, o, v => s.take (ixN s o).toNat ++ (v ++ replN m (s.drop ((ixN s o).toNat + o.length)) o v)
theorem b8_nil {o : List Nat} (h : o ≠ []) : b8 o ≠ [] := by
  intro e
  have := congrArg List.length e
  rw [b8_len] at this
  exact h (List.eq_nil_of_length_eq_zero this)
theorem cnt_succ {s o : List Nat} {m : Nat} (ho : o ≠ []) (h : cntN s o = m + 1) : ∃ i : Nat, ixN s o = i ∧ i + o.length ≤ s.length ∧ cntN (s.drop (i + o.length)) o = m := by
  unfold cntN at h
  have hge := Lib.index_ge (b8 s) (b8 o)
  have hne : Lib.index (b8 s) (b8 o) ≠ -1 := fun e => by rw [Lib.count_miss e] at h; omega
  obtain ⟨i, hi⟩ : ∃ i : Nat, Lib.index (b8 s) (b8 o) = i := ⟨(Lib.index (b8 s) (b8 o)).toNat, by omega⟩
  have hr := Lib.index_room (b8 s) (b8 o) (by omega)
  rw [hi, b8_len, b8_len] at hr
  rw [Lib.count_hit (b8_nil ho) hi, b8_len] at h
  refine ⟨i, hi, by omega, ?_⟩
  unfold cntN
  rw [b8_drop]
  omega
theorem replN_len : ∀ (m : Nat) (s o v : List Nat), o ≠ [] → cntN s o = m → (replN m s o v).length + m * o.length = s.length + m * v.length
  | 0, s, o, v, _, _ => by simp [replN]
  | m + 1, s, o, v, ho, h => by
    obtain ⟨i, h1, h2, h3⟩ := cnt_succ ho h
    have ih := replN_len m _ o v ho h3
    rw [replN, h1, Int.toNat_natCast, List.length_append, List.length_append, List.length_take, Nat.min_eq_left (by omega), Nat.succ_mul, Nat.succ_mul]
    rw [List.length_drop] at ih
    omega
theorem cnt_room : ∀ (m : Nat) (s o : List Nat), o ≠ [] → cntN s o = m → m * o.length ≤ s.length
  | 0, s, o, _, _ => by simp
  | m + 1, s, o, ho, h => by
    obtain ⟨i, h1, h2, h3⟩ := cnt_succ ho h
    have ih := cnt_room m _ o ho h3
    rw [List.length_drop] at ih
    rw [Nat.succ_mul]
    omega
theorem ix_nil {o : List Nat} (ho : o ≠ []) : ixN [] o = -1 := by
  unfold ixN
  cases h : b8 o with
  | nil => exact absurd h (b8_nil ho)
  | cons => simp [b8, Lib.index]
theorem cnt_nil {o : List Nat} (ho : o ≠ []) : cntN [] o = 0 := Lib.count_miss (ix_nil ho)
theorem ix_here {s o : List Nat} (hp : (b8 o).isPrefixOf (b8 s) = true) : ixN s o = 0 := by
  unfold ixN
  cases s with
  | nil =>
    cases hq : b8 o with
    | nil => simp [b8, Lib.index]
    | cons => rw [hq] at hp; simp [b8] at hp
  | cons b l =>
    rw [show b8 (b :: l) = UInt8.ofNat b :: b8 l from rfl] at hp ⊢
    rw [Lib.index, if_pos hp]
theorem ix_skip {b : Nat} {l o : List Nat} (hp : (b8 o).isPrefixOf (b8 (b :: l)) = false) : ixN (b :: l) o = if ixN l o = -1 then -1 else ixN l o + 1 := by
  unfold ixN
  rw [show b8 (b :: l) = UInt8.ofNat b :: b8 l from rfl] at hp ⊢
  rw [Lib.index, hp]
  simp
theorem cnt_here {s o : List Nat} (ho : o ≠ []) (hp : (b8 o).isPrefixOf (b8 s) = true) : cntN s o = 1 + cntN (s.drop o.length) o := by
  unfold cntN
  rw [Lib.count_hit (i := 0) (b8_nil ho) (ix_here hp), b8_len, Nat.zero_add, b8_drop]
theorem cnt_skip {b : Nat} {l o : List Nat} (ho : o ≠ []) (hp : (b8 o).isPrefixOf (b8 (b :: l)) = false) : cntN (b :: l) o = cntN l o := by
  have h := ix_skip hp
  have hge := Lib.index_ge (b8 l) (b8 o)
  by_cases hm : ixN l o = -1
  · rw [if_pos hm] at h
    unfold cntN
    rw [Lib.count_miss h, Lib.count_miss hm]
  · rw [if_neg hm] at h
    obtain ⟨i, hi⟩ : ∃ i : Nat, ixN l o = i := ⟨(ixN l o).toNat, by unfold ixN at *; omega⟩
    rw [hi] at h
    unfold cntN
    rw [Lib.count_hit (i := i + 1) (b8_nil ho) (by have := h; unfold ixN at this; rw [this]; rfl), Lib.count_hit (i := i) (b8_nil ho) hi]
    rw [show b8 (b :: l) = UInt8.ofNat b :: b8 l from rfl, show i + 1 + (b8 o).length = (i + (b8 o).length) + 1 by omega, List.drop_succ_cons]
/-- all of them replaced -/
def replZ (s o v : List Nat) : List Nat := replN (cntN s o) s o v
theorem replZ_nil {o : List Nat} (ho : o ≠ []) (v : List Nat) : replZ [] o v = [] := by unfold replZ; rw [cnt_nil ho, replN]
theorem replZ_here {s o : List Nat} (ho : o ≠ []) (hp : (b8 o).isPrefixOf (b8 s) = true) (v : List Nat) : replZ s o v = v ++ replZ (s.drop o.length) o v := by
  unfold replZ
  rw [cnt_here ho hp, Nat.add_comm, replN, ix_here hp]
  simp
theorem replZ_skip {b : Nat} {l o : List Nat} (ho : o ≠ []) (hp : (b8 o).isPrefixOf (b8 (b :: l)) = false) (v : List Nat) : replZ (b :: l) o v = b :: replZ l o v := by
  unfold replZ
  rw [cnt_skip ho hp]
  cases hc : cntN l o with
  | zero => rfl
  | succ m =>
    obtain ⟨i, h1, h2, h3⟩ := cnt_succ ho hc
    have h := ix_skip hp
    rw [h1, if_neg (by omega)] at h
    rw [replN, replN, h, h1, show ((i : Int) + 1).toNat = i + 1 by omega, Int.toNat_natCast, List.take_succ_cons, show i + 1 + o.length = (i + o.length) + 1 by omega, List.drop_succ_cons]
    rfl
theorem u8_inj {a b : Nat} (ha : a < 256) (hb : b < 256) : (UInt8.ofNat a == UInt8.ofNat b) = decide (a = b) := by
  rw [Bool.eq_iff_iff, beq_iff_eq, decide_eq_true_iff]
  constructor
  · intro h
    have := congrArg UInt8.toNat h
    simp at this
    omega
  · rintro rfl; rfl
theorem pre1 {b : Nat} {l : List Nat} (y : Nat) (hy : y < 256) (hb : b < 256) : (b8 [y]).isPrefixOf (b8 (b :: l)) = decide (y = b) := by
  simp only [b8, List.map_cons, List.map_nil, List.isPrefixOf, Bool.and_true]
  exact u8_inj hy hb
theorem pre2 {b c : Nat} {l : List Nat} (y z : Nat) (hy : y < 256) (hz : z < 256) (hb : b < 256) (hc : c < 256) : (b8 [y, z]).isPrefixOf (b8 (b :: c :: l)) = (decide (y = b) && decide (z = c)) := by
  simp only [b8, List.map_cons, List.map_nil, List.isPrefixOf, Bool.and_true]
  rw [u8_inj hy hb, u8_inj hz hc]
theorem pre2_one {b : Nat} (y z : Nat) : (b8 [y, z]).isPrefixOf (b8 [b]) = false := by
  simp [b8, List.isPrefixOf]
/-- the library's count of one byte -/
theorem count_one : ∀ (s : List UInt8) (c : UInt8), Lib.count s [c] = s.count c := by
  have key : ∀ (n : Nat) (s : List UInt8) (c : UInt8), s.length ≤ n → Lib.count s [c] = s.count c := by
    intro n
    induction n with
    | zero =>
      intro s c h
      obtain rfl : s = [] := List.eq_nil_of_length_eq_zero (by omega)
      rfl
    | succ n ih =>
      intro s c h
      cases s with
      | nil => rfl
      | cons b l =>
        have hl : l.length ≤ n := by simpa using h
        by_cases hb : c = b
        · have hix : Lib.index (b :: l) [c] = ((0 : Nat) : Int) := by
            rw [Lib.index, if_pos (by simp [List.isPrefixOf, hb])]; rfl
          rw [Lib.count_hit (by simp) hix]
          rw [show (b :: l).drop (0 + [c].length) = l from rfl, ih l c hl, hb, List.count_cons_self]
          omega
        · rw [List.count_cons_of_ne (fun e => hb e.symm), ← ih l c hl]
          have hix : Lib.index (b :: l) [c] = if (Lib.index l [c] == -1) = true then -1 else Lib.index l [c] + 1 := by
            rw [Lib.index, if_neg (by simp [List.isPrefixOf, hb])]
          have hge := Lib.index_ge l [c]
          by_cases hm : Lib.index l [c] = -1
          · rw [hm] at hix
            rw [Lib.count_miss hix, Lib.count_miss hm]
          · obtain ⟨i, hi⟩ : ∃ i : Nat, Lib.index l [c] = i := ⟨(Lib.index l [c]).toNat, by omega⟩
            rw [if_neg (by simpa using hm), hi] at hix
            rw [Lib.count_hit (i := i + 1) (by simp) (by rw [hix]; rfl), Lib.count_hit (i := i) (by simp) hi]
            rfl
  exact fun s c => key s.length s c (Nat.le_refl _)
/-- stuffed bytes -/
def stuffZ (bs : List Nat) : List Nat := bs.flatMap fun b => if b = 255 then [255, 0] else [b]
theorem stuff_repl : ∀ (bs : List Nat), (∀ b ∈ bs, b < 256) → replZ bs [255] [255, 0] = stuffZ bs
  | [], _ => by rw [replZ_nil (by simp)]; rfl
  | b :: l, h => by
    have hb := h b (by simp)
    have ih := stuff_repl l (fun x hx => h x (by simp [hx]))
    have hp := pre1 (l := l) 255 (by omega) hb
    by_cases hq : b = 255
    · rw [replZ_here (by simp) (by rw [hp]; simp [hq])]
      rw [show (b :: l).drop [255].length = l from rfl, ih]
      simp [stuffZ, hq]
    · rw [replZ_skip (by simp) (by rw [hp]; simpa using fun e => hq e.symm), ih]
      simp [stuffZ, hq]
/-- plain bytes -/
def plZ : List Nat → Option (List Nat)
  | [] => some []
  | [b] => if b = 255 then none else some [b]
  | b :: c :: r => if b = 255 then (if c = 0 then (plZ r).map (255 :: ·) else none) else (plZ (c :: r)).map (b :: ·)
theorem plain_repl : ∀ (bs : List Nat) (z : List Nat), (∀ b ∈ bs, b < 256) → plZ bs = some z → replZ bs [255, 0] [255] = z
  | [], z, _, hz => by
    obtain rfl : [] = z := by simpa [plZ] using hz
    exact replZ_nil (by simp) _
  | [b], z, h, hz => by
    rw [plZ] at hz
    split at hz
    · cases hz
    · injection hz with hz
      rw [replZ_skip (by simp) (pre2_one _ _), replZ_nil (by simp), hz]
  | b :: c :: r, z, h, hz => by
    have hb := h b (by simp)
    have hc := h c (by simp)
    have hp := pre2 (l := r) 255 0 (by omega) (by omega) hb hc
    rw [plZ] at hz
    by_cases hq : b = 255
    · rw [if_pos hq] at hz
      by_cases h0 : c = 0
      · rw [if_pos h0] at hz
        rw [replZ_here (by simp) (by rw [hp]; simp [hq, h0])]
        cases hr : plZ r with
        | none => rw [hr] at hz; cases hz
        | some q =>
          rw [hr] at hz
          injection hz with hz
          rw [show (b :: c :: r).drop [255, 0].length = r from rfl, plain_repl r q (fun x hx => h x (by simp [hx])) hr, ← hz]
          rfl
      · rw [if_neg h0] at hz; cases hz
    · rw [if_neg hq] at hz
      rw [replZ_skip (by simp) (by rw [hp, decide_eq_false (fun e : 255 = b => hq e.symm)]; rfl)]
      cases hr : plZ (c :: r) with
      | none => rw [hr] at hz; cases hz
      | some q =>
        rw [hr] at hz
        injection hz with hz
        rw [plain_repl (c :: r) q (fun x hx => h x (by simp [hx])) hr, ← hz]
/-- Split's answer tells whether they are plain -/
theorem sp_plZ : ∀ (bs : List Nat) (P : List (List Nat)) (M c : List Nat), (M ≠ [] ∨ plZ bs = none → ∀ z, spGo bs P M c = some z → z.2 ≠ []) ∧ (M = [] → ∀ q, plZ bs = some q → ∃ z, spGo bs P M c = some (z, []))
  | [], P, M, c => by
    rw [spGo, plZ]
    refine ⟨fun h z hz => ?_, fun h q _ => ⟨_, by rw [h]⟩⟩
    injection hz with hz
    subst hz
    rcases h with h | h
    · exact h
    · cases h
  | [x], P, M, c => by
    rw [spGo, plZ]
    by_cases hx : x = 255
    · rw [if_pos hx, if_pos hx]
      exact ⟨fun _ z hz => (by cases hz), fun _ q hq => (by cases hq)⟩
    · rw [if_neg hx, if_neg hx]
      refine ⟨fun h z hz => ?_, fun h q _ => ⟨_, by rw [h]⟩⟩
      injection hz with hz
      subst hz
      rcases h with h | h
      · exact h
      · cases h
  | x :: y :: r, P, M, c => by
    rw [plZ, spGo]
    by_cases hx : x = 255
    · rw [if_pos hx, if_pos hx]
      by_cases h1 : y = 255
      · rw [if_pos h1, if_neg (by omega)]
        exact ⟨fun _ z hz => (by cases hz), fun _ q hq => (by cases hq)⟩
      · rw [if_neg h1]
        by_cases h0 : y = 0
        · rw [if_pos h0, if_pos h0]
          have ih := sp_plZ r P M (c ++ [255, 0])
          refine ⟨fun h z hz => ih.1 (h.imp_right fun h => ?_) z hz, fun h q hq => ?_⟩
          · cases hr : plZ r with
            | none => rfl
            | some q => rw [hr] at h; cases h
          · cases hr : plZ r with
            | none => rw [hr] at hq; cases hq
            | some q' => exact ih.2 h q' hr
        · rw [if_neg h0, if_neg h0]
          exact ⟨fun _ z hz => (sp_plZ r (P ++ [c]) (M ++ [y]) []).1 (.inl (by simp)) z hz, fun _ q hq => (by cases hq)⟩
    · rw [if_neg hx, if_neg hx]
      have ih := sp_plZ (y :: r) P M (c ++ [x])
      refine ⟨fun h z hz => ih.1 (h.imp_right fun h => ?_) z hz, fun h q hq => ?_⟩
      · cases hr : plZ (y :: r) with
        | none => rfl
        | some q => rw [hr] at h; cases h
      · cases hr : plZ (y :: r) with
        | none => rw [hr] at hq; cases hq
        | some q' => exact ih.2 h q' hr
theorem stuff_lt {bs : List Nat} (h : ∀ b ∈ bs, b < 256) : ∀ b ∈ stuffZ bs, b < 256 := by
  intro b hb
  unfold stuffZ at hb
  obtain ⟨x, hx, hb⟩ := List.mem_flatMap.1 hb
  have := h x hx
  split at hb
  · simp at hb; omega
  · simp at hb; omega
theorem stuff_len : ∀ (bs : List Nat), (stuffZ bs).length ≤ 2 * bs.length
  | [] => by simp [stuffZ]
  | b :: l => by
    have := stuff_len l
    unfold stuffZ at *
    rw [List.flatMap_cons, List.length_append, List.length_cons]
    split
    · rw [show [255, 0].length = 2 from rfl]; omega
    · rw [List.length_singleton]; omega
end Go.Proofs.YtgmddhljgfbibaaDoor
/- Slicing a slice of bytes. -/
namespace Go.Proofs.YtgmddhljgfbibaaDoor
set_option linter.unusedVariables false
set_option linter.unusedSimpArgs false
open Go.RowKit
theorem SL.sub {w : World} {A : Option Addr} {n c l h : Nat} {xs : List Value} (hs : SL w 1 (.slice A n c) n xs) (hl : l ≤ h) (hh : h ≤ n) :
    SL w 1 (.slice (if c = l then A else A.map (·.add l)) (h - l) (c - l)) (h - l) ((xs.drop l).take (h - l)) := by
  obtain ⟨A', c', e, h1, h2, h3, h4⟩ := hs
  injection e with e1 e2 e3
  subst e1 e3
  refine ⟨_, _, rfl, by omega, by omega, by simp; omega, fun h0 => ?_⟩
  obtain ⟨ad, rfl, hb, hc⟩ := h4 (by omega)
  rw [if_neg (by omega)]
  refine ⟨ad.add l, rfl, by rw [block_of_add]; exact hb, fun j u hu => ?_⟩
  rw [add_of_add]
  refine hc _ _ ?_
  have hj : j < h - l := by have := (List.getElem?_eq_some_iff.1 hu).1; simp at this; omega
  rwa [List.getElem?_take_of_lt hj, List.getElem?_drop] at hu
theorem run_sliceB (A : Option Addr) (n c l h : Nat) (hl : l ≤ h) (hh : h ≤ n) (hc : n ≤ c) (w : World) :
    (Instr.slice 22 (.slice A n c) (some (.int .i64 (l : Int))) (some (.int .i64 (h : Int))) none).run Tryd.prog w = .ok (.slice (if c = l then A else A.map (·.add l)) (h - l) (c - l)) w := by
  have e1 : ((l : Int) ≤ (h : Int)) := by omega
  have e2 : ((h : Int) ≤ (c : Int)) := by omega
  have e3 : l ≤ c := by omega
  go_simp
theorem run_sliceF (A : Option Addr) (n c l : Nat) (hh : l ≤ n) (hc : n ≤ c) (w : World) :
    (Instr.slice 22 (.slice A n c) (some (.int .i64 (l : Int))) none none).run Tryd.prog w = .ok (.slice (if c = l then A else A.map (·.add l)) (n - l) (c - l)) w := by
  have e1 : ((l : Int) ≤ (n : Int)) := by omega
  have e2 : ((n : Int) ≤ (c : Int)) := by omega
  have e3 : l ≤ c := by omega
  go_simp
section
variable {o : Oper} {a : Act}
theorem ex_sliceB {x lo hi : Operand} (ho : o.op = .slice 22 x (some lo) (some hi) none) {A : Option Addr} {n c l h : Nat} (hx : a.eval x = .slice A n c) (h1 : a.eval lo = .int .i64 (l : Int)) (h2 : a.eval hi = .int .i64 (h : Int)) (hl : l ≤ h) (hh : h ≤ n) (hc : n ≤ c) (w : World) :
    (execOp a.eval o).run Tryd.prog w = .ok (.value (.slice (if c = l then A else A.map (·.add l)) (h - l) (c - l))) w := by
  simp [execOp, ho, hx, h1, h2, Instr.sliceAt, Sem.run_bind, run_underlying Tryd.underlying22, run_sliceB A n c l h hl hh hc w]
theorem ex_sliceF {x lo : Operand} (ho : o.op = .slice 22 x (some lo) none none) {A : Option Addr} {n c l : Nat} (hx : a.eval x = .slice A n c) (h1 : a.eval lo = .int .i64 (l : Int)) (hh : l ≤ n) (hc : n ≤ c) (w : World) :
    (execOp a.eval o).run Tryd.prog w = .ok (.value (.slice (if c = l then A else A.map (·.add l)) (n - l) (c - l))) w := by
  simp [execOp, ho, hx, h1, Instr.sliceAt, Sem.run_bind, run_underlying Tryd.underlying22, run_sliceF A n c l hh hc w]
end
end Go.Proofs.YtgmddhljgfbibaaDoor
/- make([]api.Block, n): a block of noughts. -/
namespace Go.Proofs.YtgmddhljgfbibaaDoor
set_option linter.unusedVariables false
set_option linter.unusedSimpArgs false
open Go.RowKit
theorem madeCells_rep (k m : Nat) (hk : 0 < k) : madeCells (bv (List.replicate k 0)) m = bv (List.replicate m 0) := by
  apply Array.ext
  · rw [size_madeCells, bv_size, List.length_replicate]
  · intro i h1 h2
    have hm : i < m := by simpa [size_madeCells] using h1
    have h64 : i % k < k := Nat.mod_lt _ hk
    simp [madeCells, bv, ints, h64]
theorem infoBlk : ∃ i, Tryd.prog.info? 43 = some i ∧ i.zero = some (.agg (bv zeros64)) ∧ i.size = 64 ∧ i.bytes = 512 := by
  have h1 := size48
  have h2 := zero48
  have h3 : (Tryd.prog.info? 43).map (·.bytes) = some 512 := by kernel_rfl
  cases hq : Tryd.prog.info? 43 with
  | none => rw [hq] at h1; cases h1
  | some i =>
    rw [hq] at h1 h2 h3
    exact ⟨i, rfl, by simpa using h2, by simpa using h1, by simpa using h3⟩
theorem wpList_makeBlocks {ops : Array Oper} {rest : List Oper} {o : Oper} {a : Act} {w : World} {Q : Exit → Act → World → Prop} (hg : o.guard = none) (dst : Option Tmp) (hdst : o.dst = dst) (x y : Operand) (ho : o.op = .makeSlice 35 x y) (n : Nat) (hn : n ≤ 100000)
    (hx : a.eval x = .int .i64 (n : Int)) (hy : a.eval y = .int .i64 (n : Int))
    (h : ∀ w1 g, Blk w1 g 43 (bv (List.replicate (n * 64) 0)) → Ext w w1 → w.heap.size ≤ g → wpList Tryd.prog ops Q rest (a.put dst (.slice (some ⟨g, 0, none⟩) n n)) w1) : wpList Tryd.prog ops Q (o :: rest) a w := by
  subst hdst
  obtain ⟨i, hi, hz, hs, hb⟩ := infoBlk
  have hr := run_makeSlice (P := Tryd.prog) w 35 43 i (.agg (bv zeros64)) Tryd.underlying35 hi hz .i64 .i64 (n : Int) (n : Int) (by omega) (Int.le_refl _) (by rw [hs]; omega) (by rw [hb]; omega) (by omega)
  rw [Int.toNat_natCast, hs, show (Value.agg (bv zeros64)).cells = bv (List.replicate 64 0) from rfl, madeCells_rep 64 _ (by omega)] at hr
  refine wpList_plain hg fun _ hK => ?_
  unfold Oper.wp execOp
  simp only [ho, hx, hy, Sem.run_bind, hr, Result.andThen_ok, Sem.run_pure]
  exact hK _ _ (h _ _ (Blk.new w _ _) ((Ext.refl w).alloc _) (Nat.le_refl _))
end Go.Proofs.YtgmddhljgfbibaaDoor
/- make([]int, n): a block of noughts. -/
namespace Go.Proofs.YtgmddhljgfbibaaDoor
set_option linter.unusedVariables false
set_option linter.unusedSimpArgs false
open Go.RowKit
theorem infoInt : ∃ i, Tryd.prog.info? 3 = some i ∧ i.zero = some (.int .i64 0) ∧ i.size = 1 ∧ i.bytes = 8 := by
  have h1 : (Tryd.prog.info? 3).map (fun i => (i.zero, i.size, i.bytes)) = some (some (.int .i64 0), 1, 8) := by kernel_rfl
  cases hq : Tryd.prog.info? 3 with
  | none => rw [hq] at h1; cases h1
  | some i =>
    rw [hq] at h1
    simp at h1
    exact ⟨i, rfl, h1.1, h1.2.1, h1.2.2⟩
theorem wpList_makeInts {ops : Array Oper} {rest : List Oper} {o : Oper} {a : Act} {w : World} {Q : Exit → Act → World → Prop} (hg : o.guard = none) (dst : Option Tmp) (hdst : o.dst = dst) (x y : Operand) (ho : o.op = .makeSlice 30 x y) (n : Nat) (hn : n ≤ 1000000)
    (hx : a.eval x = .int .i64 (n : Int)) (hy : a.eval y = .int .i64 (n : Int))
    (h : ∀ w1 g, Blk w1 g 3 (bv (List.replicate n 0)) → Ext w w1 → w.heap.size ≤ g → wpList Tryd.prog ops Q rest (a.put dst (.slice (some ⟨g, 0, none⟩) n n)) w1) : wpList Tryd.prog ops Q (o :: rest) a w := by
  subst hdst
  obtain ⟨i, hi, hz, hs, hb⟩ := infoInt
  have hr := run_makeSlice (P := Tryd.prog) w 30 3 i (.int .i64 0) Tryd.underlying30 hi hz .i64 .i64 (n : Int) (n : Int) (by omega) (Int.le_refl _) (by rw [hs]; omega) (by rw [hb]; omega) (by omega)
  rw [Int.toNat_natCast, hs, show (Value.int .i64 0).cells = bv (List.replicate 1 0) from rfl, madeCells_rep 1 _ (by omega), Nat.mul_one] at hr
  refine wpList_plain hg fun _ hK => ?_
  unfold Oper.wp execOp
  simp only [ho, hx, hy, Sem.run_bind, hr, Result.andThen_ok, Sem.run_pure]
  exact hK _ _ (h _ _ (Blk.new w _ _) ((Ext.refl w).alloc _) (Nat.le_refl _))
end Go.Proofs.YtgmddhljgfbibaaDoor
