/- Contracts for the law RescueHurtsCard, part 8: what the functions that it reaches answer, for all arguments that the theorems name. -/
import Derived.Test.YtkggcjdlpendfaaGreatDoorMRescueHurtsCard5
import Derived.Test.YtkggcjdlpendfaaGreatDoorMRescueHurtsCard2
import Derived.Test.YtkggcjdlpendfaaGreatDoorMRescueHurtsCard4
import Derived.Test.YtkggcjdlpendfaaGreatDoorMRescueHurtsCard3
import Derived.Test.YtkggcjdlpendfaaGreatDoorMRescueHurtsCard1
import Derived.Test.YtkggcjdlpendfaaGreatDoorMRescueHurtsCard7
import Derived.Test.YtkggcjdlpendfaaGreatDoorRows
import Derived.ProofKit
import Derived.OpenShut
import Derived.JoinedCond
import Derived.Test.YtkggcjdlpendfaaGreatDoorCards
import Derived.Test.YtkggcjdlpendfaaGreatDoorTie
import Derived.WalkKit
import Derived.Deep.DeepHandedRow
import Derived.Lib.LaidTab
import Derived.Shelf.Vars
namespace Go.Proofs.YtkggcjdlpendfaaGreatDoor
set_option linter.unusedVariables false
set_option linter.unusedSimpArgs false
open Go.RowKit
theorem guard39 : Tryz.prog.eqGuardType Tryz.prog.depth 40 = false := by kernel_rfl
theorem size39 : (Tryz.prog.info? 40).map (·.size) = some 16 := by kernel_rfl
theorem run_eql39_same (w : World) (xs : List Int) (hx : xs.length = 16) : (binOp .eql 40 (.agg (bv xs)) (.agg (bv xs))).run Tryz.prog w = .ok (.bool true) w := by
 rw [run_eql_struct, run_equalIn_ints w 9998 40 3 16 Tryz.underlying40 Tryz.underlying3 sizeInt xs xs hx hx]
 simp
theorem run_guard39 (w : World) (op : BinOp) (x y : Operand) (xs ys : Array Value) : (eqGuard op 40 x y (.agg xs) (.agg ys)).run Tryz.prog w = .ok () w := run_eqGuard_agg w op _ x y xs ys guard39
theorem ex_eq16 {o : Oper} {a : Act} {x y : Operand} {t2 : TypeId} (ho : o.op = .binOp .eql 40 x y t2) (xs : List Int) (h : xs.length = 16) (hx : a.eval x = .agg (bv xs)) (hy : a.eval y = .agg (bv xs)) (w : World) : (execOp a.eval o).run Tryz.prog w = .ok (.value (.bool true)) w := by
 simp [execOp, ho, hx, hy, run_guard39, run_eql39_same w xs h]
theorem ex_eq64 {o : Oper} {a : Act} {x y : Operand} {t2 : TypeId} (ho : o.op = .binOp .eql 33 x y t2) (xs : List Int) (h : xs.length = 64) (hx : a.eval x = .agg (bv xs)) (hy : a.eval y = .agg (bv xs)) (w : World) : (execOp a.eval o).run Tryz.prog w = .ok (.value (.bool true)) w := by
 simp [execOp, ho, hx, hy, run_guard48, run_eql48_same w xs h]
set_option maxRecDepth 20000 in
set_option maxHeartbeats 2000000 in
theorem tableEq_same (cs xs : List Int) (s1 s2 : Value) (w : World) (hc : cs.length = 16) (h1 : SL w 1 s1 xs.length (ints xs)) (h2 : SL w 1 s2 xs.length (ints xs)) :
 Calls Tryz.prog 58 #[.agg (tblv cs s1), .agg (tblv cs s2)] w fun e w' => e = .returned (.bool true) ∧ Ext w w' := by
 have h1' := h1
 have h2' := h2
 obtain ⟨A1, c1, rfl, -, -, -, -⟩ := h1'
 obtain ⟨A2, c2, rfl, -, -, -, -⟩ := h2'
 have HR1 := hid_ (fun W g (h : Blk W g 42 (tblv cs (.slice A1 xs.length c1))) => And.intro (tblv_range h) (tblv_last h hc))
 have HR2 := hid_ (fun W g (h : Blk W g 42 (tblv cs (.slice A2 xs.length c2))) => And.intro (tblv_range h) (tblv_last h hc))
 have HQ := hid_ (fun W (hx : Ext w W) => eqInt_any (.slice A1 xs.length c1) (.slice A2 xs.length c2) xs xs W (h1.ext hx) (h2.ext hx))
 rw [decide_eq_true (rfl : xs = xs)] at HQ
 generalize xs.length = n at *
 have hl : (ints cs).length = 16 := by rw [ints_len, hc]
 generalize tblv cs (.slice A1 n c1) = T1 at *
 generalize tblv cs (.slice A2 n c2) = T2 at *
 go_enter Tryz.func58, Tryz.ntmps58
 go_wp2_with (first
  | ((with_reducible apply gS 2); refine wBox rfl 42 (.tmp 0) rfl T1 rfl ?_; intro w1 g1 hb1 hx1 hg1)
  | ((with_reducible apply gS 3); refine wBox rfl 42 (.tmp 1) rfl T2 rfl ?_; intro w2 g2 hb2 hx2 hg2; have hb12 := hb1.ext hx2; have hr1 := HR1.out _ _ hb12; have hr2 := HR2.out _ _ hb2)
  | ((with_reducible apply gS 6); refine wpList_load_mid rfl 40 (.tmp 5) rfl g1 0 rfl (ints cs) _ hr1.1 Tryz.underlying40 rfl (by rw [hl]; exact size39) ?_)
  | ((with_reducible apply gS 8); refine wpList_load_mid rfl 40 (.tmp 7) rfl g2 0 rfl (ints cs) _ hr2.1 Tryz.underlying40 rfl (by rw [hl]; exact size39) ?_)
  | ((with_reducible apply gS 9); refine wl_run rfl (.bool true) (ex_eq16 rfl cs hc rfl rfl) ?_)
  | ((with_reducible apply gS 12); refine wl_read_g (by rfl) (.slice A1 n c1) (ex_loadL rfl rfl hr1.2) ?_)
  | ((with_reducible apply gS 14); refine wl_read_g (by rfl) (.slice A2 n c2) (ex_loadL rfl rfl hr2.2) ?_)
  | (go_at_call 26; (with_reducible refine (HQ.out _ (hx1.trans hx2)).mono ?_); rintro e w5 ⟨rfl, rfl⟩))
 go_ret
 exact ⟨rfl, hx1.trans hx2⟩
set_option maxRecDepth 20000 in
set_option maxHeartbeats 4000000 in
theorem fileEq_same (F : FC) (hF : F.shaped) (s1 s2 sd t1 t2 td : Value) (w : World) (ha : F.at_ w s1 s2 sd) (hb : F.at_ w t1 t2 td) :
 Calls Tryz.prog 23 #[.agg (F.cells s1 s2 sd), .agg (F.cells t1 t2 td)] w fun e w' => e = .returned (.bool true) ∧ Ext w w' := by
 have ha3 := ha.2.2
 have hb3 := hb.2.2
 obtain ⟨A3, c3, rfl, -, -, -, -⟩ := ha3
 obtain ⟨B3, d3, rfl, -, -, -, -⟩ := hb3
 have HA := hid_ (fun W g (h : Blk W g 47 (F.cells s1 s2 (.slice A3 F.data.length c3))) => fileB h hF.1 (tblL_len _ _ hF.2.1) (tblL_len _ _ hF.2.2))
 have HB := hid_ (fun W g (h : Blk W g 47 (F.cells t1 t2 (.slice B3 F.data.length d3))) => fileB h hF.1 (tblL_len _ _ hF.2.1) (tblL_len _ _ hF.2.2))
 have HT1 := hid_ (fun W (hx : Ext w W) => (show Calls Tryz.prog 58 #[.agg (tblL F.cs1 s1).toArray, .agg (tblL F.cs1 t1).toArray] W (fun e w' => e = .returned (.bool true) ∧ Ext W w') from tableEq_same F.cs1 F.xs1 s1 t1 W hF.2.1 (ha.1.ext hx) (hb.1.ext hx)))
 have HT2 := hid_ (fun W (hx : Ext w W) => (show Calls Tryz.prog 58 #[.agg (tblL F.cs2 s2).toArray, .agg (tblL F.cs2 t2).toArray] W (fun e w' => e = .returned (.bool true) ∧ Ext W w') from tableEq_same F.cs2 F.xs2 s2 t2 W hF.2.2 (ha.2.1.ext hx) (hb.2.1.ext hx)))
 have HQ := hid_ (fun W (hx : Ext w W) => eqByte_any _ _ F.data F.data W (ha.2.2.ext hx) (hb.2.2.ext hx))
 rw [decide_eq_true (rfl : F.data = F.data)] at HQ
 have hq := hF.1
 have ql : (ints F.qs).length = 64 := by rw [ints_len, hq]
 have l1 : (tblL F.cs1 s1).length = 17 := tblL_len _ _ hF.2.1
 have l2 : (tblL F.cs2 s2).length = 17 := tblL_len _ _ hF.2.2
 have m1 : (tblL F.cs1 t1).length = 17 := tblL_len _ _ hF.2.1
 have m2 : (tblL F.cs2 t2).length = 17 := tblL_len _ _ hF.2.2
 generalize F.data.length = n at *
 generalize F.cells s1 s2 (.slice A3 n c3) = C1 at *
 generalize F.cells t1 t2 (.slice B3 n d3) = C2 at *
 go_enter Tryz.func23, Tryz.ntmps23
 go_wp2_with (first
  | ((with_reducible apply gS 2); refine wBox rfl 47 (.tmp 0) rfl C1 rfl ?_; intro w1 g1 hb1 hx1 hg1)
  | ((with_reducible apply gS 3); refine wBox rfl 47 (.tmp 1) rfl C2 rfl ?_; intro w2 g2 hb2 hx2 hg2; have hb12 := hb1.ext hx2; have r1 := HA.out _ _ hb12; have r2 := HB.out _ _ hb2; have hx12 := hx1.trans hx2)
  | ((with_reducible apply gS 6); refine wl_read rfl (.int .i64 F.wd) (ex_loadI rfl rfl r1.c0) ?_)
  | ((with_reducible apply gS 8); refine wl_read rfl (.int .i64 F.wd) (ex_loadI rfl rfl r2.c0) ?_)
  | ((with_reducible apply gS 9); refine wl_run rfl (.bool true) (ex_eql rfl rfl rfl (by simp)) ?_)
  | ((with_reducible apply gS 12); refine wl_read_g (by rfl) (.int .i64 F.hi) (ex_loadI rfl rfl r1.c1) ?_)
  | ((with_reducible apply gS 14); refine wl_read_g (by rfl) (.int .i64 F.hi) (ex_loadI rfl rfl r2.c1) ?_)
  | ((with_reducible apply gS 15); refine wl_run_g (by rfl) (.bool true) (ex_eql rfl rfl rfl (by simp)) ?_)
  | ((with_reducible apply gS 19); refine wl_read_g (by rfl) (.int .i64 F.pt) (ex_loadI rfl rfl r1.c2) ?_)
  | ((with_reducible apply gS 21); refine wl_read_g (by rfl) (.int .i64 F.pt) (ex_loadI rfl rfl r2.c2) ?_)
  | ((with_reducible apply gS 22); refine wl_run_g (by rfl) (.bool true) (ex_eql rfl rfl rfl (by simp)) ?_)
  | ((with_reducible apply gS 26); refine wpList_load_mid_g (by rfl) 33 (.tmp 25) rfl g1 3 rfl (ints F.qs) _ r1.q Tryz.underlying33 rfl (by rw [ql]; exact size48) ?_)
  | ((with_reducible apply gS 28); refine wpList_load_mid_g (by rfl) 33 (.tmp 27) rfl g2 3 rfl (ints F.qs) _ r2.q Tryz.underlying33 rfl (by rw [ql]; exact size48) ?_)
  | ((with_reducible apply gS 29); refine wl_run_g (by rfl) (.bool true) (ex_eq64 rfl F.qs hq rfl rfl) ?_)
  | ((with_reducible apply gS 33); refine wl_read_g (by rfl) (.int .i64 F.ev) (ex_loadI rfl rfl r1.c101) ?_)
  | ((with_reducible apply gS 35); refine wl_read_g (by rfl) (.int .i64 F.ev) (ex_loadI rfl rfl r2.c101) ?_)
  | ((with_reducible apply gS 36); refine wl_run_g (by rfl) (.bool true) (ex_eql rfl rfl rfl (by simp)) ?_)
  | ((with_reducible apply gS 41); refine wpList_load_mid_g (by rfl) 42 (.tmp 40) rfl g1 67 rfl (tblL F.cs1 s1) _ r1.ta Tryz.underlying42 rfl (by rw [l1]; exact sizeTbl1) ?_)
  | ((with_reducible apply gS 44); refine wpList_load_mid_g (by rfl) 42 (.tmp 43) rfl g2 67 rfl (tblL F.cs1 t1) _ r2.ta Tryz.underlying42 rfl (by rw [m1]; exact sizeTbl1) ?_)
  | (go_at_call 58; (with_reducible refine (HT1.out _ hx12).mono ?_); rintro e w5 ⟨rfl, hx5⟩; have r15 := HA.out _ _ (hb12.ext hx5); have r25 := HB.out _ _ (hb2.ext hx5); have hx15 := hx12.trans hx5)
  | ((with_reducible apply gS 50); refine wpList_load_mid_g (by rfl) 42 (.tmp 49) rfl g1 84 rfl (tblL F.cs2 s2) _ r15.tb Tryz.underlying42 rfl (by rw [l2]; exact sizeTbl1) ?_)
  | ((with_reducible apply gS 53); refine wpList_load_mid_g (by rfl) 42 (.tmp 52) rfl g2 84 rfl (tblL F.cs2 t2) _ r25.tb Tryz.underlying42 rfl (by rw [m2]; exact sizeTbl1) ?_)
  | (go_at_call 58; (with_reducible refine (HT2.out _ hx15).mono ?_); rintro e w6 ⟨rfl, hx6⟩; have r16 := HA.out _ _ ((hb12.ext hx5).ext hx6); have r26 := HB.out _ _ ((hb2.ext hx5).ext hx6); have hx16 := hx15.trans hx6)
  | ((with_reducible apply gS 58); refine wl_read_g (by rfl) (.slice A3 n c3) (ex_loadS rfl rfl r16.c102) ?_)
  | ((with_reducible apply gS 60); refine wl_read_g (by rfl) (.slice B3 n d3) (ex_loadS rfl rfl r26.c102) ?_)
  | (go_at_call 33; (with_reducible refine (HQ.out _ hx16).mono ?_); rintro e w7 ⟨rfl, rfl⟩))
 go_ret
 exact ⟨rfl, hx16⟩
section
open Go.RowKit Go.ChangeShapes Go.WideShapes Go.ChangeAt
section
variable {H : Type} {enc : TypeId × Value → H} {w : World} {base : Nat} {spare : Nat → Bool} {held : Bool}
theorem trod_struct7 {P : Program} {t : TypeId} {f0 f1 f2 f3 f4 f5 f6 : Field} {fuel : Nat} {cs : List Value} {x : DataW H × List MemPlace} (ht : P.underlying t = some (.struct #[f0, f1, f2, f3, f4, f5, f6])) (h : DataW.trod enc P w base spare held fuel t cs = some x) :
 ∃ y0 y1 y2 y3 y4 y5 y6 n, cs.length = P.cellsOf t ∧ DataW.trod enc P w base spare held n f0.type ((cs.drop f0.offset).take (P.cellsOf f0.type)) = some y0 ∧
  DataW.trod enc P w base spare held n f1.type ((cs.drop f1.offset).take (P.cellsOf f1.type)) = some y1 ∧ DataW.trod enc P w base spare held n f2.type ((cs.drop f2.offset).take (P.cellsOf f2.type)) = some y2 ∧
  DataW.trod enc P w base spare held n f3.type ((cs.drop f3.offset).take (P.cellsOf f3.type)) = some y3 ∧ DataW.trod enc P w base spare held n f4.type ((cs.drop f4.offset).take (P.cellsOf f4.type)) = some y4 ∧
  DataW.trod enc P w base spare held n f5.type ((cs.drop f5.offset).take (P.cellsOf f5.type)) = some y5 ∧ DataW.trod enc P w base spare held n f6.type ((cs.drop f6.offset).take (P.cellsOf f6.type)) = some y6 := by
 obtain ⟨xs, n, _, rfl, hl, hlen, hf⟩ := DataW.trod_struct ht h
 match xs, hlen with
 | [y0, y1, y2, y3, y4, y5, y6], _ => exact ⟨y0, y1, y2, y3, y4, y5, y6, n, hl, by simpa using hf 0 f0 rfl, by simpa using hf 1 f1 rfl, by simpa using hf 2 f2 rfl, by simpa using hf 3 f3 rfl, by simpa using hf 4 f4 rfl, by simpa using hf 5 f5 rfl, by simpa using hf 6 f6 rfl⟩
theorem cellsTbls : Tryz.prog.cellsOf 44 = 34 := by kernel_rfl
theorem cellsFile : Tryz.prog.cellsOf 47 = 103 := by kernel_rfl
theorem cellsBy : Tryz.prog.cellsOf 45 = 1 := by kernel_rfl
theorem open_tableX {fuel : Nat} {cs : List Value} {x : DataW H × List MemPlace} (hL : cs.length = 17) (hf : DataW.trod enc Tryz.prog w base spare held fuel 42 cs = some x) :
 ∃ (zs xs : List Int) (sl : Value), cs = tblL zs sl ∧ zs.length = 16 ∧ SL w 1 sl xs.length (ints xs) := by
 obtain ⟨y0, y1, n, -, hlen, h0, h1⟩ := trod_struct2 Tryz.underlying42 hf
 dsimp only at h0 h1
 obtain ⟨zs, hz, hc, hq⟩ := trod_ints_arr Tryz.underlying40 Tryz.underlying3 cellsInt cells16 h0
 obtain ⟨xs, sl, hs, hsl, hxq⟩ := open_intsX h1
 rw [cells16, List.drop_zero] at hc
 rw [cellsSl] at hs
 refine ⟨zs, xs, sl, ?_, hz, hsl⟩
 have e2 : cs.drop 16 = [sl] := by
  rw [← hs]
  rw [List.take_of_length_le (by rw [List.length_drop, hL]; omega)]
 unfold tblL
 rw [← hc, ← e2, List.take_append_drop]
theorem parts_of (cs : List Value) (hL : cs.length = 103) {a b c e f : Value} {q t1 t2 : List Value} (h0 : (cs.drop 0).take 1 = [a]) (h1 : (cs.drop 1).take 1 = [b]) (h2 : (cs.drop 2).take 1 = [c]) (h3 : (cs.drop 3).take 64 = q)
 (h4 : (cs.drop 67).take 17 = t1) (h5 : (cs.drop 84).take 17 = t2) (h6 : (cs.drop 101).take 1 = [e]) (h7 : (cs.drop 102).take 1 = [f]) : cs = [a, b, c] ++ q ++ t1 ++ t2 ++ [e, f] := by
 have k7 : cs.drop 102 = [f] := by rw [← h7, List.take_of_length_le (by rw [List.length_drop, hL]; omega)]
 have k6 : cs.drop 101 = [e, f] := by rw [← List.take_append_drop 1 (cs.drop 101), h6, List.drop_drop]; rw [k7]; rfl
 have k5 : cs.drop 84 = t2 ++ [e, f] := by rw [← List.take_append_drop 17 (cs.drop 84), h5, List.drop_drop]; rw [k6]
 have k4 : cs.drop 67 = t1 ++ (t2 ++ [e, f]) := by rw [← List.take_append_drop 17 (cs.drop 67), h4, List.drop_drop]; rw [k5]
 have k3 : cs.drop 3 = q ++ (t1 ++ (t2 ++ [e, f])) := by rw [← List.take_append_drop 64 (cs.drop 3), h3, List.drop_drop]; rw [k4]
 have k2 : cs.drop 2 = c :: (q ++ (t1 ++ (t2 ++ [e, f]))) := by rw [← List.take_append_drop 1 (cs.drop 2), h2, List.drop_drop]; rw [k3]; rfl
 have k1 : cs.drop 1 = b :: c :: (q ++ (t1 ++ (t2 ++ [e, f]))) := by rw [← List.take_append_drop 1 (cs.drop 1), h1, List.drop_drop]; rw [k2]; rfl
 rw [← List.take_append_drop 1 cs, k1, show cs.take 1 = [a] from h0]
 simp
end
end
section
open Go.RowKit Go.ChangeShapes Go.WideShapes Go.ChangeAt
section
variable {H : Type} {enc : TypeId × Value → H} {w : World} {base : Nat} {spare : Nat → Bool} {held : Bool}
theorem open_bytesB {fuel : Nat} {cs : List Value} {x : DataW H × List MemPlace} (hf : DataW.trod enc Tryz.prog w base spare held fuel 45 cs = some x) :
 ∃ (v : Value) (bs : List Nat), cs = [v] ∧ SL w 1 v bs.length (bytesV bs) ∧ (∀ b ∈ bs, b < 256) ∧ ∀ n c, v = .slice none n c → c = 0 := by
 rcases open_ints Tryz.underlying45 Tryz.underlying5 (by kernel_rfl) hf with ⟨rfl, -⟩ | ⟨a, len, cap, zs, rfl, -, hlc, hcm, hzl, -, hcell, hwf⟩
 ·refine ⟨_, [], rfl, SL.nil w 1, by simp, ?_⟩
  intro n c e
  injection e with _ _ e
  exact e.symm
 ·have hlen : len ≤ zs.length := by rw [hzl]; split <;> omega
  obtain ⟨bs, hbs, hlt⟩ := bytes_of (zs.take len) (fun n hn => hwf n (List.mem_of_mem_take hn))
  have hl : bs.length = len := by
   have := congrArg List.length hbs
   simp [bytesV] at this
   omega
  refine ⟨_, bs, rfl, ?_, hlt, by intro n c e; injection e with e; cases e⟩
  rw [hl]
  refine ⟨some a, cap, rfl, hlc, by unfold maxLen at hcm; omega, by rw [bytesV_len, hl]; omega, fun h0 => ⟨a, rfl, ?_, fun j u hu => ?_⟩⟩
  ·have := hcell 0 (by omega)
   have h2 := World.block_lt_of_cell? w _ this
   rwa [block_of_add] at h2
  ·rw [← hbs, List.getElem?_map] at hu
   obtain ⟨z, hz, rfl⟩ := Option.map_eq_some_iff.1 hu
   have hj : j < len := by have := (List.getElem?_eq_some_iff.1 hz).1; simp at this; omega
   rw [List.getElem?_take_of_lt hj] at hz
   rw [hcell j (by omega)]
   simp [List.getD_eq_getElem?_getD, hz]
set_option maxRecDepth 20000 in
theorem open_fileB {b0 : Nat} {r : Reach} {v : Value} {d : DataW H} {p : List MemPlace} (hv : Value.okWide Tryz.prog w r b0 47 v) (h : DataW.Trod enc Tryz.prog w base spare held 47 v d p) :
 ∃ (wd hi pt ev : Int) (qs cs1 xs1 : List Int) (s1 : Value) (cs2 xs2 : List Int) (s2 : Value) (bs : List Nat) (sd : Value), v = .agg (fileL wd hi pt qs (tblL cs1 s1) (tblL cs2 s2) ev sd).toArray ∧ qs.length = 64 ∧ cs1.length = 16 ∧ cs2.length = 16 ∧
  SL w 1 s1 xs1.length (ints xs1) ∧ SL w 1 s2 xs2.length (ints xs2) ∧ SL w 1 sd bs.length (bytesV bs) ∧ (∀ b ∈ bs, b < 256) ∧ ∀ n c, sd = .slice none n c → c = 0 := by
 obtain ⟨cs, rfl, hsz⟩ := okWide_struct Tryz.underlying47 hv
 obtain ⟨fuel, hf⟩ := h
 obtain ⟨y0, y1, y2, y3, y4, y5, y6, n, hlen, h0, h1, h2, h3, h4, h5, h6⟩ := trod_struct7 Tryz.underlying47 hf
 have hL : cs.toList.length = 103 := by rw [show cs.toList.length = cs.size by simp, hsz, cellsFile]
 have hcs : (Value.agg cs).cells.toList = cs.toList := rfl
 rw [hcs] at h0 h1 h2 h3 h4 h5 h6
 dsimp only at h0 h1 h2 h3 h4 h5 h6
 rw [cellsInt] at h0 h1 h2 h5
 rw [cells64] at h3
 rw [cellsTbls] at h4
 rw [cellsBy] at h6
 obtain ⟨wd, e0, -⟩ := trod_int_cell Tryz.underlying3 h0
 obtain ⟨hi, e1, -⟩ := trod_int_cell Tryz.underlying3 h1
 obtain ⟨pt, e2, -⟩ := trod_int_cell Tryz.underlying3 h2
 obtain ⟨ev, e5, -⟩ := trod_int_cell Tryz.underlying3 h5
 obtain ⟨qs, hq, e3, -⟩ := trod_ints_arr Tryz.underlying33 Tryz.underlying3 cellsInt cells64 h3
 obtain ⟨z0, z1, m, -, hlen4, g0, g1⟩ := trod_struct2 Tryz.underlying44 h4
 dsimp only at g0 g1
 rw [cellsTbl, List.drop_zero, List.take_take] at g0
 rw [cellsTbl, List.drop_take, List.take_take, List.drop_drop] at g1
 obtain ⟨cs1, xs1, s1, e4, hc1, hs1⟩ := open_tableX (by rw [List.length_take, List.length_drop, hL]; rfl) g0
 obtain ⟨cs2, xs2, s2, e6, hc2, hs2⟩ := open_tableX (by rw [List.length_take, List.length_drop, hL]; rfl) g1
 obtain ⟨sd, bs, e7, hsd, hlt, hnil⟩ := open_bytesB h6
 refine ⟨wd, hi, pt, ev, qs, cs1, xs1, s1, cs2, xs2, s2, bs, sd, ?_, hq, hc1, hc2, hs1, hs2, hsd, hlt, hnil⟩
 congr 1
 apply Array.ext'
 rw [parts_of cs.toList hL e0 e1 e2 e3 e4 e6 e5 e7]
 simp [fileL, ints]
end
end
theorem hurtBoth (F : FC) (hF : F.shaped) (s1 s2 : Value) (A : Option Addr) (n c : Nat) (hn : F.data.length = n) (hlt : ∀ b ∈ F.data, b < 256) (k : Int) (w : World) (ha : F.at_ w s1 s2 (.slice A n c)) :
 ∃ q : FC × Int, q.1.shaped ∧ (∀ W, Ext w W → Calls Tryz.prog 20 #[.agg (F.cells s1 s2 (.slice A n c)), .int .i64 k] W (HurtIs q W)) ∧ ∀ W, Ext w W → Calls Tryz.prog 21 #[.agg (F.cells s1 s2 (.slice A n c)), .int .i64 k] W (HurtIs q W) := by
 have C1 := fun W (h : Ext w W) => F.check hF s1 s2 (.slice A n c) W (ha.ext h)
 have C2 := fun W (h : Ext w W) => F.rcheck hF s1 s2 (.slice A n c) W (ha.ext h)
 by_cases hz : F.chk = 0
 ·rw [hz] at C1 C2
  obtain ⟨a, b, p, ea, eb, ep, a1, a2, b1, b2, hp13, hev0, hev1, hq, z1, z2, hd⟩ := fcheck_zero hz
  have hx1 := (checkZ_zero z1).2.2.1
  have hx2 := (checkZ_zero z2).2.2.1
  have h3 := ha.2.2
  have S1 := fun W (h : Ext w W) => split_anyF F.data (.slice A n c) W (h3.ext h) hlt (by omega)
  have S2 := fun W (h : Ext w W) => rsplit_anyF F.data (.slice A n c) W (h3.ext h) hlt (by omega)
  cases hs : spGo F.data [] [] [] with
  | none =>
    rw [hs] at S1 S2
    exact ⟨(FC.zero, 4), zero_shaped, fun W h => hurt_none F hF s1 s2 A n c k W (fun W' h' => C1 W' (h.trans h')) (fun W' h' => (S1 W' (h.trans h')).mono (fun _ _ q => q)), fun W h => rhurt_none F hF s1 s2 A n c k W (fun W' h' => C2 W' (h.trans h')) (fun W' h' => (S2 W' (h.trans h')).mono (fun _ _ q => q))⟩
  | some z =>
    obtain ⟨P, M⟩ := z
    rw [hs] at S1 S2
    have hl := (sp_len F.data [] [] [] (P, M) hs).1
    have hm := sp_marks F.data [] [] [] (P, M) hs rfl
    have hmem := sp_mem (B := 90000) F.data [] [] [] (P, M) hs (fun _ h => by cases h) (by simpa using hd) (fun _ h => by cases h) hlt
    have hP : P.length ≤ 2000000 := by simp at hl; omega
    have hPl : ∀ p ∈ P, p.length ≤ 1048576 := fun p hp => by have := (hmem p hp).1; omega
    have T1 : ∀ W, Ext w W → Calls Tryz.prog 34 #[.slice A n c] W fun e W' => (∃ PA pc u, e = .returned (.tuple #[.slice PA P.length pc, u, .int .i64 0])) ∧ Ext W W' := fun W h => (S1 W h).mono (fun e W' q => by obtain ⟨a1, a2, a3, a4, VS, e1, e2, e3, e4, e5, -⟩ := q; exact ⟨⟨a1, a2, _, e1⟩, e5⟩)
    have T2 : ∀ W, Ext w W → Calls Tryz.prog 53 #[.slice A n c] W fun e W' => (∃ PA pc u, e = .returned (.tuple #[.slice PA P.length pc, u, .int .i64 0])) ∧ Ext W W' := fun W h => (S2 W h).mono (fun e W' q => by obtain ⟨a1, a2, a3, a4, VS, e1, e2, e3, e4, e5, -⟩ := q; exact ⟨⟨a1, a2, _, e1⟩, e5⟩)
    by_cases hk : k < 0
    ·exact ⟨(FC.zero, 5), zero_shaped, fun W h => hurt_neg F hF s1 s2 A n c k P.length hP hk W (fun W' h' => C1 W' (h.trans h')) (fun W' h' => T1 W' (h.trans h')), fun W h => rhurt_out F hF s1 s2 A n c k P.length hP (.inl hk) W (fun W' h' => C2 W' (h.trans h')) (fun W' h' => T2 W' (h.trans h'))⟩
    ·by_cases hk2 : (P.length : Int) ≤ k
     ·exact ⟨(FC.zero, 5), zero_shaped, fun W h => hurt_far F hF s1 s2 A n c k P.length hP hk2 W (fun W' h' => C1 W' (h.trans h')) (fun W' h' => T1 W' (h.trans h')), fun W h => rhurt_out F hF s1 s2 A n c k P.length hP (.inr hk2) W (fun W' h' => C2 W' (h.trans h')) (fun W' h' => T2 W' (h.trans h'))⟩
     ·exact ⟨({ F with data := hurtN P M k P.length }, 0), hF, fun W h => hurt_good F hF s1 s2 A n c k P M hm hP hPl (by omega) (by omega) (by omega) (by omega) W (ha.ext h) (fun W' h' => C1 W' (h.trans h')) (fun W' h' => S1 W' (h.trans h')),
       fun W h => rhurt_good F hF s1 s2 A n c k P M hm hP hPl (by omega) (by omega) W (ha.ext h) (fun W' h' => C2 W' (h.trans h')) (fun W' h' => S2 W' (h.trans h'))⟩
 ·exact ⟨(FC.zero, F.chk), zero_shaped, fun W h => hurt_bad _ (FC.size hF _ _ _) _ hz k W (fun W' h' => C1 W' (h.trans h')), fun W h => rhurt_bad _ (FC.size hF _ _ _) _ hz k W (fun W' h' => C2 W' (h.trans h'))⟩
theorem FC.ones (F : FC) (w : World) (s1 s2 sd : Value) (h : F.at_ w s1 s2 sd) : (F.cells s1 s2 sd).all (·.oneCell') = true := by
 obtain ⟨⟨A1, c1, rfl, -⟩, ⟨A2, c2, rfl, -⟩, ⟨A3, c3, rfl, -⟩⟩ := h
 exact fileOne _ _ _ _ _ _ _ _ _ _
end Go.Proofs.YtkggcjdlpendfaaGreatDoor
namespace Go.Proofs.YtkggcjdlpendfaaGreatDoor.rescueHurts
set_option linter.unusedVariables false
set_option linter.unusedSimpArgs false
open Go.RowKit
set_option maxRecDepth 20000 in
set_option maxHeartbeats 4000000 in
theorem walk (wd hi pt ev : Int) (qs cs1 xs1 : List Int) (s1 : Value) (cs2 xs2 : List Int) (s2 : Value) (bs : List Nat) (sd : Value) (hq : qs.length = 64) (h1 : cs1.length = 16) (h2 : cs2.length = 16) (hlt : ∀ b ∈ bs, b < 256) (_ : ∀ n c, sd = .slice none n c → c = 0) (k : Int) (_ : (Lit.int .i64 k).wf = true) (m0 : Int) (w : World) (hm : w.cell? ⟨0, 0, none⟩ = some (.int .i64 m0))
 (hs1 : SL w 1 s1 xs1.length (ints xs1)) (hs2 : SL w 1 s2 xs2.length (ints xs2)) (hsd : SL w 1 sd bs.length (bytesV bs)) :
 Calls Tryz.prog 6 #[.agg (fileL wd hi pt qs (tblL cs1 s1) (tblL cs2 s2) ev sd).toArray, .int .i64 k] w fun e w' => e = .returned (.bool true) ∧ Ext w w' := by
 obtain ⟨n, hn⟩ : ∃ n, bs.length = n := ⟨_, rfl⟩
 have hsd' := hsd
 obtain ⟨A, c, rfl, -, -, -, -⟩ := hsd'
 rw [hn] at hsd ⊢
 obtain ⟨q, hqs, K1, K2⟩ := hurtBoth ⟨wd, hi, pt, qs, cs1, xs1, cs2, xs2, ev, bs⟩ ⟨hq, h1, h2⟩ s1 s2 A n c hn hlt k w ⟨hs1, hs2, by show SL w 1 _ bs.length _; rw [hn]; exact hsd⟩
 obtain ⟨G, E⟩ := q
 have HK1 := hid_ K1
 have HK2 := hid_ K2
 have hts := hid_ (FC.size (F := ⟨wd, hi, pt, qs, cs1, xs1, cs2, xs2, ev, bs⟩) ⟨hq, h1, h2⟩ s1 s2 (.slice A n c))
 have HZR := hid_ (fun W => rescue_zero W)
 unfold RcIs at HZR
 unfold HurtIs at HK1 HK2
 have HEQ := hid_ (fun W a1 a2 ad b1 b2 bd h1 h2 => fileEq_same G hqs a1 a2 ad b1 b2 bd W h1 h2)
 have HSZ := hid_ (fun a1 a2 ad => FC.size hqs a1 a2 ad)
 have HON := hid_ (fun W a1 a2 ad h => FC.ones G W a1 a2 ad h)
 have HEX := hid_ (fun W W' a1 a2 ad (h : G.at_ W a1 a2 ad) (hx : Ext W W') => h.ext hx)
 have HFB := hid_ built0F
 have HZ := zeroFileV
 have hzs : Hid ((Value.agg zFile).cells.size = 103) := hid_ zFile_size
 have HPSZ0 := hid_ (fun v => picV_size 0 0 v)
 have HP10 := hid_ (fun A n c => pic_one 0 0 A n c)
 have HZP := zeroPicS
 have hz0s : Hid ((Value.agg (picV 0 0 (.slice none 0 0))).cells.size = 3) := hid_ rfl
 have e1 : (E == E) = true := by simp
 show Calls Tryz.prog 6 #[.agg (FC.cells ⟨wd, hi, pt, qs, cs1, xs1, cs2, xs2, ev, bs⟩ s1 s2 (.slice A n c)), .int .i64 k] w _
 generalize FC.cells ⟨wd, hi, pt, qs, cs1, xs1, cs2, xs2, ev, bs⟩ s1 s2 (.slice A n c) = fv at *
 generalize zFile = fz at *
 obtain ⟨pz, hpz⟩ : ∃ pz, picV 0 0 (.slice none 0 0) = pz := ⟨_, rfl⟩
 rw [hpz] at HZP hz0s
 obtain ⟨pic0, hpic0⟩ : ∃ pic0 : Value → Array Value, pic0 = picV 0 0 := ⟨_, rfl⟩
 rw [← hpic0] at HZR HPSZ0 HP10
 dsimp only at HK1 HK2
 obtain ⟨fc, hfc⟩ : ∃ fc : Value → Value → Value → Array Value, fc = G.cells := ⟨_, rfl⟩
 rw [← hfc] at HK1 HK2 HEQ HSZ HON
 obtain ⟨at', hat'⟩ : ∃ at' : World → Value → Value → Value → Prop, at' = G.at_ := ⟨_, rfl⟩
 rw [← hat'] at HK1 HK2 HEQ HON HEX
 clear K1 K2 hpic0 hpz hsd hs1 hs2 hn hlt hm hq h1 h2 hqs hfc hat'
 go_enter Tryz.func6, Tryz.ntmps6
 go_wp2_with (first
  | ((with_reducible apply gS 2); refine wBox rfl 47 (.tmp 0) rfl fv rfl ?_; intro w1 gf hb1 hx1 hgf)
  | ((with_reducible apply gS 13); refine wLdB rfl 47 (.tmp 2) rfl gf rfl hb1 _ Tryz.underlying47 rfl 103 sizeFile hts.out ?_)
  | (go_at_call 20; (with_reducible refine (HK1.out _ hx1).mono ?_); rintro e w2 ⟨t1, t2, td, rfl, ha2, hx2⟩; have hb2 := hb1.ext hx2; have hx02 := hx1.trans hx2)
  | ((with_reducible apply gS 5); refine wAlo' rfl (some 5) rfl 47 rfl _ HZ ?_; intro w3 g3 hp3 hx3 hg3)
  | ((with_reducible apply gT 5 16); refine wStB rfl 47 (.tmp 5) (.tmp 16) rfl g3 (fc t1 t2 td) rfl rfl hp3 103 sizeFile (HSZ.out _ _ _) hzs.out (HON.out _ _ _ _ ha2) ?_; intro w4 hp4 hg4; have hx24 := hx3.grown hg4 hg3; have hb4 := hb2.ext hx24; have ha4 := HEX.out _ _ _ _ _ ha2 hx24; have hx04 := hx02.trans hx24)
  | ((with_reducible apply gS 19); refine wLdB rfl 47 (.tmp 2) rfl gf rfl hb4 _ Tryz.underlying47 rfl 103 sizeFile hts.out ?_)
  | (go_at_call 21; (with_reducible refine (HK2.out _ hx04).mono ?_); rintro e w5 ⟨u1, u2, ud, rfl, ha5, hx5⟩; have hp5 := hp4.ext hx5; have ha45 := HEX.out _ _ _ _ _ ha4 hx5; have hx05 := hx04.trans hx5)
  | ((with_reducible apply gS 7); refine wAlo' rfl (some 7) rfl 47 rfl _ HZ ?_; intro w6 g6 hp6 hx6 hg6)
  | ((with_reducible apply gT 7 22); refine wStB rfl 47 (.tmp 7) (.tmp 22) rfl g6 (fc u1 u2 ud) rfl rfl hp6 103 sizeFile (HSZ.out _ _ _) hzs.out (HON.out _ _ _ _ ha5) ?_; intro w7 hp7 hg7; have hx57 := hx6.grown hg7 hg6; have hpa := hp5.ext hx57; have haa := HEX.out _ _ _ _ _ ha45 hx57; have hab := HEX.out _ _ _ _ _ ha5 hx57; have hx07 := hx05.trans hx57)
  | ((with_reducible apply gS 25); refine wpList_build0_g (by rfl) 47 rfl _ HFB.out ?_)
  | (go_at_call 22; (with_reducible refine (HZR.out _).mono ?_); rintro e w8 ⟨B8, k8, d8, C8, j8, c8, rfl, hr8, hy8, hj8, hx8⟩; have hpa8 := hpa.ext hx8; have hpb8 := hp7.ext hx8; have haa8 := HEX.out _ _ _ _ _ haa hx8; have hab8 := HEX.out _ _ _ _ _ hab hx8; have hx08 := hx07.trans hx8)
  | ((with_reducible apply gS 9); refine wAlo' rfl (some 9) rfl 31 rfl _ HZP ?_; intro w9 g9 hp9 hx9 hg9)
  | ((with_reducible apply gT 9 27); refine wStB rfl 31 (.tmp 9) (.tmp 27) rfl g9 (pic0 (.slice B8 k8 d8)) rfl rfl hp9 3 sizePic (HPSZ0.out _) hz0s.out (HP10.out _ _ _) ?_; intro w10 hp10 hg10; have hx810 := hx9.grown hg10 hg9; have hpa10 := hpa8.ext hx810; have hpb10 := hpb8.ext hx810; have haa10 := HEX.out _ _ _ _ _ haa8 hx810; have hab10 := HEX.out _ _ _ _ _ hab8 hx810; have hx010 := hx08.trans hx810)
  | ((with_reducible apply gS 30); refine wLdB rfl 47 (.tmp 5) rfl g3 rfl hpa10 _ Tryz.underlying47 rfl 103 sizeFile (HSZ.out _ _ _) ?_)
  | ((with_reducible apply gS 31); refine wLdB rfl 47 (.tmp 7) rfl g6 rfl hpb10 _ Tryz.underlying47 rfl 103 sizeFile (HSZ.out _ _ _) ?_)
  | (go_at_call 23; (with_reducible refine (HEQ.out _ _ _ _ _ _ _ haa10 hab10).mono ?_); rintro e w11 ⟨rfl, hx11⟩)
  | ((with_reducible apply gS 36); refine wl_run_g (by rfl) (.bool true) (ex_eql rfl rfl rfl e1) ?_))
 go_ret
 exact ⟨rfl, hx010.trans hx11⟩
end Go.Proofs.YtkggcjdlpendfaaGreatDoor.rescueHurts
namespace Go.Proofs.YtkggcjdlpendfaaGreatDoor
set_option linter.unusedVariables false
set_option linter.unusedSimpArgs false
open Go.RowKit
section
open Go.RowKit Go.ChangeShapes Go.WideShapes Go.ChangeAt
theorem own : ownKnob Tryz.prog.godebug = none := by kernel_rfl
theorem laidOut : laidOutB Tryz.prog = true := by kernel_rfl
section
variable {H : Type} {enc : TypeId × Value → H} {P : Program}
theorem below_trodAll (hl : laidOutB P = true) {W W' : World} (hb : Below W.heap.size W W') : ∀ {ts : List TypeId} {vs : List Value} {ds : List (DataW H)} {ps : List MemPlace},
 (∀ t ∈ ts, P.readableRec t = true ∧ t < P.types.size) → DataW.TrodAll enc P W 0 (fun _ => true) true ts vs ds ps → (∀ x ∈ ps, x.block < W.heap.size) →
 DataW.TrodAll enc P W' 0 (fun b => decide (b < W.heap.size)) true ts vs ds ps
 | [], _, _, _, _, h, _ => by
   obtain ⟨rfl, rfl, rfl⟩ := trodAll_nil h
   exact trodAll_mk0
 | t :: ts, vs, ds, ps, hr, h, hlt => by
   obtain ⟨v, vs1, d, ds1, a, b, rfl, rfl, rfl, h1, h2⟩ := trodAll_cons h
   exact ⟨a, b, Below.trod hl (hr t (by simp)).1 (hr t (by simp)).2 h1 hb (fun x hx => hlt x (by simp [hx])),
    below_trodAll hl hb (fun t ht => hr t (by simp [ht])) h2 (fun x hx => hlt x (by simp [hx])), rfl⟩
theorem law_post {f : Func} {s : ChangeSpec} {W W' : World} {args : Array Value} {ds gs : List (DataW H)} {before : List MemPlace}
 (hl : laidOutB P = true) (tb : TypeId) (htb : P.underlying tb = some .bool) (hft : f.resultTypes = #[tb]) (hvars : s.vars = [])
 (hr : ∀ t ∈ f.params.toList, P.readableRec t = true ∧ t < P.types.size)
 (hW : DataW.Whole enc P f.params.toList s.vars false W args.toList ds gs before)
 (hfn : s.fn H (ds ++ gs) = { results := [.lit (.bool true)], args := ds })
 (hb : Ext W W') : s.post enc P f false true false false W args (.bool true) W' := by
 have hlt : ∀ p ∈ before, p.block < W.heap.size := fun p hp => by simpa using hW.lt p hp
 have hW' := hW
 obtain ⟨p, q, hA, hV, rfl, hfz, hnd⟩ := hW
 rw [hvars] at hV
 obtain ⟨rfl, rfl⟩ := trodVars_none hV
 simp only [List.append_nil] at hlt hW'
 refine ⟨ds, [], p, [], p, [], hW', ?_, ?_, ?_, ?_, fun h => by cases h⟩
 ·rw [hft, hfn]
  exact trodAll_cons_mk (shut_bool htb _) trodAll_mk0
 ·rw [hfn]
  exact below_trodAll hl hb hr hA hlt
 ·rw [hfn, hvars]
  rfl
 ·exact World.keptBut_mono (fun p hp => ⟨hp, Or.inr (Or.inl hp)⟩) (hb.frame (· ∈ p))
end
end
section
open Go.ChangeShapes Go.WideShapes Go.ChangeAt Go.RowKit
theorem maxLen_cell {W : World} (h : W.ShapedOpen Tryz.prog) : ∃ m, W.cell? ⟨0, 0, none⟩ = some (.int .i64 m) :=
 Go.Proofs.cell_of_shapedOpen_int (zero := #[.int .i64 0]) (t := 3) h (of_decide_eq_true (by kernel_rfl)) (by kernel_rfl) rfl (by kernel_rfl) (by kernel_rfl) Tryz.underlying3
def layCells (cs : Array Value) : Obj → Obj
 | .cells _ t frozen => .cells cs t frozen
 | o => o
noncomputable def laidWorld (os : Os) : World :=
 { World.holding Tryz.prog os ⟨#[], #[], []⟩ with
  heap := ((World.holding Tryz.prog os ⟨#[], #[], []⟩).heap.modify 1 (layCells (Go.Pinned.utf8FirstZ.map fun n : Nat => Value.int .u8 n).toArray)).modify 2
   (layCells (([128, 191, 160, 191, 128, 159, 144, 191, 128, 143, 0, 0, 0, 0, 0, 0, 0, 0, 0, 0, 0, 0, 0, 0, 0, 0, 0, 0, 0, 0, 0, 0] : List Nat).map fun n : Nat => Value.int .u8 n).toArray) }
end
end Go.Proofs.YtkggcjdlpendfaaGreatDoor
