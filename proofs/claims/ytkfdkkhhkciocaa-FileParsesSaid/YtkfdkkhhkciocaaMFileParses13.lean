/- Contracts for the law FileParses, part 13: what the functions that it reaches answer, for all arguments that the theorems name. -/
import Derived.Test.YtkfdkkhhkciocaaMFileParses12
import Derived.Test.YtkfdkkhhkciocaaMFileParses5
import Derived.Test.YtkfdkkhhkciocaaMFileParses3
import Derived.Great.BuildSlice
import Derived.Deep.Cut
/- A file in a block: stores into its parts, loads of them. -/
namespace Go.Proofs.Ytkfdkkhhkciocaa
set_option linter.unusedVariables false
set_option linter.unusedSimpArgs false
open Go.RowKit
section
variable {ops : Array Oper} {rest : List Oper} {o : Oper} {ac : Act} {w : World} {Q : Exit → Act → World → Prop}
theorem store_q (hgd : o.guard = none) (x y : Operand) (ho : o.op = .store 24 x y) (gf : Nat) (F : FC) (hF : F.shaped) (s1 s2 sd : Value) (q : List Int) (hq : q.length = 64) (hx : ac.eval x = .pointer (some ⟨gf, 3, none⟩)) (hy : ac.eval y = .agg (bv q))
    (hB : Blk w gf 45 (F.cells s1 s2 sd)) (h : ∀ w1, Blk w1 gf 45 (FC.cells { F with qs := q } s1 s2 sd) → Upd (fun b => b = gf) w w1 → wpList Try.prog ops Q rest (ac.put o.dst undef) w1) : wpList Try.prog ops Q (o :: rest) ac w := by
  unfold FC.cells at hB h
  rw [cells_q] at hB
  refine wpList_store_part hgd _ x y ho gf 3 (ints q) hx hy hB rfl (by rw [ints_len, ints_len, hq, hF.1]) (by rw [ints_len, hq]; exact size48) (ints_one_mem q) (fun w1 h1 h2 => h w1 ?_ h2)
  rw [cells_q]
  exact h1
theorem store_t1 (hgd : o.guard = none) (x y : Operand) (ho : o.op = .store 41 x y) (gf : Nat) (F : FC) (hF : F.shaped) (s1 s2 sd : Value) (cs xs : List Int) (hcs : cs.length = 16) (A : Option Addr) (k c : Nat) (hx : ac.eval x = .pointer (some ⟨gf, 67, none⟩)) (hy : ac.eval y = .agg (tblv cs (.slice A k c)))
    (hB : Blk w gf 45 (F.cells s1 s2 sd)) (h : ∀ w1, Blk w1 gf 45 (FC.cells { F with cs1 := cs, xs1 := xs } (.slice A k c) s2 sd) → Upd (fun b => b = gf) w w1 → wpList Try.prog ops Q rest (ac.put o.dst undef) w1) : wpList Try.prog ops Q (o :: rest) ac w := by
  unfold FC.cells at hB h
  rw [cells_1] at hB
  refine wpList_store_part hgd _ x y ho gf 67 (tblL cs (.slice A k c)) hx hy hB (by simp [ints_len, hF.1]) (by rw [tblL_len _ _ hF.2.1, tblL_len _ _ hcs]) (by rw [tblL_len _ _ hcs]; exact sizeTbl1) (tblP_one cs A k c) (fun w1 h1 h2 => h w1 ?_ h2)
  rw [cells_1]
  exact h1
theorem store_t2 (hgd : o.guard = none) (x y : Operand) (ho : o.op = .store 41 x y) (gf : Nat) (F : FC) (hF : F.shaped) (s1 s2 sd : Value) (cs xs : List Int) (hcs : cs.length = 16) (A : Option Addr) (k c : Nat) (hx : ac.eval x = .pointer (some ⟨gf, 84, none⟩)) (hy : ac.eval y = .agg (tblv cs (.slice A k c)))
    (hB : Blk w gf 45 (F.cells s1 s2 sd)) (h : ∀ w1, Blk w1 gf 45 (FC.cells { F with cs2 := cs, xs2 := xs } s1 (.slice A k c) sd) → Upd (fun b => b = gf) w w1 → wpList Try.prog ops Q rest (ac.put o.dst undef) w1) : wpList Try.prog ops Q (o :: rest) ac w := by
  unfold FC.cells at hB h
  rw [cells_2] at hB
  refine wpList_store_part hgd _ x y ho gf 84 (tblL cs (.slice A k c)) hx hy hB (by simp [ints_len, hF.1, tblL_len _ _ hF.2.1]) (by rw [tblL_len _ _ hF.2.2, tblL_len _ _ hcs]) (by rw [tblL_len _ _ hcs]; exact sizeTbl1) (tblP_one cs A k c) (fun w1 h1 h2 => h w1 ?_ h2)
  rw [cells_2]
  exact h1
theorem load_q (hgd : o.guard = none) (x : Operand) (ho : o.op = .load 24 x) (gf : Nat) (F : FC) (hF : F.shaped) (s1 s2 sd : Value) (hx : ac.eval x = .pointer (some ⟨gf, 3, none⟩))
    (hB : Blk w gf 45 (F.cells s1 s2 sd)) (h : wpList Try.prog ops Q rest (ac.put o.dst (.agg (bv F.qs))) w) : wpList Try.prog ops Q (o :: rest) ac w := by
  unfold FC.cells at hB
  exact wpList_load_mid hgd _ x ho gf 3 hx (ints F.qs) _ (fileB hB hF.1 (tblL_len _ _ hF.2.1) (tblL_len _ _ hF.2.2)).q Try.underlying24 rfl (by rw [ints_len, hF.1]; exact size48) h
/-- a store of one number of the quantization -/
theorem store_qk (hgd : o.guard = none) (x y : Operand) (ho : o.op = .store 3 x y) (gf : Nat) (F : FC) (hF : F.shaped) (s1 s2 sd : Value) (k : Nat) (hk : k < 64) (z : Int) (hx : ac.eval x = .pointer (some ⟨gf, 3 + k, none⟩)) (hy : ac.eval y = .int .i64 z)
    (hB : Blk w gf 45 (F.cells s1 s2 sd)) (h : ∀ w1, Blk w1 gf 45 (FC.cells { F with qs := F.qs.set k z } s1 s2 sd) → Upd (fun b => b = gf) w w1 → wpList Try.prog ops Q rest (ac.put o.dst undef) w1) : wpList Try.prog ops Q (o :: rest) ac w := by
  refine wl_storeI hgd x y ho gf (3 + k) z hx hy hB (by rw [FC.size hF]; omega) (h _ ?_ ((Upd.refl (fun b => b = gf) w).setCell (p := ⟨gf, 3 + k, none⟩) rfl _))
  have := hB.set_ (3 + k) (.int .i64 z)
  unfold FC.cells at this ⊢
  rwa [q_set _ _ _ _ _ _ _ _ _ _ (by rw [hF.1]; exact hk)] at this
theorem wl_storeB {i : Nat} {A : Option Addr} {n c : Nat} (hg : o.guard = none) (x y : Operand) (ho : o.op = .store 38 x y) (g : Nat) (hx : ac.eval x = .pointer (some ⟨g, i, none⟩)) (hy : ac.eval y = .slice A n c)
    {t : TypeId} {cs : Array Value} (hB : Blk w g t cs) (hi : i < cs.size) (h : wpList Try.prog ops Q rest (ac.put o.dst undef) (w.setCell ⟨g, i, none⟩ (.slice A n c))) : wpList Try.prog ops Q (o :: rest) ac w :=
  wpList_plain hg fun _ hK => by
    have hc := (hB.cell i).trans (Array.getElem?_eq_getElem hi)
    have hf := hB.frozen i
    unfold Oper.wp execOp
    simp only [ho, hx, hy]
    go_simp
    exact hK _ _ h
theorem store_d (hgd : o.guard = none) (x y : Operand) (ho : o.op = .store 38 x y) (gf : Nat) (F : FC) (hF : F.shaped) (s1 s2 sd : Value) (data : List Nat) (A : Option Addr) (n c : Nat) (hx : ac.eval x = .pointer (some ⟨gf, 102, none⟩)) (hy : ac.eval y = .slice A n c)
    (hB : Blk w gf 45 (F.cells s1 s2 sd)) (h : ∀ w1, Blk w1 gf 45 (FC.cells { F with data := data } s1 s2 (.slice A n c)) → Upd (fun b => b = gf) w w1 → wpList Try.prog ops Q rest (ac.put o.dst undef) w1) : wpList Try.prog ops Q (o :: rest) ac w := by
  refine wl_storeB hgd x y ho gf hx hy hB (by rw [FC.size hF]; omega) (h _ ?_ ((Upd.refl (fun b => b = gf) w).setCell (p := ⟨gf, 102, none⟩) rfl _))
  have := hB.set_ 102 (.slice A n c)
  unfold FC.cells at this ⊢
  rwa [cells_d _ _ _ _ _ _ _ _ _ hF.1 (tblL_len _ _ hF.2.1) (tblL_len _ _ hF.2.2)] at this
end
theorem PRk.upd {S : Nat → Prop} {w w' : World} {gr p : Nat} {bs : List Nat} (h : PRk w gr bs p) (hu : Upd S w w') (hS : ∀ x, S x → gr < x) : PRk w' gr bs p := PR.upd h hu hS
theorem PRk.ext {w w' : World} {gr p : Nat} {bs : List Nat} (h : PRk w gr bs p) (hx : Ext w w') : PRk w' gr bs p := PR.ext h hx
theorem PRk.lt {w : World} {gr p : Nat} {bs : List Nat} (h : PRk w gr bs p) : gr < w.heap.size := PR.lt h
theorem PRk.flag {w : World} {gr p : Nat} {bs : List Nat} (h : PRk w gr bs p) : w.cell? ⟨gr, 1, none⟩ = some (.bool (decide (bs.length < p))) := PR.flag h
theorem PRk.start {w w3 : World} {gr n c : Nat} {A : Option Addr} {bs : List Nat} (hn : bs.length = n) (hb : Blk w3 gr 83 #[.slice A n c, .bool false]) (hs : SL w 1 (.slice A n c) n (bytesV bs)) (hx : Ext w w3) (hg : w.heap.size ≤ gr) : PRk w3 gr bs 0 := by
  subst hn
  refine ⟨A, c, by simpa using hb, by simpa using hs.ext hx, fun h0 ad e => ?_⟩
  obtain ⟨A', c', e1, h1, h2, h3, h4⟩ := hs
  injection e1 with e1 e2 e3
  obtain ⟨ad', e5, h5, -⟩ := h4 (by simpa using h0)
  rw [← e1, e] at e5
  injection e5 with e5
  subst e5
  omega
/-- the bytes that are left -/
theorem PRk.rest {w : World} {gr p : Nat} {bs : List Nat} (h : PRk w gr bs p) : ∃ A c, w.cell? ⟨gr, 0, none⟩ = some (.slice A (bs.drop p).length c) ∧ SL w 1 (.slice A (bs.drop p).length c) (bs.drop p).length (bytesV (bs.drop p)) := by
  obtain ⟨A, c, h1, h2, h3⟩ := h
  exact ⟨A, c, h1.cell 0, h2⟩
end Go.Proofs.Ytkfdkkhhkciocaa
/- FileEq and TableEq of the reference: files that hold the same are equal. Printed by wip/gen/mkfileeq.py. -/
namespace Go.Proofs.Ytkfdkkhhkciocaa
set_option linter.unusedVariables false
set_option linter.unusedSimpArgs false
open Go.RowKit
theorem guard39 : Try.prog.eqGuardType Try.prog.depth 39 = false := by kernel_rfl
theorem size39 : (Try.prog.info? 39).map (·.size) = some 16 := by kernel_rfl
theorem run_eql39_same (w : World) (xs : List Int) (hx : xs.length = 16) : (binOp .eql 39 (.agg (bv xs)) (.agg (bv xs))).run Try.prog w = .ok (.bool true) w := by
  rw [run_eql_struct, run_equalIn_ints w 9998 39 3 16 Try.underlying39 Try.underlying3 sizeInt xs xs hx hx]
  simp
theorem run_guard39 (w : World) (op : BinOp) (x y : Operand) (xs ys : Array Value) : (eqGuard op 39 x y (.agg xs) (.agg ys)).run Try.prog w = .ok () w := run_eqGuard_agg w op _ x y xs ys guard39
theorem ex_eq16 {o : Oper} {a : Act} {x y : Operand} {t2 : TypeId} (ho : o.op = .binOp .eql 39 x y t2) (xs : List Int) (h : xs.length = 16) (hx : a.eval x = .agg (bv xs)) (hy : a.eval y = .agg (bv xs)) (w : World) : (execOp a.eval o).run Try.prog w = .ok (.value (.bool true)) w := by
  simp [execOp, ho, hx, hy, run_guard39, run_eql39_same w xs h]
theorem ex_eq64 {o : Oper} {a : Act} {x y : Operand} {t2 : TypeId} (ho : o.op = .binOp .eql 24 x y t2) (xs : List Int) (h : xs.length = 64) (hx : a.eval x = .agg (bv xs)) (hy : a.eval y = .agg (bv xs)) (w : World) : (execOp a.eval o).run Try.prog w = .ok (.value (.bool true)) w := by
  simp [execOp, ho, hx, hy, run_guard48, run_eql48_same w xs h]
set_option maxRecDepth 20000 in
set_option maxHeartbeats 2000000 in
theorem tableEq_same (cs xs : List Int) (s1 s2 : Value) (w : World) (hc : cs.length = 16) (h1 : SL w 1 s1 xs.length (ints xs)) (h2 : SL w 1 s2 xs.length (ints xs)) :
    Calls Try.prog 24 #[.agg (tblv cs s1), .agg (tblv cs s2)] w fun e w' => e = .returned (.bool true) ∧ Ext w w' := by
  have h1' := h1
  have h2' := h2
  obtain ⟨A1, c1, rfl, -, -, -, -⟩ := h1'
  obtain ⟨A2, c2, rfl, -, -, -, -⟩ := h2'
  have HR1 := hid_ (fun W g (h : Blk W g 41 (tblv cs (.slice A1 xs.length c1))) => And.intro (tblv_range h) (tblv_last h hc))
  have HR2 := hid_ (fun W g (h : Blk W g 41 (tblv cs (.slice A2 xs.length c2))) => And.intro (tblv_range h) (tblv_last h hc))
  have HQ := hid_ (fun W (hx : Ext w W) => eqInt_any (.slice A1 xs.length c1) (.slice A2 xs.length c2) xs xs W (h1.ext hx) (h2.ext hx))
  rw [decide_eq_true (rfl : xs = xs)] at HQ
  generalize xs.length = n at *
  have hl : (ints cs).length = 16 := by rw [ints_len, hc]
  generalize tblv cs (.slice A1 n c1) = T1 at *
  generalize tblv cs (.slice A2 n c2) = T2 at *
  go_enter Try.func24, Try.ntmps24
  go_wp2_with (first
    | (show wpList _ _ _ (⟨some 2, _, _, _, _, _⟩ :: _) _ _; refine wpList_box_abs rfl 41 (.tmp 0) rfl T1 rfl ?_; intro w1 g1 hb1 hx1 hg1)
    | (show wpList _ _ _ (⟨some 3, _, _, _, _, _⟩ :: _) _ _; refine wpList_box_abs rfl 41 (.tmp 1) rfl T2 rfl ?_; intro w2 g2 hb2 hx2 hg2; have hb12 := hb1.ext hx2; have hr1 := HR1.out _ _ hb12; have hr2 := HR2.out _ _ hb2)
    | (show wpList _ _ _ (⟨some 6, _, _, _, _, _⟩ :: _) _ _; refine wpList_load_mid rfl 39 (.tmp 5) rfl g1 0 rfl (ints cs) _ hr1.1 Try.underlying39 rfl (by rw [hl]; exact size39) ?_)
    | (show wpList _ _ _ (⟨some 8, _, _, _, _, _⟩ :: _) _ _; refine wpList_load_mid rfl 39 (.tmp 7) rfl g2 0 rfl (ints cs) _ hr2.1 Try.underlying39 rfl (by rw [hl]; exact size39) ?_)
    | (show wpList _ _ _ (⟨some 9, _, _, _, _, _⟩ :: _) _ _; refine wl_run rfl (.bool true) (ex_eq16 rfl cs hc rfl rfl) ?_)
    | (show wpList _ _ _ (⟨some 12, _, _, _, _, _⟩ :: _) _ _; refine wl_read_g (by rfl) (.slice A1 n c1) (ex_loadL rfl rfl hr1.2) ?_)
    | (show wpList _ _ _ (⟨some 14, _, _, _, _, _⟩ :: _) _ _; refine wl_read_g (by rfl) (.slice A2 n c2) (ex_loadL rfl rfl hr2.2) ?_)
    | (go_at_call 13; (with_reducible refine (HQ.out _ (hx1.trans hx2)).mono ?_); rintro e w5 ⟨rfl, rfl⟩))
  go_ret
  exact ⟨rfl, hx1.trans hx2⟩
set_option maxRecDepth 20000 in
set_option maxHeartbeats 4000000 in
theorem fileEq_same (F : FC) (hF : F.shaped) (s1 s2 sd t1 t2 td : Value) (w : World) (ha : F.at_ w s1 s2 sd) (hb : F.at_ w t1 t2 td) :
    Calls Try.prog 16 #[.agg (F.cells s1 s2 sd), .agg (F.cells t1 t2 td)] w fun e w' => e = .returned (.bool true) ∧ Ext w w' := by
  have ha3 := ha.2.2
  have hb3 := hb.2.2
  obtain ⟨A3, c3, rfl, -, -, -, -⟩ := ha3
  obtain ⟨B3, d3, rfl, -, -, -, -⟩ := hb3
  have HA := hid_ (fun W g (h : Blk W g 45 (F.cells s1 s2 (.slice A3 F.data.length c3))) => fileB h hF.1 (tblL_len _ _ hF.2.1) (tblL_len _ _ hF.2.2))
  have HB := hid_ (fun W g (h : Blk W g 45 (F.cells t1 t2 (.slice B3 F.data.length d3))) => fileB h hF.1 (tblL_len _ _ hF.2.1) (tblL_len _ _ hF.2.2))
  have HT1 := hid_ (fun W (hx : Ext w W) => (show Calls Try.prog 24 #[.agg (tblL F.cs1 s1).toArray, .agg (tblL F.cs1 t1).toArray] W (fun e w' => e = .returned (.bool true) ∧ Ext W w') from tableEq_same F.cs1 F.xs1 s1 t1 W hF.2.1 (ha.1.ext hx) (hb.1.ext hx)))
  have HT2 := hid_ (fun W (hx : Ext w W) => (show Calls Try.prog 24 #[.agg (tblL F.cs2 s2).toArray, .agg (tblL F.cs2 t2).toArray] W (fun e w' => e = .returned (.bool true) ∧ Ext W w') from tableEq_same F.cs2 F.xs2 s2 t2 W hF.2.2 (ha.2.1.ext hx) (hb.2.1.ext hx)))
  have HQ := hid_ (fun W (hx : Ext w W) => eqByte_any _ _ F.data F.data W (ha.2.2.ext hx) (hb.2.2.ext hx))
  rw [decide_eq_true (rfl : F.data = F.data)] at HQ
  have hq := hF.1
  have ql : (ints F.qs).length = 64 := by rw [ints_len, hq]
  have l1 : (tblL F.cs1 s1).length = 17 := tblL_len _ _ hF.2.1
  have l2 : (tblL F.cs2 s2).length = 17 := tblL_len _ _ hF.2.2
  have m1 : (tblL F.cs1 t1).length = 17 := tblL_len _ _ hF.2.1
  have m2 : (tblL F.cs2 t2).length = 17 := tblL_len _ _ hF.2.2
  generalize F.data.length = n at *
  generalize F.cells s1 s2 (.slice A3 n c3) = C1 at *
  generalize F.cells t1 t2 (.slice B3 n d3) = C2 at *
  go_enter Try.func16, Try.ntmps16
  go_wp2_with (first
    | (show wpList _ _ _ (⟨some 2, _, _, _, _, _⟩ :: _) _ _; refine wpList_box_abs rfl 45 (.tmp 0) rfl C1 rfl ?_; intro w1 g1 hb1 hx1 hg1)
    | (show wpList _ _ _ (⟨some 3, _, _, _, _, _⟩ :: _) _ _; refine wpList_box_abs rfl 45 (.tmp 1) rfl C2 rfl ?_; intro w2 g2 hb2 hx2 hg2; have hb12 := hb1.ext hx2; have r1 := HA.out _ _ hb12; have r2 := HB.out _ _ hb2; have hx12 := hx1.trans hx2)
    | (show wpList _ _ _ (⟨some 6, _, _, _, _, _⟩ :: _) _ _; refine wl_read rfl (.int .i64 F.wd) (ex_loadI rfl rfl r1.c0) ?_)
    | (show wpList _ _ _ (⟨some 8, _, _, _, _, _⟩ :: _) _ _; refine wl_read rfl (.int .i64 F.wd) (ex_loadI rfl rfl r2.c0) ?_)
    | (show wpList _ _ _ (⟨some 9, _, _, _, _, _⟩ :: _) _ _; refine wl_run rfl (.bool true) (ex_eql rfl rfl rfl (by simp)) ?_)
    | (show wpList _ _ _ (⟨some 12, _, _, _, _, _⟩ :: _) _ _; refine wl_read_g (by rfl) (.int .i64 F.hi) (ex_loadI rfl rfl r1.c1) ?_)
    | (show wpList _ _ _ (⟨some 14, _, _, _, _, _⟩ :: _) _ _; refine wl_read_g (by rfl) (.int .i64 F.hi) (ex_loadI rfl rfl r2.c1) ?_)
    | (show wpList _ _ _ (⟨some 15, _, _, _, _, _⟩ :: _) _ _; refine wl_run_g (by rfl) (.bool true) (ex_eql rfl rfl rfl (by simp)) ?_)
    | (show wpList _ _ _ (⟨some 19, _, _, _, _, _⟩ :: _) _ _; refine wl_read_g (by rfl) (.int .i64 F.pt) (ex_loadI rfl rfl r1.c2) ?_)
    | (show wpList _ _ _ (⟨some 21, _, _, _, _, _⟩ :: _) _ _; refine wl_read_g (by rfl) (.int .i64 F.pt) (ex_loadI rfl rfl r2.c2) ?_)
    | (show wpList _ _ _ (⟨some 22, _, _, _, _, _⟩ :: _) _ _; refine wl_run_g (by rfl) (.bool true) (ex_eql rfl rfl rfl (by simp)) ?_)
    | (show wpList _ _ _ (⟨some 26, _, _, _, _, _⟩ :: _) _ _; refine wpList_load_mid_g (by rfl) 24 (.tmp 25) rfl g1 3 rfl (ints F.qs) _ r1.q Try.underlying24 rfl (by rw [ql]; exact size48) ?_)
    | (show wpList _ _ _ (⟨some 28, _, _, _, _, _⟩ :: _) _ _; refine wpList_load_mid_g (by rfl) 24 (.tmp 27) rfl g2 3 rfl (ints F.qs) _ r2.q Try.underlying24 rfl (by rw [ql]; exact size48) ?_)
    | (show wpList _ _ _ (⟨some 29, _, _, _, _, _⟩ :: _) _ _; refine wl_run_g (by rfl) (.bool true) (ex_eq64 rfl F.qs hq rfl rfl) ?_)
    | (show wpList _ _ _ (⟨some 33, _, _, _, _, _⟩ :: _) _ _; refine wl_read_g (by rfl) (.int .i64 F.ev) (ex_loadI rfl rfl r1.c101) ?_)
    | (show wpList _ _ _ (⟨some 35, _, _, _, _, _⟩ :: _) _ _; refine wl_read_g (by rfl) (.int .i64 F.ev) (ex_loadI rfl rfl r2.c101) ?_)
    | (show wpList _ _ _ (⟨some 36, _, _, _, _, _⟩ :: _) _ _; refine wl_run_g (by rfl) (.bool true) (ex_eql rfl rfl rfl (by simp)) ?_)
    | (show wpList _ _ _ (⟨some 41, _, _, _, _, _⟩ :: _) _ _; refine wpList_load_mid_g (by rfl) 41 (.tmp 40) rfl g1 67 rfl (tblL F.cs1 s1) _ r1.ta Try.underlying41 rfl (by rw [l1]; exact sizeTbl1) ?_)
    | (show wpList _ _ _ (⟨some 44, _, _, _, _, _⟩ :: _) _ _; refine wpList_load_mid_g (by rfl) 41 (.tmp 43) rfl g2 67 rfl (tblL F.cs1 t1) _ r2.ta Try.underlying41 rfl (by rw [m1]; exact sizeTbl1) ?_)
    | (go_at_call 24; (with_reducible refine (HT1.out _ hx12).mono ?_); rintro e w5 ⟨rfl, hx5⟩; have r15 := HA.out _ _ (hb12.ext hx5); have r25 := HB.out _ _ (hb2.ext hx5); have hx15 := hx12.trans hx5)
    | (show wpList _ _ _ (⟨some 50, _, _, _, _, _⟩ :: _) _ _; refine wpList_load_mid_g (by rfl) 41 (.tmp 49) rfl g1 84 rfl (tblL F.cs2 s2) _ r15.tb Try.underlying41 rfl (by rw [l2]; exact sizeTbl1) ?_)
    | (show wpList _ _ _ (⟨some 53, _, _, _, _, _⟩ :: _) _ _; refine wpList_load_mid_g (by rfl) 41 (.tmp 52) rfl g2 84 rfl (tblL F.cs2 t2) _ r25.tb Try.underlying41 rfl (by rw [m2]; exact sizeTbl1) ?_)
    | (go_at_call 24; (with_reducible refine (HT2.out _ hx15).mono ?_); rintro e w6 ⟨rfl, hx6⟩; have r16 := HA.out _ _ ((hb12.ext hx5).ext hx6); have r26 := HB.out _ _ ((hb2.ext hx5).ext hx6); have hx16 := hx15.trans hx6)
    | (show wpList _ _ _ (⟨some 58, _, _, _, _, _⟩ :: _) _ _; refine wl_read_g (by rfl) (.slice A3 n c3) (ex_loadS rfl rfl r16.c102) ?_)
    | (show wpList _ _ _ (⟨some 60, _, _, _, _, _⟩ :: _) _ _; refine wl_read_g (by rfl) (.slice B3 n d3) (ex_loadS rfl rfl r26.c102) ?_)
    | (go_at_call 44; (with_reducible refine (HQ.out _ hx16).mono ?_); rintro e w7 ⟨rfl, rfl⟩))
  go_ret
  exact ⟨rfl, hx16⟩
end Go.Proofs.Ytkfdkkhhkciocaa
/- file.Parse, of bytes that are not too many. Printed by wip/gen/mkparse2.py. -/
namespace Go.Proofs.Ytkfdkkhhkciocaa
set_option linter.unusedVariables false
set_option linter.unusedSimpArgs false
open Go.RowKit
def Z64 : List Int := List.replicate 64 0
def Z16 : List Int := List.replicate 16 0
def nilV : Value := .slice none 0 0
attribute [local irreducible] cntS zfrom symL cntL quL
set_option maxRecDepth 20000 in
set_option maxHeartbeats 16000000 in
theorem parse_good (A : Option Addr) (n c : Nat) (bs : List Nat) (w : World) (hn : bs.length = n) (hl : n ≤ 91000) (hlt : ∀ b ∈ bs, b < 256) (hs : SL w 1 (.slice A n c) n (bytesV bs)) :
    Calls Try.prog 14 #[.slice A n c] w (FpIs (parseZ bs) w) := by
  have HSB := hid_ hs
  have HNL := hid_ hn
  have HLT := hid_ hlt
  have hzs := hid_ zFile_size
  have hzo := hid_ zFile_one
  have hZF := zeroFileV
  have hbf := hid_ built0F
  have hb4 := hid_ builtF
  have hST := hid_ (fun (w3 : World) (gr : Nat) (hb : Blk w3 gr 83 #[.slice A n c, .bool false]) (hx : Ext w w3) (hg : w.heap.size ≤ gr) => PRk.start hn hb hs hx hg)
  obtain ⟨X, hX⟩ : ∃ X : Nat → Nat, X = fun p => bs.getD p 0 := ⟨_, rfl⟩
  have HX := hid_ (fun p => (show bs.getD p 0 = X p by rw [hX]))
  have HN : Hid (∀ g p W, PRk W g bs p → Calls Try.prog 35 #[.pointer (some ⟨g, 0, none⟩)] W fun e w' => e = .returned (.int .i64 ((X p : Nat) : Int)) ∧ PRk w' g bs (p + 1) ∧ Upd (fun b => b = g) W w') := hid_ (fun g p W h => by rw [hX]; exact number_at g bs p W hlt h)
  clear hX hs hlt hn
  obtain ⟨F0, hF0⟩ : ∃ F0 : FC, F0 = ⟨((X 2 : Nat) : Int), ((X 3 : Nat) : Int), ((X 4 : Nat) : Int), Z64, Z16, [], Z16, [], ((X 5 : Nat) : Int), []⟩ := ⟨_, rfl⟩
  have hbF : Hid (Try.prog.built 45 [(0, .int .i64 ((X 2 : Nat) : Int)), (1, .int .i64 ((X 3 : Nat) : Int)), (2, .int .i64 ((X 4 : Nat) : Int)), (5, .int .i64 ((X 5 : Nat) : Int))] = some (F0.cells (.slice none 0 0) (.slice none 0 0) (.slice none 0 0))) := hid_ (by rw [hF0]; exact hb4.out _ _ _ _)
  have hF0s : F0.shaped := by rw [hF0]; exact ⟨rfl, rfl, rfl⟩
  have hF0z := hid_ (FC.size hF0s (.slice none 0 0) (.slice none 0 0) (.slice none 0 0))
  have hF0o := hid_ (fileOne F0 none none none 0 0 0 0 0 0)
  have HF0 := hid_ hF0
  clear hF0 hb4
  obtain ⟨fc0, hfc0⟩ : ∃ fc0, fc0 = F0.cells (.slice none 0 0) (.slice none 0 0) (.slice none 0 0) := ⟨_, rfl⟩
  rw [← hfc0] at hbF hF0z hF0o
  have HFC0 := hid_ hfc0
  clear hfc0
  have HE : ∀ E, parseZ bs = (FC.zero, E) → Hid (∀ W, Ext w W → FpIs (parseZ bs) w (.returned (.tuple #[.agg zFile, .int .i64 E])) W) := fun E h => hid_ (fun W hx => FpIs.err h hx)
  have HER := hid_ HE
  clear HE
  generalize hzf : zFile = zf at *
  go_enter Try.func14, Try.ntmps14
  go_wp2_with (first
    | (show wpList _ _ _ (⟨some 2, _, _, _, _, _⟩ :: _) _ _; refine wpList_alloc_abs' rfl (some 2) rfl 45 rfl _ hZF ?_; intro w1 g0 hb0 hx1 hg0)
    | (show wpList _ _ _ (⟨some 15, _, _, _, _, _⟩ :: _) _ _; refine wpList_box_abs rfl 83 (.tmp 14) rfl #[.slice A n c, .bool false] rfl ?_; intro w3 gr hbr hx3 hgr; have hy0 := hx1.trans hx3; have hgr' : w.heap.size ≤ gr := (by have := hx1.size; omega); have hq0 := hST.out w3 gr hbr hy0 hgr'; have hz0 : Blk w3 g0 45 zf := hb0.ext hx3; have hne : g0 < gr := (by have := hb0.lt; omega); clear hx1 hx3 hbr hb0)
    | (go_at_call 35; (with_reducible refine (HN.out _ 0 _ hq0).mono ?_); rintro e v0 ⟨rfl, hq', hu0⟩; have hq1 : PRk v0 gr bs 1 := hq'; have hz1 := hu0.blk hz0 (by omega); have hy1 := hu0.ext hy0 (fun x hx => by omega); clear hq' hq0 hz0 hy0 hu0)
    | (go_at_call 35; (with_reducible refine (HN.out _ 1 _ hq1).mono ?_); rintro e v1 ⟨rfl, hq', hu1⟩; have hq2 : PRk v1 gr bs 2 := hq'; have hz2 := hu1.blk hz1 (by omega); have hy2 := hu1.ext hy1 (fun x hx => by omega); clear hq' hq1 hz1 hy1 hu1)
    | (go_at_call 35; (with_reducible refine (HN.out _ 2 _ hq2).mono ?_); rintro e v2 ⟨rfl, hq', hu2⟩; have hq3 : PRk v2 gr bs 3 := hq'; have hz3 := hu2.blk hz2 (by omega); have hy3 := hu2.ext hy2 (fun x hx => by omega); clear hq' hq2 hz2 hy2 hu2)
    | (go_at_call 35; (with_reducible refine (HN.out _ 3 _ hq3).mono ?_); rintro e v3 ⟨rfl, hq', hu3⟩; have hq4 : PRk v3 gr bs 4 := hq'; have hz4 := hu3.blk hz3 (by omega); have hy4 := hu3.ext hy3 (fun x hx => by omega); clear hq' hq3 hz3 hy3 hu3)
    | (go_at_call 35; (with_reducible refine (HN.out _ 4 _ hq4).mono ?_); rintro e v4 ⟨rfl, hq', hu4⟩; have hq5 : PRk v4 gr bs 5 := hq'; have hz5 := hu4.blk hz4 (by omega); have hy5 := hu4.ext hy4 (fun x hx => by omega); clear hq' hq4 hz4 hy4 hu4)
    | (go_at_call 35; (with_reducible refine (HN.out _ 5 _ hq5).mono ?_); rintro e v5 ⟨rfl, hq', hu5⟩; have hq6 : PRk v5 gr bs 6 := hq'; have hz6 := hu5.blk hz5 (by omega); have hy6 := hu5.ext hy5 (fun x hx => by omega); clear hq' hq5 hz5 hy5 hu5)
    | (show wpList _ _ _ (⟨some 28, _, _, _, _, _⟩ :: _) _ _; refine wpList_buildTo rfl 45 _ rfl (some 28) rfl fc0 (by simp only [List.map_toArray, List.map_cons, List.map_nil]; exact hbF.out) ?_)
    | (show wpList _ _ _ (⟨some 5, _, _, _, _, _⟩ :: _) _ _; refine wpList_alloc_abs' rfl (some 5) rfl 45 rfl _ hZF ?_; intro w10 gf hbf10 hx10 hgf; have hq10 := hq6.ext hx10; have hz10 := hz6.ext hx10; have hy10 := hy6.trans hx10; have hgg : gr < gf := (by have := hq6.lt; omega); have hgf' : w.heap.size ≤ gf := (by have := hy6.size; omega); clear hq6 hz6 hy6 hx10)
    | (show wpList _ _ _ (⟨none, .store _ (.tmp 5) (.tmp 28), _, _, _, _⟩ :: _) _ _; refine wpList_store_blk rfl 45 (.tmp 5) (.tmp 28) rfl gf fc0 rfl rfl hbf10 103 sizeFile hF0z.out hzs.out hF0o.out ?_; intro w11 hbf11 hgf11))
  clear hbF hF0z hF0o hbf10
  rw [HFC0.out] at hbf11
  have hq11 := hq10.upd ((upd_grown hgf11)) (fun x hx => by injection hx with hx; omega)
  have hz11 := hz10.grown hgf11 (by intro hx; injection hx with hx; omega)
  have hy11 := hy10.grown hgf11 hgf'
  have hgrl : gr < w11.heap.size := hq11.lt
  have hgfl := hbf11.lt
  have hne2 : g0 < gf := by omega
  obtain ⟨G, hG⟩ : ∃ G : List Int → FC, G = fun q => { F0 with qs := q } := ⟨_, rfl⟩
  have HGQ : Hid (∀ q, (G q).qs = q) := hid_ (fun q => by rw [hG])
  have HGU : Hid (∀ q q', ({ G q with qs := q' } : FC) = G q') := hid_ (fun q q' => by rw [hG])
  have HGS : Hid (∀ q, q.length = 64 → (G q).shaped) := hid_ (fun q h => by rw [hG]; exact ⟨h, hF0s.2.1, hF0s.2.2⟩)
  have HG : Hid (∀ q, G q = ⟨((X 2 : Nat) : Int), ((X 3 : Nat) : Int), ((X 4 : Nat) : Int), q, Z16, [], Z16, [], ((X 5 : Nat) : Int), []⟩) := hid_ (fun q => by rw [hG, HF0.out])
  have e0 : F0 = G (quL bs 0 ++ List.replicate (64 - 0) 0) := by rw [HG.out, HF0.out, show quL bs 0 = [] by simp [quL]]; rfl
  rw [e0] at hbf11
  clear hG e0 HF0 hF0s HFC0 hq10 hz10 hy10
  go_loopw [29] (fun i wr => ∃ k : Nat, k ≤ 64 ∧ i = .int .i64 (k : Int) ∧ PRk wr gr bs (6 + k) ∧ Blk wr g0 45 zf ∧ Blk wr gf 45 (FC.cells (G (quL bs k ++ List.replicate (64 - k) 0)) (.slice none 0 0) (.slice none 0 0) (.slice none 0 0)) ∧ Ext w wr ∧ gf < wr.heap.size) (fun i _ => 64 - (intOf i).toNat)
  case atStart => exact ⟨0, by omega, rfl, hq11, hz11, hbf11, hy11, hgfl⟩
  case round =>
    clear hq11 hz11 hbf11 hy11 hgfl hgrl
    obtain ⟨k, hk, rfl, hq, hz, hbf2, hy, hgfl⟩ := hrel
    by_cases hk64 : k < 64
    · have HN1 := hid_ (HN.out gr (6 + k))
      have hql : (quL bs k ++ List.replicate (64 - k) 0).length = 64 := by rw [List.length_append, quL_len, List.length_replicate]; omega
      have HGk := hid_ (HGS.out _ hql)
      have HQ : Hid ((quL bs k ++ List.replicate (64 - k) 0).set k ((X (6 + k) : Nat) : Int) = quL bs (k + 1) ++ List.replicate (64 - (k + 1)) 0) := hid_ (by rw [← HX.out]; exact quL_set bs k hk64)
      generalize quL bs k ++ List.replicate (64 - k) 0 = q0 at *
      generalize hq1 : quL bs (k + 1) ++ List.replicate (64 - (k + 1)) 0 = q1 at *
      have HQ1 := hid_ hq1
      clear hq1 hql
      generalize X (6 + k) = x at *
      go_wp2_with (first
        | (go_at_call 35; (with_reducible refine (HN1.out _ hq).mono ?_); rintro e w3 ⟨rfl, hq3, hu3⟩; have hbf3 := hu3.blk hbf2 (by omega); have hz3 := hu3.blk hz (by omega); have hy3 := hu3.ext hy (fun y hx => by omega); have hgfl3 := (show gf < w3.heap.size by have := hu3.size; omega); clear hq hz hbf2 hy hu3)
        | (show wpList _ _ _ (⟨none, .store _ (.tmp 36) (.tmp 34), _, _, _, _⟩ :: _) _ _; refine store_qk rfl _ _ rfl gf (G q0) HGk.out _ _ _ k hk64 (x : Int) rfl rfl hbf3 ?_; intro w4 hbf4 hu4; rw [HGQ.out, HGU.out, HQ.out] at hbf4; have hq4 := hq3.upd hu4 (fun y hy => by omega); have hz4 := hu4.blk hz3 (by omega); have hy4 := hu4.ext hy3 (fun y hx => by omega); have hgfl4 := (show gf < w4.heap.size by have := hu4.size; omega); clear hq3 hz3 hbf3 hy3 hu4))
      go_roundw
      case rel => exact ⟨k + 1, by omega, by go_num, hq4, hz4, by rw [HQ1.out]; exact hbf4, hy4, hgfl4⟩
      case measure => simp [intOf]; omega
    · obtain rfl : k = 64 := by omega
      have hq70 : PRk wr gr bs 70 := hq
      have e64 : quL bs 64 ++ List.replicate (64 - 64) 0 = quL bs 64 := by simp
      rw [e64] at hbf2
      clear e64 hq
      have HZF := hid_ (fun W => zfrom_any (quL bs 64) W (quL_len bs 64))
      have HQs := hid_ (HGS.out _ (quL_len bs 64))
      have hzql := hid_ (zfrom_len (quL bs 64) 64)
      have HZs := hid_ (HGS.out _ hzql.out)
      generalize hq6 : quL bs 64 = q6 at *
      have HQ6 := hid_ hq6
      clear hq6
      generalize hzq : zfrom q6 64 = zq at *
      have HZQ := hid_ hzq
      clear hzq
      have HT := hid_ (fun p W (hp : p ≤ 10000000) (h : PRk W gr bs p) => table_any gr bs p W HLT.out hp h)
      have HCS := hid_ (cntS_le HLT.out 70 16)
      go_upto_region 15 with (first
        | (show wpList _ _ _ (⟨some 39, _, _, _, _, _⟩ :: _) _ _; refine load_q rfl _ rfl gf (G q6) HQs.out _ _ _ rfl hbf2 ?_; rw [HGQ.out])
        | (go_at_call 36; (with_reducible refine (HZF.out _).mono ?_); rintro e w19 ⟨rfl, hx19⟩; have hq19 := hq70.ext hx19; have hz19 := hz.ext hx19; have hb19 := hbf2.ext hx19; have hy19 := hy.trans hx19; have hl19 := (show gf < w19.heap.size by have := hx19.size; omega); clear hq70 hz hbf2 hy hx19)
        | (show wpList _ _ _ (⟨none, .store _ (.tmp 41) (.tmp 40), _, _, _, _⟩ :: _) _ _; refine store_q rfl _ _ rfl gf (G q6) HQs.out _ _ _ zq hzql.out rfl rfl hb19 ?_; intro w20 hb20 hu20; rw [HGU.out] at hb20; have hq20 := hq19.upd hu20 (fun y hy => by omega); have hz20 := hu20.blk hz19 (by omega); have hy20 := hu20.ext hy19 (fun y hx => by omega); have hl20 := (show gf < w20.heap.size by have := hu20.size; omega); clear hq19 hz19 hb19 hy19 hu20)
        | (go_at_call 37; (with_reducible refine (HT.out 70 _ (by omega) hq20).mono ?_); rintro e w21 ⟨k1, A1, c1, hk1, hs1, rfl, ho1, hq21, hu21⟩; have hb21 := hu21.blk hb20 (by omega); have hz21 := hu21.blk hz20 (by omega); have hy21 := hu21.ext hy20 (fun y hx => by omega); have hl21 := (show gf < w21.heap.size by have := hu21.size; omega); clear hq20 hz20 hb20 hy20 hu21)
        | (show wpList _ _ _ (⟨none, .store _ (.tmp 45) (.tmp 43), _, _, _, _⟩ :: _) _ _; refine store_t1 rfl _ _ rfl gf (G zq) HZs.out _ _ _ (cntL bs 70 16) (symL bs (70 + 32) k1) (cntL_len _ _ _) A1 k1 c1 rfl rfl hb21 ?_; intro w22 hb22 hu22; have hq22 := hq21.upd hu22 (fun y hy => by omega); have hz22 := hu22.blk hz21 (by omega); have hy22 := hu22.ext hy21 (fun y hx => by omega); have hl22 := (show gf < w22.heap.size by have := hu22.size; omega); have ho1' := own_upd ho1 hu22 (fun y hy => by omega); clear hq21 hz21 hb21 hy21 hu22 ho1)
        | (go_at_call 37; (with_reducible refine (HT.out (70 + 32 + k1) _ (by have := HCS.out; omega) hq22).mono ?_); rintro e w23 ⟨k2, A2, c2, hk2, hs2, rfl, ho2, hq23, hu23⟩; have hb23 := hu23.blk hb22 (by omega); have hz23 := hu23.blk hz22 (by omega); have hy23 := hu23.ext hy22 (fun y hx => by omega); have hl23 := (show gf < w23.heap.size by have := hu23.size; omega); have ho1'' := own_upd ho1' hu23 (fun y hy => by omega); clear hq22 hz22 hb22 hy22 hu23 ho1')
        | (show wpList _ _ _ (⟨none, .store _ (.tmp 49) (.tmp 47), _, _, _, _⟩ :: _) _ _; refine store_t2 rfl _ _ rfl gf ({ G zq with cs1 := cntL bs 70 16, xs1 := symL bs (70 + 32) k1 } : FC) ⟨HZs.out.1, cntL_len _ _ _, HZs.out.2.2⟩ _ _ _ (cntL bs (70 + 32 + k1) 16) (symL bs (70 + 32 + k1 + 32) k2) (cntL_len _ _ _) A2 k2 c2 rfl rfl hb23 ?_; intro w24 hb24 hu24; have hq24 := hq23.upd hu24 (fun y hy => by omega); have hz24 := hu24.blk hz23 (by omega); have hy24 := hu24.ext hy23 (fun y hx => by omega); have hl24 := (show gf < w24.heap.size by have := hu24.size; omega); have ho1 := own_upd ho1'' hu24 (fun y hy => by omega); have ho2' := own_upd ho2 hu24 (fun y hy => by omega); clear hq23 hz23 hb23 hy23 hu24 ho1'' ho2))
      have HOE := hid_ (fun W (hb : Blk W g0 45 zf) => hb)
      by_cases hsh : bs.length < 70 + 32 + k1 + 32 + k2
      · have hfl := hq24.flag
        rw [show decide (bs.length < 70 + 32 + k1 + 32 + k2) = true by simpa using hsh] at hfl
        have hP3 : bs.length < p3 bs := by
          unfold p3 p2
          by_cases hk : k1 = cntS bs 70 16
          · rw [← hk]; omega
          · have := hs1 (by omega); omega
        have HEE := HER.out 3 (by unfold parseZ; rw [if_neg (by have := HNL.out; omega), if_pos hP3])
        clear hb24 ho1 ho2' hq24 hs1 hs2 HCS hP3 HER HT
        generalize parseZ bs = pz at *
        go_wp2_with (first
          | (show wpList _ _ _ (⟨some 54, _, _, _, _, _⟩ :: _) _ _; refine wpList_build0_g (by rfl) 45 rfl _ hbf.out ?_)
          | (show wpList _ _ _ (⟨none, .store _ (.tmp 2) (.tmp 54), _, _, _, _⟩ :: _) _ _; refine wpList_store_blk rfl 45 (.tmp 2) (.tmp 54) rfl g0 zf rfl rfl hz24 103 sizeFile hzs.out hzs.out hzo.out ?_; intro w2 hb2 hg2))
        exact ret_cell_tmp rfl rfl g0 rfl hb2 _ Try.underlying45 rfl 103 sizeFile hzs.out (HEE.out _ (hy24.grown hg2 hg0))
      · have hfl := hq24.flag
        rw [show decide (bs.length < 70 + 32 + k1 + 32 + k2) = false by simpa using hsh] at hfl
        obtain rfl : k1 = cntS bs 70 16 := by
          by_cases hk : k1 = cntS bs 70 16
          · exact hk
          · have := hs1 (by omega); omega
        have hsh2 : ¬ bs.length < p2 bs + 32 + k2 := hsh
        have hs2' : k2 < cntS bs (p2 bs) 16 → bs.length < p2 bs + 32 + k2 := hs2
        have hk2' : k2 ≤ cntS bs (p2 bs) 16 := hk2
        obtain rfl : k2 = cntS bs (p2 bs) 16 := by
          by_cases hk : k2 = cntS bs (p2 bs) 16
          · exact hk
          · have := hs2' (by omega); omega
        have hq24' : PRk w24 gr bs (p3 bs) := hq24
        obtain ⟨B4, d4, hc4, hsd4⟩ := hq24'.rest
        have hb24' : Blk w24 gf 45 (FC.cells { parsed bs with data := [] } (.slice A1 (cntS bs 70 16) c1) (.slice A2 (cntS bs (p2 bs) 16) c2) (.slice none 0 0)) := by
          have := hb24
          rw [HG.out] at this
          unfold parsed
          rw [HX.out, HX.out, HX.out, HX.out, HQ6.out, HZQ.out]
          exact this
        have ho2 : w24.ownsRow w22.heap.size 3 1 (.slice A2 (cntS bs (p2 bs) 16) c2) (cntS bs (p2 bs) 16) (ints (symL bs (p2 bs + 32) (cntS bs (p2 bs) 16))) := ho2'
        have hFs := parsed_shaped bs
        have HAT := hid_ (fun W sd (h1 : SL W 1 (.slice A1 (cntS bs 70 16) c1) (cntS bs 70 16) (ints (symL bs (70 + 32) (cntS bs 70 16)))) (h2 : SL W 1 (.slice A2 (cntS bs (p2 bs) 16) c2) (cntS bs (p2 bs) 16) (ints (symL bs (p2 bs + 32) (cntS bs (p2 bs) 16)))) (h3 : SL W 1 sd (bs.drop (p3 bs)).length (bytesV (bs.drop (p3 bs)))) => (show (parsed bs).at_ W (.slice A1 (cntS bs 70 16) c1) (.slice A2 (cntS bs (p2 bs) 16) c2) sd by
          unfold FC.at_ parsed
          dsimp only
          rw [symL_len, symL_len]
          exact ⟨h1, h2, h3⟩))
        have HPK := hid_ (fun W s1 s2 sd (ha : (parsed bs).at_ W s1 s2 sd) => (parsed bs).pack hFs s1 s2 sd W ha)
        have HLL := hid_ ((parsed bs).packL_lt hFs.1 (fun b hb => HLT.out b (List.mem_of_mem_drop hb)))
        have HP0 := hid_ (fun (h1 : (parsed bs).packE = 0) (h2 : (parsed bs).packL = bs) => (show parseZ bs = (parsed bs, 0) by unfold parseZ; rw [if_neg (by have := HNL.out; omega), if_neg (show ¬ bs.length < p3 bs from hsh2), if_pos ⟨h1, h2⟩]))
        have HP4 := hid_ (fun (h : ¬ ((parsed bs).packE = 0 ∧ (parsed bs).packL = bs)) => (show parseZ bs = (FC.zero, 4) by unfold parseZ; rw [if_neg (by have := HNL.out; omega), if_neg (show ¬ bs.length < p3 bs from hsh2), if_neg h]))
        have HSD := hid_ (fun B m d => FC.size (F := { parsed bs with data := [] }) hFs (.slice A1 (cntS bs 70 16) c1) (.slice A2 (cntS bs (p2 bs) 16) c2) (.slice B m d))
        have HSZ := hid_ (fun B m d => FC.size hFs (.slice A1 (cntS bs 70 16) c1) (.slice A2 (cntS bs (p2 bs) 16) c2) (.slice B m d))
        have HON := hid_ (fun B m d => fileOne (parsed bs) A1 A2 B (cntS bs 70 16) c1 (cntS bs (p2 bs) 16) c2 m d)
        have hDL : (bs.drop (p3 bs)).length ≤ 91000 := by rw [List.length_drop]; have := HNL.out; omega
        have HST := hid_ (fun (ops : Array Oper) (rest : List Oper) (o : Oper) (ac : Act) (w : World) (Q : Exit → Act → World → Prop) (hgd : o.guard = none) (x y : Operand) (ho : o.op = .store 38 x y) (A : Option Addr) (n c : Nat) (hx : ac.eval x = .pointer (some ⟨gf, 102, none⟩)) (hy : ac.eval y = .slice A n c) (hB : Blk w gf 45 (FC.cells { parsed bs with data := [] } (.slice A1 (cntS bs 70 16) c1) (.slice A2 (cntS bs (p2 bs) 16) c2) (.slice none 0 0))) (h : ∀ w1, Blk w1 gf 45 (FC.cells (parsed bs) (.slice A1 (cntS bs 70 16) c1) (.slice A2 (cntS bs (p2 bs) 16) c2) (.slice A n c)) → Upd (fun b => b = gf) w w1 → wpList Try.prog ops Q rest (ac.put o.dst undef) w1) => store_d (Q := Q) (rest := rest) (ops := ops) hgd x y ho gf { parsed bs with data := [] } hFs _ _ _ (bs.drop (p3 bs)) A n c hx hy hB h)
        have HSB' := hid_ (fun W (h : Ext w W) => HSB.out.ext h)
        have hl22 : gf < w22.heap.size := by have := ho2.lt; omega
        clear hb24 ho2' hq24 hq24' HT HCS hk1 hs1 hk2 hs2 hs2' hk2' hsh hsh2 HG HGQ HGU HGS HX HN HZF HQs HZs HQ6 HZQ hzql
        obtain ⟨FC3, hFC3⟩ : ∃ C : Array Value, C = FC.cells { parsed bs with data := [] } (.slice A1 (cntS bs 70 16) c1) (.slice A2 (cntS bs (p2 bs) 16) c2) (.slice none 0 0) := ⟨_, rfl⟩
        simp only [← hFC3] at hb24' HST
        generalize parsed bs = PF at *
        clear hFC3
        have HCLN := clone_any B4 (bs.drop (p3 bs)).length d4 (bs.drop (p3 bs)) w24 rfl (Nat.le_trans hDL (by omega)) hsd4
        unfold CloneIs at HCLN
        generalize bs.drop (p3 bs) = RR at *
        generalize RR.length = m at *
        have HCLN' := hid_ HCLN
        clear HCLN hsd4
        go_upto_region 19 with (first
          | (show wpList _ _ _ (⟨some 58, _, _, _, _, _⟩ :: _) _ _; refine wl_read rfl (.slice B4 m d4) (ex_loadS rfl rfl hc4) ?_)
          | (go_at_call 38; (with_reducible refine HCLN'.out.mono ?_); rintro e w25 ⟨B5, d5, rfl, ho5, hx5⟩; have hb25 := hb24'.ext hx5; have hz25 := hz24.ext hx5; have hy25 := hy24.trans hx5; have ho15 := own_keep ho1 hx5; have ho25 := own_keep ho2 hx5)
          | (show wpList _ _ _ (⟨none, .store _ (.tmp 60) (.tmp 59), _, _, _, _⟩ :: _) _ _; refine HST.out _ _ _ _ _ _ rfl _ _ rfl B5 m d5 rfl rfl hb25 ?_; intro w26 hb26 hu26; have hz26 := hu26.blk hz25 (by omega); have hy26 := hu26.ext hy25 (fun y hx => by omega); have ho16 := own_upd ho15 hu26 (fun y hy => by omega); have ho26 := own_upd ho25 hu26 (fun y hy => by omega); have ho56 := own_upd ho5 hu26 (fun y hy => by omega); have hat := HAT.out _ _ (own_out ho16).1 (own_out ho26).1 (own_out ho56).1)
          | (show wpList _ _ _ (⟨some 62, _, _, _, _, _⟩ :: _) _ _; refine wpList_load_blk rfl 45 (.tmp 5) rfl gf rfl hb26 _ Try.underlying45 rfl 103 sizeFile (HSZ.out _ _ _) ?_)
          | (go_at_call 39; (with_reducible refine (HPK.out _ _ _ _ hat).mono ?_); rintro e w27 ⟨C7, d7, rfl, hs7, hx7⟩; have hb27 := hb26.ext hx7; have hz27 := hz26.ext hx7; have hy27 := hy26.trans hx7; have hat7 := hat.ext hx7))
        have HEQ := hid_ (bytesEqual_any (.slice C7 PF.packL.length d7) (.slice A n c) PF.packL bs w27 HLL.out HLT.out hs7 (by rw [HNL.out]; exact HSB'.out w27 hy27))
        have HEF := hid_ (fun (E : Int) (h : parseZ bs = (FC.zero, E)) W (hx : Ext w W) => (HER.out E h).out W hx)
        have HON' := hid_ (HON.out B5 m d5)
        have HSZ' := hid_ (HSZ.out B5 m d5)
        have hzl27 := hz27
        obtain ⟨FV, hFV⟩ : ∃ C : Array Value, C = FC.cells PF (.slice A1 (cntS bs 70 16) c1) (.slice A2 (cntS bs (p2 bs) 16) c2) (.slice B5 m d5) := ⟨_, rfl⟩
        have HFV := hid_ hFV
        rw [← hFV] at hb27
        rw [← hFV] at HON' HSZ'
        clear hFV HER HPK HON HSZ HST hb26 hb25 hz25 hz26 ho15 ho25 ho5 hat hs7 hb24' HCLN' HSD hz24 ho1 ho2
        generalize PF.packL = L at *
        by_cases hE : PF.packE = 0
        · by_cases hLb : L = bs
          · rw [decide_eq_true hLb] at HEQ
            have HZ := hid_ (HP0.out hE hLb)
            generalize parseZ bs = pz at *
            rw [hE]
            generalize L.length = ll at *
            clear HP0 HP4 HEF HLL hLb
            go_wp2_with (first
              | (go_at_call 40; (with_reducible refine HEQ.out.mono ?_); rintro e w28 ⟨rfl, hx28⟩; have hb28 := hb27.ext hx28; have hz28 := hz27.ext hx28; have hy28 := hy27.trans hx28; have hat8 := hat7.ext hx28)
              | (show wpList _ _ _ (⟨some 75, _, _, _, _, _⟩ :: _) _ _; refine wpList_load_blk rfl 45 (.tmp 5) rfl gf rfl hb28 _ Try.underlying45 rfl 103 sizeFile HSZ'.out ?_)
              | (show wpList _ _ _ (⟨none, .store _ (.tmp 2) (.tmp 75), _, _, _, _⟩ :: _) _ _; refine wpList_store_blk rfl 45 (.tmp 2) (.tmp 75) rfl g0 FV rfl rfl hz28 103 sizeFile HSZ'.out hzs.out HON'.out ?_; intro w29 hb29 hg29))
            have hy29 := hy28.grown hg29 hg0
            have a1 := own_upd (own_keep (own_keep ho16 hx7) hx28) (upd_grown hg29) (fun x hx => by injection hx with hx; omega)
            have a2 := own_upd (own_keep (own_keep ho26 hx7) hx28) (upd_grown hg29) (fun x hx => by injection hx with hx; omega)
            have a3 := own_upd (own_keep (own_keep ho56 hx7) hx28) (upd_grown hg29) (fun x hx => by injection hx with hx; omega)
            exact ret_cell_tmp rfl rfl g0 rfl hb29 _ Try.underlying45 rfl 103 sizeFile HSZ'.out (by
              rw [HZ.out]
              exact ⟨_, _, _, by rw [HFV.out]; rfl, HAT.out _ _ (own_out a1).1 (own_out a2).1 (own_out a3).1, hy29⟩)
          · rw [decide_eq_false hLb] at HEQ
            have HEE := hid_ (HEF.out 4 (HP4.out (fun h => hLb h.2)))
            generalize parseZ bs = pz at *
            rw [hE]
            generalize L.length = ll at *
            clear HP0 HP4 HEF HLL hLb
            go_wp2_with (first
              | (go_at_call 40; (with_reducible refine HEQ.out.mono ?_); rintro e w28 ⟨rfl, hx28⟩; have hz28 := hz27.ext hx28; have hy28 := hy27.trans hx28)
              | (show wpList _ _ _ (⟨some 74, _, _, _, _, _⟩ :: _) _ _; refine wpList_build0_g (by rfl) 45 rfl _ hbf.out ?_)
              | (show wpList _ _ _ (⟨none, .store _ (.tmp 2) (.tmp 74), _, _, _, _⟩ :: _) _ _; refine wpList_store_blk rfl 45 (.tmp 2) (.tmp 74) rfl g0 zf rfl rfl hz28 103 sizeFile hzs.out hzs.out hzo.out ?_; intro w29 hb29 hg29))
            exact ret_cell_tmp rfl rfl g0 rfl hb29 _ Try.underlying45 rfl 103 sizeFile hzs.out (HEE.out _ (hy28.grown hg29 hg0))
        · have HEE := hid_ (HEF.out 4 (HP4.out (fun h => hE h.1)))
          generalize parseZ bs = pz at *
          generalize PF.packE = E at *
          generalize L.length = ll at *
          clear HP0 HP4 HEF HLL HEQ
          go_wp2_with (first
            | (show wpList _ _ _ (⟨some 67, _, _, _, _, _⟩ :: _) _ _; refine wl_run rfl (.bool true) (ex_neqT rfl rfl rfl hE) ?_)
            | (show wpList _ _ _ (⟨some 74, _, _, _, _, _⟩ :: _) _ _; refine wpList_build0_g (by rfl) 45 rfl _ hbf.out ?_)
            | (show wpList _ _ _ (⟨none, .store _ (.tmp 2) (.tmp 74), _, _, _, _⟩ :: _) _ _; refine wpList_store_blk rfl 45 (.tmp 2) (.tmp 74) rfl g0 zf rfl rfl hz27 103 sizeFile hzs.out hzs.out hzo.out ?_; intro w29 hb29 hg29))
          exact ret_cell_tmp rfl rfl g0 rfl hb29 _ Try.underlying45 rfl 103 sizeFile hzs.out (HEE.out _ (hy27.grown hg29 hg0))
end Go.Proofs.Ytkfdkkhhkciocaa
