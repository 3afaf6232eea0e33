/- Contracts for the law DeskRunsCard, part 11: what the functions that it reaches answer, for all arguments that the theorems name. -/
import Derived.Test.YtlhggcbpipmjhaaGreatDoorMDeskRunsCard9
import Derived.Test.YtlhggcbpipmjhaaGreatDoorMDeskRunsCard10
import Derived.Test.YtlhggcbpipmjhaaGreatDoorMDeskRunsCard6
import Derived.Test.YtlhggcbpipmjhaaGreatDoorMDeskRunsCard7
import Derived.Test.YtlhggcbpipmjhaaGreatDoorMDeskRunsCard4
import Derived.Test.YtlhggcbpipmjhaaGreatDoorMDeskRunsCard8
import Derived.Great.Walk
import Derived.BigQuiet
namespace Go.Proofs.YtlhggcbpipmjhaaGreatDoor
set_option linter.unusedVariables false
set_option linter.unusedSimpArgs false
open Go.RowKit
theorem range_mid {w : World} {g : Nat} {T : TypeId} {a m b : List Value} (h : Blk w g T (a ++ (m ++ b)).toArray) : w.rangeAt g a.length m := by
 intro j v hv
 rw [h.cell, List.getElem?_toArray, List.getElem?_append_right (by omega), Nat.add_sub_cancel_left, List.getElem?_append_left (List.getElem?_eq_some_iff.1 hv).1]
 exact hv
theorem ex_nilP {P : Program} {o : Oper} {a : Act} {x : Operand} (ho : o.op = .nilCheck x) {p : Addr} (hx : a.eval x = .pointer (some p)) (w : World) : (execOp a.eval o).run P w = .ok (.value (.pointer (some p))) w := by
 simp [execOp, ho, hx]
def Desk (w : World) (g : Nat) (b q : List Int) : Prop := Blk w g 32 (bv (b ++ q))
def ActIs (z : Ans) (g : Nat) (w : World) (e : Ending) (w' : World) : Prop :=
 ∃ s : List UInt8, e = .returned (.tuple #[.string ⟨s.toArray⟩, .int .i64 z.e]) ∧ (z.e = 0 → s = z.s) ∧ Desk w' g z.b z.q ∧ Upd (fun x => x = g) w w'
theorem Desk.lt {w : World} {g : Nat} {b q : List Int} (h : Desk w g b q) : g < w.heap.size := Blk.lt h
theorem Desk.ext {w w' : World} {g : Nat} {b q : List Int} (h : Desk w g b q) (hx : Ext w w') : Desk w' g b q := Blk.ext h hx
theorem Desk.block {w : World} {g : Nat} {b q : List Int} (h : Desk w g b q) : w.rangeAt g 0 (ints b) := by
 refine range_mid (a := []) (m := ints b) (b := ints q) (T := 32) ?_
 unfold Desk bv at h
 simpa [ints] using h
theorem Desk.coarse {w : World} {g : Nat} {b q : List Int} (h : Desk w g b q) (hb : b.length = 64) : w.rangeAt g 64 (ints q) := by
 have := range_mid (w := w) (g := g) (a := ints b) (m := ints q) (b := []) (T := 32) (by unfold Desk bv at h; simpa [ints] using h)
 rwa [ints_len, hb] at this
theorem Desk.set {w : World} {g : Nat} {b q : List Int} (h : Desk w g b q) (i : Nat) (hi : i < b.length) (z : Int) : Desk (w.setCell ⟨g, i, none⟩ (.int .i64 z)) g (b.set i z) q := by
 have h1 := Blk.set_ h i (.int .i64 z)
 have e : (bv (b ++ q)).setIfInBounds i (.int .i64 z) = bv (b.set i z ++ q) := by
  unfold bv ints
  rw [List.setIfInBounds_toArray, ← List.map_set, List.set_append_left _ _ hi]
 rwa [e] at h1
theorem noAct {e : Int} {g : Nat} {b q : List Int} {w w' : World} (he : e ≠ 0) (h : Desk w g b q) (hx : Ext w w') : ActIs (noZ e b q) g w (.returned (.tuple #[.string ⟨#[]⟩, .int .i64 e])) w' :=
 ⟨[], rfl, fun h0 => absurd h0 he, h.ext hx, Upd.of_ext hx⟩
theorem okAct {s : List UInt8} {g : Nat} {b q : List Int} {w w' : World} (h : Desk w' g b q) (hu : Upd (fun x => x = g) w w') : ActIs ⟨0, s, b, q⟩ g w (.returned (.tuple #[.string ⟨s.toArray⟩, .int .i64 0])) w' :=
 ⟨s, rfl, fun _ => rfl, h, hu⟩
theorem saidAct {z : Ans} {s : List UInt8} {g : Nat} {w w' : World} {e : Int} (he : z.e = e) (hs : z.e = 0 → s = z.s) (h : Desk w g z.b z.q) (hx : Ext w w') : ActIs z g w (.returned (.tuple #[.string ⟨s.toArray⟩, .int .i64 e])) w' := by
 subst he
 exact ⟨s, rfl, hs, h.ext hx, Upd.of_ext hx⟩
theorem sl_two {w : World} {v : Value} {n : List Int} (hn : n.length = 2) (hv : SL w 1 v n.length (ints n)) : ∃ ad c, v = .slice (some ad) 2 c ∧ 2 ≤ c ∧ c ≤ 9223372036854775807 ∧ ad.block < w.heap.size ∧ w.cell? (ad.add (0 * 1)) = some (.int .i64 (n.getD 0 0)) ∧ w.cell? (ad.add (1 * 1)) = some (.int .i64 (n.getD 1 0)) := by
 match n, hn with
 | [x, y], _ =>
   obtain ⟨A, c, rfl, h1, h2, -, -⟩ := id hv
   obtain ⟨ad, u, e, hlt, hu, hc⟩ := hv.at1 (k := 0) (by simp)
   obtain ⟨ad', u', e', -, hu', hc'⟩ := hv.at1 (k := 1) (by simp)
   subst e
   injection e' with e'
   subst e'
   obtain ⟨_, rfl⟩ := ints_at _ _ _ hu
   obtain ⟨_, rfl⟩ := ints_at _ _ _ hu'
   exact ⟨ad, c, rfl, h1, h2, hlt, hc, hc'⟩
set_option maxHeartbeats 1000000 in
theorem set_any (g : Nat) (b q n : List Int) (v : Value) (w : World) (hb : b.length = 64) (hq : q.length = 64) (hD : Desk w g b q) (hn : n.length = 2) (hv : SL w 1 v n.length (ints n)) :
 Calls Tryz.prog 32 #[.pointer (some ⟨g, 0, none⟩), v] w (ActIs (setZ b q n) g w) := by
 obtain ⟨ad, c, rfl, hc1, hc2, hlt, h0, h1⟩ := sl_two hn hv
 unfold setZ
 generalize n.getD 0 0 = x at *
 generalize n.getD 1 0 = y at *
 clear hn hv
 have H0 := hid_ (fun W (hx : Ext w W) => (hx.cell (p := ad.add (0 * 1)) hlt).trans h0)
 have H1 := hid_ (fun W (hx : Ext w W) => (hx.cell (p := ad.add (1 * 1)) hlt).trans h1)
 clear h0 h1
 by_cases hx0 : x < 0
 ·have HX : Hid (decide (x < 0) = true) := hid_ (by simpa using hx0)
  rw [if_neg (by rw [inB_iff]; omega)]
  clear hx0
  go_enter Tryz.func32, Tryz.ntmps32
  go_wp2_with (first
   | ((with_reducible apply gS 8); refine wl_run_g (by rfl) (.pointer (some (ad.add (0 * 1)))) (ex_ixSl Tryz.underlying47 sizeI rfl (i := 0) rfl rfl (by omega)) ?_)
   | ((with_reducible apply gS 9); refine wl_read_g (by rfl) (.int .i64 x) (ex_loadI rfl rfl (H0.out w (Ext.refl w))) ?_)
   | ((with_reducible apply gS 10); refine wl_run_g (by rfl) (.bool true) (ex_lss rfl rfl rfl HX.out) ?_))
  go_ret2
  exact noAct (by omega) hD (Ext.refl w)
 ·have HX : Hid (decide (x < 0) = false) := hid_ (by simpa using hx0)
  by_cases hx1 : 63 < x
  ·have HX1 : Hid (decide (63 < x) = true) := hid_ (by simpa using hx1)
   rw [if_neg (by rw [inB_iff]; omega)]
   clear hx0 hx1
   go_enter Tryz.func32, Tryz.ntmps32
   go_wp2_with (first
    | ((with_reducible apply gS 8); refine wl_run_g (by rfl) (.pointer (some (ad.add (0 * 1)))) (ex_ixSl Tryz.underlying47 sizeI rfl (i := 0) rfl rfl (by omega)) ?_)
    | ((with_reducible apply gS 13); refine wl_run_g (by rfl) (.pointer (some (ad.add (0 * 1)))) (ex_ixSl Tryz.underlying47 sizeI rfl (i := 0) rfl rfl (by omega)) ?_)
    | ((with_reducible apply gS 9); refine wl_read_g (by rfl) (.int .i64 x) (ex_loadI rfl rfl (H0.out w (Ext.refl w))) ?_)
    | ((with_reducible apply gS 14); refine wl_read_g (by rfl) (.int .i64 x) (ex_loadI rfl rfl (H0.out w (Ext.refl w))) ?_)
    | ((with_reducible apply gS 10); refine wl_run_g (by rfl) (.bool false) (ex_lss rfl rfl rfl HX.out) ?_)
    | ((with_reducible apply gS 15); refine wl_run_g (by rfl) (.bool true) (ex_gtr rfl rfl rfl HX1.out) ?_))
   go_ret2
   exact noAct (by omega) hD (Ext.refl w)
  ·have HX1 : Hid (decide (63 < x) = false) := hid_ (by simpa using hx1)
   rw [if_pos (by rw [inB_iff]; omega)]
   by_cases hy0 : y < -40000
   ·have HY : Hid (decide (y < -40000) = true) := hid_ (by simpa using hy0)
    rw [if_neg (by rw [inB_iff]; omega)]
    clear hx0 hx1 hy0
    go_enter Tryz.func32, Tryz.ntmps32
    go_wp2_with (first
     | ((with_reducible apply gS 8); refine wl_run_g (by rfl) (.pointer (some (ad.add (0 * 1)))) (ex_ixSl Tryz.underlying47 sizeI rfl (i := 0) rfl rfl (by omega)) ?_)
     | ((with_reducible apply gS 13); refine wl_run_g (by rfl) (.pointer (some (ad.add (0 * 1)))) (ex_ixSl Tryz.underlying47 sizeI rfl (i := 0) rfl rfl (by omega)) ?_)
     | ((with_reducible apply gS 9); refine wl_read_g (by rfl) (.int .i64 x) (ex_loadI rfl rfl (H0.out w (Ext.refl w))) ?_)
     | ((with_reducible apply gS 14); refine wl_read_g (by rfl) (.int .i64 x) (ex_loadI rfl rfl (H0.out w (Ext.refl w))) ?_)
     | ((with_reducible apply gS 10); refine wl_run_g (by rfl) (.bool false) (ex_lss rfl rfl rfl HX.out) ?_)
     | ((with_reducible apply gS 15); refine wl_run_g (by rfl) (.bool false) (ex_gtr rfl rfl rfl HX1.out) ?_)
     | ((with_reducible apply gS 19); refine wl_run_g (by rfl) (.pointer (some (ad.add (1 * 1)))) (ex_ixSl Tryz.underlying47 sizeI rfl (i := 1) rfl rfl (by omega)) ?_)
     | ((with_reducible apply gS 20); refine wl_read_g (by rfl) (.int .i64 y) (ex_loadI rfl rfl (H1.out w (Ext.refl w))) ?_)
     | ((with_reducible apply gS 21); refine wl_run_g (by rfl) (.bool true) (ex_lss rfl rfl rfl HY.out) ?_))
    go_ret2
    exact noAct (by omega) hD (Ext.refl w)
   ·have HY : Hid (decide (y < -40000) = false) := hid_ (by simpa using hy0)
    by_cases hy1 : 40000 < y
    ·have HY1 : Hid (decide (40000 < y) = true) := hid_ (by simpa using hy1)
     rw [if_neg (by rw [inB_iff]; omega)]
     clear hx0 hx1 hy0 hy1
     go_enter Tryz.func32, Tryz.ntmps32
     go_wp2_with (first
      | ((with_reducible apply gS 8); refine wl_run_g (by rfl) (.pointer (some (ad.add (0 * 1)))) (ex_ixSl Tryz.underlying47 sizeI rfl (i := 0) rfl rfl (by omega)) ?_)
      | ((with_reducible apply gS 13); refine wl_run_g (by rfl) (.pointer (some (ad.add (0 * 1)))) (ex_ixSl Tryz.underlying47 sizeI rfl (i := 0) rfl rfl (by omega)) ?_)
      | ((with_reducible apply gS 9); refine wl_read_g (by rfl) (.int .i64 x) (ex_loadI rfl rfl (H0.out w (Ext.refl w))) ?_)
      | ((with_reducible apply gS 14); refine wl_read_g (by rfl) (.int .i64 x) (ex_loadI rfl rfl (H0.out w (Ext.refl w))) ?_)
      | ((with_reducible apply gS 10); refine wl_run_g (by rfl) (.bool false) (ex_lss rfl rfl rfl HX.out) ?_)
      | ((with_reducible apply gS 15); refine wl_run_g (by rfl) (.bool false) (ex_gtr rfl rfl rfl HX1.out) ?_)
      | ((with_reducible apply gS 19); refine wl_run_g (by rfl) (.pointer (some (ad.add (1 * 1)))) (ex_ixSl Tryz.underlying47 sizeI rfl (i := 1) rfl rfl (by omega)) ?_)
      | ((with_reducible apply gS 24); refine wl_run_g (by rfl) (.pointer (some (ad.add (1 * 1)))) (ex_ixSl Tryz.underlying47 sizeI rfl (i := 1) rfl rfl (by omega)) ?_)
      | ((with_reducible apply gS 20); refine wl_read_g (by rfl) (.int .i64 y) (ex_loadI rfl rfl (H1.out w (Ext.refl w))) ?_)
      | ((with_reducible apply gS 25); refine wl_read_g (by rfl) (.int .i64 y) (ex_loadI rfl rfl (H1.out w (Ext.refl w))) ?_)
      | ((with_reducible apply gS 21); refine wl_run_g (by rfl) (.bool false) (ex_lss rfl rfl rfl HY.out) ?_)
      | ((with_reducible apply gS 26); refine wl_run_g (by rfl) (.bool true) (ex_gtr rfl rfl rfl HY1.out) ?_))
     go_ret2
     exact noAct (by omega) hD (Ext.refl w)
    ·have HY1 : Hid (decide (40000 < y) = false) := hid_ (by simpa using hy1)
     rw [if_pos (by rw [inB_iff]; omega)]
     obtain ⟨i, rfl, hi⟩ : ∃ i : Nat, x = (i : Int) ∧ i < 64 := ⟨x.toNat, by omega, by omega⟩
     clear hx0 hx1 hy0 hy1
     rw [Int.toNat_natCast]
     go_enter Tryz.func32, Tryz.ntmps32
     go_upto_region 5 with (first
      | ((with_reducible apply gS 8); refine wl_run_g (by rfl) (.pointer (some (ad.add (0 * 1)))) (ex_ixSl Tryz.underlying47 sizeI rfl (i := 0) rfl rfl (by omega)) ?_)
      | ((with_reducible apply gS 13); refine wl_run_g (by rfl) (.pointer (some (ad.add (0 * 1)))) (ex_ixSl Tryz.underlying47 sizeI rfl (i := 0) rfl rfl (by omega)) ?_)
      | ((with_reducible apply gS 9); refine wl_read_g (by rfl) (.int .i64 (i : Int)) (ex_loadI rfl rfl (H0.out w (Ext.refl w))) ?_)
      | ((with_reducible apply gS 14); refine wl_read_g (by rfl) (.int .i64 (i : Int)) (ex_loadI rfl rfl (H0.out w (Ext.refl w))) ?_)
      | ((with_reducible apply gS 10); refine wl_run_g (by rfl) (.bool false) (ex_lss rfl rfl rfl HX.out) ?_)
      | ((with_reducible apply gS 15); refine wl_run_g (by rfl) (.bool false) (ex_gtr rfl rfl rfl HX1.out) ?_)
      | ((with_reducible apply gS 19); refine wl_run_g (by rfl) (.pointer (some (ad.add (1 * 1)))) (ex_ixSl Tryz.underlying47 sizeI rfl (i := 1) rfl rfl (by omega)) ?_)
      | ((with_reducible apply gS 24); refine wl_run_g (by rfl) (.pointer (some (ad.add (1 * 1)))) (ex_ixSl Tryz.underlying47 sizeI rfl (i := 1) rfl rfl (by omega)) ?_)
      | ((with_reducible apply gS 20); refine wl_read_g (by rfl) (.int .i64 y) (ex_loadI rfl rfl (H1.out w (Ext.refl w))) ?_)
      | ((with_reducible apply gS 25); refine wl_read_g (by rfl) (.int .i64 y) (ex_loadI rfl rfl (H1.out w (Ext.refl w))) ?_)
      | ((with_reducible apply gS 21); refine wl_run_g (by rfl) (.bool false) (ex_lss rfl rfl rfl HY.out) ?_)
      | ((with_reducible apply gS 26); refine wl_run_g (by rfl) (.bool false) (ex_gtr rfl rfl rfl HY1.out) ?_))
     have hx7 := (Ext.refl w).drew
     refine wp_region_lxt later_ext 10 (by kernel_rfl) (by kernel_rfl) ?_
     simp only [List.take, List.drop]
     refine lx_run (by rfl) (.pointer (some ⟨g, 0, none⟩)) (ex_move rfl rfl) ?_
     simp only [Act.put, sA, sB, sC]
     refine lx_run (by rfl) (.slice (some ad) 2 c) (ex_move rfl rfl) ?_
     simp only [Act.put, sA, sB, sC]
     refine lx_run (by rfl) (.pointer (some (ad.add (0 * 1)))) (ex_ixSl Tryz.underlying47 sizeI rfl (i := 0) rfl rfl (by omega)) ?_
     simp only [Act.put, sA, sB, sC]
     refine lx_read (by rfl) (.int .i64 (i : Int)) (fun W hW => ex_loadI rfl rfl (H0.out W (hx7.trans hW))) ?_
     simp only [Act.put, sA, sB, sC]
     refine lx_run (by rfl) (.slice (some ad) 2 c) (ex_move rfl rfl) ?_
     simp only [Act.put, sA, sB, sC]
     refine lx_run (by rfl) (.pointer (some (ad.add (1 * 1)))) (ex_ixSl Tryz.underlying47 sizeI rfl (i := 1) rfl rfl (by omega)) ?_
     simp only [Act.put, sA, sB, sC]
     refine lx_read (by rfl) (.int .i64 y) (fun W hW => ex_loadI rfl rfl (H1.out W (hx7.trans hW))) ?_
     simp only [Act.put, sA, sB, sC]
     refine lx_run (by rfl) (.pointer (some ⟨g, 0, none⟩)) (ex_nilP rfl rfl) ?_
     simp only [Act.put, sA, sB, sC]
     refine lx_run (by rfl) (.pointer (some ⟨g, 0, none⟩)) (fun W => by go_simp) ?_
     simp only [Act.put, sA, sB, sC]
     refine lx_run (by rfl) (.pointer (some ⟨g, i, none⟩)) (ex_ixArr0 Tryz.underlying30 sizeI rfl (i := i) rfl rfl hi) ?_
     simp only [Act.put, sA, sB, sC]
     refine lx_nil ?_
     intro W hW
     have hx8 := hx7.trans hW
     have hd8 := hD.ext hx8
     refine wl_storeI rfl (.tmp 37) (.tmp 34) rfl g i y rfl rfl hd8 (by rw [bv_size]; simp; omega) ?_
     simp only [Act.put, sA, sB, sC]
     have hd9 := hd8.set i (by omega) y
     have hu9 : Upd (fun x => x = g) w (W.setCell ⟨g, i, none⟩ (.int .i64 y)) := Upd.setCell (S := fun x => x = g) (Upd.of_ext hx8) (p := ⟨g, i, none⟩) rfl (.int .i64 y)
     generalize W.setCell ⟨g, i, none⟩ (.int .i64 y) = W9 at *
     go_wp2_with fail
     go_ret2
     exact okAct hd9 hu9
theorem Desk.eight {w : World} {g : Nat} {b q : List Int} (h : Desk w g b q) (hb : b.length = 64) : SL w 1 (.slice (some ⟨g, 0, none⟩) 8 64) 8 (ints (b.take 8)) := by
 refine ⟨_, _, rfl, by omega, by omega, by simp [ints, hb], fun _ => ⟨_, rfl, h.lt, fun j u hu => ?_⟩⟩
 have hr := h.block
 have hj : j < 8 := by
  have := (List.getElem?_eq_some_iff.1 hu).1
  simp [ints, hb] at this
  omega
 have e : (⟨g, 0, none⟩ : Addr).add j = ⟨g, j, none⟩ := by
  unfold Addr.add
  by_cases hj : j = 0
  ·subst hj; rfl
  ·rw [if_neg hj]; simp
 rw [e]
 have := hr j u (by
  rw [← hu]
  unfold ints
  rw [List.getElem?_map, List.getElem?_map, List.getElem?_take_of_lt hj])
 simpa using this
set_option maxHeartbeats 1000000 in
theorem show_any (g : Nat) (b q : List Int) (v : Value) (w : World) (hS : StOk b q) (hD : Desk w g b q) (htab : ∀ W, Ext w W → Lib.TabIs Tryz.prog W "internal/strconv.uint64pow10" .u64 Lib.pow10Tab) :
 Calls Tryz.prog 34 #[.pointer (some ⟨g, 0, none⟩), v] w (ActIs (showZ b q) g w) := by
 have h8 := hD.eight hS.1
 have hl : (b.take 8).length = 8 := by rw [List.length_take, hS.1]; rfl
 have HT := hid_ (told_any (.slice (some ⟨g, 0, none⟩) 8 64) (b.take 8) (by omega) (fun z hz => by have := hS.2.2 z (List.mem_of_mem_take hz); omega) w (by rw [hl]; exact h8) htab)
 rw [if_neg (by intro h; rw [h] at hl; cases hl)] at HT
 unfold showZ
 generalize toldZ (b.take 8) = T at *
 clear hl h8
 go_enter Tryz.func34, Tryz.ntmps34
 go_wp2_with (go_at_call 65; (with_reducible refine HT.out.mono ?_); rintro e w2 ⟨rfl, hx2⟩)
 go_ret2
 exact okAct (hD.ext hx2) (Upd.of_ext hx2)
def coK (x : Int) (k : Nat) : List Int := List.replicate k x ++ List.replicate (64 - k) 0
theorem coK_len (x : Int) (k : Nat) (h : k ≤ 64) : (coK x k).length = 64 := by simp [coK]; omega
theorem coK_set (x : Int) (k : Nat) (h : k < 64) : (coK x k).set k x = coK x (k + 1) := by
 unfold coK
 rw [List.set_append_right _ _ (by simp), List.length_replicate, Nat.sub_self, show 64 - k = (64 - (k + 1)) + 1 by omega, List.replicate_succ, List.set_cons_zero, List.replicate_succ', List.append_assoc]
 rfl
theorem coK_all (x : Int) : coK x 64 = List.replicate 64 x := by simp [coK]
theorem coK_zero (x : Int) : coK x 0 = zeros64 := by simp [coK, zeros64]
theorem all_rep (x : Int) : allIn (List.replicate 64 x) 1 255 = inB x 1 255 := by
 rw [Bool.eq_iff_iff, allIn_iff, inB_iff]
 constructor
 ·intro h; exact h x (by simp)
 ·intro h z hz; rw [List.eq_of_mem_replicate hz]; exact h
theorem sl_one {w : World} {v : Value} {n : List Int} (hn : n.length = 1) (hv : SL w 1 v n.length (ints n)) : ∃ ad c, v = .slice (some ad) 1 c ∧ 1 ≤ c ∧ c ≤ 9223372036854775807 ∧ ad.block < w.heap.size ∧ w.cell? (ad.add (0 * 1)) = some (.int .i64 (n.getD 0 0)) := by
 match n, hn with
 | [x], _ =>
   obtain ⟨A, c, rfl, h1, h2, -, -⟩ := id hv
   obtain ⟨ad, u, e, hlt, hu, hc⟩ := hv.at1 (k := 0) (by simp)
   subst e
   obtain ⟨_, rfl⟩ := ints_at _ _ _ hu
   exact ⟨ad, c, rfl, h1, h2, hlt, hc⟩
set_option maxHeartbeats 1000000 in
theorem coarse_any (g : Nat) (b q n : List Int) (v : Value) (w : World) (hb : b.length = 64) (hq : q.length = 64) (hD : Desk w g b q) (hn : n.length = 1) (hv : SL w 1 v n.length (ints n)) :
 Calls Tryz.prog 33 #[.pointer (some ⟨g, 0, none⟩), v] w (ActIs (coarseZ b q n) g w) := by
 obtain ⟨ad, c, rfl, hc1, hc2, hlt, h0⟩ := sl_one hn hv
 unfold coarseZ
 generalize n.getD 0 0 = x at *
 clear hn hv
 have H0 := hid_ (fun W (hx : Ext w W) => (hx.cell (p := ad.add (0 * 1)) hlt).trans h0)
 clear h0
 have HQ := hid_ (fun W => qcheck_any (List.replicate 64 x) W (by simp))
 rw [all_rep] at HQ
 have HB := hid_ hb
 have HQL := hid_ hq
 have HR := hid_ ((bv_size (List.replicate 64 x)).trans (show (List.replicate 64 x).length = 64 by simp))
 have HSZ := hid_ (fun k (h : k ≤ 64) => (bv_size (coK x k)).trans (coK_len x k h))
 clear hb hq
 have HQA := hid_ (coK_all x)
 have HQN : Hid ((List.replicate 64 x).length = 64) := hid_ (by simp)
 generalize List.replicate 64 x = Q at *
 cases hin : inB x 1 255 with
 | false =>
   rw [hin] at HQ
   simp only [Bool.false_eq_true, if_false] at HQ ⊢
   clear hin
   go_enter Tryz.func33, Tryz.ntmps33
   go_wp2_with (refine wpList_alloc_abs rfl 30 rfl _ zero48 ?_; intro w1 gz hbz hx1 hgz)
   rw [← coK_zero x] at hbz
   go_loopw [9] (fun iv wr => ∃ k : Nat, k ≤ 64 ∧ iv = .int .i64 (k : Int) ∧ Blk wr gz 30 (bv (coK x k)) ∧ Ext w wr) (fun iv _ => 64 - (intOf iv).toNat)
   case atStart => exact ⟨0, by omega, rfl, hbz, hx1⟩
   case round =>
    obtain ⟨k, hk, rfl, hbk, hx⟩ := hrel
    by_cases hlt : k < 64
    ·go_wp2_with (first
      | ((with_reducible apply gS 14); refine wl_run rfl (.pointer (some (ad.add (0 * 1)))) (ex_ixSl Tryz.underlying47 sizeI rfl (i := 0) rfl rfl (by omega)) ?_)
      | ((with_reducible apply gS 15); refine wl_read rfl (.int .i64 x) (ex_loadI rfl rfl (H0.out _ hx)) ?_)
      | ((with_reducible apply gT 16 15); refine wl_storeI rfl (.tmp 16) (.tmp 15) rfl gz k x rfl rfl hbk (by rw [HSZ.out k hk]; exact hlt) ?_))
     have hb9 := hbk.set_ k (.int .i64 x)
     rw [bv_set, coK_set x k hlt] at hb9
     have hx9 := hx.setCell (p := ⟨gz, k, none⟩) hgz (.int .i64 x)
     generalize wr.setCell ⟨gz, k, none⟩ (.int .i64 x) = W9 at *
     go_wp2_with fail
     go_roundw
     case rel => exact ⟨k + 1, by omega, by go_num, hb9, hx9⟩
     case measure => simp [intOf]; omega
    ·have ek : k = 64 := by omega
     subst ek
     rw [HQA.out] at hbk
     go_wp2_with (first
      | ((with_reducible apply gS 18); refine wLdB rfl 30 (.tmp 6) rfl _ rfl hbk _ Tryz.underlying30 rfl 64 size48 HR.out ?_)
      | (go_at_call 64; (with_reducible refine (HQ.out _).mono ?_); rintro e w2 ⟨rfl, hx2⟩))
     go_ret2
     exact noAct (by omega) hD (hx.trans hx2)
 | true =>
   rw [hin] at HQ
   simp only [if_true] at HQ ⊢
   clear hin
   go_enter Tryz.func33, Tryz.ntmps33
   go_wp2_with (refine wpList_alloc_abs rfl 30 rfl _ zero48 ?_; intro w1 gz hbz hx1 hgz)
   rw [← coK_zero x] at hbz
   go_loopw [9] (fun iv wr => ∃ k : Nat, k ≤ 64 ∧ iv = .int .i64 (k : Int) ∧ Blk wr gz 30 (bv (coK x k)) ∧ Ext w wr) (fun iv _ => 64 - (intOf iv).toNat)
   case atStart => exact ⟨0, by omega, rfl, hbz, hx1⟩
   case round =>
    obtain ⟨k, hk, rfl, hbk, hx⟩ := hrel
    by_cases hlt : k < 64
    ·go_wp2_with (first
      | ((with_reducible apply gS 14); refine wl_run rfl (.pointer (some (ad.add (0 * 1)))) (ex_ixSl Tryz.underlying47 sizeI rfl (i := 0) rfl rfl (by omega)) ?_)
      | ((with_reducible apply gS 15); refine wl_read rfl (.int .i64 x) (ex_loadI rfl rfl (H0.out _ hx)) ?_)
      | ((with_reducible apply gT 16 15); refine wl_storeI rfl (.tmp 16) (.tmp 15) rfl gz k x rfl rfl hbk (by rw [HSZ.out k hk]; exact hlt) ?_))
     have hb9 := hbk.set_ k (.int .i64 x)
     rw [bv_set, coK_set x k hlt] at hb9
     have hx9 := hx.setCell (p := ⟨gz, k, none⟩) hgz (.int .i64 x)
     generalize wr.setCell ⟨gz, k, none⟩ (.int .i64 x) = W9 at *
     go_wp2_with fail
     go_roundw
     case rel => exact ⟨k + 1, by omega, by go_num, hb9, hx9⟩
     case measure => simp [intOf]; omega
    ·have ek : k = 64 := by omega
     subst ek
     rw [HQA.out] at hbk
     have HBK := hid_ (fun W (h : Ext wr W) => hbk.ext h)
     go_wp2_with (first
      | ((with_reducible apply gS 18); refine wLdB rfl 30 (.tmp 6) rfl _ rfl hbk _ Tryz.underlying30 rfl 64 size48 HR.out ?_)
      | (go_at_call 64; (with_reducible refine (HQ.out _).mono ?_); rintro e w2 ⟨rfl, hx2⟩)
      | ((with_reducible apply gS 24); refine wLdB rfl 30 (.tmp 6) rfl _ rfl (HBK.out _ hx2) _ Tryz.underlying30 rfl 64 size48 HR.out ?_)
      | ((with_reducible apply gT 26 24); refine wpList_store_part rfl 30 (.tmp 26) (.tmp 24) rfl g 64 (ints Q) rfl rfl (a := ints b) (old := ints q) (b := []) (by have := hD.ext (hx.trans hx2); unfold Desk bv at this; simpa [ints] using this) (by rw [ints_len, HB.out]) (by rw [ints_len, ints_len, HQL.out, HQN.out]) (by rw [ints_len, HQN.out]; exact size48) (ints_one_mem _) ?_; intro w3 hb3 hu3))
     go_ret2
     refine okAct ?_ ((Upd.of_ext (hx.trans hx2)).trans hu3 (fun x h => .inl h))
     unfold Desk bv
     simpa [ints] using hb3
section
variable {ops : Array Oper} {rest : List Oper} {o : Oper} {a : Act} {w : World} {Q : Exit → Act → World → Prop}
theorem lit1I (hg : o.guard = none) (x : Operand) (ho : o.op = .buildSlice 47 1 #[(0, x)]) (dst : Option Tmp) (hdst : o.dst = dst) (m : Int) (hx : a.eval x = .int .i64 m)
 (h : ∀ w1 g, SL w1 1 (.slice (some ⟨g, 0, none⟩) 1 1) 1 (ints [m]) → Ext w w1 → w.heap.size ≤ g → wpList Tryz.prog ops Q rest (a.put dst (.slice (some ⟨g, 0, none⟩) 1 1)) w1) : wpList Tryz.prog ops Q (o :: rest) a w := by
 refine Go.Great.wpList_buildSliceTo hg 47 3 1 #[(0, x)] ho _ rfl dst hdst Tryz.underlying47 (ints [m]).toArray ?_ (h _ _ ((Blk.new w _ _).sl (size := 1) (n := 1) (c := 1) rfl (by omega) (by omega)) ((Ext.refl w).alloc _) (Nat.le_refl _))
 simp only [List.map_toArray, List.map_cons, List.map_nil, hx]
 show _ = _
 kernel_rfl
theorem lit2I (hg : o.guard = none) (x y : Operand) (ho : o.op = .buildSlice 47 2 #[(0, x), (1, y)]) (dst : Option Tmp) (hdst : o.dst = dst) (m n : Int) (hx : a.eval x = .int .i64 m) (hy : a.eval y = .int .i64 n)
 (h : ∀ w1 g, SL w1 1 (.slice (some ⟨g, 0, none⟩) 2 2) 2 (ints [m, n]) → Ext w w1 → w.heap.size ≤ g → wpList Tryz.prog ops Q rest (a.put dst (.slice (some ⟨g, 0, none⟩) 2 2)) w1) : wpList Tryz.prog ops Q (o :: rest) a w := by
 refine Go.Great.wpList_buildSliceTo hg 47 3 2 #[(0, x), (1, y)] ho _ rfl dst hdst Tryz.underlying47 (ints [m, n]).toArray ?_ (h _ _ ((Blk.new w _ _).sl (size := 1) (n := 2) (c := 2) rfl (by omega) (by omega)) ((Ext.refl w).alloc _) (Nat.le_refl _))
 simp only [List.map_toArray, List.map_cons, List.map_nil, hx, hy]
 show _ = _
 kernel_rfl
theorem lit3I (hg : o.guard = none) (x y z : Operand) (ho : o.op = .buildSlice 47 3 #[(0, x), (1, y), (2, z)]) (dst : Option Tmp) (hdst : o.dst = dst) (m n p : Int) (hx : a.eval x = .int .i64 m) (hy : a.eval y = .int .i64 n) (hz : a.eval z = .int .i64 p)
 (h : ∀ w1 g, SL w1 1 (.slice (some ⟨g, 0, none⟩) 3 3) 3 (ints [m, n, p]) → Ext w w1 → w.heap.size ≤ g → wpList Tryz.prog ops Q rest (a.put dst (.slice (some ⟨g, 0, none⟩) 3 3)) w1) : wpList Tryz.prog ops Q (o :: rest) a w := by
 refine Go.Great.wpList_buildSliceTo hg 47 3 3 #[(0, x), (1, y), (2, z)] ho _ rfl dst hdst Tryz.underlying47 (ints [m, n, p]).toArray ?_ (h _ _ ((Blk.new w _ _).sl (size := 1) (n := 3) (c := 3) rfl (by omega) (by omega)) ((Ext.refl w).alloc _) (Nat.le_refl _))
 simp only [List.map_toArray, List.map_cons, List.map_nil, hx, hy, hz]
 show _ = _
 kernel_rfl
end
theorem told_lit (l : List Int) (h0 : l ≠ []) (hl : l.length ≤ 1000) (hb : ∀ n ∈ l, -900000000000 ≤ n ∧ n ≤ 900000000000) {w : World} (htab : ∀ W, Ext w W → Lib.TabIs Tryz.prog W "internal/strconv.uint64pow10" .u64 Lib.pow10Tab) :
 Hid (∀ v' n W (_ : Ext w W) (_ : l.length = n) (_ : SL W 1 v' n (ints l)), Calls Tryz.prog 65 #[v'] W fun e w' => e = .returned (.string ⟨(toldZ l).toArray⟩) ∧ Ext W w') :=
 hid_ fun v' n W hx hn hs => by
  subst hn
  have := told_any v' l hl hb W hs (fun W' h => htab W' (hx.trans h))
  rwa [if_neg h0] at this
def Goes (P : Program) (f : FuncId) : Prop := ∃ fn, P.funcs[f]? = some fn ∧ (fn.name == "runtime.NumGoroutine") = false ∧ fn.body.isSome = true
section
variable {P : Program} {ops : Array Oper} {rest : List Oper} {o : Oper} {a : Act} {Q : Exit → Act → World → Prop}
theorem run_callv (x : Operand) (xs : Array Operand) (ts : Array TypeId) (ho : o.op = .call { callee := .value x, args := xs, argTypes := ts }) {f : FuncId} {cap : Array Value} (hr : a.eval x = .func (.func f) #[] cap)
 (hm : Goes P f) (args : Array Value) (hx : xs.map a.eval ++ cap = args) (w : World) : (execOp a.eval o).run P w = .ok (.enter f args) w := by
 obtain ⟨fn, hf, hname, hb⟩ := hm
 obtain ⟨c, hb⟩ := Option.isSome_iff_exists.1 hb
 have hn : ¬ fn.name = "runtime.NumGoroutine" := by simpa using hname
 subst hx
 simp [execOp, ho, resolve, hr, Deferred.ofValue, invoke, callFunc, hf, hb, hn, run_program]
theorem wl_enter {w : World} (hw : Region.wanted o (yielded ops a.tmps) = true) {f : FuncId} {args : Array Value} (hrun : ∀ w, (execOp a.eval o).run P w = .ok (.enter f args) w)
 (h : Calls P f args w fun e w' => ∃ v, e = .returned v ∧ wpList P ops Q rest (a.put o.dst v) w') : wpList P ops Q (o :: rest) a w :=
 wpList_wanted hw fun K hK => by
  unfold Oper.wp
  rw [hrun]
  refine h.mono fun e w' ⟨v, e1, h2⟩ => ?_
  subst e1
  exact hK _ _ h2
end
theorem ex_loadF {o : Oper} {a : Act} {x : Operand} {ty : TypeId} {d : TypeDesc} (hu : Tryz.prog.underlying ty = some d) (hd : (match d with | .struct _ | .array _ _ => true | _ => false) = false) (ho : o.op = .load ty x) {p : Addr} (hx : a.eval x = .pointer (some p)) {f : FuncId} {w : World} (h : w.cell? p = some (.func (.func f) #[] #[])) : (execOp a.eval o).run Tryz.prog w = .ok (.value (.func (.func f) #[] #[])) w := by
 have hr : (loadVar ty p).run Tryz.prog w = .ok (.func (.func f) #[] #[]) w := by
  cases d <;> first | (simp at hd; done) | simp [loadVar, isAgg, Sem.run_bind, run_underlying hu, run_load, h]
 simp [execOp, ho, hx, Instr.loadAt, Instr.sureAddr, Sem.run_bind, hr]
theorem lx_callVt {P : Program} {md : Region.Mode} {ops : Array Oper} {R : World → World → Prop} {Q : Exit → Act → World → Prop} {rest : List Oper} {o : Oper} {k : Nat} {listed : Array Bool} {a : Act} {wc : World} (hw : Region.wanted o (yielded ops a.tmps) = true) (x : Operand) (xs : Array Operand) (ts : Array TypeId)
 (ho : o.op = .call { callee := .value x, args := xs, argTypes := ts }) {f : FuncId} {cap : Array Value} (hr : a.eval x = .func (.func f) #[] cap) (hm : Goes P f) (args : Array Value) (hx : xs.map a.eval ++ cap = args) (v : Value)
 (hc : ∀ w, R wc w → Calls P f args w fun e w' => e = .returned v ∧ R w w') (h : wpLx P md ops R Q rest (k + 1) (listed.setIfInBounds k true) (a.put o.dst v) wc) : wpLx P md ops R Q (o :: rest) k listed a wc := by
 refine lx_at hw v (fun w hR => ?_) h
 unfold Oper.quietAt
 rw [run_callv x xs ts ho hr hm args hx w]
 exact ⟨rfl, hc w hR⟩
theorem sl_three {w : World} {v : Value} {n : List Int} (hn : n.length = 3) (hv : SL w 1 v n.length (ints n)) : ∃ ad c, v = .slice (some ad) 3 c ∧ 3 ≤ c ∧ c ≤ 9223372036854775807 ∧ ad.block < w.heap.size ∧ w.cell? (ad.add (0 * 1)) = some (.int .i64 (n.getD 0 0)) ∧ w.cell? (ad.add (1 * 1)) = some (.int .i64 (n.getD 1 0)) ∧ w.cell? (ad.add (2 * 1)) = some (.int .i64 (n.getD 2 0)) := by
 match n, hn with
 | [x, y, z], _ =>
   obtain ⟨A, c, rfl, h1, h2, -, -⟩ := id hv
   obtain ⟨ad, u, e, hlt, hu, hc⟩ := hv.at1 (k := 0) (by simp)
   obtain ⟨ad', u', e', -, hu', hc'⟩ := hv.at1 (k := 1) (by simp)
   obtain ⟨ad2, u2, e2, -, hu2, hc2⟩ := hv.at1 (k := 2) (by simp)
   subst e
   injection e' with e'
   subst e'
   injection e2 with e2
   subst e2
   obtain ⟨_, rfl⟩ := ints_at _ _ _ hu
   obtain ⟨_, rfl⟩ := ints_at _ _ _ hu'
   obtain ⟨_, rfl⟩ := ints_at _ _ _ hu2
   exact ⟨ad, c, rfl, h1, h2, hlt, hc, hc', hc2⟩
def TintF (f : FuncId) (m : List Int) : Prop := Goes Tryz.prog f ∧ ∀ (r s t : Int) (w : World), Calls Tryz.prog f #[.int .i64 r, .int .i64 s, .int .i64 t] w fun e w' => e = .returned (.tuple #[.int .i64 (threeZ m [r, s, t]).1, .int .i64 (threeZ m [r, s, t]).2.1, .int .i64 (threeZ m [r, s, t]).2.2.1, .int .i64 (threeZ m [r, s, t]).2.2.2]) ∧ Ext w w'
theorem tintF_to : TintF 47 toM := ⟨⟨_, Tryz.func47, rfl, rfl⟩, fun r s t w => tintTo_any r s t w⟩
theorem tintF_from : TintF 48 frM := ⟨⟨_, Tryz.func48, rfl, rfl⟩, fun r s t w => tintFrom_any r s t w⟩
set_option maxHeartbeats 2000000 in
theorem tinted_any (f : FuncId) (m : List Int) (hf : TintF f m) (g gf : Nat) (b q n : List Int) (v : Value) (w : World) (hD : Desk w g b q) (hn : n.length = 3) (hv : SL w 1 v n.length (ints n)) (hlf : gf < w.heap.size) (hF : w.cell? ⟨gf, 0, none⟩ = some (.func (.func f) #[] #[]))
 (htab : ∀ W, Ext w W → Lib.TabIs Tryz.prog W "internal/strconv.uint64pow10" .u64 Lib.pow10Tab) :
 Calls Tryz.prog 77 #[.pointer (some ⟨g, 0, none⟩), v, .pointer (some ⟨gf, 0, none⟩)] w (ActIs (tintZ m b q n) g w) := by
 obtain ⟨ad, c, rfl, hc1, hc2, hlt, h0, h1, h2⟩ := sl_three hn hv
 have HT := told_lit [(tint3 m n).1, (tint3 m n).2.1, (tint3 m n).2.2.1] (by simp) (by simp) (tint_good m n) htab
 have HC := hid_ (fun W => hf.2 (n.getD 0 0) (n.getD 1 0) (n.getD 2 0) W)
 unfold tintZ
 unfold tint3 at *
 obtain ⟨T, hT⟩ : ∃ T, toldZ [(threeZ m [n.getD 0 0, n.getD 1 0, n.getD 2 0]).1, (threeZ m [n.getD 0 0, n.getD 1 0, n.getD 2 0]).2.1, (threeZ m [n.getD 0 0, n.getD 1 0, n.getD 2 0]).2.2.1] = T := ⟨_, rfl⟩
 rw [hT] at HT ⊢
 clear hT
 generalize threeZ m [n.getD 0 0, n.getD 1 0, n.getD 2 0] = R at *
 obtain ⟨r1, r2, r3, r4⟩ := R
 dsimp only at HT HC ⊢
 generalize n.getD 0 0 = x at *
 generalize n.getD 1 0 = y at *
 generalize n.getD 2 0 = z at *
 clear hn hv
 have HG := hid_ hf.1
 have H0 := hid_ (fun W (hx : Ext w W) => (hx.cell (p := ad.add (0 * 1)) hlt).trans h0)
 have H1 := hid_ (fun W (hx : Ext w W) => (hx.cell (p := ad.add (1 * 1)) hlt).trans h1)
 have H2 := hid_ (fun W (hx : Ext w W) => (hx.cell (p := ad.add (2 * 1)) hlt).trans h2)
 have HF := hid_ (fun W (hx : Ext w W) => (hx.cell (p := ⟨gf, 0, none⟩) hlf).trans hF)
 clear h0 h1 h2 hF hf
 obtain ⟨Z, hZ⟩ : ∃ Z, (if r4 = 0 then (⟨0, T, b, q⟩ : Ans) else noZ r4 b q) = Z := ⟨_, rfl⟩
 rw [hZ]
 have HZ := hid_ hZ
 clear hZ
 go_enter Tryz.func77, Tryz.ntmps77
 go_upto_region 1 with fail
 have hx7 := (Ext.refl w).drew
 refine wp_region_lx later_ext (by kernel_rfl) (by kernel_rfl) ?_
 refine lx_read (by rfl) (.func (.func f) #[] #[]) (fun W hW => ex_loadF Tryz.underlying62 rfl rfl rfl (HF.out W (hx7.trans hW))) ?_
 simp only [Act.put, sA, sB, sC]
 refine lx_run (by rfl) (.slice (some ad) 3 c) (ex_move rfl rfl) ?_
 simp only [Act.put, sA, sB, sC]
 refine lx_run (by rfl) (.pointer (some (ad.add (0 * 1)))) (ex_ixSl Tryz.underlying47 sizeI rfl (i := 0) rfl rfl (by omega)) ?_
 simp only [Act.put, sA, sB, sC]
 refine lx_read (by rfl) (.int .i64 x) (fun W hW => ex_loadI rfl rfl (H0.out W (hx7.trans hW))) ?_
 simp only [Act.put, sA, sB, sC]
 refine lx_run (by rfl) (.slice (some ad) 3 c) (ex_move rfl rfl) ?_
 simp only [Act.put, sA, sB, sC]
 refine lx_run (by rfl) (.pointer (some (ad.add (1 * 1)))) (ex_ixSl Tryz.underlying47 sizeI rfl (i := 1) rfl rfl (by omega)) ?_
 simp only [Act.put, sA, sB, sC]
 refine lx_read (by rfl) (.int .i64 y) (fun W hW => ex_loadI rfl rfl (H1.out W (hx7.trans hW))) ?_
 simp only [Act.put, sA, sB, sC]
 refine lx_run (by rfl) (.slice (some ad) 3 c) (ex_move rfl rfl) ?_
 simp only [Act.put, sA, sB, sC]
 refine lx_run (by rfl) (.pointer (some (ad.add (2 * 1)))) (ex_ixSl Tryz.underlying47 sizeI rfl (i := 2) rfl rfl (by omega)) ?_
 simp only [Act.put, sA, sB, sC]
 refine lx_read (by rfl) (.int .i64 z) (fun W hW => ex_loadI rfl rfl (H2.out W (hx7.trans hW))) ?_
 simp only [Act.put, sA, sB, sC]
 refine lx_callVt (by rfl) (.tmp 12) #[.tmp 15, .tmp 18, .tmp 21] _ rfl rfl HG.out #[.int .i64 x, .int .i64 y, .int .i64 z] (by simp [Act.eval]) (.tuple #[.int .i64 r1, .int .i64 r2, .int .i64 r3, .int .i64 r4]) (fun W hW => HC.out W) ?_
 simp only [Act.put, sA, sB, sC]
 refine lx_run (by rfl) (.tuple #[.int .i64 r1, .int .i64 r2, .int .i64 r3, .int .i64 r4]) (ex_move rfl rfl) ?_
 simp only [Act.put, sA, sB, sC]
 refine lx_run (by rfl) (.int .i64 r1) (ex_extract rfl rfl rfl) ?_
 simp only [Act.put, sA, sB, sC]
 refine lx_run (by rfl) (.int .i64 r2) (ex_extract rfl rfl rfl) ?_
 simp only [Act.put, sA, sB, sC]
 refine lx_run (by rfl) (.int .i64 r3) (ex_extract rfl rfl rfl) ?_
 simp only [Act.put, sA, sB, sC]
 refine lx_run (by rfl) (.int .i64 r4) (ex_extract rfl rfl rfl) ?_
 simp only [Act.put, sA, sB, sC]
 refine lx_run (by rfl) (.int .i64 r1) (ex_assign rfl rfl) ?_
 simp only [Act.put, sA, sB, sC]
 refine lx_run (by rfl) (.int .i64 r2) (ex_assign rfl rfl) ?_
 simp only [Act.put, sA, sB, sC]
 refine lx_run (by rfl) (.int .i64 r3) (ex_assign rfl rfl) ?_
 simp only [Act.put, sA, sB, sC]
 refine lx_run (by rfl) (.int .i64 r4) (ex_assign rfl rfl) ?_
 simp only [Act.put, sA, sB, sC]
 refine lx_nil ?_
 intro W hW
 have hx8 := hx7.trans hW
 go_wp2_with (first
  | ((with_reducible apply gS 30); refine lit3I rfl (.tmp 27) (.tmp 28) (.tmp 29) rfl (some 30) rfl r1 r2 r3 rfl rfl rfl ?_; intro w3 gb hs3 hx3 hgb; have hx9 := hx8.trans hx3)
  | (go_at_call 65; (with_reducible refine (HT.out _ 3 _ hx9 rfl hs3).mono ?_); rintro e w4 ⟨rfl, hx4⟩))
 go_ret2
 have hx := hx9.trans hx4
 rw [← HZ.out]
 by_cases h3 : r4 = 0
 ·subst h3
  rw [if_pos rfl]
  exact okAct (hD.ext hx) (Upd.of_ext hx)
 ·rw [if_neg h3]
  exact saidAct rfl (fun h => absurd h h3) hD hx
end Go.Proofs.YtlhggcbpipmjhaaGreatDoor
