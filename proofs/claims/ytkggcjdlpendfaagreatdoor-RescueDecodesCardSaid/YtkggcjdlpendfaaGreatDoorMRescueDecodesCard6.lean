/- Contracts for the law RescueDecodesCard, part 6: what the functions that it reaches answer, for all arguments that the theorems name. -/
import Derived.Test.YtkggcjdlpendfaaGreatDoorMRescueDecodesCard4
import Derived.Test.YtkggcjdlpendfaaGreatDoorMRescueDecodesCard5
import Derived.Test.YtkggcjdlpendfaaGreatDoorMRescueDecodesCard2
import Derived.Test.YtkggcjdlpendfaaGreatDoorMRescueDecodesCard1
import Derived.Test.YtkggcjdlpendfaaGreatDoorMRescueDecodesCard3
import Derived.Deep.Cut
namespace Go.Proofs.YtkggcjdlpendfaaGreatDoor
set_option linter.unusedVariables false
set_option linter.unusedSimpArgs false
open Go.RowKit
def TurnF (L : List (List Int)) (B : Nat) (w : World) (e : Ending) (w' : World) : Prop := ∃ A k d, e = .returned (.slice A k d) ∧ RowsF w' B A k d L ∧ Ext w w'
theorem turned_far (f : FuncId) (t : Int → Int → Int → Four) (hf : TurnsBy f t) (hgo : Goes Tryz.prog f) (A : Option Addr) (n c : Nat) (L : List (List Int)) (N : Nat) (w : World) (hL : L.length = 1 ∨ L.length = 3) (hN : ∀ l ∈ L, l.length = N) (hb : N ≤ 1000000) (B : Nat) (hB : B ≤ w.heap.size) (hr : RowsF w B A n c L) :
 Calls Tryz.prog 38 #[.slice A n c, .func (.func f) #[] #[]] w (TurnF (turnZ t L) B w) := by
 have hn := hr.rows.len
 rcases hL with h1 | h3
 ·rw [turnZ_one t (by omega)]
  exact (turned_one A n c L _ w hr.rows (by omega) (by omega)).mono fun e w' h => ⟨A, n, c, h.1, by rw [h.2]; exact hr, by rw [h.2]; exact Ext.refl _⟩
 ·obtain ⟨a, b, cc, rfl⟩ := three_of h3
  obtain rfl : n = 3 := by rw [← hn]; rfl
  have ha := hN a (by simp)
  have hb' := hN b (by simp)
  have hc := hN cc (by simp)
  unfold turnZ
  dsimp only
  rw [ha]
  exact (turned_three f t hf hgo A c a b cc N ha hb' hc hb w hr.rows).mono fun e w' h => by obtain ⟨D, k, d, e1, h1, h2⟩ := h; exact ⟨D, k, d, e1, h1.mono hB, h2⟩
theorem rturned_far (f : FuncId) (t : Int → Int → Int → Four) (hf : TurnsBy f t) (hgo : Goes Tryz.prog f) (A : Option Addr) (n c : Nat) (L : List (List Int)) (N : Nat) (w : World) (hL : L.length = 1 ∨ L.length = 3) (hN : ∀ l ∈ L, l.length = N) (hb : N ≤ 1000000) (B : Nat) (hB : B ≤ w.heap.size) (hr : RowsF w B A n c L) :
 Calls Tryz.prog 68 #[.slice A n c, .func (.func f) #[] #[]] w (TurnF (turnZ t L) B w) := by
 have hn := hr.rows.len
 rcases hL with h1 | h3
 ·rw [turnZ_one t (by omega)]
  exact (rturned_one A n c L _ w hr.rows (by omega)).mono fun e w' h => ⟨A, n, c, h.1, by rw [h.2]; exact hr, by rw [h.2]; exact Ext.refl _⟩
 ·obtain ⟨a, b, cc, rfl⟩ := three_of h3
  obtain rfl : n = 3 := by rw [← hn]; rfl
  have ha := hN a (by simp)
  have hb' := hN b (by simp)
  have hc := hN cc (by simp)
  unfold turnZ
  dsimp only
  rw [ha]
  exact (rturned_three f t hf hgo A c a b cc N ha hb' hc hb w hr.rows).mono fun e w' h => by obtain ⟨D, k, d, e1, h1, h2⟩ := h; exact ⟨D, k, d, e1, h1.mono hB, h2⟩
theorem run_loadLL (W : World) (p : Addr) (A : Option Addr) (n c : Nat) (h : W.cell? p = some (.slice A n c)) : (Instr.loadAt 29 (.pointer (some p))).run Tryz.prog W = .ok (.slice A n c) W := by
 go_simp
theorem ex_loadLL {o : Oper} {a : Act} {x : Operand} (ho : o.op = .load 29 x) {p : Addr} (hx : a.eval x = .pointer (some p)) {A : Option Addr} {n c : Nat} {w : World} (h : w.cell? p = some (.slice A n c)) : (execOp a.eval o).run Tryz.prog w = .ok (.value (.slice A n c)) w := by
 simp [execOp, ho, hx, run_loadLL w p A n c h]
theorem sizeArea : (Tryz.prog.info? 128).map (·.size) = some 2 := by kernel_rfl
def areaV (wd hi : Int) : Array Value := #[.int .i64 wd, .int .i64 hi]
def sidesZ (wd hi : Int) : Int := if inB wd 1 64 && inB hi 1 64 then 0 else 1
theorem inB_val (n lo hi : Int) : inB n lo hi = (!decide (n < lo) && !decide (hi < n)) := by
 rw [Bool.eq_iff_iff, inB_iff]
 simp
theorem area_cells {w : World} {g : Nat} {T : TypeId} {wd hi : Int} (h : Blk w g T (areaV wd hi)) : w.cell? ⟨g, 0, none⟩ = some (.int .i64 wd) ∧ w.cell? ⟨g, 1, none⟩ = some (.int .i64 hi) := by
 rw [h.cell, h.cell]
 exact ⟨rfl, rfl⟩
set_option maxRecDepth 20000 in
set_option maxHeartbeats 1000000 in
theorem areaCheck_any (wd hi : Int) (w : World) :
 Calls Tryz.prog 87 #[.agg (areaV wd hi)] w fun e w' => e = .returned (.int .i64 (sidesZ wd hi)) ∧ Ext w w' := by
 have HC := hid_ (fun W g (h : Blk W g 128 (areaV wd hi)) => area_cells h)
 have e : sidesZ wd hi = if wd < 1 then 1 else if 64 < wd then 1 else if hi < 1 then 1 else if 64 < hi then 1 else 0 := by
  unfold sidesZ
  rw [inB_val, inB_val]
  by_cases h1 : wd < 1 <;> by_cases h2 : 64 < wd <;> by_cases h3 : hi < 1 <;> by_cases h4 : 64 < hi <;> simp [h1, h2, h3, h4]
 rw [e]
 clear e
 generalize areaV wd hi = av at *
 by_cases h1 : wd < 1
 ·rw [if_pos h1]
  go_enter Tryz.func87, Tryz.ntmps87
  go_wp2_with (refine wBox rfl 128 (.tmp 0) rfl av rfl ?_; intro w1 g hb1 hx1 hg; obtain ⟨c0, c1⟩ := HC.out _ _ hb1)
  go_ret
  exact ⟨rfl, hx1⟩
 ·rw [if_neg h1]
  by_cases h2 : 64 < wd
  ·rw [if_pos h2]
   go_enter Tryz.func87, Tryz.ntmps87
   go_wp2_with (refine wBox rfl 128 (.tmp 0) rfl av rfl ?_; intro w1 g hb1 hx1 hg; obtain ⟨c0, c1⟩ := HC.out _ _ hb1)
   go_ret
   exact ⟨rfl, hx1⟩
  ·rw [if_neg h2]
   by_cases h3 : hi < 1
   ·rw [if_pos h3]
    go_enter Tryz.func87, Tryz.ntmps87
    go_wp2_with (refine wBox rfl 128 (.tmp 0) rfl av rfl ?_; intro w1 g hb1 hx1 hg; obtain ⟨c0, c1⟩ := HC.out _ _ hb1)
    go_ret
    exact ⟨rfl, hx1⟩
   ·rw [if_neg h3]
    by_cases h4 : 64 < hi
    ·rw [if_pos h4]
     go_enter Tryz.func87, Tryz.ntmps87
     go_wp2_with (refine wBox rfl 128 (.tmp 0) rfl av rfl ?_; intro w1 g hb1 hx1 hg; obtain ⟨c0, c1⟩ := HC.out _ _ hb1)
     go_ret
     exact ⟨rfl, hx1⟩
    ·rw [if_neg h4]
     go_enter Tryz.func87, Tryz.ntmps87
     go_wp2_with (refine wBox rfl 128 (.tmp 0) rfl av rfl ?_; intro w1 g hb1 hx1 hg; obtain ⟨c0, c1⟩ := HC.out _ _ hb1)
     go_ret
     exact ⟨rfl, hx1⟩
theorem across_any (wd : Nat) (hi : Int) (w : World) (h1 : 1 ≤ wd) (h2 : wd ≤ 64) :
 Calls Tryz.prog 141 #[.agg (areaV wd hi)] w fun e w' => e = .returned (.int .i64 (((wd + 7) / 8 : Nat) : Int)) ∧ Ext w w' := by
 have HC := hid_ (fun W g (h : Blk W g 128 (areaV wd hi)) => area_cells h)
 generalize areaV wd hi = av at *
 go_enter Tryz.func141, Tryz.ntmps141
 go_wp2_with (refine wBox rfl 128 (.tmp 0) rfl av rfl ?_; intro w1 g hb1 hx1 hg; obtain ⟨c0, c1⟩ := HC.out _ _ hb1)
 go_ret
 refine ⟨?_, hx1⟩
 congr 2
 go_num
theorem sidesCheck_any (wd hi : Int) (w : World) :
 Calls Tryz.prog 123 #[.int .i64 wd, .int .i64 hi] w fun e w' => e = .returned (.int .i64 (sidesZ wd hi)) ∧ w = w' := by
 have W1 := hid_ (fun W => outside_any wd 1 64 W)
 have W2 := hid_ (fun W => outside_any hi 1 64 W)
 unfold sidesZ
 generalize inB wd 1 64 = b1 at *
 generalize inB hi 1 64 = b2 at *
 cases b1 with
 | false =>
   go_enter Tryz.func123, Tryz.ntmps123
   go_wp2_with (first
    | (go_at_call 54; (with_reducible refine (W1.out _).mono ?_); rintro e w2 ⟨rfl, rfl⟩)
    | (go_at_call 54; (with_reducible refine (W2.out _).mono ?_); rintro e w2 ⟨rfl, rfl⟩))
   go_ret
   exact ⟨rfl, rfl⟩
 | true =>
   cases b2 with
   | false =>
     go_enter Tryz.func123, Tryz.ntmps123
     go_wp2_with (first
      | (go_at_call 54; (with_reducible refine (W1.out _).mono ?_); rintro e w2 ⟨rfl, rfl⟩)
      | (go_at_call 54; (with_reducible refine (W2.out _).mono ?_); rintro e w2 ⟨rfl, rfl⟩))
     go_ret
     exact ⟨rfl, rfl⟩
   | true =>
     go_enter Tryz.func123, Tryz.ntmps123
     go_wp2_with (first
      | (go_at_call 54; (with_reducible refine (W1.out _).mono ?_); rintro e w2 ⟨rfl, rfl⟩)
      | (go_at_call 54; (with_reducible refine (W2.out _).mono ?_); rintro e w2 ⟨rfl, rfl⟩))
     go_ret
     exact ⟨rfl, rfl⟩
theorem areaV_size (wd hi : Int) : (areaV wd hi).size = 2 := rfl
set_option maxRecDepth 20000 in
set_option maxHeartbeats 1000000 in
theorem many_any (wd hi : Nat) (w : World) (h1 : 1 ≤ wd) (h2 : wd ≤ 64) (h3 : 1 ≤ hi) (h4 : hi ≤ 64) :
 Calls Tryz.prog 90 #[.agg (areaV wd hi)] w fun e w' => e = .returned (.int .i64 (((wd + 7) / 8 * ((hi + 7) / 8) : Nat) : Int)) ∧ Ext w w' := by
 have HC := hid_ (fun W g (h : Blk W g 128 (areaV wd hi)) => area_cells h)
 have HA := hid_ (fun W => across_any wd hi W h1 h2)
 have hts := hid_ (areaV_size wd hi)
 have hm : (wd + 7) / 8 * ((hi + 7) / 8) ≤ 8 * 8 := Nat.mul_le_mul (by omega) (by omega)
 generalize areaV wd hi = av at *
 go_enter Tryz.func90, Tryz.ntmps90
 go_wp2_with (refine wBox rfl 128 (.tmp 0) rfl av rfl ?_; intro w1 g hb1 hx1 hg)
 have hx1' := hx1.drew
 have hb1' := hb1.drew
 refine wp_region_lx later_ext (by kernel_rfl) (by kernel_rfl) ?_
 refine lx_load_blk (by rfl) 128 (.tmp 1) rfl g rfl (fun w h => hb1'.ext h) _ Tryz.underlying128 rfl 2 sizeArea hts.out ?_
 simp only [Act.put, sA, sB, sC]
 refine lx_callF (by rfl) 141 Tryz.func141 rfl rfl _ _ rfl #[.agg av] (by simp [Act.eval]) (.int .i64 (((wd + 7) / 8 : Nat) : Int)) (fun W h => HA.out W) ?_
 simp only [Act.put, sA, sB, sC]
 refine lx_ex (by rfl) ?_; apply Exists.intro; refine ⟨fun w hw => ?_, ?_⟩; · (go_simp; with_reducible rfl)
 simp only [Act.put, sA, sB, sC]
 refine lx_ex (by rfl) ?_; apply Exists.intro; refine ⟨fun w hw => ?_, ?_⟩; · (obtain ⟨c0, c1⟩ := HC.out _ _ (hb1'.ext hw); go_simp; with_reducible rfl)
 simp only [Act.put, sA, sB, sC]
 refine lx_binOp (by rfl) .add 3 _ _ _ rfl (.int .i64 (hi : Int)) (.int .i64 ((8 : Nat) : Int)) rfl rfl (.int .i64 ((hi + 8 : Nat) : Int)) (guardN _ _ _ _ _) (run_addN _ _ (by omega)) ?_
 simp only [Act.put, sA, sB, sC]
 refine lx_binOp (by rfl) .sub 3 _ _ _ rfl (.int .i64 ((hi + 8 : Nat) : Int)) (.int .i64 ((1 : Nat) : Int)) rfl rfl (.int .i64 ((hi + 7 : Nat) : Int)) (guardN _ _ _ _ _) (run_subN (hi + 8) 1 (by omega) (by omega)) ?_
 simp only [Act.put, sA, sB, sC]
 refine lx_binOp (by rfl) .quo 3 _ _ _ rfl (.int .i64 ((hi + 7 : Nat) : Int)) (.int .i64 ((8 : Nat) : Int)) rfl rfl (.int .i64 (((hi + 7) / 8 : Nat) : Int)) (guardN _ _ _ _ _) (run_quoN _ _ (by omega) (by omega)) ?_
 simp only [Act.put, sA, sB, sC]
 refine lx_binOp (by rfl) .mul 3 _ _ _ rfl (.int .i64 (((wd + 7) / 8 : Nat) : Int)) (.int .i64 (((hi + 7) / 8 : Nat) : Int)) rfl rfl (.int .i64 (((wd + 7) / 8 * ((hi + 7) / 8) : Nat) : Int)) (guardN _ _ _ _ _) (run_mulN _ _ _ rfl (by omega)) ?_
 simp only [Act.put, sA, sB, sC]
 generalize hmm : (wd + 7) / 8 * ((hi + 7) / 8) = m at *
 have HMM := hid_ hmm
 clear hmm
 repeat (refine lx_ex (by rfl) ?_; apply Exists.intro; refine ⟨fun w hw => ?_, ?_⟩; · (go_simp; with_reducible rfl)
         simp only [Act.put, sA, sB, sC])
 refine lx_nil ?_
 intro w3 hx3
 go_wp2_with fail
 go_ret
 rw [HMM.out]
 exact ⟨rfl, hx1'.trans hx3⟩
set_option maxRecDepth 20000 in
set_option maxHeartbeats 1000000 in
theorem place_any (wd : Nat) (hi : Int) (b i : Nat) (w : World) (h1 : 1 ≤ wd) (h2 : wd ≤ 64) (hb : b < 64) (hi64 : i < 64) :
 Calls Tryz.prog 91 #[.agg (areaV wd hi), .int .i64 (b : Int), .int .i64 (i : Int)] w fun e w' =>
  e = .returned (.tuple #[.int .i64 ((b / ((wd + 7) / 8) * 8 + i / 8 : Nat) : Int), .int .i64 ((b % ((wd + 7) / 8) * 8 + i % 8 : Nat) : Int)]) ∧ Ext w w' := by
 have HA := hid_ (fun W => across_any wd hi W h1 h2)
 have hts := hid_ (areaV_size wd hi)
 have hc : 1 ≤ (wd + 7) / 8 ∧ (wd + 7) / 8 ≤ 8 := by omega
 generalize (wd + 7) / 8 = c at *
 generalize areaV wd hi = av at *
 have q1 : b / c ≤ b := Nat.div_le_self _ _
 have q2 : b % c < c := Nat.mod_lt _ (by omega)
 go_enter Tryz.func91, Tryz.ntmps91
 go_wp2_with (refine wBox rfl 128 (.tmp 0) rfl av rfl ?_; intro w1 g hb1 hx1 hg)
 have hx1' := hx1.drew
 have hb1' := hb1.drew
 refine wp_region_lx later_ext (by kernel_rfl) (by kernel_rfl) ?_
 refine lx_ex (by rfl) ?_; apply Exists.intro; refine ⟨fun w hw => ?_, ?_⟩; · (go_simp; with_reducible rfl)
 simp only [Act.put, sA, sB, sC]
 refine lx_load_blk (by rfl) 128 (.tmp 3) rfl g rfl (fun w h => hb1'.ext h) _ Tryz.underlying128 rfl 2 sizeArea hts.out ?_
 simp only [Act.put, sA, sB, sC]
 refine lx_callF (by rfl) 141 Tryz.func141 rfl rfl _ _ rfl #[.agg av] (by simp [Act.eval]) (.int .i64 (c : Int)) (fun W h => HA.out W) ?_
 simp only [Act.put, sA, sB, sC]
 refine lx_binOp (by rfl) .quo 3 _ _ _ rfl (.int .i64 ((b : Nat) : Int)) (.int .i64 ((c : Nat) : Int)) rfl rfl (.int .i64 ((b / c : Nat) : Int)) (guardN _ _ _ _ _) (run_quoN _ _ (by omega) (by omega)) ?_
 simp only [Act.put, sA, sB, sC]
 refine lx_binOp (by rfl) .mul 3 _ _ _ rfl (.int .i64 ((b / c : Nat) : Int)) (.int .i64 ((8 : Nat) : Int)) rfl rfl (.int .i64 ((b / c * 8 : Nat) : Int)) (guardN _ _ _ _ _) (run_mulN _ _ _ rfl (by omega)) ?_
 simp only [Act.put, sA, sB, sC]
 refine lx_ex (by rfl) ?_; apply Exists.intro; refine ⟨fun w hw => ?_, ?_⟩; · (go_simp; with_reducible rfl)
 simp only [Act.put, sA, sB, sC]
 refine lx_binOp (by rfl) .quo 3 _ _ _ rfl (.int .i64 ((i : Nat) : Int)) (.int .i64 ((8 : Nat) : Int)) rfl rfl (.int .i64 ((i / 8 : Nat) : Int)) (guardN _ _ _ _ _) (run_quoN _ _ (by omega) (by omega)) ?_
 simp only [Act.put, sA, sB, sC]
 refine lx_binOp (by rfl) .add 3 _ _ _ rfl (.int .i64 ((b / c * 8 : Nat) : Int)) (.int .i64 ((i / 8 : Nat) : Int)) rfl rfl (.int .i64 ((b / c * 8 + i / 8 : Nat) : Int)) (guardN _ _ _ _ _) (run_addN _ _ (by omega)) ?_
 simp only [Act.put, sA, sB, sC]
 refine lx_ex (by rfl) ?_; apply Exists.intro; refine ⟨fun w hw => ?_, ?_⟩; · (go_simp; with_reducible rfl)
 simp only [Act.put, sA, sB, sC]
 refine lx_load_blk (by rfl) 128 (.tmp 3) rfl g rfl (fun w h => hb1'.ext h) _ Tryz.underlying128 rfl 2 sizeArea hts.out ?_
 simp only [Act.put, sA, sB, sC]
 refine lx_callF (by rfl) 141 Tryz.func141 rfl rfl _ _ rfl #[.agg av] (by simp [Act.eval]) (.int .i64 (c : Int)) (fun W h => HA.out W) ?_
 simp only [Act.put, sA, sB, sC]
 refine lx_binOp (by rfl) .rem 3 _ _ _ rfl (.int .i64 ((b : Nat) : Int)) (.int .i64 ((c : Nat) : Int)) rfl rfl (.int .i64 ((b % c : Nat) : Int)) (guardN _ _ _ _ _) (run_remN _ _ (by omega) (by omega)) ?_
 simp only [Act.put, sA, sB, sC]
 refine lx_binOp (by rfl) .mul 3 _ _ _ rfl (.int .i64 ((b % c : Nat) : Int)) (.int .i64 ((8 : Nat) : Int)) rfl rfl (.int .i64 ((b % c * 8 : Nat) : Int)) (guardN _ _ _ _ _) (run_mulN _ _ _ rfl (by omega)) ?_
 simp only [Act.put, sA, sB, sC]
 refine lx_ex (by rfl) ?_; apply Exists.intro; refine ⟨fun w hw => ?_, ?_⟩; · (go_simp; with_reducible rfl)
 simp only [Act.put, sA, sB, sC]
 refine lx_binOp (by rfl) .rem 3 _ _ _ rfl (.int .i64 ((i : Nat) : Int)) (.int .i64 ((8 : Nat) : Int)) rfl rfl (.int .i64 ((i % 8 : Nat) : Int)) (guardN _ _ _ _ _) (run_remN _ _ (by omega) (by omega)) ?_
 simp only [Act.put, sA, sB, sC]
 refine lx_binOp (by rfl) .add 3 _ _ _ rfl (.int .i64 ((b % c * 8 : Nat) : Int)) (.int .i64 ((i % 8 : Nat) : Int)) rfl rfl (.int .i64 ((b % c * 8 + i % 8 : Nat) : Int)) (guardN _ _ _ _ _) (run_addN _ _ (by omega)) ?_
 simp only [Act.put, sA, sB, sC]
 generalize hmm : b / c * 8 + i / 8 = m at *
 generalize hnn : b % c * 8 + i % 8 = n at *
 have HMM := hid_ hmm
 have HNN := hid_ hnn
 clear hmm hnn
 refine lx_ex (by rfl) ?_; apply Exists.intro; refine ⟨fun w hw => ?_, ?_⟩; · (go_simp; with_reducible rfl)
 simp only [Act.put, sA, sB, sC]
 refine lx_ex (by rfl) ?_; apply Exists.intro; refine ⟨fun w hw => ?_, ?_⟩; · (go_simp; with_reducible rfl)
 simp only [Act.put, sA, sB, sC]
 refine lx_nil ?_
 intro w3 hx3
 go_wp2_with fail
 go_ret2
 rw [HMM.out, HNN.out]
 exact ⟨rfl, hx1'.trans hx3⟩
theorem zeroArea : (Tryz.prog.info? 128).bind (·.zero) = some (.agg #[.int .i64 0, .int .i64 0]) := by kernel_rfl
theorem all_one (l : List Value) (h : ∀ u ∈ l, u.oneCell' = true) : l.toArray.all (·.oneCell') = true :=
 Array.all_eq_true_iff_forall_mem.2 (fun v hv => h v (by simpa using hv))
theorem areaV_one (wd hi : Int) : (areaV wd hi).all (·.oneCell') = true := all_one [.int .i64 wd, .int .i64 hi] (by intro u hu; simp at hu; rcases hu with rfl | rfl <;> rfl)
theorem sides_ok {wd hi : Int} (h : sidesZ wd hi = 0) : ∃ a b : Nat, wd = (a : Int) ∧ hi = (b : Int) ∧ 1 ≤ a ∧ a ≤ 64 ∧ 1 ≤ b ∧ b ≤ 64 := by
 unfold sidesZ at h
 cases h1 : inB wd 1 64 with
 | false => rw [h1] at h; cases h
 | true =>
   cases h2 : inB hi 1 64 with
   | false => rw [h1, h2] at h; cases h
   | true =>
     have := inB_iff.1 h1
     have := inB_iff.1 h2
     exact ⟨wd.toNat, hi.toNat, by omega, by omega, by omega, by omega, by omega, by omega⟩
theorem sides_no {wd hi : Int} (h : sidesZ wd hi ≠ 0) : sidesZ wd hi = 1 := by
 unfold sidesZ at h ⊢
 split
 ·next h2 => rw [if_pos h2] at h; exact absurd rfl h
 ·rfl
def manyZ (wd hi : Int) : Int := if sidesZ wd hi = 0 then (((wd.toNat + 7) / 8 * ((hi.toNat + 7) / 8) : Nat) : Int) else 0
set_option maxRecDepth 20000 in
set_option maxHeartbeats 1000000 in
theorem Many_any (wd hi : Int) (w : World) :
 Calls Tryz.prog 65 #[.int .i64 wd, .int .i64 hi] w fun e w' => e = .returned (.tuple #[.int .i64 (manyZ wd hi), .int .i64 (sidesZ wd hi)]) ∧ Ext w w' := by
 have HK := hid_ (fun W => areaCheck_any wd hi W)
 by_cases h : sidesZ wd hi = 0
 ·have HM : Hid (∀ W, Calls Tryz.prog 90 #[.agg (areaV wd hi)] W fun e w' => e = .returned (.int .i64 (manyZ wd hi)) ∧ Ext W w') := hid_ (by
   intro W
   unfold manyZ
   rw [if_pos h]
   obtain ⟨a, b, rfl, rfl, a1, a2, b1, b2⟩ := sides_ok h
   exact many_any a b W a1 a2 b1 b2)
  generalize manyZ wd hi = m at *
  rw [h] at HK ⊢
  clear h
  have hbv : #[Value.int .i64 wd, Value.int .i64 hi] = areaV wd hi := rfl
  have hts := hid_ (areaV_size wd hi)
  have ho := hid_ (areaV_one wd hi)
  generalize areaV wd hi = av at *
  go_enter Tryz.func65, Tryz.ntmps65
  go_wp2_with (first
   | (refine wAlo' rfl (some 6) rfl 128 rfl _ zeroArea ?_; intro w1 g hb1 hx1 hg)
   | (refine wStB rfl 128 (.tmp 6) (.tmp 10) rfl _ _ rfl rfl hb1 2 sizeArea hts.out rfl ho.out ?_; intro w2 hb2 hg2; have hx2 := hx1.grown hg2 (by omega))
   | (refine wLdB rfl 128 (.tmp 6) rfl _ rfl hb2 _ Tryz.underlying128 rfl 2 sizeArea hts.out ?_)
   | (go_at_call 87; (with_reducible refine (HK.out _).mono ?_); rintro e w3 ⟨rfl, hx3⟩; have hb3 := hb2.ext hx3)
   | (refine wLdB rfl 128 (.tmp 6) rfl _ rfl hb3 _ Tryz.underlying128 rfl 2 sizeArea hts.out ?_)
   | (go_at_call 90; (with_reducible refine (HM.out _).mono ?_); rintro e w4 ⟨rfl, hx4⟩))
  go_ret2
  exact ⟨rfl, (hx2.trans hx3).trans hx4⟩
 ·have e : manyZ wd hi = 0 := by unfold manyZ; rw [if_neg h]
  rw [e]
  have h1 := sides_no h
  rw [h1] at HK ⊢
  clear h h1 e
  have hbv : #[Value.int .i64 wd, Value.int .i64 hi] = areaV wd hi := rfl
  have hts := hid_ (areaV_size wd hi)
  have ho := hid_ (areaV_one wd hi)
  generalize areaV wd hi = av at *
  go_enter Tryz.func65, Tryz.ntmps65
  go_wp2_with (first
   | (refine wAlo' rfl (some 6) rfl 128 rfl _ zeroArea ?_; intro w1 g hb1 hx1 hg)
   | (refine wStB rfl 128 (.tmp 6) (.tmp 10) rfl _ _ rfl rfl hb1 2 sizeArea hts.out rfl ho.out ?_; intro w2 hb2 hg2; have hx2 := hx1.grown hg2 (by omega))
   | (refine wLdB rfl 128 (.tmp 6) rfl _ rfl hb2 _ Tryz.underlying128 rfl 2 sizeArea hts.out ?_)
   | (go_at_call 87; (with_reducible refine (HK.out _).mono ?_); rintro e w3 ⟨rfl, hx3⟩; have hb3 := hb2.ext hx3))
  go_ret2
  exact ⟨rfl, hx2.trans hx3⟩
def cutN (wd hi : Nat) : Nat := (wd + 7) / 8 * ((hi + 7) / 8)
def jidx (wd y x : Nat) : Nat := (y / 8 * ((wd + 7) / 8) + x / 8) * 64 + (y % 8 * 8 + x % 8)
def joinAt (Z : List Int) (wd y x : Nat) : Int := clampZ (Z.getD (jidx wd y x) 0 + 128) 0 255
def joinZ (Z : List Int) (wd hi : Nat) : List Int := (List.range (wd * hi)).map fun p => joinAt Z wd (p / wd) (p % wd)
theorem joinZ_len (Z : List Int) (wd hi : Nat) : (joinZ Z wd hi).length = wd * hi := by simp [joinZ]
theorem joinZ_at (Z : List Int) (wd hi y x : Nat) (hx : x < wd) (hy : y < hi) : (joinZ Z wd hi)[y * wd + x]? = some (joinAt Z wd y x) := by
 have h : y * wd + x < wd * hi := by
  have := Nat.mul_le_mul_right wd (show y + 1 ≤ hi by omega)
  rw [Nat.add_mul, Nat.mul_comm hi wd] at this
  omega
 unfold joinZ
 rw [List.getElem?_map, List.getElem?_range h]
 show some (joinAt Z wd ((y * wd + x) / wd) ((y * wd + x) % wd)) = _
 rw [Nat.add_comm, Nat.add_mul_div_right _ _ (by omega), Nat.add_mul_mod_self_right, Nat.div_eq_of_lt hx, Nat.mod_eq_of_lt hx, Nat.zero_add]
def joinMid (Z : List Int) (wd hi m : Nat) : List Int := (List.range (wd * hi)).map fun p => if jidx wd (p / wd) (p % wd) < m then joinAt Z wd (p / wd) (p % wd) else 0
theorem joinMid_len (Z : List Int) (wd hi m : Nat) : (joinMid Z wd hi m).length = wd * hi := by simp [joinMid]
theorem joinMid_zero (Z : List Int) (wd hi : Nat) : joinMid Z wd hi 0 = List.replicate (wd * hi) 0 := by
 unfold joinMid
 apply List.ext_getElem
 ·simp
 ·intro i h1 h2; simp
theorem jidx_at (wd k j : Nat) (hj : j < 64) : jidx wd (k / ((wd + 7) / 8) * 8 + j / 8) (k % ((wd + 7) / 8) * 8 + j % 8) = k * 64 + j := by
 unfold jidx
 generalize (wd + 7) / 8 = c
 have h1 : (k / c * 8 + j / 8) / 8 = k / c := by omega
 have h2 : (k / c * 8 + j / 8) % 8 = j / 8 := by omega
 have h3 : (k % c * 8 + j % 8) / 8 = k % c := by omega
 have h4 : (k % c * 8 + j % 8) % 8 = j % 8 := by omega
 rw [h1, h2, h3, h4, Nat.mul_comm (k / c) c, Nat.div_add_mod]
 omega
theorem jidx_inv (wd y x k j : Nat) (hx : x < wd) (hj : j < 64) (h : jidx wd y x = k * 64 + j) : k / ((wd + 7) / 8) * 8 + j / 8 = y ∧ k % ((wd + 7) / 8) * 8 + j % 8 = x := by
 unfold jidx at h
 have hc : x / 8 < (wd + 7) / 8 := by omega
 generalize (wd + 7) / 8 = c at *
 have h1 : y / 8 * c + x / 8 = k := by omega
 have h2 : y % 8 * 8 + x % 8 = j := by omega
 have h3 : k / c = y / 8 := by rw [← h1, Nat.add_comm, Nat.add_mul_div_right _ _ (by omega), Nat.div_eq_of_lt hc, Nat.zero_add]
 have h4 : k % c = x / 8 := by rw [← h1, Nat.add_comm, Nat.add_mul_mod_self_right, Nat.mod_eq_of_lt hc]
 rw [h3, h4]
 omega
theorem joinMid_set (Z : List Int) (wd hi k j : Nat) (hj : j < 64) (hr : k / ((wd + 7) / 8) * 8 + j / 8 < hi) (hq : k % ((wd + 7) / 8) * 8 + j % 8 < wd) :
 (joinMid Z wd hi (k * 64 + j)).set ((k / ((wd + 7) / 8) * 8 + j / 8) * wd + (k % ((wd + 7) / 8) * 8 + j % 8)) (clampZ (Z.getD (k * 64 + j) 0 + 128) 0 255) = joinMid Z wd hi (k * 64 + (j + 1)) := by
 have hi1 := jidx_at wd k j hj
 have hinv := fun y x hx h => jidx_inv wd y x k j hx hj h
 generalize k / ((wd + 7) / 8) * 8 + j / 8 = r at *
 generalize k % ((wd + 7) / 8) * 8 + j % 8 = q at *
 apply List.ext_getElem
 ·simp [joinMid_len]
 ·intro p h1 h2
  have hp : p < wd * hi := by simpa [joinMid_len] using h2
  have hw : 0 < wd := by omega
  rw [List.getElem_set]
  by_cases e : r * wd + q = p
  ·rw [if_pos e]
   have e1 : p / wd = r := by rw [← e, Nat.add_comm, Nat.add_mul_div_right _ _ hw, Nat.div_eq_of_lt hq, Nat.zero_add]
   have e2 : p % wd = q := by rw [← e, Nat.add_comm, Nat.add_mul_mod_self_right, Nat.mod_eq_of_lt hq]
   simp only [joinMid, List.getElem_map, List.getElem_range, e1, e2, joinAt, hi1]
   rw [if_pos (by omega)]
  ·rw [if_neg e]
   simp only [joinMid, List.getElem_map, List.getElem_range]
   have hne : jidx wd (p / wd) (p % wd) ≠ k * 64 + j := by
    intro h
    obtain ⟨a, b⟩ := hinv _ _ (Nat.mod_lt _ hw) h
    apply e
    rw [a, b, Nat.mul_comm, Nat.div_add_mod]
   by_cases hlt : jidx wd (p / wd) (p % wd) < k * 64 + j
   ·rw [if_pos hlt, if_pos (by omega)]
   ·rw [if_neg hlt, if_neg (by omega)]
theorem joinMid_skip (Z : List Int) (wd hi k j : Nat) (hj : j < 64) (h : ¬ (k / ((wd + 7) / 8) * 8 + j / 8 < hi ∧ k % ((wd + 7) / 8) * 8 + j % 8 < wd)) : joinMid Z wd hi (k * 64 + j) = joinMid Z wd hi (k * 64 + (j + 1)) := by
 have hinv := fun y x hx h => jidx_inv wd y x k j hx hj h
 unfold joinMid
 apply List.map_congr_left
 intro p hp
 have hp' : p < wd * hi := List.mem_range.1 hp
 rcases Nat.eq_zero_or_pos wd with h0 | hw
 ·subst h0; omega
 have hy : p / wd < hi := Nat.div_lt_of_lt_mul hp'
 have hne : jidx wd (p / wd) (p % wd) ≠ k * 64 + j := by
  intro h9
  obtain ⟨a, b⟩ := hinv _ _ (Nat.mod_lt _ hw) h9
  apply h
  rw [a, b]
  exact ⟨hy, Nat.mod_lt _ hw⟩
 by_cases hlt : jidx wd (p / wd) (p % wd) < k * 64 + j
 ·rw [if_pos hlt, if_pos (by omega)]
 ·rw [if_neg hlt, if_neg (by omega)]
theorem jidx_lt (wd hi y x : Nat) (hx : x < wd) (hy : y < hi) : jidx wd y x < cutN wd hi * 64 := by
 unfold jidx cutN
 have h1 : x / 8 < (wd + 7) / 8 := by omega
 have h2 : y / 8 < (hi + 7) / 8 := by omega
 generalize (wd + 7) / 8 = c at *
 generalize (hi + 7) / 8 = d at *
 have h3 : (y / 8 + 1) * c ≤ d * c := Nat.mul_le_mul_right _ h2
 rw [Nat.add_mul, Nat.mul_comm d c] at h3
 have h4 : y / 8 * c + x / 8 + 1 ≤ c * d := by omega
 have h5 := Nat.mul_le_mul_right 64 h4
 omega
theorem joinMid_all (Z : List Int) (wd hi : Nat) : joinMid Z wd hi (cutN wd hi * 64) = joinZ Z wd hi := by
 unfold joinMid joinZ
 apply List.map_congr_left
 intro p hp
 have hp' : p < wd * hi := List.mem_range.1 hp
 rcases Nat.eq_zero_or_pos wd with h0 | hw
 ·subst h0; omega
 rw [if_pos (jidx_lt wd hi _ _ (Nat.mod_lt _ hw) (Nat.div_lt_of_lt_mul hp'))]
def joinE (n : Nat) (Z : List Int) (wd hi : Int) (s : Int) : Int := if s = 0 then (if n = cutN wd.toNat hi.toNat then (if allIn Z (-40000) 40000 then 0 else 1) else 4) else 1
theorem join1_any (z : Int) (w : World) : Calls Tryz.prog 168 (#[.int .i64 z] ++ #[]) w fun e w' => e = .returned (.bool (!inB z (-40000) 40000)) ∧ w = w' := by
 by_cases h : z < -40000
 ·have h' : decide (z < -40000) = true := by simpa using h
  have e : inB z (-40000) 40000 = false := inB_not.2 (by omega)
  rw [e]; clear e
  go_enter Tryz.func168, Tryz.ntmps168
  go_wp2_with fail
  go_ret
  exact ⟨rfl, rfl⟩
 ·have h' : decide (z < -40000) = false := by simpa using h
  have e : (!inB z (-40000) 40000) = decide (40000 < z) := by rw [Bool.eq_iff_iff]; simp [inB]; omega
  rw [e]; clear e
  go_enter Tryz.func168, Tryz.ntmps168
  go_wp2_with fail
  go_ret
  exact ⟨rfl, rfl⟩
theorem enters_join1 : Enters Tryz.prog 168 := enters_of Tryz.func168 (by kernel_rfl) rfl
theorem blk_part {w : World} {A : Option Addr} {n c k : Nat} {Z : List Int} (hv : SL w 64 (.slice A n c) n (ints Z)) (hz : Z.length = n * 64) (hk : k < n) :
 ∃ ad zs, A = some ad ∧ ad.block < w.heap.size ∧ CellsAt w (ad.add (k * 64)) (ints zs) ∧ zs = (Z.drop (k * 64)).take 64 ∧ zs.length = 64 := by
 obtain ⟨ad, rfl, hab, hca⟩ := hv.part hk
 have e : ((ints Z).drop (k * 64)).take 64 = ints ((Z.drop (k * 64)).take 64) := by simp [ints, List.map_drop, List.map_take]
 exact ⟨ad, _, rfl, hab, by rw [← e]; exact hca, rfl, by rw [List.length_take, List.length_drop, hz]; omega⟩
theorem bv_sz {zs : List Int} (h : zs.length = 64) : (ints zs).toArray.size = 64 := by simp [ints_len, h]
theorem zero48s : (Value.agg (bv zeros64)).cells.size = 64 := by rw [show (Value.agg (bv zeros64)).cells = bv zeros64 from rfl, bv_size]; rfl
def JoinIs (n : Nat) (Z : List Int) (wd hi : Int) (w : World) (e : Ending) (w' : World) : Prop :=
 ∃ A m c, e = .returned (.tuple #[.slice A m c, .int .i64 (joinE n Z wd hi (sidesZ wd hi))]) ∧ m = (if joinE n Z wd hi (sidesZ wd hi) = 0 then wd.toNat * hi.toNat else 0) ∧ SL w' 1 (.slice A m c) m (ints (if joinE n Z wd hi (sidesZ wd hi) = 0 then joinZ Z wd.toNat hi.toNat else [])) ∧ Ext w w' ∧ ∀ ad, A = some ad → w.heap.size ≤ ad.block
theorem join_err {n : Nat} {Z : List Int} {wd hi : Int} {w w' : World} {e : Ending} {k : Int} (hk : joinE n Z wd hi (sidesZ wd hi) = k) (h0 : k ≠ 0) (he : e = .returned (.tuple #[.slice none 0 0, .int .i64 k])) (hx : Ext w w') : JoinIs n Z wd hi w e w' := by
 unfold JoinIs
 rw [hk]
 refine ⟨none, 0, 0, he, by rw [if_neg h0], ?_, hx, fun _ e => by cases e⟩
 rw [if_neg h0]
 exact SL.nil _ _
set_option maxRecDepth 20000 in
set_option maxHeartbeats 1000000 in
theorem join_sides (n : Nat) (Z : List Int) (v : Value) (wd hi : Int) (w : World) (hv : SL w 64 v n (ints Z)) (hz : Z.length = n * 64) (h : sidesZ wd hi ≠ 0) :
 Calls Tryz.prog 114 #[v, .int .i64 wd, .int .i64 hi] w fun e w' => e = .returned (.tuple #[.slice none 0 0, .int .i64 1]) ∧ Ext w w' := by
 have HK := hid_ (fun W => areaCheck_any wd hi W)
 rw [sides_no h] at HK
 clear h
 have hbv : #[Value.int .i64 wd, Value.int .i64 hi] = areaV wd hi := rfl
 have hts := hid_ (areaV_size wd hi)
 have ho := hid_ (areaV_one wd hi)
 have HZ0 := hid_ zero48
 generalize areaV wd hi = av at *
 have HZ := hid_ hz
 clear hz
 have hv' := hv
 obtain ⟨A, c, rfl, hc1, hc2, -, -⟩ := hv'
 go_enter Tryz.func114, Tryz.ntmps114
 go_wp2_with (first
               | (refine wAlo' rfl (some 8) rfl 128 rfl _ zeroArea ?_; intro w1 g hb1 hx1 hg)
               | (refine wStB rfl 128 (.tmp 8) (.tmp 21) rfl _ _ rfl rfl hb1 2 sizeArea hts.out rfl ho.out ?_; intro w2 hb2 hg2; have hx2 := hx1.grown hg2 (by omega))
               | (refine wLdB rfl 128 (.tmp 8) rfl _ rfl hb2 _ Tryz.underlying128 rfl 2 sizeArea hts.out ?_)
               | (go_at_call 87; (with_reducible refine (HK.out _).mono ?_); rintro e w3 ⟨rfl, hx3⟩; have hx23 := hx2.trans hx3; have hb3 := hb2.ext hx3))
 go_loopw [9, 35] (fun s i wr => ∃ k : Nat, k ≤ n ∧ i = .int .i64 (k : Int) ∧ s = .int .i64 1 ∧ Ext w wr) (fun _ i _ => n - (intOf i).toNat)
 case atStart => exact ⟨0, by omega, rfl, rfl, hx23⟩
 case round =>
  obtain ⟨k, hk, rfl, rfl, hx⟩ := hrel
  by_cases hlt : k < n
  ·obtain ⟨ad, zs, rfl, hab, hca, -, hl⟩ := blk_part (hv.ext hx) HZ.out hlt
   have HCA := hid_ hca
   have HL := hid_ hl
   clear hca hl
   go_wp2_with (first
    | (refine wpList_load_any (by rfl) 33 (.tmp 37) rfl (ad.add (k * 64)) rfl (ints zs) _ HCA.out Tryz.underlying33 rfl (by rw [ints_len, HL.out]; exact size48) ?_)
    | (refine wAlo' rfl (some 11) rfl 33 rfl _ HZ0.out ?_; intro w7 g7 hb7 hx7 hg7)
    | (refine wStB rfl 33 (.tmp 11) (.tmp 38) rfl _ _ rfl rfl hb7 64 size48 (bv_sz HL.out) zero48s (bv_one zs) ?_; intro w8 hb8 hg8; have hx8 := hx7.grown hg8 (by omega)))
   go_roundw
   case rel => exact ⟨k + 1, by omega, by go_num, rfl, hx.trans hx8⟩
   case measure => simp [intOf]; omega
  ·go_wp2_with fail
   go_ret2
   exact ⟨rfl, hx⟩
set_option maxRecDepth 20000 in
set_option maxHeartbeats 1000000 in
theorem join_many (n : Nat) (Z : List Int) (v : Value) (wd hi : Nat) (w : World) (hv : SL w 64 v n (ints Z)) (hz : Z.length = n * 64) (h0 : sidesZ wd hi = 0) (a1 : 1 ≤ wd) (a2 : wd ≤ 64) (b1 : 1 ≤ hi) (b2 : hi ≤ 64) (h : n ≠ cutN wd hi) :
 Calls Tryz.prog 114 #[v, .int .i64 wd, .int .i64 hi] w fun e w' => e = .returned (.tuple #[.slice none 0 0, .int .i64 4]) ∧ Ext w w' := by
 have HK := hid_ (fun W => areaCheck_any wd hi W)
 rw [h0] at HK
 clear h0
 have HM := hid_ (fun W => many_any wd hi W a1 a2 b1 b2)
 have hcn : (wd + 7) / 8 * ((hi + 7) / 8) = cutN wd hi := rfl
 rw [hcn] at HM
 clear hcn
 generalize cutN wd hi = N at *
 have hne : ((n : Int) != (N : Int)) = true := by simp; omega
 have hneq : (n == N) = false := by simpa using h
 clear h
 have hbv : #[Value.int .i64 wd, Value.int .i64 hi] = areaV wd hi := rfl
 have hts := hid_ (areaV_size wd hi)
 have ho := hid_ (areaV_one wd hi)
 have HZ0 := hid_ zero48
 generalize areaV wd hi = av at *
 have HZ := hid_ hz
 clear hz
 have hv' := hv
 obtain ⟨A, c, rfl, hc1, hc2, -, -⟩ := hv'
 go_enter Tryz.func114, Tryz.ntmps114
 go_wp2_with (first
               | (refine wAlo' rfl (some 8) rfl 128 rfl _ zeroArea ?_; intro w1 g hb1 hx1 hg)
               | (refine wStB rfl 128 (.tmp 8) (.tmp 21) rfl _ _ rfl rfl hb1 2 sizeArea hts.out rfl ho.out ?_; intro w2 hb2 hg2; have hx2 := hx1.grown hg2 (by omega))
               | (refine wLdB rfl 128 (.tmp 8) rfl _ rfl hb2 _ Tryz.underlying128 rfl 2 sizeArea hts.out ?_)
               | (go_at_call 87; (with_reducible refine (HK.out _).mono ?_); rintro e w3 ⟨rfl, hx3⟩; have hx23 := hx2.trans hx3; have hb3 := hb2.ext hx3)
               | (refine wpList_load_blk_g (by rfl) 128 (.tmp 8) rfl _ rfl hb3 _ Tryz.underlying128 rfl 2 sizeArea hts.out ?_)
               | (go_at_call 90; (with_reducible refine (HM.out _).mono ?_); rintro e w5 ⟨rfl, hx5⟩; have hb5 := hb3.ext hx5; have hx35 := hx23.trans hx5))
 go_loopw [9, 35] (fun s i wr => ∃ k : Nat, k ≤ n ∧ i = .int .i64 (k : Int) ∧ s = .int .i64 4 ∧ Ext w wr) (fun _ i _ => n - (intOf i).toNat)
 case atStart => exact ⟨0, by omega, rfl, rfl, hx35⟩
 case round =>
  obtain ⟨k, hk, rfl, rfl, hx⟩ := hrel
  by_cases hlt : k < n
  ·obtain ⟨ad, zs, rfl, hab, hca, -, hl⟩ := blk_part (hv.ext hx) HZ.out hlt
   have HCA := hid_ hca
   have HL := hid_ hl
   clear hca hl
   go_wp2_with (first
    | (refine wpList_load_any (by rfl) 33 (.tmp 37) rfl (ad.add (k * 64)) rfl (ints zs) _ HCA.out Tryz.underlying33 rfl (by rw [ints_len, HL.out]; exact size48) ?_)
    | (refine wAlo' rfl (some 11) rfl 33 rfl _ HZ0.out ?_; intro w7 g7 hb7 hx7 hg7)
    | (refine wStB rfl 33 (.tmp 11) (.tmp 38) rfl _ _ rfl rfl hb7 64 size48 (bv_sz HL.out) zero48s (bv_one zs) ?_; intro w8 hb8 hg8; have hx8 := hx7.grown hg8 (by omega)))
   go_roundw
   case rel => exact ⟨k + 1, by omega, by go_num, rfl, hx.trans hx8⟩
   case measure => simp [intOf]; omega
  ·go_wp2_with fail
   go_ret2
   exact ⟨rfl, hx⟩
theorem allIn_app (xs ys : List Int) (lo hi : Int) : allIn (xs ++ ys) lo hi = (allIn xs lo hi && allIn ys lo hi) := by simp [allIn]
theorem take_next (Z : List Int) (k : Nat) : Z.take ((k + 1) * 64) = Z.take (k * 64) ++ (Z.drop (k * 64)).take 64 := by
 rw [show (k + 1) * 64 = k * 64 + 64 by omega, List.take_add]
theorem join_bsl {w : World} {g : Nat} {t : TypeId} {zs : List Int} (h : Blk w g t (ints zs).toArray) (hl : zs.length = 64) : SL w 1 (.slice (some ⟨g, 0, none⟩) 64 64) zs.length (ints zs) := by
 have := Blk.bsl (zs := zs) (c := 64) h (by omega) (by omega)
 rwa [hl] at this ⊢
theorem clampI (z : Int) : min (max z 0) 255 = clampZ z 0 255 := min_max z 0 255 (by decide)
set_option maxRecDepth 20000 in
set_option maxHeartbeats 4000000 in
theorem join_in (n : Nat) (Z : List Int) (v : Value) (wd hi : Nat) (w : World) (hv : SL w 64 v n (ints Z)) (hz : Z.length = n * 64) (h0 : sidesZ wd hi = 0) (a1 : 1 ≤ wd) (a2 : wd ≤ 64) (b1 : 1 ≤ hi) (b2 : hi ≤ 64) (h : n = cutN wd hi) :
 Calls Tryz.prog 114 #[v, .int .i64 wd, .int .i64 hi] w (JoinIs n Z wd hi w) := by
 have HK := hid_ (fun W => areaCheck_any wd hi W)
 have HE : Hid (joinE n Z wd hi (sidesZ wd hi) = if allIn Z (-40000) 40000 then 0 else 1) := hid_ (by unfold joinE; rw [h0, if_pos rfl]; simp only [Int.toNat_natCast]; rw [if_pos h])
 rw [h0] at HK
 clear h0
 have HM := hid_ (fun W => many_any wd hi W a1 a2 b1 b2)
 have HP : Hid (∀ k j, k < 64 → j < 64 → ∃ r q : Nat, Hid (r = k / ((wd + 7) / 8) * 8 + j / 8 ∧ q = k % ((wd + 7) / 8) * 8 + j % 8) ∧ ∀ W, Calls Tryz.prog 91 #[.agg (areaV wd hi), .int .i64 (k : Int), .int .i64 (j : Int)] W fun e w' =>
  e = .returned (.tuple #[.int .i64 ((r : Nat) : Int), .int .i64 ((q : Nat) : Int)]) ∧ Ext W w') := hid_ fun k j hk hj => ⟨_, _, hid_ ⟨rfl, rfl⟩, fun W => place_any wd hi k j W a1 a2 hk hj⟩
 have hcn : (wd + 7) / 8 * ((hi + 7) / 8) = cutN wd hi := rfl
 rw [hcn, ← h] at HM
 clear hcn
 have hn64 : n ≤ 64 := by rw [h]; have : (wd + 7) / 8 * ((hi + 7) / 8) ≤ 8 * 8 := Nat.mul_le_mul (by omega) (by omega); exact this
 have HN := hid_ h
 clear h
 have HCF := hid_ (fun W u zs (hl : zs.length = 64) (hs : SL W 1 u zs.length (ints zs)) => containsFunc_any 168 #[] (fun z => !inB z (-40000) 40000) enters_join1 u zs W hs (fun z _ => join1_any z W))
 simp only [inB_any] at HCF
 have hm : wd * hi ≤ 64 * 64 := Nat.mul_le_mul a2 b2
 obtain ⟨n0, hn0⟩ : ∃ n0, wd * hi = n0 := ⟨_, rfl⟩
 have HN0 := hid_ hn0
 rw [hn0] at hm
 clear hn0
 have hbv : #[Value.int .i64 wd, Value.int .i64 hi] = areaV wd hi := rfl
 have hts := hid_ (areaV_size wd hi)
 have ho := hid_ (areaV_one wd hi)
 have HZ0 := hid_ zero48
 generalize areaV wd hi = av at *
 have HZ := hid_ hz
 clear hz
 have hv' := hv
 obtain ⟨A, c, rfl, hc1, hc2, -, -⟩ := hv'
 go_enter Tryz.func114, Tryz.ntmps114
 go_wp2_with (first
               | (refine wAlo' rfl (some 8) rfl 128 rfl _ zeroArea ?_; intro w1 g hb1 hx1 hg)
               | (refine wStB rfl 128 (.tmp 8) (.tmp 21) rfl _ _ rfl rfl hb1 2 sizeArea hts.out rfl ho.out ?_; intro w2 hb2 hg2; have hx2 := hx1.grown hg2 (by omega))
               | (refine wLdB rfl 128 (.tmp 8) rfl _ rfl hb2 _ Tryz.underlying128 rfl 2 sizeArea hts.out ?_)
               | (go_at_call 87; (with_reducible refine (HK.out _).mono ?_); rintro e w3 ⟨rfl, hx3⟩; have hx23 := hx2.trans hx3; have hb3 := hb2.ext hx3)
               | (refine wpList_load_blk_g (by rfl) 128 (.tmp 8) rfl _ rfl hb3 _ Tryz.underlying128 rfl 2 sizeArea hts.out ?_)
               | (go_at_call 90; (with_reducible refine (HM.out _).mono ?_); rintro e w5 ⟨rfl, hx5⟩; have hb5 := hb3.ext hx5; have hx35 := hx23.trans hx5))
 clear hb1 hb2 hb3 hx1 hx2 hx3 hx5 hx23 hg2 HK HM
 go_loopw [9, 35] (fun s i wr => ∃ (k : Nat) (b : Bool), k ≤ n ∧ i = .int .i64 (k : Int) ∧ s = .int .i64 (if b then 0 else 1) ∧ Hid (b = allIn (Z.take (k * 64)) (-40000) 40000) ∧ Blk wr g 128 av ∧ Ext w wr) (fun _ i _ => n - (intOf i).toNat)
 case atStart => exact ⟨0, true, by omega, rfl, rfl, hid_ (by simp [allIn]), hb5, hx35⟩
 case round =>
  clear hb5 hx35
  obtain ⟨k, b, hk, rfl, rfl, HB, hba, hx⟩ := hrel
  by_cases hlt : k < n
  ·obtain ⟨ad, zs, rfl, hab, hca, hzs, hl⟩ := blk_part (hv.ext hx) HZ.out hlt
   have HNX : Hid (allIn (Z.take ((k + 1) * 64)) (-40000) 40000 = (b && allIn zs (-40000) 40000)) := hid_ (by
    rw [HB.out, hzs, ← allIn_app, ← take_next])
   have HCA := hid_ hca
   have HL := hid_ hl
   clear hca hl hzs
   have HCF2 := hid_ (fun W u => HCF.out W u zs HL.out)
   generalize hq : allIn zs (-40000) 40000 = q at *
   clear hq
   cases b with
   | false =>
     go_wp2_with (first
      | (refine wpList_load_any (by rfl) 33 (.tmp 37) rfl (ad.add (k * 64)) rfl (ints zs) _ HCA.out Tryz.underlying33 rfl (by rw [ints_len, HL.out]; exact size48) ?_)
      | (refine wAlo' rfl (some 11) rfl 33 rfl _ HZ0.out ?_; intro w7 g7 hb7 hx7 hg7)
      | (refine wStB rfl 33 (.tmp 11) (.tmp 38) rfl _ _ rfl rfl hb7 64 size48 (bv_sz HL.out) zero48s (bv_one zs) ?_; intro w8 hb8 hg8; have hx8 := hx7.grown hg8 (by omega)))
     go_roundw
     case rel => exact ⟨k + 1, false, by omega, by go_num, rfl, hid_ (by rw [HNX.out]; rfl), (hba.ext hx8), hx.trans hx8⟩
     case measure => simp [intOf]; omega
   | true =>
     cases q with
     | true =>
       go_wp2_with (first
        | (refine wpList_load_any (by rfl) 33 (.tmp 37) rfl (ad.add (k * 64)) rfl (ints zs) _ HCA.out Tryz.underlying33 rfl (by rw [ints_len, HL.out]; exact size48) ?_)
        | (refine wAlo' rfl (some 11) rfl 33 rfl _ HZ0.out ?_; intro w7 g7 hb7 hx7 hg7)
        | (refine wStB rfl 33 (.tmp 11) (.tmp 38) rfl _ _ rfl rfl hb7 64 size48 (bv_sz HL.out) zero48s (bv_one zs) ?_; intro w8 hb8 hg8; have hx8 := hx7.grown hg8 (by omega))
        | (go_at_call 88; (with_reducible refine (HCF2.out _ _ (join_bsl hb8 HL.out)).mono ?_); rintro e w9 ⟨rfl, rfl⟩))
       go_roundw
       case rel => exact ⟨k + 1, true, by omega, by go_num, rfl, hid_ (by rw [HNX.out]; rfl), (hba.ext hx8), hx.trans hx8⟩
       case measure => simp [intOf]; omega
     | false =>
       go_wp2_with (first
        | (refine wpList_load_any (by rfl) 33 (.tmp 37) rfl (ad.add (k * 64)) rfl (ints zs) _ HCA.out Tryz.underlying33 rfl (by rw [ints_len, HL.out]; exact size48) ?_)
        | (refine wAlo' rfl (some 11) rfl 33 rfl _ HZ0.out ?_; intro w7 g7 hb7 hx7 hg7)
        | (refine wStB rfl 33 (.tmp 11) (.tmp 38) rfl _ _ rfl rfl hb7 64 size48 (bv_sz HL.out) zero48s (bv_one zs) ?_; intro w8 hb8 hg8; have hx8 := hx7.grown hg8 (by omega))
        | (go_at_call 88; (with_reducible refine (HCF2.out _ _ (join_bsl hb8 HL.out)).mono ?_); rintro e w9 ⟨rfl, rfl⟩))
       go_roundw
       case rel => exact ⟨k + 1, false, by omega, by go_num, rfl, hid_ (by rw [HNX.out]; rfl), (hba.ext hx8), hx.trans hx8⟩
       case measure => simp [intOf]; omega
  ·have ek : k = n := by omega
   have HA : Hid (allIn Z (-40000) 40000 = b) := hid_ (by rw [HB.out, ek, ← HZ.out, List.take_length])
   rw [ek]
   clear ek hk hlt HB
   cases b with
   | false =>
     go_wp2_with fail
     go_ret2
     exact join_err (by rw [HE.out, HA.out]; rfl) (by decide) rfl hx
   | true =>
     go_wp2_with (first
      | (refine wl_run rfl (.int .i64 ((n0 : Nat) : Int)) (by rw [← HN0.out]; exact ex_mulN (i := wd) (d := hi) rfl rfl rfl (by have := HN0.out; omega)) ?_)
      | (refine wpList_makeInts rfl (some 52) rfl _ _ rfl n0 (by omega) rfl rfl ?_; intro w6 gz hbz hx6 hgz; have hb6 := hba.ext hx6; have hxx := hx.trans hx6))
     have hgz0 : w.heap.size ≤ gz := by have := hx.size; omega
     have hbz0 : Blk w6 gz 3 (bv (joinMid Z wd hi 0)) := by rw [joinMid_zero, HN0.out]; exact hbz
     clear hbz hba hx hx6
     go_loopw [55] (fun i wr => ∃ k : Nat, k ≤ n ∧ i = .int .i64 (k : Int) ∧ Blk wr gz 3 (bv (joinMid Z wd hi (k * 64))) ∧ Blk wr g 128 av ∧ Ext w wr) (fun i _ => n - (intOf i).toNat)
     case atStart => exact ⟨0, by omega, rfl, hbz0, hb6, hxx⟩
     case round =>
      clear hbz0 hb6 hxx
      obtain ⟨k, hk, rfl, hbo, hba, hx⟩ := hrel
      by_cases hlt : k < n
      ·obtain ⟨ad, zs, rfl, hab, hca, hzs, hl⟩ := blk_part (hv.ext hx) HZ.out hlt
       have HCA := hid_ hca
       have HL := hid_ hl
       have HZS := hid_ hzs
       clear hca hl hzs
       go_wp2_with (first
        | (refine wpList_load_any (by rfl) 33 (.tmp 58) rfl (ad.add (k * 64)) rfl (ints zs) _ HCA.out Tryz.underlying33 rfl (by rw [ints_len, HL.out]; exact size48) ?_)
        | (refine wAlo' rfl (some 14) rfl 33 rfl _ HZ0.out ?_; intro w7 g7 hb7 hx7 hg7)
        | (refine wStB rfl 33 (.tmp 14) (.tmp 59) rfl _ _ rfl rfl hb7 64 size48 (bv_sz HL.out) zero48s (bv_one zs) ?_; intro w8 hb8 hg8; have hx8 := hx7.grown hg8 (by omega); have hbo8 := hbo.ext hx8; have hba8 := hba.ext hx8; have hxx8 := hx.trans hx8)
        | (refine wLdB rfl 33 (.tmp 14) rfl _ rfl hb8 _ Tryz.underlying33 rfl 64 size48 (bv_sz HL.out) ?_))
       have HBV : Hid (∀ j : Nat, j < 64 → ∃ z, (bv zs)[j]? = some (.int .i64 z) ∧ Hid (z = Z.getD (k * 64 + j) 0) ∧ -40000 ≤ z ∧ z ≤ 40000) := hid_ (fun j hj => by
        have hjl : j < zs.length := by rw [HL.out]; exact hj
        refine ⟨zs[j], bv_at zs j hjl, hid_ ?_, ?_⟩
        ·have e := List.getElem?_eq_getElem hjl
         have hzs := HZS.out
         subst hzs
         rw [List.getElem?_take_of_lt hj, List.getElem?_drop] at e
         rw [List.getD_eq_getElem?_getD, e]
         rfl
        ·have hmem : ∀ z ∈ zs, z ∈ Z := fun z hz => by
          rw [HZS.out] at hz
          exact List.mem_of_mem_drop (List.mem_of_mem_take hz)
         exact allIn_iff.1 HA.out _ (hmem _ (List.getElem_mem hjl)))
       have hbve : (ints zs).toArray = bv zs := rfl
       rw [hbve]
       generalize bv zs = cz at *
       clear hbo hba hx hb7 hx7 hg8 hx8
       go_loopw [61] (fun i wr => ∃ j : Nat, j ≤ 64 ∧ i = .int .i64 (j : Int) ∧ Blk wr gz 3 (bv (joinMid Z wd hi (k * 64 + j))) ∧ Blk wr g 128 av ∧ Ext w wr) (fun i _ => 64 - (intOf i).toNat)
       case atStart => exact ⟨0, by omega, rfl, hbo8, hba8, hxx8⟩
       case round =>
        clear hbo8 hba8 hxx8 hb8
        obtain ⟨j, hj, rfl, hbo, hba, hx⟩ := hrel
        by_cases hltj : j < 64
        ·obtain ⟨z, hcz, HZV, hz1, hz2⟩ := HBV.out j hltj
         have hat := fun W => run_index48 cz j _ hltj hcz W
         obtain ⟨r, q, HRQ, hcall⟩ := HP.out k j (by omega) hltj
         have HCALL := hid_ hcall
         clear hcall hcz
         by_cases hrq : r < hi ∧ q < wd
         ·obtain ⟨hr, hq⟩ := hrq
          have d1 : decide (r < hi) = true := by simpa using hr
          have d2 : decide (q < wd) = true := by simpa using hq
          go_upto_region 22 with (first
           | (refine wLdB rfl 128 (.tmp 8) rfl _ rfl hba _ Tryz.underlying128 rfl 2 sizeArea hts.out ?_)
           | (go_at_call 91; (with_reducible refine (HCALL.out _).mono ?_); rintro e w9 ⟨rfl, hx9⟩; have hbo9 := hbo.ext hx9; have hba9 := hba.ext hx9; have hxx9 := hx.trans hx9))
          have hpb : r * wd ≤ 64 * 64 := Nat.mul_le_mul (by omega) a2
          obtain ⟨p, hpx⟩ : ∃ p, r * wd + q = p := ⟨_, rfl⟩
          have HPX := hid_ hpx
          have hp : p < n0 := by
           have h9 := Nat.mul_le_mul_right wd (show r + 1 ≤ hi by omega)
           rw [Nat.add_mul, Nat.mul_comm hi wd, HN0.out] at h9
           omega
          clear hpx
          have HSZ : Hid (p < (bv (joinMid Z wd hi (k * 64 + j))).size) := hid_ (by rw [bv_size, joinMid_len, HN0.out]; exact hp)
          refine wp_region_lit ?_
          refine wl_run rfl (.slice (some ⟨gz, 0, none⟩) n0 n0) (ex_move rfl rfl) ?_
          simp only [Act.put, sA, sB, sC]
          refine wl_run rfl (.int .i64 ((r : Nat) : Int)) (ex_move rfl rfl) ?_
          simp only [Act.put, sA, sB, sC]
          refine wl_run rfl (.int .i64 ((wd : Nat) : Int)) (ex_move rfl rfl) ?_
          simp only [Act.put, sA, sB, sC]
          refine wl_run rfl (.int .i64 ((r * wd : Nat) : Int)) (ex_mulN (i := r) (d := wd) rfl rfl rfl (by omega)) ?_
          simp only [Act.put, sA, sB, sC]
          refine wl_run rfl (.int .i64 ((q : Nat) : Int)) (ex_move rfl rfl) ?_
          simp only [Act.put, sA, sB, sC]
          refine wl_run rfl (.int .i64 ((p : Nat) : Int)) (by rw [← HPX.out]; exact ex_addN (i := r * wd) (d := q) rfl rfl rfl (by omega)) ?_
          simp only [Act.put, sA, sB, sC]
          refine wl_run rfl (.int .i64 (z)) (ex_move rfl rfl) ?_
          simp only [Act.put, sA, sB, sC]
          refine wl_run rfl (.int .i64 (z + 128)) (ex_addI (i := z) (d := 128) rfl rfl rfl (by omega)) ?_
          simp only [Act.put, sA, sB, sC]
          refine wl_run rfl (.int .i64 (max (z + 128) 0)) (ex_maxI (i := z + 128) (d := 0) rfl rfl rfl) ?_
          simp only [Act.put, sA, sB, sC]
          refine wl_run rfl (.int .i64 (min (max (z + 128) 0) 255)) (ex_minI (i := max (z + 128) 0) (d := 255) rfl rfl rfl) ?_
          simp only [Act.put, sA, sB, sC]
          refine wl_run rfl (.pointer (some ⟨gz, p, none⟩)) (ex_ixSl0 Tryz.underlying22 sizeI rfl rfl rfl hp) ?_
          simp only [Act.put, sA, sB, sC]
          refine wl_storeI rfl (.tmp 90) (.tmp 89) rfl gz p (min (max (z + 128) 0) 255) rfl rfl hbo9 HSZ.out ?_
          simp only [Act.put, sA, sB, sC]
          have hb9 := hbo9.set_ p (.int .i64 (min (max (z + 128) 0) 255))
          have hset := joinMid_set Z wd hi k j hltj (by rw [← HRQ.out.1]; exact hr) (by rw [← HRQ.out.2]; exact hq)
          rw [← HRQ.out.1, ← HRQ.out.2, HPX.out, ← HZV.out] at hset
          rw [bv_set, clampI, hset] at hb9
          have hb10 := hba9.far (p := ⟨gz, p, none⟩) (hbo9.ne_ hba9 (by decide)).symm (.int .i64 (min (max (z + 128) 0) 255))
          have hx10 := hxx9.setCell (p := ⟨gz, p, none⟩) hgz0 (.int .i64 (min (max (z + 128) 0) 255))
          rw [clampI] at hb10 hx10 ⊢
          clear hset
          go_wp2_with fail
          go_roundw
          case rel => exact ⟨j + 1, by omega, by go_num, hb9, hb10, hx10⟩
          case measure => simp [intOf]; omega
         ·have HSK := hid_ (joinMid_skip Z wd hi k j hltj (by rw [← HRQ.out.1, ← HRQ.out.2]; exact hrq))
          rw [HSK.out] at hbo
          by_cases hr : r < hi
          ·have hq : ¬ q < wd := fun hq => hrq ⟨hr, hq⟩
           have d1 : decide (r < hi) = true := by simpa using hr
           have d2 : decide (q < wd) = false := by simpa using hq
           clear hrq
           go_wp2_with (first
            | (refine wLdB rfl 128 (.tmp 8) rfl _ rfl hba _ Tryz.underlying128 rfl 2 sizeArea hts.out ?_)
            | (go_at_call 91; (with_reducible refine (HCALL.out _).mono ?_); rintro e w9 ⟨rfl, hx9⟩; have hbo9 := hbo.ext hx9; have hba9 := hba.ext hx9; have hxx9 := hx.trans hx9))
           go_roundw
           case rel => exact ⟨j + 1, by omega, by go_num, hbo9, hba9, hxx9⟩
           case measure => simp [intOf]; omega
          ·have d1 : decide (r < hi) = false := by simpa using hr
           clear hrq
           go_wp2_with (first
            | (refine wLdB rfl 128 (.tmp 8) rfl _ rfl hba _ Tryz.underlying128 rfl 2 sizeArea hts.out ?_)
            | (go_at_call 91; (with_reducible refine (HCALL.out _).mono ?_); rintro e w9 ⟨rfl, hx9⟩; have hbo9 := hbo.ext hx9; have hba9 := hba.ext hx9; have hxx9 := hx.trans hx9))
           go_roundw
           case rel => exact ⟨j + 1, by omega, by go_num, hbo9, hba9, hxx9⟩
           case measure => simp [intOf]; omega
        ·have ej : j = 64 := by omega
         rw [ej]
         go_wp2_with fail
         go_roundw
         case rel => exact ⟨k + 1, by omega, by go_num, by rw [ej] at hbo; rw [show (k + 1) * 64 = k * 64 + 64 by omega]; exact hbo, hba, hx⟩
         case measure => simp [intOf]; omega
      ·have ek : k = n := by omega
       rw [ek] at hbo ⊢
       rw [HN.out, joinMid_all] at hbo
       go_wp2_with fail
       go_ret2
       have hE : joinE n Z wd hi (sidesZ wd hi) = 0 := by rw [HE.out, HA.out]; rfl
       unfold JoinIs
       rw [hE]
       refine ⟨some ⟨gz, 0, none⟩, n0, n0, rfl, ?_, ?_, hx, fun ad e => by cases e; exact hgz0⟩
       ·rw [if_pos rfl]; exact HN0.out.symm
       ·rw [if_pos rfl]
        have := hbo.bsl (c := n0) (by rw [joinZ_len, HN0.out]; omega) (by omega)
        rw [joinZ_len, HN0.out] at this
        exact this
theorem rmany_any (wd hi : Nat) (w : World) (a2 : wd ≤ 64) (b2 : hi ≤ 64) :
 Calls Tryz.prog 60 #[.int .i64 (wd : Int), .int .i64 (hi : Int)] w fun e w' => e = .returned (.int .i64 (((wd + 7) / 8 * ((hi + 7) / 8) : Nat) : Int)) ∧ w = w' := by
 have hm : (wd + 7) / 8 * ((hi + 7) / 8) ≤ 9 * 9 := Nat.mul_le_mul (by omega) (by omega)
 have hwr : IntKind.i64.wrap (((wd : Int) + 7) / 8 * (((hi : Int) + 7) / 8)) = (((wd + 7) / 8 * ((hi + 7) / 8) : Nat) : Int) := by
  have e : ((wd : Int) + 7) / 8 * (((hi : Int) + 7) / 8) = (((wd + 7) / 8 * ((hi + 7) / 8) : Nat) : Int) := by push_cast; rfl
  rw [e]
  exact IntWalk.i64_in _ (by omega)
 go_enter Tryz.func60, Tryz.ntmps60
 go_wp2_with fail
 go_ret
 refine ⟨?_, rfl⟩
 first
  | rfl
  | (rw [hwr]; rfl)
  | (congr 2)
theorem elt_blk : Elt Tryz.prog 25 33 64 512 := ⟨Tryz.underlying25, by kernel_rfl, by decide⟩
theorem zero48' : ((Tryz.prog.info? 33).bind (·.zero)).isSome = true := by rw [zero48]; rfl
theorem blk_sl1 {w : World} {g : Nat} {t : TypeId} {zs : List Int} (h : Blk w g t (bv zs)) (hz : zs.length = 64) : SL w 64 (.slice (some ⟨g, 0, none⟩) 1 1) 1 (ints zs) := by
 have := h.sl (size := 64) (n := 1) (c := 1) (by rw [bv_size, hz]) (by omega) (by omega)
 simpa [bv] using this
end Go.Proofs.YtkggcjdlpendfaaGreatDoor
