/- Contracts for the law RescueDecodesCard, part 5: what the functions that it reaches answer, for all arguments that the theorems name. -/
import Derived.Test.YtkggcjdlpendfaaGreatDoorMRescueDecodesCard4
namespace Go.Proofs.YtkggcjdlpendfaaGreatDoor
set_option linter.unusedVariables false
set_option linter.unusedSimpArgs false
open Go.RowKit
section
theorem builtNil3 : Tryz.prog.builtSlice 22 3 [(0, .slice none 0 0), (1, .slice none 0 0), (2, .slice none 0 0)] = some #[.slice none 0 0, .slice none 0 0, .slice none 0 0] := by
 show _ = _
 kernel_rfl
theorem rowNeI : 22 ≠ 3 := by decide
theorem zeroIT : ((Tryz.prog.info? 3).bind (·.zero)).isSome = true := by kernel_rfl
theorem Three.from_ {w w1 x : World} {B : Nat} {e : TypeId} {v0 v1 v2 : Value} {n0 n1 n2 : Nat} {x0 x1 x2 : List Value} {t0 t1 t2 : Option (Value × Nat)} (h : Three w1 x B e v0 v1 v2 n0 n1 n2 x0 x1 x2 t0 t1 t2) (hx : Ext w w1) : Three w x B e v0 v1 v2 n0 n1 n2 x0 x1 x2 t0 t1 t2 :=
 ⟨hx.trans h.ext, ⟨Nat.le_trans hx.size h.base.1, h.base.2⟩, h.p0, h.p1, h.p2, h.d01, h.d12, h.d20, h.a0, h.a1, h.a2⟩
theorem wl_storeV {ops : Array Oper} {Q : Exit → Act → World → Prop} {rest : List Oper} {o : Oper} {a : Act} {w : World} (hg : o.guard = none) (x y : Operand) (ho : o.op = .store 22 x y) (g i : Nat) (A : Option Addr) (n c : Nat) (hx : a.eval x = .pointer (some ⟨g, i, none⟩)) (hy : a.eval y = .slice A n c)
 {t : TypeId} {cs : Array Value} (hB : Blk w g t cs) (hi : i < cs.size) (h : wpList Tryz.prog ops Q rest (a.put o.dst undef) (w.setCell ⟨g, i, none⟩ (.slice A n c))) : wpList Tryz.prog ops Q (o :: rest) a w :=
 wpList_plain hg fun _ hK => by
  have hc := (hB.cell i).trans (Array.getElem?_eq_getElem hi)
  have hf := hB.frozen i
  unfold Oper.wp execOp
  simp only [ho, hx, hy]
  go_simp
  exact hK _ _ h
theorem three_store {w0 w : World} {B g : Nat} {e T : TypeId} {v0 v1 v2 : Value} {n0 n1 n2 : Nat} {x0 x1 x2 : List Value} {cs : Array Value} (h : Three w0 w B e v0 v1 v2 n0 n1 n2 x0 x1 x2 none none none) (hb : Blk w g T cs) (hne : e ≠ T) (hg : w0.heap.size ≤ g) (i : Nat) (u : Value) :
 Three w0 (w.setCell ⟨g, i, none⟩ u) B e v0 v1 v2 n0 n1 n2 x0 x1 x2 none none none := by
 have hu : Upd (fun b => b = g) w (w.setCell ⟨g, i, none⟩ u) := (Upd.refl (fun b => b = g) w).setCell (p := ⟨g, i, none⟩) rfl u
 exact ⟨hu.ext h.ext (fun x hx => by rw [hx]; exact hg), ⟨h.base.1, Nat.le_trans h.base.2 hu.size⟩, own_upd2 h.p0 hu (fun x hx q => own_blk_ne h.p0 hb hne (by rw [hx, q])), own_upd2 h.p1 hu (fun x hx q => own_blk_ne h.p1 hb hne (by rw [hx, q])), own_upd2 h.p2 hu (fun x hx q => own_blk_ne h.p2 hb hne (by rw [hx, q])), h.d01, h.d12, h.d20, fun _ _ q => (by cases q), fun _ _ q => (by cases q), fun _ _ q => (by cases q)⟩
theorem rturned_one (A : Option Addr) (n c : Nat) (L : List (List Int)) (F : Value) (w : World) (hr : RowsS w A n c L) (hn : n < 3) :
 Calls Tryz.prog 68 #[.slice A n c, F] w fun e w' => e = .returned (.slice A n c) ∧ w' = w := by
 have H13 : Hid (decide ((n : Int) < 3) = true) := hid_ (by rw [decide_eq_true_eq]; omega)
 clear hr hn
 go_enter Tryz.func68, Tryz.ntmps68
 go_wp2_with (first
  | ((with_reducible apply gS 13); refine wl_run rfl (.bool true) (ex_lss rfl rfl rfl H13.out) ?_))
 go_ret
 exact ⟨rfl, rfl⟩
attribute [local irreducible] turnRow
set_option maxRecDepth 20000 in
set_option maxHeartbeats 64000000 in
theorem rturned_three (f : FuncId) (t : Int → Int → Int → Four) (hf : TurnsBy f t) (hgo : Goes Tryz.prog f) (A : Option Addr) (c : Nat) (la lb lc : List Int) (N : Nat) (ha : la.length = N) (hb : lb.length = N) (hc : lc.length = N) (hN : N ≤ 1000000) (w : World) (hr : RowsS w A 3 c [la, lb, lc]) :
 Calls Tryz.prog 68 #[.slice A 3 c, .func (.func f) #[] #[]] w fun e w' => ∃ B k d, e = .returned (.slice B k d) ∧ RowsF w' w.heap.size B k d [turnRow (·.1) t la lb lc N, turnRow (·.2.1) t la lb lc N, turnRow (·.2.2.1) t la lb lc N] ∧ Ext w w' := by
 have HF := hid_ hf
 obtain ⟨pd, r0, B0, d0, rfl, hl0, hpb, hc0, hs0⟩ := hr.get (k := 0) (by omega)
 obtain ⟨pd1, r1, B1, d1, hp1, hl1, -, hc1, hs1⟩ := hr.get (k := 1) (by omega)
 obtain ⟨pd2, r2, B2, d2, hp2, hl2, -, hc2, hs2⟩ := hr.get (k := 2) (by omega)
 injection hl0 with hl0
 injection hl1 with hl1
 injection hl2 with hl2
 injection hp1 with hp1
 injection hp2 with hp2
 subst hl0 hl1 hl2 hp1 hp2
 rw [ha] at hc0
 rw [hb] at hc1
 rw [hc] at hc2
 have HC0 := hid_ (fun W (h : Ext w W) => (h.cell (p := pd.add 0) (by rw [block_of_add]; exact hpb)).trans hc0)
 have HC1 := hid_ (fun W (h : Ext w W) => (h.cell (p := pd.add 1) (by rw [block_of_add]; exact hpb)).trans hc1)
 have HC2 := hid_ (fun W (h : Ext w W) => (h.cell (p := pd.add 2) (by rw [block_of_add]; exact hpb)).trans hc2)
 have HRO0 := hid_ (fun i (h : i < N) => row_at hs0 (by rw [ha]; exact h))
 have HRO1 := hid_ (fun i (h : i < N) => row_at hs1 (by rw [hb]; exact h))
 have HRO2 := hid_ (fun i (h : i < N) => row_at hs2 (by rw [hc]; exact h))
 have hcell0 : w.cell? (pd.add 0) = some (.slice B0 N d0) := hc0
 have hcap := hr.cap
 have H13 : Hid (decide ((3 : Int) < 3) = false) := hid_ (by decide)
 have HA := hid_ ha
 clear hf hr hc0 hc1 hc2 hs0 hs1 hs2 ha hb hc
 go_enter Tryz.func68, Tryz.ntmps68
 go_wp2_with (first
  | ((with_reducible apply gS 13); refine wl_run rfl (.bool false) (ex_lss rfl rfl rfl H13.out) ?_)
  | ((with_reducible apply gS 15); refine Go.Great.wpList_buildSliceTo rfl 29 22 3 _ rfl _ rfl (some 15) rfl Tryz.underlying29 #[.slice none 0 0, .slice none 0 0, .slice none 0 0] (by simp [Act.eval]; exact builtNil3) ?_)
  | ((with_reducible apply gS 17); refine wl_run rfl (.pointer (some (pd.add (0 * 1)))) (ex_ixSl (i := 0) Tryz.underlying29 sizeRow rfl rfl rfl (by omega)) ?_)
  | ((with_reducible apply gS 18); refine wl_read rfl (.slice B0 N d0) (ex_loadL rfl rfl (HC0.out _ ((Ext.refl w).alloc _))) ?_))
 have hgb0 := Blk.new w 22 #[.slice none 0 0, .slice none 0 0, .slice none 0 0]
 have hx1 := (Ext.refl w).alloc (.cells #[.slice none 0 0, .slice none 0 0, .slice none 0 0] 22)
 have h3 := Three.nil (w.alloc (.cells #[.slice none 0 0, .slice none 0 0, .slice none 0 0] 22)) 3
 generalize w.alloc (.cells #[.slice none 0 0, .slice none 0 0, .slice none 0 0] 22) = w1 at *
 obtain ⟨g0, hg0⟩ : ∃ g0, w.heap.size = g0 := ⟨_, rfl⟩
 have hg0w : w.heap.size ≤ g0 := by omega
 rw [hg0] at hgb0 ⊢
 clear hg0 hcell0
 have HX1 := hid_ hx1
 have T0 : ∀ s : Four → Int, Hid (turnRow s t la lb lc 0 = []) := fun s => hid_ (by rw [turnRow])
 have HT0 := hid_ T0
 have h3' : Three w w1 w1.heap.size 3 (.slice none 0 0) (.slice none 0 0) (.slice none 0 0) 0 0 0 (ints (turnRow (·.1) t la lb lc 0)) (ints (turnRow (·.2.1) t la lb lc 0)) (ints (turnRow (·.2.2.1) t la lb lc 0)) none none none := by
  rw [(T0 (·.1)).out, (T0 (·.2.1)).out, (T0 (·.2.2.1)).out]; exact h3.from_ HX1.out
 clear hx1 T0 h3
 go_loopw [20] (fun iv wr => ∃ (i : Nat) (A0 A1 A2 : Option Addr) (c0 c1 c2 : Nat), i ≤ N ∧ iv = .int .i64 (i : Int) ∧ Three w wr w1.heap.size 3 (.slice A0 i c0) (.slice A1 i c1) (.slice A2 i c2) i i i (ints (turnRow (·.1) t la lb lc i)) (ints (turnRow (·.2.1) t la lb lc i)) (ints (turnRow (·.2.2.1) t la lb lc i)) none none none ∧ Blk wr g0 22 #[.slice A0 i c0, .slice A1 i c1, .slice A2 i c2] ∧ Upd (fun b => b = g0) w1 wr) (fun i _ => N - (intOf i).toNat)
 case atStart => exact ⟨0, none, none, none, 0, 0, 0, by omega, rfl, h3', hgb0, Upd.refl _ _⟩
 case round =>
  clear h3' hgb0
  obtain ⟨i, A0, A1, A2, c0, c1, c2, hi, rfl, h3, hgb, hu⟩ := hrel
  have hxr : Ext w wr := hu.ext HX1.out (fun x hx => by rw [hx]; exact hg0w)
  by_cases hlt : i < N
  ·obtain ⟨q0, rfl, hqb0, hqc0⟩ := HRO0.out i hlt
   obtain ⟨q1, rfl, hqb1, hqc1⟩ := HRO1.out i hlt
   obtain ⟨q2, rfl, hqb2, hqc2⟩ := HRO2.out i hlt
   have HQ0 := hid_ (fun W (h : Ext w W) => (h.cell (p := q0.add i) (by rw [block_of_add]; exact hqb0)).trans hqc0)
   have HQ1 := hid_ (fun W (h : Ext w W) => (h.cell (p := q1.add i) (by rw [block_of_add]; exact hqb1)).trans hqc1)
   have HQ2 := hid_ (fun W (h : Ext w W) => (h.cell (p := q2.add i) (by rw [block_of_add]; exact hqb2)).trans hqc2)
   clear hqb0 hqc0 hqb1 hqc1 hqb2 hqc2
   generalize hpa : la.getD i 0 = pa at *
   generalize hpb : lb.getD i 0 = pb at *
   generalize hpc : lc.getD i 0 = pc at *
   have HTN : Hid (∀ s : Four → Int, turnRow s t la lb lc (i + 1) = turnRow s t la lb lc i ++ [s (t pa pb pc)]) := hid_ (fun s => by rw [turnRow, hpa, hpb, hpc])
   have HFC := hid_ (fun W => HF.out pa pb pc W)
   clear hpa hpb hpc
   obtain ⟨z0, z1, z2, z3⟩ : Four := t pa pb pc
   generalize ht : t pa pb pc = z at *
   obtain ⟨z0, z1, z2, z3⟩ := z
   dsimp only at HFC
   have HT0 := hid_ (HTN.out (·.1))
   have HT1 := hid_ (HTN.out (·.2.1))
   have HT2 := hid_ (HTN.out (·.2.2.1))
   dsimp only at HT0 HT1 HT2
   clear HTN ht
   generalize turnRow (·.1) t la lb lc i = X0 at *
   generalize turnRow (·.2.1) t la lb lc i = X1 at *
   generalize turnRow (·.2.2.1) t la lb lc i = X2 at *
   go_wp2_with fail
   have hx8d : Ext w wr.drew := hxr.drew
   have hI : Ext wr.drew wr.drew := Ext.refl _
   refine wp_region_oi (Ext wr.drew) (by kernel_rfl) ?_
   refine oi_run (k := 0) (by kernel_rfl) rfl (by rfl) (.func (.func f) #[] #[]) (ex_move rfl rfl) hI ?_
   simp only [Act.put, sA, sB, sC]
   refine oi_run (k := 1) (by kernel_rfl) rfl (by rfl) (.slice (some pd) 3 c) (ex_move rfl rfl) hI ?_
   simp only [Act.put, sA, sB, sC]
   refine oi_run (k := 2) (by kernel_rfl) rfl (by rfl) (.pointer (some (pd.add (0 * 1)))) (ex_ixSl (i := 0) Tryz.underlying29 sizeRow rfl rfl rfl (by omega)) hI ?_
   simp only [Act.put, sA, sB, sC]
   refine oi_fix (k := 3) (by kernel_rfl) rfl (by rfl) (.slice (some q0) N d0) (fun W hW => ex_loadL rfl rfl (HC0.out W (hx8d.trans hW))) hI ?_
   simp only [Act.put, sA, sB, sC]
   refine oi_run (k := 4) (by kernel_rfl) rfl (by rfl) (.int .i64 (i : Int)) (ex_move rfl rfl) hI ?_
   simp only [Act.put, sA, sB, sC]
   refine oi_run (k := 5) (by kernel_rfl) rfl (by rfl) (.pointer (some (q0.add (i * 1)))) (ex_ixSl Tryz.underlying22 sizeI rfl rfl rfl hlt) hI ?_
   simp only [Act.put, sA, sB, sC]
   refine oi_fix (k := 6) (by kernel_rfl) rfl (by rfl) (.int .i64 pa) (fun W hW => ex_loadI rfl rfl (by rw [Nat.mul_one]; exact HQ0.out W (hx8d.trans hW))) hI ?_
   simp only [Act.put, sA, sB, sC]
   refine oi_run (k := 7) (by kernel_rfl) rfl (by rfl) (.slice (some pd) 3 c) (ex_move rfl rfl) hI ?_
   simp only [Act.put, sA, sB, sC]
   refine oi_run (k := 8) (by kernel_rfl) rfl (by rfl) (.pointer (some (pd.add (1 * 1)))) (ex_ixSl (i := 1) Tryz.underlying29 sizeRow rfl rfl rfl (by omega)) hI ?_
   simp only [Act.put, sA, sB, sC]
   refine oi_fix (k := 9) (by kernel_rfl) rfl (by rfl) (.slice (some q1) N d1) (fun W hW => ex_loadL rfl rfl (HC1.out W (hx8d.trans hW))) hI ?_
   simp only [Act.put, sA, sB, sC]
   refine oi_run (k := 10) (by kernel_rfl) rfl (by rfl) (.int .i64 (i : Int)) (ex_move rfl rfl) hI ?_
   simp only [Act.put, sA, sB, sC]
   refine oi_run (k := 11) (by kernel_rfl) rfl (by rfl) (.pointer (some (q1.add (i * 1)))) (ex_ixSl Tryz.underlying22 sizeI rfl rfl rfl hlt) hI ?_
   simp only [Act.put, sA, sB, sC]
   refine oi_fix (k := 12) (by kernel_rfl) rfl (by rfl) (.int .i64 pb) (fun W hW => ex_loadI rfl rfl (by rw [Nat.mul_one]; exact HQ1.out W (hx8d.trans hW))) hI ?_
   simp only [Act.put, sA, sB, sC]
   refine oi_run (k := 13) (by kernel_rfl) rfl (by rfl) (.slice (some pd) 3 c) (ex_move rfl rfl) hI ?_
   simp only [Act.put, sA, sB, sC]
   refine oi_run (k := 14) (by kernel_rfl) rfl (by rfl) (.pointer (some (pd.add (2 * 1)))) (ex_ixSl (i := 2) Tryz.underlying29 sizeRow rfl rfl rfl (by omega)) hI ?_
   simp only [Act.put, sA, sB, sC]
   refine oi_fix (k := 15) (by kernel_rfl) rfl (by rfl) (.slice (some q2) N d2) (fun W hW => ex_loadL rfl rfl (HC2.out W (hx8d.trans hW))) hI ?_
   simp only [Act.put, sA, sB, sC]
   refine oi_run (k := 16) (by kernel_rfl) rfl (by rfl) (.int .i64 (i : Int)) (ex_move rfl rfl) hI ?_
   simp only [Act.put, sA, sB, sC]
   refine oi_run (k := 17) (by kernel_rfl) rfl (by rfl) (.pointer (some (q2.add (i * 1)))) (ex_ixSl Tryz.underlying22 sizeI rfl rfl rfl hlt) hI ?_
   simp only [Act.put, sA, sB, sC]
   refine oi_fix (k := 18) (by kernel_rfl) rfl (by rfl) (.int .i64 pc) (fun W hW => ex_loadI rfl rfl (by rw [Nat.mul_one]; exact HQ2.out W (hx8d.trans hW))) hI ?_
   simp only [Act.put, sA, sB, sC]
   refine oi_loud (k := 19) (by kernel_rfl) rfl ?_
   refine wl_enter (by rfl) (run_callv _ _ _ rfl rfl hgo #[.int .i64 pa, .int .i64 pb, .int .i64 pc] (by simp [Act.eval])) ?_
   refine (HFC.out _).mono ?_
   rintro e9 w9 ⟨rfl, hx9⟩
   refine ⟨_, rfl, oi_end ⟨hx9, ?_⟩⟩
   simp only [Act.put, sA, sB, sC]
   refine oi_run (k := 20) (by kernel_rfl) rfl (by rfl) (.tuple #[.int .i64 z0, .int .i64 z1, .int .i64 z2, .int .i64 z3]) (ex_move rfl rfl) hx9 ?_
   simp only [Act.put, sA, sB, sC]
   refine oi_run (k := 21) (by kernel_rfl) rfl (by rfl) (.int .i64 z0) (ex_extract rfl rfl rfl) hx9 ?_
   simp only [Act.put, sA, sB, sC]
   refine oi_run (k := 22) (by kernel_rfl) rfl (by rfl) (.int .i64 z1) (ex_extract rfl rfl rfl) hx9 ?_
   simp only [Act.put, sA, sB, sC]
   refine oi_run (k := 23) (by kernel_rfl) rfl (by rfl) (.int .i64 z2) (ex_extract rfl rfl rfl) hx9 ?_
   simp only [Act.put, sA, sB, sC]
   refine oi_run (k := 24) (by kernel_rfl) rfl (by rfl) (.int .i64 z3) (ex_extract rfl rfl rfl) hx9 ?_
   simp only [Act.put, sA, sB, sC]
   refine oi_run (k := 25) (by kernel_rfl) rfl (by rfl) (.int .i64 z0) (ex_assign rfl rfl) hx9 ?_
   simp only [Act.put, sA, sB, sC]
   refine oi_run (k := 26) (by kernel_rfl) rfl (by rfl) (.int .i64 z1) (ex_assign rfl rfl) hx9 ?_
   simp only [Act.put, sA, sB, sC]
   refine oi_run (k := 27) (by kernel_rfl) rfl (by rfl) (.int .i64 z2) (ex_assign rfl rfl) hx9 ?_
   simp only [Act.put, sA, sB, sC]
   refine oi_run (k := 28) (by kernel_rfl) rfl (by rfl) (.int .i64 z3) (ex_assign rfl rfl) hx9 ?_
   simp only [Act.put, sA, sB, sC]
   refine oi_done (by kernel_rfl) ?_
   have hx9r : Ext wr w9 := (Ext.refl wr).drew.trans hx9
   have H3 := (h3.later hx9r).later (Ext.refl w9).drew
   have HGB := (hgb.ext hx9r).drew
   have hu9 : Upd (fun b => b = g0) w1 w9.drew := (hu.trans (Upd.of_ext (S := fun _ => False) hx9r) (fun x h => h.elim)).drew
   clear hI hx8d hx9 hx9r hgb h3 hxr hu
   go_wp2_with fail
   refine wp_region_of (fun j => !(j == 1 || j == 2 || j == 21 || j == 22 || j == 23 || j == 24 || j == 25 || j == 26)) (fun W => Blk W g0 22 #[.slice A0 i c0, .slice A1 i c1, .slice A2 i c2]) (by kernel_rfl) ?_
   refine og_pure (k := 1) (by kernel_rfl) rfl (by rfl) (.slice (some ⟨g0, 0, none⟩) 3 3) (ex_move rfl rfl) ?_
   simp only [Act.put, sA, sB, sC]
   refine og_pure (k := 2) (by kernel_rfl) rfl (by rfl) (.slice (some ⟨g0, 0, none⟩) 3 3) (ex_move rfl rfl) ?_
   simp only [Act.put, sA, sB, sC]
   refine og_run (k := 0) (by kernel_rfl) rfl (by rfl) (.slice (some ⟨g0, 0, none⟩) 3 3) (ex_move rfl rfl) HGB ?_
   simp only [Act.put, sA, sB, sC]
   refine og_run (k := 3) (by kernel_rfl) rfl (by rfl) (.slice (some ⟨g0, 0, none⟩) 3 3) (ex_move rfl rfl) HGB ?_
   simp only [Act.put, sA, sB, sC]
   refine og_run (k := 4) (by kernel_rfl) rfl (by rfl) (.pointer (some ⟨g0, 0, none⟩)) (ex_ixSl0 (i := 0) Tryz.underlying29 sizeRow rfl rfl rfl (by omega)) HGB ?_
   simp only [Act.put, sA, sB, sC]
   refine og_fix (k := 5) (by kernel_rfl) rfl (by rfl) (.slice A0 i c0) (fun W hW => ex_loadL rfl rfl (by rw [hW.cell]; rfl)) HGB ?_
   simp only [Act.put, sA, sB, sC]
   refine og_run (k := 6) (by kernel_rfl) rfl (by rfl) (.int .i64 z0) (ex_move rfl rfl) HGB ?_
   simp only [Act.put, sA, sB, sC]
   refine og_run (k := 9) (by kernel_rfl) rfl (by rfl) (.slice (some ⟨g0, 0, none⟩) 3 3) (ex_move rfl rfl) HGB ?_
   simp only [Act.put, sA, sB, sC]
   refine og_run (k := 10) (by kernel_rfl) rfl (by rfl) (.pointer (some ⟨g0, 1, none⟩)) (ex_ixSl1 (i := 1) Tryz.underlying29 sizeRow rfl rfl rfl (by omega)) HGB ?_
   simp only [Act.put, sA, sB, sC]
   refine og_fix (k := 11) (by kernel_rfl) rfl (by rfl) (.slice A1 i c1) (fun W hW => ex_loadL rfl rfl (by rw [hW.cell]; rfl)) HGB ?_
   simp only [Act.put, sA, sB, sC]
   refine og_run (k := 12) (by kernel_rfl) rfl (by rfl) (.int .i64 z1) (ex_move rfl rfl) HGB ?_
   simp only [Act.put, sA, sB, sC]
   refine og_run (k := 15) (by kernel_rfl) rfl (by rfl) (.slice (some ⟨g0, 0, none⟩) 3 3) (ex_move rfl rfl) HGB ?_
   simp only [Act.put, sA, sB, sC]
   refine og_run (k := 16) (by kernel_rfl) rfl (by rfl) (.pointer (some ⟨g0, 2, none⟩)) (ex_ixSl1 (i := 2) Tryz.underlying29 sizeRow rfl rfl rfl (by omega)) HGB ?_
   simp only [Act.put, sA, sB, sC]
   refine og_fix (k := 17) (by kernel_rfl) rfl (by rfl) (.slice A2 i c2) (fun W hW => ex_loadL rfl rfl (by rw [hW.cell]; rfl)) HGB ?_
   simp only [Act.put, sA, sB, sC]
   refine og_run (k := 18) (by kernel_rfl) rfl (by rfl) (.int .i64 z2) (ex_move rfl rfl) HGB ?_
   simp only [Act.put, sA, sB, sC]
   refine og_three (k := 7) (l := 13) (m := 19) (by kernel_rfl) rfl rfl rfl ?_ ?_ ?_ 
   ·refine wLit1 rfl 22 3 (.tmp 54) rfl (some 55) rfl Tryz.underlying22 1 sizeI zeroIT _ rfl rfl (by omega) (by omega) ?_
    intro w1_ g1_ hb_ hx_ hg_
    have H1_ := H3.lit0 hb_ hx_ hg_
    have G1_ := HGB.ext hx_
    have U1_ := hu9.trans (Upd.of_ext (S := fun _ => False) hx_) (fun x h => h.elim)
    clear hb_ hx_ hg_ H3 HGB hu9
    refine oi_end ⟨fun _ => G1_, ?_⟩
    simp only [Act.put, sA, sB, sC]
    refine og_three (k := 8) (l := 13) (m := 19) (by kernel_rfl) rfl rfl rfl ?_ ?_ ?_ 
    ·refine wApf elt_intT rfl (.tmp 53) (.tmp 55) rfl w1.heap.size (.slice A0 i c0) i (ints X0) rfl H1_.p0 _ 1 (ints [z0]) rfl (blk_one (H1_.a0 _ _ rfl).1) (ints_one_mem _) (by omega) (by omega) H1_.base.2 ?_
     intro A2_ c2_ w2_ ho_ hgr_ hor_
     have H2_ := H1_.app0 ho_ hgr_ hor_
     have G2_ := G1_.grown hgr_ (own_blk_ne H1_.p0 G1_ (Ne.symm rowNeI))
     have U2_ := U1_.grown hgr_ (fun b hb => .inr (H1_.p0.lt b hb).1)
     clear ho_ hgr_ hor_ H1_ G1_ U1_
     refine oi_end ⟨fun _ => G2_, ?_⟩
     simp only [Act.put, sA, sB, sC]
     refine of_two (k := 13) (l := 19) (by kernel_rfl) rfl rfl ?_ ?_ 
     ·refine wLit1 rfl 22 3 (.tmp 60) rfl (some 61) rfl Tryz.underlying22 1 sizeI zeroIT _ rfl rfl (by omega) (by omega) ?_
      intro w3_ g3_ hb_ hx_ hg_
      have H3_ := H2_.lit1 hb_ hx_ hg_
      have G3_ := G2_.ext hx_
      have U3_ := U2_.trans (Upd.of_ext (S := fun _ => False) hx_) (fun x h => h.elim)
      clear hb_ hx_ hg_ H2_ G2_ U2_
      refine oi_end ⟨fun _ => G3_, ?_⟩
      simp only [Act.put, sA, sB, sC]
      refine of_two (k := 14) (l := 19) (by kernel_rfl) rfl rfl ?_ ?_ 
      ·refine wApf elt_intT rfl (.tmp 59) (.tmp 61) rfl w1.heap.size (.slice A1 i c1) i (ints X1) rfl H3_.p1 _ 1 (ints [z1]) rfl (blk_one (H3_.a1 _ _ rfl).1) (ints_one_mem _) (by omega) (by omega) H3_.base.2 ?_
       intro A4_ c4_ w4_ ho_ hgr_ hor_
       have H4_ := H3_.app1 ho_ hgr_ hor_
       have G4_ := G3_.grown hgr_ (own_blk_ne H3_.p1 G3_ (Ne.symm rowNeI))
       have U4_ := U3_.grown hgr_ (fun b hb => .inr (H3_.p1.lt b hb).1)
       clear ho_ hgr_ hor_ H3_ G3_ U3_
       refine oi_end ⟨fun _ => G4_, ?_⟩
       simp only [Act.put, sA, sB, sC]
       refine of_loud (k := 19) (by kernel_rfl) rfl ?_ 
       ·refine wLit1 rfl 22 3 (.tmp 66) rfl (some 67) rfl Tryz.underlying22 1 sizeI zeroIT _ rfl rfl (by omega) (by omega) ?_
        intro w5_ g5_ hb_ hx_ hg_
        have H5_ := H4_.lit2 hb_ hx_ hg_
        have G5_ := G4_.ext hx_
        have U5_ := U4_.trans (Upd.of_ext (S := fun _ => False) hx_) (fun x h => h.elim)
        clear hb_ hx_ hg_ H4_ G4_ U4_
        refine oi_end ⟨fun _ => G5_, ?_⟩
        simp only [Act.put, sA, sB, sC]
        refine of_loud (k := 20) (by kernel_rfl) rfl ?_ 
        ·refine wApf elt_intT rfl (.tmp 65) (.tmp 67) rfl w1.heap.size (.slice A2 i c2) i (ints X2) rfl H5_.p2 _ 1 (ints [z2]) rfl (blk_one (H5_.a2 _ _ rfl).1) (ints_one_mem _) (by omega) (by omega) H5_.base.2 ?_
         intro A6_ c6_ w6_ ho_ hgr_ hor_
         have H6_ := H5_.app2 ho_ hgr_ hor_
         have G6_ := G5_.grown hgr_ (own_blk_ne H5_.p2 G5_ (Ne.symm rowNeI))
         have U6_ := U5_.grown hgr_ (fun b hb => .inr (H5_.p2.lt b hb).1)
         clear ho_ hgr_ hor_ H5_ G5_ U5_
         refine oi_end ⟨fun _ => G6_, ?_⟩
         simp only [Act.put, sA, sB, sC]
         refine og_pure (k := 21) (by kernel_rfl) rfl (by rfl) (.pointer (some ⟨g0, 0, none⟩)) (ex_ixSl0 (i := 0) Tryz.underlying29 sizeRow rfl rfl rfl (by omega)) ?_
         simp only [Act.put, sA, sB, sC]
         refine of_loud (k := 22) (by kernel_rfl) rfl ?_
         refine wl_storeV rfl _ _ rfl g0 0 (A2_) (i + 1) (c2_) rfl rfl G6_ (by simp) ?_
         have G0 := G6_.set_ 0 (.slice A2_ (i + 1) c2_)
         have U0 := U6_.setCell (p := ⟨g0, 0, none⟩) (rfl) (.slice A2_ (i + 1) c2_)
         have H0 := three_store H6_ G6_ (Ne.symm rowNeI) hg0w 0 (.slice A2_ (i + 1) c2_)
         refine oi_end ⟨fun h => (by cases h), ?_⟩
         simp only [Act.put, sA, sB, sC]
         refine og_pure (k := 23) (by kernel_rfl) rfl (by rfl) (.pointer (some ⟨g0, 1, none⟩)) (ex_ixSl1 (i := 1) Tryz.underlying29 sizeRow rfl rfl rfl (by omega)) ?_
         simp only [Act.put, sA, sB, sC]
         refine of_loud (k := 24) (by kernel_rfl) rfl ?_
         refine wl_storeV rfl _ _ rfl g0 1 (A4_) (i + 1) (c4_) rfl rfl G0 (by simp) ?_
         have G1 := G0.set_ 1 (.slice A4_ (i + 1) c4_)
         have U1 := U0.setCell (p := ⟨g0, 1, none⟩) (rfl) (.slice A4_ (i + 1) c4_)
         have H1 := three_store H0 G0 (Ne.symm rowNeI) hg0w 1 (.slice A4_ (i + 1) c4_)
         refine oi_end ⟨fun h => (by cases h), ?_⟩
         simp only [Act.put, sA, sB, sC]
         refine og_pure (k := 25) (by kernel_rfl) rfl (by rfl) (.pointer (some ⟨g0, 2, none⟩)) (ex_ixSl1 (i := 2) Tryz.underlying29 sizeRow rfl rfl rfl (by omega)) ?_
         simp only [Act.put, sA, sB, sC]
         refine of_loud (k := 26) (by kernel_rfl) rfl ?_
         refine wl_storeV rfl _ _ rfl g0 2 (A6_) (i + 1) (c6_) rfl rfl G1 (by simp) ?_
         have G2 := G1.set_ 2 (.slice A6_ (i + 1) c6_)
         have U2 := U1.setCell (p := ⟨g0, 2, none⟩) (rfl) (.slice A6_ (i + 1) c6_)
         have H2 := three_store H1 G1 (Ne.symm rowNeI) hg0w 2 (.slice A6_ (i + 1) c6_)
         refine oi_end ⟨fun h => (by cases h), ?_⟩
         simp only [Act.put, sA, sB, sC]
         refine of_done (by kernel_rfl) ?_
         go_wp2_with fail
         go_roundw
         case rel => exact ⟨i + 1, A2_, A4_, A6_, c2_, c4_, c6_, by omega, by go_num, by rw [HT0.out, HT1.out, HT2.out, ints_app, ints_app, ints_app]; exact H2, G2, U2⟩
         case measure => simp [intOf]; omega
      ·refine wLit1 rfl 22 3 (.tmp 66) rfl (some 67) rfl Tryz.underlying22 1 sizeI zeroIT _ rfl rfl (by omega) (by omega) ?_
       intro w7_ g7_ hb_ hx_ hg_
       have H7_ := H3_.lit2 hb_ hx_ hg_
       have G7_ := G3_.ext hx_
       have U7_ := U3_.trans (Upd.of_ext (S := fun _ => False) hx_) (fun x h => h.elim)
       clear hb_ hx_ hg_ H3_ G3_ U3_
       refine oi_end ⟨fun _ => G7_, ?_⟩
       simp only [Act.put, sA, sB, sC]
       refine of_loud (k := 14) (by kernel_rfl) rfl ?_ 
       ·refine wApf elt_intT rfl (.tmp 59) (.tmp 61) rfl w1.heap.size (.slice A1 i c1) i (ints X1) rfl H7_.p1 _ 1 (ints [z1]) rfl (blk_one (H7_.a1 _ _ rfl).1) (ints_one_mem _) (by omega) (by omega) H7_.base.2 ?_
        intro A8_ c8_ w8_ ho_ hgr_ hor_
        have H8_ := H7_.app1 ho_ hgr_ hor_
        have G8_ := G7_.grown hgr_ (own_blk_ne H7_.p1 G7_ (Ne.symm rowNeI))
        have U8_ := U7_.grown hgr_ (fun b hb => .inr (H7_.p1.lt b hb).1)
        clear ho_ hgr_ hor_ H7_ G7_ U7_
        refine oi_end ⟨fun _ => G8_, ?_⟩
        simp only [Act.put, sA, sB, sC]
        refine of_loud (k := 20) (by kernel_rfl) rfl ?_ 
        ·refine wApf elt_intT rfl (.tmp 65) (.tmp 67) rfl w1.heap.size (.slice A2 i c2) i (ints X2) rfl H8_.p2 _ 1 (ints [z2]) rfl (blk_one (H8_.a2 _ _ rfl).1) (ints_one_mem _) (by omega) (by omega) H8_.base.2 ?_
         intro A9_ c9_ w9_ ho_ hgr_ hor_
         have H9_ := H8_.app2 ho_ hgr_ hor_
         have G9_ := G8_.grown hgr_ (own_blk_ne H8_.p2 G8_ (Ne.symm rowNeI))
         have U9_ := U8_.grown hgr_ (fun b hb => .inr (H8_.p2.lt b hb).1)
         clear ho_ hgr_ hor_ H8_ G8_ U8_
         refine oi_end ⟨fun _ => G9_, ?_⟩
         simp only [Act.put, sA, sB, sC]
         refine og_pure (k := 21) (by kernel_rfl) rfl (by rfl) (.pointer (some ⟨g0, 0, none⟩)) (ex_ixSl0 (i := 0) Tryz.underlying29 sizeRow rfl rfl rfl (by omega)) ?_
         simp only [Act.put, sA, sB, sC]
         refine of_loud (k := 22) (by kernel_rfl) rfl ?_
         refine wl_storeV rfl _ _ rfl g0 0 (A2_) (i + 1) (c2_) rfl rfl G9_ (by simp) ?_
         have G0 := G9_.set_ 0 (.slice A2_ (i + 1) c2_)
         have U0 := U9_.setCell (p := ⟨g0, 0, none⟩) (rfl) (.slice A2_ (i + 1) c2_)
         have H0 := three_store H9_ G9_ (Ne.symm rowNeI) hg0w 0 (.slice A2_ (i + 1) c2_)
         refine oi_end ⟨fun h => (by cases h), ?_⟩
         simp only [Act.put, sA, sB, sC]
         refine og_pure (k := 23) (by kernel_rfl) rfl (by rfl) (.pointer (some ⟨g0, 1, none⟩)) (ex_ixSl1 (i := 1) Tryz.underlying29 sizeRow rfl rfl rfl (by omega)) ?_
         simp only [Act.put, sA, sB, sC]
         refine of_loud (k := 24) (by kernel_rfl) rfl ?_
         refine wl_storeV rfl _ _ rfl g0 1 (A8_) (i + 1) (c8_) rfl rfl G0 (by simp) ?_
         have G1 := G0.set_ 1 (.slice A8_ (i + 1) c8_)
         have U1 := U0.setCell (p := ⟨g0, 1, none⟩) (rfl) (.slice A8_ (i + 1) c8_)
         have H1 := three_store H0 G0 (Ne.symm rowNeI) hg0w 1 (.slice A8_ (i + 1) c8_)
         refine oi_end ⟨fun h => (by cases h), ?_⟩
         simp only [Act.put, sA, sB, sC]
         refine og_pure (k := 25) (by kernel_rfl) rfl (by rfl) (.pointer (some ⟨g0, 2, none⟩)) (ex_ixSl1 (i := 2) Tryz.underlying29 sizeRow rfl rfl rfl (by omega)) ?_
         simp only [Act.put, sA, sB, sC]
         refine of_loud (k := 26) (by kernel_rfl) rfl ?_
         refine wl_storeV rfl _ _ rfl g0 2 (A9_) (i + 1) (c9_) rfl rfl G1 (by simp) ?_
         have G2 := G1.set_ 2 (.slice A9_ (i + 1) c9_)
         have U2 := U1.setCell (p := ⟨g0, 2, none⟩) (rfl) (.slice A9_ (i + 1) c9_)
         have H2 := three_store H1 G1 (Ne.symm rowNeI) hg0w 2 (.slice A9_ (i + 1) c9_)
         refine oi_end ⟨fun h => (by cases h), ?_⟩
         simp only [Act.put, sA, sB, sC]
         refine of_done (by kernel_rfl) ?_
         go_wp2_with fail
         go_roundw
         case rel => exact ⟨i + 1, A2_, A8_, A9_, c2_, c8_, c9_, by omega, by go_num, by rw [HT0.out, HT1.out, HT2.out, ints_app, ints_app, ints_app]; exact H2, G2, U2⟩
         case measure => simp [intOf]; omega
     ·refine wLit1 rfl 22 3 (.tmp 66) rfl (some 67) rfl Tryz.underlying22 1 sizeI zeroIT _ rfl rfl (by omega) (by omega) ?_
      intro w10_ g10_ hb_ hx_ hg_
      have H10_ := H2_.lit2 hb_ hx_ hg_
      have G10_ := G2_.ext hx_
      have U10_ := U2_.trans (Upd.of_ext (S := fun _ => False) hx_) (fun x h => h.elim)
      clear hb_ hx_ hg_ H2_ G2_ U2_
      refine oi_end ⟨fun _ => G10_, ?_⟩
      simp only [Act.put, sA, sB, sC]
      refine of_loud (k := 13) (by kernel_rfl) rfl ?_ 
      ·refine wLit1 rfl 22 3 (.tmp 60) rfl (some 61) rfl Tryz.underlying22 1 sizeI zeroIT _ rfl rfl (by omega) (by omega) ?_
       intro w11_ g11_ hb_ hx_ hg_
       have H11_ := H10_.lit1 hb_ hx_ hg_
       have G11_ := G10_.ext hx_
       have U11_ := U10_.trans (Upd.of_ext (S := fun _ => False) hx_) (fun x h => h.elim)
       clear hb_ hx_ hg_ H10_ G10_ U10_
       refine oi_end ⟨fun _ => G11_, ?_⟩
       simp only [Act.put, sA, sB, sC]
       refine of_loud (k := 14) (by kernel_rfl) rfl ?_ 
       ·refine wApf elt_intT rfl (.tmp 59) (.tmp 61) rfl w1.heap.size (.slice A1 i c1) i (ints X1) rfl H11_.p1 _ 1 (ints [z1]) rfl (blk_one (H11_.a1 _ _ rfl).1) (ints_one_mem _) (by omega) (by omega) H11_.base.2 ?_
        intro A12_ c12_ w12_ ho_ hgr_ hor_
        have H12_ := H11_.app1 ho_ hgr_ hor_
        have G12_ := G11_.grown hgr_ (own_blk_ne H11_.p1 G11_ (Ne.symm rowNeI))
        have U12_ := U11_.grown hgr_ (fun b hb => .inr (H11_.p1.lt b hb).1)
        clear ho_ hgr_ hor_ H11_ G11_ U11_
        refine oi_end ⟨fun _ => G12_, ?_⟩
        simp only [Act.put, sA, sB, sC]
        refine of_loud (k := 20) (by kernel_rfl) rfl ?_ 
        ·refine wApf elt_intT rfl (.tmp 65) (.tmp 67) rfl w1.heap.size (.slice A2 i c2) i (ints X2) rfl H12_.p2 _ 1 (ints [z2]) rfl (blk_one (H12_.a2 _ _ rfl).1) (ints_one_mem _) (by omega) (by omega) H12_.base.2 ?_
         intro A13_ c13_ w13_ ho_ hgr_ hor_
         have H13_ := H12_.app2 ho_ hgr_ hor_
         have G13_ := G12_.grown hgr_ (own_blk_ne H12_.p2 G12_ (Ne.symm rowNeI))
         have U13_ := U12_.grown hgr_ (fun b hb => .inr (H12_.p2.lt b hb).1)
         clear ho_ hgr_ hor_ H12_ G12_ U12_
         refine oi_end ⟨fun _ => G13_, ?_⟩
         simp only [Act.put, sA, sB, sC]
         refine og_pure (k := 21) (by kernel_rfl) rfl (by rfl) (.pointer (some ⟨g0, 0, none⟩)) (ex_ixSl0 (i := 0) Tryz.underlying29 sizeRow rfl rfl rfl (by omega)) ?_
         simp only [Act.put, sA, sB, sC]
         refine of_loud (k := 22) (by kernel_rfl) rfl ?_
         refine wl_storeV rfl _ _ rfl g0 0 (A2_) (i + 1) (c2_) rfl rfl G13_ (by simp) ?_
         have G0 := G13_.set_ 0 (.slice A2_ (i + 1) c2_)
         have U0 := U13_.setCell (p := ⟨g0, 0, none⟩) (rfl) (.slice A2_ (i + 1) c2_)
         have H0 := three_store H13_ G13_ (Ne.symm rowNeI) hg0w 0 (.slice A2_ (i + 1) c2_)
         refine oi_end ⟨fun h => (by cases h), ?_⟩
         simp only [Act.put, sA, sB, sC]
         refine og_pure (k := 23) (by kernel_rfl) rfl (by rfl) (.pointer (some ⟨g0, 1, none⟩)) (ex_ixSl1 (i := 1) Tryz.underlying29 sizeRow rfl rfl rfl (by omega)) ?_
         simp only [Act.put, sA, sB, sC]
         refine of_loud (k := 24) (by kernel_rfl) rfl ?_
         refine wl_storeV rfl _ _ rfl g0 1 (A12_) (i + 1) (c12_) rfl rfl G0 (by simp) ?_
         have G1 := G0.set_ 1 (.slice A12_ (i + 1) c12_)
         have U1 := U0.setCell (p := ⟨g0, 1, none⟩) (rfl) (.slice A12_ (i + 1) c12_)
         have H1 := three_store H0 G0 (Ne.symm rowNeI) hg0w 1 (.slice A12_ (i + 1) c12_)
         refine oi_end ⟨fun h => (by cases h), ?_⟩
         simp only [Act.put, sA, sB, sC]
         refine og_pure (k := 25) (by kernel_rfl) rfl (by rfl) (.pointer (some ⟨g0, 2, none⟩)) (ex_ixSl1 (i := 2) Tryz.underlying29 sizeRow rfl rfl rfl (by omega)) ?_
         simp only [Act.put, sA, sB, sC]
         refine of_loud (k := 26) (by kernel_rfl) rfl ?_
         refine wl_storeV rfl _ _ rfl g0 2 (A13_) (i + 1) (c13_) rfl rfl G1 (by simp) ?_
         have G2 := G1.set_ 2 (.slice A13_ (i + 1) c13_)
         have U2 := U1.setCell (p := ⟨g0, 2, none⟩) (rfl) (.slice A13_ (i + 1) c13_)
         have H2 := three_store H1 G1 (Ne.symm rowNeI) hg0w 2 (.slice A13_ (i + 1) c13_)
         refine oi_end ⟨fun h => (by cases h), ?_⟩
         simp only [Act.put, sA, sB, sC]
         refine of_done (by kernel_rfl) ?_
         go_wp2_with fail
         go_roundw
         case rel => exact ⟨i + 1, A2_, A12_, A13_, c2_, c12_, c13_, by omega, by go_num, by rw [HT0.out, HT1.out, HT2.out, ints_app, ints_app, ints_app]; exact H2, G2, U2⟩
         case measure => simp [intOf]; omega
    ·refine wLit1 rfl 22 3 (.tmp 60) rfl (some 61) rfl Tryz.underlying22 1 sizeI zeroIT _ rfl rfl (by omega) (by omega) ?_
     intro w14_ g14_ hb_ hx_ hg_
     have H14_ := H1_.lit1 hb_ hx_ hg_
     have G14_ := G1_.ext hx_
     have U14_ := U1_.trans (Upd.of_ext (S := fun _ => False) hx_) (fun x h => h.elim)
     clear hb_ hx_ hg_ H1_ G1_ U1_
     refine oi_end ⟨fun _ => G14_, ?_⟩
     simp only [Act.put, sA, sB, sC]
     refine of_two (k := 8) (l := 19) (by kernel_rfl) rfl rfl ?_ ?_ 
     ·refine wApf elt_intT rfl (.tmp 53) (.tmp 55) rfl w1.heap.size (.slice A0 i c0) i (ints X0) rfl H14_.p0 _ 1 (ints [z0]) rfl (blk_one (H14_.a0 _ _ rfl).1) (ints_one_mem _) (by omega) (by omega) H14_.base.2 ?_
      intro A15_ c15_ w15_ ho_ hgr_ hor_
      have H15_ := H14_.app0 ho_ hgr_ hor_
      have G15_ := G14_.grown hgr_ (own_blk_ne H14_.p0 G14_ (Ne.symm rowNeI))
      have U15_ := U14_.grown hgr_ (fun b hb => .inr (H14_.p0.lt b hb).1)
      clear ho_ hgr_ hor_ H14_ G14_ U14_
      refine oi_end ⟨fun _ => G15_, ?_⟩
      simp only [Act.put, sA, sB, sC]
      refine of_two (k := 14) (l := 19) (by kernel_rfl) rfl rfl ?_ ?_ 
      ·refine wApf elt_intT rfl (.tmp 59) (.tmp 61) rfl w1.heap.size (.slice A1 i c1) i (ints X1) rfl H15_.p1 _ 1 (ints [z1]) rfl (blk_one (H15_.a1 _ _ rfl).1) (ints_one_mem _) (by omega) (by omega) H15_.base.2 ?_
       intro A16_ c16_ w16_ ho_ hgr_ hor_
       have H16_ := H15_.app1 ho_ hgr_ hor_
       have G16_ := G15_.grown hgr_ (own_blk_ne H15_.p1 G15_ (Ne.symm rowNeI))
       have U16_ := U15_.grown hgr_ (fun b hb => .inr (H15_.p1.lt b hb).1)
       clear ho_ hgr_ hor_ H15_ G15_ U15_
       refine oi_end ⟨fun _ => G16_, ?_⟩
       simp only [Act.put, sA, sB, sC]
       refine of_loud (k := 19) (by kernel_rfl) rfl ?_ 
       ·refine wLit1 rfl 22 3 (.tmp 66) rfl (some 67) rfl Tryz.underlying22 1 sizeI zeroIT _ rfl rfl (by omega) (by omega) ?_
        intro w17_ g17_ hb_ hx_ hg_
        have H17_ := H16_.lit2 hb_ hx_ hg_
        have G17_ := G16_.ext hx_
        have U17_ := U16_.trans (Upd.of_ext (S := fun _ => False) hx_) (fun x h => h.elim)
        clear hb_ hx_ hg_ H16_ G16_ U16_
        refine oi_end ⟨fun _ => G17_, ?_⟩
        simp only [Act.put, sA, sB, sC]
        refine of_loud (k := 20) (by kernel_rfl) rfl ?_ 
        ·refine wApf elt_intT rfl (.tmp 65) (.tmp 67) rfl w1.heap.size (.slice A2 i c2) i (ints X2) rfl H17_.p2 _ 1 (ints [z2]) rfl (blk_one (H17_.a2 _ _ rfl).1) (ints_one_mem _) (by omega) (by omega) H17_.base.2 ?_
         intro A18_ c18_ w18_ ho_ hgr_ hor_
         have H18_ := H17_.app2 ho_ hgr_ hor_
         have G18_ := G17_.grown hgr_ (own_blk_ne H17_.p2 G17_ (Ne.symm rowNeI))
         have U18_ := U17_.grown hgr_ (fun b hb => .inr (H17_.p2.lt b hb).1)
         clear ho_ hgr_ hor_ H17_ G17_ U17_
         refine oi_end ⟨fun _ => G18_, ?_⟩
         simp only [Act.put, sA, sB, sC]
         refine og_pure (k := 21) (by kernel_rfl) rfl (by rfl) (.pointer (some ⟨g0, 0, none⟩)) (ex_ixSl0 (i := 0) Tryz.underlying29 sizeRow rfl rfl rfl (by omega)) ?_
         simp only [Act.put, sA, sB, sC]
         refine of_loud (k := 22) (by kernel_rfl) rfl ?_
         refine wl_storeV rfl _ _ rfl g0 0 (A15_) (i + 1) (c15_) rfl rfl G18_ (by simp) ?_
         have G0 := G18_.set_ 0 (.slice A15_ (i + 1) c15_)
         have U0 := U18_.setCell (p := ⟨g0, 0, none⟩) (rfl) (.slice A15_ (i + 1) c15_)
         have H0 := three_store H18_ G18_ (Ne.symm rowNeI) hg0w 0 (.slice A15_ (i + 1) c15_)
         refine oi_end ⟨fun h => (by cases h), ?_⟩
         simp only [Act.put, sA, sB, sC]
         refine og_pure (k := 23) (by kernel_rfl) rfl (by rfl) (.pointer (some ⟨g0, 1, none⟩)) (ex_ixSl1 (i := 1) Tryz.underlying29 sizeRow rfl rfl rfl (by omega)) ?_
         simp only [Act.put, sA, sB, sC]
         refine of_loud (k := 24) (by kernel_rfl) rfl ?_
         refine wl_storeV rfl _ _ rfl g0 1 (A16_) (i + 1) (c16_) rfl rfl G0 (by simp) ?_
         have G1 := G0.set_ 1 (.slice A16_ (i + 1) c16_)
         have U1 := U0.setCell (p := ⟨g0, 1, none⟩) (rfl) (.slice A16_ (i + 1) c16_)
         have H1 := three_store H0 G0 (Ne.symm rowNeI) hg0w 1 (.slice A16_ (i + 1) c16_)
         refine oi_end ⟨fun h => (by cases h), ?_⟩
         simp only [Act.put, sA, sB, sC]
         refine og_pure (k := 25) (by kernel_rfl) rfl (by rfl) (.pointer (some ⟨g0, 2, none⟩)) (ex_ixSl1 (i := 2) Tryz.underlying29 sizeRow rfl rfl rfl (by omega)) ?_
         simp only [Act.put, sA, sB, sC]
         refine of_loud (k := 26) (by kernel_rfl) rfl ?_
         refine wl_storeV rfl _ _ rfl g0 2 (A18_) (i + 1) (c18_) rfl rfl G1 (by simp) ?_
         have G2 := G1.set_ 2 (.slice A18_ (i + 1) c18_)
         have U2 := U1.setCell (p := ⟨g0, 2, none⟩) (rfl) (.slice A18_ (i + 1) c18_)
         have H2 := three_store H1 G1 (Ne.symm rowNeI) hg0w 2 (.slice A18_ (i + 1) c18_)
         refine oi_end ⟨fun h => (by cases h), ?_⟩
         simp only [Act.put, sA, sB, sC]
         refine of_done (by kernel_rfl) ?_
         go_wp2_with fail
         go_roundw
         case rel => exact ⟨i + 1, A15_, A16_, A18_, c15_, c16_, c18_, by omega, by go_num, by rw [HT0.out, HT1.out, HT2.out, ints_app, ints_app, ints_app]; exact H2, G2, U2⟩
         case measure => simp [intOf]; omega
      ·refine wLit1 rfl 22 3 (.tmp 66) rfl (some 67) rfl Tryz.underlying22 1 sizeI zeroIT _ rfl rfl (by omega) (by omega) ?_
       intro w19_ g19_ hb_ hx_ hg_
       have H19_ := H15_.lit2 hb_ hx_ hg_
       have G19_ := G15_.ext hx_
       have U19_ := U15_.trans (Upd.of_ext (S := fun _ => False) hx_) (fun x h => h.elim)
       clear hb_ hx_ hg_ H15_ G15_ U15_
       refine oi_end ⟨fun _ => G19_, ?_⟩
       simp only [Act.put, sA, sB, sC]
       refine of_loud (k := 14) (by kernel_rfl) rfl ?_ 
       ·refine wApf elt_intT rfl (.tmp 59) (.tmp 61) rfl w1.heap.size (.slice A1 i c1) i (ints X1) rfl H19_.p1 _ 1 (ints [z1]) rfl (blk_one (H19_.a1 _ _ rfl).1) (ints_one_mem _) (by omega) (by omega) H19_.base.2 ?_
        intro A20_ c20_ w20_ ho_ hgr_ hor_
        have H20_ := H19_.app1 ho_ hgr_ hor_
        have G20_ := G19_.grown hgr_ (own_blk_ne H19_.p1 G19_ (Ne.symm rowNeI))
        have U20_ := U19_.grown hgr_ (fun b hb => .inr (H19_.p1.lt b hb).1)
        clear ho_ hgr_ hor_ H19_ G19_ U19_
        refine oi_end ⟨fun _ => G20_, ?_⟩
        simp only [Act.put, sA, sB, sC]
        refine of_loud (k := 20) (by kernel_rfl) rfl ?_ 
        ·refine wApf elt_intT rfl (.tmp 65) (.tmp 67) rfl w1.heap.size (.slice A2 i c2) i (ints X2) rfl H20_.p2 _ 1 (ints [z2]) rfl (blk_one (H20_.a2 _ _ rfl).1) (ints_one_mem _) (by omega) (by omega) H20_.base.2 ?_
         intro A21_ c21_ w21_ ho_ hgr_ hor_
         have H21_ := H20_.app2 ho_ hgr_ hor_
         have G21_ := G20_.grown hgr_ (own_blk_ne H20_.p2 G20_ (Ne.symm rowNeI))
         have U21_ := U20_.grown hgr_ (fun b hb => .inr (H20_.p2.lt b hb).1)
         clear ho_ hgr_ hor_ H20_ G20_ U20_
         refine oi_end ⟨fun _ => G21_, ?_⟩
         simp only [Act.put, sA, sB, sC]
         refine og_pure (k := 21) (by kernel_rfl) rfl (by rfl) (.pointer (some ⟨g0, 0, none⟩)) (ex_ixSl0 (i := 0) Tryz.underlying29 sizeRow rfl rfl rfl (by omega)) ?_
         simp only [Act.put, sA, sB, sC]
         refine of_loud (k := 22) (by kernel_rfl) rfl ?_
         refine wl_storeV rfl _ _ rfl g0 0 (A15_) (i + 1) (c15_) rfl rfl G21_ (by simp) ?_
         have G0 := G21_.set_ 0 (.slice A15_ (i + 1) c15_)
         have U0 := U21_.setCell (p := ⟨g0, 0, none⟩) (rfl) (.slice A15_ (i + 1) c15_)
         have H0 := three_store H21_ G21_ (Ne.symm rowNeI) hg0w 0 (.slice A15_ (i + 1) c15_)
         refine oi_end ⟨fun h => (by cases h), ?_⟩
         simp only [Act.put, sA, sB, sC]
         refine og_pure (k := 23) (by kernel_rfl) rfl (by rfl) (.pointer (some ⟨g0, 1, none⟩)) (ex_ixSl1 (i := 1) Tryz.underlying29 sizeRow rfl rfl rfl (by omega)) ?_
         simp only [Act.put, sA, sB, sC]
         refine of_loud (k := 24) (by kernel_rfl) rfl ?_
         refine wl_storeV rfl _ _ rfl g0 1 (A20_) (i + 1) (c20_) rfl rfl G0 (by simp) ?_
         have G1 := G0.set_ 1 (.slice A20_ (i + 1) c20_)
         have U1 := U0.setCell (p := ⟨g0, 1, none⟩) (rfl) (.slice A20_ (i + 1) c20_)
         have H1 := three_store H0 G0 (Ne.symm rowNeI) hg0w 1 (.slice A20_ (i + 1) c20_)
         refine oi_end ⟨fun h => (by cases h), ?_⟩
         simp only [Act.put, sA, sB, sC]
         refine og_pure (k := 25) (by kernel_rfl) rfl (by rfl) (.pointer (some ⟨g0, 2, none⟩)) (ex_ixSl1 (i := 2) Tryz.underlying29 sizeRow rfl rfl rfl (by omega)) ?_
         simp only [Act.put, sA, sB, sC]
         refine of_loud (k := 26) (by kernel_rfl) rfl ?_
         refine wl_storeV rfl _ _ rfl g0 2 (A21_) (i + 1) (c21_) rfl rfl G1 (by simp) ?_
         have G2 := G1.set_ 2 (.slice A21_ (i + 1) c21_)
         have U2 := U1.setCell (p := ⟨g0, 2, none⟩) (rfl) (.slice A21_ (i + 1) c21_)
         have H2 := three_store H1 G1 (Ne.symm rowNeI) hg0w 2 (.slice A21_ (i + 1) c21_)
         refine oi_end ⟨fun h => (by cases h), ?_⟩
         simp only [Act.put, sA, sB, sC]
         refine of_done (by kernel_rfl) ?_
         go_wp2_with fail
         go_roundw
         case rel => exact ⟨i + 1, A15_, A20_, A21_, c15_, c20_, c21_, by omega, by go_num, by rw [HT0.out, HT1.out, HT2.out, ints_app, ints_app, ints_app]; exact H2, G2, U2⟩
         case measure => simp [intOf]; omega
     ·refine wLit1 rfl 22 3 (.tmp 66) rfl (some 67) rfl Tryz.underlying22 1 sizeI zeroIT _ rfl rfl (by omega) (by omega) ?_
      intro w22_ g22_ hb_ hx_ hg_
      have H22_ := H14_.lit2 hb_ hx_ hg_
      have G22_ := G14_.ext hx_
      have U22_ := U14_.trans (Upd.of_ext (S := fun _ => False) hx_) (fun x h => h.elim)
      clear hb_ hx_ hg_ H14_ G14_ U14_
      refine oi_end ⟨fun _ => G22_, ?_⟩
      simp only [Act.put, sA, sB, sC]
      refine of_loud (k := 8) (by kernel_rfl) rfl ?_ 
      ·refine wApf elt_intT rfl (.tmp 53) (.tmp 55) rfl w1.heap.size (.slice A0 i c0) i (ints X0) rfl H22_.p0 _ 1 (ints [z0]) rfl (blk_one (H22_.a0 _ _ rfl).1) (ints_one_mem _) (by omega) (by omega) H22_.base.2 ?_
       intro A23_ c23_ w23_ ho_ hgr_ hor_
       have H23_ := H22_.app0 ho_ hgr_ hor_
       have G23_ := G22_.grown hgr_ (own_blk_ne H22_.p0 G22_ (Ne.symm rowNeI))
       have U23_ := U22_.grown hgr_ (fun b hb => .inr (H22_.p0.lt b hb).1)
       clear ho_ hgr_ hor_ H22_ G22_ U22_
       refine oi_end ⟨fun _ => G23_, ?_⟩
       simp only [Act.put, sA, sB, sC]
       refine of_loud (k := 14) (by kernel_rfl) rfl ?_ 
       ·refine wApf elt_intT rfl (.tmp 59) (.tmp 61) rfl w1.heap.size (.slice A1 i c1) i (ints X1) rfl H23_.p1 _ 1 (ints [z1]) rfl (blk_one (H23_.a1 _ _ rfl).1) (ints_one_mem _) (by omega) (by omega) H23_.base.2 ?_
        intro A24_ c24_ w24_ ho_ hgr_ hor_
        have H24_ := H23_.app1 ho_ hgr_ hor_
        have G24_ := G23_.grown hgr_ (own_blk_ne H23_.p1 G23_ (Ne.symm rowNeI))
        have U24_ := U23_.grown hgr_ (fun b hb => .inr (H23_.p1.lt b hb).1)
        clear ho_ hgr_ hor_ H23_ G23_ U23_
        refine oi_end ⟨fun _ => G24_, ?_⟩
        simp only [Act.put, sA, sB, sC]
        refine of_loud (k := 20) (by kernel_rfl) rfl ?_ 
        ·refine wApf elt_intT rfl (.tmp 65) (.tmp 67) rfl w1.heap.size (.slice A2 i c2) i (ints X2) rfl H24_.p2 _ 1 (ints [z2]) rfl (blk_one (H24_.a2 _ _ rfl).1) (ints_one_mem _) (by omega) (by omega) H24_.base.2 ?_
         intro A25_ c25_ w25_ ho_ hgr_ hor_
         have H25_ := H24_.app2 ho_ hgr_ hor_
         have G25_ := G24_.grown hgr_ (own_blk_ne H24_.p2 G24_ (Ne.symm rowNeI))
         have U25_ := U24_.grown hgr_ (fun b hb => .inr (H24_.p2.lt b hb).1)
         clear ho_ hgr_ hor_ H24_ G24_ U24_
         refine oi_end ⟨fun _ => G25_, ?_⟩
         simp only [Act.put, sA, sB, sC]
         refine og_pure (k := 21) (by kernel_rfl) rfl (by rfl) (.pointer (some ⟨g0, 0, none⟩)) (ex_ixSl0 (i := 0) Tryz.underlying29 sizeRow rfl rfl rfl (by omega)) ?_
         simp only [Act.put, sA, sB, sC]
         refine of_loud (k := 22) (by kernel_rfl) rfl ?_
         refine wl_storeV rfl _ _ rfl g0 0 (A23_) (i + 1) (c23_) rfl rfl G25_ (by simp) ?_
         have G0 := G25_.set_ 0 (.slice A23_ (i + 1) c23_)
         have U0 := U25_.setCell (p := ⟨g0, 0, none⟩) (rfl) (.slice A23_ (i + 1) c23_)
         have H0 := three_store H25_ G25_ (Ne.symm rowNeI) hg0w 0 (.slice A23_ (i + 1) c23_)
         refine oi_end ⟨fun h => (by cases h), ?_⟩
         simp only [Act.put, sA, sB, sC]
         refine og_pure (k := 23) (by kernel_rfl) rfl (by rfl) (.pointer (some ⟨g0, 1, none⟩)) (ex_ixSl1 (i := 1) Tryz.underlying29 sizeRow rfl rfl rfl (by omega)) ?_
         simp only [Act.put, sA, sB, sC]
         refine of_loud (k := 24) (by kernel_rfl) rfl ?_
         refine wl_storeV rfl _ _ rfl g0 1 (A24_) (i + 1) (c24_) rfl rfl G0 (by simp) ?_
         have G1 := G0.set_ 1 (.slice A24_ (i + 1) c24_)
         have U1 := U0.setCell (p := ⟨g0, 1, none⟩) (rfl) (.slice A24_ (i + 1) c24_)
         have H1 := three_store H0 G0 (Ne.symm rowNeI) hg0w 1 (.slice A24_ (i + 1) c24_)
         refine oi_end ⟨fun h => (by cases h), ?_⟩
         simp only [Act.put, sA, sB, sC]
         refine og_pure (k := 25) (by kernel_rfl) rfl (by rfl) (.pointer (some ⟨g0, 2, none⟩)) (ex_ixSl1 (i := 2) Tryz.underlying29 sizeRow rfl rfl rfl (by omega)) ?_
         simp only [Act.put, sA, sB, sC]
         refine of_loud (k := 26) (by kernel_rfl) rfl ?_
         refine wl_storeV rfl _ _ rfl g0 2 (A25_) (i + 1) (c25_) rfl rfl G1 (by simp) ?_
         have G2 := G1.set_ 2 (.slice A25_ (i + 1) c25_)
         have U2 := U1.setCell (p := ⟨g0, 2, none⟩) (rfl) (.slice A25_ (i + 1) c25_)
         have H2 := three_store H1 G1 (Ne.symm rowNeI) hg0w 2 (.slice A25_ (i + 1) c25_)
         refine oi_end ⟨fun h => (by cases h), ?_⟩
         simp only [Act.put, sA, sB, sC]
         refine of_done (by kernel_rfl) ?_
         go_wp2_with fail
         go_roundw
         case rel => exact ⟨i + 1, A23_, A24_, A25_, c23_, c24_, c25_, by omega, by go_num, by rw [HT0.out, HT1.out, HT2.out, ints_app, ints_app, ints_app]; exact H2, G2, U2⟩
         case measure => simp [intOf]; omega
    ·refine wLit1 rfl 22 3 (.tmp 66) rfl (some 67) rfl Tryz.underlying22 1 sizeI zeroIT _ rfl rfl (by omega) (by omega) ?_
     intro w26_ g26_ hb_ hx_ hg_
     have H26_ := H1_.lit2 hb_ hx_ hg_
     have G26_ := G1_.ext hx_
     have U26_ := U1_.trans (Upd.of_ext (S := fun _ => False) hx_) (fun x h => h.elim)
     clear hb_ hx_ hg_ H1_ G1_ U1_
     refine oi_end ⟨fun _ => G26_, ?_⟩
     simp only [Act.put, sA, sB, sC]
     refine of_two (k := 8) (l := 13) (by kernel_rfl) rfl rfl ?_ ?_ 
     ·refine wApf elt_intT rfl (.tmp 53) (.tmp 55) rfl w1.heap.size (.slice A0 i c0) i (ints X0) rfl H26_.p0 _ 1 (ints [z0]) rfl (blk_one (H26_.a0 _ _ rfl).1) (ints_one_mem _) (by omega) (by omega) H26_.base.2 ?_
      intro A27_ c27_ w27_ ho_ hgr_ hor_
      have H27_ := H26_.app0 ho_ hgr_ hor_
      have G27_ := G26_.grown hgr_ (own_blk_ne H26_.p0 G26_ (Ne.symm rowNeI))
      have U27_ := U26_.grown hgr_ (fun b hb => .inr (H26_.p0.lt b hb).1)
      clear ho_ hgr_ hor_ H26_ G26_ U26_
      refine oi_end ⟨fun _ => G27_, ?_⟩
      simp only [Act.put, sA, sB, sC]
      refine of_loud (k := 13) (by kernel_rfl) rfl ?_ 
      ·refine wLit1 rfl 22 3 (.tmp 60) rfl (some 61) rfl Tryz.underlying22 1 sizeI zeroIT _ rfl rfl (by omega) (by omega) ?_
       intro w28_ g28_ hb_ hx_ hg_
       have H28_ := H27_.lit1 hb_ hx_ hg_
       have G28_ := G27_.ext hx_
       have U28_ := U27_.trans (Upd.of_ext (S := fun _ => False) hx_) (fun x h => h.elim)
       clear hb_ hx_ hg_ H27_ G27_ U27_
       refine oi_end ⟨fun _ => G28_, ?_⟩
       simp only [Act.put, sA, sB, sC]
       refine of_loud (k := 14) (by kernel_rfl) rfl ?_ 
       ·refine wApf elt_intT rfl (.tmp 59) (.tmp 61) rfl w1.heap.size (.slice A1 i c1) i (ints X1) rfl H28_.p1 _ 1 (ints [z1]) rfl (blk_one (H28_.a1 _ _ rfl).1) (ints_one_mem _) (by omega) (by omega) H28_.base.2 ?_
        intro A29_ c29_ w29_ ho_ hgr_ hor_
        have H29_ := H28_.app1 ho_ hgr_ hor_
        have G29_ := G28_.grown hgr_ (own_blk_ne H28_.p1 G28_ (Ne.symm rowNeI))
        have U29_ := U28_.grown hgr_ (fun b hb => .inr (H28_.p1.lt b hb).1)
        clear ho_ hgr_ hor_ H28_ G28_ U28_
        refine oi_end ⟨fun _ => G29_, ?_⟩
        simp only [Act.put, sA, sB, sC]
        refine of_loud (k := 20) (by kernel_rfl) rfl ?_ 
        ·refine wApf elt_intT rfl (.tmp 65) (.tmp 67) rfl w1.heap.size (.slice A2 i c2) i (ints X2) rfl H29_.p2 _ 1 (ints [z2]) rfl (blk_one (H29_.a2 _ _ rfl).1) (ints_one_mem _) (by omega) (by omega) H29_.base.2 ?_
         intro A30_ c30_ w30_ ho_ hgr_ hor_
         have H30_ := H29_.app2 ho_ hgr_ hor_
         have G30_ := G29_.grown hgr_ (own_blk_ne H29_.p2 G29_ (Ne.symm rowNeI))
         have U30_ := U29_.grown hgr_ (fun b hb => .inr (H29_.p2.lt b hb).1)
         clear ho_ hgr_ hor_ H29_ G29_ U29_
         refine oi_end ⟨fun _ => G30_, ?_⟩
         simp only [Act.put, sA, sB, sC]
         refine og_pure (k := 21) (by kernel_rfl) rfl (by rfl) (.pointer (some ⟨g0, 0, none⟩)) (ex_ixSl0 (i := 0) Tryz.underlying29 sizeRow rfl rfl rfl (by omega)) ?_
         simp only [Act.put, sA, sB, sC]
         refine of_loud (k := 22) (by kernel_rfl) rfl ?_
         refine wl_storeV rfl _ _ rfl g0 0 (A27_) (i + 1) (c27_) rfl rfl G30_ (by simp) ?_
         have G0 := G30_.set_ 0 (.slice A27_ (i + 1) c27_)
         have U0 := U30_.setCell (p := ⟨g0, 0, none⟩) (rfl) (.slice A27_ (i + 1) c27_)
         have H0 := three_store H30_ G30_ (Ne.symm rowNeI) hg0w 0 (.slice A27_ (i + 1) c27_)
         refine oi_end ⟨fun h => (by cases h), ?_⟩
         simp only [Act.put, sA, sB, sC]
         refine og_pure (k := 23) (by kernel_rfl) rfl (by rfl) (.pointer (some ⟨g0, 1, none⟩)) (ex_ixSl1 (i := 1) Tryz.underlying29 sizeRow rfl rfl rfl (by omega)) ?_
         simp only [Act.put, sA, sB, sC]
         refine of_loud (k := 24) (by kernel_rfl) rfl ?_
         refine wl_storeV rfl _ _ rfl g0 1 (A29_) (i + 1) (c29_) rfl rfl G0 (by simp) ?_
         have G1 := G0.set_ 1 (.slice A29_ (i + 1) c29_)
         have U1 := U0.setCell (p := ⟨g0, 1, none⟩) (rfl) (.slice A29_ (i + 1) c29_)
         have H1 := three_store H0 G0 (Ne.symm rowNeI) hg0w 1 (.slice A29_ (i + 1) c29_)
         refine oi_end ⟨fun h => (by cases h), ?_⟩
         simp only [Act.put, sA, sB, sC]
         refine og_pure (k := 25) (by kernel_rfl) rfl (by rfl) (.pointer (some ⟨g0, 2, none⟩)) (ex_ixSl1 (i := 2) Tryz.underlying29 sizeRow rfl rfl rfl (by omega)) ?_
         simp only [Act.put, sA, sB, sC]
         refine of_loud (k := 26) (by kernel_rfl) rfl ?_
         refine wl_storeV rfl _ _ rfl g0 2 (A30_) (i + 1) (c30_) rfl rfl G1 (by simp) ?_
         have G2 := G1.set_ 2 (.slice A30_ (i + 1) c30_)
         have U2 := U1.setCell (p := ⟨g0, 2, none⟩) (rfl) (.slice A30_ (i + 1) c30_)
         have H2 := three_store H1 G1 (Ne.symm rowNeI) hg0w 2 (.slice A30_ (i + 1) c30_)
         refine oi_end ⟨fun h => (by cases h), ?_⟩
         simp only [Act.put, sA, sB, sC]
         refine of_done (by kernel_rfl) ?_
         go_wp2_with fail
         go_roundw
         case rel => exact ⟨i + 1, A27_, A29_, A30_, c27_, c29_, c30_, by omega, by go_num, by rw [HT0.out, HT1.out, HT2.out, ints_app, ints_app, ints_app]; exact H2, G2, U2⟩
         case measure => simp [intOf]; omega
     ·refine wLit1 rfl 22 3 (.tmp 60) rfl (some 61) rfl Tryz.underlying22 1 sizeI zeroIT _ rfl rfl (by omega) (by omega) ?_
      intro w31_ g31_ hb_ hx_ hg_
      have H31_ := H26_.lit1 hb_ hx_ hg_
      have G31_ := G26_.ext hx_
      have U31_ := U26_.trans (Upd.of_ext (S := fun _ => False) hx_) (fun x h => h.elim)
      clear hb_ hx_ hg_ H26_ G26_ U26_
      refine oi_end ⟨fun _ => G31_, ?_⟩
      simp only [Act.put, sA, sB, sC]
      refine of_loud (k := 8) (by kernel_rfl) rfl ?_ 
      ·refine wApf elt_intT rfl (.tmp 53) (.tmp 55) rfl w1.heap.size (.slice A0 i c0) i (ints X0) rfl H31_.p0 _ 1 (ints [z0]) rfl (blk_one (H31_.a0 _ _ rfl).1) (ints_one_mem _) (by omega) (by omega) H31_.base.2 ?_
       intro A32_ c32_ w32_ ho_ hgr_ hor_
       have H32_ := H31_.app0 ho_ hgr_ hor_
       have G32_ := G31_.grown hgr_ (own_blk_ne H31_.p0 G31_ (Ne.symm rowNeI))
       have U32_ := U31_.grown hgr_ (fun b hb => .inr (H31_.p0.lt b hb).1)
       clear ho_ hgr_ hor_ H31_ G31_ U31_
       refine oi_end ⟨fun _ => G32_, ?_⟩
       simp only [Act.put, sA, sB, sC]
       refine of_loud (k := 14) (by kernel_rfl) rfl ?_ 
       ·refine wApf elt_intT rfl (.tmp 59) (.tmp 61) rfl w1.heap.size (.slice A1 i c1) i (ints X1) rfl H32_.p1 _ 1 (ints [z1]) rfl (blk_one (H32_.a1 _ _ rfl).1) (ints_one_mem _) (by omega) (by omega) H32_.base.2 ?_
        intro A33_ c33_ w33_ ho_ hgr_ hor_
        have H33_ := H32_.app1 ho_ hgr_ hor_
        have G33_ := G32_.grown hgr_ (own_blk_ne H32_.p1 G32_ (Ne.symm rowNeI))
        have U33_ := U32_.grown hgr_ (fun b hb => .inr (H32_.p1.lt b hb).1)
        clear ho_ hgr_ hor_ H32_ G32_ U32_
        refine oi_end ⟨fun _ => G33_, ?_⟩
        simp only [Act.put, sA, sB, sC]
        refine of_loud (k := 20) (by kernel_rfl) rfl ?_ 
        ·refine wApf elt_intT rfl (.tmp 65) (.tmp 67) rfl w1.heap.size (.slice A2 i c2) i (ints X2) rfl H33_.p2 _ 1 (ints [z2]) rfl (blk_one (H33_.a2 _ _ rfl).1) (ints_one_mem _) (by omega) (by omega) H33_.base.2 ?_
         intro A34_ c34_ w34_ ho_ hgr_ hor_
         have H34_ := H33_.app2 ho_ hgr_ hor_
         have G34_ := G33_.grown hgr_ (own_blk_ne H33_.p2 G33_ (Ne.symm rowNeI))
         have U34_ := U33_.grown hgr_ (fun b hb => .inr (H33_.p2.lt b hb).1)
         clear ho_ hgr_ hor_ H33_ G33_ U33_
         refine oi_end ⟨fun _ => G34_, ?_⟩
         simp only [Act.put, sA, sB, sC]
         refine og_pure (k := 21) (by kernel_rfl) rfl (by rfl) (.pointer (some ⟨g0, 0, none⟩)) (ex_ixSl0 (i := 0) Tryz.underlying29 sizeRow rfl rfl rfl (by omega)) ?_
         simp only [Act.put, sA, sB, sC]
         refine of_loud (k := 22) (by kernel_rfl) rfl ?_
         refine wl_storeV rfl _ _ rfl g0 0 (A32_) (i + 1) (c32_) rfl rfl G34_ (by simp) ?_
         have G0 := G34_.set_ 0 (.slice A32_ (i + 1) c32_)
         have U0 := U34_.setCell (p := ⟨g0, 0, none⟩) (rfl) (.slice A32_ (i + 1) c32_)
         have H0 := three_store H34_ G34_ (Ne.symm rowNeI) hg0w 0 (.slice A32_ (i + 1) c32_)
         refine oi_end ⟨fun h => (by cases h), ?_⟩
         simp only [Act.put, sA, sB, sC]
         refine og_pure (k := 23) (by kernel_rfl) rfl (by rfl) (.pointer (some ⟨g0, 1, none⟩)) (ex_ixSl1 (i := 1) Tryz.underlying29 sizeRow rfl rfl rfl (by omega)) ?_
         simp only [Act.put, sA, sB, sC]
         refine of_loud (k := 24) (by kernel_rfl) rfl ?_
         refine wl_storeV rfl _ _ rfl g0 1 (A33_) (i + 1) (c33_) rfl rfl G0 (by simp) ?_
         have G1 := G0.set_ 1 (.slice A33_ (i + 1) c33_)
         have U1 := U0.setCell (p := ⟨g0, 1, none⟩) (rfl) (.slice A33_ (i + 1) c33_)
         have H1 := three_store H0 G0 (Ne.symm rowNeI) hg0w 1 (.slice A33_ (i + 1) c33_)
         refine oi_end ⟨fun h => (by cases h), ?_⟩
         simp only [Act.put, sA, sB, sC]
         refine og_pure (k := 25) (by kernel_rfl) rfl (by rfl) (.pointer (some ⟨g0, 2, none⟩)) (ex_ixSl1 (i := 2) Tryz.underlying29 sizeRow rfl rfl rfl (by omega)) ?_
         simp only [Act.put, sA, sB, sC]
         refine of_loud (k := 26) (by kernel_rfl) rfl ?_
         refine wl_storeV rfl _ _ rfl g0 2 (A34_) (i + 1) (c34_) rfl rfl G1 (by simp) ?_
         have G2 := G1.set_ 2 (.slice A34_ (i + 1) c34_)
         have U2 := U1.setCell (p := ⟨g0, 2, none⟩) (rfl) (.slice A34_ (i + 1) c34_)
         have H2 := three_store H1 G1 (Ne.symm rowNeI) hg0w 2 (.slice A34_ (i + 1) c34_)
         refine oi_end ⟨fun h => (by cases h), ?_⟩
         simp only [Act.put, sA, sB, sC]
         refine of_done (by kernel_rfl) ?_
         go_wp2_with fail
         go_roundw
         case rel => exact ⟨i + 1, A32_, A33_, A34_, c32_, c33_, c34_, by omega, by go_num, by rw [HT0.out, HT1.out, HT2.out, ints_app, ints_app, ints_app]; exact H2, G2, U2⟩
         case measure => simp [intOf]; omega
   ·refine wLit1 rfl 22 3 (.tmp 60) rfl (some 61) rfl Tryz.underlying22 1 sizeI zeroIT _ rfl rfl (by omega) (by omega) ?_
    intro w35_ g35_ hb_ hx_ hg_
    have H35_ := H3.lit1 hb_ hx_ hg_
    have G35_ := HGB.ext hx_
    have U35_ := hu9.trans (Upd.of_ext (S := fun _ => False) hx_) (fun x h => h.elim)
    clear hb_ hx_ hg_ H3 HGB hu9
    refine oi_end ⟨fun _ => G35_, ?_⟩
    simp only [Act.put, sA, sB, sC]
    refine of_two (k := 7) (l := 19) (by kernel_rfl) rfl rfl ?_ ?_ 
    ·refine wLit1 rfl 22 3 (.tmp 54) rfl (some 55) rfl Tryz.underlying22 1 sizeI zeroIT _ rfl rfl (by omega) (by omega) ?_
     intro w36_ g36_ hb_ hx_ hg_
     have H36_ := H35_.lit0 hb_ hx_ hg_
     have G36_ := G35_.ext hx_
     have U36_ := U35_.trans (Upd.of_ext (S := fun _ => False) hx_) (fun x h => h.elim)
     clear hb_ hx_ hg_ H35_ G35_ U35_
     refine oi_end ⟨fun _ => G36_, ?_⟩
     simp only [Act.put, sA, sB, sC]
     refine of_two (k := 8) (l := 19) (by kernel_rfl) rfl rfl ?_ ?_ 
     ·refine wApf elt_intT rfl (.tmp 53) (.tmp 55) rfl w1.heap.size (.slice A0 i c0) i (ints X0) rfl H36_.p0 _ 1 (ints [z0]) rfl (blk_one (H36_.a0 _ _ rfl).1) (ints_one_mem _) (by omega) (by omega) H36_.base.2 ?_
      intro A37_ c37_ w37_ ho_ hgr_ hor_
      have H37_ := H36_.app0 ho_ hgr_ hor_
      have G37_ := G36_.grown hgr_ (own_blk_ne H36_.p0 G36_ (Ne.symm rowNeI))
      have U37_ := U36_.grown hgr_ (fun b hb => .inr (H36_.p0.lt b hb).1)
      clear ho_ hgr_ hor_ H36_ G36_ U36_
      refine oi_end ⟨fun _ => G37_, ?_⟩
      simp only [Act.put, sA, sB, sC]
      refine of_two (k := 14) (l := 19) (by kernel_rfl) rfl rfl ?_ ?_ 
      ·refine wApf elt_intT rfl (.tmp 59) (.tmp 61) rfl w1.heap.size (.slice A1 i c1) i (ints X1) rfl H37_.p1 _ 1 (ints [z1]) rfl (blk_one (H37_.a1 _ _ rfl).1) (ints_one_mem _) (by omega) (by omega) H37_.base.2 ?_
       intro A38_ c38_ w38_ ho_ hgr_ hor_
       have H38_ := H37_.app1 ho_ hgr_ hor_
       have G38_ := G37_.grown hgr_ (own_blk_ne H37_.p1 G37_ (Ne.symm rowNeI))
       have U38_ := U37_.grown hgr_ (fun b hb => .inr (H37_.p1.lt b hb).1)
       clear ho_ hgr_ hor_ H37_ G37_ U37_
       refine oi_end ⟨fun _ => G38_, ?_⟩
       simp only [Act.put, sA, sB, sC]
       refine of_loud (k := 19) (by kernel_rfl) rfl ?_ 
       ·refine wLit1 rfl 22 3 (.tmp 66) rfl (some 67) rfl Tryz.underlying22 1 sizeI zeroIT _ rfl rfl (by omega) (by omega) ?_
        intro w39_ g39_ hb_ hx_ hg_
        have H39_ := H38_.lit2 hb_ hx_ hg_
        have G39_ := G38_.ext hx_
        have U39_ := U38_.trans (Upd.of_ext (S := fun _ => False) hx_) (fun x h => h.elim)
        clear hb_ hx_ hg_ H38_ G38_ U38_
        refine oi_end ⟨fun _ => G39_, ?_⟩
        simp only [Act.put, sA, sB, sC]
        refine of_loud (k := 20) (by kernel_rfl) rfl ?_ 
        ·refine wApf elt_intT rfl (.tmp 65) (.tmp 67) rfl w1.heap.size (.slice A2 i c2) i (ints X2) rfl H39_.p2 _ 1 (ints [z2]) rfl (blk_one (H39_.a2 _ _ rfl).1) (ints_one_mem _) (by omega) (by omega) H39_.base.2 ?_
         intro A40_ c40_ w40_ ho_ hgr_ hor_
         have H40_ := H39_.app2 ho_ hgr_ hor_
         have G40_ := G39_.grown hgr_ (own_blk_ne H39_.p2 G39_ (Ne.symm rowNeI))
         have U40_ := U39_.grown hgr_ (fun b hb => .inr (H39_.p2.lt b hb).1)
         clear ho_ hgr_ hor_ H39_ G39_ U39_
         refine oi_end ⟨fun _ => G40_, ?_⟩
         simp only [Act.put, sA, sB, sC]
         refine og_pure (k := 21) (by kernel_rfl) rfl (by rfl) (.pointer (some ⟨g0, 0, none⟩)) (ex_ixSl0 (i := 0) Tryz.underlying29 sizeRow rfl rfl rfl (by omega)) ?_
         simp only [Act.put, sA, sB, sC]
         refine of_loud (k := 22) (by kernel_rfl) rfl ?_
         refine wl_storeV rfl _ _ rfl g0 0 (A37_) (i + 1) (c37_) rfl rfl G40_ (by simp) ?_
         have G0 := G40_.set_ 0 (.slice A37_ (i + 1) c37_)
         have U0 := U40_.setCell (p := ⟨g0, 0, none⟩) (rfl) (.slice A37_ (i + 1) c37_)
         have H0 := three_store H40_ G40_ (Ne.symm rowNeI) hg0w 0 (.slice A37_ (i + 1) c37_)
         refine oi_end ⟨fun h => (by cases h), ?_⟩
         simp only [Act.put, sA, sB, sC]
         refine og_pure (k := 23) (by kernel_rfl) rfl (by rfl) (.pointer (some ⟨g0, 1, none⟩)) (ex_ixSl1 (i := 1) Tryz.underlying29 sizeRow rfl rfl rfl (by omega)) ?_
         simp only [Act.put, sA, sB, sC]
         refine of_loud (k := 24) (by kernel_rfl) rfl ?_
         refine wl_storeV rfl _ _ rfl g0 1 (A38_) (i + 1) (c38_) rfl rfl G0 (by simp) ?_
         have G1 := G0.set_ 1 (.slice A38_ (i + 1) c38_)
         have U1 := U0.setCell (p := ⟨g0, 1, none⟩) (rfl) (.slice A38_ (i + 1) c38_)
         have H1 := three_store H0 G0 (Ne.symm rowNeI) hg0w 1 (.slice A38_ (i + 1) c38_)
         refine oi_end ⟨fun h => (by cases h), ?_⟩
         simp only [Act.put, sA, sB, sC]
         refine og_pure (k := 25) (by kernel_rfl) rfl (by rfl) (.pointer (some ⟨g0, 2, none⟩)) (ex_ixSl1 (i := 2) Tryz.underlying29 sizeRow rfl rfl rfl (by omega)) ?_
         simp only [Act.put, sA, sB, sC]
         refine of_loud (k := 26) (by kernel_rfl) rfl ?_
         refine wl_storeV rfl _ _ rfl g0 2 (A40_) (i + 1) (c40_) rfl rfl G1 (by simp) ?_
         have G2 := G1.set_ 2 (.slice A40_ (i + 1) c40_)
         have U2 := U1.setCell (p := ⟨g0, 2, none⟩) (rfl) (.slice A40_ (i + 1) c40_)
         have H2 := three_store H1 G1 (Ne.symm rowNeI) hg0w 2 (.slice A40_ (i + 1) c40_)
         refine oi_end ⟨fun h => (by cases h), ?_⟩
         simp only [Act.put, sA, sB, sC]
         refine of_done (by kernel_rfl) ?_
         go_wp2_with fail
         go_roundw
         case rel => exact ⟨i + 1, A37_, A38_, A40_, c37_, c38_, c40_, by omega, by go_num, by rw [HT0.out, HT1.out, HT2.out, ints_app, ints_app, ints_app]; exact H2, G2, U2⟩
         case measure => simp [intOf]; omega
      ·refine wLit1 rfl 22 3 (.tmp 66) rfl (some 67) rfl Tryz.underlying22 1 sizeI zeroIT _ rfl rfl (by omega) (by omega) ?_
       intro w41_ g41_ hb_ hx_ hg_
       have H41_ := H37_.lit2 hb_ hx_ hg_
       have G41_ := G37_.ext hx_
       have U41_ := U37_.trans (Upd.of_ext (S := fun _ => False) hx_) (fun x h => h.elim)
       clear hb_ hx_ hg_ H37_ G37_ U37_
       refine oi_end ⟨fun _ => G41_, ?_⟩
       simp only [Act.put, sA, sB, sC]
       refine of_loud (k := 14) (by kernel_rfl) rfl ?_ 
       ·refine wApf elt_intT rfl (.tmp 59) (.tmp 61) rfl w1.heap.size (.slice A1 i c1) i (ints X1) rfl H41_.p1 _ 1 (ints [z1]) rfl (blk_one (H41_.a1 _ _ rfl).1) (ints_one_mem _) (by omega) (by omega) H41_.base.2 ?_
        intro A42_ c42_ w42_ ho_ hgr_ hor_
        have H42_ := H41_.app1 ho_ hgr_ hor_
        have G42_ := G41_.grown hgr_ (own_blk_ne H41_.p1 G41_ (Ne.symm rowNeI))
        have U42_ := U41_.grown hgr_ (fun b hb => .inr (H41_.p1.lt b hb).1)
        clear ho_ hgr_ hor_ H41_ G41_ U41_
        refine oi_end ⟨fun _ => G42_, ?_⟩
        simp only [Act.put, sA, sB, sC]
        refine of_loud (k := 20) (by kernel_rfl) rfl ?_ 
        ·refine wApf elt_intT rfl (.tmp 65) (.tmp 67) rfl w1.heap.size (.slice A2 i c2) i (ints X2) rfl H42_.p2 _ 1 (ints [z2]) rfl (blk_one (H42_.a2 _ _ rfl).1) (ints_one_mem _) (by omega) (by omega) H42_.base.2 ?_
         intro A43_ c43_ w43_ ho_ hgr_ hor_
         have H43_ := H42_.app2 ho_ hgr_ hor_
         have G43_ := G42_.grown hgr_ (own_blk_ne H42_.p2 G42_ (Ne.symm rowNeI))
         have U43_ := U42_.grown hgr_ (fun b hb => .inr (H42_.p2.lt b hb).1)
         clear ho_ hgr_ hor_ H42_ G42_ U42_
         refine oi_end ⟨fun _ => G43_, ?_⟩
         simp only [Act.put, sA, sB, sC]
         refine og_pure (k := 21) (by kernel_rfl) rfl (by rfl) (.pointer (some ⟨g0, 0, none⟩)) (ex_ixSl0 (i := 0) Tryz.underlying29 sizeRow rfl rfl rfl (by omega)) ?_
         simp only [Act.put, sA, sB, sC]
         refine of_loud (k := 22) (by kernel_rfl) rfl ?_
         refine wl_storeV rfl _ _ rfl g0 0 (A37_) (i + 1) (c37_) rfl rfl G43_ (by simp) ?_
         have G0 := G43_.set_ 0 (.slice A37_ (i + 1) c37_)
         have U0 := U43_.setCell (p := ⟨g0, 0, none⟩) (rfl) (.slice A37_ (i + 1) c37_)
         have H0 := three_store H43_ G43_ (Ne.symm rowNeI) hg0w 0 (.slice A37_ (i + 1) c37_)
         refine oi_end ⟨fun h => (by cases h), ?_⟩
         simp only [Act.put, sA, sB, sC]
         refine og_pure (k := 23) (by kernel_rfl) rfl (by rfl) (.pointer (some ⟨g0, 1, none⟩)) (ex_ixSl1 (i := 1) Tryz.underlying29 sizeRow rfl rfl rfl (by omega)) ?_
         simp only [Act.put, sA, sB, sC]
         refine of_loud (k := 24) (by kernel_rfl) rfl ?_
         refine wl_storeV rfl _ _ rfl g0 1 (A42_) (i + 1) (c42_) rfl rfl G0 (by simp) ?_
         have G1 := G0.set_ 1 (.slice A42_ (i + 1) c42_)
         have U1 := U0.setCell (p := ⟨g0, 1, none⟩) (rfl) (.slice A42_ (i + 1) c42_)
         have H1 := three_store H0 G0 (Ne.symm rowNeI) hg0w 1 (.slice A42_ (i + 1) c42_)
         refine oi_end ⟨fun h => (by cases h), ?_⟩
         simp only [Act.put, sA, sB, sC]
         refine og_pure (k := 25) (by kernel_rfl) rfl (by rfl) (.pointer (some ⟨g0, 2, none⟩)) (ex_ixSl1 (i := 2) Tryz.underlying29 sizeRow rfl rfl rfl (by omega)) ?_
         simp only [Act.put, sA, sB, sC]
         refine of_loud (k := 26) (by kernel_rfl) rfl ?_
         refine wl_storeV rfl _ _ rfl g0 2 (A43_) (i + 1) (c43_) rfl rfl G1 (by simp) ?_
         have G2 := G1.set_ 2 (.slice A43_ (i + 1) c43_)
         have U2 := U1.setCell (p := ⟨g0, 2, none⟩) (rfl) (.slice A43_ (i + 1) c43_)
         have H2 := three_store H1 G1 (Ne.symm rowNeI) hg0w 2 (.slice A43_ (i + 1) c43_)
         refine oi_end ⟨fun h => (by cases h), ?_⟩
         simp only [Act.put, sA, sB, sC]
         refine of_done (by kernel_rfl) ?_
         go_wp2_with fail
         go_roundw
         case rel => exact ⟨i + 1, A37_, A42_, A43_, c37_, c42_, c43_, by omega, by go_num, by rw [HT0.out, HT1.out, HT2.out, ints_app, ints_app, ints_app]; exact H2, G2, U2⟩
         case measure => simp [intOf]; omega
     ·refine wLit1 rfl 22 3 (.tmp 66) rfl (some 67) rfl Tryz.underlying22 1 sizeI zeroIT _ rfl rfl (by omega) (by omega) ?_
      intro w44_ g44_ hb_ hx_ hg_
      have H44_ := H36_.lit2 hb_ hx_ hg_
      have G44_ := G36_.ext hx_
      have U44_ := U36_.trans (Upd.of_ext (S := fun _ => False) hx_) (fun x h => h.elim)
      clear hb_ hx_ hg_ H36_ G36_ U36_
      refine oi_end ⟨fun _ => G44_, ?_⟩
      simp only [Act.put, sA, sB, sC]
      refine of_loud (k := 8) (by kernel_rfl) rfl ?_ 
      ·refine wApf elt_intT rfl (.tmp 53) (.tmp 55) rfl w1.heap.size (.slice A0 i c0) i (ints X0) rfl H44_.p0 _ 1 (ints [z0]) rfl (blk_one (H44_.a0 _ _ rfl).1) (ints_one_mem _) (by omega) (by omega) H44_.base.2 ?_
       intro A45_ c45_ w45_ ho_ hgr_ hor_
       have H45_ := H44_.app0 ho_ hgr_ hor_
       have G45_ := G44_.grown hgr_ (own_blk_ne H44_.p0 G44_ (Ne.symm rowNeI))
       have U45_ := U44_.grown hgr_ (fun b hb => .inr (H44_.p0.lt b hb).1)
       clear ho_ hgr_ hor_ H44_ G44_ U44_
       refine oi_end ⟨fun _ => G45_, ?_⟩
       simp only [Act.put, sA, sB, sC]
       refine of_loud (k := 14) (by kernel_rfl) rfl ?_ 
       ·refine wApf elt_intT rfl (.tmp 59) (.tmp 61) rfl w1.heap.size (.slice A1 i c1) i (ints X1) rfl H45_.p1 _ 1 (ints [z1]) rfl (blk_one (H45_.a1 _ _ rfl).1) (ints_one_mem _) (by omega) (by omega) H45_.base.2 ?_
        intro A46_ c46_ w46_ ho_ hgr_ hor_
        have H46_ := H45_.app1 ho_ hgr_ hor_
        have G46_ := G45_.grown hgr_ (own_blk_ne H45_.p1 G45_ (Ne.symm rowNeI))
        have U46_ := U45_.grown hgr_ (fun b hb => .inr (H45_.p1.lt b hb).1)
        clear ho_ hgr_ hor_ H45_ G45_ U45_
        refine oi_end ⟨fun _ => G46_, ?_⟩
        simp only [Act.put, sA, sB, sC]
        refine of_loud (k := 20) (by kernel_rfl) rfl ?_ 
        ·refine wApf elt_intT rfl (.tmp 65) (.tmp 67) rfl w1.heap.size (.slice A2 i c2) i (ints X2) rfl H46_.p2 _ 1 (ints [z2]) rfl (blk_one (H46_.a2 _ _ rfl).1) (ints_one_mem _) (by omega) (by omega) H46_.base.2 ?_
         intro A47_ c47_ w47_ ho_ hgr_ hor_
         have H47_ := H46_.app2 ho_ hgr_ hor_
         have G47_ := G46_.grown hgr_ (own_blk_ne H46_.p2 G46_ (Ne.symm rowNeI))
         have U47_ := U46_.grown hgr_ (fun b hb => .inr (H46_.p2.lt b hb).1)
         clear ho_ hgr_ hor_ H46_ G46_ U46_
         refine oi_end ⟨fun _ => G47_, ?_⟩
         simp only [Act.put, sA, sB, sC]
         refine og_pure (k := 21) (by kernel_rfl) rfl (by rfl) (.pointer (some ⟨g0, 0, none⟩)) (ex_ixSl0 (i := 0) Tryz.underlying29 sizeRow rfl rfl rfl (by omega)) ?_
         simp only [Act.put, sA, sB, sC]
         refine of_loud (k := 22) (by kernel_rfl) rfl ?_
         refine wl_storeV rfl _ _ rfl g0 0 (A45_) (i + 1) (c45_) rfl rfl G47_ (by simp) ?_
         have G0 := G47_.set_ 0 (.slice A45_ (i + 1) c45_)
         have U0 := U47_.setCell (p := ⟨g0, 0, none⟩) (rfl) (.slice A45_ (i + 1) c45_)
         have H0 := three_store H47_ G47_ (Ne.symm rowNeI) hg0w 0 (.slice A45_ (i + 1) c45_)
         refine oi_end ⟨fun h => (by cases h), ?_⟩
         simp only [Act.put, sA, sB, sC]
         refine og_pure (k := 23) (by kernel_rfl) rfl (by rfl) (.pointer (some ⟨g0, 1, none⟩)) (ex_ixSl1 (i := 1) Tryz.underlying29 sizeRow rfl rfl rfl (by omega)) ?_
         simp only [Act.put, sA, sB, sC]
         refine of_loud (k := 24) (by kernel_rfl) rfl ?_
         refine wl_storeV rfl _ _ rfl g0 1 (A46_) (i + 1) (c46_) rfl rfl G0 (by simp) ?_
         have G1 := G0.set_ 1 (.slice A46_ (i + 1) c46_)
         have U1 := U0.setCell (p := ⟨g0, 1, none⟩) (rfl) (.slice A46_ (i + 1) c46_)
         have H1 := three_store H0 G0 (Ne.symm rowNeI) hg0w 1 (.slice A46_ (i + 1) c46_)
         refine oi_end ⟨fun h => (by cases h), ?_⟩
         simp only [Act.put, sA, sB, sC]
         refine og_pure (k := 25) (by kernel_rfl) rfl (by rfl) (.pointer (some ⟨g0, 2, none⟩)) (ex_ixSl1 (i := 2) Tryz.underlying29 sizeRow rfl rfl rfl (by omega)) ?_
         simp only [Act.put, sA, sB, sC]
         refine of_loud (k := 26) (by kernel_rfl) rfl ?_
         refine wl_storeV rfl _ _ rfl g0 2 (A47_) (i + 1) (c47_) rfl rfl G1 (by simp) ?_
         have G2 := G1.set_ 2 (.slice A47_ (i + 1) c47_)
         have U2 := U1.setCell (p := ⟨g0, 2, none⟩) (rfl) (.slice A47_ (i + 1) c47_)
         have H2 := three_store H1 G1 (Ne.symm rowNeI) hg0w 2 (.slice A47_ (i + 1) c47_)
         refine oi_end ⟨fun h => (by cases h), ?_⟩
         simp only [Act.put, sA, sB, sC]
         refine of_done (by kernel_rfl) ?_
         go_wp2_with fail
         go_roundw
         case rel => exact ⟨i + 1, A45_, A46_, A47_, c45_, c46_, c47_, by omega, by go_num, by rw [HT0.out, HT1.out, HT2.out, ints_app, ints_app, ints_app]; exact H2, G2, U2⟩
         case measure => simp [intOf]; omega
    ·refine wLit1 rfl 22 3 (.tmp 66) rfl (some 67) rfl Tryz.underlying22 1 sizeI zeroIT _ rfl rfl (by omega) (by omega) ?_
     intro w48_ g48_ hb_ hx_ hg_
     have H48_ := H35_.lit2 hb_ hx_ hg_
     have G48_ := G35_.ext hx_
     have U48_ := U35_.trans (Upd.of_ext (S := fun _ => False) hx_) (fun x h => h.elim)
     clear hb_ hx_ hg_ H35_ G35_ U35_
     refine oi_end ⟨fun _ => G48_, ?_⟩
     simp only [Act.put, sA, sB, sC]
     refine of_loud (k := 7) (by kernel_rfl) rfl ?_ 
     ·refine wLit1 rfl 22 3 (.tmp 54) rfl (some 55) rfl Tryz.underlying22 1 sizeI zeroIT _ rfl rfl (by omega) (by omega) ?_
      intro w49_ g49_ hb_ hx_ hg_
      have H49_ := H48_.lit0 hb_ hx_ hg_
      have G49_ := G48_.ext hx_
      have U49_ := U48_.trans (Upd.of_ext (S := fun _ => False) hx_) (fun x h => h.elim)
      clear hb_ hx_ hg_ H48_ G48_ U48_
      refine oi_end ⟨fun _ => G49_, ?_⟩
      simp only [Act.put, sA, sB, sC]
      refine of_loud (k := 8) (by kernel_rfl) rfl ?_ 
      ·refine wApf elt_intT rfl (.tmp 53) (.tmp 55) rfl w1.heap.size (.slice A0 i c0) i (ints X0) rfl H49_.p0 _ 1 (ints [z0]) rfl (blk_one (H49_.a0 _ _ rfl).1) (ints_one_mem _) (by omega) (by omega) H49_.base.2 ?_
       intro A50_ c50_ w50_ ho_ hgr_ hor_
       have H50_ := H49_.app0 ho_ hgr_ hor_
       have G50_ := G49_.grown hgr_ (own_blk_ne H49_.p0 G49_ (Ne.symm rowNeI))
       have U50_ := U49_.grown hgr_ (fun b hb => .inr (H49_.p0.lt b hb).1)
       clear ho_ hgr_ hor_ H49_ G49_ U49_
       refine oi_end ⟨fun _ => G50_, ?_⟩
       simp only [Act.put, sA, sB, sC]
       refine of_loud (k := 14) (by kernel_rfl) rfl ?_ 
       ·refine wApf elt_intT rfl (.tmp 59) (.tmp 61) rfl w1.heap.size (.slice A1 i c1) i (ints X1) rfl H50_.p1 _ 1 (ints [z1]) rfl (blk_one (H50_.a1 _ _ rfl).1) (ints_one_mem _) (by omega) (by omega) H50_.base.2 ?_
        intro A51_ c51_ w51_ ho_ hgr_ hor_
        have H51_ := H50_.app1 ho_ hgr_ hor_
        have G51_ := G50_.grown hgr_ (own_blk_ne H50_.p1 G50_ (Ne.symm rowNeI))
        have U51_ := U50_.grown hgr_ (fun b hb => .inr (H50_.p1.lt b hb).1)
        clear ho_ hgr_ hor_ H50_ G50_ U50_
        refine oi_end ⟨fun _ => G51_, ?_⟩
        simp only [Act.put, sA, sB, sC]
        refine of_loud (k := 20) (by kernel_rfl) rfl ?_ 
        ·refine wApf elt_intT rfl (.tmp 65) (.tmp 67) rfl w1.heap.size (.slice A2 i c2) i (ints X2) rfl H51_.p2 _ 1 (ints [z2]) rfl (blk_one (H51_.a2 _ _ rfl).1) (ints_one_mem _) (by omega) (by omega) H51_.base.2 ?_
         intro A52_ c52_ w52_ ho_ hgr_ hor_
         have H52_ := H51_.app2 ho_ hgr_ hor_
         have G52_ := G51_.grown hgr_ (own_blk_ne H51_.p2 G51_ (Ne.symm rowNeI))
         have U52_ := U51_.grown hgr_ (fun b hb => .inr (H51_.p2.lt b hb).1)
         clear ho_ hgr_ hor_ H51_ G51_ U51_
         refine oi_end ⟨fun _ => G52_, ?_⟩
         simp only [Act.put, sA, sB, sC]
         refine og_pure (k := 21) (by kernel_rfl) rfl (by rfl) (.pointer (some ⟨g0, 0, none⟩)) (ex_ixSl0 (i := 0) Tryz.underlying29 sizeRow rfl rfl rfl (by omega)) ?_
         simp only [Act.put, sA, sB, sC]
         refine of_loud (k := 22) (by kernel_rfl) rfl ?_
         refine wl_storeV rfl _ _ rfl g0 0 (A50_) (i + 1) (c50_) rfl rfl G52_ (by simp) ?_
         have G0 := G52_.set_ 0 (.slice A50_ (i + 1) c50_)
         have U0 := U52_.setCell (p := ⟨g0, 0, none⟩) (rfl) (.slice A50_ (i + 1) c50_)
         have H0 := three_store H52_ G52_ (Ne.symm rowNeI) hg0w 0 (.slice A50_ (i + 1) c50_)
         refine oi_end ⟨fun h => (by cases h), ?_⟩
         simp only [Act.put, sA, sB, sC]
         refine og_pure (k := 23) (by kernel_rfl) rfl (by rfl) (.pointer (some ⟨g0, 1, none⟩)) (ex_ixSl1 (i := 1) Tryz.underlying29 sizeRow rfl rfl rfl (by omega)) ?_
         simp only [Act.put, sA, sB, sC]
         refine of_loud (k := 24) (by kernel_rfl) rfl ?_
         refine wl_storeV rfl _ _ rfl g0 1 (A51_) (i + 1) (c51_) rfl rfl G0 (by simp) ?_
         have G1 := G0.set_ 1 (.slice A51_ (i + 1) c51_)
         have U1 := U0.setCell (p := ⟨g0, 1, none⟩) (rfl) (.slice A51_ (i + 1) c51_)
         have H1 := three_store H0 G0 (Ne.symm rowNeI) hg0w 1 (.slice A51_ (i + 1) c51_)
         refine oi_end ⟨fun h => (by cases h), ?_⟩
         simp only [Act.put, sA, sB, sC]
         refine og_pure (k := 25) (by kernel_rfl) rfl (by rfl) (.pointer (some ⟨g0, 2, none⟩)) (ex_ixSl1 (i := 2) Tryz.underlying29 sizeRow rfl rfl rfl (by omega)) ?_
         simp only [Act.put, sA, sB, sC]
         refine of_loud (k := 26) (by kernel_rfl) rfl ?_
         refine wl_storeV rfl _ _ rfl g0 2 (A52_) (i + 1) (c52_) rfl rfl G1 (by simp) ?_
         have G2 := G1.set_ 2 (.slice A52_ (i + 1) c52_)
         have U2 := U1.setCell (p := ⟨g0, 2, none⟩) (rfl) (.slice A52_ (i + 1) c52_)
         have H2 := three_store H1 G1 (Ne.symm rowNeI) hg0w 2 (.slice A52_ (i + 1) c52_)
         refine oi_end ⟨fun h => (by cases h), ?_⟩
         simp only [Act.put, sA, sB, sC]
         refine of_done (by kernel_rfl) ?_
         go_wp2_with fail
         go_roundw
         case rel => exact ⟨i + 1, A50_, A51_, A52_, c50_, c51_, c52_, by omega, by go_num, by rw [HT0.out, HT1.out, HT2.out, ints_app, ints_app, ints_app]; exact H2, G2, U2⟩
         case measure => simp [intOf]; omega
   ·refine wLit1 rfl 22 3 (.tmp 66) rfl (some 67) rfl Tryz.underlying22 1 sizeI zeroIT _ rfl rfl (by omega) (by omega) ?_
    intro w53_ g53_ hb_ hx_ hg_
    have H53_ := H3.lit2 hb_ hx_ hg_
    have G53_ := HGB.ext hx_
    have U53_ := hu9.trans (Upd.of_ext (S := fun _ => False) hx_) (fun x h => h.elim)
    clear hb_ hx_ hg_ H3 HGB hu9
    refine oi_end ⟨fun _ => G53_, ?_⟩
    simp only [Act.put, sA, sB, sC]
    refine of_two (k := 7) (l := 13) (by kernel_rfl) rfl rfl ?_ ?_ 
    ·refine wLit1 rfl 22 3 (.tmp 54) rfl (some 55) rfl Tryz.underlying22 1 sizeI zeroIT _ rfl rfl (by omega) (by omega) ?_
     intro w54_ g54_ hb_ hx_ hg_
     have H54_ := H53_.lit0 hb_ hx_ hg_
     have G54_ := G53_.ext hx_
     have U54_ := U53_.trans (Upd.of_ext (S := fun _ => False) hx_) (fun x h => h.elim)
     clear hb_ hx_ hg_ H53_ G53_ U53_
     refine oi_end ⟨fun _ => G54_, ?_⟩
     simp only [Act.put, sA, sB, sC]
     refine of_two (k := 8) (l := 13) (by kernel_rfl) rfl rfl ?_ ?_ 
     ·refine wApf elt_intT rfl (.tmp 53) (.tmp 55) rfl w1.heap.size (.slice A0 i c0) i (ints X0) rfl H54_.p0 _ 1 (ints [z0]) rfl (blk_one (H54_.a0 _ _ rfl).1) (ints_one_mem _) (by omega) (by omega) H54_.base.2 ?_
      intro A55_ c55_ w55_ ho_ hgr_ hor_
      have H55_ := H54_.app0 ho_ hgr_ hor_
      have G55_ := G54_.grown hgr_ (own_blk_ne H54_.p0 G54_ (Ne.symm rowNeI))
      have U55_ := U54_.grown hgr_ (fun b hb => .inr (H54_.p0.lt b hb).1)
      clear ho_ hgr_ hor_ H54_ G54_ U54_
      refine oi_end ⟨fun _ => G55_, ?_⟩
      simp only [Act.put, sA, sB, sC]
      refine of_loud (k := 13) (by kernel_rfl) rfl ?_ 
      ·refine wLit1 rfl 22 3 (.tmp 60) rfl (some 61) rfl Tryz.underlying22 1 sizeI zeroIT _ rfl rfl (by omega) (by omega) ?_
       intro w56_ g56_ hb_ hx_ hg_
       have H56_ := H55_.lit1 hb_ hx_ hg_
       have G56_ := G55_.ext hx_
       have U56_ := U55_.trans (Upd.of_ext (S := fun _ => False) hx_) (fun x h => h.elim)
       clear hb_ hx_ hg_ H55_ G55_ U55_
       refine oi_end ⟨fun _ => G56_, ?_⟩
       simp only [Act.put, sA, sB, sC]
       refine of_loud (k := 14) (by kernel_rfl) rfl ?_ 
       ·refine wApf elt_intT rfl (.tmp 59) (.tmp 61) rfl w1.heap.size (.slice A1 i c1) i (ints X1) rfl H56_.p1 _ 1 (ints [z1]) rfl (blk_one (H56_.a1 _ _ rfl).1) (ints_one_mem _) (by omega) (by omega) H56_.base.2 ?_
        intro A57_ c57_ w57_ ho_ hgr_ hor_
        have H57_ := H56_.app1 ho_ hgr_ hor_
        have G57_ := G56_.grown hgr_ (own_blk_ne H56_.p1 G56_ (Ne.symm rowNeI))
        have U57_ := U56_.grown hgr_ (fun b hb => .inr (H56_.p1.lt b hb).1)
        clear ho_ hgr_ hor_ H56_ G56_ U56_
        refine oi_end ⟨fun _ => G57_, ?_⟩
        simp only [Act.put, sA, sB, sC]
        refine of_loud (k := 20) (by kernel_rfl) rfl ?_ 
        ·refine wApf elt_intT rfl (.tmp 65) (.tmp 67) rfl w1.heap.size (.slice A2 i c2) i (ints X2) rfl H57_.p2 _ 1 (ints [z2]) rfl (blk_one (H57_.a2 _ _ rfl).1) (ints_one_mem _) (by omega) (by omega) H57_.base.2 ?_
         intro A58_ c58_ w58_ ho_ hgr_ hor_
         have H58_ := H57_.app2 ho_ hgr_ hor_
         have G58_ := G57_.grown hgr_ (own_blk_ne H57_.p2 G57_ (Ne.symm rowNeI))
         have U58_ := U57_.grown hgr_ (fun b hb => .inr (H57_.p2.lt b hb).1)
         clear ho_ hgr_ hor_ H57_ G57_ U57_
         refine oi_end ⟨fun _ => G58_, ?_⟩
         simp only [Act.put, sA, sB, sC]
         refine og_pure (k := 21) (by kernel_rfl) rfl (by rfl) (.pointer (some ⟨g0, 0, none⟩)) (ex_ixSl0 (i := 0) Tryz.underlying29 sizeRow rfl rfl rfl (by omega)) ?_
         simp only [Act.put, sA, sB, sC]
         refine of_loud (k := 22) (by kernel_rfl) rfl ?_
         refine wl_storeV rfl _ _ rfl g0 0 (A55_) (i + 1) (c55_) rfl rfl G58_ (by simp) ?_
         have G0 := G58_.set_ 0 (.slice A55_ (i + 1) c55_)
         have U0 := U58_.setCell (p := ⟨g0, 0, none⟩) (rfl) (.slice A55_ (i + 1) c55_)
         have H0 := three_store H58_ G58_ (Ne.symm rowNeI) hg0w 0 (.slice A55_ (i + 1) c55_)
         refine oi_end ⟨fun h => (by cases h), ?_⟩
         simp only [Act.put, sA, sB, sC]
         refine og_pure (k := 23) (by kernel_rfl) rfl (by rfl) (.pointer (some ⟨g0, 1, none⟩)) (ex_ixSl1 (i := 1) Tryz.underlying29 sizeRow rfl rfl rfl (by omega)) ?_
         simp only [Act.put, sA, sB, sC]
         refine of_loud (k := 24) (by kernel_rfl) rfl ?_
         refine wl_storeV rfl _ _ rfl g0 1 (A57_) (i + 1) (c57_) rfl rfl G0 (by simp) ?_
         have G1 := G0.set_ 1 (.slice A57_ (i + 1) c57_)
         have U1 := U0.setCell (p := ⟨g0, 1, none⟩) (rfl) (.slice A57_ (i + 1) c57_)
         have H1 := three_store H0 G0 (Ne.symm rowNeI) hg0w 1 (.slice A57_ (i + 1) c57_)
         refine oi_end ⟨fun h => (by cases h), ?_⟩
         simp only [Act.put, sA, sB, sC]
         refine og_pure (k := 25) (by kernel_rfl) rfl (by rfl) (.pointer (some ⟨g0, 2, none⟩)) (ex_ixSl1 (i := 2) Tryz.underlying29 sizeRow rfl rfl rfl (by omega)) ?_
         simp only [Act.put, sA, sB, sC]
         refine of_loud (k := 26) (by kernel_rfl) rfl ?_
         refine wl_storeV rfl _ _ rfl g0 2 (A58_) (i + 1) (c58_) rfl rfl G1 (by simp) ?_
         have G2 := G1.set_ 2 (.slice A58_ (i + 1) c58_)
         have U2 := U1.setCell (p := ⟨g0, 2, none⟩) (rfl) (.slice A58_ (i + 1) c58_)
         have H2 := three_store H1 G1 (Ne.symm rowNeI) hg0w 2 (.slice A58_ (i + 1) c58_)
         refine oi_end ⟨fun h => (by cases h), ?_⟩
         simp only [Act.put, sA, sB, sC]
         refine of_done (by kernel_rfl) ?_
         go_wp2_with fail
         go_roundw
         case rel => exact ⟨i + 1, A55_, A57_, A58_, c55_, c57_, c58_, by omega, by go_num, by rw [HT0.out, HT1.out, HT2.out, ints_app, ints_app, ints_app]; exact H2, G2, U2⟩
         case measure => simp [intOf]; omega
     ·refine wLit1 rfl 22 3 (.tmp 60) rfl (some 61) rfl Tryz.underlying22 1 sizeI zeroIT _ rfl rfl (by omega) (by omega) ?_
      intro w59_ g59_ hb_ hx_ hg_
      have H59_ := H54_.lit1 hb_ hx_ hg_
      have G59_ := G54_.ext hx_
      have U59_ := U54_.trans (Upd.of_ext (S := fun _ => False) hx_) (fun x h => h.elim)
      clear hb_ hx_ hg_ H54_ G54_ U54_
      refine oi_end ⟨fun _ => G59_, ?_⟩
      simp only [Act.put, sA, sB, sC]
      refine of_loud (k := 8) (by kernel_rfl) rfl ?_ 
      ·refine wApf elt_intT rfl (.tmp 53) (.tmp 55) rfl w1.heap.size (.slice A0 i c0) i (ints X0) rfl H59_.p0 _ 1 (ints [z0]) rfl (blk_one (H59_.a0 _ _ rfl).1) (ints_one_mem _) (by omega) (by omega) H59_.base.2 ?_
       intro A60_ c60_ w60_ ho_ hgr_ hor_
       have H60_ := H59_.app0 ho_ hgr_ hor_
       have G60_ := G59_.grown hgr_ (own_blk_ne H59_.p0 G59_ (Ne.symm rowNeI))
       have U60_ := U59_.grown hgr_ (fun b hb => .inr (H59_.p0.lt b hb).1)
       clear ho_ hgr_ hor_ H59_ G59_ U59_
       refine oi_end ⟨fun _ => G60_, ?_⟩
       simp only [Act.put, sA, sB, sC]
       refine of_loud (k := 14) (by kernel_rfl) rfl ?_ 
       ·refine wApf elt_intT rfl (.tmp 59) (.tmp 61) rfl w1.heap.size (.slice A1 i c1) i (ints X1) rfl H60_.p1 _ 1 (ints [z1]) rfl (blk_one (H60_.a1 _ _ rfl).1) (ints_one_mem _) (by omega) (by omega) H60_.base.2 ?_
        intro A61_ c61_ w61_ ho_ hgr_ hor_
        have H61_ := H60_.app1 ho_ hgr_ hor_
        have G61_ := G60_.grown hgr_ (own_blk_ne H60_.p1 G60_ (Ne.symm rowNeI))
        have U61_ := U60_.grown hgr_ (fun b hb => .inr (H60_.p1.lt b hb).1)
        clear ho_ hgr_ hor_ H60_ G60_ U60_
        refine oi_end ⟨fun _ => G61_, ?_⟩
        simp only [Act.put, sA, sB, sC]
        refine of_loud (k := 20) (by kernel_rfl) rfl ?_ 
        ·refine wApf elt_intT rfl (.tmp 65) (.tmp 67) rfl w1.heap.size (.slice A2 i c2) i (ints X2) rfl H61_.p2 _ 1 (ints [z2]) rfl (blk_one (H61_.a2 _ _ rfl).1) (ints_one_mem _) (by omega) (by omega) H61_.base.2 ?_
         intro A62_ c62_ w62_ ho_ hgr_ hor_
         have H62_ := H61_.app2 ho_ hgr_ hor_
         have G62_ := G61_.grown hgr_ (own_blk_ne H61_.p2 G61_ (Ne.symm rowNeI))
         have U62_ := U61_.grown hgr_ (fun b hb => .inr (H61_.p2.lt b hb).1)
         clear ho_ hgr_ hor_ H61_ G61_ U61_
         refine oi_end ⟨fun _ => G62_, ?_⟩
         simp only [Act.put, sA, sB, sC]
         refine og_pure (k := 21) (by kernel_rfl) rfl (by rfl) (.pointer (some ⟨g0, 0, none⟩)) (ex_ixSl0 (i := 0) Tryz.underlying29 sizeRow rfl rfl rfl (by omega)) ?_
         simp only [Act.put, sA, sB, sC]
         refine of_loud (k := 22) (by kernel_rfl) rfl ?_
         refine wl_storeV rfl _ _ rfl g0 0 (A60_) (i + 1) (c60_) rfl rfl G62_ (by simp) ?_
         have G0 := G62_.set_ 0 (.slice A60_ (i + 1) c60_)
         have U0 := U62_.setCell (p := ⟨g0, 0, none⟩) (rfl) (.slice A60_ (i + 1) c60_)
         have H0 := three_store H62_ G62_ (Ne.symm rowNeI) hg0w 0 (.slice A60_ (i + 1) c60_)
         refine oi_end ⟨fun h => (by cases h), ?_⟩
         simp only [Act.put, sA, sB, sC]
         refine og_pure (k := 23) (by kernel_rfl) rfl (by rfl) (.pointer (some ⟨g0, 1, none⟩)) (ex_ixSl1 (i := 1) Tryz.underlying29 sizeRow rfl rfl rfl (by omega)) ?_
         simp only [Act.put, sA, sB, sC]
         refine of_loud (k := 24) (by kernel_rfl) rfl ?_
         refine wl_storeV rfl _ _ rfl g0 1 (A61_) (i + 1) (c61_) rfl rfl G0 (by simp) ?_
         have G1 := G0.set_ 1 (.slice A61_ (i + 1) c61_)
         have U1 := U0.setCell (p := ⟨g0, 1, none⟩) (rfl) (.slice A61_ (i + 1) c61_)
         have H1 := three_store H0 G0 (Ne.symm rowNeI) hg0w 1 (.slice A61_ (i + 1) c61_)
         refine oi_end ⟨fun h => (by cases h), ?_⟩
         simp only [Act.put, sA, sB, sC]
         refine og_pure (k := 25) (by kernel_rfl) rfl (by rfl) (.pointer (some ⟨g0, 2, none⟩)) (ex_ixSl1 (i := 2) Tryz.underlying29 sizeRow rfl rfl rfl (by omega)) ?_
         simp only [Act.put, sA, sB, sC]
         refine of_loud (k := 26) (by kernel_rfl) rfl ?_
         refine wl_storeV rfl _ _ rfl g0 2 (A62_) (i + 1) (c62_) rfl rfl G1 (by simp) ?_
         have G2 := G1.set_ 2 (.slice A62_ (i + 1) c62_)
         have U2 := U1.setCell (p := ⟨g0, 2, none⟩) (rfl) (.slice A62_ (i + 1) c62_)
         have H2 := three_store H1 G1 (Ne.symm rowNeI) hg0w 2 (.slice A62_ (i + 1) c62_)
         refine oi_end ⟨fun h => (by cases h), ?_⟩
         simp only [Act.put, sA, sB, sC]
         refine of_done (by kernel_rfl) ?_
         go_wp2_with fail
         go_roundw
         case rel => exact ⟨i + 1, A60_, A61_, A62_, c60_, c61_, c62_, by omega, by go_num, by rw [HT0.out, HT1.out, HT2.out, ints_app, ints_app, ints_app]; exact H2, G2, U2⟩
         case measure => simp [intOf]; omega
    ·refine wLit1 rfl 22 3 (.tmp 60) rfl (some 61) rfl Tryz.underlying22 1 sizeI zeroIT _ rfl rfl (by omega) (by omega) ?_
     intro w63_ g63_ hb_ hx_ hg_
     have H63_ := H53_.lit1 hb_ hx_ hg_
     have G63_ := G53_.ext hx_
     have U63_ := U53_.trans (Upd.of_ext (S := fun _ => False) hx_) (fun x h => h.elim)
     clear hb_ hx_ hg_ H53_ G53_ U53_
     refine oi_end ⟨fun _ => G63_, ?_⟩
     simp only [Act.put, sA, sB, sC]
     refine of_loud (k := 7) (by kernel_rfl) rfl ?_ 
     ·refine wLit1 rfl 22 3 (.tmp 54) rfl (some 55) rfl Tryz.underlying22 1 sizeI zeroIT _ rfl rfl (by omega) (by omega) ?_
      intro w64_ g64_ hb_ hx_ hg_
      have H64_ := H63_.lit0 hb_ hx_ hg_
      have G64_ := G63_.ext hx_
      have U64_ := U63_.trans (Upd.of_ext (S := fun _ => False) hx_) (fun x h => h.elim)
      clear hb_ hx_ hg_ H63_ G63_ U63_
      refine oi_end ⟨fun _ => G64_, ?_⟩
      simp only [Act.put, sA, sB, sC]
      refine of_loud (k := 8) (by kernel_rfl) rfl ?_ 
      ·refine wApf elt_intT rfl (.tmp 53) (.tmp 55) rfl w1.heap.size (.slice A0 i c0) i (ints X0) rfl H64_.p0 _ 1 (ints [z0]) rfl (blk_one (H64_.a0 _ _ rfl).1) (ints_one_mem _) (by omega) (by omega) H64_.base.2 ?_
       intro A65_ c65_ w65_ ho_ hgr_ hor_
       have H65_ := H64_.app0 ho_ hgr_ hor_
       have G65_ := G64_.grown hgr_ (own_blk_ne H64_.p0 G64_ (Ne.symm rowNeI))
       have U65_ := U64_.grown hgr_ (fun b hb => .inr (H64_.p0.lt b hb).1)
       clear ho_ hgr_ hor_ H64_ G64_ U64_
       refine oi_end ⟨fun _ => G65_, ?_⟩
       simp only [Act.put, sA, sB, sC]
       refine of_loud (k := 14) (by kernel_rfl) rfl ?_ 
       ·refine wApf elt_intT rfl (.tmp 59) (.tmp 61) rfl w1.heap.size (.slice A1 i c1) i (ints X1) rfl H65_.p1 _ 1 (ints [z1]) rfl (blk_one (H65_.a1 _ _ rfl).1) (ints_one_mem _) (by omega) (by omega) H65_.base.2 ?_
        intro A66_ c66_ w66_ ho_ hgr_ hor_
        have H66_ := H65_.app1 ho_ hgr_ hor_
        have G66_ := G65_.grown hgr_ (own_blk_ne H65_.p1 G65_ (Ne.symm rowNeI))
        have U66_ := U65_.grown hgr_ (fun b hb => .inr (H65_.p1.lt b hb).1)
        clear ho_ hgr_ hor_ H65_ G65_ U65_
        refine oi_end ⟨fun _ => G66_, ?_⟩
        simp only [Act.put, sA, sB, sC]
        refine of_loud (k := 20) (by kernel_rfl) rfl ?_ 
        ·refine wApf elt_intT rfl (.tmp 65) (.tmp 67) rfl w1.heap.size (.slice A2 i c2) i (ints X2) rfl H66_.p2 _ 1 (ints [z2]) rfl (blk_one (H66_.a2 _ _ rfl).1) (ints_one_mem _) (by omega) (by omega) H66_.base.2 ?_
         intro A67_ c67_ w67_ ho_ hgr_ hor_
         have H67_ := H66_.app2 ho_ hgr_ hor_
         have G67_ := G66_.grown hgr_ (own_blk_ne H66_.p2 G66_ (Ne.symm rowNeI))
         have U67_ := U66_.grown hgr_ (fun b hb => .inr (H66_.p2.lt b hb).1)
         clear ho_ hgr_ hor_ H66_ G66_ U66_
         refine oi_end ⟨fun _ => G67_, ?_⟩
         simp only [Act.put, sA, sB, sC]
         refine og_pure (k := 21) (by kernel_rfl) rfl (by rfl) (.pointer (some ⟨g0, 0, none⟩)) (ex_ixSl0 (i := 0) Tryz.underlying29 sizeRow rfl rfl rfl (by omega)) ?_
         simp only [Act.put, sA, sB, sC]
         refine of_loud (k := 22) (by kernel_rfl) rfl ?_
         refine wl_storeV rfl _ _ rfl g0 0 (A65_) (i + 1) (c65_) rfl rfl G67_ (by simp) ?_
         have G0 := G67_.set_ 0 (.slice A65_ (i + 1) c65_)
         have U0 := U67_.setCell (p := ⟨g0, 0, none⟩) (rfl) (.slice A65_ (i + 1) c65_)
         have H0 := three_store H67_ G67_ (Ne.symm rowNeI) hg0w 0 (.slice A65_ (i + 1) c65_)
         refine oi_end ⟨fun h => (by cases h), ?_⟩
         simp only [Act.put, sA, sB, sC]
         refine og_pure (k := 23) (by kernel_rfl) rfl (by rfl) (.pointer (some ⟨g0, 1, none⟩)) (ex_ixSl1 (i := 1) Tryz.underlying29 sizeRow rfl rfl rfl (by omega)) ?_
         simp only [Act.put, sA, sB, sC]
         refine of_loud (k := 24) (by kernel_rfl) rfl ?_
         refine wl_storeV rfl _ _ rfl g0 1 (A66_) (i + 1) (c66_) rfl rfl G0 (by simp) ?_
         have G1 := G0.set_ 1 (.slice A66_ (i + 1) c66_)
         have U1 := U0.setCell (p := ⟨g0, 1, none⟩) (rfl) (.slice A66_ (i + 1) c66_)
         have H1 := three_store H0 G0 (Ne.symm rowNeI) hg0w 1 (.slice A66_ (i + 1) c66_)
         refine oi_end ⟨fun h => (by cases h), ?_⟩
         simp only [Act.put, sA, sB, sC]
         refine og_pure (k := 25) (by kernel_rfl) rfl (by rfl) (.pointer (some ⟨g0, 2, none⟩)) (ex_ixSl1 (i := 2) Tryz.underlying29 sizeRow rfl rfl rfl (by omega)) ?_
         simp only [Act.put, sA, sB, sC]
         refine of_loud (k := 26) (by kernel_rfl) rfl ?_
         refine wl_storeV rfl _ _ rfl g0 2 (A67_) (i + 1) (c67_) rfl rfl G1 (by simp) ?_
         have G2 := G1.set_ 2 (.slice A67_ (i + 1) c67_)
         have U2 := U1.setCell (p := ⟨g0, 2, none⟩) (rfl) (.slice A67_ (i + 1) c67_)
         have H2 := three_store H1 G1 (Ne.symm rowNeI) hg0w 2 (.slice A67_ (i + 1) c67_)
         refine oi_end ⟨fun h => (by cases h), ?_⟩
         simp only [Act.put, sA, sB, sC]
         refine of_done (by kernel_rfl) ?_
         go_wp2_with fail
         go_roundw
         case rel => exact ⟨i + 1, A65_, A66_, A67_, c65_, c66_, c67_, by omega, by go_num, by rw [HT0.out, HT1.out, HT2.out, ints_app, ints_app, ints_app]; exact H2, G2, U2⟩
         case measure => simp [intOf]; omega
  ·have hiN : i = N := by omega
   subst hiN
   go_wp2_with fail
   go_ret
   refine ⟨_, 3, 3, rfl, rows_mkF hgb hg0w ⟨A0, c0, by rw [turnRow_len], ?_, fun ad e => Nat.le_trans HX1.out.size ((own_out h3.p0).2 ad e)⟩ ⟨A1, c1, by rw [turnRow_len], ?_, fun ad e => Nat.le_trans HX1.out.size ((own_out h3.p1).2 ad e)⟩ ⟨A2, c2, by rw [turnRow_len], ?_, fun ad e => Nat.le_trans HX1.out.size ((own_out h3.p2).2 ad e)⟩, hxr⟩
   ·rw [turnRow_len]; exact (own_out h3.p0).1
   ·rw [turnRow_len]; exact (own_out h3.p1).1
   ·rw [turnRow_len]; exact (own_out h3.p2).1
end
end Go.Proofs.YtkggcjdlpendfaaGreatDoor
