/- Contracts for the law DeskRunsCard, part 23: what the functions that it reaches answer, for all arguments that the theorems name. -/
import Derived.Test.YtlhggcbpipmjhaaGreatDoorMDeskRunsCard4
import Derived.Test.YtlhggcbpipmjhaaGreatDoorMDeskRunsCard22
namespace Go.Proofs.YtlhggcbpipmjhaaGreatDoor
set_option linter.unusedVariables false
set_option linter.unusedSimpArgs false
open Go.RowKit
section
open SM
theorem infoIB : ∃ i, Tryz.prog.info? 3 = some i ∧ i.zero = some (.int .i64 0) ∧ i.size = 1 ∧ i.bytes = 8 := by
 have h1 : (Tryz.prog.info? 3).map (fun i => (i.zero, i.size, i.bytes)) = some (some (.int .i64 0), 1, 8) := by kernel_rfl
 cases hq : Tryz.prog.info? 3 with
 | none => rw [hq] at h1; cases h1
 | some i =>
   rw [hq] at h1
   simp at h1
   exact ⟨i, rfl, h1.1, h1.2.1, h1.2.2⟩
theorem infoLB : ∃ i, Tryz.prog.info? 47 = some i ∧ i.zero = some (.slice none 0 0) ∧ i.size = 1 ∧ i.bytes = 24 := by
 have h1 : (Tryz.prog.info? 47).map (fun i => (i.zero, i.size, i.bytes)) = some (some (.slice none 0 0), 1, 24) := by kernel_rfl
 cases hq : Tryz.prog.info? 47 with
 | none => rw [hq] at h1; cases h1
 | some i =>
   rw [hq] at h1
   simp at h1
   exact ⟨i, rfl, h1.1, h1.2.1, h1.2.2⟩
theorem made_one (z : Value) (n : Nat) : madeCells #[z] n = (List.replicate n z).toArray := by
 rw [← toList_madeCells_one z n]
section
variable {ops : Array Oper} {rest : List Oper} {o : Oper} {a : Act} {w : World} {Q : Exit → Act → World → Prop}
theorem wpList_makeI (hg : o.guard = none) (dst : Option Tmp) (hdst : o.dst = dst) (x y : Operand) (ho : o.op = .makeSlice 47 x y) (n : Nat) (hn : n ≤ 1000000)
 (hx : a.eval x = .int .i64 (n : Int)) (hy : a.eval y = .int .i64 (n : Int))
 (h : ∀ w1 g, Blk w1 g 3 (ints (List.replicate n 0)).toArray → Ext w w1 → w.heap.size ≤ g → wpList Tryz.prog ops Q rest (a.put dst (.slice (some ⟨g, 0, none⟩) n n)) w1) : wpList Tryz.prog ops Q (o :: rest) a w := by
 subst hdst
 obtain ⟨i, hi, hz, hs, hb⟩ := infoIB
 have hr := run_makeSlice (P := Tryz.prog) w 47 3 i (.int .i64 0) Tryz.underlying47 hi hz .i64 .i64 (n : Int) (n : Int) (by omega) (Int.le_refl _) (by rw [hs]; omega) (by rw [hb]; omega) (by omega)
 rw [Int.toNat_natCast, hs, show (Value.int .i64 0).cells = #[.int .i64 0] from rfl, made_one, Nat.mul_one, show List.replicate n (Value.int .i64 0) = ints (List.replicate n 0) by simp [ints]] at hr
 refine wpList_plain hg fun _ hK => ?_
 unfold Oper.wp execOp
 simp only [ho, hx, hy, Sem.run_bind, hr, Result.andThen_ok, Sem.run_pure]
 exact hK _ _ (h _ _ (Blk.new w _ _) ((Ext.refl w).alloc _) (Nat.le_refl _))
theorem wpList_makeL (hg : o.guard = none) (dst : Option Tmp) (hdst : o.dst = dst) (x y : Operand) (ho : o.op = .makeSlice 92 x y) (n : Nat) (hn : n ≤ 1000000)
 (hx : a.eval x = .int .i64 (n : Int)) (hy : a.eval y = .int .i64 (n : Int))
 (h : ∀ w1 g, Blk w1 g 47 (List.replicate n (.slice none 0 0)).toArray → Ext w w1 → w.heap.size ≤ g → wpList Tryz.prog ops Q rest (a.put dst (.slice (some ⟨g, 0, none⟩) n n)) w1) : wpList Tryz.prog ops Q (o :: rest) a w := by
 subst hdst
 obtain ⟨i, hi, hz, hs, hb⟩ := infoLB
 have hr := run_makeSlice (P := Tryz.prog) w 92 47 i (.slice none 0 0) Tryz.underlying92 hi hz .i64 .i64 (n : Int) (n : Int) (by omega) (Int.le_refl _) (by rw [hs]; omega) (by rw [hb]; omega) (by omega)
 rw [Int.toNat_natCast, hs, show (Value.slice none 0 0).cells = #[.slice none 0 0] from rfl, made_one, Nat.mul_one] at hr
 refine wpList_plain hg fun _ hK => ?_
 unfold Oper.wp execOp
 simp only [ho, hx, hy, Sem.run_bind, hr, Result.andThen_ok, Sem.run_pure]
 exact hK _ _ (h _ _ (Blk.new w _ _) ((Ext.refl w).alloc _) (Nat.le_refl _))
theorem own_at {w : World} {B m k g : Nat} {L : List Int} (h : w.ownsRow B 3 1 (.slice (some ⟨g, 0, none⟩) m k) m (ints L)) {j : Nat} (hj : j < m) : ∃ hl : j < L.length, w.cell? ⟨g, j, none⟩ = some (.int .i64 L[j]) := by
 obtain ⟨ad, u, e, -, hk, hc⟩ := (own_out h).1.at1 hj
 injection e with e
 subst e
 obtain ⟨hl, rfl⟩ := ints_at _ _ _ hk
 rw [addr_add, Nat.zero_add] at hc
 exact ⟨hl, hc⟩
theorem own_addr {w : World} {B m k : Nat} {C : Option Addr} {L : List Int} (h : w.ownsRow B 3 1 (.slice C m k) m (ints L)) (hm : 0 < m) : ∃ g, C = some ⟨g, 0, none⟩ ∧ B ≤ g := by
 rcases h.2 with ⟨-, h0⟩ | ⟨g, cap, cur, e, hb, -⟩
 ·omega
 ·injection e with e1 e2 e3
  exact ⟨g, e1, hb⟩
theorem wl_storeO (hg : o.guard = none) (x y : Operand) (ho : o.op = .store 3 x y) (g i : Nat) (z : Int) (hx : a.eval x = .pointer (some ⟨g, i, none⟩)) (hy : a.eval y = .int .i64 z)
 {B m k : Nat} {L : List Int} (hB : w.ownsRow B 3 1 (.slice (some ⟨g, 0, none⟩) m k) m (ints L)) (hi : i < m)
 (h : ∀ w1, w1.ownsRow B 3 1 (.slice (some ⟨g, 0, none⟩) m k) m (ints (L.set i z)) → Upd (fun b => b = g) w w1 → wpList Tryz.prog ops Q rest (a.put o.dst undef) w1) : wpList Tryz.prog ops Q (o :: rest) a w :=
 wpList_plain hg fun _ hK => by
  obtain ⟨hl, hc⟩ := own_at hB hi
  refine wp_storeI x y ho ⟨g, i, none⟩ z hx hy _ hc (hB.frozenAt i) (hK _ _ (h _ ?_ ((Upd.refl (fun b => b = g) w).setCell (p := ⟨g, i, none⟩) rfl _)))
  have := (hB.stored i (.int .i64 z)).1
  unfold ints at this ⊢
  rwa [List.map_set]
end
attribute [local irreducible] BM.posN BM.pre BM.D
set_option maxRecDepth 20000 in
set_option maxHeartbeats 16000000 in
theorem bestCost_any (counts : List Int) (A : Option Addr) (n c : Nat) (hn : counts.length = n) (w : World) (hv : SL w 1 (.slice A n c) n (ints counts)) (hb : bcheckZ counts = 0) :
 Calls Tryz.prog 27 #[.slice A n c] w fun e w' => (∃ ws, ws.Perm (0 :: BM.posN counts n) ∧ ws.Pairwise (· ≤ ·) ∧ e = .returned (.int .i64 ((BM.bestZ ws : Nat) : Int))) ∧ Ext w w' := by
 obtain ⟨b1, b2⟩ := bcheck_zero hb
 have HIN := hid_ (allIn_iff.1 b2)
 rw [hn] at b1
 have HN := hid_ hn
 have hp0 : BM.posN counts 0 = [] := by rw [BM.posN]
 have HPS := hid_ (fun i => (show BM.posN counts (i + 1) = BM.posN counts i ++ (if 0 < counts.getD i 0 then [(counts.getD i 0).toNat] else []) by rw [BM.posN]))
 have HPB := hid_ (BM.posN_bd counts (fun z hz => (HIN.out z hz).2))
 obtain ⟨PN, hPN⟩ : ∃ PN, BM.posN counts = PN := ⟨_, rfl⟩
 rw [hPN] at hp0 HPS HPB ⊢
 have ho0 : w.ownsRow w.heap.size 3 1 (.slice none 0 0) 0 (ints ((PN 0).map Int.ofNat)) := by rw [hp0]; exact own_nil _ _ _ _
 clear hb b2 hn hPN
 go_enter Tryz.func27, Tryz.ntmps27
 go_upto_region 3 with fail
 go_loopw [3, 20] (fun sv iv wr => ∃ (i m k : Nat) (C : Option Addr), i ≤ n ∧ iv = .int .i64 (i : Int) ∧ sv = .slice C m k ∧ wr.ownsRow w.heap.size 3 1 (.slice C m k) m (ints ((PN i).map Int.ofNat)) ∧ m ≤ i ∧ Ext w wr) (fun _ i _ => n - (intOf i).toNat)
 case atStart => exact ⟨0, 0, 0, none, by omega, rfl, rfl, ho0, by omega, Ext.refl _⟩
 case round =>
  clear ho0
  obtain ⟨i, m, k, C, hi, rfl, rfl, ho, hmi, hx⟩ := hrel
  by_cases hlt : i < n
  ·obtain ⟨ad, u, rfl, hab, hxk, hcell⟩ := (hv.ext hx).at1 hlt
   obtain ⟨hkl, rfl⟩ := ints_at _ _ _ hxk
   have hz1 := HIN.out _ (List.getElem_mem hkl)
   have hss := HPS.out i
   rw [show counts.getD i 0 = counts[i] by simp [hkl]] at hss
   generalize counts[i] = z8 at *
   obtain ⟨z, rfl⟩ : ∃ z : Nat, z8 = (z : Int) := ⟨z8.toNat, by omega⟩
   clear hxk
   by_cases hp1 : 0 < z
   ·rw [if_pos (by omega), Int.toNat_natCast] at hss
    have HSU : Hid (ints ((PN i).map Int.ofNat) ++ ints [(z : Int)] = ints ((PN (i + 1)).map Int.ofNat)) := hid_ (by rw [hss]; simp [ints])
    clear hss
    generalize ints ((PN i).map Int.ofNat) = Z at *
    go_wp2_with (first
     | ((with_reducible apply gS 25); refine wl_run rfl (.bool true) (ex_gtr rfl rfl rfl (by simpa using hp1)) ?_)
     | ((with_reducible apply gS 28); refine wLit1 rfl 47 3 _ rfl (some 28) rfl Tryz.underlying47 1 sizeI zeroI1 (.int .i64 (z : Int)) rfl rfl (by omega) (by omega) ?_; intro w5 g5 hb5 hx5 hg5; have ho5 := own_keep ho hx5; have hsz5 := (hx.trans hx5).size)
     | ((with_reducible apply gS 29); refine wApf elt_intC rfl _ _ rfl w.heap.size _ _ _ rfl ho5 _ 1 _ rfl (IntsAt.lit hb5).1 (ints_one_mem [(z : Int)]) (by omega) (by omega) (by omega) ?_; intro C7 k7 w7 ho7 hg7 hr7; rw [HSU.out] at ho7; have hx7 := (upd_grown hg7).ext (hx.trans hx5) (fun x h => (ho5.lt x h).1)))
    go_roundw
    case rel => exact ⟨i + 1, m + 1, k7, C7, by omega, by go_num, rfl, ho7, by omega, hx7⟩
    case measure => simp [intOf]; omega
   ·rw [if_neg (by omega), List.append_nil] at hss
    have HSU := hid_ hss
    clear hss
    go_wp2_with ((with_reducible apply gS 25); refine wl_run rfl (.bool false) (ex_gtr rfl rfl rfl (by simpa using hp1)) ?_)
    go_roundw
    case rel => exact ⟨i + 1, m, k, C, by omega, by go_num, rfl, by rw [HSU.out]; exact ho, by omega, hx⟩
    case measure => simp [intOf]; omega
  ·obtain rfl : i = n := by omega
   obtain ⟨X0, hX0⟩ : ∃ X0, PN i = X0 := ⟨_, rfl⟩
   have hpb := HPB.out i
   rw [hX0] at ho hpb
   have HX0 := hid_ hX0
   obtain ⟨hpl, hpx⟩ := hpb
   have HPX := hid_ hpx
   have hml : m = X0.length := by have := ho.1; simp [ints] at this; omega
   have HML := hid_ hml
   obtain ⟨L0, hL0⟩ : ∃ L0, X0.map Int.ofNat = L0 := ⟨_, rfl⟩
   have HL0 := hid_ hL0
   have HLL : Hid (L0.length = m) := hid_ (by rw [← hL0, List.length_map, hml])
   rw [hL0] at ho
   clear HPS HPB hp0 hpx hL0 hX0 hml HIN hv
   have hs0 : Sorted 0 ng L0 0 0 := fun x y h1 h2 h3 => by omega
   go_upto_region 9 with ((with_reducible apply gS 21); refine wl_run rfl (.bool false) (ex_lss rfl rfl rfl (by simp)) ?_)
   go_loopw [33] (fun iv wr => ∃ (q : Nat) (L : List Int), q ≤ m ∧ iv = .int .i64 (q : Int) ∧ wr.ownsRow w.heap.size 3 1 (.slice C m k) m (ints L) ∧ L.Perm L0 ∧ Sorted 0 ng L 0 q ∧ Ext w wr) (fun q _ => m - (intOf q).toNat)
   case atStart => exact ⟨0, L0, by omega, rfl, ho, .refl _, hs0, hx⟩
   case round =>
    clear ho hs0 hx
    obtain ⟨q, L, hq, rfl, ho, hpm, hso, hx⟩ := hrel
    by_cases hlt2 : q < m
    ·obtain ⟨g, rfl, hBg⟩ := own_addr ho (by omega)
     have hins := Ins.start 0 ng hso
     go_upto_region 12 with ((with_reducible apply gS 34); refine wl_run rfl (.bool true) (ex_lss rfl rfl rfl (by simpa using hlt2)) ?_)
     go_loopw [7] (fun kv wr => ∃ (j : Nat) (L : List Int), j ≤ q ∧ kv = .int .i64 (j : Int) ∧ wr.ownsRow w.heap.size 3 1 (.slice (some ⟨g, 0, none⟩) m k) m (ints L) ∧ L.Perm L0 ∧ Ins 0 ng L 0 j q ∧ Ext w wr) (fun j _ => (intOf j).toNat)
     case atStart => exact ⟨q, L, by omega, rfl, ho, hpm, hins, hx⟩
     case round =>
      clear ho hpm hins hso hx
      obtain ⟨j, L, hjq, rfl, ho, hpm, hins, hx⟩ := hrel
      have hLl : L.length = m := hpm.length_eq.trans HLL.out
      have hoD := own_keep ho (Ext.refl wr).drew
      have hxD := hx.drew
      by_cases hj0 : 0 < j
      ·obtain ⟨p, hp⟩ : ∃ p, j - 1 = p := ⟨_, rfl⟩
       obtain ⟨hl_1, hc1⟩ := own_at hoD (show j < m by omega)
       obtain ⟨hl_2, hc2⟩ := own_at hoD (show p < m by omega)
       by_cases hgt : (L[p]'(by omega)) < (L[j]'(by omega))
       ·have hgd : decide ((L[p]'(by omega)) < (L[j]'(by omega))) = true := by simpa using hgt
        have hwa : wA 0 ng L j < wA 0 ng L (j - 1) := by
         rw [hp]
         unfold wA ng
         rw [at_get 0 L j (by omega), at_get 0 L p (by omega)]
         omega
        have hstep := hins.step 0 ng hj0 hjq (by omega) hwa
        have hsw : swp 0 L j (j - 1) = (L.set j (L[p]'(by omega))).set p (L[j]'(by omega)) := by
         rw [hp]
         unfold swp
         rw [at_get 0 L j (by omega), at_get 0 L p (by omega)]
        have hpm6 := (swp_perm 0 L j (j - 1) (by omega) (by omega)).trans hpm
        rw [hsw] at hstep hpm6
        rw [hp] at hstep
        obtain ⟨Lj, hLj⟩ : ∃ Lj, L[j]'(by omega) = Lj := ⟨_, rfl⟩
        obtain ⟨Lp, hLp⟩ : ∃ Lp, L[p]'(by omega) = Lp := ⟨_, rfl⟩
        have HLj := hid_ hLj
        have HLp := hid_ hLp
        rw [hLj] at hc1 hstep hpm6
        rw [hLp] at hc2 hstep hpm6
        rw [hLj, hLp] at hgd
        clear hsw hwa hins hLj hLp hgt
        go_wp2_with fail
        refine wp_region_lx later_ext (by kernel_rfl) (by kernel_rfl) ?_
        refine lx_run (by rfl) (.int .i64 (j : Int)) (ex_move rfl rfl) ?_
        simp only [Act.put, sA, sB, sC]
        refine lx_run (by rfl) (.bool true) (ex_gtr rfl rfl rfl (by simp; omega)) ?_
        simp only [Act.put, sA, sB, sC]
        refine lx_run (by rfl) (.bool true) (ex_move rfl rfl) ?_
        simp only [Act.put, sA, sB, sC]
        refine lx_run (by rfl) (.slice (some ⟨g, 0, none⟩) m k) (ex_move rfl rfl) ?_
        simp only [Act.put, sA, sB, sC]
        refine lx_run (by rfl) (.int .i64 (j : Int)) (ex_move rfl rfl) ?_
        simp only [Act.put, sA, sB, sC]
        refine lx_run (by rfl) (.pointer (some ⟨g, j, none⟩)) (ex_ixSl0 Tryz.underlying47 sizeI rfl rfl rfl (by omega)) ?_
        simp only [Act.put, sA, sB, sC]
        refine lx_read (by rfl) (.int .i64 Lj) (fun W hW => ex_loadI rfl rfl (cell_later hW hc1)) ?_
        simp only [Act.put, sA, sB, sC]
        refine lx_run (by rfl) (.slice (some ⟨g, 0, none⟩) m k) (ex_move rfl rfl) ?_
        simp only [Act.put, sA, sB, sC]
        refine lx_run (by rfl) (.int .i64 (j : Int)) (ex_move rfl rfl) ?_
        simp only [Act.put, sA, sB, sC]
        refine lx_run (by rfl) (.int .i64 (p : Int)) (by rw [← hp]; exact ex_subN (i := j) (d := 1) rfl rfl rfl (by omega) (by omega)) ?_
        simp only [Act.put, sA, sB, sC]
        refine lx_run (by rfl) (.pointer (some ⟨g, p, none⟩)) (ex_ixSl0 Tryz.underlying47 sizeI rfl rfl rfl (by omega)) ?_
        simp only [Act.put, sA, sB, sC]
        refine lx_read (by rfl) (.int .i64 Lp) (fun W hW => ex_loadI rfl rfl (cell_later hW hc2)) ?_
        simp only [Act.put, sA, sB, sC]
        refine lx_run (by rfl) (.bool true) (ex_gtr rfl rfl rfl hgd) ?_
        simp only [Act.put, sA, sB, sC]
        refine lx_run (by rfl) (.bool true) (ex_pick rfl rfl rfl) ?_
        simp only [Act.put, sA, sB, sC]
        refine lx_nil ?_
        intro w4 hx4
        have ho4 := own_keep hoD hx4
        have hx4w := hxD.trans hx4
        go_wp2_with fail
        have hoE := own_keep ho4 (Ext.refl w4).drew
        obtain ⟨he_1, hd1⟩ := own_at hoE (show j < m by omega)
        obtain ⟨he_2, hd2⟩ := own_at hoE (show p < m by omega)
        rw [HLj.out] at hd1
        rw [HLp.out] at hd2
        have hI : w4.drew.cell? ⟨g, j, none⟩ = some (.int .i64 Lj) ∧ w4.drew.cell? ⟨g, p, none⟩ = some (.int .i64 Lp) := ⟨hd1, hd2⟩
        refine wp_region_of (fun k => k == 9 || k == 13) (fun W => W.cell? ⟨g, j, none⟩ = some (.int .i64 Lj) ∧ W.cell? ⟨g, p, none⟩ = some (.int .i64 Lp)) (by kernel_rfl) ?_
        refine og_pure (k := 0) (by kernel_rfl) rfl (by rfl) (.slice (some ⟨g, 0, none⟩) m k) (ex_move rfl rfl) ?_
        simp only [Act.put, sA, sB, sC]
        refine og_pure (k := 1) (by kernel_rfl) rfl (by rfl) (.int .i64 (j : Int)) (ex_move rfl rfl) ?_
        simp only [Act.put, sA, sB, sC]
        refine og_pure (k := 2) (by kernel_rfl) rfl (by rfl) (.slice (some ⟨g, 0, none⟩) m k) (ex_move rfl rfl) ?_
        simp only [Act.put, sA, sB, sC]
        refine og_pure (k := 3) (by kernel_rfl) rfl (by rfl) (.int .i64 (j : Int)) (ex_move rfl rfl) ?_
        simp only [Act.put, sA, sB, sC]
        refine og_pure (k := 4) (by kernel_rfl) rfl (by rfl) (.int .i64 (p : Int)) (by rw [← hp]; exact ex_subN (i := j) (d := 1) rfl rfl rfl (by omega) (by omega)) ?_
        simp only [Act.put, sA, sB, sC]
        refine og_pure (k := 5) (by kernel_rfl) rfl (by rfl) (.slice (some ⟨g, 0, none⟩) m k) (ex_move rfl rfl) ?_
        simp only [Act.put, sA, sB, sC]
        refine og_pure (k := 6) (by kernel_rfl) rfl (by rfl) (.int .i64 (j : Int)) (ex_move rfl rfl) ?_
        simp only [Act.put, sA, sB, sC]
        refine og_pure (k := 7) (by kernel_rfl) rfl (by rfl) (.int .i64 (p : Int)) (by rw [← hp]; exact ex_subN (i := j) (d := 1) rfl rfl rfl (by omega) (by omega)) ?_
        simp only [Act.put, sA, sB, sC]
        refine og_pure (k := 8) (by kernel_rfl) rfl (by rfl) (.pointer (some ⟨g, p, none⟩)) (ex_ixSl0 Tryz.underlying47 sizeI rfl rfl rfl (by omega)) ?_
        simp only [Act.put, sA, sB, sC]
        refine og_pure (k := 10) (by kernel_rfl) rfl (by rfl) (.slice (some ⟨g, 0, none⟩) m k) (ex_move rfl rfl) ?_
        simp only [Act.put, sA, sB, sC]
        refine og_pure (k := 11) (by kernel_rfl) rfl (by rfl) (.int .i64 (j : Int)) (ex_move rfl rfl) ?_
        simp only [Act.put, sA, sB, sC]
        refine og_pure (k := 12) (by kernel_rfl) rfl (by rfl) (.pointer (some ⟨g, j, none⟩)) (ex_ixSl0 Tryz.underlying47 sizeI rfl rfl rfl (by omega)) ?_
        simp only [Act.put, sA, sB, sC]
        refine og_fix (k := 9) (by kernel_rfl) rfl (by rfl) (.int .i64 Lp) (fun W hW => ex_loadI rfl rfl hW.2) hI ?_
        simp only [Act.put, sA, sB, sC]
        refine og_fix (k := 13) (by kernel_rfl) rfl (by rfl) (.int .i64 Lj) (fun W hW => ex_loadI rfl rfl hW.1) hI ?_
        simp only [Act.put, sA, sB, sC]
        refine og_pure (k := 14) (by kernel_rfl) rfl (by rfl) (.pointer (some ⟨g, j, none⟩)) (ex_ixSl0 Tryz.underlying47 sizeI rfl rfl rfl (by omega)) ?_
        simp only [Act.put, sA, sB, sC]
        refine of_loud (k := 15) (by kernel_rfl) rfl ?_
        refine wl_storeO rfl _ _ rfl g j Lp rfl rfl hoE (by omega) ?_
        intro w5 ho5 hu5
        refine oi_end ⟨fun h => (by cases h), ?_⟩
        simp only [Act.put, sA, sB, sC]
        refine og_pure (k := 16) (by kernel_rfl) rfl (by rfl) (.pointer (some ⟨g, p, none⟩)) (ex_ixSl0 Tryz.underlying47 sizeI rfl rfl rfl (by omega)) ?_
        simp only [Act.put, sA, sB, sC]
        refine of_loud (k := 17) (by kernel_rfl) rfl ?_
        refine wl_storeO rfl _ _ rfl g p Lj rfl rfl ho5 (by omega) ?_
        intro w6 ho6 hu6
        refine oi_end ⟨fun h => (by cases h), ?_⟩
        simp only [Act.put, sA, sB, sC]
        refine of_done (by kernel_rfl) ?_
        have hx6 := hu6.ext (hu5.ext hx4w.drew (fun x h => by omega)) (fun x h => by omega)
        go_wp2_with ((with_reducible apply gS 52); refine wl_run rfl (.int .i64 (p : Int)) (by rw [← hp]; exact ex_subN (i := j) (d := 1) rfl rfl rfl (by omega) (by omega)) ?_)
        go_roundw
        case rel => exact ⟨p, (L.set j Lp).set p Lj, by omega, rfl, ho6, hpm6, hstep, hx6⟩
        case measure => simp [intOf]; omega
       ·have hgd : decide ((L[p]'(by omega)) < (L[j]'(by omega))) = false := by simpa using hgt
        have hfin := hins.stop 0 ng (.inr (by
         rw [hp]
         unfold wA ng
         rw [at_get 0 L j (by omega), at_get 0 L p (by omega)]
         omega)) (Nat.zero_le _)
        obtain ⟨Lj, hLj⟩ : ∃ Lj, L[j]'(by omega) = Lj := ⟨_, rfl⟩
        obtain ⟨Lp, hLp⟩ : ∃ Lp, L[p]'(by omega) = Lp := ⟨_, rfl⟩
        rw [hLj] at hc1
        rw [hLp] at hc2
        rw [hLj, hLp] at hgd
        clear hins hLj hLp hgt
        go_wp2_with fail
        refine wp_region_lx later_ext (by kernel_rfl) (by kernel_rfl) ?_
        refine lx_run (by rfl) (.int .i64 (j : Int)) (ex_move rfl rfl) ?_
        simp only [Act.put, sA, sB, sC]
        refine lx_run (by rfl) (.bool true) (ex_gtr rfl rfl rfl (by simp; omega)) ?_
        simp only [Act.put, sA, sB, sC]
        refine lx_run (by rfl) (.bool true) (ex_move rfl rfl) ?_
        simp only [Act.put, sA, sB, sC]
        refine lx_run (by rfl) (.slice (some ⟨g, 0, none⟩) m k) (ex_move rfl rfl) ?_
        simp only [Act.put, sA, sB, sC]
        refine lx_run (by rfl) (.int .i64 (j : Int)) (ex_move rfl rfl) ?_
        simp only [Act.put, sA, sB, sC]
        refine lx_run (by rfl) (.pointer (some ⟨g, j, none⟩)) (ex_ixSl0 Tryz.underlying47 sizeI rfl rfl rfl (by omega)) ?_
        simp only [Act.put, sA, sB, sC]
        refine lx_read (by rfl) (.int .i64 Lj) (fun W hW => ex_loadI rfl rfl (cell_later hW hc1)) ?_
        simp only [Act.put, sA, sB, sC]
        refine lx_run (by rfl) (.slice (some ⟨g, 0, none⟩) m k) (ex_move rfl rfl) ?_
        simp only [Act.put, sA, sB, sC]
        refine lx_run (by rfl) (.int .i64 (j : Int)) (ex_move rfl rfl) ?_
        simp only [Act.put, sA, sB, sC]
        refine lx_run (by rfl) (.int .i64 (p : Int)) (by rw [← hp]; exact ex_subN (i := j) (d := 1) rfl rfl rfl (by omega) (by omega)) ?_
        simp only [Act.put, sA, sB, sC]
        refine lx_run (by rfl) (.pointer (some ⟨g, p, none⟩)) (ex_ixSl0 Tryz.underlying47 sizeI rfl rfl rfl (by omega)) ?_
        simp only [Act.put, sA, sB, sC]
        refine lx_read (by rfl) (.int .i64 Lp) (fun W hW => ex_loadI rfl rfl (cell_later hW hc2)) ?_
        simp only [Act.put, sA, sB, sC]
        refine lx_run (by rfl) (.bool false) (ex_gtr rfl rfl rfl hgd) ?_
        simp only [Act.put, sA, sB, sC]
        refine lx_run (by rfl) (.bool false) (ex_pick rfl rfl rfl) ?_
        simp only [Act.put, sA, sB, sC]
        refine lx_nil ?_
        intro w4 hx4
        have ho4 := own_keep hoD hx4
        have hx4w := hxD.trans hx4
        go_wp2_with ((with_reducible apply gS 69); refine wl_run rfl (.int .i64 ((q + 1 : Nat) : Int)) (ex_addN (i := q) (d := 1) rfl rfl rfl (by omega)) ?_)
        go_roundw
        case rel => exact ⟨q + 1, L, by omega, by go_num, ho4, hpm, hfin, hx4w⟩
        case measure => simp [intOf]; omega
      ·obtain rfl : j = 0 := by omega
       have hfin := hins.stop 0 ng (.inl rfl) (Nat.zero_le _)
       clear hins
       go_wp2_with fail
       refine wp_region_lx later_ext (by kernel_rfl) (by kernel_rfl) ?_
       refine lx_run (by rfl) (.int .i64 0) (ex_move rfl rfl) ?_
       simp only [Act.put, sA, sB, sC]
       refine lx_run (by rfl) (.bool false) (ex_gtr rfl rfl rfl (by simp)) ?_
       simp only [Act.put, sA, sB, sC]
       refine lx_run (by rfl) (.bool false) (ex_move rfl rfl) ?_
       simp only [Act.put, sA, sB, sC]
       refine lx_skip (by rfl) ?_
       simp only [Act.put, sA, sB, sC]
       refine lx_skip (by rfl) ?_
       simp only [Act.put, sA, sB, sC]
       refine lx_skip (by rfl) ?_
       simp only [Act.put, sA, sB, sC]
       refine lx_skip (by rfl) ?_
       simp only [Act.put, sA, sB, sC]
       refine lx_skip (by rfl) ?_
       simp only [Act.put, sA, sB, sC]
       refine lx_skip (by rfl) ?_
       simp only [Act.put, sA, sB, sC]
       refine lx_skip (by rfl) ?_
       simp only [Act.put, sA, sB, sC]
       refine lx_skip (by rfl) ?_
       simp only [Act.put, sA, sB, sC]
       refine lx_skip (by rfl) ?_
       simp only [Act.put, sA, sB, sC]
       refine lx_skip (by rfl) ?_
       simp only [Act.put, sA, sB, sC]
       refine lx_run (by rfl) (.bool false) (ex_pick rfl rfl rfl) ?_
       simp only [Act.put, sA, sB, sC]
       refine lx_nil ?_
       intro w4 hx4
       have ho4 := own_keep hoD hx4
       have hx4w := hxD.trans hx4
       go_wp2_with ((with_reducible apply gS 69); refine wl_run rfl (.int .i64 ((q + 1 : Nat) : Int)) (ex_addN (i := q) (d := 1) rfl rfl rfl (by omega)) ?_)
       go_roundw
       case rel => exact ⟨q + 1, L, by omega, by go_num, ho4, hpm, hfin, hx4w⟩
       case measure => simp [intOf]; omega
    ·obtain rfl : q = m := by omega
     obtain ⟨X, hXp, hXL⟩ := BM.perm_lift Int.ofNat hpm X0 HL0.out.symm
     have hXl : X.length = q := hXp.length_eq.trans HML.out.symm
     rw [← hXL] at hso ho
     have hde := desc_of_sorted hXl hso
     obtain ⟨N, hN⟩ : ∃ N, q + 1 = N := ⟨_, rfl⟩
     obtain ⟨N1, hN1⟩ : ∃ N1, N + 1 = N1 := ⟨_, rfl⟩
     obtain ⟨Y, hY⟩ : ∃ Y, X ++ [0] = Y := ⟨_, rfl⟩
     have hYl : Y.length = N := by rw [← hY, List.length_append, hXl]; exact hN
     have HYI : Hid (ints (X.map Int.ofNat) ++ ints [0] = ints (Y.map Int.ofNat)) := hid_ (by rw [← hY]; simp [ints])
     have HYL := hid_ hYl
     have HYB : Hid (∀ y ∈ Y, y ≤ 9999) := hid_ (fun y hy => by
      rw [← hY] at hy
      rcases List.mem_append.1 hy with hy | hy
      ·exact HPX.out y (hXp.subset hy)
      ·rw [List.mem_singleton.1 hy]; omega)
     have HWS : Hid (Y.reverse.Perm (0 :: PN i)) := hid_ (by
      rw [HX0.out, ← hY]
      refine (List.reverse_perm _).trans ?_
      exact (List.perm_append_comm (l₁ := X) (l₂ := [0])).trans (hXp.cons 0))
     have HWP : Hid (Y.reverse.Pairwise (· ≤ ·)) := hid_ (by
      rw [List.pairwise_reverse, ← hY, List.pairwise_append]
      exact ⟨hde, List.pairwise_singleton _ _, fun a _ b hb => by rw [List.mem_singleton.1 hb]; omega⟩)
     obtain ⟨W, hW⟩ : ∃ W, BM.pre Y.reverse = W := ⟨_, rfl⟩
     have HW := hid_ hW
     have HW0 : Hid (W 0 = 0) := hid_ (by rw [← hW]; unfold BM.pre; rfl)
     have HWN : Hid (∀ p (h : p < Y.length), W (N - p) = W (N - (p + 1)) + Y[p]) := hid_ (fun p h => by rw [← hW, ← hYl]; exact BM.pre_rev Y p h)
     have HWB : Hid (∀ j, j ≤ N → W j ≤ 10000000) := hid_ (fun j hj => by
      have := BM.pre_bd (ws := Y.reverse) (b := 9999) (fun x hx => HYB.out x (List.mem_reverse.1 hx)) j
      rw [hW] at this
      omega)
     clear hW hY hde hXL hXp hpm hso HL0 HPX hYl
     go_upto_region 19 with (first
      | ((with_reducible apply gS 34); refine wl_run rfl (.bool false) (ex_lss rfl rfl rfl (by simp)) ?_)
      | ((with_reducible apply gS 71); refine wLit1 rfl 47 3 _ rfl (some 71) rfl Tryz.underlying47 1 sizeI zeroI1 (.int .i64 0) rfl rfl (by omega) (by omega) ?_; intro w5 g5 hb5 hx5 hg5; have ho5 := own_keep ho hx5; have hsz5 := (hx.trans hx5).size)
      | ((with_reducible apply gS 72); refine wApf elt_intC rfl _ _ rfl w.heap.size _ _ _ rfl ho5 _ 1 _ rfl (IntsAt.lit hb5).1 (ints_one_mem [0]) (by omega) (by omega) (by omega) ?_; intro C7 k7 w7 ho7 hg7 hr7; rw [HYI.out, hN] at ho7; rw [hN]; obtain ⟨g7, rfl, hB7⟩ := own_addr ho7 (by omega); have hx7 := (upd_grown hg7).ext (hx.trans hx5) (fun x h => (ho5.lt x h).1))
      | ((with_reducible apply gS 75); refine wl_run rfl (.int .i64 (N1 : Int)) (by rw [← hN1]; exact ex_addN (i := N) (d := 1) rfl rfl rfl (by omega)) ?_)
      | ((with_reducible apply gS 76); refine wpList_makeI rfl (some 76) rfl _ _ rfl N1 (by omega) rfl rfl ?_; intro w8 gr hr8 hx8 hgr)
      | ((with_reducible apply gS 79); refine wl_run rfl (.int .i64 (q : Int)) (by rw [← show N - 1 = q by omega]; exact ex_subN (i := N) (d := 1) rfl rfl rfl (by omega) (by omega)) ?_))
     have hne : gr ≠ g7 := by obtain ⟨cs, h⟩ := own_typed ho7 g7 rfl; have := Blk.lt (w := w7) (t := 3) (cs := cs) h; omega
     have hgrw : w.heap.size ≤ gr := by have := hx7.size; omega
     have ho8 := own_keep ho7 hx8
     have hx08 := hx7.trans hx8
     rw [← hN1, ← restL_start HW0.out N] at hr8
     clear ho hx ho5 hx5 hb5 hx7 hx8 ho7
     go_loopw [9] (fun iv wr => ∃ (p : Nat), p ≤ N ∧ ((p = 0 ∧ iv = .int .i64 (-1)) ∨ (∃ q, p = q + 1 ∧ iv = .int .i64 (q : Int))) ∧ Blk wr gr 3 (ints (restL W N p)).toArray ∧ wr.ownsRow w.heap.size 3 1 (.slice (some ⟨g7, 0, none⟩) N k7) N (ints (Y.map Int.ofNat)) ∧ Ext w wr) (fun v _ => (intOf v + 1).toNat)
     case atStart => exact ⟨N, by omega, .inr ⟨q, by omega, rfl⟩, hr8, ho8, hx08⟩
     case round =>
     clear hr8 ho8 hx08
     obtain ⟨p, hpN, hiv, hr, ho, hx⟩ := hrel
     rcases hiv with ⟨rfl, rfl⟩ | ⟨q, rfl, rfl⟩
     ·have hx' := hx
      clear hx'
      by_cases hNN : N = 1
      ·have HBZ : Hid (BM.bestZ Y.reverse = 0) := hid_ (by unfold BM.bestZ; rw [List.length_reverse, HYL.out, if_pos hNN])
       go_wp2_with (first
        | ((with_reducible apply gS 81); refine wl_run rfl (.bool false) (ex_geq rfl rfl rfl (by simp)) ?_)
        | ((with_reducible apply gS 99); refine wl_run rfl (.bool true) (ex_eql rfl rfl rfl (by simp; omega)) ?_))
       go_ret
       exact ⟨⟨_, HWS.out, HWP.out, by rw [HBZ.out]; rfl⟩, hx⟩
      ·have HBZ : Hid (BM.bestZ Y.reverse = W N + BM.D W BM.far 15 N 2) := hid_ (by unfold BM.bestZ; rw [List.length_reverse, HYL.out, if_neg hNN, HW.out])
       have HR : Hid (∀ j, j < N1 → wr.cell? ⟨gr, j, none⟩ = some (.int .i64 ((W (N - j) : Nat) : Int))) := hid_ (fun j hj => by
        have h := blk_ints hr j (by rw [restL_len]; omega)
        rwa [restL_get, if_pos (Nat.zero_le _)] at h)
       have hoN := ho
       go_upto_region 26 with (first
        | ((with_reducible apply gS 81); refine wl_run rfl (.bool false) (ex_geq rfl rfl rfl (by simp)) ?_)
        | ((with_reducible apply gS 99); refine wl_run rfl (.bool false) (ex_eql rfl rfl rfl (by simp; omega)) ?_))
       obtain ⟨W9, hW9⟩ : ∃ W9 : World, W9 = wr := ⟨_, rfl⟩
       subst hW9
       go_loopw [10, 11] (fun tv lv wr => ∃ (f ll : Nat), f + ll = 16 ∧ lv = .int .i64 (ll : Int) ∧ ((f = 0 ∧ tv = .slice none 0 0) ∨ (∃ f1, f = f1 + 1 ∧ TabAt wr tv N1 (fun i m => BM.D W BM.far f1 (N - i) m))) ∧ Ext W9 wr) (fun _ l _ => (intOf l).toNat)
       case atStart => exact ⟨0, 16, rfl, rfl, .inl ⟨rfl, rfl⟩, Ext.refl _⟩
       case round =>
       obtain ⟨f, ll, hfl, rfl, hT, hx9⟩ := hrel
       by_cases hll : 1 ≤ ll
       ·obtain ⟨W10, hW10⟩ : ∃ W10 : World, W10 = wr := ⟨_, rfl⟩
        subst hW10
        go_upto_region 30 with (first
         | ((with_reducible apply gS 101); refine wl_run rfl (.bool true) (ex_geq rfl rfl rfl (by simp; omega)) ?_)
         | ((with_reducible apply gS 106); refine wl_run rfl (.int .i64 (N1 : Int)) (by rw [← hN1]; exact ex_addN (i := N) (d := 1) rfl rfl rfl (by omega)) ?_)
         | ((with_reducible apply gS 107); refine wpList_makeL rfl (some 107) rfl _ _ rfl N1 (by omega) rfl rfl ?_; intro w11 gn hbn0 hx11 hgn))
        rw [← rowsV_start (fun _ => 0) N1] at hbn0
        go_loopw [110] (fun iv wr => ∃ (a : Nat) (G : Nat → Nat), a ≤ N1 ∧ iv = .int .i64 (a : Int) ∧ Blk wr gn 47 (rowsV G N1 a).toArray ∧ (∀ j, j < a → Blk wr (G j) 3 (ints (rowP (fun m => BM.D W BM.far f (N - j) m) N1 N1)).toArray) ∧ Ext W10 wr) (fun a _ => N1 - (intOf a).toNat)
        case atStart => exact ⟨0, fun _ => 0, by omega, rfl, hbn0, fun j hj => by omega, hx11⟩
        case round =>
        clear hbn0 hx11
        obtain ⟨a, G, ha, rfl, hbn, hG, hxa⟩ := hrel
        have hgn1 := hbn.lt
        by_cases hla : a < N1
        ·obtain ⟨left, hleft⟩ : ∃ left, N - a = left := ⟨_, rfl⟩
         have hgw := hxa.size
         go_upto_region 34 with (first
          | ((with_reducible apply gS 111); refine wl_run rfl (.bool true) (ex_lss rfl rfl rfl (by simpa using hla)) ?_)
          | ((with_reducible apply gS 117); refine wl_run rfl (.int .i64 (N1 : Int)) (by rw [← hN1]; exact ex_addN (i := N) (d := 1) rfl rfl rfl (by omega)) ?_)
          | ((with_reducible apply gS 118); refine wpList_makeI rfl (some 118) rfl _ _ rfl N1 (by omega) rfl rfl ?_; intro w12 gi hbi0 hx12 hgi; have hbn12 := hbn.ext hx12)
          | ((with_reducible apply gS 119); refine wl_run rfl (.pointer (some ⟨gn, a, none⟩)) (ex_ixSl0 Tryz.underlying92 sizeLB rfl rfl rfl hla) ?_)
          | ((with_reducible apply gT 119 118); refine wl_storeL rfl _ _ rfl gn a (some ⟨gi, 0, none⟩) N1 N1 rfl rfl hbn12 (by rw [List.size_toArray, rowsV_len]; exact hla) ?_; have hbn13 := hbn12.set_ a (.slice (some ⟨gi, 0, none⟩) N1 N1); rw [List.setIfInBounds_toArray, rowsV_set] at hbn13; have hu13 := (Upd.refl (fun b => b = gn) w12).setCell (p := ⟨gn, a, none⟩) rfl (.slice (some ⟨gi, 0, none⟩) N1 N1); have hcn13 := rows_at hbn13 hla (Nat.lt_succ_self a); rw [putG_self] at hcn13)
          | ((with_reducible apply gS 122); refine wl_run rfl (.pointer (some ⟨gn, a, none⟩)) (ex_ixSl0 Tryz.underlying92 sizeLB rfl rfl rfl hla) ?_)
          | ((with_reducible apply gS 123); refine wl_read rfl (.slice (some ⟨gi, 0, none⟩) N1 N1) (ex_loadL rfl rfl hcn13) ?_))
         try rw [show decide ((a : Int) < (N1 : Int)) = true by simp; omega]
         have hgni : gi ≠ gn := by omega
         have hbi13 := hu13.blk hbi0 hgni
         have hG13 : ∀ j, j < a → Blk (w12.setCell ⟨gn, a, none⟩ (.slice (some ⟨gi, 0, none⟩) N1 N1)) (G j) 3 (ints (rowP (fun m => BM.D W BM.far f (N - j) m) N1 N1)).toArray := fun j hj => hu13.blk ((hG j hj).ext hx12) (fun e => listNeI (blk_types ((hG j hj).ext hx12) (by rw [e]; exact hbn12)))
         have hGl : ∀ j, j < a → G j < gi := fun j hj => Nat.lt_of_lt_of_le (hG j hj).lt hgi
         have hx13 := hu13.ext (hxa.trans hx12) (fun x h => by omega)
         have hgi10 : W10.heap.size ≤ gi := by omega
         rw [← rowP_start (fun m => BM.D W BM.far f (N - a) m) N1] at hbi13
         have HG13 := hid_ hG13
         have HGL := hid_ hGl
         generalize w12.setCell ⟨gn, a, none⟩ (.slice (some ⟨gi, 0, none⟩) N1 N1) = w13 at *
         clear hbn hG hxa hbi0 hx12 hbn12 hu13 hcn13 hG13 hGl hgi
         go_loopw [125] (fun mv wr => ∃ (q : Nat), q ≤ N1 ∧ mv = .int .i64 (q : Int) ∧ Blk wr gi 3 (ints (rowP (fun m => BM.D W BM.far f (N - a) m) N1 q)).toArray ∧ Upd (fun b => b = gi) w13 wr) (fun m _ => N1 - (intOf m).toNat)
         case atStart => exact ⟨0, by omega, rfl, hbi13, Upd.refl _ _⟩
         case round =>
         clear hbi13
         obtain ⟨q, hq, rfl, hbi, hu⟩ := hrel
         have hxa := hu.ext hx13 (fun x h => by omega)
         have hbn := hu.blk hbn13 (fun e => hgni e.symm)
         by_cases hlq : q < N1
         ·obtain ⟨W14, hW14⟩ : ∃ W14 : World, W14 = wr := ⟨_, rfl⟩
          subst hW14
          by_cases hl0 : left = 0
          ·subst hl0
           go_upto_region 41 with (first
            | ((with_reducible apply gS 126); refine wl_run rfl (.bool true) (ex_lss rfl rfl rfl (by simpa using hlq)) ?_)
            | ((with_reducible apply gS 131); refine wl_run rfl (.int .i64 ((0 : Nat) : Int)) (by rw [← hleft]; exact ex_subN rfl rfl rfl (by omega) (by omega)) ?_)
            | ((with_reducible apply gS 133); refine wl_run rfl (.bool true) (ex_eql rfl rfl rfl (by simp)) ?_))
           try rw [show decide ((q : Int) < (N1 : Int)) = true by simp; omega]
           go_loopw [16, 17] (fun bv cv wr => bv = .int .i64 0 ∧ cv = .int .i64 0 ∧ wr = W14) (fun _ _ _ => 0)
           case atStart => exact ⟨rfl, rfl, rfl⟩
           case round =>
           obtain ⟨rfl, rfl, hwr⟩ := hrel
           have hwr' := hwr.symm
           subst hwr'
           clear hwr
           have hxq := Ext.refl W14
           have hcn := rows_at hbn hla (Nat.lt_succ_self a)
           rw [putG_self] at hcn
           have hx9w := (hx9.trans (hxa.trans hxq))
           go_wp2_with (first
            | ((with_reducible apply gS 137); refine wl_run rfl (.int .i64 ((min q 0 : Nat) : Int)) (ex_minN rfl rfl rfl) ?_)
            | ((with_reducible apply gS 138); refine wl_run rfl (.bool true) (ex_leq rfl rfl rfl (by simp; omega)) ?_)
            | ((with_reducible apply gS 141); refine wl_run_g (by rfl) (.bool false) (ex_gtr rfl rfl rfl (by simp)) ?_)
            | ((with_reducible apply gS 177); refine wl_run rfl (.pointer (some ⟨gn, a, none⟩)) (ex_ixSl0 Tryz.underlying92 sizeLB rfl rfl rfl hla) ?_)
            | ((with_reducible apply gS 178); refine wl_read rfl (.slice (some ⟨gi, 0, none⟩) N1 N1) (ex_loadL rfl rfl hcn) ?_)
            | ((with_reducible apply gS 181); refine wl_run rfl (.pointer (some ⟨gi, q, none⟩)) (ex_ixSl0 Tryz.underlying47 sizeI rfl rfl rfl hlq) ?_)
            | ((with_reducible apply gT 181 180); refine wl_storeI rfl _ _ rfl gi q _ rfl rfl hbi (by rw [List.size_toArray, ints_len, rowP_len]; exact hlq) ?_)
            | ((with_reducible apply gS 182); refine wl_run rfl (.int .i64 ((q + 1 : Nat) : Int)) (ex_addN (i := q) (d := 1) rfl rfl rfl (by omega)) ?_))
           have hbs := blk_ints_set hbi q (0 : Int)
           rw [show (rowP (fun m => BM.D W BM.far f (N - a) m) N1 q).set q (0 : Int) = rowP (fun m => BM.D W BM.far f (N - a) m) N1 (q + 1) by rw [← rowP_set]; rw [hleft, D_none]; rfl] at hbs
           have hus := hu.setCell (p := ⟨gi, q, none⟩) rfl (.int .i64 (0 : Int))
           go_roundw
           case rel =>
            first
             | exact ⟨q + 1, by omega, by go_num, hbs, hus⟩
             | ((repeat apply Exists.intro); refine ⟨?_, rfl⟩; exact ⟨q + 1, by omega, by go_num, hbs, hus⟩)
           case measure => simp [intOf]; omega
          ·have HE := hid_ (BM.bestC_end W f left q (by omega))
           have HB0 := hid_ (bestC_first W f left q (by omega))
           have HBL := hid_ (bestC_last W f left q)
           go_upto_region 41 with (first
            | ((with_reducible apply gS 126); refine wl_run rfl (.bool true) (ex_lss rfl rfl rfl (by simpa using hlq)) ?_)
            | ((with_reducible apply gS 131); refine wl_run rfl (.int .i64 (left : Int)) (by rw [← hleft]; exact ex_subN rfl rfl rfl (by omega) (by omega)) ?_)
            | ((with_reducible apply gS 133); refine wl_run rfl (.bool false) (ex_eql rfl rfl rfl (by simp; omega)) ?_))
           try rw [show decide ((q : Int) < (N1 : Int)) = true by simp; omega]
           go_loopw [16, 17] (fun bv cv wr => ∃ (cc : Nat), cc ≤ min q left + 1 ∧ cv = .int .i64 (cc : Int) ∧ bv = .int .i64 ((BM.bestC W f left q cc : Nat) : Int) ∧ Ext W14 wr) (fun _ c _ => min q left + 1 - (intOf c).toNat)
           case atStart => exact ⟨0, by omega, rfl, by rw [HB0.out]; rfl, Ext.refl _⟩
           case round =>
           obtain ⟨cc, hcc, rfl, rfl, hxq⟩ := hrel
           by_cases hcm : cc ≤ min q left
           ·by_cases hcl : cc = left
            ·subst hcl
             go_wp2_with (first
              | ((with_reducible apply gS 137); refine wl_run rfl (.int .i64 ((min q cc : Nat) : Int)) (ex_minN rfl rfl rfl) ?_)
              | ((with_reducible apply gS 138); refine wl_run rfl (.bool true) (ex_leq rfl rfl rfl (by simp; omega)) ?_)
              | ((with_reducible apply gS 141); refine wl_run_g (by rfl) (.bool true) (ex_gtr rfl rfl rfl (by simp; omega)) ?_)
              | ((with_reducible apply gS 147); refine wl_run rfl (.bool true) (ex_eql rfl rfl rfl (by simp)) ?_)
              | ((with_reducible apply gS 144); refine wl_run rfl (.int .i64 ((cc + 1 : Nat) : Int)) (ex_addN (i := cc) (d := 1) rfl rfl rfl (by omega)) ?_))
             go_roundw
             case rel =>
              first
               | exact ⟨cc + 1, by omega, by go_num, by rw [HBL.out]; rfl, hxq⟩
               | ((repeat apply Exists.intro); refine ⟨?_, rfl⟩; exact ⟨cc + 1, by omega, by go_num, by rw [HBL.out]; rfl, hxq⟩)
             case measure => simp [intOf]; omega
            ·rcases hT with ⟨rfl, rfl⟩ | ⟨f1, rfl, hTab⟩
             ·have HBN := hid_ (bestC_zero W left q cc hcl)
              go_wp2_with (first
               | ((with_reducible apply gS 137); refine wl_run rfl (.int .i64 ((min q left : Nat) : Int)) (ex_minN rfl rfl rfl) ?_)
               | ((with_reducible apply gS 138); refine wl_run rfl (.bool true) (ex_leq rfl rfl rfl (by simp; omega)) ?_)
               | ((with_reducible apply gS 141); refine wl_run_g (by rfl) (.bool true) (ex_gtr rfl rfl rfl (by simp; omega)) ?_)
               | ((with_reducible apply gS 147); refine wl_run rfl (.bool false) (ex_eql rfl rfl rfl (by simp; omega)) ?_)
               | ((with_reducible apply gS 149); refine wl_run rfl (.bool false) (ex_lss rfl rfl rfl (by simp; omega)) ?_)
               | ((with_reducible apply gS 144); refine wl_run rfl (.int .i64 ((cc + 1 : Nat) : Int)) (ex_addN (i := cc) (d := 1) rfl rfl rfl (by omega)) ?_))
              go_roundw
              case rel =>
               first
                | exact ⟨cc + 1, by omega, by go_num, by rw [HBN.out], hxq⟩
                | ((repeat apply Exists.intro); refine ⟨?_, rfl⟩; exact ⟨cc + 1, by omega, by go_num, by rw [HBN.out], hxq⟩)
              case measure => simp [intOf]; omega
             ·have HBN := hid_ (bestC_next W f1 left q cc hcl)
              obtain ⟨ic, hic⟩ : ∃ ic, a + cc = ic := ⟨_, rfl⟩
              have hxD := (hxa.trans hxq).drew
              obtain ⟨gl, rfl, hTb⟩ := hTab.ext hxD
              obtain ⟨gi9, hcl9, hcd9⟩ := hTb ic (by omega)
              have hcr := cell_later (hx9.trans hxD) (HR.out ic (by omega))
              rw [show N - ic = left - cc by omega] at hcr
              have hcd := hcd9 (min (2 * (q - cc)) (left - cc)) (by omega)
              dsimp only at hcd
              rw [show N - ic = left - cc by omega] at hcd
              have hdd := BM.D_le W BM.far f1 (left - cc) (min (2 * (q - cc)) (left - cc))
              obtain ⟨dd, hddv⟩ : ∃ dd, BM.D W BM.far f1 (left - cc) (min (2 * (q - cc)) (left - cc)) = dd := ⟨_, rfl⟩
              rw [hddv] at hcd hdd HBN
              unfold BM.far at hdd
              have hwb := HWB.out (left - cc) (by omega)
              clear hTb hcd9 hddv
              go_upto_region 46 with (first
               | ((with_reducible apply gS 137); refine wl_run rfl (.int .i64 ((min q left : Nat) : Int)) (ex_minN rfl rfl rfl) ?_)
               | ((with_reducible apply gS 138); refine wl_run rfl (.bool true) (ex_leq rfl rfl rfl (by simp; omega)) ?_)
               | ((with_reducible apply gS 141); refine wl_run_g (by rfl) (.bool true) (ex_gtr rfl rfl rfl (by simp; omega)) ?_)
               | ((with_reducible apply gS 147); refine wl_run rfl (.bool false) (ex_eql rfl rfl rfl (by simp; omega)) ?_)
               | ((with_reducible apply gS 149); refine wl_run rfl (.bool true) (ex_lss rfl rfl rfl (by simp; omega)) ?_))
              refine wp_region_lx later_ext (by kernel_rfl) (by kernel_rfl) ?_
              refine lx_run (by rfl) (.int .i64 ((BM.bestC W (f1 + 1) left q cc : Nat) : Int)) (ex_move rfl rfl) ?_
              simp only [Act.put, sA, sB, sC]
              refine lx_run (by rfl) (.slice (some ⟨gr, 0, none⟩) N1 N1) (ex_move rfl rfl) ?_
              simp only [Act.put, sA, sB, sC]
              refine lx_run (by rfl) (.int .i64 (a : Int)) (ex_move rfl rfl) ?_
              simp only [Act.put, sA, sB, sC]
              refine lx_run (by rfl) (.int .i64 (cc : Int)) (ex_move rfl rfl) ?_
              simp only [Act.put, sA, sB, sC]
              refine lx_run (by rfl) (.int .i64 (ic : Int)) (by rw [← hic]; exact ex_addN rfl rfl rfl (by omega)) ?_
              simp only [Act.put, sA, sB, sC]
              refine lx_run (by rfl) (.pointer (some ⟨gr, ic, none⟩)) (ex_ixSl0 Tryz.underlying47 sizeI rfl rfl rfl (by omega)) ?_
              simp only [Act.put, sA, sB, sC]
              refine lx_read (by rfl) (.int .i64 ((W (left - cc) : Nat) : Int)) (fun W hW => ex_loadI rfl rfl (cell_later hW hcr)) ?_
              simp only [Act.put, sA, sB, sC]
              refine lx_run (by rfl) (.slice (some ⟨gl, 0, none⟩) N1 N1) (ex_move rfl rfl) ?_
              simp only [Act.put, sA, sB, sC]
              refine lx_run (by rfl) (.int .i64 (a : Int)) (ex_move rfl rfl) ?_
              simp only [Act.put, sA, sB, sC]
              refine lx_run (by rfl) (.int .i64 (cc : Int)) (ex_move rfl rfl) ?_
              simp only [Act.put, sA, sB, sC]
              refine lx_run (by rfl) (.int .i64 (ic : Int)) (by rw [← hic]; exact ex_addN rfl rfl rfl (by omega)) ?_
              simp only [Act.put, sA, sB, sC]
              refine lx_run (by rfl) (.pointer (some ⟨gl, ic, none⟩)) (ex_ixSl0 Tryz.underlying92 sizeLB rfl rfl rfl (by omega)) ?_
              simp only [Act.put, sA, sB, sC]
              refine lx_read (by rfl) (.slice (some ⟨gi9, 0, none⟩) N1 N1) (fun W hW => ex_loadL rfl rfl (cell_later hW hcl9)) ?_
              simp only [Act.put, sA, sB, sC]
              refine lx_run (by rfl) (.int .i64 (q : Int)) (ex_move rfl rfl) ?_
              simp only [Act.put, sA, sB, sC]
              refine lx_run (by rfl) (.int .i64 (cc : Int)) (ex_move rfl rfl) ?_
              simp only [Act.put, sA, sB, sC]
              refine lx_run (by rfl) (.int .i64 ((q - cc : Nat) : Int)) (ex_subN rfl rfl rfl (by omega) (by omega)) ?_
              simp only [Act.put, sA, sB, sC]
              refine lx_run (by rfl) (.int .i64 ((2 * (q - cc) : Nat) : Int)) (ex_mulN rfl rfl rfl (by omega)) ?_
              simp only [Act.put, sA, sB, sC]
              refine lx_run (by rfl) (.int .i64 (left : Int)) (ex_move rfl rfl) ?_
              simp only [Act.put, sA, sB, sC]
              refine lx_run (by rfl) (.int .i64 (cc : Int)) (ex_move rfl rfl) ?_
              simp only [Act.put, sA, sB, sC]
              refine lx_run (by rfl) (.int .i64 ((left - cc : Nat) : Int)) (ex_subN rfl rfl rfl (by omega) (by omega)) ?_
              simp only [Act.put, sA, sB, sC]
              refine lx_run (by rfl) (.int .i64 ((min (2 * (q - cc)) (left - cc) : Nat) : Int)) (ex_minN rfl rfl rfl) ?_
              simp only [Act.put, sA, sB, sC]
              refine lx_run (by rfl) (.pointer (some ⟨gi9, min (2 * (q - cc)) (left - cc), none⟩)) (ex_ixSl0 Tryz.underlying47 sizeI rfl rfl rfl (by omega)) ?_
              simp only [Act.put, sA, sB, sC]
              refine lx_read (by rfl) (.int .i64 ((dd : Nat) : Int)) (fun W hW => ex_loadI rfl rfl (cell_later hW hcd)) ?_
              simp only [Act.put, sA, sB, sC]
              refine lx_run (by rfl) (.int .i64 ((W (left - cc) + dd : Nat) : Int)) (ex_addB rfl rfl rfl (by omega)) ?_
              simp only [Act.put, sA, sB, sC]
              refine lx_run (by rfl) (.int .i64 ((min (BM.bestC W (f1 + 1) left q cc) (W (left - cc) + dd) : Nat) : Int)) (ex_minN rfl rfl rfl) ?_
              simp only [Act.put, sA, sB, sC]
              refine lx_run (by rfl) (.int .i64 ((min (BM.bestC W (f1 + 1) left q cc) (W (left - cc) + dd) : Nat) : Int)) (ex_assign rfl rfl) ?_
              simp only [Act.put, sA, sB, sC]
              refine lx_nil ?_
              intro w4 hx4
              have hx4q := (hxq.drew).trans hx4
              go_wp2_with ((with_reducible apply gS 144); refine wl_run rfl (.int .i64 ((cc + 1 : Nat) : Int)) (ex_addN (i := cc) (d := 1) rfl rfl rfl (by omega)) ?_)
              go_roundw
              case rel =>
               first
                | exact ⟨cc + 1, by omega, by go_num, by rw [HBN.out], hx4q⟩
                | ((repeat apply Exists.intro); refine ⟨?_, rfl⟩; exact ⟨cc + 1, by omega, by go_num, by rw [HBN.out], hx4q⟩)
              case measure => simp [intOf]; omega
           ·obtain rfl : cc = min q left + 1 := by omega
            have hbn := hbn.ext hxq
            have hbi := hbi.ext hxq
            have hcn := rows_at hbn hla (Nat.lt_succ_self a)
            rw [putG_self] at hcn
            have hu := hu.trans (Upd.of_ext (S := fun b => b = gi) hxq) (fun x h => .inl h)
            rw [HE.out]
            have hx9w := (hx9.trans (hxa.trans hxq))
            go_wp2_with (first
             | ((with_reducible apply gS 137); refine wl_run rfl (.int .i64 ((min q left : Nat) : Int)) (ex_minN rfl rfl rfl) ?_)
             | ((with_reducible apply gS 138); refine wl_run rfl (.bool false) (ex_leq rfl rfl rfl (by simp; omega)) ?_)
             | ((with_reducible apply gS 141); refine wl_run_g (by rfl) (.bool false) (ex_gtr rfl rfl rfl (by simp)) ?_)
             | ((with_reducible apply gS 177); refine wl_run rfl (.pointer (some ⟨gn, a, none⟩)) (ex_ixSl0 Tryz.underlying92 sizeLB rfl rfl rfl hla) ?_)
             | ((with_reducible apply gS 178); refine wl_read rfl (.slice (some ⟨gi, 0, none⟩) N1 N1) (ex_loadL rfl rfl hcn) ?_)
             | ((with_reducible apply gS 181); refine wl_run rfl (.pointer (some ⟨gi, q, none⟩)) (ex_ixSl0 Tryz.underlying47 sizeI rfl rfl rfl hlq) ?_)
             | ((with_reducible apply gT 181 180); refine wl_storeI rfl _ _ rfl gi q _ rfl rfl hbi (by rw [List.size_toArray, ints_len, rowP_len]; exact hlq) ?_)
             | ((with_reducible apply gS 182); refine wl_run rfl (.int .i64 ((q + 1 : Nat) : Int)) (ex_addN (i := q) (d := 1) rfl rfl rfl (by omega)) ?_))
            have hbs := blk_ints_set hbi q ((BM.D W BM.far f left q : Nat) : Int)
            rw [show (rowP (fun m => BM.D W BM.far f (N - a) m) N1 q).set q ((BM.D W BM.far f left q : Nat) : Int) = rowP (fun m => BM.D W BM.far f (N - a) m) N1 (q + 1) by rw [← rowP_set]; rw [hleft]] at hbs
            have hus := hu.setCell (p := ⟨gi, q, none⟩) rfl (.int .i64 ((BM.D W BM.far f left q : Nat) : Int))
            go_roundw
            case rel =>
             first
              | exact ⟨q + 1, by omega, by go_num, hbs, hus⟩
              | ((repeat apply Exists.intro); refine ⟨?_, rfl⟩; exact ⟨q + 1, by omega, by go_num, hbs, hus⟩)
            case measure => simp [intOf]; omega
         ·obtain rfl : q = N1 := by omega
          have hG' : ∀ j, j < a + 1 → Blk wr (putG G a gi j) 3 (ints (rowP (fun m => BM.D W BM.far f (N - j) m) q q)).toArray := fun j hj => by
           unfold putG
           by_cases hja : j = a
           ·subst hja; rw [if_pos rfl]; exact hbi
           ·rw [if_neg hja]
            exact hu.blk (HG13.out j (by omega)) (fun e => by have := HGL.out j (by omega); omega)
          have HG' := hid_ hG'
          clear hG'
          go_wp2_with (first
           | ((with_reducible apply gS 126); refine wl_run rfl (.bool false) (ex_lss rfl rfl rfl (by simp)) ?_)
           | ((with_reducible apply gS 183); refine wl_run rfl (.int .i64 ((a + 1 : Nat) : Int)) (ex_addN (i := a) (d := 1) rfl rfl rfl (by omega)) ?_))
          go_roundw
          case rel =>
           first
            | exact ⟨a + 1, putG G a gi, by omega, by go_num, hbn, HG'.out, hxa⟩
            | ((repeat apply Exists.intro); refine ⟨?_, rfl⟩; exact ⟨a + 1, putG G a gi, by omega, by go_num, hbn, HG'.out, hxa⟩)
          case measure => simp [intOf]; omega
        ·obtain rfl : a = N1 := by omega
         have hTN := TabAt.made hbn hG
         obtain ⟨l1, hl1⟩ : ∃ l1, ll - 1 = l1 := ⟨_, rfl⟩
         go_wp2_with (first
          | ((with_reducible apply gS 111); refine wl_run rfl (.bool false) (ex_lss rfl rfl rfl (by simp)) ?_)
          | ((with_reducible apply gS 103); refine wl_run rfl (.int .i64 (l1 : Int)) (by rw [← hl1]; exact ex_subN (i := ll) (d := 1) rfl rfl rfl (by omega) (by omega)) ?_))
         go_roundw
         case rel =>
          first
           | exact ⟨f + 1, l1, by omega, rfl, .inr ⟨f, rfl, hTN⟩, hx9.trans hxa⟩
           | ((repeat apply Exists.intro); refine ⟨?_, rfl⟩; exact ⟨f + 1, l1, by omega, rfl, .inr ⟨f, rfl, hTN⟩, hx9.trans hxa⟩)
         case measure => simp [intOf]; omega
       ·rcases hT with ⟨rfl, rfl⟩ | ⟨f1, rfl, hTab⟩
        ·omega
        ·obtain rfl : f1 = 15 := by omega
         have hxD := hx9.drew
         obtain ⟨gl, rfl, hTb⟩ := hTab.ext (Ext.refl wr).drew
         obtain ⟨gi9, hcl9, hcd9⟩ := hTb 0 (by omega)
         have hcr := cell_later hxD (HR.out 0 (by omega))
         rw [Nat.sub_zero] at hcr
         have hcd := hcd9 2 (by omega)
         dsimp only at hcd
         rw [Nat.sub_zero] at hcd
         have hdd := BM.D_le W BM.far 15 N 2
         obtain ⟨dd, hddv⟩ : ∃ dd, BM.D W BM.far 15 N 2 = dd := ⟨_, rfl⟩
         rw [hddv] at hcd hdd HBZ
         unfold BM.far at hdd
         have hwb := HWB.out N (Nat.le_refl _)
         clear hTb hcd9 hddv
         go_upto_region 51 with ((with_reducible apply gS 101); refine wl_run rfl (.bool false) (ex_geq rfl rfl rfl (by simp; omega)) ?_)
         refine wp_region_lx later_ext (by kernel_rfl) (by kernel_rfl) ?_
         refine lx_run (by rfl) (.slice (some ⟨gr, 0, none⟩) N1 N1) (ex_move rfl rfl) ?_
         simp only [Act.put, sA, sB, sC]
         refine lx_run (by rfl) (.pointer (some ⟨gr, 0, none⟩)) (ex_ixSl0 (i := 0) Tryz.underlying47 sizeI rfl rfl rfl (by omega)) ?_
         simp only [Act.put, sA, sB, sC]
         refine lx_read (by rfl) (.int .i64 ((W N : Nat) : Int)) (fun W hW => ex_loadI rfl rfl (cell_later hW hcr)) ?_
         simp only [Act.put, sA, sB, sC]
         refine lx_run (by rfl) (.slice (some ⟨gl, 0, none⟩) N1 N1) (ex_move rfl rfl) ?_
         simp only [Act.put, sA, sB, sC]
         refine lx_run (by rfl) (.pointer (some ⟨gl, 0, none⟩)) (ex_ixSl0 (i := 0) Tryz.underlying92 sizeLB rfl rfl rfl (by omega)) ?_
         simp only [Act.put, sA, sB, sC]
         refine lx_read (by rfl) (.slice (some ⟨gi9, 0, none⟩) N1 N1) (fun W hW => ex_loadL rfl rfl (cell_later hW hcl9)) ?_
         simp only [Act.put, sA, sB, sC]
         refine lx_run (by rfl) (.pointer (some ⟨gi9, 2, none⟩)) (ex_ixSl0 (i := 2) Tryz.underlying47 sizeI rfl rfl rfl (by omega)) ?_
         simp only [Act.put, sA, sB, sC]
         refine lx_read (by rfl) (.int .i64 ((dd : Nat) : Int)) (fun W hW => ex_loadI rfl rfl (cell_later hW hcd)) ?_
         simp only [Act.put, sA, sB, sC]
         refine lx_run (by rfl) (.int .i64 ((W N + dd : Nat) : Int)) (ex_addB rfl rfl rfl (by omega)) ?_
         simp only [Act.put, sA, sB, sC]
         refine lx_run (by rfl) (.int .i64 ((W N + dd : Nat) : Int)) (ex_assign rfl rfl) ?_
         simp only [Act.put, sA, sB, sC]
         refine lx_nil ?_
         intro w4 hx4
         go_wp2_with fail
         go_ret
         exact ⟨⟨_, HWS.out, HWP.out, by rw [HBZ.out]; rfl⟩, (hx.trans hxD).trans hx4⟩
     ·obtain ⟨q1, hq1⟩ : ∃ q1, q + 1 = q1 := ⟨_, rfl⟩
      rw [hq1] at hr
      go_wp2_with ((with_reducible apply gS 81); refine wl_run rfl (.bool true) (ex_geq rfl rfl rfl (by simp)) ?_)
      have hbD := hr.drew
      have hoD := own_keep ho (Ext.refl wr).drew
      obtain ⟨he1, hd1⟩ := own_at hoD (show q < N by omega)
      have hd2 := blk_ints hbD q1 (by rw [restL_len]; omega)
      rw [restL_get, if_pos (by omega)] at hd2
      rw [List.getElem_map] at hd1
      have hYq : Y[q]'(by simpa using he1) ≤ 9999 := HYB.out _ (List.getElem_mem _)
      have hWq := HWN.out q (by simpa using he1)
      rw [hq1] at hWq
      generalize Y[q]'(by simpa using he1) = y8 at *
      have hWb := HWB.out (N - q1) (by omega)
      obtain ⟨v1, hv1⟩ : ∃ v, W (N - q1) = v := ⟨_, rfl⟩
      have hwq2 : W (N - q) = v1 + y8 := by rw [hWq, hv1]
      rw [hv1] at hd2 hWb
      obtain ⟨v9, hv9⟩ : ∃ v9, v1 + y8 = v9 := ⟨_, rfl⟩
      rw [hv9] at hwq2
      have HWQ := hid_ hwq2
      clear hWq hv1 hwq2
      have hI : wr.drew.cell? ⟨gr, q1, none⟩ = some (.int .i64 (v1 : Int)) ∧ wr.drew.cell? ⟨g7, q, none⟩ = some (.int .i64 (y8 : Int)) := ⟨hd2, hd1⟩
      refine wp_region_of (fun k => k == 6 || k == 10) (fun W => W.cell? ⟨gr, q1, none⟩ = some (.int .i64 (v1 : Int)) ∧ W.cell? ⟨g7, q, none⟩ = some (.int .i64 (y8 : Int))) (by kernel_rfl) ?_
      refine og_pure (k := 0) (by kernel_rfl) rfl (by rfl) (.slice (some ⟨gr, 0, none⟩) N1 N1) (ex_move rfl rfl) ?_
      simp only [Act.put, sA, sB, sC]
      refine og_pure (k := 1) (by kernel_rfl) rfl (by rfl) (.int .i64 (q : Int)) (ex_move rfl rfl) ?_
      simp only [Act.put, sA, sB, sC]
      refine og_pure (k := 2) (by kernel_rfl) rfl (by rfl) (.slice (some ⟨gr, 0, none⟩) N1 N1) (ex_move rfl rfl) ?_
      simp only [Act.put, sA, sB, sC]
      refine og_pure (k := 3) (by kernel_rfl) rfl (by rfl) (.int .i64 (q : Int)) (ex_move rfl rfl) ?_
      simp only [Act.put, sA, sB, sC]
      refine og_pure (k := 4) (by kernel_rfl) rfl (by rfl) (.int .i64 (q1 : Int)) (by rw [← hq1]; exact ex_addN (i := q) (d := 1) rfl rfl rfl (by omega)) ?_
      simp only [Act.put, sA, sB, sC]
      refine og_pure (k := 5) (by kernel_rfl) rfl (by rfl) (.pointer (some ⟨gr, q1, none⟩)) (ex_ixSl0 Tryz.underlying47 sizeI rfl rfl rfl (by omega)) ?_
      simp only [Act.put, sA, sB, sC]
      refine og_pure (k := 7) (by kernel_rfl) rfl (by rfl) (.slice (some ⟨g7, 0, none⟩) N k7) (ex_move rfl rfl) ?_
      simp only [Act.put, sA, sB, sC]
      refine og_pure (k := 8) (by kernel_rfl) rfl (by rfl) (.int .i64 (q : Int)) (ex_move rfl rfl) ?_
      simp only [Act.put, sA, sB, sC]
      refine og_pure (k := 9) (by kernel_rfl) rfl (by rfl) (.pointer (some ⟨g7, q, none⟩)) (ex_ixSl0 Tryz.underlying47 sizeI rfl rfl rfl (by omega)) ?_
      simp only [Act.put, sA, sB, sC]
      refine og_fix (k := 6) (by kernel_rfl) rfl (by rfl) (.int .i64 (v1 : Int)) (fun W hW => ex_loadI rfl rfl hW.1) hI ?_
      simp only [Act.put, sA, sB, sC]
      refine og_fix (k := 10) (by kernel_rfl) rfl (by rfl) (.int .i64 (y8 : Int)) (fun W hW => ex_loadI rfl rfl hW.2) hI ?_
      simp only [Act.put, sA, sB, sC]
      refine og_pure (k := 11) (by kernel_rfl) rfl (by rfl) (.int .i64 (v9 : Int)) (by rw [← hv9]; exact ex_addN rfl rfl rfl (by omega)) ?_
      simp only [Act.put, sA, sB, sC]
      refine og_pure (k := 12) (by kernel_rfl) rfl (by rfl) (.pointer (some ⟨gr, q, none⟩)) (ex_ixSl0 Tryz.underlying47 sizeI rfl rfl rfl (by omega)) ?_
      simp only [Act.put, sA, sB, sC]
      refine of_loud (k := 13) (by kernel_rfl) rfl ?_
      refine wl_storeI rfl _ _ rfl gr q _ rfl rfl hbD (by rw [List.size_toArray, ints_len, restL_len]; omega) ?_
      refine oi_end ⟨fun h => (by cases h), ?_⟩
      simp only [Act.put, sA, sB, sC]
      refine of_done (by kernel_rfl) ?_
      have hb9 := blk_ints_set hbD q (v9 : Int)
      rw [show (restL W N q1).set q (v9 : Int) = restL W N q by rw [← HWQ.out, ← hq1]; exact restL_set W N q (by omega)] at hb9
      have hu9 := (Upd.refl (fun b => b = gr) wr.drew).setCell (p := ⟨gr, q, none⟩) rfl (.int .i64 (v9 : Int))
      have ho9 := own_upd2 hoD hu9 (fun x hx e => by have h : some g7 = some x := hx; injection h with h; exact hne (by rw [← e, ← h]))
      have hx9 := hu9.ext hx.drew (fun x h => by omega)
      go_wp2_with ((with_reducible apply gS 83); refine wl_run rfl (.int .i64 ((q : Int) - 1)) (ex_subI rfl rfl rfl (by omega) (by omega)) ?_)
      go_roundw
      case rel =>
       rcases q with _ | q'
       ·exact ⟨0, by omega, .inl ⟨rfl, by first | rfl | go_num⟩, hb9, ho9, hx9⟩
       ·exact ⟨q' + 1, by omega, .inr ⟨q', rfl, by first | rfl | go_num | (simp; done) | (congr 1; omega)⟩, hb9, ho9, hx9⟩
      case measure => (simp [intOf]) <;> omega
end
end Go.Proofs.YtlhggcbpipmjhaaGreatDoor
