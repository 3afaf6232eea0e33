/- Contracts for the law DeskRunsCard, part 17: what the functions that it reaches answer, for all arguments that the theorems name. -/
import Derived.Lib.BufferMore
import Derived.Test.YtlhggcbpipmjhaaGreatDoorMDeskRunsCard16
import Derived.Test.YtlhggcbpipmjhaaGreatDoorMDeskRunsCard3
import Derived.Test.YtlhggcbpipmjhaaGreatDoorMDeskRunsCard4
import Derived.Test.YtlhggcbpipmjhaaGreatDoorMDeskRunsCard10
import Derived.Test.YtlhggcbpipmjhaaGreatDoorMDeskRunsCard7
import Derived.Lib.AppendZeros
import Derived.Deep.Cut
namespace Go.Proofs.YtlhggcbpipmjhaaGreatDoor
set_option linter.unusedVariables false
set_option linter.unusedSimpArgs false
open Go.RowKit
section
open SM
abbrev FPk := BM.Pack × Value
def toPk (q : FPk) : Pk := ((q.1.1 : Int), q.2)
def IntsAt (w : World) (v : Value) (xs : List Int) : Prop := SL w 1 v xs.length (ints xs) ∧ ∀ b, v.ownBlock = some b → ∃ cs, Blk w b 3 cs
theorem pack_ne : 3 ≠ 130 := by decide
theorem blk_types {w : World} {b : Nat} {T U : TypeId} {cs ds : Array Value} (h : Blk w b T cs) (k : Blk w b U ds) : T = U := by
 unfold Blk at h k
 rw [h] at k
 injection k with k
 injection k
theorem not_int {w : World} {b : Nat} {cs ds : Array Value} (h : Blk w b 130 ds) : ¬ Blk w b 3 cs := fun k => pack_ne (blk_types k h)
theorem IntsAt.ext {w w' : World} {v : Value} {xs : List Int} (h : IntsAt w v xs) (hx : Ext w w') : IntsAt w' v xs :=
 ⟨h.1.ext hx, fun b hb => by obtain ⟨cs, k⟩ := h.2 b hb; exact ⟨cs, k.ext hx⟩⟩
theorem IntsAt.upd {S : Nat → Prop} {w w' : World} {v : Value} {xs : List Int} (h : IntsAt w v xs) (hu : Upd S w w') (hS : ∀ b cs, S b → ¬ Blk w b 3 cs) : IntsAt w' v xs := by
 have hne : ∀ b cs, Blk w b 3 cs → ¬ S b := fun b cs k hs => hS b cs hs k
 obtain ⟨h1, h2⟩ := h
 have h1' := h1
 obtain ⟨A, c, rfl, -⟩ := h1'
 refine ⟨h1.upd hu fun ad e => ?_, fun b hb => ?_⟩
 ·subst e
  obtain ⟨cs, k⟩ := h2 ad.block rfl
  exact hne _ _ k
 ·obtain ⟨cs, k⟩ := h2 b hb
  exact ⟨cs, hu.blk k (hne b cs k)⟩
theorem IntsAt.own {w : World} {B n : Nat} {v : Value} {xs : List Int} (h : w.ownsRow B 3 1 v n (ints xs)) (hn : xs.length = n) : IntsAt w v xs := by
 obtain ⟨A, c, rfl, h1, -⟩ := own_form h
 exact ⟨by rw [hn]; exact h1, own_typed h⟩
theorem IntsAt.lit {w : World} {g : Nat} {x : Int} (h : Blk w g 3 #[.int .i64 x]) : IntsAt w (.slice (some ⟨g, 0, none⟩) 1 1) [x] := by
 refine ⟨⟨_, _, rfl, by simp, by omega, rfl, fun _ => ⟨_, rfl, h.lt, fun j u hu => ?_⟩⟩, fun b hb => ?_⟩
 ·rw [addr_add, Nat.zero_add, h.cell, ← hu]
  simp [ints]
 ·have e : b = g := by simpa [Value.ownBlock] using hb.symm
  subst e
  exact ⟨_, h⟩
def AllAt (w : World) (Q : List FPk) : Prop := ∀ q ∈ Q, IntsAt w q.2 q.1.2
theorem AllAt.ext {w w' : World} {Q : List FPk} (h : AllAt w Q) (hx : Ext w w') : AllAt w' Q := fun q hq => (h q hq).ext hx
theorem AllAt.upd {S : Nat → Prop} {w w' : World} {Q : List FPk} (h : AllAt w Q) (hu : Upd S w w') (hS : ∀ b cs, S b → ¬ Blk w b 3 cs) : AllAt w' Q := fun q hq => (h q hq).upd hu hS
theorem AllAt.ones {w : World} {Q : List FPk} (h : AllAt w Q) : OnesP (Q.map toPk) := by
 intro p hp
 obtain ⟨q, hq, rfl⟩ := List.mem_map.1 hp
 obtain ⟨⟨A, c, e, -⟩, -⟩ := h q hq
 show q.2.oneCell' = true
 rw [e]
 rfl
theorem cellsP_ones {L : List Pk} (h : OnesP L) : ∀ u ∈ cellsP L, u.oneCell' = true := by
 intro u hu
 obtain ⟨p, hp, hu⟩ := List.mem_flatMap.1 hu
 simp at hu
 rcases hu with rfl | rfl
 ·rfl
 ·exact h p hp
structure OwnP (w : World) (B : Nat) (C : Option Addr) (m k : Nat) (Q : List FPk) : Prop where
 len : Q.length = m
 own : w.ownsRow B 130 2 (.slice C m k) m (cellsP (Q.map toPk))
 all : AllAt w Q
theorem OwnP.nil (w : World) (B : Nat) : OwnP w B none 0 0 [] := ⟨rfl, own_nil _ _ _ _, fun _ h => by cases h⟩
theorem OwnP.ext {w w' : World} {B m k : Nat} {C : Option Addr} {Q : List FPk} (h : OwnP w B C m k Q) (hx : Ext w w') : OwnP w' B C m k Q := ⟨h.len, own_keep h.own hx, h.all.ext hx⟩
theorem OwnP.sl {w : World} {B m k : Nat} {C : Option Addr} {Q : List FPk} (h : OwnP w B C m k Q) : SL w 2 (.slice C m k) m (cellsP (Q.map toPk)) := (own_out h.own).1
theorem OwnP.typed {w : World} {B m k : Nat} {C : Option Addr} {Q : List FPk} (h : OwnP w B C m k Q) : ∀ b, (Value.slice C m k).ownBlock = some b → ∃ cs, Blk w b 130 cs := own_typed h.own
theorem OwnP.addr {w : World} {B m k : Nat} {C : Option Addr} {Q : List FPk} (h : OwnP w B C m k Q) (hm : 0 < m) : ∃ g, C = some ⟨g, 0, none⟩ ∧ B ≤ g := by
 rcases h.own.2 with ⟨-, h0⟩ | ⟨g, cap, cur, e, hb, -⟩
 ·omega
 ·injection e with e1 e2 e3
  exact ⟨g, e1, hb⟩
theorem OwnP.ds {w : World} {B m k g : Nat} {Q : List FPk} (h : OwnP w B (some ⟨g, 0, none⟩) m k Q) : ∃ tl, DS w g (Q.map toPk) tl ∧ 2 * m + tl.length = k * 2 ∧ m ≤ k ∧ k ≤ maxLen ∧ B ≤ g := by
 obtain ⟨hl, own, -⟩ := h
 rcases own.2 with ⟨e, -⟩ | ⟨g', cap, cur, e, hb, hg, h1, h2, h3, h4⟩
 ·injection e with e; cases e
 ·injection e with e1 e2 e3
  injection e1 with e1
  injection e1 with e1
  subst e1 e3
  refine ⟨cur.toList.drop (m * 2), ?_, ?_, h1, h2, hb⟩
  ·unfold DS Blk
   rw [← h4, List.take_append_drop]
   exact hg
  ·rw [List.length_drop, Array.length_toList]
   omega
theorem OwnP.of_ds {w : World} {B m k g : Nat} {Q : List FPk} {tl : List Value} (hl : Q.length = m) (hD : DS w g (Q.map toPk) tl) (h1 : 2 * m + tl.length = k * 2) (h2 : m ≤ k) (h3 : k ≤ maxLen) (hB : B ≤ g) (ha : AllAt w Q) : OwnP w B (some ⟨g, 0, none⟩) m k Q := by
 have hc : (cellsP (Q.map toPk)).length = m * 2 := by rw [cellsP_len, List.length_map, hl]; omega
 exact ⟨hl, ⟨hc, .inr ⟨g, k, _, rfl, hB, hD, h2, h3, by simp; omega, by rw [← hc]; simp⟩⟩, ha⟩
theorem OwnP.upd {S : Nat → Prop} {w w' : World} {B m k : Nat} {C : Option Addr} {Q : List FPk} (h : OwnP w B C m k Q) (hu : Upd S w w') (hS : ∀ b cs, S b → ¬ Blk w b 3 cs) (hC : ∀ ad, C = some ad → ¬ S ad.block) : OwnP w' B C m k Q :=
 ⟨h.len, own_upd2 h.own hu (fun x hx => by
  cases C with
  | none => simp [Value.ownBlock] at hx
  | some ad =>
    have e : ad.block = x := by simpa [Value.ownBlock] using hx
    rw [← e]
    exact hC ad rfl), h.all.upd hu hS⟩
theorem elt_pk : Elt Tryz.prog 131 130 2 32 := ⟨Tryz.underlying131, by kernel_rfl, by omega⟩
theorem OwnP.app {w w' : World} {B m k j : Nat} {C A : Option Addr} {k' : Nat} {Q R : List FPk} (h : OwnP w B C m k Q) (hR : AllAt w R) (hj : R.length = j) (ho : w'.ownsRow B 130 2 (.slice A (m + j) k') (m + j) (cellsP (Q.map toPk) ++ cellsP (R.map toPk))) (hg : w.grownBy w' (Value.slice C m k).ownBlock) : OwnP w' B A (m + j) k' (Q ++ R) := by
 have hu := upd_grown hg
 have ht : ∀ b cs, (Value.slice C m k).ownBlock = some b → ¬ Blk w b 3 cs := fun b cs hb => by obtain ⟨ds, k⟩ := h.typed b hb; exact not_int k
 refine ⟨by rw [List.length_append, h.len, hj], by rw [List.map_append, cellsP_app]; exact ho, fun q hq => ?_⟩
 rcases List.mem_append.1 hq with hq | hq
 ·exact (h.all q hq).upd hu (fun b cs hb => ht b cs hb)
 ·exact (hR q hq).upd hu (fun b cs hb => ht b cs hb)
theorem pairwise_of_sorted {M : List Pk} {n : Nat} (hn : M.length = n) (h : Sorted pk0 pw M 0 n) : (M.map Prod.fst).Pairwise (· ≤ ·) := by
 rw [List.pairwise_map, List.pairwise_iff_getElem]
 intro i j hi hj hij
 have := h i j (Nat.zero_le _) hij (by omega)
 rwa [wA_get M i hi, wA_get M j hj] at this
theorem pairwise_nat {Q : List FPk} (h : ((Q.map toPk).map Prod.fst).Pairwise (· ≤ ·)) : (Q.map (·.1.1)).Pairwise (· ≤ ·) := by
 rw [List.map_map, List.pairwise_map] at h
 rw [List.pairwise_map]
 exact h.imp (fun {a b} hab => by simpa [toPk] using hab)
theorem sortP_any {B m k g : Nat} {Q : List FPk} {w : World} (h : OwnP w B (some ⟨g, 0, none⟩) m k Q) (hm : m ≤ 1000000) :
 Calls Tryz.prog 104 #[.slice (some ⟨g, 0, none⟩) m k, .func (.func 105) #[] #[]] w fun e w' => e = .returned (.tuple #[]) ∧ ∃ Q', OwnP w' B (some ⟨g, 0, none⟩) m k Q' ∧ Q'.Perm Q ∧ (Q'.map (·.1.1)).Pairwise (· ≤ ·) ∧ Upd (fun x => x = g) w w' := by
 obtain ⟨tl, hD, h1, h2, h3, hB⟩ := h.ds
 refine (sort_any g (Q.map toPk) tl m k w (by rw [List.length_map, h.len]) hm h.all.ones hD).mono ?_
 rintro e w' ⟨rfl, M, hD', hseg, hsor, hu⟩
 obtain ⟨Q', hp, e⟩ := BM.perm_lift toPk hseg.perm Q rfl
 subst e
 have hl' : Q'.length = m := hp.length_eq.trans h.len
 refine ⟨rfl, Q', OwnP.of_ds hl' hD' h1 h2 h3 hB ?_, hp, pairwise_nat (pairwise_of_sorted (by rw [List.length_map, hl']) hsor), hu⟩
 have ha := h.all.upd hu (fun b cs hb => by subst hb; exact not_int hD)
 exact fun q hq => ha q (hp.subset hq)
set_option maxRecDepth 20000 in
set_option maxHeartbeats 2000000 in
theorem cloneP_any {B m k : Nat} {C : Option Addr} {Q : List FPk} {w : World} (h : OwnP w B C m k Q) (h0 : 0 < m) (hm : m ≤ 1000000) :
 Calls Tryz.prog 106 #[.slice C m k] w fun e w' => ∃ g k', e = .returned (.slice (some ⟨g, 0, none⟩) m k') ∧ OwnP w' w.heap.size (some ⟨g, 0, none⟩) m k' Q ∧ Ext w w' := by
 have HS := hid_ (fun W (hx : Ext w W) => h.sl.ext hx)
 have HO := hid_ (cellsP_ones h.all.ones)
 obtain ⟨g0, rfl, -⟩ := h.addr h0
 have HQ : Hid (∀ w1 w' A k', Ext w w1 → OwnP w1 w.heap.size (some ⟨w.heap.size, 0, none⟩) 0 0 [] → w'.ownsRow w.heap.size 130 2 (.slice A (0 + m) k') (0 + m) ([] ++ cellsP (Q.map toPk)) → w1.grownBy w' (Value.slice (some ⟨w.heap.size, 0, none⟩) 0 0).ownBlock → ∃ g, A = some ⟨g, 0, none⟩ ∧ OwnP w' w.heap.size (some ⟨g, 0, none⟩) m k' Q) := hid_ (fun w1 w' A k' hx ho h1 h2 => by
  have hq := ho.app (h.all.ext hx) h.len h1 h2
  rw [Nat.zero_add, List.nil_append] at hq
  obtain ⟨g, rfl, -⟩ := hq.addr h0
  exact ⟨g, rfl, hq⟩)
 have hE : (w.alloc (.cells #[] 130)).ownsRow w.heap.size 130 2 (.slice (some ⟨w.heap.size, 0, none⟩) 0 0) 0 [] := ⟨rfl, .inr ⟨_, 0, #[], rfl, Nat.le_refl _, heap_alloc_new w _, Nat.le_refl _, by unfold maxLen; omega, rfl, rfl⟩⟩
 have hnil : ∀ W, (binOp .eql 131 (.slice (some ⟨g0, 0, none⟩) m k) (.slice none 0 0)).run Tryz.prog W = .ok (.bool false) W := fun W => Lib.run_eql_slice_some_nil W _ _ _ Tryz.underlying131
 generalize cellsP (Q.map toPk) = cs at *
 go_enter Tryz.func106, Tryz.ntmps106
 go_wp2_with (first
  | ((with_reducible apply gS 7); refine wApf elt_pk rfl _ _ rfl w.heap.size _ _ _ rfl hE _ m cs rfl (HS.out _ ((Ext.refl w).alloc _)) HO.out (by omega) (by omega) (by simp) ?_; intro A5 k5 w5 ho5 hg5 hr5))
 obtain ⟨g, rfl, hq⟩ := HQ.out _ _ _ _ ((Ext.refl w).alloc _) ⟨rfl, hE, fun _ h => by cases h⟩ ho5 hg5
 go_ret
 exact ⟨g, k5, rfl, hq, (upd_grown hg5).ext ((Ext.refl w).alloc _) (fun x h => by have h : some w.heap.size = some x := h; injection h with h; omega)⟩
end
theorem ex_loadL {o : Oper} {a : Act} {x : Operand} (ho : o.op = .load 47 x) {p : Addr} (hx : a.eval x = .pointer (some p)) {A : Option Addr} {n c : Nat} {w : World} (h : w.cell? p = some (.slice A n c)) : (execOp a.eval o).run Tryz.prog w = .ok (.value (.slice A n c)) w := by
 have hr : (loadVar 47 p).run Tryz.prog w = .ok (.slice A n c) w := by
  have hi : (Tryz.prog.info? 47).map (·.size) = some 1 := by kernel_rfl
  simp [loadVar, Sem.run_bind, isAgg, run_underlying Tryz.underlying47, run_load, h]
 simp [execOp, ho, hx, Instr.loadAt, Instr.sureAddr, Sem.run_bind, hr]
theorem wl_storeL {ops : Array Oper} {Q : Exit → Act → World → Prop} {rest : List Oper} {o : Oper} {a : Act} {w : World} (hg : o.guard = none) (x y : Operand) (ho : o.op = .store 47 x y) (g i : Nat) (A : Option Addr) (n c : Nat) (hx : a.eval x = .pointer (some ⟨g, i, none⟩)) (hy : a.eval y = .slice A n c)
 {t : TypeId} {cs : Array Value} (hB : Blk w g t cs) (hi : i < cs.size) (h : wpList Tryz.prog ops Q rest (a.put o.dst undef) (w.setCell ⟨g, i, none⟩ (.slice A n c))) : wpList Tryz.prog ops Q (o :: rest) a w :=
 wpList_plain hg fun _ hK => by
  have hc := (hB.cell i).trans (Array.getElem?_eq_getElem hi)
  have hf := hB.frozen i
  unfold Oper.wp execOp
  simp only [ho, hx, hy]
  go_simp
  exact hK _ _ h
theorem elt_intC : Elt Tryz.prog 47 3 1 8 := ⟨Tryz.underlying47, by kernel_rfl, by omega⟩
theorem infoI : ∃ i z, Tryz.prog.info? 3 = some i ∧ i.zero = some z ∧ z.cells.size = 1 ∧ i.size = 1 ∧ i.bytes = 8 := by
 have h := (elt_intC).hi
 cases hq : Tryz.prog.info? 3 with
 | none => rw [hq] at h; cases h
 | some i =>
   rw [hq] at h
   simp at h
   obtain ⟨⟨z, hz, hzs⟩, hs, hb⟩ := h
   exact ⟨i, z, rfl, hz, hzs, hs, hb⟩
set_option maxRecDepth 20000 in
set_option maxHeartbeats 2000000 in
theorem grow_any (n : Nat) (w : World) (hn : n ≤ 1000000000) :
 Calls Tryz.prog 136 #[.slice none 0 0, .int .i64 (n : Int)] w fun e w' => ∃ A c, e = .returned (.slice A 0 c) ∧ w'.ownsRow w.heap.size 3 1 (.slice A 0 c) 0 [] ∧ Ext w w' := by
 have e0 : IntKind.i64.wrap (n : Int) = (n : Int) := IntWalk.i64_in _ (by omega)
 by_cases h0 : 0 < n
 ·obtain ⟨i, z, hi, hz, hzs, hs, hb⟩ := infoI
  obtain ⟨G, hG⟩ : ∃ G, grownCap w n 0 3 = G := ⟨_, rfl⟩
  have hge := grownCap_ge w n 0 3
  have hle := grownCap_le_maxLen w n 0 3 (by unfold maxLen; omega)
  rw [hG] at hge hle
  have hr := fun ty => Lib.run_append_nil_zeros w 47 3 ty 3 i z .i64 .i64 Tryz.underlying47 Tryz.underlying3 hi hz n h0 (by omega) (by omega) (by rw [hb]; omega)
  rw [hG] at hr
  obtain ⟨cells, hcells⟩ : ∃ cells, Builtin.zeroCells z.cells n ++ Builtin.zeroCells z.cells (G - n) = cells := ⟨_, rfl⟩
  rw [hcells] at hr
  have hcs : cells.size = G := by
   rw [← hcells, Array.size_append, size_zeroCells, size_zeroCells, hzs]
   omega
  have hown : (w.drew.alloc (.cells cells 3)).ownsRow w.heap.size 3 1 (.slice (some ⟨w.heap.size, 0, none⟩) 0 G) 0 [] :=
   ⟨rfl, .inr ⟨w.heap.size, G, cells, rfl, Nat.le_refl _, heap_alloc_new w.drew _, Nat.zero_le _, hle, by rw [hcs]; omega, by simp⟩⟩
  have HOWN := hid_ hown
  have HR := hid_ hr
  unfold maxLen at hle
  clear hr hown hcells hcs hG hi hz hzs hs hb
  go_enter Tryz.func136, Tryz.ntmps136
  go_wp2_with (first
   | ((with_reducible apply gS 6); refine wl_run rfl (.bool false) (ex_lss rfl rfl rfl (by simp; omega)) ?_)
   | ((with_reducible apply gS 14); refine wl_run rfl (.int .i64 (n : Int)) (ex_subI rfl rfl rfl (by omega) (by omega)) ?_)
   | ((with_reducible apply gS 16); refine wl_run rfl (.bool true) (ex_gtr rfl rfl rfl (by simp; omega)) ?_)
   | ((with_reducible apply gS 22); refine Lib.wpList_append_run _ rfl _ _ _ _ rfl _ _ rfl rfl _ _ (HR.out _) ?_))
  go_ret
  exact ⟨_, _, rfl, HOWN.out, (Ext.refl w).drew.alloc _⟩
 ·obtain rfl : n = 0 := by omega
  have hown : w.ownsRow w.heap.size 3 1 (.slice none 0 0) 0 [] := own_nil _ _ _ _
  go_enter Tryz.func136, Tryz.ntmps136
  go_wp2
  go_ret
  exact ⟨_, _, rfl, hown, Ext.refl w⟩
set_option maxRecDepth 20000 in
set_option maxHeartbeats 4000000 in
theorem concat_any (xs ys : List Int) (A B : Option Addr) (a b c d g : Nat) (w : World) (ha : xs.length = a) (hb : ys.length = b) (hal : a ≤ 100000000) (hbl : b ≤ 100000000) (hA : SL w 1 (.slice A a c) a (ints xs)) (hB : SL w 1 (.slice B b d) b (ints ys)) (hg : Blk w g 47 #[.slice A a c, .slice B b d]) :
 Calls Tryz.prog 107 #[.slice (some ⟨g, 0, none⟩) 2 2] w fun e w' => ∃ C k, e = .returned (.slice C (a + b) k) ∧ w'.ownsRow w.heap.size 3 1 (.slice C (a + b) k) (a + b) (ints (xs ++ ys)) ∧ Ext w w' := by
 have HO := hid_ (ints_one_mem xs)
 have HO2 := hid_ (ints_one_mem ys)
 have HAP : Hid (ints xs ++ ints ys = ints (xs ++ ys)) := hid_ (by simp [ints])
 have HG := hid_ (fun W => grow_any (a + b) W (by omega))
 have g0 := hg.cell 0
 have g1 := hg.cell 1
 obtain ⟨n, hab⟩ : ∃ n, a + b = n := ⟨_, rfl⟩
 have HN := hid_ hab
 rw [hab] at HG ⊢
 generalize ints xs = X at *
 generalize ints ys = Y at *
 generalize ints (xs ++ ys) = XY at *
 clear ha hb
 go_enter Tryz.func107, Tryz.ntmps107
 go_upto_region 3 with fail
 go_loopw [3, 11] (fun sv iv wr => ((iv = .int .i64 0 ∧ sv = .int .i64 0) ∨ (iv = .int .i64 1 ∧ sv = .int .i64 (a : Int)) ∨ (iv = .int .i64 2 ∧ sv = .int .i64 (n : Int))) ∧ wr = w) (fun _ i _ => 2 - (intOf i).toNat)
 case atStart => exact ⟨.inl ⟨rfl, rfl⟩, rfl⟩
 case round =>
  obtain ⟨h, hw⟩ := hrel
  have hw' := hw.symm
  subst hw'
  clear hw
  rcases h with ⟨rfl, rfl⟩ | ⟨rfl, rfl⟩ | ⟨rfl, rfl⟩
  ·go_wp2_with (first
    | ((with_reducible apply gS 18); refine wl_run rfl (.int .i64 (a : Int)) (ex_addI rfl rfl rfl (by omega) (by omega)) ?_)
    | ((with_reducible apply gS 20); refine wl_run rfl (.bool false) (ex_lss rfl rfl rfl (by simp; omega)) ?_))
   go_roundw
   case rel => exact ⟨.inr (.inl ⟨by go_num, by first | rfl | trivial⟩), by first | rfl | trivial⟩
   case measure => simp [intOf]
  ·go_wp2_with (first
    | ((with_reducible apply gS 18); refine wl_run rfl (.int .i64 (n : Int)) (by rw [← hab]; exact ex_addN rfl rfl rfl (by omega)) ?_)
    | ((with_reducible apply gS 20); refine wl_run rfl (.bool false) (ex_lss rfl rfl rfl (by simp; omega)) ?_))
   go_roundw
   case rel => exact ⟨.inr (.inr ⟨by go_num, by first | rfl | trivial⟩), by first | rfl | trivial⟩
   case measure => simp [intOf]
  ·go_upto_region 11 with (go_at_call 136; (with_reducible refine (HG.out _).mono ?_); rintro e w1 ⟨C0, k0, rfl, ho1, hx1⟩)
   have hsz := hx1.size
   go_loopw [6, 27] (fun sv iv wr => (∃ (C : Option Addr) (k m : Nat) (Z : List Value), ((iv = .int .i64 0 ∧ 0 = m ∧ [] = Z) ∨ (iv = .int .i64 1 ∧ a = m ∧ X = Z) ∨ (iv = .int .i64 2 ∧ n = m ∧ X ++ Y = Z)) ∧ sv = .slice C m k ∧ wr.ownsRow w.heap.size 3 1 (.slice C m k) m Z) ∧ Ext w wr) (fun _ i _ => 2 - (intOf i).toNat)
   case atStart => exact ⟨⟨C0, k0, 0, [], .inl ⟨rfl, rfl, rfl⟩, rfl, ho1⟩, hx1⟩
   case round =>
    clear ho1 hx1
    obtain ⟨⟨C, k, m, Z, h, rfl, ho⟩, hx⟩ := hrel
    have c0 := (hx.cell (p := ⟨g, 0, none⟩) hg.lt).trans g0
    have c1 := (hx.cell (p := ⟨g, 1, none⟩) hg.lt).trans g1
    have hsz2 := hx.size
    rcases h with ⟨rfl, rfl, rfl⟩ | ⟨rfl, rfl, rfl⟩ | ⟨rfl, rfl, rfl⟩
    ·go_wp2_with ((with_reducible apply gS 33); refine wApf elt_intC rfl _ _ rfl w.heap.size _ _ _ rfl ho _ a X rfl (hA.ext hx) HO.out (by omega) (by omega) (by omega) ?_; intro C5 k5 w5 ho5 hg5 hr5; rw [Nat.zero_add, List.nil_append] at ho5; have hx5 := (upd_grown hg5).ext hx (fun x h => (ho.lt x h).1))
     go_roundw
     case rel => exact ⟨⟨C5, k5, a, X, .inr (.inl ⟨by go_num, rfl, rfl⟩), by first | rfl | (simp; done) | go_num, ho5⟩, hx5⟩
     case measure => simp [intOf]
    ·go_wp2_with ((with_reducible apply gS 33); refine wApf elt_intC rfl _ _ rfl w.heap.size _ _ _ rfl ho _ b Y rfl (hB.ext hx) HO2.out (by omega) (by omega) (by omega) ?_; intro C5 k5 w5 ho5 hg5 hr5; rw [HN.out] at ho5; have hx5 := (upd_grown hg5).ext hx (fun x h => (ho.lt x h).1))
     go_roundw
     case rel => exact ⟨⟨C5, k5, n, X ++ Y, .inr (.inr ⟨by go_num, rfl, rfl⟩), by first | rfl | (rw [HN.out]; done) | go_num, ho5⟩, hx5⟩
     case measure => simp [intOf]
    ·go_wp2
     go_ret
     rw [HAP.out] at ho
     exact ⟨_, _, rfl, ho, hx⟩
theorem tblM_set (xs : List Int) (s : Value) (k : Nat) (z : Int) (h : k < xs.length) : (tblv xs s).setIfInBounds k (.int .i64 z) = tblv (xs.set k z) s := by
 unfold tblv ints
 rw [List.setIfInBounds_toArray, List.set_append_left _ _ (by simpa using h), List.map_set]
theorem zeroTblM : (Tryz.prog.info? 105).bind (·.zero) = some (.agg (tblv (List.replicate 16 0) (.slice none 0 0))) := by
 show _ = some (Value.agg (ints (List.replicate 16 0) ++ [Value.slice none 0 0]).toArray)
 kernel_rfl
theorem tblM_ne : 3 ≠ 105 := by decide
theorem tblM_get (xs : List Int) (s : Value) (k : Nat) (h : k < xs.length) : (tblv xs s)[k]? = some (.int .i64 xs[k]) := by
 unfold tblv ints
 simp [List.getElem?_append, h]
theorem tblM_one (cs : List Int) (A : Option Addr) (k c : Nat) : (tblv cs (.slice A k c)).all (·.oneCell') = true := by
 unfold tblv ints
 simp [Value.oneCell']
theorem tblM_setLast (cs : List Int) (s u : Value) (h : cs.length = 16) : (tblv cs s).setIfInBounds 16 u = tblv cs u := by
 unfold tblv
 rw [List.setIfInBounds_toArray, List.set_append_right _ _ (by rw [ints_len, h]; omega), ints_len, h]
 rfl
end Go.Proofs.YtlhggcbpipmjhaaGreatDoor
namespace Go.Proofs.YtlhggcbpipmjhaaGreatDoor
set_option linter.unusedVariables false
set_option linter.unusedSimpArgs false
open Go.RowKit
theorem run_headP (A : Option Addr) (n c h : Nat) (hh : h ≤ n) (hc : n ≤ c) (w : World) :
 (Instr.slice 131 (.slice A n c) none (some (.int .i64 (h : Int))) none).run Tryz.prog w = .ok (.slice A h c) w := by
 have e2 : ((h : Int) ≤ (c : Int)) := by omega
 go_simp
theorem ex_headP {o : Oper} {a : Act} {x hi : Operand} (ho : o.op = .slice 131 x none (some hi) none) {A : Option Addr} {n c h : Nat} (hx : a.eval x = .slice A n c) (h1 : a.eval hi = .int .i64 (h : Int)) (hh : h ≤ n) (hc : n ≤ c) (w : World) :
 (execOp a.eval o).run Tryz.prog w = .ok (.value (.slice A h c)) w := by
 simp [execOp, ho, hx, h1, Instr.sliceAt, Sem.run_bind, run_underlying Tryz.underlying131, run_headP A n c h hh hc w]
theorem zeroPkV : (Tryz.prog.info? 130).bind (·.zero) = some (.agg (pkV (0, .slice none 0 0))) := by kernel_rfl
theorem le_mul32 {x y j k : Nat} (a : x ≤ y * k) (b : y ≤ j) : x ≤ j * k := Nat.le_trans a (Nat.mul_le_mul_right k b)
theorem pk_one (z : Int) (A : Option Addr) (n c : Nat) : (pkV (z, .slice A n c)).all (·.oneCell') = true := by simp [pkV, Value.oneCell']
def cntF (C : List Int) (s : Int) : Option Value := if C.count s = 0 then none else some (.int .i64 ((C.count s : Nat) : Int))
theorem cntF_nil : cntF [] = fun _ => none := by funext s; simp [cntF]
theorem cntF_look (C : List Int) (s : Int) : (cntF C s).getD (.int .i64 0) = .int .i64 ((C.count s : Nat) : Int) := by
 unfold cntF
 split
 ·rename_i h; rw [h]; rfl
 ·rfl
theorem cntF_same (C : List Int) (s : Int) : cntF (C ++ [s]) s = some (.int .i64 ((C.count s + 1 : Nat) : Int)) := by
 unfold cntF
 rw [List.count_append, List.count_singleton_self, if_neg (by omega)]
theorem cntF_other (C : List Int) (s t : Int) (h : t ≠ s) : cntF (C ++ [s]) t = cntF C t := by
 unfold cntF
 rw [List.count_append, List.count_cons, List.count_nil]
 simp [Ne.symm h]
theorem MapG.not_cells {ι : Type} {P : Program} {k : TypeId} {kl : ι → Lit} {ok : ι → Prop} {w : World} {b n : Nat} {g : ι → Option Value} (h : MapG P k kl ok w b n g) {T : TypeId} {cs : Array Value} : ¬ Blk w b T cs := by
 obtain ⟨D, ⟨es, clock, hb, -⟩, -⟩ := h
 intro q
 unfold Blk at q
 rw [hb] at q
 cases q
theorem own_map_ne {ι : Type} {P : Program} {k : TypeId} {kl : ι → Lit} {ok : ι → Prop} {w : World} {b n B s m : Nat} {g : ι → Option Value} {e : TypeId} {v : Value} {xs : List Value} (ho : w.ownsRow B e s v m xs) (h : MapG P k kl ok w b n g) : some b ≠ v.ownBlock := fun q => by
 obtain ⟨cs, hc⟩ := own_typed ho b q.symm
 exact h.not_cells (T := e) (cs := cs) hc
namespace BM
theorem cont_take_succ (L : List Pack) (j : Nat) (h : j < L.length) : cont (L.take (j + 1)) = cont (L.take j) ++ L[j].2 := by
 rw [List.take_succ_eq_append_getElem h, cont_append]
 simp [cont]
theorem cont_len {L : List Pack} {b : Nat} (h : ∀ p ∈ L, p.2.length ≤ b) : (cont L).length ≤ L.length * b := by
 induction L with
 | nil => simp [cont]
 | cons p L ih =>
   have h1 := h p (by simp)
   have h2 := ih (fun q hq => h q (by simp [hq]))
   have e : cont (p :: L) = p.2 ++ cont L := by simp [cont]
   rw [e, List.length_append, List.length_cons, Nat.add_mul]
   omega
theorem singN_syms (cs : List Int) : ∀ i, ∀ p ∈ singN cs i, ∀ s ∈ p.2, -1 ≤ s ∧ s < i
 | 0, p, hp, s, hs => by simp [singN] at hp; subst hp; simp at hs; omega
 | i + 1, p, hp, s, hs => by
   rw [singN, List.mem_append] at hp
   rcases hp with hp | hp
   ·have := singN_syms cs i p hp s hs; omega
   ·split at hp
    ·have e : p = ((cs.getD i 0).toNat, [(i : Int)]) := by simpa using hp
     subst e
     simp at hs
     omega
    ·cases hp
theorem Reach.syms {S : List Pack} {R : Int → Prop} (hS : ∀ p ∈ S, ∀ s ∈ p.2, R s) : ∀ {f L}, Reach S f L → ∀ p ∈ L, ∀ s ∈ p.2, R s
 | _, _, .zero, p, hp => hS p hp
 | _, _, .step h hp _, p, hm => by
   have h1 := hp.subset hm
   rcases List.mem_append.1 h1 with h1 | h1
   ·obtain ⟨x, hx, y, hy, e⟩ := pairP_mem _ _ h1
    subst e
    intro s hs
    rcases List.mem_append.1 hs with hs | hs
    ·exact h.syms hS x hx s hs
    ·exact h.syms hS y hy s hs
   ·exact hS p h1
end BM
end Go.Proofs.YtlhggcbpipmjhaaGreatDoor
