/- Contracts for the law RescueDecodesCard, part 4: what the functions that it reaches answer, for all arguments that the theorems name. -/
import Derived.Test.YtkggcjdlpendfaaGreatDoorMRescueDecodesCard3
import Derived.Test.YtkggcjdlpendfaaGreatDoorMRescueDecodesCard2
import Derived.Test.YtkggcjdlpendfaaGreatDoorMRescueDecodesCard1
import Derived.Laws.MakeOwn
namespace Go.Proofs.YtkggcjdlpendfaaGreatDoor
set_option linter.unusedVariables false
set_option linter.unusedSimpArgs false
open Go.RowKit
theorem elt_intT : Elt Tryz.prog 22 3 1 8 := ⟨Tryz.underlying22, by kernel_rfl, by omega⟩
abbrev Four := Int × Int × Int × Int
def turnRow (s : Four → Int) (t : Int → Int → Int → Four) (a b c : List Int) : Nat → List Int
 | 0 => []
 | k + 1 => turnRow s t a b c k ++ [s (t (a.getD k 0) (b.getD k 0) (c.getD k 0))]
theorem turnRow_len (s : Four → Int) (t : Int → Int → Int → Four) (a b c : List Int) : ∀ k, (turnRow s t a b c k).length = k
 | 0 => rfl
 | k + 1 => by rw [turnRow, List.length_append, turnRow_len s t a b c k]; rfl
def turnZ (t : Int → Int → Int → Four) (L : List (List Int)) : List (List Int) :=
 match L with
 | [a, b, c] => [turnRow (·.1) t a b c a.length, turnRow (·.2.1) t a b c a.length, turnRow (·.2.2.1) t a b c a.length]
 | _ => L
def TurnsBy (f : FuncId) (t : Int → Int → Int → Four) : Prop := ∀ (a b c : Int) (w : World), Calls Tryz.prog f #[.int .i64 a, .int .i64 b, .int .i64 c] w fun e w' => e = .returned (.tuple #[.int .i64 (t a b c).1, .int .i64 (t a b c).2.1, .int .i64 (t a b c).2.2.1, .int .i64 (t a b c).2.2.2]) ∧ Ext w w'
theorem sizeRow : (Tryz.prog.info? 22).map (·.size) = some 1 := by kernel_rfl
theorem row_at {w : World} {B : Option Addr} {d i : Nat} {l : List Int} (h : SL w 1 (.slice B l.length d) l.length (ints l)) (hi : i < l.length) : ∃ ad, B = some ad ∧ ad.block < w.heap.size ∧ w.cell? (ad.add i) = some (.int .i64 (l.getD i 0)) := by
 obtain ⟨ad, u, hB, hb, hk, hc⟩ := h.at1 hi
 rw [ints, List.getElem?_map, List.getElem?_eq_getElem hi] at hk
 injection hk with hk
 subst hk
 refine ⟨ad, hB, hb, ?_⟩
 rw [hc, List.getD_eq_getElem?_getD, List.getElem?_eq_getElem hi]
 rfl
def RowsF (w : World) (B : Nat) (A : Option Addr) (n c : Nat) (L : List (List Int)) : Prop :=
 ∃ vs : List Value, SL w 1 (.slice A n c) n vs ∧ L.length = n ∧ (∀ ad, A = some ad → B ≤ ad.block) ∧ ∀ (k : Nat) (l : List Int), L[k]? = some l → ∃ (D : Option Addr) (d : Nat), vs[k]? = some (Value.slice D l.length d) ∧ SL w 1 (.slice D l.length d) l.length (ints l) ∧ ∀ ad, D = some ad → B ≤ ad.block
theorem RowsF.rows {w : World} {B n c : Nat} {A : Option Addr} {L : List (List Int)} (h : RowsF w B A n c L) : RowsS w A n c L := by
 obtain ⟨vs, h1, h2, -, h3⟩ := h
 exact ⟨vs, h1, h2, fun k l hl => by obtain ⟨D, d, e, hs, -⟩ := h3 k l hl; exact ⟨D, d, e, hs⟩⟩
theorem RowsF.mono {w : World} {B B' n c : Nat} {A : Option Addr} {L : List (List Int)} (h : RowsF w B A n c L) (hB : B' ≤ B) : RowsF w B' A n c L := by
 obtain ⟨vs, h1, h2, h4, h3⟩ := h
 exact ⟨vs, h1, h2, fun ad e => Nat.le_trans hB (h4 ad e), fun k l hl => by obtain ⟨D, d, e, hs, hd⟩ := h3 k l hl; exact ⟨D, d, e, hs, fun ad e => Nat.le_trans hB (hd ad e)⟩⟩
theorem RowsF.upd {S : Nat → Prop} {w w' : World} {B n c : Nat} {A : Option Addr} {L : List (List Int)} (h : RowsF w B A n c L) (hu : Upd S w w') (hS : ∀ x, S x → x < B) : RowsF w' B A n c L := by
 obtain ⟨vs, h1, h2, h4, h3⟩ := h
 exact ⟨vs, h1.upd hu (fun ad e q => by have := h4 ad e; have := hS _ q; omega), h2, h4, fun k l hl => by
  obtain ⟨D, d, e, hs, hd⟩ := h3 k l hl
  exact ⟨D, d, e, hs.upd hu (fun ad e q => by have := hd ad e; have := hS _ q; omega), hd⟩⟩
theorem rows_mkF {w : World} {g B : Nat} {T : TypeId} {v0 v1 v2 : Value} {a b c : List Int} (hg : Blk w g T #[v0, v1, v2]) (hB : B ≤ g) (h0 : ∃ A d, v0 = .slice A a.length d ∧ SL w 1 v0 a.length (ints a) ∧ ∀ ad, A = some ad → B ≤ ad.block) (h1 : ∃ A d, v1 = .slice A b.length d ∧ SL w 1 v1 b.length (ints b) ∧ ∀ ad, A = some ad → B ≤ ad.block) (h2 : ∃ A d, v2 = .slice A c.length d ∧ SL w 1 v2 c.length (ints c) ∧ ∀ ad, A = some ad → B ≤ ad.block) :
 RowsF w B (some ⟨g, 0, none⟩) 3 3 [a, b, c] := by
 refine ⟨[v0, v1, v2], hg.sl (size := 1) rfl (by omega) (by omega), rfl, fun ad e => by cases e; exact hB, fun k l hl => ?_⟩
 rcases k with _ | _ | _ | k
 ·injection hl with hl; subst hl; obtain ⟨A, d, rfl, hs, hd⟩ := h0; exact ⟨A, d, rfl, hs, hd⟩
 ·injection hl with hl; subst hl; obtain ⟨A, d, rfl, hs, hd⟩ := h1; exact ⟨A, d, rfl, hs, hd⟩
 ·injection hl with hl; subst hl; obtain ⟨A, d, rfl, hs, hd⟩ := h2; exact ⟨A, d, rfl, hs, hd⟩
 ·simp at hl
theorem three_of {L : List (List Int)} (h : L.length = 3) : ∃ a b c, L = [a, b, c] := by
 match L, h with
 | [a, b, c], _ => exact ⟨a, b, c, rfl⟩
theorem turnZ_one (t : Int → Int → Int → Four) {L : List (List Int)} (h : L.length ≠ 3) : turnZ t L = L := by
 unfold turnZ
 split
 ·exact absurd rfl h
 ·rfl
def OwnV (w : World) (base : Nat) (e : TypeId) (size : Nat) (v : Value) (n : Nat) (xs : List Value) : Prop := ∃ A c, v = .slice A n c ∧ w.ownsRow base e size (.slice A n c) n xs
theorem OwnV.mk {w : World} {base : Nat} {e : TypeId} {size n : Nat} {v : Value} {xs : List Value} (h : w.ownsRow base e size v n xs) : OwnV w base e size v n xs := by
 obtain ⟨A, c, rfl, -, -⟩ := own_form h
 exact ⟨A, c, rfl, h⟩
theorem OwnV.nil (w : World) (base : Nat) (e : TypeId) (size : Nat) : OwnV w base e size (.slice none 0 0) 0 [] := ⟨none, 0, rfl, World.ownsRow_nil _ _ _ _⟩
theorem own_out {w : World} {base : Nat} {e : TypeId} {size n c : Nat} {A : Option Addr} {xs : List Value} (h : w.ownsRow base e size (.slice A n c) n xs) : SL w size (.slice A n c) n xs ∧ ∀ ad, A = some ad → base ≤ ad.block := by
 obtain ⟨B, d, e1, h1, h2⟩ := own_form h
 injection e1 with e1 e2 e3
 subst e1 e3
 exact ⟨h1, h2⟩
def part64 (X : List Int) (k : Nat) : List Int := (X.drop (k * 64)).take 64
theorem zero48c : (Value.agg (bv zeros64)).cells.size = 64 := by rw [show (Value.agg (bv zeros64)).cells = bv zeros64 from rfl, bv_size]; rfl
theorem part64_cells {w : World} {A : Addr} {Z : List Int} {j : Nat} (h : CellsAt w A (((ints Z).drop (j * 64)).take 64)) : CellsAt w A (ints (part64 Z j)) := by
 have e : ((ints Z).drop (j * 64)).take 64 = ints (part64 Z j) := by unfold ints part64; rw [List.map_drop.symm, List.map_take.symm]
 rw [← e]
 exact h
def PartsAt (w : World) (B : Nat) (v : Value) (L : List (List Int)) : Prop :=
 ∃ A c vs, v = .slice A L.length c ∧ w.ownsRow B 22 1 (.slice A L.length c) L.length vs ∧ ∀ (k : Nat) (l : List Int), L[k]? = some l → ∃ D d, vs[k]? = some (.slice D l.length d) ∧ SL w 1 (.slice D l.length d) l.length (ints l) ∧ ∀ ad, D = some ad → B ≤ ad.block ∧ ad.block < w.heap.size ∧ (Value.slice A L.length c).ownBlock ≠ some ad.block
theorem PartsAt.nil (w : World) (B : Nat) : PartsAt w B (.slice none 0 0) [] := ⟨none, 0, [], rfl, World.ownsRow_nil _ _ _ _, fun k l h => by simp at h⟩
theorem PartsAt.form {w : World} {B : Nat} {v : Value} {L : List (List Int)} (h : PartsAt w B v L) : ∃ A c, v = .slice A L.length c := ⟨_, _, h.choose_spec.choose_spec.choose_spec.1⟩
theorem PartsAt.ext {w w' : World} {B : Nat} {v : Value} {L : List (List Int)} (h : PartsAt w B v L) (hx : Ext w w') : PartsAt w' B v L := by
 obtain ⟨A, c, vs, rfl, ho, hp⟩ := h
 refine ⟨A, c, vs, rfl, own_keep ho hx, fun k l hl => ?_⟩
 obtain ⟨D, d, e, hs, hd⟩ := hp k l hl
 exact ⟨D, d, e, hs.ext hx, fun ad ea => by obtain ⟨h1, h2, h3⟩ := hd ad ea; exact ⟨h1, Nat.lt_of_lt_of_le h2 hx.size, h3⟩⟩
theorem PartsAt.upd {S : Nat → Prop} {w w' : World} {B : Nat} {v : Value} {L : List (List Int)} (h : PartsAt w B v L) (hu : Upd S w w') (hS : ∀ x, S x → x < B) : PartsAt w' B v L := by
 obtain ⟨A, c, vs, rfl, ho, hp⟩ := h
 refine ⟨A, c, vs, rfl, own_upd2 ho hu (fun b hb hs => by have := (ho.lt b hb).1; have := hS b hs; omega), fun k l hl => ?_⟩
 obtain ⟨D, d, e, hs, hd⟩ := hp k l hl
 exact ⟨D, d, e, hs.upd hu (fun ad ea hs2 => by have := (hd ad ea).1; have := hS _ hs2; omega), fun ad ea => by obtain ⟨h1, h2, h3⟩ := hd ad ea; exact ⟨h1, Nat.lt_of_lt_of_le h2 hu.size, h3⟩⟩
theorem PartsAt.far {w : World} {B : Nat} {A : Option Addr} {n c : Nat} {L : List (List Int)} (h : PartsAt w B (.slice A n c) L) : RowsF w B A n c L := by
 obtain ⟨A', c', vs, e, ho, hp⟩ := h
 injection e with e1 e2 e3
 subst e1 e2 e3
 refine ⟨vs, (own_out ho).1, rfl, (own_out ho).2, fun k l hl => ?_⟩
 obtain ⟨D, d, e, hs, hd⟩ := hp k l hl
 exact ⟨D, d, e, hs, fun ad ea => (hd ad ea).1⟩
theorem PartsAt.own {w : World} {B : Nat} {A : Option Addr} {n c : Nat} {L : List (List Int)} (h : PartsAt w B (.slice A n c) L) : ∃ vs, w.ownsRow B 22 1 (.slice A n c) n vs ∧ n = L.length ∧ ∀ A' c' w' l D d, w'.ownsRow B 22 1 (.slice A' (n + 1) c') (n + 1) (vs ++ [.slice D l.length d]) → w.grownBy w' (Value.slice A n c).ownBlock → (A'.map (·.block) = (Value.slice A n c).ownBlock ∨ A'.map (·.block) = some w.heap.size) →
 SL w 1 (.slice D l.length d) l.length (ints l) → (∀ ad, D = some ad → B ≤ ad.block ∧ ad.block < w.heap.size ∧ (Value.slice A n c).ownBlock ≠ some ad.block) → PartsAt w' B (.slice A' (n + 1) c') (L ++ [l]) := by
 obtain ⟨A', c', vs, e, ho, hp⟩ := h
 injection e with e1 e2 e3
 subst e1 e2 e3
 refine ⟨vs, ho, rfl, fun A' c' w' l D d ho' hg hr hs hd => ?_⟩
 have hu := upd_grown hg
 have hvl : vs.length = L.length := by have := ho.1; omega
 have hne : ∀ ad : Addr, ad.block < w.heap.size → (Value.slice A L.length c).ownBlock ≠ some ad.block → (Value.slice A' (L.length + 1) c').ownBlock ≠ some ad.block := fun ad h2 h3 q => by
  rw [own_map2] at q
  rcases hr with h | h
  ·rw [h] at q; exact h3 q
  ·rw [h] at q; injection q with q; omega
 refine ⟨A', c', vs ++ [.slice D l.length d], by simp, by simpa using ho', fun k l' hl => ?_⟩
 have hll : (L ++ [l]).length = L.length + 1 := by simp
 rw [hll]
 by_cases hk : k < L.length
 ·rw [List.getElem?_append_left hk] at hl
  obtain ⟨D', d', e', hs', hd'⟩ := hp k l' hl
  refine ⟨D', d', by rw [List.getElem?_append_left (by omega)]; exact e', hs'.upd hu (fun ad ea h => (hd' ad ea).2.2 h), fun ad ea => ?_⟩
  obtain ⟨h1, h2, h3⟩ := hd' ad ea
  exact ⟨h1, Nat.lt_of_lt_of_le h2 hu.size, hne ad h2 h3⟩
 ·have hk2 : k = L.length := by
   have := (List.getElem?_eq_some_iff.1 hl).1
   simp at this
   omega
  subst hk2
  rw [List.getElem?_append_right (Nat.le_refl _), Nat.sub_self] at hl
  injection hl with hl
  subst hl
  refine ⟨D, d, by rw [List.getElem?_append_right (by omega), hvl, Nat.sub_self]; rfl, hs.upd hu (fun ad ea h => (hd ad ea).2.2 h), fun ad ea => ?_⟩
  obtain ⟨h1, h2, h3⟩ := hd ad ea
  exact ⟨h1, Nat.lt_of_lt_of_le h2 hu.size, hne ad h2 h3⟩
theorem madeCells_rep (k m : Nat) (hk : 0 < k) : madeCells (bv (List.replicate k 0)) m = bv (List.replicate m 0) := by
 apply Array.ext
 ·rw [size_madeCells, bv_size, List.length_replicate]
 ·intro i h1 h2
  have hm : i < m := by simpa [size_madeCells] using h1
  have h64 : i % k < k := Nat.mod_lt _ hk
  simp [madeCells, bv, ints, h64]
theorem infoBlk : ∃ i, Tryz.prog.info? 33 = some i ∧ i.zero = some (.agg (bv zeros64)) ∧ i.size = 64 ∧ i.bytes = 512 := by
 have h1 := size48
 have h2 := zero48
 have h3 : (Tryz.prog.info? 33).map (·.bytes) = some 512 := by kernel_rfl
 cases hq : Tryz.prog.info? 33 with
 | none => rw [hq] at h1; cases h1
 | some i =>
   rw [hq] at h1 h2 h3
   exact ⟨i, rfl, by simpa using h2, by simpa using h1, by simpa using h3⟩
theorem wpList_makeBlocks {ops : Array Oper} {rest : List Oper} {o : Oper} {a : Act} {w : World} {Q : Exit → Act → World → Prop} (hg : o.guard = none) (dst : Option Tmp) (hdst : o.dst = dst) (x y : Operand) (ho : o.op = .makeSlice 25 x y) (n : Nat) (hn : n ≤ 100000)
 (hx : a.eval x = .int .i64 (n : Int)) (hy : a.eval y = .int .i64 (n : Int))
 (h : ∀ w1 g, Blk w1 g 33 (bv (List.replicate (n * 64) 0)) → Ext w w1 → w.heap.size ≤ g → wpList Tryz.prog ops Q rest (a.put dst (.slice (some ⟨g, 0, none⟩) n n)) w1) : wpList Tryz.prog ops Q (o :: rest) a w := by
 subst hdst
 obtain ⟨i, hi, hz, hs, hb⟩ := infoBlk
 have hr := run_makeSlice (P := Tryz.prog) w 25 33 i (.agg (bv zeros64)) Tryz.underlying25 hi hz .i64 .i64 (n : Int) (n : Int) (by omega) (Int.le_refl _) (by rw [hs]; omega) (by rw [hb]; omega) (by omega)
 rw [Int.toNat_natCast, hs, show (Value.agg (bv zeros64)).cells = bv (List.replicate 64 0) from rfl, madeCells_rep 64 _ (by omega)] at hr
 refine wpList_plain hg fun _ hK => ?_
 unfold Oper.wp execOp
 simp only [ho, hx, hy, Sem.run_bind, hr, Result.andThen_ok, Sem.run_pure]
 exact hK _ _ (h _ _ (Blk.new w _ _) ((Ext.refl w).alloc _) (Nat.le_refl _))
theorem infoInt : ∃ i, Tryz.prog.info? 3 = some i ∧ i.zero = some (.int .i64 0) ∧ i.size = 1 ∧ i.bytes = 8 := by
 have h1 : (Tryz.prog.info? 3).map (fun i => (i.zero, i.size, i.bytes)) = some (some (.int .i64 0), 1, 8) := by kernel_rfl
 cases hq : Tryz.prog.info? 3 with
 | none => rw [hq] at h1; cases h1
 | some i =>
   rw [hq] at h1
   simp at h1
   exact ⟨i, rfl, h1.1, h1.2.1, h1.2.2⟩
theorem wpList_makeInts {ops : Array Oper} {rest : List Oper} {o : Oper} {a : Act} {w : World} {Q : Exit → Act → World → Prop} (hg : o.guard = none) (dst : Option Tmp) (hdst : o.dst = dst) (x y : Operand) (ho : o.op = .makeSlice 22 x y) (n : Nat) (hn : n ≤ 1000000)
 (hx : a.eval x = .int .i64 (n : Int)) (hy : a.eval y = .int .i64 (n : Int))
 (h : ∀ w1 g, Blk w1 g 3 (bv (List.replicate n 0)) → Ext w w1 → w.heap.size ≤ g → wpList Tryz.prog ops Q rest (a.put dst (.slice (some ⟨g, 0, none⟩) n n)) w1) : wpList Tryz.prog ops Q (o :: rest) a w := by
 subst hdst
 obtain ⟨i, hi, hz, hs, hb⟩ := infoInt
 have hr := run_makeSlice (P := Tryz.prog) w 22 3 i (.int .i64 0) Tryz.underlying22 hi hz .i64 .i64 (n : Int) (n : Int) (by omega) (Int.le_refl _) (by rw [hs]; omega) (by rw [hb]; omega) (by omega)
 rw [Int.toNat_natCast, hs, show (Value.int .i64 0).cells = bv (List.replicate 1 0) from rfl, madeCells_rep 1 _ (by omega), Nat.mul_one] at hr
 refine wpList_plain hg fun _ hK => ?_
 unfold Oper.wp execOp
 simp only [ho, hx, hy, Sem.run_bind, hr, Result.andThen_ok, Sem.run_pure]
 exact hK _ _ (h _ _ (Blk.new w _ _) ((Ext.refl w).alloc _) (Nat.le_refl _))
section
theorem infoRow : ∃ i, Tryz.prog.info? 22 = some i ∧ i.zero = some (.slice none 0 0) ∧ i.size = 1 ∧ i.bytes = 24 := by
 have h1 : (Tryz.prog.info? 22).map (fun i => (i.zero, i.size, i.bytes)) = some (some (.slice none 0 0), 1, 24) := by kernel_rfl
 cases hq : Tryz.prog.info? 22 with
 | none => rw [hq] at h1; cases h1
 | some i =>
   rw [hq] at h1
   simp at h1
   exact ⟨i, rfl, h1.1, h1.2.1, h1.2.2⟩
theorem madeRows : madeCells (Value.slice none 0 0).cells 3 = #[.slice none 0 0, .slice none 0 0, .slice none 0 0] := by
 show _ = _
 kernel_rfl
theorem wpList_makeRows {ops : Array Oper} {rest : List Oper} {o : Oper} {a : Act} {w : World} {Q : Exit → Act → World → Prop} (hg : o.guard = none) (dst : Option Tmp) (hdst : o.dst = dst) (x y : Operand) (ho : o.op = .makeSlice 29 x y)
 (hx : a.eval x = .int .i64 3) (hy : a.eval y = .int .i64 3)
 (h : ∀ w1 g, Blk w1 g 22 #[.slice none 0 0, .slice none 0 0, .slice none 0 0] → Ext w w1 → w.heap.size ≤ g → wpList Tryz.prog ops Q rest (a.put dst (.slice (some ⟨g, 0, none⟩) 3 3)) w1) : wpList Tryz.prog ops Q (o :: rest) a w := by
 subst hdst
 obtain ⟨i, hi, hz, hs, hb⟩ := infoRow
 have hr := run_makeSlice (P := Tryz.prog) w 29 22 i (.slice none 0 0) Tryz.underlying29 hi hz .i64 .i64 3 3 (by omega) (Int.le_refl _) (by rw [hs]; decide) (by rw [hb]; decide) (by omega)
 rw [hs, show (3 : Int).toNat * 1 = 3 by decide, madeRows] at hr
 refine wpList_plain hg fun _ hK => ?_
 unfold Oper.wp execOp
 simp only [ho, hx, hy, Sem.run_bind, hr, Result.andThen_ok, Sem.run_pure]
 exact hK _ _ (h _ _ (Blk.new w _ _) ((Ext.refl w).alloc _) (Nat.le_refl _))
theorem turned_one (A : Option Addr) (n c : Nat) (L : List (List Int)) (F : Value) (w : World) (hr : RowsS w A n c L) (hn : n ≠ 3) (hN : n ≤ 1000000) :
 Calls Tryz.prog 38 #[.slice A n c, F] w fun e w' => e = .returned (.slice A n c) ∧ w' = w := by
 have H10 : Hid (decide ((n : Int) ≠ 3) = true) := hid_ (by rw [decide_eq_true_eq]; omega)
 clear hr hn
 go_enter Tryz.func38, Tryz.ntmps38
 go_wp2_with (first
  | ((with_reducible apply gS 10); refine wl_run rfl (.bool true) (ex_neq rfl rfl rfl H10.out) ?_))
 go_ret
 exact ⟨rfl, rfl⟩
def rowK (j k N h : Nat) : Value := if j < k then .slice (some ⟨h, 0, none⟩) N N else .slice none 0 0
def rowsK (k N h0 h1 h2 : Nat) : Array Value := #[rowK 0 k N h0, rowK 1 k N h1, rowK 2 k N h2]
theorem rowsK_set (k N h0 h1 h2 g : Nat) (hk : k < 3) : ∃ a0 a1 a2, (rowsK k N h0 h1 h2).setIfInBounds k (.slice (some ⟨g, 0, none⟩) N N) = rowsK (k + 1) N a0 a1 a2 ∧ a0 = (if k = 0 then g else h0) ∧ a1 = (if k = 1 then g else h1) ∧ a2 = (if k = 2 then g else h2) := by
 refine ⟨_, _, _, ?_, rfl, rfl, rfl⟩
 have : k = 0 ∨ k = 1 ∨ k = 2 := by omega
 rcases this with rfl | rfl | rfl <;> rfl
def preR (N i : Nat) (X : List Int) : List Int := X ++ List.replicate (N - i) 0
theorem preR_set (N i : Nat) (X : List Int) (z : Int) (hX : X.length = i) (hi : i < N) : (preR N i X).set i z = preR N (i + 1) (X ++ [z]) := by
 unfold preR
 rw [List.set_append_right _ _ (by omega), hX, Nat.sub_self, show N - i = (N - (i + 1)) + 1 by omega, List.replicate_succ, List.set_cons_zero, List.append_assoc]
 rfl
theorem preR_len (N i : Nat) (X : List Int) (hX : X.length = i) (hi : i ≤ N) : (preR N i X).length = N := by
 unfold preR
 rw [List.length_append, List.length_replicate]
 omega
attribute [local irreducible] turnRow
set_option maxRecDepth 20000 in
set_option maxHeartbeats 64000000 in
theorem turned_three (f : FuncId) (t : Int → Int → Int → Four) (hf : TurnsBy f t) (hgo : Goes Tryz.prog f) (A : Option Addr) (c : Nat) (la lb lc : List Int) (N : Nat) (ha : la.length = N) (hb : lb.length = N) (hc : lc.length = N) (hN : N ≤ 1000000) (w : World) (hr : RowsS w A 3 c [la, lb, lc]) :
 Calls Tryz.prog 38 #[.slice A 3 c, .func (.func f) #[] #[]] w fun e w' => ∃ B k d, e = .returned (.slice B k d) ∧ RowsF w' w.heap.size B k d [turnRow (·.1) t la lb lc N, turnRow (·.2.1) t la lb lc N, turnRow (·.2.2.1) t la lb lc N] ∧ Ext w w' := by
 have HF := hid_ hf
 obtain ⟨pd, r0, B0, d0, rfl, hl0, hpb, hc0, hs0⟩ := hr.get (k := 0) (by omega)
 obtain ⟨pd1, r1, B1, d1, hp1, hl1, -, hc1, hs1⟩ := hr.get (k := 1) (by omega)
 obtain ⟨pd2, r2, B2, d2, hp2, hl2, -, hc2, hs2⟩ := hr.get (k := 2) (by omega)
 injection hl0 with hl0
 injection hl1 with hl1
 injection hl2 with hl2
 injection hp1 with hp1
 injection hp2 with hp2
 subst hl0 hl1 hl2 hp1 hp2
 rw [ha] at hc0
 rw [hb] at hc1
 rw [hc] at hc2
 have HC0 := hid_ (fun W (h : Ext w W) => (h.cell (p := pd.add 0) (by rw [block_of_add]; exact hpb)).trans hc0)
 have HC1 := hid_ (fun W (h : Ext w W) => (h.cell (p := pd.add 1) (by rw [block_of_add]; exact hpb)).trans hc1)
 have HC2 := hid_ (fun W (h : Ext w W) => (h.cell (p := pd.add 2) (by rw [block_of_add]; exact hpb)).trans hc2)
 have HCK := hid_ (fun k (hk : k < 3) W (h : Ext w W) => (show ∃ B d, W.cell? (pd.add (k * 1)) = some (.slice B N d) by
  rw [Nat.mul_one]
  have : k = 0 ∨ k = 1 ∨ k = 2 := by omega
  rcases this with rfl | rfl | rfl
  ·exact ⟨_, _, HC0.out W h⟩
  ·exact ⟨_, _, HC1.out W h⟩
  ·exact ⟨_, _, HC2.out W h⟩))
 have HRO0 := hid_ (fun i (h : i < N) => row_at hs0 (by rw [ha]; exact h))
 have HRO1 := hid_ (fun i (h : i < N) => row_at hs1 (by rw [hb]; exact h))
 have HRO2 := hid_ (fun i (h : i < N) => row_at hs2 (by rw [hc]; exact h))
 have H10 : Hid (decide ((3 : Int) ≠ 3) = false) := hid_ (by decide)
 clear hf hr hc0 hc1 hc2 hs0 hs1 hs2 ha hb hc
 go_enter Tryz.func38, Tryz.ntmps38
 go_wp2_with (first
  | ((with_reducible apply gS 10); refine wl_run rfl (.bool false) (ex_neq rfl rfl rfl H10.out) ?_)
  | ((with_reducible apply gS 12); refine wpList_makeRows rfl (some 12) rfl _ _ rfl rfl rfl ?_; intro w1 g0 hb1 hx1 hg1))
 have hbi : Blk w1 g0 22 (rowsK 0 N 0 0 0) := hb1
 clear hb1
 go_loopw [15] (fun iv wr => ∃ (k h0 h1 h2 : Nat), k ≤ 3 ∧ iv = .int .i64 (k : Int) ∧ Blk wr g0 22 (rowsK k N h0 h1 h2) ∧ (0 < k → Blk wr h0 3 (bv (List.replicate N 0)) ∧ g0 < h0) ∧ (1 < k → Blk wr h1 3 (bv (List.replicate N 0)) ∧ h0 < h1) ∧ (2 < k → Blk wr h2 3 (bv (List.replicate N 0)) ∧ h1 < h2) ∧ Ext w wr) (fun i _ => 3 - (intOf i).toNat)
 case atStart => exact ⟨0, 0, 0, 0, by omega, rfl, hbi, fun h => absurd h (by omega), fun h => absurd h (by omega), fun h => absurd h (by omega), hx1⟩
 case round =>
  clear hbi hx1
  obtain ⟨k, h0, h1, h2, hk, rfl, hbg, q0, q1, q2, hx⟩ := hrel
  by_cases hk3 : k < 3
  ·obtain ⟨Bk, dk, hck⟩ := HCK.out k hk3 wr hx
   obtain ⟨a0, a1, a2, hset, ea0, ea1, ea2⟩ := rowsK_set k N h0 h1 h2 wr.heap.size hk3
   have hgs := hbg.lt
   go_wp2_with (first
    | ((with_reducible apply gS 22); refine wl_run rfl (.pointer (some (pd.add (k * 1)))) (ex_ixSl (i := k) Tryz.underlying29 sizeRow rfl rfl rfl hk3) ?_)
    | ((with_reducible apply gS 23); refine wl_read rfl (.slice Bk N dk) (ex_loadL rfl rfl hck) ?_)
    | ((with_reducible apply gS 25); refine wpList_makeInts rfl (some 25) rfl _ _ rfl N hN rfl rfl ?_; intro w5 g5 hb5 hx5 hg5; have hbg5 := hbg.ext hx5)
    | ((with_reducible apply gS 26); refine wl_run rfl (.pointer (some ⟨g0, k, none⟩)) (ex_ixSl0 (i := k) Tryz.underlying29 sizeRow rfl rfl rfl hk3) ?_)
    | ((with_reducible apply gT 26 25); refine wl_storeL rfl _ _ rfl g0 k (some ⟨g5, 0, none⟩) N N rfl rfl hbg5 (show k < 3 from hk3) ?_; have hus := (Upd.refl (fun b => b = g0) w5).setCell (p := ⟨g0, k, none⟩) rfl (.slice (some ⟨g5, 0, none⟩) N N); have hb6 := hbg5.set_ k (.slice (some ⟨g5, 0, none⟩) N N); have hx6 := hus.ext (hx.trans hx5) (fun y hy => by have := hg1; omega); have hb56 := hus.blk hb5 (by omega); generalize w5.setCell ⟨g0, k, none⟩ (.slice (some ⟨g5, 0, none⟩) N N) = w6 at *))
   obtain ⟨a0, a1, a2, hset, ea0, ea1, ea2⟩ := rowsK_set k N h0 h1 h2 g5 hk3
   rw [hset] at hb6
   go_roundw
   case rel =>
    refine ⟨k + 1, a0, a1, a2, by omega, by go_num, hb6, ?_, ?_, ?_, hx6⟩
    ·intro _
     rw [ea0]
     split
     ·exact ⟨hb56, by omega⟩
     ·obtain ⟨p1, p2⟩ := q0 (by omega)
      exact ⟨hus.blk (p1.ext hx5) (by omega), p2⟩
    ·intro _
     rw [ea0, ea1]
     rw [if_neg (show ¬ k = 0 by omega)]
     obtain ⟨p1, p2⟩ := q0 (by omega)
     split
     ·exact ⟨hb56, by have := p1.lt; omega⟩
     ·obtain ⟨p3, p4⟩ := q1 (by omega)
      exact ⟨hus.blk (p3.ext hx5) (by omega), p4⟩
    ·intro _
     rw [ea1, ea2]
     rw [if_neg (show ¬ k = 1 by omega)]
     obtain ⟨p1, p2⟩ := q1 (by omega)
     obtain ⟨p3, p4⟩ := q0 (by omega)
     rw [if_pos (show k = 2 by omega)]
     exact ⟨hb56, by have := p1.lt; omega⟩
   case measure => simp [intOf]; omega
  ·obtain rfl : k = 3 := by omega
   obtain ⟨hb0, hg0⟩ := q0 (by omega)
   obtain ⟨hb1, hg1'⟩ := q1 (by omega)
   obtain ⟨hb2, hg2'⟩ := q2 (by omega)
   have hbg' : Blk wr g0 22 #[.slice (some ⟨h0, 0, none⟩) N N, .slice (some ⟨h1, 0, none⟩) N N, .slice (some ⟨h2, 0, none⟩) N N] := hbg
   have T0 : ∀ s : Four → Int, turnRow s t la lb lc 0 = [] := fun s => by rw [turnRow]
   have hbr0 : Blk wr h0 3 (bv (preR N 0 (turnRow (·.1) t la lb lc 0))) := by rw [T0]; exact hb0
   have hbr1 : Blk wr h1 3 (bv (preR N 0 (turnRow (·.2.1) t la lb lc 0))) := by rw [T0]; exact hb1
   have hbr2 : Blk wr h2 3 (bv (preR N 0 (turnRow (·.2.2.1) t la lb lc 0))) := by rw [T0]; exact hb2
   clear q0 q1 q2 hbg hb0 hb1 hb2
   have hcl := HC0.out wr hx
   go_wp2_with (first
    | ((with_reducible apply gS 29); refine wl_run rfl (.pointer (some (pd.add (0 * 1)))) (ex_ixSl (i := 0) Tryz.underlying29 sizeRow rfl rfl rfl (by omega)) ?_)
    | ((with_reducible apply gS 30); refine wl_read rfl (.slice B0 N d0) (ex_loadL rfl rfl hcl) ?_))
   clear T0 hcl
   go_loopw [32] (fun iv wq => ∃ i : Nat, i ≤ N ∧ iv = .int .i64 (i : Int) ∧ Blk wq g0 22 #[.slice (some ⟨h0, 0, none⟩) N N, .slice (some ⟨h1, 0, none⟩) N N, .slice (some ⟨h2, 0, none⟩) N N] ∧ Blk wq h0 3 (bv (preR N i (turnRow (·.1) t la lb lc i))) ∧ Blk wq h1 3 (bv (preR N i (turnRow (·.2.1) t la lb lc i))) ∧ Blk wq h2 3 (bv (preR N i (turnRow (·.2.2.1) t la lb lc i))) ∧ Ext w wq) (fun i _ => N - (intOf i).toNat)
   case atStart => exact ⟨0, by omega, rfl, hbg', hbr0, hbr1, hbr2, hx⟩
   case round =>
    clear hbg' hbr0 hbr1 hbr2 hx
    obtain ⟨i, hi, rfl, hbg, hb0, hb1, hb2, hx⟩ := hrel
    by_cases hlt : i < N
    ·obtain ⟨q0, rfl, hqb0, hqc0⟩ := HRO0.out i hlt
     obtain ⟨q1, rfl, hqb1, hqc1⟩ := HRO1.out i hlt
     obtain ⟨q2, rfl, hqb2, hqc2⟩ := HRO2.out i hlt
     have HQ0 := hid_ (fun W (h : Ext w W) => (h.cell (p := q0.add i) (by rw [block_of_add]; exact hqb0)).trans hqc0)
     have HQ1 := hid_ (fun W (h : Ext w W) => (h.cell (p := q1.add i) (by rw [block_of_add]; exact hqb1)).trans hqc1)
     have HQ2 := hid_ (fun W (h : Ext w W) => (h.cell (p := q2.add i) (by rw [block_of_add]; exact hqb2)).trans hqc2)
     clear hqb0 hqc0 hqb1 hqc1 hqb2 hqc2
     generalize hpa : la.getD i 0 = pa at *
     generalize hpb' : lb.getD i 0 = pb at *
     generalize hpc : lc.getD i 0 = pc at *
     have HTN : Hid (∀ s : Four → Int, turnRow s t la lb lc (i + 1) = turnRow s t la lb lc i ++ [s (t pa pb pc)]) := hid_ (fun s => by rw [turnRow, hpa, hpb', hpc])
     have HTL := hid_ (fun s : Four → Int => turnRow_len s t la lb lc i)
     have HFC := hid_ (fun W => HF.out pa pb pc W)
     clear hpa hpb' hpc
     obtain ⟨z0, z1, z2, z3⟩ : Four := t pa pb pc
     generalize ht : t pa pb pc = z at *
     obtain ⟨z0, z1, z2, z3⟩ := z
     dsimp only at HFC
     have HT0 := hid_ (HTN.out (·.1))
     have HT1 := hid_ (HTN.out (·.2.1))
     have HT2 := hid_ (HTN.out (·.2.2.1))
     have HL0 := hid_ (HTL.out (·.1))
     have HL1 := hid_ (HTL.out (·.2.1))
     have HL2 := hid_ (HTL.out (·.2.2.1))
     dsimp only at HT0 HT1 HT2
     clear HTN ht HTL
     generalize turnRow (·.1) t la lb lc i = X0 at *
     generalize turnRow (·.2.1) t la lb lc i = X1 at *
     generalize turnRow (·.2.2.1) t la lb lc i = X2 at *
     have hs0 : i < (bv (preR N i X0)).size := by rw [bv_size, preR_len N i X0 HL0.out (by omega)]; exact hlt
     have hs1 : i < (bv (preR N i X1)).size := by rw [bv_size, preR_len N i X1 HL1.out (by omega)]; exact hlt
     have hs2 : i < (bv (preR N i X2)).size := by rw [bv_size, preR_len N i X2 HL2.out (by omega)]; exact hlt
     go_wp2_with fail
     have hI : Ext w wr.drew ∧ Blk wr.drew g0 22 #[.slice (some ⟨h0, 0, none⟩) N N, .slice (some ⟨h1, 0, none⟩) N N, .slice (some ⟨h2, 0, none⟩) N N] := ⟨hx.drew, hbg.drew⟩
     refine wp_region_oi (fun W => Ext w W ∧ Blk W g0 22 #[.slice (some ⟨h0, 0, none⟩) N N, .slice (some ⟨h1, 0, none⟩) N N, .slice (some ⟨h2, 0, none⟩) N N]) (by kernel_rfl) ?_
     refine oi_run (k := 0) (by kernel_rfl) rfl (by rfl) (.slice (some ⟨g0, 0, none⟩) 3 3) (ex_move rfl rfl) hI ?_
     simp only [Act.put, sA, sB, sC]
     refine oi_run (k := 1) (by kernel_rfl) rfl (by rfl) (.pointer (some ⟨g0, 0, none⟩)) (ex_ixSl0 (i := 0) Tryz.underlying29 sizeRow rfl rfl rfl (by omega)) hI ?_
     simp only [Act.put, sA, sB, sC]
     refine oi_fix (k := 2) (by kernel_rfl) rfl (by rfl) (.slice (some ⟨h0, 0, none⟩) N N) (fun W hW => ex_loadL rfl rfl (by rw [hW.2.cell]; rfl)) hI ?_
     simp only [Act.put, sA, sB, sC]
     refine oi_run (k := 3) (by kernel_rfl) rfl (by rfl) (.int .i64 (i : Int)) (ex_move rfl rfl) hI ?_
     simp only [Act.put, sA, sB, sC]
     refine oi_run (k := 4) (by kernel_rfl) rfl (by rfl) (.slice (some ⟨g0, 0, none⟩) 3 3) (ex_move rfl rfl) hI ?_
     simp only [Act.put, sA, sB, sC]
     refine oi_run (k := 5) (by kernel_rfl) rfl (by rfl) (.pointer (some ⟨g0, 1, none⟩)) (ex_ixSl0 (i := 1) Tryz.underlying29 sizeRow rfl rfl rfl (by omega)) hI ?_
     simp only [Act.put, sA, sB, sC]
     refine oi_fix (k := 6) (by kernel_rfl) rfl (by rfl) (.slice (some ⟨h1, 0, none⟩) N N) (fun W hW => ex_loadL rfl rfl (by rw [hW.2.cell]; rfl)) hI ?_
     simp only [Act.put, sA, sB, sC]
     refine oi_run (k := 7) (by kernel_rfl) rfl (by rfl) (.int .i64 (i : Int)) (ex_move rfl rfl) hI ?_
     simp only [Act.put, sA, sB, sC]
     refine oi_run (k := 8) (by kernel_rfl) rfl (by rfl) (.slice (some ⟨g0, 0, none⟩) 3 3) (ex_move rfl rfl) hI ?_
     simp only [Act.put, sA, sB, sC]
     refine oi_run (k := 9) (by kernel_rfl) rfl (by rfl) (.pointer (some ⟨g0, 2, none⟩)) (ex_ixSl0 (i := 2) Tryz.underlying29 sizeRow rfl rfl rfl (by omega)) hI ?_
     simp only [Act.put, sA, sB, sC]
     refine oi_fix (k := 10) (by kernel_rfl) rfl (by rfl) (.slice (some ⟨h2, 0, none⟩) N N) (fun W hW => ex_loadL rfl rfl (by rw [hW.2.cell]; rfl)) hI ?_
     simp only [Act.put, sA, sB, sC]
     refine oi_run (k := 11) (by kernel_rfl) rfl (by rfl) (.int .i64 (i : Int)) (ex_move rfl rfl) hI ?_
     simp only [Act.put, sA, sB, sC]
     refine oi_run (k := 12) (by kernel_rfl) rfl (by rfl) (.func (.func f) #[] #[]) (ex_move rfl rfl) hI ?_
     simp only [Act.put, sA, sB, sC]
     refine oi_run (k := 13) (by kernel_rfl) rfl (by rfl) (.slice (some pd) 3 c) (ex_move rfl rfl) hI ?_
     simp only [Act.put, sA, sB, sC]
     refine oi_run (k := 14) (by kernel_rfl) rfl (by rfl) (.pointer (some (pd.add (0 * 1)))) (ex_ixSl (i := 0) Tryz.underlying29 sizeRow rfl rfl rfl (by omega)) hI ?_
     simp only [Act.put, sA, sB, sC]
     refine oi_fix (k := 15) (by kernel_rfl) rfl (by rfl) (.slice (some q0) N d0) (fun W hW => ex_loadL rfl rfl (HC0.out W hW.1)) hI ?_
     simp only [Act.put, sA, sB, sC]
     refine oi_run (k := 16) (by kernel_rfl) rfl (by rfl) (.int .i64 (i : Int)) (ex_move rfl rfl) hI ?_
     simp only [Act.put, sA, sB, sC]
     refine oi_run (k := 17) (by kernel_rfl) rfl (by rfl) (.pointer (some (q0.add (i * 1)))) (ex_ixSl Tryz.underlying22 sizeI rfl rfl rfl hlt) hI ?_
     simp only [Act.put, sA, sB, sC]
     refine oi_fix (k := 18) (by kernel_rfl) rfl (by rfl) (.int .i64 pa) (fun W hW => ex_loadI rfl rfl (by rw [Nat.mul_one]; exact HQ0.out W hW.1)) hI ?_
     simp only [Act.put, sA, sB, sC]
     refine oi_run (k := 19) (by kernel_rfl) rfl (by rfl) (.slice (some pd) 3 c) (ex_move rfl rfl) hI ?_
     simp only [Act.put, sA, sB, sC]
     refine oi_run (k := 20) (by kernel_rfl) rfl (by rfl) (.pointer (some (pd.add (1 * 1)))) (ex_ixSl (i := 1) Tryz.underlying29 sizeRow rfl rfl rfl (by omega)) hI ?_
     simp only [Act.put, sA, sB, sC]
     refine oi_fix (k := 21) (by kernel_rfl) rfl (by rfl) (.slice (some q1) N d1) (fun W hW => ex_loadL rfl rfl (HC1.out W hW.1)) hI ?_
     simp only [Act.put, sA, sB, sC]
     refine oi_run (k := 22) (by kernel_rfl) rfl (by rfl) (.int .i64 (i : Int)) (ex_move rfl rfl) hI ?_
     simp only [Act.put, sA, sB, sC]
     refine oi_run (k := 23) (by kernel_rfl) rfl (by rfl) (.pointer (some (q1.add (i * 1)))) (ex_ixSl Tryz.underlying22 sizeI rfl rfl rfl hlt) hI ?_
     simp only [Act.put, sA, sB, sC]
     refine oi_fix (k := 24) (by kernel_rfl) rfl (by rfl) (.int .i64 pb) (fun W hW => ex_loadI rfl rfl (by rw [Nat.mul_one]; exact HQ1.out W hW.1)) hI ?_
     simp only [Act.put, sA, sB, sC]
     refine oi_run (k := 25) (by kernel_rfl) rfl (by rfl) (.slice (some pd) 3 c) (ex_move rfl rfl) hI ?_
     simp only [Act.put, sA, sB, sC]
     refine oi_run (k := 26) (by kernel_rfl) rfl (by rfl) (.pointer (some (pd.add (2 * 1)))) (ex_ixSl (i := 2) Tryz.underlying29 sizeRow rfl rfl rfl (by omega)) hI ?_
     simp only [Act.put, sA, sB, sC]
     refine oi_fix (k := 27) (by kernel_rfl) rfl (by rfl) (.slice (some q2) N d2) (fun W hW => ex_loadL rfl rfl (HC2.out W hW.1)) hI ?_
     simp only [Act.put, sA, sB, sC]
     refine oi_run (k := 28) (by kernel_rfl) rfl (by rfl) (.int .i64 (i : Int)) (ex_move rfl rfl) hI ?_
     simp only [Act.put, sA, sB, sC]
     refine oi_run (k := 29) (by kernel_rfl) rfl (by rfl) (.pointer (some (q2.add (i * 1)))) (ex_ixSl Tryz.underlying22 sizeI rfl rfl rfl hlt) hI ?_
     simp only [Act.put, sA, sB, sC]
     refine oi_fix (k := 30) (by kernel_rfl) rfl (by rfl) (.int .i64 pc) (fun W hW => ex_loadI rfl rfl (by rw [Nat.mul_one]; exact HQ2.out W hW.1)) hI ?_
     simp only [Act.put, sA, sB, sC]
     refine oi_loud (k := 31) (by kernel_rfl) rfl ?_
     refine wl_enter (by rfl) (run_callv _ _ _ rfl rfl hgo #[.int .i64 pa, .int .i64 pb, .int .i64 pc] (by simp [Act.eval])) ?_
     refine (HFC.out _).mono ?_
     rintro e9 w9 ⟨rfl, hx9⟩
     have c0 := hb0.drew.ext hx9
     have c1 := hb1.drew.ext hx9
     have c2 := hb2.drew.ext hx9
     have hI : Ext w w9 ∧ Blk w9 g0 22 #[.slice (some ⟨h0, 0, none⟩) N N, .slice (some ⟨h1, 0, none⟩) N N, .slice (some ⟨h2, 0, none⟩) N N] := ⟨hI.1.trans hx9, hI.2.ext hx9⟩
     refine ⟨_, rfl, oi_end ⟨hI, ?_⟩⟩
     clear hx hbg hb0 hb1 hb2 hx9
     simp only [Act.put, sA, sB, sC]
     refine oi_run (k := 32) (by kernel_rfl) rfl (by rfl) (.tuple #[.int .i64 z0, .int .i64 z1, .int .i64 z2, .int .i64 z3]) (ex_move rfl rfl) hI ?_
     simp only [Act.put, sA, sB, sC]
     refine oi_run (k := 33) (by kernel_rfl) rfl (by rfl) (.int .i64 z0) (ex_extract rfl rfl rfl) hI ?_
     simp only [Act.put, sA, sB, sC]
     refine oi_run (k := 34) (by kernel_rfl) rfl (by rfl) (.int .i64 z1) (ex_extract rfl rfl rfl) hI ?_
     simp only [Act.put, sA, sB, sC]
     refine oi_run (k := 35) (by kernel_rfl) rfl (by rfl) (.int .i64 z2) (ex_extract rfl rfl rfl) hI ?_
     simp only [Act.put, sA, sB, sC]
     refine oi_run (k := 36) (by kernel_rfl) rfl (by rfl) (.int .i64 z3) (ex_extract rfl rfl rfl) hI ?_
     simp only [Act.put, sA, sB, sC]
     refine oi_run (k := 37) (by kernel_rfl) rfl (by rfl) (.pointer (some ⟨h0, i, none⟩)) (ex_ixSl0 (i := i) Tryz.underlying22 sizeI rfl rfl rfl hlt) hI ?_
     simp only [Act.put, sA, sB, sC]
     refine oi_loud (k := 38) (by kernel_rfl) rfl ?_
     refine wl_storeI rfl _ _ rfl h0 i z0 rfl rfl c0 hs0 ?_
     have u0 := (Upd.refl (fun b => b = h0) w9).setCell (p := ⟨h0, i, none⟩) rfl (.int .i64 z0)
     have n0 := c0.set_ i (.int .i64 z0)
     rw [bv_set, preR_set N i X0 z0 HL0.out hlt] at n0
     have m01 := u0.blk c1 (by omega)
     have m02 := u0.blk c2 (by omega)
     have hI : Ext w (World.setCell w9 ⟨h0, i, none⟩ (.int .i64 z0)) ∧ Blk (World.setCell w9 ⟨h0, i, none⟩ (.int .i64 z0)) g0 22 #[.slice (some ⟨h0, 0, none⟩) N N, .slice (some ⟨h1, 0, none⟩) N N, .slice (some ⟨h2, 0, none⟩) N N] := ⟨u0.ext hI.1 (fun y hy => by omega), u0.blk hI.2 (by omega)⟩
     generalize World.setCell w9 ⟨h0, i, none⟩ (.int .i64 z0) = v0 at *
     refine oi_end ⟨hI, ?_⟩
     simp only [Act.put, sA, sB, sC]
     refine oi_run (k := 39) (by kernel_rfl) rfl (by rfl) (.pointer (some ⟨h1, i, none⟩)) (ex_ixSl0 (i := i) Tryz.underlying22 sizeI rfl rfl rfl hlt) hI ?_
     simp only [Act.put, sA, sB, sC]
     refine oi_loud (k := 40) (by kernel_rfl) rfl ?_
     refine wl_storeI rfl _ _ rfl h1 i z1 rfl rfl m01 hs1 ?_
     have u1 := (Upd.refl (fun b => b = h1) v0).setCell (p := ⟨h1, i, none⟩) rfl (.int .i64 z1)
     have n1 := m01.set_ i (.int .i64 z1)
     rw [bv_set, preR_set N i X1 z1 HL1.out hlt] at n1
     have m10 := u1.blk n0 (by omega)
     have m12 := u1.blk m02 (by omega)
     have hI : Ext w (World.setCell v0 ⟨h1, i, none⟩ (.int .i64 z1)) ∧ Blk (World.setCell v0 ⟨h1, i, none⟩ (.int .i64 z1)) g0 22 #[.slice (some ⟨h0, 0, none⟩) N N, .slice (some ⟨h1, 0, none⟩) N N, .slice (some ⟨h2, 0, none⟩) N N] := ⟨u1.ext hI.1 (fun y hy => by omega), u1.blk hI.2 (by omega)⟩
     generalize World.setCell v0 ⟨h1, i, none⟩ (.int .i64 z1) = v1 at *
     refine oi_end ⟨hI, ?_⟩
     simp only [Act.put, sA, sB, sC]
     refine oi_run (k := 41) (by kernel_rfl) rfl (by rfl) (.pointer (some ⟨h2, i, none⟩)) (ex_ixSl0 (i := i) Tryz.underlying22 sizeI rfl rfl rfl hlt) hI ?_
     simp only [Act.put, sA, sB, sC]
     refine oi_loud (k := 42) (by kernel_rfl) rfl ?_
     refine wl_storeI rfl _ _ rfl h2 i z2 rfl rfl m12 hs2 ?_
     have u2 := (Upd.refl (fun b => b = h2) v1).setCell (p := ⟨h2, i, none⟩) rfl (.int .i64 z2)
     have n2 := m12.set_ i (.int .i64 z2)
     rw [bv_set, preR_set N i X2 z2 HL2.out hlt] at n2
     have m20 := u2.blk m10 (by omega)
     have m21 := u2.blk n1 (by omega)
     have hI : Ext w (World.setCell v1 ⟨h2, i, none⟩ (.int .i64 z2)) ∧ Blk (World.setCell v1 ⟨h2, i, none⟩ (.int .i64 z2)) g0 22 #[.slice (some ⟨h0, 0, none⟩) N N, .slice (some ⟨h1, 0, none⟩) N N, .slice (some ⟨h2, 0, none⟩) N N] := ⟨u2.ext hI.1 (fun y hy => by omega), u2.blk hI.2 (by omega)⟩
     generalize World.setCell v1 ⟨h2, i, none⟩ (.int .i64 z2) = v2 at *
     refine oi_end ⟨hI, ?_⟩
     simp only [Act.put, sA, sB, sC]
     refine oi_done (by kernel_rfl) ?_
     go_wp2_with fail
     go_roundw
     case rel => exact ⟨i + 1, by omega, by go_num, hI.2, by rw [HT0.out]; exact m20, by rw [HT1.out]; exact m21, by rw [HT2.out]; exact n2, hI.1⟩
     case measure => simp [intOf]; omega
    ·have hiN : i = N := by omega
     subst hiN
     go_wp2_with fail
     go_ret
     have e : ∀ X : List Int, preR i i X = X := fun X => by unfold preR; simp
     rw [e] at hb0 hb1 hb2
     refine ⟨_, 3, 3, rfl, rows_mkF hbg (by omega) ⟨_, _, by rw [turnRow_len], ?_, fun ad e => by cases e; show _ ≤ h0; omega⟩ ⟨_, _, by rw [turnRow_len], ?_, fun ad e => by cases e; show _ ≤ h1; omega⟩ ⟨_, _, by rw [turnRow_len], ?_, fun ad e => by cases e; show _ ≤ h2; omega⟩, hx⟩
     ·have := hb0.sl (size := 1) (n := i) (c := i) (by rw [bv_size, turnRow_len]; omega) (Nat.le_refl _) (by omega)
      rw [turnRow_len]; exact this
     ·have := hb1.sl (size := 1) (n := i) (c := i) (by rw [bv_size, turnRow_len]; omega) (Nat.le_refl _) (by omega)
      rw [turnRow_len]; exact this
     ·have := hb2.sl (size := 1) (n := i) (c := i) (by rw [bv_size, turnRow_len]; omega) (Nat.le_refl _) (by omega)
      rw [turnRow_len]; exact this
end
end Go.Proofs.YtkggcjdlpendfaaGreatDoor
