/- Contracts for the law BestMakes, part 10: what the functions that it reaches answer, for all arguments that the theorems name. -/
import Derived.Test.YtideigpabbhhkaaMBestMakes8
import Derived.Test.YtideigpabbhhkaaMBestMakes9
import Derived.Test.YtideigpabbhhkaaMBestMakes1
import Derived.Test.YtideigpabbhhkaaMBestMakes4
import Derived.Lib.BufferMore
import Derived.Test.YtideigpabbhhkaaMBestMakes3
import Derived.Lib.AppendZeros
import Derived.Deep.Cut
import Derived.Deep.MidRow
import Derived.Test.YtideigpabbhhkaaMBestMakes2
import Derived.Deep.QuietTactic
import Derived.BigQuiet
/- Rows of packs: what they hold; sorted; cloned; one more appended. -/
namespace Go.Proofs.Ytideigpabbhhkaa
set_option linter.unusedVariables false
set_option linter.unusedSimpArgs false
open Go.RowKit
open SM
/-- a package and where its symbols lie -/
abbrev FPk := BM.Pack × Value
def toPk (q : FPk) : Pk := ((q.1.1 : Int), q.2)
/-- the ints xs, in a block of ints -/
def IntsAt (w : World) (v : Value) (xs : List Int) : Prop := SL w 1 v xs.length (ints xs) ∧ ∀ b, v.ownBlock = some b → ∃ cs, Blk w b 3 cs
theorem pack_ne : 3 ≠ 59 := by decide
theorem blk_types {w : World} {b : Nat} {T U : TypeId} {cs ds : Array Value} (h : Blk w b T cs) (k : Blk w b U ds) : T = U := by
  unfold Blk at h k
  rw [h] at k
  injection k with k
  injection k
theorem not_int {w : World} {b : Nat} {cs ds : Array Value} (h : Blk w b 59 ds) : ¬ Blk w b 3 cs := fun k => pack_ne (blk_types k h)
theorem IntsAt.ext {w w' : World} {v : Value} {xs : List Int} (h : IntsAt w v xs) (hx : Ext w w') : IntsAt w' v xs :=
  ⟨h.1.ext hx, fun b hb => by obtain ⟨cs, k⟩ := h.2 b hb; exact ⟨cs, k.ext hx⟩⟩
theorem IntsAt.upd {S : Nat → Prop} {w w' : World} {v : Value} {xs : List Int} (h : IntsAt w v xs) (hu : Upd S w w') (hS : ∀ b cs, S b → ¬ Blk w b 3 cs) : IntsAt w' v xs := by
  have hne : ∀ b cs, Blk w b 3 cs → ¬ S b := fun b cs k hs => hS b cs hs k
  obtain ⟨h1, h2⟩ := h
  have h1' := h1
  obtain ⟨A, c, rfl, -⟩ := h1'
  refine ⟨h1.upd hu fun ad e => ?_, fun b hb => ?_⟩
  · subst e
    obtain ⟨cs, k⟩ := h2 ad.block rfl
    exact hne _ _ k
  · obtain ⟨cs, k⟩ := h2 b hb
    exact ⟨cs, hu.blk k (hne b cs k)⟩
theorem IntsAt.own {w : World} {B n : Nat} {v : Value} {xs : List Int} (h : w.ownsRow B 3 1 v n (ints xs)) (hn : xs.length = n) : IntsAt w v xs := by
  obtain ⟨A, c, rfl, h1, -⟩ := own_form h
  exact ⟨by rw [hn]; exact h1, own_typed h⟩
theorem IntsAt.lit {w : World} {g : Nat} {x : Int} (h : Blk w g 3 #[.int .i64 x]) : IntsAt w (.slice (some ⟨g, 0, none⟩) 1 1) [x] := by
  refine ⟨⟨_, _, rfl, by simp, by omega, rfl, fun _ => ⟨_, rfl, h.lt, fun j u hu => ?_⟩⟩, fun b hb => ?_⟩
  · rw [addr_add, Nat.zero_add, h.cell, ← hu]
    simp [ints]
  · have e : b = g := by simpa [Value.ownBlock] using hb.symm
    subst e
    exact ⟨_, h⟩
def AllAt (w : World) (Q : List FPk) : Prop := ∀ q ∈ Q, IntsAt w q.2 q.1.2
theorem AllAt.ext {w w' : World} {Q : List FPk} (h : AllAt w Q) (hx : Ext w w') : AllAt w' Q := fun q hq => (h q hq).ext hx
theorem AllAt.upd {S : Nat → Prop} {w w' : World} {Q : List FPk} (h : AllAt w Q) (hu : Upd S w w') (hS : ∀ b cs, S b → ¬ Blk w b 3 cs) : AllAt w' Q := fun q hq => (h q hq).upd hu hS
theorem AllAt.ones {w : World} {Q : List FPk} (h : AllAt w Q) : OnesP (Q.map toPk) := by
  intro p hp
  obtain ⟨q, hq, rfl⟩ := List.mem_map.1 hp
  obtain ⟨⟨A, c, e, -⟩, -⟩ := h q hq
  show q.2.oneCell' = true
  rw [e]
  rfl
theorem cellsP_ones {L : List Pk} (h : OnesP L) : ∀ u ∈ cellsP L, u.oneCell' = true := by
  intro u hu
  obtain ⟨p, hp, hu⟩ := List.mem_flatMap.1 hu
  simp at hu
  rcases hu with rfl | rfl
  · rfl
  · exact h p hp
/-- a row of the call's own, of these packages -/
structure OwnP (w : World) (B : Nat) (C : Option Addr) (m k : Nat) (Q : List FPk) : Prop where
  len : Q.length = m
  own : w.ownsRow B 59 2 (.slice C m k) m (cellsP (Q.map toPk))
  all : AllAt w Q
theorem OwnP.nil (w : World) (B : Nat) : OwnP w B none 0 0 [] := ⟨rfl, own_nil _ _ _ _, fun _ h => by cases h⟩
theorem OwnP.ext {w w' : World} {B m k : Nat} {C : Option Addr} {Q : List FPk} (h : OwnP w B C m k Q) (hx : Ext w w') : OwnP w' B C m k Q := ⟨h.len, own_keep h.own hx, h.all.ext hx⟩
theorem OwnP.sl {w : World} {B m k : Nat} {C : Option Addr} {Q : List FPk} (h : OwnP w B C m k Q) : SL w 2 (.slice C m k) m (cellsP (Q.map toPk)) := (own_out h.own).1
theorem OwnP.typed {w : World} {B m k : Nat} {C : Option Addr} {Q : List FPk} (h : OwnP w B C m k Q) : ∀ b, (Value.slice C m k).ownBlock = some b → ∃ cs, Blk w b 59 cs := own_typed h.own
theorem OwnP.addr {w : World} {B m k : Nat} {C : Option Addr} {Q : List FPk} (h : OwnP w B C m k Q) (hm : 0 < m) : ∃ g, C = some ⟨g, 0, none⟩ ∧ B ≤ g := by
  rcases h.own.2 with ⟨-, h0⟩ | ⟨g, cap, cur, e, hb, -⟩
  · omega
  · injection e with e1 e2 e3
    exact ⟨g, e1, hb⟩
/-- as a block -/
theorem OwnP.ds {w : World} {B m k g : Nat} {Q : List FPk} (h : OwnP w B (some ⟨g, 0, none⟩) m k Q) : ∃ tl, DS w g (Q.map toPk) tl ∧ 2 * m + tl.length = k * 2 ∧ m ≤ k ∧ k ≤ maxLen ∧ B ≤ g := by
  obtain ⟨hl, own, -⟩ := h
  rcases own.2 with ⟨e, -⟩ | ⟨g', cap, cur, e, hb, hg, h1, h2, h3, h4⟩
  · injection e with e; cases e
  · injection e with e1 e2 e3
    injection e1 with e1
    injection e1 with e1
    subst e1 e3
    refine ⟨cur.toList.drop (m * 2), ?_, ?_, h1, h2, hb⟩
    · unfold DS Blk
      rw [← h4, List.take_append_drop]
      exact hg
    · rw [List.length_drop, Array.length_toList]
      omega
theorem OwnP.of_ds {w : World} {B m k g : Nat} {Q : List FPk} {tl : List Value} (hl : Q.length = m) (hD : DS w g (Q.map toPk) tl) (h1 : 2 * m + tl.length = k * 2) (h2 : m ≤ k) (h3 : k ≤ maxLen) (hB : B ≤ g) (ha : AllAt w Q) : OwnP w B (some ⟨g, 0, none⟩) m k Q := by
  have hc : (cellsP (Q.map toPk)).length = m * 2 := by rw [cellsP_len, List.length_map, hl]; omega
  exact ⟨hl, ⟨hc, .inr ⟨g, k, _, rfl, hB, hD, h2, h3, by simp; omega, by rw [← hc]; simp⟩⟩, ha⟩
/-- a store elsewhere -/
theorem OwnP.upd {S : Nat → Prop} {w w' : World} {B m k : Nat} {C : Option Addr} {Q : List FPk} (h : OwnP w B C m k Q) (hu : Upd S w w') (hS : ∀ b cs, S b → ¬ Blk w b 3 cs) (hC : ∀ ad, C = some ad → ¬ S ad.block) : OwnP w' B C m k Q :=
  ⟨h.len, own_upd2 h.own hu (fun x hx => by
    cases C with
    | none => simp [Value.ownBlock] at hx
    | some ad =>
      have e : ad.block = x := by simpa [Value.ownBlock] using hx
      rw [← e]
      exact hC ad rfl), h.all.upd hu hS⟩
theorem elt_pk : Elt Try.prog 60 59 2 32 := ⟨Try.underlying60, by kernel_rfl, by omega⟩
/-- the law of one append: a list of packages behind a row -/
theorem OwnP.app {w w' : World} {B m k j : Nat} {C A : Option Addr} {k' : Nat} {Q R : List FPk} (h : OwnP w B C m k Q) (hR : AllAt w R) (hj : R.length = j) (ho : w'.ownsRow B 59 2 (.slice A (m + j) k') (m + j) (cellsP (Q.map toPk) ++ cellsP (R.map toPk))) (hg : w.grownBy w' (Value.slice C m k).ownBlock) : OwnP w' B A (m + j) k' (Q ++ R) := by
  have hu := upd_grown hg
  have ht : ∀ b cs, (Value.slice C m k).ownBlock = some b → ¬ Blk w b 3 cs := fun b cs hb => by obtain ⟨ds, k⟩ := h.typed b hb; exact not_int k
  refine ⟨by rw [List.length_append, h.len, hj], by rw [List.map_append, cellsP_app]; exact ho, fun q hq => ?_⟩
  rcases List.mem_append.1 hq with hq | hq
  · exact (h.all q hq).upd hu (fun b cs hb => ht b cs hb)
  · exact (hR q hq).upd hu (fun b cs hb => ht b cs hb)
theorem pairwise_of_sorted {M : List Pk} {n : Nat} (hn : M.length = n) (h : Sorted pk0 pw M 0 n) : (M.map Prod.fst).Pairwise (· ≤ ·) := by
  rw [List.pairwise_map, List.pairwise_iff_getElem]
  intro i j hi hj hij
  have := h i j (Nat.zero_le _) hij (by omega)
  rwa [wA_get M i hi, wA_get M j hj] at this
theorem pairwise_nat {Q : List FPk} (h : ((Q.map toPk).map Prod.fst).Pairwise (· ≤ ·)) : (Q.map (·.1.1)).Pairwise (· ≤ ·) := by
  rw [List.map_map, List.pairwise_map] at h
  rw [List.pairwise_map]
  exact h.imp (fun {a b} hab => by simpa [toPk] using hab)
theorem sortP_any {B m k g : Nat} {Q : List FPk} {w : World} (h : OwnP w B (some ⟨g, 0, none⟩) m k Q) (hm : m ≤ 1000000) :
    Calls Try.prog 27 #[.slice (some ⟨g, 0, none⟩) m k, .func (.func 28) #[] #[]] w fun e w' => e = .returned (.tuple #[]) ∧ ∃ Q', OwnP w' B (some ⟨g, 0, none⟩) m k Q' ∧ Q'.Perm Q ∧ (Q'.map (·.1.1)).Pairwise (· ≤ ·) ∧ Upd (fun x => x = g) w w' := by
  obtain ⟨tl, hD, h1, h2, h3, hB⟩ := h.ds
  refine (sort_any g (Q.map toPk) tl m k w (by rw [List.length_map, h.len]) hm h.all.ones hD).mono ?_
  rintro e w' ⟨rfl, M, hD', hseg, hsor, hu⟩
  obtain ⟨Q', hp, e⟩ := BM.perm_lift toPk hseg.perm Q rfl
  subst e
  have hl' : Q'.length = m := hp.length_eq.trans h.len
  refine ⟨rfl, Q', OwnP.of_ds hl' hD' h1 h2 h3 hB ?_, hp, pairwise_nat (pairwise_of_sorted (by rw [List.length_map, hl']) hsor), hu⟩
  have ha := h.all.upd hu (fun b cs hb => by subst hb; exact not_int hD)
  exact fun q hq => ha q (hp.subset hq)
set_option maxRecDepth 20000 in
set_option maxHeartbeats 2000000 in
theorem cloneP_any {B m k : Nat} {C : Option Addr} {Q : List FPk} {w : World} (h : OwnP w B C m k Q) (h0 : 0 < m) (hm : m ≤ 1000000) :
    Calls Try.prog 29 #[.slice C m k] w fun e w' => ∃ g k', e = .returned (.slice (some ⟨g, 0, none⟩) m k') ∧ OwnP w' w.heap.size (some ⟨g, 0, none⟩) m k' Q ∧ Ext w w' := by
  have HS := hid_ (fun W (hx : Ext w W) => h.sl.ext hx)
  have HO := hid_ (cellsP_ones h.all.ones)
  obtain ⟨g0, rfl, -⟩ := h.addr h0
  have HQ : Hid (∀ w1 w' A k', Ext w w1 → OwnP w1 w.heap.size (some ⟨w.heap.size, 0, none⟩) 0 0 [] → w'.ownsRow w.heap.size 59 2 (.slice A (0 + m) k') (0 + m) ([] ++ cellsP (Q.map toPk)) → w1.grownBy w' (Value.slice (some ⟨w.heap.size, 0, none⟩) 0 0).ownBlock → ∃ g, A = some ⟨g, 0, none⟩ ∧ OwnP w' w.heap.size (some ⟨g, 0, none⟩) m k' Q) := hid_ (fun w1 w' A k' hx ho h1 h2 => by
    have hq := ho.app (h.all.ext hx) h.len h1 h2
    rw [Nat.zero_add, List.nil_append] at hq
    obtain ⟨g, rfl, -⟩ := hq.addr h0
    exact ⟨g, rfl, hq⟩)
  have hE : (w.alloc (.cells #[] 59)).ownsRow w.heap.size 59 2 (.slice (some ⟨w.heap.size, 0, none⟩) 0 0) 0 [] := ⟨rfl, .inr ⟨_, 0, #[], rfl, Nat.le_refl _, heap_alloc_new w _, Nat.le_refl _, by unfold maxLen; omega, rfl, rfl⟩⟩
  have hnil : ∀ W, (binOp .eql 60 (.slice (some ⟨g0, 0, none⟩) m k) (.slice none 0 0)).run Try.prog W = .ok (.bool false) W := fun W => Lib.run_eql_slice_some_nil W _ _ _ Try.underlying60
  generalize cellsP (Q.map toPk) = cs at *
  go_enter Try.func29, Try.ntmps29
  go_wp2_with (first
    | ((with_reducible show wpList _ _ _ (⟨some 7, _, _, _, _, _⟩ :: _) _ _); refine wpList_append_slf elt_pk rfl _ _ rfl w.heap.size _ _ _ rfl hE _ m cs rfl (HS.out _ ((Ext.refl w).alloc _)) HO.out (by omega) (by omega) (by simp) ?_; intro A5 k5 w5 ho5 hg5 hr5))
  obtain ⟨g, rfl, hq⟩ := HQ.out _ _ _ _ ((Ext.refl w).alloc _) ⟨rfl, hE, fun _ h => by cases h⟩ ho5 hg5
  go_ret
  exact ⟨g, k5, rfl, hq, (upd_grown hg5).ext ((Ext.refl w).alloc _) (fun x h => by have h : some w.heap.size = some x := h; injection h with h; omega)⟩
end Go.Proofs.Ytideigpabbhhkaa
/- best.Make in plain words: the singles, the rows, the table. -/
namespace Go.Proofs.Ytideigpabbhhkaa.BM
set_option linter.unusedVariables false
set_option linter.unusedSimpArgs false
/-- the singles: nobody's word, then each symbol that comes -/
def singN (cs : List Int) : Nat → List Pack
  | 0 => [(0, [-1])]
  | i + 1 => singN cs i ++ (if 0 < cs.getD i 0 then [((cs.getD i 0).toNat, [(i : Int)])] else [])
theorem singN_len (cs : List Int) : ∀ i, 1 ≤ (singN cs i).length ∧ (singN cs i).length ≤ i + 1
  | 0 => by simp [singN]
  | i + 1 => by
    have ih := singN_len cs i
    rw [singN, List.length_append]
    split <;> simp <;> omega
theorem singN_mem (cs : List Int) (h : ∀ z ∈ cs, z ≤ 9999) : ∀ i, ∀ p ∈ singN cs i, p.2.length = 1 ∧ p.1 ≤ 9999
  | 0, p, hp => by simp [singN] at hp; subst hp; simp
  | i + 1, p, hp => by
    rw [singN, List.mem_append] at hp
    rcases hp with hp | hp
    · exact singN_mem cs h i p hp
    · split at hp
      · have e : p = ((cs.getD i 0).toNat, [(i : Int)]) := by simpa using hp
        subst e
        refine ⟨rfl, ?_⟩
        rename_i hpos
        rw [List.getD_eq_getElem?_getD] at hpos ⊢
        cases hq : cs[i]? with
        | none => rw [hq] at hpos; simp at hpos
        | some z => have := h z (List.mem_of_getElem? hq); simp; omega
      · cases hp
/-- rows that are reached: pairs and singles, sorted by weight -/
inductive Reach (S : List Pack) : Nat → List Pack → Prop
  | zero : Reach S 0 S
  | step {f : Nat} {L L' : List Pack} : Reach S f L → L'.Perm (pairP L ++ S) → (L'.map (·.1)).Pairwise (· ≤ ·) → Reach S (f + 1) L'
def lenF (n : Nat) : Nat → Nat
  | 0 => n
  | f + 1 => lenF n f / 2 + n
theorem lenF_bd (n : Nat) : ∀ f, n ≤ lenF n f ∧ lenF n f ≤ 2 * n
  | 0 => by unfold lenF; omega
  | f + 1 => by have := lenF_bd n f; unfold lenF; omega
theorem lenF_15 : ∀ n, n ≤ 257 → 2 * n - 2 ≤ lenF n 15 := by
  have h : ∀ n : Fin 258, 2 * n.val - 2 ≤ lenF n.val 15 := by decide +kernel
  exact fun n hn => h ⟨n, by omega⟩
theorem pairP_len (L : List Pack) : (pairP L).length = L.length / 2 := by
  have := congrArg List.length (pairP_weights L)
  rw [List.length_map, pairs_len, List.length_map] at this
  exact this
theorem Reach.len {S : List Pack} : ∀ {f L}, Reach S f L → L.length = lenF S.length f
  | _, _, .zero => rfl
  | _, _, .step h hp _ => by rw [hp.length_eq, List.length_append, pairP_len, h.len]; rfl
theorem pairP_mem : ∀ (L : List Pack) (p : Pack), p ∈ pairP L → ∃ x ∈ L, ∃ y ∈ L, p = (x.1 + y.1, x.2 ++ y.2)
  | [], p, h => by simp [pairP] at h
  | [_], p, h => by simp [pairP] at h
  | x :: y :: r, p, h => by
    rw [pairP, List.mem_cons] at h
    rcases h with h | h
    · exact ⟨x, by simp, y, by simp, h⟩
    · obtain ⟨a, ha, b, hb, e⟩ := pairP_mem r p h
      exact ⟨a, by simp [ha], b, by simp [hb], e⟩
theorem Reach.bound {S : List Pack} (hS : ∀ p ∈ S, p.2.length ≤ 1 ∧ p.1 ≤ 9999) : ∀ {f L}, Reach S f L → ∀ p ∈ L, p.2.length ≤ 2 ^ f ∧ p.1 ≤ 9999 * 2 ^ f
  | _, _, .zero, p, hp => by have := hS p hp; simpa using this
  | f + 1, _, .step h hp _, p, hm => by
    have hpos : 0 < 2 ^ f := Nat.two_pow_pos f
    have h1 := hp.subset hm
    rw [Nat.pow_succ]
    rcases List.mem_append.1 h1 with h1 | h1
    · obtain ⟨x, hx, y, hy, e⟩ := pairP_mem _ _ h1
      have a := h.bound hS x hx
      have b := h.bound hS y hy
      subst e
      simp only [List.length_append]
      omega
    · have := hS p h1
      omega
def nextP (S L : List Pack) : List Pack := (pairP L ++ S).mergeSort (fun a b => decide (a.1 ≤ b.1))
theorem nextP_perm (S L : List Pack) : (nextP S L).Perm (pairP L ++ S) := List.mergeSort_perm _ _
theorem nextP_sorted (S L : List Pack) : ((nextP S L).map (·.1)).Pairwise (· ≤ ·) := by
  rw [List.pairwise_map]
  refine (List.pairwise_mergeSort (le := fun a b : Pack => decide (a.1 ≤ b.1)) (fun a b c h1 h2 => by simp at h1 h2 ⊢; omega) (fun a b => by simp; omega) _).imp ?_
  intro a b h
  simpa using h
def iterP (S L : List Pack) : Nat → List Pack
  | 0 => L
  | g + 1 => nextP S (iterP S L g)
theorem Reach.rows {S : List Pack} (hs : (S.map (·.1)).Pairwise (· ≤ ·)) : ∀ {f L}, Reach S f L → ∃ P, PRows S P ∧ (∀ g, ((P g).map (·.1)).Pairwise (· ≤ ·)) ∧ P f = L
  | _, _, .zero => ⟨iterP S S, ⟨rfl, fun g => nextP_perm S _⟩, fun g => (by cases g with | zero => exact hs | succ g => exact nextP_sorted S _), rfl⟩
  | f + 1, L', .step h hp hso => by
    obtain ⟨P, h1, h2, h3⟩ := h.rows hs
    refine ⟨fun g => if g ≤ f then P g else iterP S L' (g - (f + 1)), ⟨?_, fun g => ?_⟩, fun g => ?_, ?_⟩
    · show (if 0 ≤ f then P 0 else _) = S
      rw [if_pos (Nat.zero_le _)]; exact h1.zero
    · show (if g + 1 ≤ f then P (g + 1) else iterP S L' (g + 1 - (f + 1))).Perm (pairP (if g ≤ f then P g else iterP S L' (g - (f + 1))) ++ S)
      by_cases hg : g + 1 ≤ f
      · rw [if_pos hg, if_pos (by omega)]; exact h1.next g
      · rw [if_neg hg]
        by_cases hg2 : g ≤ f
        · obtain rfl : g = f := by omega
          rw [if_pos (Nat.le_refl _), h3, show g + 1 - (g + 1) = 0 by omega]
          exact hp
        · rw [if_neg hg2, show g + 1 - (f + 1) = (g - (f + 1)) + 1 by omega]
          exact nextP_perm S _
    · show ((if g ≤ f then P g else iterP S L' (g - (f + 1))).map (·.1)).Pairwise (· ≤ ·)
      split
      · exact h2 g
      · cases g - (f + 1) with
        | zero => exact hso
        | succ q => exact nextP_sorted S _
    · show (if f + 1 ≤ f then _ else iterP S L' (f + 1 - (f + 1))) = L'
      rw [if_neg (by omega), Nat.sub_self]
      rfl
theorem pairP_get : ∀ (L : List Pack) (j : Nat) (h : 2 * j + 1 < L.length), (pairP L)[j]? = some ((L[2 * j]'(by omega)).1 + L[2 * j + 1].1, (L[2 * j]'(by omega)).2 ++ L[2 * j + 1].2)
  | [], j, h => by simp at h
  | [_], j, h => by simp at h
  | x :: y :: r, 0, h => by simp [pairP]
  | x :: y :: r, j + 1, h => by
    have := pairP_get r j (by simp at h; omega)
    rw [pairP, List.getElem?_cons_succ, this]
    simp [show 2 * (j + 1) = 2 * j + 1 + 1 by omega]
theorem pairP_take {L : List Pack} {j : Nat} (h : 2 * j + 1 < L.length) : (pairP L).take (j + 1) = (pairP L).take j ++ [((L[2 * j]'(by omega)).1 + L[2 * j + 1].1, (L[2 * j]'(by omega)).2 ++ L[2 * j + 1].2)] := by
  have hg := pairP_get L j h
  obtain ⟨hj, e⟩ := List.getElem?_eq_some_iff.1 hg
  rw [List.take_succ_eq_append_getElem hj, e]
/-- the symbols below i that take k + 1 -/
def filt (f : Int → Nat) (k i : Nat) : List Int := ((List.range i).map Int.ofNat).filter fun s => decide (f s = k + 1)
theorem filt_succ (f : Int → Nat) (k i : Nat) : filt f k (i + 1) = filt f k i ++ (if f (i : Int) = k + 1 then [(i : Int)] else []) := by
  unfold filt
  rw [List.range_succ, List.map_append, List.filter_append]
  congr 1
  by_cases h : f (i : Int) = k + 1
  · simp [h]
  · simp [h]
theorem filt_len (f : Int → Nat) (k i : Nat) : (filt f k i).length ≤ i := by
  unfold filt
  exact Nat.le_trans (List.length_filter_le _ _) (by simp)
def csN (f : Int → Nat) (n k i : Nat) : List Int := (List.range 16).map fun j => if j < k then ((filt f j n).length : Int) else if j = k then ((filt f k i).length : Int) else 0
def xsN (f : Int → Nat) (n k i : Nat) : List Int := (List.range k).flatMap (fun j => filt f j n) ++ filt f k i
theorem csN_len (f : Int → Nat) (n k i : Nat) : (csN f n k i).length = 16 := by simp [csN]
theorem csN_zero (f : Int → Nat) (n : Nat) : csN f n 0 0 = List.replicate 16 0 := by
  rw [List.eq_replicate_iff]
  refine ⟨csN_len f n 0 0, fun b hb => ?_⟩
  obtain ⟨j, -, rfl⟩ := List.mem_map.1 hb
  simp [filt]
theorem csN_next (f : Int → Nat) (n k : Nat) : csN f n k n = csN f n (k + 1) 0 := by
  unfold csN
  refine List.map_congr_left fun j _ => ?_
  by_cases h1 : j < k
  · rw [if_pos h1, if_pos (by omega)]
  · rw [if_neg h1]
    by_cases h2 : j = k
    · rw [if_pos h2, if_pos (by omega), h2]
    · rw [if_neg h2, if_neg (by omega)]
      split
      · simp [filt]
      · rfl
theorem csN_get (f : Int → Nat) (n k i j : Nat) (hj : j < (csN f n k i).length) : (csN f n k i)[j] = if j < k then ((filt f j n).length : Int) else if j = k then ((filt f k i).length : Int) else 0 := by
  simp [csN]
theorem csN_at (f : Int → Nat) (n k i : Nat) (hk : k < 16) : (csN f n k i)[k]'(by rw [csN_len]; exact hk) = ((filt f k i).length : Int) := by
  simp [csN]
theorem csN_keep (f : Int → Nat) (n k i : Nat) (h : f (i : Int) ≠ k + 1) : csN f n k (i + 1) = csN f n k i := by
  unfold csN
  rw [filt_succ, if_neg h, List.append_nil]
theorem csN_set (f : Int → Nat) (n k i : Nat) (h : f (i : Int) = k + 1) : (csN f n k i).set k (((filt f k i).length : Int) + 1) = csN f n k (i + 1) := by
  apply List.ext_getElem
  · rw [List.length_set, csN_len, csN_len]
  · intro j h1 h2
    rw [List.getElem_set, csN_get, csN_get]
    by_cases hj : k = j
    · subst hj
      rw [if_pos rfl, if_neg (by omega), if_pos rfl, filt_succ, if_pos h, List.length_append]
      simp
    · rw [if_neg hj]
      by_cases h1 : j < k
      · rw [if_pos h1, if_pos h1]
      · rw [if_neg h1, if_neg h1, if_neg (by omega), if_neg (by omega)]
theorem xsN_next (f : Int → Nat) (n k : Nat) : xsN f n k n = xsN f n (k + 1) 0 := by
  unfold xsN
  rw [List.range_succ, List.flatMap_append]
  simp [filt]
theorem xsN_keep (f : Int → Nat) (n k i : Nat) (h : f (i : Int) ≠ k + 1) : xsN f n k (i + 1) = xsN f n k i := by
  unfold xsN
  rw [filt_succ, if_neg h, List.append_nil]
theorem xsN_snoc (f : Int → Nat) (n k i : Nat) (h : f (i : Int) = k + 1) : xsN f n k (i + 1) = xsN f n k i ++ [(i : Int)] := by
  unfold xsN
  rw [filt_succ, if_pos h, List.append_assoc]
theorem xsN_len (f : Int → Nat) (n : Nat) : ∀ k i, (xsN f n k i).length ≤ k * n + i
  | k, i => by
    unfold xsN
    rw [List.length_append]
    have h1 : ∀ k, ((List.range k).flatMap (fun j => filt f j n)).length ≤ k * n := fun k => by
      induction k with
      | zero => simp
      | succ k ih =>
        rw [List.range_succ, List.flatMap_append, List.length_append, Nat.add_mul, Nat.one_mul]
        have := filt_len f k n
        simp
        simp at ih
        omega
    have := h1 k
    have := filt_len f k i
    omega
/-- what Make answers -/
def Made (counts cs xs : List Int) : Prop :=
  ∃ S L, S.Perm (singN counts counts.length) ∧ (S.map (·.1)).Pairwise (· ≤ ·) ∧ Reach S 15 L ∧
    cs = csN (fun s => (cont (L.take (2 * S.length - 2))).count s) counts.length 16 0 ∧ xs = xsN (fun s => (cont (L.take (2 * S.length - 2))).count s) counts.length 16 0
end Go.Proofs.Ytideigpabbhhkaa.BM
/- A load of a slice of integers; a store of one. -/
namespace Go.Proofs.Ytideigpabbhhkaa
set_option linter.unusedVariables false
set_option linter.unusedSimpArgs false
open Go.RowKit
theorem ex_loadL {o : Oper} {a : Act} {x : Operand} (ho : o.op = .load 23 x) {p : Addr} (hx : a.eval x = .pointer (some p)) {A : Option Addr} {n c : Nat} {w : World} (h : w.cell? p = some (.slice A n c)) : (execOp a.eval o).run Try.prog w = .ok (.value (.slice A n c)) w := by
  have hr : (loadVar 23 p).run Try.prog w = .ok (.slice A n c) w := by
    have hi : (Try.prog.info? 23).map (·.size) = some 1 := by kernel_rfl
    simp [loadVar, Sem.run_bind, isAgg, run_underlying Try.underlying23, run_load, h]
  simp [execOp, ho, hx, Instr.loadAt, Instr.sureAddr, Sem.run_bind, hr]
theorem wl_storeL {ops : Array Oper} {Q : Exit → Act → World → Prop} {rest : List Oper} {o : Oper} {a : Act} {w : World} (hg : o.guard = none) (x y : Operand) (ho : o.op = .store 23 x y) (g i : Nat) (A : Option Addr) (n c : Nat) (hx : a.eval x = .pointer (some ⟨g, i, none⟩)) (hy : a.eval y = .slice A n c)
    {t : TypeId} {cs : Array Value} (hB : Blk w g t cs) (hi : i < cs.size) (h : wpList Try.prog ops Q rest (a.put o.dst undef) (w.setCell ⟨g, i, none⟩ (.slice A n c))) : wpList Try.prog ops Q (o :: rest) a w :=
  wpList_plain hg fun _ hK => by
    have hc := (hB.cell i).trans (Array.getElem?_eq_getElem hi)
    have hf := hB.frozen i
    unfold Oper.wp execOp
    simp only [ho, hx, hy]
    go_simp
    exact hK _ _ h
end Go.Proofs.Ytideigpabbhhkaa
/- slices.Grow of nil, slices.Concat of two slices of ints. -/
namespace Go.Proofs.Ytideigpabbhhkaa
set_option linter.unusedVariables false
set_option linter.unusedSimpArgs false
open Go.RowKit
theorem elt_intC : Elt Try.prog 23 3 1 8 := ⟨Try.underlying23, by kernel_rfl, by omega⟩
theorem infoI : ∃ i z, Try.prog.info? 3 = some i ∧ i.zero = some z ∧ z.cells.size = 1 ∧ i.size = 1 ∧ i.bytes = 8 := by
  have h := (elt_intC).hi
  cases hq : Try.prog.info? 3 with
  | none => rw [hq] at h; cases h
  | some i =>
    rw [hq] at h
    simp at h
    obtain ⟨⟨z, hz, hzs⟩, hs, hb⟩ := h
    exact ⟨i, z, rfl, hz, hzs, hs, hb⟩
set_option maxRecDepth 20000 in
set_option maxHeartbeats 2000000 in
theorem grow_any (n : Nat) (w : World) (hn : n ≤ 1000000000) :
    Calls Try.prog 39 #[.slice none 0 0, .int .i64 (n : Int)] w fun e w' => ∃ A c, e = .returned (.slice A 0 c) ∧ w'.ownsRow w.heap.size 3 1 (.slice A 0 c) 0 [] ∧ Ext w w' := by
  have e0 : IntKind.i64.wrap (n : Int) = (n : Int) := IntWalk.i64_in _ (by omega)
  by_cases h0 : 0 < n
  · obtain ⟨i, z, hi, hz, hzs, hs, hb⟩ := infoI
    obtain ⟨G, hG⟩ : ∃ G, grownCap w n 0 3 = G := ⟨_, rfl⟩
    have hge := grownCap_ge w n 0 3
    have hle := grownCap_le_maxLen w n 0 3 (by unfold maxLen; omega)
    rw [hG] at hge hle
    have hr := fun ty => Lib.run_append_nil_zeros w 23 3 ty 3 i z .i64 .i64 Try.underlying23 Try.underlying3 hi hz n h0 (by omega) (by omega) (by rw [hb]; omega)
    rw [hG] at hr
    obtain ⟨cells, hcells⟩ : ∃ cells, Builtin.zeroCells z.cells n ++ Builtin.zeroCells z.cells (G - n) = cells := ⟨_, rfl⟩
    rw [hcells] at hr
    have hcs : cells.size = G := by
      rw [← hcells, Array.size_append, size_zeroCells, size_zeroCells, hzs]
      omega
    have hown : (w.drew.alloc (.cells cells 3)).ownsRow w.heap.size 3 1 (.slice (some ⟨w.heap.size, 0, none⟩) 0 G) 0 [] :=
      ⟨rfl, .inr ⟨w.heap.size, G, cells, rfl, Nat.le_refl _, heap_alloc_new w.drew _, Nat.zero_le _, hle, by rw [hcs]; omega, by simp⟩⟩
    have HOWN := hid_ hown
    have HR := hid_ hr
    unfold maxLen at hle
    clear hr hown hcells hcs hG hi hz hzs hs hb
    go_enter Try.func39, Try.ntmps39
    go_wp2_with (first
      | ((with_reducible show wpList _ _ _ (⟨some 6, _, _, _, _, _⟩ :: _) _ _); refine wl_run rfl (.bool false) (ex_lss rfl rfl rfl (by simp; omega)) ?_)
      | ((with_reducible show wpList _ _ _ (⟨some 14, _, _, _, _, _⟩ :: _) _ _); refine wl_run rfl (.int .i64 (n : Int)) (ex_subI rfl rfl rfl (by omega) (by omega)) ?_)
      | ((with_reducible show wpList _ _ _ (⟨some 16, _, _, _, _, _⟩ :: _) _ _); refine wl_run rfl (.bool true) (ex_gtr rfl rfl rfl (by simp; omega)) ?_)
      | ((with_reducible show wpList _ _ _ (⟨some 22, _, _, _, _, _⟩ :: _) _ _); refine Lib.wpList_append_run _ rfl _ _ _ _ rfl _ _ rfl rfl _ _ (HR.out _) ?_))
    go_ret
    exact ⟨_, _, rfl, HOWN.out, (Ext.refl w).drew.alloc _⟩
  · obtain rfl : n = 0 := by omega
    have hown : w.ownsRow w.heap.size 3 1 (.slice none 0 0) 0 [] := own_nil _ _ _ _
    go_enter Try.func39, Try.ntmps39
    go_wp2
    go_ret
    exact ⟨_, _, rfl, hown, Ext.refl w⟩
set_option maxRecDepth 20000 in
set_option maxHeartbeats 4000000 in
theorem concat_any (xs ys : List Int) (A B : Option Addr) (a b c d g : Nat) (w : World) (ha : xs.length = a) (hb : ys.length = b) (hal : a ≤ 100000000) (hbl : b ≤ 100000000) (hA : SL w 1 (.slice A a c) a (ints xs)) (hB : SL w 1 (.slice B b d) b (ints ys)) (hg : Blk w g 23 #[.slice A a c, .slice B b d]) :
    Calls Try.prog 30 #[.slice (some ⟨g, 0, none⟩) 2 2] w fun e w' => ∃ C k, e = .returned (.slice C (a + b) k) ∧ w'.ownsRow w.heap.size 3 1 (.slice C (a + b) k) (a + b) (ints (xs ++ ys)) ∧ Ext w w' := by
  have HO := hid_ (ints_one_mem xs)
  have HO2 := hid_ (ints_one_mem ys)
  have HAP : Hid (ints xs ++ ints ys = ints (xs ++ ys)) := hid_ (by simp [ints])
  have HG := hid_ (fun W => grow_any (a + b) W (by omega))
  have g0 := hg.cell 0
  have g1 := hg.cell 1
  obtain ⟨n, hab⟩ : ∃ n, a + b = n := ⟨_, rfl⟩
  have HN := hid_ hab
  rw [hab] at HG ⊢
  generalize ints xs = X at *
  generalize ints ys = Y at *
  generalize ints (xs ++ ys) = XY at *
  clear ha hb
  go_enter Try.func30, Try.ntmps30
  go_upto_region 3 with fail
  go_loopw [3, 11] (fun sv iv wr => ((iv = .int .i64 0 ∧ sv = .int .i64 0) ∨ (iv = .int .i64 1 ∧ sv = .int .i64 (a : Int)) ∨ (iv = .int .i64 2 ∧ sv = .int .i64 (n : Int))) ∧ wr = w) (fun _ i _ => 2 - (intOf i).toNat)
  case atStart => exact ⟨.inl ⟨rfl, rfl⟩, rfl⟩
  case round =>
    obtain ⟨h, hw⟩ := hrel
    have hw' := hw.symm
    subst hw'
    clear hw
    rcases h with ⟨rfl, rfl⟩ | ⟨rfl, rfl⟩ | ⟨rfl, rfl⟩
    · go_wp2_with (first
        | ((with_reducible show wpList _ _ _ (⟨some 18, _, _, _, _, _⟩ :: _) _ _); refine wl_run rfl (.int .i64 (a : Int)) (ex_addI rfl rfl rfl (by omega) (by omega)) ?_)
        | ((with_reducible show wpList _ _ _ (⟨some 20, _, _, _, _, _⟩ :: _) _ _); refine wl_run rfl (.bool false) (ex_lss rfl rfl rfl (by simp; omega)) ?_))
      go_roundw
      case rel => exact ⟨.inr (.inl ⟨by go_num, by first | rfl | trivial⟩), by first | rfl | trivial⟩
      case measure => simp [intOf]
    · go_wp2_with (first
        | ((with_reducible show wpList _ _ _ (⟨some 18, _, _, _, _, _⟩ :: _) _ _); refine wl_run rfl (.int .i64 (n : Int)) (by rw [← hab]; exact ex_addN rfl rfl rfl (by omega)) ?_)
        | ((with_reducible show wpList _ _ _ (⟨some 20, _, _, _, _, _⟩ :: _) _ _); refine wl_run rfl (.bool false) (ex_lss rfl rfl rfl (by simp; omega)) ?_))
      go_roundw
      case rel => exact ⟨.inr (.inr ⟨by go_num, by first | rfl | trivial⟩), by first | rfl | trivial⟩
      case measure => simp [intOf]
    · go_upto_region 11 with (go_at_call 39; (with_reducible refine (HG.out _).mono ?_); rintro e w1 ⟨C0, k0, rfl, ho1, hx1⟩)
      have hsz := hx1.size
      go_loopw [6, 27] (fun sv iv wr => (∃ (C : Option Addr) (k m : Nat) (Z : List Value), ((iv = .int .i64 0 ∧ 0 = m ∧ [] = Z) ∨ (iv = .int .i64 1 ∧ a = m ∧ X = Z) ∨ (iv = .int .i64 2 ∧ n = m ∧ X ++ Y = Z)) ∧ sv = .slice C m k ∧ wr.ownsRow w.heap.size 3 1 (.slice C m k) m Z) ∧ Ext w wr) (fun _ i _ => 2 - (intOf i).toNat)
      case atStart => exact ⟨⟨C0, k0, 0, [], .inl ⟨rfl, rfl, rfl⟩, rfl, ho1⟩, hx1⟩
      case round =>
        clear ho1 hx1
        obtain ⟨⟨C, k, m, Z, h, rfl, ho⟩, hx⟩ := hrel
        have c0 := (hx.cell (p := ⟨g, 0, none⟩) hg.lt).trans g0
        have c1 := (hx.cell (p := ⟨g, 1, none⟩) hg.lt).trans g1
        have hsz2 := hx.size
        rcases h with ⟨rfl, rfl, rfl⟩ | ⟨rfl, rfl, rfl⟩ | ⟨rfl, rfl, rfl⟩
        · go_wp2_with ((with_reducible show wpList _ _ _ (⟨some 33, _, _, _, _, _⟩ :: _) _ _); refine wpList_append_slf elt_intC rfl _ _ rfl w.heap.size _ _ _ rfl ho _ a X rfl (hA.ext hx) HO.out (by omega) (by omega) (by omega) ?_; intro C5 k5 w5 ho5 hg5 hr5; rw [Nat.zero_add, List.nil_append] at ho5; have hx5 := (upd_grown hg5).ext hx (fun x h => (ho.lt x h).1))
          go_roundw
          case rel => exact ⟨⟨C5, k5, a, X, .inr (.inl ⟨by go_num, rfl, rfl⟩), by first | rfl | (simp; done) | go_num, ho5⟩, hx5⟩
          case measure => simp [intOf]
        · go_wp2_with ((with_reducible show wpList _ _ _ (⟨some 33, _, _, _, _, _⟩ :: _) _ _); refine wpList_append_slf elt_intC rfl _ _ rfl w.heap.size _ _ _ rfl ho _ b Y rfl (hB.ext hx) HO2.out (by omega) (by omega) (by omega) ?_; intro C5 k5 w5 ho5 hg5 hr5; rw [HN.out] at ho5; have hx5 := (upd_grown hg5).ext hx (fun x h => (ho.lt x h).1))
          go_roundw
          case rel => exact ⟨⟨C5, k5, n, X ++ Y, .inr (.inr ⟨by go_num, rfl, rfl⟩), by first | rfl | (rw [HN.out]; done) | go_num, ho5⟩, hx5⟩
          case measure => simp [intOf]
        · go_wp2
          go_ret
          rw [HAP.out] at ho
          exact ⟨_, _, rfl, ho, hx⟩
end Go.Proofs.Ytideigpabbhhkaa
/- Tables: table.total, Has of the reference. -/
namespace Go.Proofs.Ytideigpabbhhkaa
set_option linter.unusedVariables false
set_option linter.unusedSimpArgs false
open Go.RowKit
def tblv (cs : List Int) (sl : Value) : Array Value := (ints cs ++ [sl]).toArray
theorem sizeTbl : (Try.prog.info? 25).map (·.size) = some 17 := by kernel_rfl
theorem size16 : (Try.prog.info? 22).map (·.size) = some 16 := by kernel_rfl
theorem tblv_size (cs : List Int) (sl : Value) (h : cs.length = 16) : (tblv cs sl).size = 17 := by simp [tblv, ints_len, h]
theorem tblv_range {w : World} {g : Nat} {T : TypeId} {cs : List Int} {sl : Value} (h : Blk w g T (tblv cs sl)) : w.rangeAt g 0 (ints cs) := by
  intro j v hv
  rw [Nat.zero_add, h.cell]
  unfold tblv
  rw [List.getElem?_toArray, List.getElem?_append_left (List.getElem?_eq_some_iff.1 hv).1]
  exact hv
theorem tblv_last {w : World} {g : Nat} {T : TypeId} {cs : List Int} {sl : Value} (h : Blk w g T (tblv cs sl)) (hl : cs.length = 16) : w.cell? ⟨g, 16, none⟩ = some sl := by
  rw [h.cell]
  simp [tblv, ints_len, hl]
theorem run_index16 (cs : Array Value) (i : Nat) (u : Value) (hi : i < 16) (hu : cs[i]? = some u) (w : World) : (Instr.index 22 (.agg cs) (.int .i64 (i : Int))).run Try.prog w = .ok u w :=
  run_index_agg _ _ 16 cs i u Try.underlying22 _ Try.underlying3 sizeInt hi hu w
def sumL (cs : List Int) (k : Nat) : Int := (cs.take k).sum
theorem sumL_succ (cs : List Int) (k : Nat) (h : k < cs.length) : sumL cs (k + 1) = sumL cs k + cs[k] := by
  unfold sumL
  rw [List.take_succ_eq_append_getElem h, List.sum_append]
  simp
def totalZ (cs : List Int) : Int × Bool := if allIn cs 0 256 then (sumL cs 16, decide (sumL cs 16 ≤ 256)) else (0, false)
set_option maxHeartbeats 400000 in
theorem total_any (cs : List Int) (sl : Value) (w : World) (hl : cs.length = 16) :
    Calls Try.prog 19 #[.agg (tblv cs sl)] w fun e w' => e = .returned (.tuple #[.int .i64 (totalZ cs).1, .bool (totalZ cs).2]) ∧ Ext w w' := by
  have HL := hid_ hl
  have HRG := hid_ (fun W g (h : Blk W g 25 (tblv cs sl)) => tblv_range h)
  have hcl := hid_ ((ints_len cs).trans hl)
  have HIX := hid_ (fun k (hk : k < cs.length) (h16 : k < 16) => fun W => run_index16 (bv cs) k (.int .i64 cs[k]) h16 (bv_at cs k hk) W)
  generalize tblv cs sl = tv at *
  have hbv : (ints cs).toArray = bv cs := rfl
  go_enter Try.func19, Try.ntmps19
  go_wp2_with (first
    | (refine wpList_box_abs rfl 25 (.tmp 0) rfl tv rfl ?_; intro w1 g hb1 hx1 hg)
    | (refine wpList_load_mid rfl 22 (.tmp 7) rfl g 0 rfl (ints cs) _ (HRG.out _ _ hb1) Try.underlying22 rfl (by rw [hcl.out]; exact size16) ?_))
  go_loop [4, 9] (fun v i => ∃ k : Nat, k ≤ 16 ∧ i = .int .i64 (k : Int) ∧ v = .int .i64 (sumL cs k) ∧ (∀ z ∈ cs.take k, 0 ≤ z ∧ z ≤ 256) ∧ 0 ≤ sumL cs k ∧ sumL cs k ≤ 256 * k) (fun _ i => 16 - (intOf i).toNat)
  case atStart => exact ⟨0, by omega, rfl, rfl, by simp, by simp [sumL], by simp [sumL]⟩
  case round =>
    obtain ⟨k, hk, rfl, rfl, hin, s1, s2⟩ := hrel
    by_cases hlt : k < 16
    · have hkl : k < cs.length := by have := HL.out; omega
      have hix := HIX.out k hkl hlt
      have HS := hid_ (sumL_succ cs k hkl)
      have HIN := hid_ hin
      clear hin
      cases hq : inB cs[k] 0 256 with
      | true =>
        obtain ⟨q1, q2⟩ := inB_iff.1 hq
        have HN := hid_ (allIn_take HIN.out hkl ⟨q1, q2⟩)
        generalize sumL cs k = s at *
        go_wp2_with fail
        go_round
        case rel => exact ⟨k + 1, by omega, by go_num, by rw [HS.out], HN.out, by rw [HS.out]; omega, by rw [HS.out]; omega⟩
        case measure => simp [intOf]; omega
      | false =>
        have HF := hid_ (show totalZ cs = (0, false) by unfold totalZ; rw [allIn_no hkl hq]; rfl)
        rcases Int.lt_or_le cs[k] 0 with h0 | h0
        · have h0' : decide (cs[k] < 0) = true := by simpa using h0
          clear hq
          go_wp2_with fail
          go_ret2
          exact ⟨by rw [HF.out]; rfl, hx1⟩
        · have h0' : decide (cs[k] < 0) = false := by simpa using h0
          have h1' : decide (256 < cs[k]) = true := by have := inB_not.1 hq; simp; omega
          clear hq
          go_wp2_with fail
          go_ret2
          exact ⟨by rw [HF.out]; rfl, hx1⟩
    · have ek : k = 16 := by omega
      have HF := hid_ (show totalZ cs = (sumL cs 16, decide (sumL cs 16 ≤ 256)) by
        unfold totalZ
        rw [allIn_iff.2 (fun z hz => hin z (by rwa [List.take_of_length_le (by have := HL.out; omega)]))]
        rfl)
      rw [ek]
      rw [ek] at s1 s2
      clear hin ek hk hlt
      go_wp2_with fail
      go_ret2
      exact ⟨by rw [HF.out]; rfl, hx1⟩
theorem has_any (xs : List Int) (A : Option Addr) (c n : Nat) (x : Int) (w : World) (hn : xs.length = n) (hs : SL w 1 (.slice A n c) n (ints xs)) :
    Calls Try.prog 21 #[.slice A n c, .int .i64 x] w fun e w' => e = .returned (.bool (decide (x ∈ xs))) ∧ w = w' := by
  subst hn
  have hc1 : xs.length ≤ c ∧ c ≤ 9223372036854775807 := by obtain ⟨A', c', e, h1, h2, -⟩ := hs; injection e with e1 e2 e3; subst e3; exact ⟨h1, h2⟩
  obtain ⟨hc1, hc2⟩ := hc1
  go_enter Try.func21, Try.ntmps21
  go_wp2_with fail
  go_loop [9] (fun i => ∃ k : Nat, k ≤ xs.length ∧ i = .int .i64 k ∧ x ∉ xs.take k) (fun i => xs.length - (intOf i).toNat)
  case atStart => exact ⟨0, by omega, rfl, by simp⟩
  case round =>
    obtain ⟨k, hk, rfl, ht⟩ := hrel
    have HT := hid_ ht
    clear ht
    by_cases hlt : k < xs.length
    · obtain ⟨ad, u, rfl, -, hx, hcell⟩ := hs.at1 hlt
      obtain ⟨_, rfl⟩ := ints_at _ _ _ hx
      clear hx
      by_cases hq : x = xs[k]
      · have hq' : (x == xs[k]) = true := by simpa using hq
        have HC := hid_ (show decide (x ∈ xs) = true by rw [decide_eq_true_eq, hq]; exact List.getElem_mem hlt)
        clear hq
        go_wp2_with fail
        go_ret
        exact ⟨by rw [HC.out]; rfl, rfl⟩
      · have hq' : (x == xs[k]) = false := by simpa using hq
        have HN := hid_ (show x ∉ xs.take (k + 1) by rw [List.take_succ_eq_append_getElem hlt, List.mem_append]; exact fun h => h.elim HT.out (fun h => hq (by simpa using h)))
        clear hq
        go_wp2_with fail
        go_round
        case rel => exact ⟨k + 1, by omega, by go_num, HN.out⟩
        case measure => simp [intOf]; omega
    · have HC := hid_ (show decide (x ∈ xs) = false by
        have := HT.out
        rw [List.take_of_length_le (by omega)] at this
        simpa using this)
      go_wp2_with fail
      go_ret
      exact ⟨by rw [HC.out]; rfl, rfl⟩
end Go.Proofs.Ytideigpabbhhkaa
/- Tables as cells: facts for best.Make. -/
namespace Go.Proofs.Ytideigpabbhhkaa
set_option linter.unusedVariables false
set_option linter.unusedSimpArgs false
open Go.RowKit
theorem tblM_set (xs : List Int) (s : Value) (k : Nat) (z : Int) (h : k < xs.length) : (tblv xs s).setIfInBounds k (.int .i64 z) = tblv (xs.set k z) s := by
  unfold tblv ints
  rw [List.setIfInBounds_toArray, List.set_append_left _ _ (by simpa using h), List.map_set]
theorem zeroTblM : (Try.prog.info? 25).bind (·.zero) = some (.agg (tblv (List.replicate 16 0) (.slice none 0 0))) := by
  show _ = some (Value.agg (ints (List.replicate 16 0) ++ [Value.slice none 0 0]).toArray)
  kernel_rfl
theorem tblM_ne : 3 ≠ 25 := by decide
theorem tblM_get (xs : List Int) (s : Value) (k : Nat) (h : k < xs.length) : (tblv xs s)[k]? = some (.int .i64 xs[k]) := by
  unfold tblv ints
  simp [List.getElem?_append, h]
theorem tblM_one (cs : List Int) (A : Option Addr) (k c : Nat) : (tblv cs (.slice A k c)).all (·.oneCell') = true := by
  unfold tblv ints
  simp [Value.oneCell']
theorem tblM_setLast (cs : List Int) (s u : Value) (h : cs.length = 16) : (tblv cs s).setIfInBounds 16 u = tblv cs u := by
  unfold tblv
  rw [List.setIfInBounds_toArray, List.set_append_right _ _ (by rw [ints_len, h]; omega), ints_len, h]
  rfl
end Go.Proofs.Ytideigpabbhhkaa
/- Rows of three integers: tokens. Eq on equal lists of them. -/
namespace Go.Proofs.Ytideigpabbhhkaa
set_option linter.unusedVariables false
set_option linter.unusedSimpArgs false
open Go.RowKit
abbrev Tok := Int × Int × Int
def tokv (t : Tok) : List Value := [.int .i64 t.1, .int .i64 t.2.1, .int .i64 t.2.2]
def toks (T : List Tok) : List Value := T.flatMap tokv
theorem toks_len (T : List Tok) : (toks T).length = T.length * 3 := by
  induction T with
  | nil => rfl
  | cons t T ih => simp only [toks, List.flatMap_cons, List.length_append] at ih ⊢; rw [ih]; simp [tokv]; omega
theorem toks_app (T U : List Tok) : toks (T ++ U) = toks T ++ toks U := by simp [toks]
theorem toks_at (T : List Tok) (k : Nat) (h : k < T.length) :
    (toks T)[k * 3]? = some (.int .i64 T[k].1) ∧ (toks T)[k * 3 + 1]? = some (.int .i64 T[k].2.1) ∧ (toks T)[k * 3 + 2]? = some (.int .i64 T[k].2.2) := by
  induction T generalizing k with
  | nil => simp at h
  | cons t T ih =>
    have e : toks (t :: T) = tokv t ++ toks T := by simp [toks]
    rw [e]
    cases k with
    | zero => simp [tokv]
    | succ k =>
      have h2 : k < T.length := by simpa using h
      obtain ⟨a, b, c⟩ := ih k h2
      refine ⟨?_, ?_, ?_⟩
      · rw [List.getElem?_append_right (by simp [tokv]; omega), show (k + 1) * 3 - (tokv t).length = k * 3 by simp [tokv]; omega, a]; simp
      · rw [List.getElem?_append_right (by simp [tokv]; omega), show (k + 1) * 3 + 1 - (tokv t).length = k * 3 + 1 by simp [tokv]; omega, b]; simp
      · rw [List.getElem?_append_right (by simp [tokv]; omega), show (k + 1) * 3 + 2 - (tokv t).length = k * 3 + 2 by simp [tokv]; omega, c]; simp
theorem addr_next (ad : Addr) (i j : Nat) (hj : 0 < j) : (⟨(ad.add i).block, (ad.add i).off + j, none⟩ : Addr) = ad.add (i + j) := by
  unfold Addr.add
  rw [if_neg (show ¬ i + j = 0 by omega)]
  split
  · next h => subst h; simp
  · simp; omega
theorem SL.tok {w : World} {A : Option Addr} {n c : Nat} {T : List Tok} {k : Nat} (h : SL w 3 (.slice A n c) n (toks T)) (hk : k < n) (hn : T.length = n) (hkl : k < T.length) :
    ∃ ad, A = some ad ∧ ad.block < w.heap.size ∧ w.cell? (ad.add (k * 3)) = some (.int .i64 T[k].1) ∧ w.cell? ⟨(ad.add (k * 3)).block, (ad.add (k * 3)).off + 1, none⟩ = some (.int .i64 T[k].2.1) ∧ w.cell? ⟨(ad.add (k * 3)).block, (ad.add (k * 3)).off + 2, none⟩ = some (.int .i64 T[k].2.2) := by
  obtain ⟨A', c', e, _, _, h2, h3⟩ := h
  injection e with e1 e2 e3
  subst e1
  obtain ⟨ad, ea, hb, hc⟩ := h3 (by omega)
  obtain ⟨a, b, d⟩ := toks_at T k hkl
  exact ⟨ad, ea, hb, hc _ _ a, by rw [addr_next _ _ 1 (by omega)]; exact hc _ _ b, by rw [addr_next _ _ 2 (by omega)]; exact hc _ _ d⟩
end Go.Proofs.Ytideigpabbhhkaa
