/- Contracts for the law DeskRunsCard, part 18: what the functions that it reaches answer, for all arguments that the theorems name. -/
import Derived.Test.YtlhggcbpipmjhaaGreatDoorMDeskRunsCard17
import Derived.Test.YtlhggcbpipmjhaaGreatDoorMDeskRunsCard3
import Derived.Test.YtlhggcbpipmjhaaGreatDoorMDeskRunsCard5
import Derived.Test.YtlhggcbpipmjhaaGreatDoorMDeskRunsCard14
namespace Go.Proofs.YtlhggcbpipmjhaaGreatDoor
set_option linter.unusedVariables false
set_option linter.unusedSimpArgs false
open Go.RowKit
section
theorem zeroI1 : ((Tryz.prog.info? 3).bind (·.zero)).isSome = true := by kernel_rfl
theorem zeroPk1 : ((Tryz.prog.info? 130).bind (·.zero)).isSome = true := by kernel_rfl
theorem builtPk (z : Int) (A : Option Addr) (n c : Nat) : Tryz.prog.built 130 [(0, .int .i64 z), (1, .slice A n c)] = some (pkV (z, .slice A n c)) := by
 show _ = _
 kernel_rfl
theorem ex_buildPk {o : Oper} {a : Act} {x y : Operand} (ho : o.op = .build 130 #[(0, x), (1, y)]) {z : Int} {A : Option Addr} {n c : Nat} (hx : a.eval x = .int .i64 z) (hy : a.eval y = .slice A n c) (w : World) : (execOp a.eval o).run Tryz.prog w = .ok (.value (.agg (pkV (z, .slice A n c)))) w := by
 simp only [execOp, ho, Sem.run_bind, run_build w 130 (#[(0, x), (1, y)].map fun (i, x) => (i, a.eval x)) (pkV (z, .slice A n c)) (by simpa [hx, hy] using builtPk z A n c), Result.andThen_ok, Sem.run_pure]
theorem OwnP.lit {w : World} {B g : Nat} {q : FPk} (h : Blk w g 130 (pkV (toPk q))) (hq : IntsAt w q.2 q.1.2) (hB : B ≤ g) : OwnP w B (some ⟨g, 0, none⟩) 1 1 [q] :=
 OwnP.of_ds rfl (tl := []) h rfl (Nat.le_refl _) (by unfold maxLen; omega) hB (fun p hp => by rw [List.mem_singleton.1 hp]; exact hq)
theorem OwnP.far {w : World} {B m k gp : Nat} {C : Option Addr} {Q : List FPk} {cs : Array Value} (h : OwnP w B C m k Q) (hb : Blk w gp 105 cs) : (Value.slice C m k).ownBlock ≠ some gp := fun e => by
 obtain ⟨ds, k⟩ := h.typed gp e
 exact absurd (blk_types k hb) (by decide)
theorem DS.cells {w : World} {g : Nat} {L : List Pk} {tl : List Value} (h : DS w g L tl) (i : Nat) (hi : i < L.length) : w.cell? ⟨g, i * 2, none⟩ = some (.int .i64 L[i].1) ∧ w.cell? ⟨g, i * 2 + 1, none⟩ = some L[i].2 := by
 unfold DS at h
 rw [cellsP_at L i hi, List.append_assoc, List.append_assoc] at h
 have hl : (cellsP (L.take i)).length = i * 2 := by rw [cellsP_len, List.length_take]; omega
 constructor
 ·rw [h.cell, List.getElem?_toArray, List.getElem?_append_right (by omega), hl, Nat.sub_self]
  rfl
 ·rw [h.cell, List.getElem?_toArray, List.getElem?_append_right (by omega), hl, show i * 2 + 1 - i * 2 = 1 by omega]
  rfl
theorem cell_later {w w' : World} {a : Addr} {v : Value} (hx : Ext w w') (h : w.cell? a = some v) : w'.cell? a = some v := by
 have hlt : a.block < w.heap.size := by
  rcases Nat.lt_or_ge a.block w.heap.size with q | q
  ·exact q
  ·unfold World.cell? at h
   rw [Array.getElem?_eq_none q] at h
   cases h
 exact (hx.cell hlt).trans h
theorem IntsAt.sl {w : World} {A : Option Addr} {a c : Nat} {xs : List Int} (h : IntsAt w (.slice A a c) xs) (hl : xs.length = a) : SL w 1 (.slice A a c) a (ints xs) := by
 have := h.1
 rwa [hl] at this
theorem OwnP.base {w : World} {B B' m k g : Nat} {Q : List FPk} (h : OwnP w B (some ⟨g, 0, none⟩) m k Q) (hB : B' ≤ B) : OwnP w B' (some ⟨g, 0, none⟩) m k Q := by
 obtain ⟨tl, hD, h1, h2, h3, h4⟩ := h.ds
 exact OwnP.of_ds h.len hD h1 h2 h3 (by omega) h.all
theorem goesConcat : Goes Tryz.prog 107 := ⟨_, Tryz.func107, rfl, rfl⟩
theorem wpList_lit2L {ops : Array Oper} {rest : List Oper} {o : Oper} {a : Act} {w : World} {Q : Exit → Act → World → Prop} (hg : o.guard = none) (x y : Operand) (ho : o.op = .buildSlice 92 2 #[(0, x), (1, y)]) (dst : Option Tmp) (hdst : o.dst = dst)
 (A1 A2 : Option Addr) (a1 c1 a2 c2 : Nat) (hx : a.eval x = .slice A1 a1 c1) (hy : a.eval y = .slice A2 a2 c2)
 (h : ∀ w1 g, Blk w1 g 47 #[.slice A1 a1 c1, .slice A2 a2 c2] → Ext w w1 → w.heap.size ≤ g → wpList Tryz.prog ops Q rest (a.put dst (.slice (some ⟨g, 0, none⟩) 2 2)) w1) : wpList Tryz.prog ops Q (o :: rest) a w := by
 refine Go.Great.wpList_buildSliceTo hg 92 47 2 #[(0, x), (1, y)] ho _ rfl dst hdst Tryz.underlying92 #[.slice A1 a1 c1, .slice A2 a2 c2] ?_ (h _ _ (Blk.new w _ _) ((Ext.refl w).alloc _) (Nat.le_refl _))
 simp only [List.map_toArray, List.map_cons, List.map_nil, hx, hy]
 show _ = _
 kernel_rfl
attribute [local irreducible] BM.singN cellsP BM.lenF
set_option maxRecDepth 20000 in
set_option maxHeartbeats 16000000 in
theorem make_good (counts : List Int) (A : Option Addr) (n c : Nat) (hn : counts.length = n) (w : World) (hv : SL w 1 (.slice A n c) n (ints counts)) (hb : bcheckZ counts = 0) :
 Calls Tryz.prog 79 #[.slice A n c] w fun e w' => ∃ cs xs B d, e = .returned (.tuple #[.agg (tblv cs (.slice B xs.length d)), .int .i64 0]) ∧ BM.Made counts cs xs ∧ cs.length = 16 ∧ w'.ownsRow w.heap.size 3 1 (.slice B xs.length d) xs.length (ints xs) ∧ Ext w w' := by
 have HB := hid_ (fun W (hx : Ext w W) => bcheck_any counts (.slice A n c) W (by rw [hn]; exact hv.ext hx))
 rw [hb] at HB
 obtain ⟨b1, b2⟩ := bcheck_zero hb
 have HIN := hid_ (allIn_iff.1 b2)
 rw [hn] at b1
 have HN := hid_ hn
 have hs0 : BM.singN counts 0 = [(0, [-1])] := by rw [BM.singN]
 have HSS := hid_ (fun i => (show BM.singN counts (i + 1) = BM.singN counts i ++ (if 0 < counts.getD i 0 then [((counts.getD i 0).toNat, [(i : Int)])] else []) by rw [BM.singN]))
 have HSM := hid_ (BM.singN_mem counts (fun z hz => (HIN.out z hz).2))
 clear hb b2 hn
 go_enter Tryz.func79, Tryz.ntmps79
 go_upto_region 6 with (first
  | ((with_reducible apply gS 2); refine wAlo' rfl (some 2) rfl 105 rfl _ zeroTblM ?_; intro w1 gp hp1 hx1 hgp)
  | (go_at_call 103; (with_reducible refine (HB.out _ hx1).mono ?_); rintro e w2 ⟨rfl, rfl⟩)
  | ((with_reducible apply gS 25); refine wLit1 rfl 47 3 _ rfl (some 25) rfl Tryz.underlying47 1 sizeI zeroI1 (.int .i64 (-1)) rfl rfl (by omega) (by omega) ?_; intro w3 g3 hb3 hx3 hg3)
  | ((with_reducible apply gS 26); refine wl_run rfl (.agg (pkV (0, .slice (some ⟨g3, 0, none⟩) 1 1))) (ex_buildPk rfl rfl rfl) ?_)
  | ((with_reducible apply gS 27); refine wLit1 rfl 131 130 _ rfl (some 27) rfl Tryz.underlying131 2 sizePk zeroPk1 (.agg (pkV (0, .slice (some ⟨g3, 0, none⟩) 1 1))) rfl rfl (by omega) (by omega) ?_; intro w4 g4 hb4 hx4 hg4))
 have hx24 := hx3.trans hx4
 have hx04 := hx1.trans hx24
 have hp4 := hp1.ext hx24
 have hq0 : IntsAt w4 (.slice (some ⟨g3, 0, none⟩) 1 1) [-1] := (IntsAt.lit hb3).ext hx4
 have ho0 : OwnP w4 w.heap.size (some ⟨g4, 0, none⟩) 1 1 [((0, [-1]), .slice (some ⟨g3, 0, none⟩) 1 1)] := OwnP.lit hb4 hq0 (by have := (hx1.trans hx3).size; omega)
 clear hb3 hb4 hq0 hx3 hx4
 go_loopw [5, 30] (fun sv iv wr => ∃ (i m k : Nat) (C : Option Addr) (Q : List FPk), i ≤ n ∧ iv = .int .i64 (i : Int) ∧ sv = .slice C m k ∧ OwnP wr w.heap.size C m k Q ∧ Hid (Q.map (·.1) = BM.singN counts i) ∧ m ≤ i + 1 ∧ 1 ≤ m ∧ Blk wr gp 105 (tblv (List.replicate 16 0) (.slice none 0 0)) ∧ Ext w wr) (fun _ i _ => n - (intOf i).toNat)
 case atStart => exact ⟨0, 1, 1, some ⟨g4, 0, none⟩, [((0, [-1]), .slice (some ⟨g3, 0, none⟩) 1 1)], by omega, rfl, rfl, ho0, hid_ (by rw [hs0]; rfl), by omega, by omega, hp4, hx04⟩
 case round =>
  clear ho0 hp4 hx04 hp1 hx24 hx1
  obtain ⟨i, m, k, C, Q, hi, rfl, rfl, hQ, HQM, hmi, h1m, hp, hx⟩ := hrel
  by_cases hlt : i < n
  ·obtain ⟨ad, u, rfl, hab, hxk, hcell⟩ := (hv.ext hx).at1 hlt
   obtain ⟨hkl, rfl⟩ := ints_at _ _ _ hxk
   have hz1 := HIN.out _ (List.getElem_mem hkl)
   have hss := HSS.out i
   rw [show counts.getD i 0 = counts[i] by simp [hkl]] at hss
   generalize counts[i] = z8 at *
   obtain ⟨z, rfl⟩ : ∃ z : Nat, z8 = (z : Int) := ⟨z8.toNat, by omega⟩
   clear hxk
   by_cases hp0 : 0 < z
   ·rw [if_pos (by omega), Int.toNat_natCast] at hss
    have HSU := hid_ hss
    clear hss
    go_wp2_with (first
     | ((with_reducible apply gS 36); refine wl_run rfl (.bool true) (ex_gtr rfl rfl rfl (by simpa using hp0)) ?_)
     | ((with_reducible apply gS 40); refine wLit1 rfl 47 3 _ rfl (some 40) rfl Tryz.underlying47 1 sizeI zeroI1 (.int .i64 (i : Int)) rfl rfl (by omega) (by omega) ?_; intro w5 g5 hb5 hx5 hg5)
     | ((with_reducible apply gS 41); refine wl_run rfl (.agg (pkV ((z : Int), .slice (some ⟨g5, 0, none⟩) 1 1))) (ex_buildPk rfl rfl rfl) ?_)
     | ((with_reducible apply gS 42); refine wLit1 rfl 131 130 _ rfl (some 42) rfl Tryz.underlying131 2 sizePk zeroPk1 (.agg (pkV ((z : Int), .slice (some ⟨g5, 0, none⟩) 1 1))) rfl rfl (by omega) (by omega) ?_; intro w6 g6 hb6 hx6 hg6; have hx56 := hx5.trans hx6; have hQ6 := hQ.ext hx56; have hR6 := OwnP.lit (q := ((z, [(i : Int)]), .slice (some ⟨g5, 0, none⟩) 1 1)) (B := 0) hb6 ((IntsAt.lit hb5).ext hx6) (Nat.zero_le _); have hsz6 := (hx.trans hx56).size)
     | ((with_reducible apply gS 43); refine wApf elt_pk rfl _ _ rfl w.heap.size _ _ _ rfl hQ6.own _ 1 _ rfl hR6.sl (cellsP_ones hR6.all.ones) (by omega) (by omega) (by omega) ?_; intro C7 k7 w7 ho7 hg7 hr7))
    have hQ7 := hQ6.app hR6.all rfl ho7 hg7
    have hp7 := (upd_grown hg7).blk (hp.ext hx56) (hQ6.far (hp.ext hx56))
    have hx7 := (upd_grown hg7).ext (hx.trans hx56) (fun x h => (hQ6.own.lt x h).1)
    go_roundw
    case rel => exact ⟨i + 1, m + 1, k7, C7, Q ++ [((z, [(i : Int)]), .slice (some ⟨g5, 0, none⟩) 1 1)], by omega, by go_num, rfl, hQ7, hid_ (by rw [List.map_append, HQM.out, HSU.out]; rfl), by omega, by omega, hp7, hx7⟩
    case measure => simp [intOf]; omega
   ·rw [if_neg (by omega), List.append_nil] at hss
    have HSU := hid_ hss
    clear hss
    go_wp2_with ((with_reducible apply gS 36); refine wl_run rfl (.bool false) (ex_gtr rfl rfl rfl (by simpa using hp0)) ?_)
    go_roundw
    case rel => exact ⟨i + 1, m, k, C, Q, by omega, by go_num, rfl, hQ, hid_ (by rw [HQM.out, HSU.out]), by omega, by omega, hp, hx⟩
    case measure => simp [intOf]; omega
  ·obtain rfl : i = n := by omega
   obtain ⟨gs, rfl, hBs⟩ := hQ.addr h1m
   go_upto_region 14 with (first
    | ((with_reducible apply gS 31); refine wl_run rfl (.bool false) (ex_lss rfl rfl rfl (by simp)) ?_)
    | (go_at_call 104; (with_reducible refine (sortP_any hQ (by omega)).mono ?_); rintro e w5 ⟨rfl, S, hS, hSp, hSs, hu5⟩)
    | (go_at_call 106; (with_reducible refine (cloneP_any hS (by omega) (by omega)).mono ?_); rintro e w6 ⟨gr, k6, rfl, hR, hx6⟩))
   have hp6 := (hu5.blk hp (fun e => hQ.far hp (by rw [e]; rfl))).ext hx6
   have hxw6 := (hu5.ext hx (fun x h => by omega)).trans hx6
   have hS6 := hS.ext hx6
   --<rows>
   have HPL : Hid ((S.map (·.1)).Perm (BM.singN counts i)) := hid_ (by rw [← HQM.out]; exact hSp.map _)
   have HSO : Hid (((S.map (·.1)).map (·.1)).Pairwise (· ≤ ·)) := hid_ (by rw [List.map_map]; exact hSs)
   have HS1 : Hid (∀ p ∈ S.map (·.1), p.2.length ≤ 1 ∧ p.1 ≤ 9999) := hid_ (fun p hp => by have := HSM.out i p (HPL.out.subset hp); omega)
   have HSL : Hid ((S.map (·.1)).length = m) := hid_ (by rw [List.length_map, hS.len])
   have hgs5 : gs < w5.heap.size := by obtain ⟨tl, hD, -⟩ := hS.ds; exact Blk.lt hD
   have hgr5 : gr ≠ gs := by obtain ⟨tl, hD, h1, h2, h3, h4⟩ := hR.ds; omega
   have HR0 : Hid (BM.Reach (S.map (·.1)) 0 (S.map (·.1))) := hid_ .zero
   clear hQ HQM hSp hSs hu5 hS hx hp hx6
   go_loopw [8, 49] (fun rv fv wr => ∃ (f m1 k1 g : Nat) (Q : List FPk), f ≤ 15 ∧ fv = .int .i64 (f : Int) ∧ rv = .slice (some ⟨g, 0, none⟩) m1 k1 ∧ OwnP wr w5.heap.size (some ⟨g, 0, none⟩) m1 k1 Q ∧ OwnP wr w.heap.size (some ⟨gs, 0, none⟩) m k S ∧ g ≠ gs ∧ Hid (BM.Reach (S.map (·.1)) f (Q.map (·.1))) ∧ Blk wr gp 105 (tblv (List.replicate 16 0) (.slice none 0 0)) ∧ Ext w wr) (fun _ f _ => 15 - (intOf f).toNat)
   case atStart => exact ⟨0, m, k6, gr, S, by omega, rfl, rfl, hR, hS6, hgr5, HR0, hp6, hxw6⟩
   case round =>
    clear hR hS6 hgr5 HR0 hp6 hxw6
    obtain ⟨f, m1, k1, g, Q, hf, rfl, rfl, hQ, hS, hne, HRC, hp, hx⟩ := hrel
    obtain ⟨W0, hW0⟩ : ∃ W0 : World, W0 = wr := ⟨_, rfl⟩
    subst hW0
    have hm1 : m ≤ m1 ∧ m1 ≤ 2 * m := by
     have h1 := HRC.out.len
     have h2 := BM.lenF_bd (S.map (·.1)).length f
     rw [List.length_map, hQ.len] at h1
     rw [HSL.out] at h1 h2
     omega
    have hgwr : gs < W0.heap.size := by obtain ⟨tl, hD, -⟩ := hS.ds; exact Blk.lt hD
    have hgwq : g < W0.heap.size ∧ w5.heap.size ≤ g := by obtain ⟨tl, hD, h1, h2, h3, h4⟩ := hQ.ds; exact ⟨Blk.lt hD, h4⟩
    have hgpr := hp.lt
    by_cases hlf : f < 15
    ·have HBD : Hid (∀ q ∈ Q, q.1.2.length ≤ 16384 ∧ q.1.1 ≤ 9999 * 16384) := hid_ (fun q hq => by
      have h1 := HRC.out.bound HS1.out q.1 (List.mem_map_of_mem hq)
      have h2 : 2 ^ f ≤ 2 ^ 14 := Nat.pow_le_pow_right (by omega) (by omega)
      omega)
     have hN0 := OwnP.nil W0 W0.heap.size
     go_upto_region 17 with ((with_reducible apply gS 50); refine wl_run rfl (.bool true) (ex_lss rfl rfl rfl (by simpa using hlf)) ?_)
     go_loopw [9, 10] (fun nv iv w2 => ∃ (i j kN : Nat) (CN : Option Addr) (N : List FPk), 2 * j = i ∧ i ≤ m1 ∧ iv = .int .i64 (i : Int) ∧ nv = .slice CN j kN ∧ OwnP w2 W0.heap.size CN j kN N ∧ Hid (N.map (·.1) = (BM.pairP (Q.map (·.1))).take j) ∧ OwnP w2 w5.heap.size (some ⟨g, 0, none⟩) m1 k1 Q ∧ OwnP w2 w.heap.size (some ⟨gs, 0, none⟩) m k S ∧ Blk w2 gp 105 (tblv (List.replicate 16 0) (.slice none 0 0)) ∧ Ext W0 w2) (fun _ i _ => m1 - (intOf i).toNat)
     case atStart => exact ⟨0, 0, 0, none, [], rfl, by omega, rfl, rfl, hN0, hid_ rfl, hQ, hS, hp, Ext.refl _⟩
     case round =>
     clear hN0 hQ hS hp
     obtain ⟨i, j, kN, CN, N, hji, him, rfl, rfl, hN, HNM, hQ, hS, hp, hx2⟩ := hrel
     obtain ⟨i1, hi1⟩ : ∃ i1, i + 1 = i1 := ⟨_, rfl⟩
     have hsz2 := hx2.size
     by_cases hl3 : i1 < m1
     ·have hQl : Q.length = m1 := hQ.len
      obtain ⟨tl, hDQ, -⟩ := hQ.ds
      have d1 := DS.cells hDQ i (by rw [List.length_map]; omega)
      have d2 := DS.cells hDQ i1 (by rw [List.length_map]; omega)
      rw [List.getElem_map] at d1 d2
      have hm_1 : Q[i]'(by omega) ∈ Q := List.getElem_mem _
      have hm_2 : Q[i1]'(by omega) ∈ Q := List.getElem_mem _
      have hbd1 := HBD.out _ hm_1
      have hbd2 := HBD.out _ hm_2
      have hq1 := hQ.all _ hm_1
      have hq2 := hQ.all _ hm_2
      have HTK : Hid ((BM.pairP (Q.map (·.1))).take (j + 1) = (BM.pairP (Q.map (·.1))).take j ++ [((Q[i]'(by omega)).1.1 + (Q[i1]'(by omega)).1.1, (Q[i]'(by omega)).1.2 ++ (Q[i1]'(by omega)).1.2)]) := hid_ (by
       subst hji
       subst hi1
       have := BM.pairP_take (L := Q.map (·.1)) (j := j) (by rw [List.length_map]; omega)
       rw [this]
       simp)
      generalize Q[i]'(by omega) = q1 at *
      generalize Q[i1]'(by omega) = q2 at *
      obtain ⟨⟨x1, y1⟩, v1⟩ := q1
      obtain ⟨⟨x2, y2⟩, v2⟩ := q2
      dsimp only at hq1 hq2
      have hq1' := hq1.1
      have hq2' := hq2.1
      obtain ⟨A1, c1, rfl, -⟩ := hq1'
      obtain ⟨A2, c2, rfl, -⟩ := hq2'
      obtain ⟨a1, hl1⟩ : ∃ a, y1.length = a := ⟨_, rfl⟩
      obtain ⟨a2, hl2⟩ : ∃ a, y2.length = a := ⟨_, rfl⟩
      dsimp only at hbd1 hbd2 HTK d1 d2
      unfold toPk at d1 d2
      dsimp only at d1 d2
      rw [hl1] at hbd1 hq1 d1
      rw [hl2] at hbd2 hq2 d2
      have HKI : Hid (∀ (W W' : World), Ext W W' → (W.cell? ⟨g, i * 2, none⟩ = some (.int .i64 (x1 : Int)) ∧ W.cell? ⟨g, i1 * 2, none⟩ = some (.int .i64 (x2 : Int)) ∧ W.cell? ⟨g, i * 2 + 1, none⟩ = some (.slice A1 a1 c1) ∧ W.cell? ⟨g, i1 * 2 + 1, none⟩ = some (.slice A2 a2 c2)) → (W'.cell? ⟨g, i * 2, none⟩ = some (.int .i64 (x1 : Int)) ∧ W'.cell? ⟨g, i1 * 2, none⟩ = some (.int .i64 (x2 : Int)) ∧ W'.cell? ⟨g, i * 2 + 1, none⟩ = some (.slice A1 a1 c1) ∧ W'.cell? ⟨g, i1 * 2 + 1, none⟩ = some (.slice A2 a2 c2))) := hid_ (fun W W' h k => ⟨cell_later h k.1, cell_later h k.2.1, cell_later h k.2.2.1, cell_later h k.2.2.2⟩)
      have hI : wr.drew.cell? ⟨g, i * 2, none⟩ = some (.int .i64 (x1 : Int)) ∧ wr.drew.cell? ⟨g, i1 * 2, none⟩ = some (.int .i64 (x2 : Int)) ∧ wr.drew.cell? ⟨g, i * 2 + 1, none⟩ = some (.slice A1 a1 c1) ∧ wr.drew.cell? ⟨g, i1 * 2 + 1, none⟩ = some (.slice A2 a2 c2) := ⟨d1.1, d2.1, d1.2, d2.2⟩
      have hq1D := hq1.ext (Ext.refl wr).drew
      have hq2D := hq2.ext (Ext.refl wr).drew
      clear hm_1 hm_2 d1 d2 hDQ
      go_upto_region 19 with (first
       | ((with_reducible apply gS 52); refine wl_run rfl (.int .i64 (i1 : Int)) (by rw [← hi1]; exact ex_addN (i := i) (d := 1) rfl rfl rfl (by omega)) ?_)
       | ((with_reducible apply gS 55); refine wl_run rfl (.bool true) (ex_lss rfl rfl rfl (by simpa using hl3)) ?_))
      refine wp_region_of (fun k => k == 5 || k == 11 || k == 17 || k == 23 || k == 24 || k == 25) (fun W => W.cell? ⟨g, i * 2, none⟩ = some (.int .i64 (x1 : Int)) ∧ W.cell? ⟨g, i1 * 2, none⟩ = some (.int .i64 (x2 : Int)) ∧ W.cell? ⟨g, i * 2 + 1, none⟩ = some (.slice A1 a1 c1) ∧ W.cell? ⟨g, i1 * 2 + 1, none⟩ = some (.slice A2 a2 c2)) (by kernel_rfl) ?_
      refine og_pure (k := 0) (by kernel_rfl) rfl (by rfl) (.slice CN j kN) (ex_move rfl rfl) ?_
      simp only [Act.put, sA, sB, sC]
      refine og_pure (k := 1) (by kernel_rfl) rfl (by rfl) (.slice (some ⟨g, 0, none⟩) m1 k1) (ex_move rfl rfl) ?_
      simp only [Act.put, sA, sB, sC]
      refine og_pure (k := 2) (by kernel_rfl) rfl (by rfl) (.int .i64 (i : Int)) (ex_move rfl rfl) ?_
      simp only [Act.put, sA, sB, sC]
      refine og_pure (k := 3) (by kernel_rfl) rfl (by rfl) (.pointer (some ⟨g, i * 2, none⟩)) (ex_ixPk rfl rfl rfl (by omega)) ?_
      simp only [Act.put, sA, sB, sC]
      refine og_pure (k := 4) (by kernel_rfl) rfl (by rfl) (.pointer (some ⟨g, i * 2, none⟩)) (fun W => by go_simp) ?_
      simp only [Act.put, sA, sB, sC]
      refine og_pure (k := 6) (by kernel_rfl) rfl (by rfl) (.slice (some ⟨g, 0, none⟩) m1 k1) (ex_move rfl rfl) ?_
      simp only [Act.put, sA, sB, sC]
      refine og_pure (k := 7) (by kernel_rfl) rfl (by rfl) (.int .i64 (i : Int)) (ex_move rfl rfl) ?_
      simp only [Act.put, sA, sB, sC]
      refine og_pure (k := 8) (by kernel_rfl) rfl (by rfl) (.int .i64 (i1 : Int)) (by rw [← hi1]; exact ex_addN (i := i) (d := 1) rfl rfl rfl (by omega)) ?_
      simp only [Act.put, sA, sB, sC]
      refine og_pure (k := 9) (by kernel_rfl) rfl (by rfl) (.pointer (some ⟨g, i1 * 2, none⟩)) (ex_ixPk rfl rfl rfl (by omega)) ?_
      simp only [Act.put, sA, sB, sC]
      refine og_pure (k := 10) (by kernel_rfl) rfl (by rfl) (.pointer (some ⟨g, i1 * 2, none⟩)) (fun W => by go_simp) ?_
      simp only [Act.put, sA, sB, sC]
      refine og_pure (k := 13) (by kernel_rfl) rfl (by rfl) (.slice (some ⟨g, 0, none⟩) m1 k1) (ex_move rfl rfl) ?_
      simp only [Act.put, sA, sB, sC]
      refine og_pure (k := 14) (by kernel_rfl) rfl (by rfl) (.int .i64 (i : Int)) (ex_move rfl rfl) ?_
      simp only [Act.put, sA, sB, sC]
      refine og_pure (k := 15) (by kernel_rfl) rfl (by rfl) (.pointer (some ⟨g, i * 2, none⟩)) (ex_ixPk rfl rfl rfl (by omega)) ?_
      simp only [Act.put, sA, sB, sC]
      refine og_pure (k := 16) (by kernel_rfl) rfl (by rfl) (.pointer (some ⟨g, i * 2 + 1, none⟩)) (fun W => by go_simp) ?_
      simp only [Act.put, sA, sB, sC]
      refine og_pure (k := 18) (by kernel_rfl) rfl (by rfl) (.slice (some ⟨g, 0, none⟩) m1 k1) (ex_move rfl rfl) ?_
      simp only [Act.put, sA, sB, sC]
      refine og_pure (k := 19) (by kernel_rfl) rfl (by rfl) (.int .i64 (i : Int)) (ex_move rfl rfl) ?_
      simp only [Act.put, sA, sB, sC]
      refine og_pure (k := 20) (by kernel_rfl) rfl (by rfl) (.int .i64 (i1 : Int)) (by rw [← hi1]; exact ex_addN (i := i) (d := 1) rfl rfl rfl (by omega)) ?_
      simp only [Act.put, sA, sB, sC]
      refine og_pure (k := 21) (by kernel_rfl) rfl (by rfl) (.pointer (some ⟨g, i1 * 2, none⟩)) (ex_ixPk rfl rfl rfl (by omega)) ?_
      simp only [Act.put, sA, sB, sC]
      refine og_pure (k := 22) (by kernel_rfl) rfl (by rfl) (.pointer (some ⟨g, i1 * 2 + 1, none⟩)) (fun W => by go_simp) ?_
      simp only [Act.put, sA, sB, sC]
      refine og_fix (k := 5) (by kernel_rfl) rfl (by rfl) (.int .i64 (x1 : Int)) (fun W hW => ex_loadI rfl rfl hW.1) hI ?_
      simp only [Act.put, sA, sB, sC]
      refine og_fix (k := 11) (by kernel_rfl) rfl (by rfl) (.int .i64 (x2 : Int)) (fun W hW => ex_loadI rfl rfl hW.2.1) hI ?_
      simp only [Act.put, sA, sB, sC]
      refine og_pure (k := 12) (by kernel_rfl) rfl (by rfl) (.int .i64 ((x1 + x2 : Nat) : Int)) (ex_addN rfl rfl rfl (by omega)) ?_
      simp only [Act.put, sA, sB, sC]
      refine og_fix (k := 17) (by kernel_rfl) rfl (by rfl) (.slice A1 a1 c1) (fun W hW => ex_loadL rfl rfl hW.2.2.1) hI ?_
      simp only [Act.put, sA, sB, sC]
      refine og_fix (k := 23) (by kernel_rfl) rfl (by rfl) (.slice A2 a2 c2) (fun W hW => ex_loadL rfl rfl hW.2.2.2) hI ?_
      simp only [Act.put, sA, sB, sC]
      refine of_loud (k := 24) (by kernel_rfl) rfl ?_
      refine wpList_lit2L rfl _ _ rfl (some 82) rfl A1 A2 a1 c1 a2 c2 rfl rfl ?_
      intro w9 g9 hb9 hx9 hg9
      have hq19 := hq1D.ext hx9
      have hq29 := hq2D.ext hx9
      refine oi_end ⟨fun _ => HKI.out _ _ hx9 hI, ?_⟩
      simp only [Act.put, sA, sB, sC]
      refine of_loud (k := 25) (by kernel_rfl) rfl ?_
      refine wl_enter (by rfl) (run_callv _ _ _ rfl rfl goesConcat #[.slice (some ⟨g9, 0, none⟩) 2 2] (by simp [Act.eval])) ?_
      refine (concat_any y1 y2 A1 A2 a1 a2 c1 c2 g9 w9 hl1 hl2 (by omega) (by omega) (IntsAt.sl hq19 hl1) (IntsAt.sl hq29 hl2) hb9).mono ?_
      rintro e w10 ⟨C10, k10, rfl, ho10, hx10⟩
      refine ⟨_, rfl, oi_end ⟨fun _ => HKI.out _ _ hx10 (HKI.out _ _ hx9 hI), ?_⟩⟩
      simp only [Act.put, sA, sB, sC]
      refine og_pure (k := 26) (by kernel_rfl) rfl (by rfl) (.agg (pkV (((x1 + x2 : Nat) : Int), .slice C10 (a1 + a2) k10))) (ex_buildPk rfl rfl rfl) ?_
      simp only [Act.put, sA, sB, sC]
      refine of_loud (k := 27) (by kernel_rfl) rfl ?_
      refine wLit1 rfl 131 130 _ rfl (some 85) rfl Tryz.underlying131 2 sizePk zeroPk1 (.agg (pkV (((x1 + x2 : Nat) : Int), .slice C10 (a1 + a2) k10))) rfl rfl (by omega) (by omega) ?_
      intro w11 g11 hb11 hx11 hg11
      have hxD := ((Ext.refl wr).drew.trans (hx9.trans hx10)).trans hx11
      have hN11 := hN.ext hxD
      have hR11 := OwnP.lit (q := ((x1 + x2, y1 ++ y2), .slice C10 (a1 + a2) k10)) (B := 0) hb11 ((IntsAt.own ho10 (by rw [List.length_append, hl1, hl2])).ext hx11) (Nat.zero_le _)
      have hsz11 := hxD.size
      refine oi_end ⟨fun h => (by cases h), ?_⟩
      simp only [Act.put, sA, sB, sC]
      refine of_loud (k := 28) (by kernel_rfl) rfl ?_
      refine wApf elt_pk rfl _ _ rfl W0.heap.size _ _ _ rfl hN11.own _ 1 _ rfl hR11.sl (cellsP_ones hR11.all.ones) (by omega) (by omega) (by omega) ?_
      intro C12 k12 w12 ho12 hg12 hr12
      refine oi_end ⟨fun h => (by cases h), ?_⟩
      simp only [Act.put, sA, sB, sC]
      refine og_pure (k := 29) (by kernel_rfl) rfl (by rfl) (.slice C12 (j + 1) k12) (ex_assign rfl rfl) ?_
      simp only [Act.put, sA, sB, sC]
      refine of_done (by kernel_rfl) ?_
      have hN12 := hN11.app hR11.all rfl ho12 hg12
      have hu12 := upd_grown hg12
      have hty : ∀ b cs, (Value.slice CN j kN).ownBlock = some b → ¬ Blk w11 b 3 cs := fun b cs hb => by obtain ⟨ds, h⟩ := hN11.typed b hb; exact not_int h
      have hge : ∀ b, (Value.slice CN j kN).ownBlock = some b → W0.heap.size ≤ b := fun b hb => (hN11.own.lt b hb).1
      have hQ12 := (hQ.ext hxD).upd hu12 hty (fun ad e h => by injection e with e; have := hge _ h; rw [← e] at this; dsimp only at this; omega)
      have hS12 := (hS.ext hxD).upd hu12 hty (fun ad e h => by injection e with e; have := hge _ h; rw [← e] at this; dsimp only at this; omega)
      have hp12 := hu12.blk (hp.ext hxD) (hN11.far (hp.ext hxD))
      have hx12 := hu12.ext (hx2.trans hxD) hge
      go_wp2_with ((with_reducible apply gS 57); refine wl_run rfl (.int .i64 ((i + 2 : Nat) : Int)) (ex_addN (i := i) (d := 2) rfl rfl rfl (by omega)) ?_)
      go_roundw
      case rel => exact ⟨i + 2, j + 1, k12, C12, N ++ [((x1 + x2, y1 ++ y2), .slice C10 (a1 + a2) k10)], by omega, by omega, by go_num, rfl, hN12, hid_ (by rw [List.map_append, HNM.out, HTK.out]; rfl), hQ12, hS12, hp12, hx12⟩
      case measure => simp [intOf]; omega
     ·have HNA : Hid (N.map (·.1) = BM.pairP (Q.map (·.1))) := hid_ (by
       rw [HNM.out]
       refine List.take_of_length_le ?_
       rw [BM.pairP_len, List.length_map, hQ.len]
       omega)
      have hge : ∀ b, (Value.slice CN j kN).ownBlock = some b → W0.heap.size ≤ b := fun b hb => (hN.own.lt b hb).1
      go_wp2_with (first
       | ((with_reducible apply gS 52); refine wl_run rfl (.int .i64 (i1 : Int)) (by rw [← hi1]; exact ex_addN (i := i) (d := 1) rfl rfl rfl (by omega)) ?_)
       | ((with_reducible apply gS 55); refine wl_run rfl (.bool false) (ex_lss rfl rfl rfl (by simpa using hl3)) ?_)
       | ((with_reducible apply gS 89); refine wApf elt_pk rfl _ _ rfl W0.heap.size _ _ _ rfl hN.own _ m _ rfl hS.sl (cellsP_ones hS.all.ones) (by omega) (by omega) (by omega) ?_; intro C5 k5 w7 ho5 hg5 hr5; have hN3 := hN.app hS.all hS.len ho5 hg5; obtain ⟨g3, rfl, hB3⟩ := hN3.addr (by omega))
       | (go_at_call 104; (with_reducible refine (sortP_any hN3 (by omega)).mono ?_); rintro e w8 ⟨rfl, Q3, hQ3, hp3, hs3, hu3⟩)
       | ((with_reducible apply gS 92); refine wl_run rfl (.int .i64 ((f + 1 : Nat) : Int)) (ex_addN (i := f) (d := 1) rfl rfl rfl (by omega)) ?_))
      have hu5 := upd_grown hg5
      have hty : ∀ b cs, (Value.slice CN j kN).ownBlock = some b → ¬ Blk wr b 3 cs := fun b cs hb => by obtain ⟨ds, h⟩ := hN.typed b hb; exact not_int h
      have hS5 := hS.upd hu5 hty (fun ad e h => by injection e with e; have := hge _ h; rw [← e] at this; dsimp only at this; omega)
      obtain ⟨tl3, hD3, -⟩ := hN3.ds
      have hS8 := hS5.upd hu3 (fun b cs hb => by subst hb; exact not_int hD3) (fun ad e h => by injection e with e; rw [← e] at h; dsimp only at h; omega)
      have hp5 := hu5.blk hp (hN.far hp)
      have hp8 := hu3.blk hp5 (fun e => hN3.far hp5 (by rw [e]; rfl))
      have hx8 := hu3.ext (hu5.ext (hx.trans hx2) (fun x h => by have := hge x h; have := hx.size; omega)) (fun x h => by have := hx.size; omega)
      have HRN : Hid (BM.Reach (S.map (·.1)) (f + 1) (Q3.map (·.1))) := hid_ (.step HRC.out (by rw [← HNA.out, ← List.map_append]; exact hp3.map _) (by rw [List.map_map]; exact hs3))
      have hQ8 : OwnP w8 w5.heap.size (some ⟨g3, 0, none⟩) (j + m) k5 Q3 := hQ3.base (by omega)
      go_roundw
      case rel => exact ⟨f + 1, j + m, k5, g3, Q3, by omega, by go_num, rfl, hQ8, hS8, by omega, HRN, hp8, hx8⟩
      case measure => simp [intOf]; omega
    ·obtain rfl : f = 15 := by omega
     have HLEN : Hid (2 * m - 2 ≤ m1) := hid_ (by
      have h1 := HRC.out.len
      rw [List.length_map, hQ.len, HSL.out] at h1
      rw [h1]
      exact BM.lenF_15 m (by omega))
     have hlen := HLEN.out
     have HBD : Hid (∀ p ∈ Q.map (·.1), p.2.length ≤ 32768 ∧ p.1 ≤ 9999 * 32768) := hid_ (fun p hp => by
      have h1 := HRC.out.bound HS1.out p hp
      exact h1)
     have HSY : Hid (∀ p ∈ Q.map (·.1), ∀ s ∈ p.2, -1 ≤ s ∧ s < 256) := hid_ (HRC.out.syms (R := fun s => -1 ≤ s ∧ s < 256) (fun p hp s hs => by have := BM.singN_syms counts i p (HPL.out.subset hp) s hs; omega))
     obtain ⟨h2, hh2⟩ : ∃ h2, 2 * m - 2 = h2 := ⟨_, rfl⟩
     rw [hh2] at hlen
     have HMK : Hid (∀ cs xs, cs = BM.csN (fun s => (BM.cont ((Q.map (·.1)).take h2)).count s) i 16 0 → xs = BM.xsN (fun s => (BM.cont ((Q.map (·.1)).take h2)).count s) i 16 0 → BM.Made counts cs xs) := hid_ (fun cs xs e1 e2 => ⟨S.map (·.1), Q.map (·.1), by rw [HN.out]; exact HPL.out, HSO.out, HRC.out, by rw [HSL.out, hh2, HN.out]; exact e1, by rw [HSL.out, hh2, HN.out]; exact e2⟩)
     have HQL : Hid ((Q.map (·.1)).length = m1) := hid_ (by rw [List.length_map, hQ.len])
     have hk1 : m1 ≤ k1 := by obtain ⟨tl, -, h1, h2, h3, h4⟩ := hQ.ds; exact h2
     clear HRC HSO HPL HS1 hS
     have hmm := @run_makeMap Tryz.prog
     go_upto_region 25 with (first
      | ((with_reducible apply gS 50); refine wl_run rfl (.bool false) (ex_lss rfl rfl rfl (by simp)) ?_)
      | ((with_reducible apply gS 97); refine wl_run rfl (.int .i64 ((2 * m : Nat) : Int)) (ex_mulN rfl rfl rfl (by omega)) ?_)
      | ((with_reducible apply gS 98); refine wl_run rfl (.int .i64 (h2 : Int)) (by rw [← hh2]; exact ex_subN rfl rfl rfl (by omega) (by omega)) ?_)
      | ((with_reducible apply gS 99); refine wl_run rfl (.slice (some ⟨g, 0, none⟩) h2 k1) (ex_headP rfl rfl rfl hlen hk1) ?_))
     have hm0 : MapI Tryz.prog 3 (W0.alloc (.map #[] 0)) W0.heap.size 0 (cntF (BM.cont ((Q.map (·.1)).take 0))) := by
      rw [List.take_zero, show BM.cont [] = [] from rfl, cntF_nil]
      exact MapG.made W0
     have hx5 := (Ext.refl W0).alloc (.map #[] 0)
     have hQ5 := hQ.ext hx5
     have hp5 := hp.ext hx5
     have hxw := hx.trans hx5
     have hgM := hgwq.1
     have hsM : W0.heap.size < (W0.alloc (.map #[] 0)).heap.size := by rw [World.size_alloc]; omega
     have hxW := hx.size
     generalize hWM : W0.heap.size = M at *
     generalize W0.alloc (.map #[] 0) = W5 at *
     clear hmm hQ hx5 hp hx hlf hWM
     go_loopw [101] (fun jv wr => ∃ (j q : Nat), j ≤ h2 ∧ jv = .int .i64 (j : Int) ∧ MapI Tryz.prog 3 wr M q (cntF (BM.cont ((Q.map (·.1)).take j))) ∧ q ≤ j * 32768 ∧ Upd (fun b => b = M) W5 wr) (fun j _ => h2 - (intOf j).toNat)
     case atStart => exact ⟨0, 0, by omega, rfl, hm0, by omega, Upd.refl _ _⟩
     case round =>
     have hmap5 : ∀ cs, ¬ Blk W5 M 3 cs := fun cs => hm0.not_cells
     clear hm0
     obtain ⟨j, q, hj, rfl, hm, hqb, hu⟩ := hrel
     have hQr := hQ5.upd hu (fun b cs hb => by subst hb; exact hmap5 cs) (fun ad e h => by injection e with e; rw [← e] at h; dsimp only at h; omega)
     by_cases hlj : j < h2
     ·have hQl : Q.length = m1 := hQr.len
      obtain ⟨tl, hDQ, -⟩ := hQr.ds
      have hmem : Q[j]'(by omega) ∈ Q := List.getElem_mem _
      have hbd := HBD.out _ (List.mem_map_of_mem (f := (·.1)) hmem)
      have HSYq := hid_ (HSY.out _ (List.mem_map_of_mem (f := (·.1)) hmem))
      have hq1 := hQr.all _ hmem
      have HTK : Hid (BM.cont ((Q.map (·.1)).take (j + 1)) = BM.cont ((Q.map (·.1)).take j) ++ (Q[j]'(by omega)).1.2) := hid_ (by
       have := BM.cont_take_succ (Q.map (·.1)) j (by rw [List.length_map]; omega)
       rw [this]
       simp)
      have HCB : Hid ((BM.cont ((Q.map (·.1)).take j)).length ≤ j * 32768) := hid_ (by
       have h1 := BM.cont_len (L := (Q.map (·.1)).take j) (b := 32768) (fun p hp => (HBD.out p (List.mem_of_mem_take hp)).1)
       have h2 : ((Q.map (·.1)).take j).length ≤ j := by rw [List.length_take]; exact Nat.min_le_left _ _
       exact le_mul32 h1 h2)
      have HLD : Hid ((Q.map toPk)[j]'(by rw [List.length_map]; omega) = toPk (Q[j]'(by omega))) := hid_ (by rw [List.getElem_map])
      have HLP : Hid (∀ (o : Oper) (ac : Act), o.op = .load 130 (.tmp 103) → ac.eval (.tmp 103) = .pointer (some ⟨g, j * 2, none⟩) → (execOp ac.eval o).run Tryz.prog wr = .ok (.value (.agg (pkV (toPk (Q[j]'(by omega)))))) wr) := hid_ (fun o ac ho hx => by
       have h := ex_loadPk ho hDQ (i := j) (by rw [List.length_map]; omega) hx
       rwa [HLD.out] at h)
      generalize Q[j]'(by omega) = q1 at *
      obtain ⟨⟨x1, y1⟩, v1⟩ := q1
      dsimp only at hq1
      have hq1' := hq1.1
      obtain ⟨A1, c1, rfl, -⟩ := hq1'
      obtain ⟨a1, hl1⟩ : ∃ a, y1.length = a := ⟨_, rfl⟩
      have HL1 := hid_ hl1
      dsimp only at hbd HTK HSYq HLP HLD
      unfold toPk at HLP
      dsimp only at HLP
      rw [hl1] at hbd hq1 HLP
      have hs1 := hq1.sl hl1
      clear hmem hDQ HLD hl1
      have hj2 : j * 32768 ≤ 16777216 := by omega
      go_upto_region 28 with (first
       | ((with_reducible apply gS 102); refine wl_run rfl (.bool true) (ex_lss rfl rfl rfl (by simpa using hlj)) ?_)
       | ((with_reducible apply gS 103); refine wl_run rfl (.pointer (some ⟨g, j * 2, none⟩)) (ex_ixPk rfl rfl rfl hlj) ?_)
       | ((with_reducible apply gS 104); refine wl_read rfl (.agg (pkV ((x1 : Int), .slice A1 a1 c1))) (HLP.out _ _ rfl rfl) ?_)
       | ((with_reducible apply gS 13); refine wAlo' rfl (some 13) rfl 130 rfl _ zeroPkV ?_; intro w7 g7 hb7 hx7 hg7)
       | ((with_reducible apply gT 13 104); refine wStB rfl 130 (.tmp 13) (.tmp 104) rfl g7 (pkV ((x1 : Int), .slice A1 a1 c1)) rfl rfl hb7 2 sizePk rfl rfl (pk_one _ _ _ _) ?_; intro w8 hb8 hg8; have hx8 := hx7.grown hg8 hg7; have hc8 : w8.cell? ⟨g7, 1, none⟩ = some (.slice A1 a1 c1) := hb8.cell 1)
       | ((with_reducible apply gS 106); refine wl_read rfl (.slice A1 a1 c1) (ex_loadL rfl rfl hc8) ?_))
      have hm8 := hm.ext hx8
      have hs8 := hs1.ext hx8
      have hu8 := hu.trans (Upd.of_ext (S := fun b => b = M) hx8) (fun x h => .inl h)
      have hM8 : M < w8.heap.size := hm8.lt
      have hm80 : MapI Tryz.prog 3 w8 M q (cntF (BM.cont ((Q.map (·.1)).take j) ++ y1.take 0)) := by rw [List.take_zero, List.append_nil]; exact hm8
      have hA1M : ∀ ad, A1 = some ad → ¬ (ad.block = M) := fun ad e h => by
       subst e
       obtain ⟨cs, hb⟩ := hq1.2 ad.block rfl
       exact hm.not_cells (by rw [← h]; exact hb)
      clear hx7 hx8 hb7 hb8 hg8 hg7 hm hm8 hu hs1 hq1 hQr hc8
      go_loopw [108] (fun iv wr => ∃ (e p : Nat), e ≤ a1 ∧ iv = .int .i64 (e : Int) ∧ MapI Tryz.prog 3 wr M p (cntF (BM.cont ((Q.map (·.1)).take j) ++ y1.take e)) ∧ p ≤ q + e ∧ Upd (fun b => b = M) w8 wr) (fun e _ => a1 - (intOf e).toNat)
      case atStart => exact ⟨0, q, by omega, rfl, hm80, by omega, Upd.refl _ _⟩
      case round =>
      clear hm80
      obtain ⟨e, p, he, rfl, hm, hpb, hu⟩ := hrel
      by_cases hle : e < a1
      ·obtain ⟨ad, u, rfl, hab, hxk, hcell⟩ := (hs8.upd hu hA1M).at1 hle
       obtain ⟨hkl, rfl⟩ := ints_at _ _ _ hxk
       have hsy := HSYq.out _ (List.getElem_mem hkl)
       have HTE : Hid (y1.take (e + 1) = y1.take e ++ [y1[e]]) := hid_ (List.take_succ_eq_append_getElem hkl)
       generalize y1[e] = s1 at *
       have HSA := hid_ (cntF_same (BM.cont ((Q.map (·.1)).take j) ++ y1.take e) s1)
       have HOT := hid_ (fun t => cntF_other (BM.cont ((Q.map (·.1)).take j) ++ y1.take e) s1 t)
       have hlook := cntF_look (BM.cont ((Q.map (·.1)).take j) ++ y1.take e) s1
       have hcb : (BM.cont ((Q.map (·.1)).take j) ++ y1.take e).count s1 ≤ 100000000 := by
        have h1 := List.count_le_length (a := s1) (l := BM.cont ((Q.map (·.1)).take j) ++ y1.take e)
        rw [List.length_append, List.length_take] at h1
        have h3 := HCB.out
        omega
       have HAA : Hid (BM.cont ((Q.map (·.1)).take j) ++ y1.take (e + 1) = (BM.cont ((Q.map (·.1)).take j) ++ y1.take e) ++ [s1]) := hid_ (by rw [HTE.out, List.append_assoc])
       generalize BM.cont ((Q.map (·.1)).take j) ++ y1.take e = CC at *
       generalize CC.count s1 = ct at *
       have hkey := hid_ (keyOf_i64 (P := Tryz.prog) Tryz.underlying3 (a := s1) (by omega) (by omega))
       have HLK := hid_ hlook
       clear hxk hlook
       go_wp2_with (first
        | ((with_reducible apply gS 109); refine wl_run rfl (.bool true) (ex_lss rfl rfl rfl (by simpa using hle)) ?_)
        | ((with_reducible apply gS 114); refine wpList_look_g (by rfl) _ _ 136 3 rfl keyed_int' Tryz.underlying136 (.int .i64 0) (zero_int _) rfl hm _ rfl s1 trivial hkey.out _ HLK.out ?_)
        | ((with_reducible apply gS 115); refine wl_run rfl (.int .i64 ((ct + 1 : Nat) : Int)) (ex_addN (i := ct) (d := 1) rfl rfl rfl (by omega)) ?_)
        | (at_mapUpdate; refine wpList_upd_g (by rfl) _ _ _ 136 3 rfl keyed_int' Tryz.underlying136 rfl hm (by omega) _ rfl _ rfl s1 hkey.out (cntF (CC ++ [s1])) HSA.out (fun t _ ht => HOT.out t (fun e => ht (by rw [e]))) (fun t _ ht => by injection ht) ?_; intro w9 hm9 hg9))
       go_roundw
       case rel => exact ⟨e + 1, p + 1, by omega, by go_num, by rw [HAA.out]; exact hm9, by omega, hu.grown hg9 (fun b hb => .inl (by injection hb with hb; exact hb.symm))⟩
       case measure => simp [intOf]; omega
      ·obtain rfl : e = a1 := by omega
       have HTA : Hid (BM.cont ((Q.map (·.1)).take j) ++ y1.take e = BM.cont ((Q.map (·.1)).take (j + 1))) := hid_ (by rw [HTK.out]; congr 1; exact List.take_of_length_le (by rw [HL1.out]; exact Nat.le_refl _))
       rw [HTA.out] at hm
       go_wp2_with (first
        | ((with_reducible apply gS 109); refine wl_run rfl (.bool false) (ex_lss rfl rfl rfl (by simp)) ?_)
        | ((with_reducible apply gS 117); refine wl_run rfl (.int .i64 ((j + 1 : Nat) : Int)) (ex_addN (i := j) (d := 1) rfl rfl rfl (by omega)) ?_))
       go_roundw
       case rel => exact ⟨j + 1, p, by omega, by go_num, hm, by omega, hu8.trans hu (fun x h => .inl h)⟩
       case measure => simp [intOf]; omega
     ·obtain rfl : j = h2 := by omega
      obtain ⟨CC, hCC⟩ : ∃ CC, BM.cont ((Q.map (·.1)).take j) = CC := ⟨_, rfl⟩
      rw [hCC] at hm HMK
      obtain ⟨cf, hcf⟩ : ∃ cf : Int → Nat, (fun s => CC.count s) = cf := ⟨_, rfl⟩
      rw [hcf] at HMK
      have HLK : Hid (∀ s, (cntF CC s).getD (.int .i64 0) = .int .i64 ((cf s : Nat) : Int)) := hid_ (fun s => by rw [cntF_look, ← hcf])
      generalize cntF CC = FF at *
      have hpr := hu.blk hp5 (by omega)
      have hxr := hu.ext hxw (fun x h => by omega)
      have hvr := hv.ext hxr
      have hMr := hm.lt
      clear hCC hcf HBD HSY hQr hu hp5 hxw hQ5 HQL HLEN
      have HX0 : Hid ((BM.xsN cf i 0 0).length = 0) := hid_ (by have := BM.xsN_len cf i 0 0; omega)
      have HC0 : Hid (BM.csN cf i 0 0 = List.replicate 16 0) := hid_ (BM.csN_zero cf i)
      go_upto_region 35 with (first
       | ((with_reducible apply gS 102); refine wl_run rfl (.bool false) (ex_lss rfl rfl rfl (by simp)) ?_)
       | ((with_reducible apply gS 16); refine wAlo' rfl (some 16) rfl 105 rfl _ zeroTblM ?_; intro w6 gt ht6 hx6 hgt))
      have hm6 := hm.ext hx6
      have hp6 := hpr.ext hx6
      have hxw6 := hxr.trans hx6
      have hgpt : gp ≠ gt := by have := hpr.lt; omega
      have hMgt : M ≠ gt := by omega
      have ho6 : w6.ownsRow w.heap.size 3 1 (.slice none 0 0) 0 (ints (BM.xsN cf i 0 0)) := by
       rw [List.eq_nil_of_length_eq_zero HX0.out]
       exact own_nil _ _ _ _
      have ht60 : Blk w6 gt 105 (tblv (BM.csN cf i 0 0) (.slice none 0 0)) := by rw [HC0.out]; exact ht6
      clear ht6 hm hpr hxr hx6 hvr
      go_loopw [118] (fun kv wr => ∃ (k x d : Nat) (B : Option Addr), k ≤ 16 ∧ kv = .int .i64 (k : Int) ∧ Blk wr gt 105 (tblv (BM.csN cf i k 0) (.slice B x d)) ∧ Hid ((BM.xsN cf i k 0).length = x) ∧ wr.ownsRow w.heap.size 3 1 (.slice B x d) x (ints (BM.xsN cf i k 0)) ∧ MapI Tryz.prog 3 wr M q FF ∧ Blk wr gp 105 (tblv (List.replicate 16 0) (.slice none 0 0)) ∧ Ext w wr) (fun k _ => 16 - (intOf k).toNat)
      case atStart => exact ⟨0, 0, 0, none, by omega, rfl, ht60, HX0, ho6, hm6, hp6, hxw6⟩
      case round =>
      clear ht60 HX0 ho6 hm6 hp6 hxw6 HC0
      obtain ⟨k, x, d, B, hk, rfl, ht, HX, hown, hm, hp, hx⟩ := hrel
      by_cases hlk : k < 16
      ·go_upto_region 38 with ((with_reducible apply gS 119); refine wl_run rfl (.bool true) (ex_lss rfl rfl rfl (by simpa using hlk)) ?_)
       try rw [show decide ((k : Int) < 16) = true by simp; omega]
       go_loopw [123] (fun sv wr => ∃ (s x d : Nat) (B : Option Addr), s ≤ i ∧ sv = .int .i64 (s : Int) ∧ Blk wr gt 105 (tblv (BM.csN cf i k s) (.slice B x d)) ∧ Hid ((BM.xsN cf i k s).length = x) ∧ wr.ownsRow w.heap.size 3 1 (.slice B x d) x (ints (BM.xsN cf i k s)) ∧ MapI Tryz.prog 3 wr M q FF ∧ Blk wr gp 105 (tblv (List.replicate 16 0) (.slice none 0 0)) ∧ Ext w wr) (fun s _ => i - (intOf s).toNat)
       case atStart => exact ⟨0, x, d, B, by omega, rfl, ht, HX, hown, hm, hp, hx⟩
       case round =>
       clear ht HX hown hm hp hx
       obtain ⟨s, x, d, B, hs, rfl, ht, HX, hown, hm, hp, hx⟩ := hrel
       obtain ⟨k1, hkk⟩ : ∃ k1, k + 1 = k1 := ⟨_, rfl⟩
       by_cases hls : s < i
       ·have hkey := hid_ (keyOf_i64 (P := Tryz.prog) Tryz.underlying3 (a := (s : Int)) (by omega) (by omega))
        have hlook := HLK.out (s : Int)
        have hxb : x ≤ 5000 := by
         have h1 := BM.xsN_len cf i k s
         have h2 : k * i ≤ 16 * i := Nat.mul_le_mul_right i (by omega)
         rw [HX.out] at h1
         omega
        by_cases he : cf (s : Int) = k + 1
        ·have HE := hid_ he
         have HCS := hid_ (BM.csN_set cf i k s he)
         have HXS := hid_ (BM.xsN_snoc cf i k s he)
         have HCL := hid_ (BM.csN_len cf i k s)
         have hck : wr.cell? ⟨gt, k, none⟩ = some (.int .i64 (((BM.filt cf k s).length : Nat) : Int)) := by
          rw [ht.cell, tblM_get _ _ k (by rw [BM.csN_len]; exact hlk), BM.csN_at cf i k s hlk]
         have hfl := BM.filt_len cf k s
         rw [he, hkk] at hlook
         generalize (BM.filt cf k s).length = fl at *
         go_wp2_with (first
          | ((with_reducible apply gS 124); refine wl_run rfl (.bool true) (ex_lss rfl rfl rfl (by simpa using hls)) ?_)
          | ((with_reducible apply gS 128); refine wpList_look_g (by rfl) _ _ 136 3 rfl keyed_int' Tryz.underlying136 (.int .i64 0) (zero_int _) rfl hm _ rfl (s : Int) trivial hkey.out _ hlook ?_)
          | ((with_reducible apply gS 130); refine wl_run rfl (.int .i64 (k1 : Int)) (by rw [← hkk]; exact ex_addN (i := k) (d := 1) rfl rfl rfl (by omega)) ?_)
          | ((with_reducible apply gS 131); refine wl_run rfl (.bool true) (ex_eql rfl rfl rfl (by simp)) ?_)
          | ((with_reducible apply gS 134); refine wl_run rfl (.pointer (some ⟨gt, k, none⟩)) (ex_ixArr0 Tryz.underlying103 sizeI rfl rfl rfl hlk) ?_)
          | ((with_reducible apply gS 135); refine wl_read rfl (.int .i64 (fl : Int)) (ex_loadI rfl rfl hck) ?_)
          | ((with_reducible apply gS 136); refine wl_run rfl (.int .i64 ((fl + 1 : Nat) : Int)) (ex_addN (i := fl) (d := 1) rfl rfl rfl (by omega)) ?_)
          | ((with_reducible apply gS 138); refine wl_run rfl (.pointer (some ⟨gt, k, none⟩)) (ex_ixArr0 Tryz.underlying103 sizeI rfl rfl rfl hlk) ?_)
          | ((with_reducible apply gT 138 136); refine wl_storeI rfl _ _ rfl gt k _ rfl rfl ht (by rw [tblv_size _ _ HCL.out]; omega) ?_; have ht1 := ht.set_ k (.int .i64 ((fl + 1 : Nat) : Int)); rw [tblM_set _ _ _ _ (by rw [HCL.out]; exact hlk), Int.natCast_add, Int.natCast_one, HCS.out] at ht1; have hu1 := (Upd.refl (fun b => b = gt) wr).setCell (p := ⟨gt, k, none⟩) rfl (.int .i64 ((fl + 1 : Nat) : Int)); rw [Int.natCast_add, Int.natCast_one] at hu1; have ho1 := own_upd2 hown hu1 (fun y hy e => own_blk_ne hown ht tblM_ne (by rw [hy, e])); have hm1 := hm.setCell (a := ⟨gt, k, none⟩) hMgt (.int .i64 ((fl : Int) + 1)); have hp1 := hu1.blk hp hgpt; have hx1 := hu1.ext hx (fun y h => by have := hx.size; have := hxW; omega); have hc16 := tblv_last ht1 (BM.csN_len cf i k (s + 1)))
          | ((with_reducible apply gS 140); refine wl_read rfl (.slice B x d) (ex_loadL rfl rfl hc16) ?_)
          | ((with_reducible apply gS 142); refine wLit1 rfl 47 3 _ rfl (some 142) rfl Tryz.underlying47 1 sizeI zeroI1 (.int .i64 (s : Int)) rfl rfl (by omega) (by omega) ?_; intro w7 g7 hb7 hx7 hg7; have hsz7 := (hx1.trans hx7).size)
          | ((with_reducible apply gS 143); refine wApf elt_intC rfl _ _ rfl w.heap.size _ _ _ rfl (own_keep ho1 hx7) _ 1 _ rfl (IntsAt.lit hb7).1 (ints_one_mem [(s : Int)]) (by omega) (by omega) (by omega) ?_; intro B8 d8 w8 ho8 hg8 hr8; have hu8 := upd_grown hg8; have ht8 := hu8.blk (ht1.ext hx7) (fun e => own_blk_ne (own_keep ho1 hx7) (ht1.ext hx7) tblM_ne e.symm); have hp8 := hu8.blk (hp1.ext hx7) (fun e => own_blk_ne (own_keep ho1 hx7) (hp1.ext hx7) tblM_ne e.symm); have hm8 := (hm1.ext hx7).grown hg8 (own_map_ne (own_keep ho1 hx7) (hm1.ext hx7)); have hx8 := hu8.ext (hx1.trans hx7) (fun y h => ((own_keep ho1 hx7).lt y h).1))
          | ((with_reducible apply gT 144 143); refine wl_storeL rfl _ _ rfl gt 16 B8 (x + 1) d8 rfl rfl ht8 (by rw [tblv_size _ _ (BM.csN_len cf i k (s + 1))]; omega) ?_))
         have ht9 := ht8.set_ 16 (.slice B8 (x + 1) d8)
         rw [tblM_setLast _ _ _ (BM.csN_len cf i k (s + 1))] at ht9
         have hu9 := (Upd.refl (fun b => b = gt) w8).setCell (p := ⟨gt, 16, none⟩) rfl (.slice B8 (x + 1) d8)
         have ho9 := own_upd2 ho8 hu9 (fun y hy e => own_blk_ne ho8 ht8 tblM_ne (by rw [hy, e]))
         have hm9 := hm8.setCell (a := ⟨gt, 16, none⟩) hMgt (.slice B8 (x + 1) d8)
         have hp9 := hu9.blk hp8 hgpt
         have hx9 := hu9.ext hx8 (fun y h => by have := hx.size; have := hxW; omega)
         rw [← ints_app, ← HXS.out] at ho9
         go_roundw
         case rel => exact ⟨s + 1, x + 1, d8, B8, by omega, by go_num, ht9, hid_ (by rw [HXS.out, List.length_append, HX.out]; rfl), ho9, hm9, hp9, hx9⟩
         case measure => simp [intOf]; omega
        ·have HCK := hid_ (BM.csN_keep cf i k s he)
         have HXK := hid_ (BM.xsN_keep cf i k s he)
         have heI : decide (((cf (s : Int) : Nat) : Int) = (k1 : Int)) = false := by simp; omega
         generalize cf (s : Int) = cv at *
         go_wp2_with (first
          | ((with_reducible apply gS 124); refine wl_run rfl (.bool true) (ex_lss rfl rfl rfl (by simpa using hls)) ?_)
          | ((with_reducible apply gS 128); refine wpList_look_g (by rfl) _ _ 136 3 rfl keyed_int' Tryz.underlying136 (.int .i64 0) (zero_int _) rfl hm _ rfl (s : Int) trivial hkey.out _ hlook ?_)
          | ((with_reducible apply gS 130); refine wl_run rfl (.int .i64 (k1 : Int)) (by rw [← hkk]; exact ex_addN (i := k) (d := 1) rfl rfl rfl (by omega)) ?_)
          | ((with_reducible apply gS 131); refine wl_run rfl (.bool false) (ex_eql rfl rfl rfl heI) ?_))
         go_roundw
         case rel =>
          first
           | exact ⟨s + 1, by omega, by go_num, x, d, B, by rw [HCK.out]; exact ht, hid_ (by rw [HXK.out, HX.out]), by rw [HXK.out]; exact hown, hm, hp, hx⟩
           | exact ⟨s + 1, x, d, B, by omega, by go_num, by rw [HCK.out]; exact ht, hid_ (by rw [HXK.out, HX.out]), by rw [HXK.out]; exact hown, hm, hp, hx⟩
           | ((repeat apply Exists.intro); refine ⟨?_, rfl⟩; exact ⟨s + 1, x, d, B, by omega, by go_num, by rw [HCK.out]; exact ht, hid_ (by rw [HXK.out, HX.out]), by rw [HXK.out]; exact hown, hm, hp, hx⟩)
         case measure => simp [intOf]; omega
       ·obtain rfl : s = i := by omega
        have HCN := hid_ (BM.csN_next cf s k)
        have HXN := hid_ (BM.xsN_next cf s k)
        rw [HCN.out] at ht
        rw [HXN.out] at hown HX
        go_wp2_with (first
         | ((with_reducible apply gS 124); refine wl_run rfl (.bool false) (ex_lss rfl rfl rfl (by simp)) ?_)
         | ((with_reducible apply gS 146); refine wl_run rfl (.int .i64 (k1 : Int)) (by rw [← hkk]; exact ex_addN (i := k) (d := 1) rfl rfl rfl (by omega)) ?_))
        go_roundw
        case rel => first
         | exact ⟨k1, by omega, rfl, x, d, B, by rw [← hkk]; exact ht, by rw [← hkk]; exact HX, by rw [← hkk]; exact hown, hm, hp, hx⟩
         | exact ⟨k1, x, d, B, by omega, rfl, by rw [← hkk]; exact ht, by rw [← hkk]; exact HX, by rw [← hkk]; exact hown, hm, hp, hx⟩
        case measure => simp [intOf]; omega
      ·obtain rfl : k = 16 := by omega
       have hHX := HX.out
       subst hHX
       have HSZ := hid_ (fun v => tblv_size (BM.csN cf i 16 0) v (BM.csN_len cf i 16 0))
       have hzs : (Value.agg (tblv (List.replicate 16 0) (.slice none 0 0))).cells.size = 17 := tblv_size _ _ (by simp)
       have HM := hid_ (HMK.out _ _ rfl rfl)
       have HCL := hid_ (BM.csN_len cf i 16 0)
       have HON := hid_ (tblM_one (BM.csN cf i 16 0))
       generalize BM.csN cf i 16 0 = cs at *
       generalize BM.xsN cf i 16 0 = xs at *
       go_wp2_with (first
        | ((with_reducible apply gS 119); refine wl_run rfl (.bool false) (ex_lss rfl rfl rfl (by simp)) ?_)
        | ((with_reducible apply gS 147); refine wLdB rfl 105 (.tmp 16) rfl gt rfl ht _ Tryz.underlying105 rfl 17 sizeTbl (HSZ.out _) ?_)
        | ((with_reducible apply gT 2 147); refine wStB rfl 105 (.tmp 2) (.tmp 147) rfl gp _ rfl rfl hp 17 sizeTbl (HSZ.out _) hzs (HON.out _ _ _) ?_; intro w9 hb9 hg9))
       have hu9 := upd_grown hg9
       have ho9 := own_upd2 hown hu9 (fun y hy e => own_blk_ne hown hp tblM_ne (by rw [hy]; exact e))
       exact ret_cell_tmp rfl rfl gp rfl hb9 _ Tryz.underlying105 rfl 17 sizeTbl (HSZ.out _) ⟨cs, xs, B, d, rfl, HM.out, HCL.out, ho9, hu9.ext hx (fun y h => by injection h with h; omega)⟩
end
end Go.Proofs.YtlhggcbpipmjhaaGreatDoor
