/- Contracts for the law RescueDecodesCard, part 20: what the functions that it reaches answer, for all arguments that the theorems name. -/
import Derived.Deep.Cut
import Derived.Test.YtkggcjdlpendfaaGreatDoorMRescueDecodesCard19
import Derived.Test.YtkggcjdlpendfaaGreatDoorMRescueDecodesCard3
import Derived.Laws.CopyOwn
import Derived.WalkSmall
import Derived.Test.YtkggcjdlpendfaaGreatDoorMRescueDecodesCard4
import Derived.Test.YtkggcjdlpendfaaGreatDoorMRescueDecodesCard13
import Derived.Test.YtkggcjdlpendfaaGreatDoorMRescueDecodesCard15
namespace Go.Proofs.YtkggcjdlpendfaaGreatDoor
set_option linter.unusedVariables false
set_option linter.unusedSimpArgs false
open Go.RowKit
theorem bytesV_sub (bs : List Nat) (i k : Nat) : bytesV ((bs.drop i).take k) = ((bytesV bs).drop i).take k := by simp [bytesV]
theorem elt_bss : Elt Tryz.prog 71 45 1 24 := ⟨Tryz.underlying71, by kernel_rfl, by omega⟩
theorem sizeBs : (Tryz.prog.info? 45).map (·.size) = some 1 := by kernel_rfl
theorem zeroBs : ((Tryz.prog.info? 45).bind (·.zero)).isSome = true := by kernel_rfl
theorem zeroI : ((Tryz.prog.info? 3).bind (·.zero)).isSome = true := by kernel_rfl
def SpIs (z : Option (List (List Nat) × List Nat)) (w : World) (e : Ending) (w' : World) : Prop :=
 match z with
 | none => e = .returned (.tuple #[.slice none 0 0, .slice none 0 0, .int .i64 4]) ∧ Ext w w'
 | some (P, M) => ∃ A c B d VS, e = .returned (.tuple #[.slice A P.length c, .slice B M.length d, .int .i64 0]) ∧ SL w' 1 (.slice A P.length c) P.length VS ∧ Pieces w' VS P ∧ SL w' 1 (.slice B M.length d) M.length (ints (M.map Int.ofNat)) ∧ Ext w w'
def SpIsE (z : Option (List (List Nat) × List Nat)) (w : World) (e : Ending) (w' : World) : Prop :=
 match z with
 | none => e = .returned (.tuple #[.slice none 0 0, .slice none 0 0, .int .i64 4]) ∧ Ext w w'
 | some (P, M) => ∃ A c B d VS, e = .returned (.tuple #[.slice A P.length c, .slice B M.length d, .int .i64 0]) ∧ SL w' 1 (.slice A P.length c) P.length VS ∧ Pieces w' VS P ∧ SL w' 1 (.slice B M.length d) M.length (ints (M.map Int.ofNat)) ∧ Ext w w' ∧
    (∀ ad, A = some ad → w.heap.size ≤ ad.block) ∧ ∀ ad, B = some ad → w.heap.size ≤ ad.block
theorem SpIsE.is {z : Option (List (List Nat) × List Nat)} {w w' : World} {e : Ending} (h : SpIsE z w e w') : SpIs z w e w' := by
 cases z with
 | none => exact h
 | some q =>
   obtain ⟨P, M⟩ := q
   obtain ⟨A, c, B, d, VS, h1, h2, h3, h4, h5, -⟩ := h
   exact ⟨A, c, B, d, VS, h1, h2, h3, h4, h5⟩
set_option maxRecDepth 20000 in
set_option maxHeartbeats 800000 in
theorem rsplit_anyF (bs : List Nat) (v : Value) (w : World) (hv : SL w 1 v bs.length (bytesV bs)) (hlt : ∀ b ∈ bs, b < 256) (hn : bs.length ≤ 1048576) :
 Calls Tryz.prog 53 #[v] w (SpIsE (spGo bs [] [] []) w) := by
 have HB := hid_ hlt
 have hv' := hv
 obtain ⟨A, c, rfl, hc1, hc2, -, -⟩ := hv'
 obtain ⟨ez, hez⟩ : ∃ ez, ez = spGo bs [] [] [] := ⟨_, rfl⟩
 have HEZ := hid_ hez
 rw [← hez]
 clear hez hlt
 have HSE := hid_ (fun i P M c (h : bs.length ≤ i) => sp_end (bs := bs) (i := i) (P := P) (M := M) (c := c) h)
 have HSP := hid_ (fun i P M c (h : i < bs.length) hx => sp_plain (bs := bs) (i := i) (P := P) (M := M) (c := c) h hx)
 have HS2 := hid_ (fun i P M c (h : i + 1 < bs.length) hx => sp_two (bs := bs) (i := i) (P := P) (M := M) (c := c) h hx)
 have HSL := hid_ (fun i P M c (h : i + 1 = bs.length) hx => sp_last (bs := bs) (i := i) (P := P) (M := M) (c := c) h hx)
 obtain ⟨n, hnn⟩ : ∃ n, n = bs.length := ⟨_, rfl⟩
 have HBL : Hid (bs.length = n) := hid_ hnn.symm
 rw [← hnn] at hv hn hc1 ⊢
 clear hnn
 go_enter Tryz.func53, Tryz.ntmps53
 go_wp2_with fail
 go_loopw [5, 6, 7, 8] (fun s1 s2 q iv wr => ∃ (i fr : Nat) (P : List (List Nat)) (M : List Nat) (A1 : Option Addr) (c1 : Nat) (A2 : Option Addr) (c2 : Nat) (VS : List Value), i ≤ n ∧ fr ≤ i ∧ iv = .int .i64 (i : Int) ∧ q = .int .i64 (fr : Int) ∧ P.length ≤ i ∧ M.length ≤ i ∧ s1 = .slice A1 P.length c1 ∧ s2 = .slice A2 M.length c2 ∧
  Two w wr w.heap.size 45 3 (.slice A1 P.length c1) (.slice A2 M.length c2) P.length M.length VS (ints (M.map Int.ofNat)) none none ∧ Pieces w VS P ∧ Hid (ez = spGo (bs.drop i) P M ((bs.drop fr).take (i - fr)))) (fun _ _ _ i _ => n - (intOf i).toNat)
 case atStart => exact ⟨0, 0, [], [], none, 0, none, 0, [], by omega, by omega, rfl, rfl, by simp, by simp, rfl, rfl, ⟨Ext.refl _, ⟨Nat.le_refl _, Nat.le_refl _⟩, own_nil _ _ _ _, own_nil _ _ _ _, (fun b h => by simp [Value.ownBlock] at h), (fun _ _ h => by cases h), (fun _ _ h => by cases h)⟩, ⟨rfl, fun i h => by simp at h⟩, HEZ⟩
 case round =>
  clear HEZ
  obtain ⟨i, fr, P, M, A1, c1, A2, c2, VS, hi, hfr, rfl, rfl, hPl, hMl, rfl, rfl, T0, HPI, HEZ⟩ := hrel
  by_cases hlt : i < n
  ·have hil : i < bs.length := by rw [HBL.out]; exact hlt
   obtain ⟨ad, u, rfl, hab, hxk, hcell⟩ := (hv.ext T0.ext).at1 hlt
   obtain ⟨hkl, rfl⟩ := bytes_at hxk
   have hx8 : bs[i] < 256 := HB.out _ (List.getElem_mem hil)
   have HPP := hid_ (fun hx => HEZ.out.trans (HSP.out i P M ((bs.drop fr).take (i - fr)) hil hx))
   have HTK : Hid ((bs.drop fr).take (i + 1 - fr) = (bs.drop fr).take (i - fr) ++ [bs[i]]) := hid_ (by
    rw [show i + 1 - fr = i - fr + 1 by omega, List.take_succ_eq_append_getElem (by simp; omega)]
    congr 2
    simp
    congr 1
    omega)
   by_cases hx : bs[i] = 255
   ·by_cases h1 : i + 1 = n
    ·have HER : Hid (ez = none) := hid_ (HEZ.out.trans (HSL.out i P M _ (by rw [HBL.out]; exact h1) hx))
     have hd : decide ((i : Int) + 1 = (n : Int)) = true := by simp; omega
     have hd2 : ((i : Int) + 1 == (n : Int)) = true := by simp; omega
     have hwr : IntKind.i64.wrap ((i : Int) + 1) = (i : Int) + 1 := IntWalk.i64_in _ (by omega)
     clear HPP HTK HEZ
     rw [hx] at hcell
     clear hxk hx8
     go_wp2_with fail
     go_ret3
     rw [HER.out]
     exact ⟨rfl, T0.ext⟩
    ·have h1' : i + 1 < n := by omega
     obtain ⟨ad2, u2, e2, -, hyk, hcell2⟩ := (hv.ext T0.ext).at1 h1'
     injection e2 with e2
     subst e2
     obtain ⟨hkl2, rfl⟩ := bytes_at hyk
     have hy : bs[i + 1] < 256 := HB.out _ (List.getElem_mem hkl2)
     have HT := hid_ (HEZ.out.trans (HS2.out i P M _ hkl2 hx))
     have HTK2 : Hid ((bs.drop fr).take (i + 2 - fr) = (bs.drop fr).take (i - fr) ++ [255, bs[i + 1]]) := hid_ (by
      rw [show i + 2 - fr = i - fr + 1 + 1 by omega, List.take_succ_eq_append_getElem (by simp; omega), List.take_succ_eq_append_getElem (by simp; omega)]
      simp only [List.append_assoc, List.getElem_drop]
      congr 1
      simp only [List.singleton_append, List.cons.injEq, and_true]
      refine ⟨?_, ?_⟩
      ·rw [← hx]; congr 1; omega
      ·congr 1; omega)
     have hd : decide ((i : Int) + 1 = (n : Int)) = false := by simp; omega
     have hd2 : ((i : Int) + 1 == (n : Int)) = false := by simp; omega
     have hdI : ¬ ((i : Int) + 1 = (n : Int)) := by omega
     have hwr : IntKind.i64.wrap ((i : Int) + 1) = (i : Int) + 1 := IntWalk.i64_in _ (by omega)
     have hwr2 : IntKind.i64.wrap ((i : Int) + 1 + 1) = (i : Int) + 1 + 1 := IntWalk.i64_in _ (by omega)
     have hwr3 : IntKind.i64.wrap ((i : Int) + 2) = (i : Int) + 2 := IntWalk.i64_in _ (by omega)
     have hi1 : i + 1 < n := h1'
     have hi1I : (i : Int) + 1 < (n : Int) := by omega
     clear HPP HTK HEZ hxk hyk hx8
     rw [hx] at hcell
     by_cases hy1 : bs[i + 1] = 255
     ·rw [if_pos hy1] at HT
      rw [hy1] at hcell2
      have hcell3 := hcell2
      unfold Addr.add at hcell3
      rw [if_neg (by omega)] at hcell3
      clear hy hy1 HTK2
      go_wp2_with fail
      go_ret3
      rw [HT.out]
      exact ⟨rfl, T0.ext⟩
     ·rw [if_neg hy1] at HT
      have hyI : ¬ (((bs[i + 1] : Nat) : Int) = 255) := by omega
      have hyb : (((bs[i + 1] : Nat) : Int) == 255) = false := by simp; omega
      by_cases hy0 : bs[i + 1] = 0
      ·rw [if_pos hy0] at HT
       rw [hy0] at hcell2 HTK2
       have hcell3 := hcell2
       unfold Addr.add at hcell3
       rw [if_neg (by omega)] at hcell3
       have HNX : Hid (ez = spGo (bs.drop (i + 2)) P M ((bs.drop fr).take (i + 2 - fr))) := hid_ (by rw [HT.out, HTK2.out])
       clear HT HTK2 hy hy1 hyI hyb hy0
       go_wp2_with fail
       go_roundw
       case rel => exact ⟨i + 2, fr, P, M, A1, c1, A2, c2, VS, by omega, by omega, by go_num, rfl, by omega, by omega, rfl, rfl, T0, HPI, HNX⟩
       case measure => simp [intOf]; omega
      ·rw [if_neg hy0] at HT
       have hdy : decide ((0 : Int) < ((bs[i + 1] : Nat) : Int)) = true := by simp; omega
       have hy0I : 0 < bs[i + 1] := by omega
       have HCX : ∀ W, Ext w W → W.cell? (ad.add ((i + 1) * 1)) = some (.int .u8 ((bs[i + 1] : Nat) : Int)) := fun W hW => by
        rw [Nat.mul_one]
        obtain ⟨ad3, u3, e3, -, hk3, hc3⟩ := (hv.ext hW).at1 h1'
        injection e3 with e3
        subst e3
        obtain ⟨_, hu⟩ := bytes_at hk3
        rw [hc3, hu]
       generalize bs[i + 1] = y at *
       clear HTK2 hx
       have hcell3 := hcell2
       unfold Addr.add at hcell3
       rw [if_neg (by omega)] at hcell3
       have HPS : Hid (Pieces w (VS ++ [.slice (if c = fr then some ad else (some ad).map (·.add fr)) (i - fr) (c - fr)]) (P ++ [(bs.drop fr).take (i - fr)])) := hid_ (HPI.snoc (by rw [List.length_take, List.length_drop, HBL.out]; omega) (by
        have := SL.sub hv hfr (show i ≤ n by omega)
        rwa [← bytesV_sub] at this))
       have hI : Ext w wr.drew := T0.ext.drew
       have T0d := T0.later (Ext.refl wr).drew
       go_wp2_with fail
       refine wp_region_oi (Ext w) (by kernel_rfl) ?_
       refine oi_run (k := 0) (by kernel_rfl) rfl (by rfl) (.slice A1 P.length c1) (ex_move rfl rfl) hI ?_
       simp only [Act.put, sA, sB, sC]
       refine oi_run (k := 1) (by kernel_rfl) rfl (by rfl) (.slice (some ad) n c) (ex_move rfl rfl) hI ?_
       simp only [Act.put, sA, sB, sC]
       refine oi_run (k := 2) (by kernel_rfl) rfl (by rfl) (.int .i64 ((fr : Nat) : Int)) (ex_move rfl rfl) hI ?_
       simp only [Act.put, sA, sB, sC]
       refine oi_run (k := 3) (by kernel_rfl) rfl (by rfl) (.int .i64 ((i : Nat) : Int)) (ex_move rfl rfl) hI ?_
       simp only [Act.put, sA, sB, sC]
       refine oi_run (k := 4) (by kernel_rfl) rfl (by rfl) (.slice (if c = fr then some ad else (some ad).map (·.add fr)) (i - fr) (c - fr)) (ex_sliceB rfl rfl rfl rfl (by omega) (by omega) (by omega)) hI ?_
       simp only [Act.put, sA, sB, sC]
       refine oi_run (k := 7) (by kernel_rfl) rfl (by rfl) (.slice A2 M.length c2) (ex_move rfl rfl) hI ?_
       simp only [Act.put, sA, sB, sC]
       refine oi_run (k := 8) (by kernel_rfl) rfl (by rfl) (.slice (some ad) n c) (ex_move rfl rfl) hI ?_
       simp only [Act.put, sA, sB, sC]
       refine oi_run (k := 9) (by kernel_rfl) rfl (by rfl) (.int .i64 ((i : Nat) : Int)) (ex_move rfl rfl) hI ?_
       simp only [Act.put, sA, sB, sC]
       refine oi_run (k := 10) (by kernel_rfl) rfl (by rfl) (.int .i64 ((i + 1 : Nat) : Int)) (ex_addN (i := i) (d := 1) rfl rfl rfl (by omega)) hI ?_
       simp only [Act.put, sA, sB, sC]
       refine oi_run (k := 11) (by kernel_rfl) rfl (by rfl) (.pointer (some (ad.add ((i + 1) * 1)))) (ex_ixSl Tryz.underlying45 sizeU8' rfl rfl rfl hi1) hI ?_
       simp only [Act.put, sA, sB, sC]
       refine oi_fix (k := 12) (by kernel_rfl) rfl (by rfl) (.int .u8 ((y : Nat) : Int)) (fun W hW => ex_loadU rfl rfl (HCX W hW)) hI ?_
       simp only [Act.put, sA, sB, sC]
       refine oi_run (k := 13) (by kernel_rfl) rfl (by rfl) (.int .i64 ((y : Nat) : Int)) (ex_conv rfl rfl (run_conv8 y hy)) hI ?_
       simp only [Act.put, sA, sB, sC]
       refine oi_two (k := 5) (l := 14) (by kernel_rfl) rfl rfl ?_ ?_
       ·refine wLit1 rfl 71 45 (.tmp 43) rfl (some 44) rfl Tryz.underlying71 1 sizeBs zeroBs _ rfl rfl (by omega) (by omega) ?_
        intro w1 g1 hb1 hx1 hg1
        have T1 := T0d.lit1 (v := (.slice (if c = fr then some ad else (some ad).map (·.add fr)) (i - fr) (c - fr))) hb1 hx1 hg1
        clear hb1 hx1 hg1
        refine oi_end ⟨T1.ext, ?_⟩
        simp only [Act.put, sA, sB, sC]
        refine oi_two (k := 6) (l := 14) (by kernel_rfl) rfl rfl ?_ ?_
        ·refine wApf elt_bss rfl _ _ rfl w.heap.size (.slice A1 P.length c1) P.length VS rfl T1.p _ 1 [(.slice (if c = fr then some ad else (some ad).map (·.add fr)) (i - fr) (c - fr))] rfl (blk_one (T1.a1 _ _ rfl).1) (one_of rfl) (by omega) (by omega) T1.base.2 ?_
         intro B1 d1 w2 ho2 hg2 hr2
         have T2 := T1.app1' ho2 hg2 hr2
         clear ho2 hg2 hr2
         refine oi_end ⟨T2.ext, ?_⟩
         simp only [Act.put, sA, sB, sC]
         refine oi_loud (k := 14) (by kernel_rfl) rfl ?_
         refine wLit1 rfl 22 3 (.tmp 52) rfl (some 53) rfl Tryz.underlying22 1 sizeI zeroI _ rfl rfl (by omega) (by omega) ?_
         intro w3 g3 hb3 hx3 hg3
         have T3 := T2.lit2 (v := .int .i64 (y : Int)) hb3 hx3 hg3
         clear hb3 hx3 hg3
         refine oi_end ⟨T3.ext, ?_⟩
         simp only [Act.put, sA, sB, sC]
         refine oi_loud (k := 15) (by kernel_rfl) rfl ?_
         refine wApf elt_intR rfl _ _ rfl w.heap.size (.slice A2 M.length c2) M.length (ints (M.map Int.ofNat)) rfl T3.m _ 1 [.int .i64 (y : Int)] rfl (blk_one (T3.a2 _ _ rfl).1) (int_one _) (by omega) (by omega) T3.base.2 ?_
         intro B2 d2 w4 ho4 hg4 hr4
         have T4 := T3.app2' ho4 hg4 hr4
         clear ho4 hg4 hr4
         refine oi_end ⟨T4.ext, ?_⟩
         simp only [Act.put, sA, sB, sC]
         refine oi_run (k := 16) (by kernel_rfl) rfl (by rfl) (.slice B1 (P.length + 1) d1) (ex_assign rfl rfl) T4.ext ?_
         simp only [Act.put, sA, sB, sC]
         refine oi_run (k := 17) (by kernel_rfl) rfl (by rfl) (.slice B2 (M.length + 1) d2) (ex_assign rfl rfl) T4.ext ?_
         simp only [Act.put, sA, sB, sC]
         refine oi_done (by kernel_rfl) ?_
         go_wp2_with fail
         go_roundw
         case rel =>
          refine ⟨i + 2, i + 2, P ++ [(bs.drop fr).take (i - fr)], M ++ [y], B1, d1, B2, d2, _, by omega, by omega, by go_num, by go_num, by simp; omega, by simp; omega, by rw [List.length_append]; rfl, by rw [List.length_append]; rfl, ?_, HPS.out, hid_ (by rw [HT.out, Nat.sub_self]; rfl)⟩
          rw [List.length_append, List.length_append, List.map_append, ints_app]
          exact T4
         case measure => simp [intOf]; omega
        ·refine wLit1 rfl 22 3 (.tmp 52) rfl (some 53) rfl Tryz.underlying22 1 sizeI zeroI _ rfl rfl (by omega) (by omega) ?_
         intro w2 g2 hb2 hx2 hg2
         have T2 := T1.lit2 (v := .int .i64 (y : Int)) hb2 hx2 hg2
         clear hb2 hx2 hg2
         refine oi_end ⟨T2.ext, ?_⟩
         simp only [Act.put, sA, sB, sC]
         refine oi_loud (k := 6) (by kernel_rfl) rfl ?_
         refine wApf elt_bss rfl _ _ rfl w.heap.size (.slice A1 P.length c1) P.length VS rfl T2.p _ 1 [(.slice (if c = fr then some ad else (some ad).map (·.add fr)) (i - fr) (c - fr))] rfl (blk_one (T2.a1 _ _ rfl).1) (one_of rfl) (by omega) (by omega) T2.base.2 ?_
         intro B1 d1 w3 ho3 hg3 hr3
         have T3 := T2.app1' ho3 hg3 hr3
         clear ho3 hg3 hr3
         refine oi_end ⟨T3.ext, ?_⟩
         simp only [Act.put, sA, sB, sC]
         refine oi_loud (k := 15) (by kernel_rfl) rfl ?_
         refine wApf elt_intR rfl _ _ rfl w.heap.size (.slice A2 M.length c2) M.length (ints (M.map Int.ofNat)) rfl T3.m _ 1 [.int .i64 (y : Int)] rfl (blk_one (T3.a2 _ _ rfl).1) (int_one _) (by omega) (by omega) T3.base.2 ?_
         intro B2 d2 w4 ho4 hg4 hr4
         have T4 := T3.app2' ho4 hg4 hr4
         clear ho4 hg4 hr4
         refine oi_end ⟨T4.ext, ?_⟩
         simp only [Act.put, sA, sB, sC]
         refine oi_run (k := 16) (by kernel_rfl) rfl (by rfl) (.slice B1 (P.length + 1) d1) (ex_assign rfl rfl) T4.ext ?_
         simp only [Act.put, sA, sB, sC]
         refine oi_run (k := 17) (by kernel_rfl) rfl (by rfl) (.slice B2 (M.length + 1) d2) (ex_assign rfl rfl) T4.ext ?_
         simp only [Act.put, sA, sB, sC]
         refine oi_done (by kernel_rfl) ?_
         go_wp2_with fail
         go_roundw
         case rel =>
          refine ⟨i + 2, i + 2, P ++ [(bs.drop fr).take (i - fr)], M ++ [y], B1, d1, B2, d2, _, by omega, by omega, by go_num, by go_num, by simp; omega, by simp; omega, by rw [List.length_append]; rfl, by rw [List.length_append]; rfl, ?_, HPS.out, hid_ (by rw [HT.out, Nat.sub_self]; rfl)⟩
          rw [List.length_append, List.length_append, List.map_append, ints_app]
          exact T4
         case measure => simp [intOf]; omega
       ·refine wLit1 rfl 22 3 (.tmp 52) rfl (some 53) rfl Tryz.underlying22 1 sizeI zeroI _ rfl rfl (by omega) (by omega) ?_
        intro w1 g1 hb1 hx1 hg1
        have T1 := T0d.lit2 (v := .int .i64 (y : Int)) hb1 hx1 hg1
        clear hb1 hx1 hg1
        refine oi_end ⟨T1.ext, ?_⟩
        simp only [Act.put, sA, sB, sC]
        refine oi_loud (k := 5) (by kernel_rfl) rfl ?_
        refine wLit1 rfl 71 45 (.tmp 43) rfl (some 44) rfl Tryz.underlying71 1 sizeBs zeroBs _ rfl rfl (by omega) (by omega) ?_
        intro w2 g2 hb2 hx2 hg2
        have T2 := T1.lit1 (v := (.slice (if c = fr then some ad else (some ad).map (·.add fr)) (i - fr) (c - fr))) hb2 hx2 hg2
        clear hb2 hx2 hg2
        refine oi_end ⟨T2.ext, ?_⟩
        simp only [Act.put, sA, sB, sC]
        refine oi_loud (k := 6) (by kernel_rfl) rfl ?_
        refine wApf elt_bss rfl _ _ rfl w.heap.size (.slice A1 P.length c1) P.length VS rfl T2.p _ 1 [(.slice (if c = fr then some ad else (some ad).map (·.add fr)) (i - fr) (c - fr))] rfl (blk_one (T2.a1 _ _ rfl).1) (one_of rfl) (by omega) (by omega) T2.base.2 ?_
        intro B1 d1 w3 ho3 hg3 hr3
        have T3 := T2.app1' ho3 hg3 hr3
        clear ho3 hg3 hr3
        refine oi_end ⟨T3.ext, ?_⟩
        simp only [Act.put, sA, sB, sC]
        refine oi_loud (k := 15) (by kernel_rfl) rfl ?_
        refine wApf elt_intR rfl _ _ rfl w.heap.size (.slice A2 M.length c2) M.length (ints (M.map Int.ofNat)) rfl T3.m _ 1 [.int .i64 (y : Int)] rfl (blk_one (T3.a2 _ _ rfl).1) (int_one _) (by omega) (by omega) T3.base.2 ?_
        intro B2 d2 w4 ho4 hg4 hr4
        have T4 := T3.app2' ho4 hg4 hr4
        clear ho4 hg4 hr4
        refine oi_end ⟨T4.ext, ?_⟩
        simp only [Act.put, sA, sB, sC]
        refine oi_run (k := 16) (by kernel_rfl) rfl (by rfl) (.slice B1 (P.length + 1) d1) (ex_assign rfl rfl) T4.ext ?_
        simp only [Act.put, sA, sB, sC]
        refine oi_run (k := 17) (by kernel_rfl) rfl (by rfl) (.slice B2 (M.length + 1) d2) (ex_assign rfl rfl) T4.ext ?_
        simp only [Act.put, sA, sB, sC]
        refine oi_done (by kernel_rfl) ?_
        go_wp2_with fail
        go_roundw
        case rel =>
         refine ⟨i + 2, i + 2, P ++ [(bs.drop fr).take (i - fr)], M ++ [y], B1, d1, B2, d2, _, by omega, by omega, by go_num, by go_num, by simp; omega, by simp; omega, by rw [List.length_append]; rfl, by rw [List.length_append]; rfl, ?_, HPS.out, hid_ (by rw [HT.out, Nat.sub_self]; rfl)⟩
         rw [List.length_append, List.length_append, List.map_append, ints_app]
         exact T4
        case measure => simp [intOf]; omega
   ·have HNX : Hid (ez = spGo (bs.drop (i + 1)) P M ((bs.drop fr).take (i + 1 - fr))) := hid_ (by rw [HPP.out hx, HTK.out])
    have hxn : (((bs[i] : Nat) : Int) != 255) = true := by simp; omega
    clear HPP HTK HEZ hxk
    generalize bs[i] = x at *
    have hxI : ¬ ((x : Int) = 255) := by omega
    go_wp2_with fail
    go_roundw
    case rel => exact ⟨i + 1, fr, P, M, A1, c1, A2, c2, VS, by omega, by omega, by go_num, rfl, by omega, by omega, rfl, rfl, T0, HPI, HNX⟩
    case measure => simp [intOf]; omega
  ·have ei : i = n := by omega
   have HER := hid_ (HEZ.out.trans (HSE.out i P M _ (by rw [HBL.out]; omega)))
   clear HEZ
   rw [ei] at hPl hMl hfr
   have HPS : Hid (Pieces w (VS ++ [.slice (if c = fr then A else A.map (·.add fr)) (n - fr) (c - fr)]) (P ++ [(bs.drop fr).take (i - fr)])) := hid_ (HPI.snoc (by rw [List.length_take, List.length_drop, HBL.out]; omega) (by
    have := SL.sub hv hfr (Nat.le_refl n)
    rw [ei]
    rwa [← bytesV_sub] at this))
   obtain ⟨Q, hQ⟩ : ∃ Q, Q = (if c = fr then A else A.map (·.add fr)) := ⟨_, rfl⟩
   have HQ := hid_ hQ
   rw [← hQ] at HPS
   clear hQ
   go_upto_region 14 with fail
   refine wp_region_lit ?_
   refine wl_run rfl (.slice A1 P.length c1) (ex_move rfl rfl) ?_
   simp only [Act.put, sA, sB, sC]
   refine wl_run rfl (.slice A n c) (ex_move rfl rfl) ?_
   simp only [Act.put, sA, sB, sC]
   refine wl_run rfl (.int .i64 (fr : Int)) (ex_move rfl rfl) ?_
   simp only [Act.put, sA, sB, sC]
   refine wl_run rfl (.slice Q (n - fr) (c - fr)) (by rw [HQ.out]; exact ex_sliceF rfl rfl rfl hfr hc1) ?_
   simp only [Act.put, sA, sB, sC]
   refine wLit1 rfl 71 45 (.tmp 62) rfl (some 63) rfl Tryz.underlying71 1 sizeBs zeroBs _ rfl rfl (by omega) (by omega) ?_
   intro w1 g1 hb1 hx1 hg1
   have T1 := T0.lit1 (v := .slice Q (n - fr) (c - fr)) hb1 hx1 hg1
   clear hb1 hx1 hg1
   simp only [Act.put, sA, sB, sC]
   refine wApf elt_bss rfl _ _ rfl w.heap.size (.slice A1 P.length c1) P.length VS rfl T1.p _ 1 [.slice Q (n - fr) (c - fr)] rfl (blk_one (T1.a1 _ _ rfl).1) (one_of rfl) (by omega) (by omega) T1.base.2 ?_
   intro B1 d1 w2 ho2 hg2 hr2
   have T2 := T1.app1' ho2 hg2 hr2
   clear ho2 hg2 hr2
   simp only [Act.put, sA, sB, sC]
   go_wp2_with fail
   go_ret3
   rw [HER.out]
   refine ⟨B1, d1, A2, c2, _, by rw [List.length_append]; rfl, ?_, HPS.out.ext T2.ext, (own_out T2.m).1, T2.ext, fun ad h => Nat.le_trans T2.base.1 ((own_out T2.p).2 ad h), fun ad h => Nat.le_trans T2.base.1 ((own_out T2.m).2 ad h)⟩
   rw [List.length_append]
   exact (own_out T2.p).1
theorem rsplit_any (bs : List Nat) (v : Value) (w : World) (hv : SL w 1 v bs.length (bytesV bs)) (hlt : ∀ b ∈ bs, b < 256) (hn : bs.length ≤ 1048576) :
 Calls Tryz.prog 53 #[v] w (SpIs (spGo bs [] [] []) w) := (rsplit_anyF bs v w hv hlt hn).mono fun _ _ h => h.is
section
theorem bytesV_app' (a b : List Nat) : bytesV (a ++ b) = bytesV a ++ bytesV b := by simp [bytesV]
theorem byteOne (l : List Nat) : ∀ u ∈ bytesV l, u.oneCell' = true := by
 intro u hu
 obtain ⟨z, -, rfl⟩ := List.mem_map.1 hu
 rfl
theorem own_none {w : World} {base : Nat} {e : TypeId} {size n d : Nat} {B : Option Addr} {xs : List Value} (h : w.ownsRow base e size (.slice B n d) n xs) : B = none → d = 0 := by
 rintro rfl
 obtain ⟨-, hh⟩ := h
 rcases hh with ⟨e1, -⟩ | ⟨g, cap, cur, e1, -⟩
 ·injection e1
 ·injection e1 with e2
  cases e2
theorem bytesOf_b8 (s : List Nat) : Lib.bytesOf (s.map Int.ofNat) = b8 s := by
 unfold Lib.bytesOf b8
 rw [List.map_map]
 rfl
theorem bytes_rng {s : List Nat} (h : ∀ b ∈ s, b < 256) : ∀ x ∈ s.map Int.ofNat, 0 ≤ x ∧ x < 256 := by
 intro x hx
 obtain ⟨b, hb, rfl⟩ := List.mem_map.1 hx
 have := h b hb
 simp only [Int.ofNat_eq_natCast]
 omega
theorem sl_cellsB {w : World} {ad : Addr} {n c : Nat} {s : List Nat} (h : SL w 1 (.slice (some ad) n c) n (bytesV s)) : ∀ i, i < n → w.cell? (ad.add i) = some (.int .u8 ((s.map Int.ofNat).getD i 0)) := by
 intro i hi
 obtain ⟨A', c', e, h1, h2, h3, h4⟩ := h
 injection e with e1 e2 e3
 subst e1
 obtain ⟨ad', e4, hb, hc⟩ := h4 (by omega)
 injection e4 with e4
 subst e4
 have hl : i < s.length := by rw [bytesV_len] at h3; omega
 refine hc i _ ?_
 simp [bytesV, hl, List.getD_eq_getElem?_getD]
theorem sl_len {w : World} {A : Option Addr} {n c : Nat} {s : List Nat} (h : SL w 1 (.slice A n c) n (bytesV s)) : s.length = n ∧ n ≤ c := by
 obtain ⟨A', c', e, h1, h2, h3, h4⟩ := h
 injection e with e1 e2 e3
 rw [bytesV_len] at h3
 omega
theorem blkB_cell {w : World} {g : Nat} {t : TypeId} {s : List Nat} (h : Blk w g t (bytesV s).toArray) : ∀ i, i < s.length → w.cell? ((⟨g, 0, none⟩ : Addr).add i) = some (.int .u8 ((s.map Int.ofNat).getD i 0)) := by
 intro i hi
 rw [addr_add]
 simp only [Nat.zero_add]
 rw [h.cell i]
 simp [bytesV, hi, List.getD_eq_getElem?_getD]
theorem drewN_ext (w : World) (q : Nat) : Ext w (w.drewN q) := below_drewN (Ext.refl w) q
theorem index_any (A : Option Addr) (n c k g : Nat) (s o : List Nat) (t : TypeId) (m0 : Int) (w : World) (hs : SL w 1 (.slice A n c) n (bytesV s)) (h0 : 0 < n) (hls : ∀ b ∈ s, b < 256) (hlo : ∀ b ∈ o, b < 256) (hok : o.length = k) (hk : k ≤ 100)
 (hn : n ≤ 4000000000) (ho : Blk w g t (bytesV o).toArray) (hm : w.cell? ⟨0, 0, none⟩ = some (.int .i64 m0)) :
 Calls Tryz.prog 178 #[.slice A n c, .slice (some ⟨g, 0, none⟩) k k] w fun e w' => e = .returned (.int .i64 (ixN s o)) ∧ Ext w w' := by
 obtain ⟨hl, hc⟩ := sl_len hs
 have hs' := hs
 obtain ⟨A', c', e, -, -, -, h4⟩ := hs'
 injection e with e1 e2 e3
 subst e1
 obtain ⟨ad, rfl, -, -⟩ := h4 h0
 have H := Tryz.bytes_Index_at ad ⟨g, 0, none⟩ n c k k (s.map Int.ofNat) (o.map Int.ofNat) m0 w (by simpa using hl) (by simpa using hok) (bytes_rng hls) (bytes_rng hlo) (sl_cellsB hs) (fun i hi => blkB_cell ho i (by omega)) hc (by omega) (by omega) hm
 refine H.mono ?_
 rintro e w' ⟨rfl, q, rfl⟩
 rw [bytesOf_b8, bytesOf_b8]
 exact ⟨rfl, drewN_ext w q⟩
theorem count_any (A : Option Addr) (n c k g : Nat) (s o : List Nat) (t : TypeId) (m0 : Int) (w : World) (hs : SL w 1 (.slice A n c) n (bytesV s)) (hA : A = none → c = 0) (hls : ∀ b ∈ s, b < 256) (hlo : ∀ b ∈ o, b < 256) (hok : o.length = k) (hk1 : 1 ≤ k) (hk : k ≤ 100)
 (hn : n ≤ 4000000000) (ho : Blk w g t (bytesV o).toArray) (hm : w.cell? ⟨0, 0, none⟩ = some (.int .i64 m0)) :
 Calls Tryz.prog 177 #[.slice A n c, .slice (some ⟨g, 0, none⟩) k k] w fun e w' => e = .returned (.int .i64 (cntN s o : Int)) ∧ Ext w w' := by
 obtain ⟨hl, hc⟩ := sl_len hs
 have hone : o ≠ [] := by intro e; rw [e] at hok; simp at hok; omega
 cases A with
 | none =>
   obtain rfl := hA rfl
   obtain rfl : n = 0 := by omega
   obtain rfl : s = [] := List.eq_nil_of_length_eq_zero hl
   rw [cnt_nil hone]
   by_cases h1 : k = 1
   ·subst h1
    obtain ⟨y, rfl⟩ : ∃ y, o = [y] := by match o, hok with | [y], _ => exact ⟨y, rfl⟩
    refine (Tryz.bytes_Count_one_nil g 0 1 (y : Int) w (by rw [ho.cell 0]; rfl)).mono ?_
    rintro e w' ⟨rfl, rfl⟩
    exact ⟨rfl, Ext.refl _⟩
   ·refine (Tryz.bytes_Count_nil (some ⟨g, 0, none⟩) k k w (by omega) (by omega)).mono ?_
    rintro e w' ⟨rfl, rfl⟩
    exact ⟨rfl, Ext.refl _⟩
 | some ad =>
   by_cases h1 : k = 1
   ·subst h1
    obtain ⟨y, rfl⟩ : ∃ y, o = [y] := by match o, hok with | [y], _ => exact ⟨y, rfl⟩
    refine (Tryz.bytes_Count_one_at ad n c g 0 1 (s.map Int.ofNat) (y : Int) w (by simpa using hl) (sl_cellsB hs) (by rw [ho.cell 0]; rfl)).mono ?_
    rintro e w' ⟨rfl, rfl⟩
    refine ⟨?_, Ext.refl _⟩
    rw [bytesOf_b8]
    unfold cntN Lib.countByte
    rw [show b8 [y] = [UInt8.ofNat y] from rfl, count_one, Int.toNat_natCast]
   ·have H := Tryz.bytes_Count_at ad ⟨g, 0, none⟩ n c k k (s.map Int.ofNat) (o.map Int.ofNat) m0 w (by simpa using hl) (by simpa using hok) (bytes_rng hls) (bytes_rng hlo) (sl_cellsB hs) (fun i hi => blkB_cell ho i (by omega)) hc (by omega) (by omega) (by omega) hm
    refine H.mono ?_
    rintro e w' ⟨rfl, q, rfl⟩
    rw [bytesOf_b8, bytesOf_b8]
    exact ⟨rfl, drewN_ext w q⟩
theorem infoBy8 : ∃ i, Tryz.prog.info? 5 = some i ∧ i.zero = some (.int .u8 0) ∧ i.size = 1 ∧ i.bytes = 1 := by
 have h1 : (Tryz.prog.info? 5).map (fun i => (i.zero, i.size, i.bytes)) = some (some (.int .u8 0), 1, 1) := by kernel_rfl
 cases hq : Tryz.prog.info? 5 with
 | none => rw [hq] at h1; cases h1
 | some i =>
   rw [hq] at h1
   simp at h1
   exact ⟨i, rfl, h1.1, h1.2.1, h1.2.2⟩
theorem madeU8 (m : Nat) : madeCells (Value.int .u8 0).cells m = (bytesV (List.replicate m 0)).toArray := by
 apply Array.ext
 ·rw [size_madeCells]; simp [bytesV]
 ·intro i h1 h2
  have : i % 1 = 0 := Nat.mod_one i
  simp [madeCells, bytesV, Value.cells, this]
theorem wpList_makeBytes {ops : Array Oper} {rest : List Oper} {o : Oper} {a : Act} {w : World} {Q : Exit → Act → World → Prop} (hg : o.guard = none) (dst : Option Tmp) (hdst : o.dst = dst) (x y : Operand) (ho : o.op = .makeSlice 45 x y) (n : Nat) (hn : n ≤ 100000000000)
 (hx : a.eval x = .int .i64 (n : Int)) (hy : a.eval y = .int .i64 (n : Int))
 (h : ∀ w1 g, Blk w1 g 5 (bytesV (List.replicate n 0)).toArray → Ext w w1 → w.heap.size ≤ g → wpList Tryz.prog ops Q rest (a.put dst (.slice (some ⟨g, 0, none⟩) n n)) w1) : wpList Tryz.prog ops Q (o :: rest) a w := by
 subst hdst
 obtain ⟨i, hi, hz, hs, hb⟩ := infoBy8
 have hr := run_make (P := Tryz.prog) w 45 5 i (.int .u8 0) Tryz.underlying45 hi hz .i64 .i64 (n : Int) (n : Int) (by omega) (Int.le_refl _) (by rw [hb]; omega) (by omega)
 rw [Int.toNat_natCast, hs, Nat.mul_one, madeU8] at hr
 refine wpList_plain hg fun _ hK => ?_
 unfold Oper.wp execOp
 simp only [ho, hx, hy, Sem.run_bind, hr, Result.andThen_ok, Sem.run_pure]
 exact hK _ _ (h _ _ (Blk.new w _ _) ((Ext.refl w).alloc _) (Nat.le_refl _))
def RowB (w : World) (g N : Nat) (D : List Nat) : Prop := Blk w g 5 (bytesV (D ++ List.replicate (N - D.length) 0)).toArray
theorem splice_fill (D X : List Nat) (N : Nat) (h : D.length + X.length ≤ N) : splice (bytesV (D ++ List.replicate (N - D.length) 0)) D.length (bytesV X) = bytesV ((D ++ X) ++ List.replicate (N - (D ++ X).length) 0) := by
 have e1 : (bytesV (D ++ List.replicate (N - D.length) 0)).take D.length = bytesV D := by
  rw [bytesV_app', List.take_append_of_le_length (by rw [bytesV_len]; omega), List.take_of_length_le (by rw [bytesV_len]; omega)]
 have e2 : (bytesV (D ++ List.replicate (N - D.length) 0)).drop (D.length + X.length) = bytesV (List.replicate (N - (D ++ X).length) 0) := by
  rw [bytesV_app', List.drop_append, List.drop_eq_nil_of_le (by rw [bytesV_len]; omega), bytesV_len, List.nil_append]
  rw [show D.length + X.length - D.length = X.length by omega]
  unfold bytesV
  rw [← List.map_drop, List.drop_replicate, List.length_append]
  congr 2
  omega
 unfold splice
 rw [e1, bytesV_len, e2, bytesV_app', bytesV_app', List.append_assoc]
theorem wpList_copyB {ops : Array Oper} {rest : List Oper} {o : Oper} {a : Act} {w w0 : World} {Q : Exit → Act → World → Prop} (hgd : o.guard = none) (dst : Option Tmp) (hdst : o.dst = dst) (d s : Operand)
 (ho : o.op = .call { callee := .builtin .copy, args := #[d, s], argTypes := #[45, 45] }) (g N off f m c2 : Nat) (D X : List Nat) (sp : Option Addr)
 (dp : Option Addr) (hdp : dp = if N = off then some ⟨g, 0, none⟩ else (some ⟨g, 0, none⟩ : Option Addr).map (·.add off)) (hd : a.eval d = .slice dp f f) (hf : f + off = N) (hs : a.eval s = .slice sp m c2) (hX : SL w 1 (.slice sp m c2) m (bytesV X)) (hm : X.length = m) (hD : D.length = off) (hfit : off + m ≤ N)
 (hr : RowB w g N D) (hx0 : Ext w0 w) (hg : w0.heap.size ≤ g) (h : ∀ w', RowB w' g N (D ++ X) → Ext w0 w' → wpList Tryz.prog ops Q rest (a.put dst (.int .i64 (m : Int))) w') : wpList Tryz.prog ops Q (o :: rest) a w := by
 subst hdst
 have hXX := hX
 obtain ⟨A', c', e, h1, h2, h3, h4⟩ := hXX
 injection e with e1 e2 e3
 obtain rfl : f = N - off := by omega
 subst e1 e3 hD hm hdp
 have key : ∀ w', Hid (w'.heap[g]? = some (.cells (splice (bytesV (D ++ List.replicate (N - D.length) 0)) D.length (bytesV X)).toArray 5 (0, 0))) → Below w0.heap.size w0 w' → wpList Tryz.prog ops Q rest (a.put o.dst (goInt (bytesV X).length)) w' := fun w' h5 h6 => by
  rw [bytesV_len]
  refine h w' ?_ h6
  have h7 := h5.out
  rw [splice_fill D X N hfit] at h7
  exact h7
 refine wpList_copy_splice hgd d s 45 45 ho 5 Tryz.underlying45 sizeU8' _ sp _ _ X.length c2 hd hs g D.length (bytesV (D ++ List.replicate (N - D.length) 0)) 5 hr (bytesV X) ?_ ?_ ?_ ?_ w0.heap.size w0 hx0 hg key
 ·rw [bytesV_len]; exact (Nat.min_eq_left (by omega)).symm
 ·intro hp
  rw [bytesV_len] at hp
  rw [if_neg (by omega)]
  refine ⟨by simp [addr_add], ?_⟩
  obtain ⟨ad, e5, -, h6⟩ := h4 hp
  exact ⟨ad, e5, h6⟩
 ·rw [bytesV_len, bytesV_len, List.length_append, List.length_replicate]; omega
 ·intro u hu
  obtain ⟨z, -, rfl⟩ := List.mem_map.1 hu
  rfl
theorem SL.tail {w : World} {A E : Option Addr} {n c l m q : Nat} {bs : List Nat} (hs : SL w 1 (.slice A n c) n (bytesV bs)) (hE : E = if c = l then A else A.map (·.add l)) (hm : m + l = n) (hq : q + l = c) :
 SL w 1 (.slice E m q) m (bytesV (bs.drop l)) := by
 subst hE
 obtain rfl : m = n - l := by omega
 obtain rfl : q = c - l := by omega
 have h := hs.sub (show l ≤ n by omega) (Nat.le_refl n)
 have hn := (sl_len hs).1
 rwa [← bytesV_sub, List.take_of_length_le (by rw [List.length_drop]; omega)] at h
theorem SL.mid {w : World} {A E : Option Addr} {n c l h m q : Nat} {bs : List Nat} (hs : SL w 1 (.slice A n c) n (bytesV bs)) (hE : E = if c = l then A else A.map (·.add l)) (hm : l + m = h) (hq : q + l = c) (hh : h ≤ n) :
 SL w 1 (.slice E m q) m (bytesV ((bs.drop l).take m)) := by
 subst hE
 obtain rfl : m = h - l := by omega
 obtain rfl : q = c - l := by omega
 have h := hs.sub (show l ≤ h by omega) hh
 rwa [← bytesV_sub] at h
theorem byte_row {w : World} {g k : Nat} {t : TypeId} {s : List Nat} (hk : s.length = k) (h : Blk w g t (bytesV s).toArray) (hk2 : k ≤ 9000000000000000000 := by omega) : SL w 1 (.slice (some ⟨g, 0, none⟩) k k) k (bytesV s) := by
 have := h.sl (size := 1) (n := k) (c := k) (by simp [bytesV, hk]) (by omega) (by omega)
 simpa using this
section
variable {o : Oper} {a : Act}
theorem ex_sliceFE {x lo : Operand} (ho : o.op = .slice 45 x (some lo) none none) {A E : Option Addr} {n c l m q : Nat} (hE : E = if c = l then A else A.map (·.add l)) (hm : m + l = n) (hq : q + l = c) (hx : a.eval x = .slice A n c) (h1 : a.eval lo = .int .i64 (l : Int)) (hc : n ≤ c) (w : World) :
 (execOp a.eval o).run Tryz.prog w = .ok (.value (.slice E m q)) w := by
 subst hE
 rw [ex_sliceF ho hx h1 (by omega) hc w, show n - l = m by omega, show c - l = q by omega]
theorem ex_sliceBE {x lo hi : Operand} (ho : o.op = .slice 45 x (some lo) (some hi) none) {A E : Option Addr} {n c l h m q : Nat} (hE : E = if c = l then A else A.map (·.add l)) (hm : l + m = h) (hq : q + l = c) (hx : a.eval x = .slice A n c) (h1 : a.eval lo = .int .i64 (l : Int)) (h2 : a.eval hi = .int .i64 (h : Int)) (hh : h ≤ n) (hc : n ≤ c) (w : World) :
 (execOp a.eval o).run Tryz.prog w = .ok (.value (.slice E m q)) w := by
 subst hE
 rw [ex_sliceB ho hx h1 h2 (by omega) hh hc w, show h - l = m by omega, show c - l = q by omega]
theorem ex_addNE {x y : Operand} {t2 : TypeId} (ho : o.op = .binOp .add 3 x y t2) {i d r : Nat} (hr : i + d = r) (hx : a.eval x = .int .i64 (i : Int)) (hy : a.eval y = .int .i64 (d : Int)) (h : r < 1000000000000) (w : World) :
 (execOp a.eval o).run Tryz.prog w = .ok (.value (.int .i64 (r : Int))) w := by
 subst hr
 exact ex_addN ho hx hy h w
theorem ex_slice0 {x lo hi : Operand} (ho : o.op = .slice 45 x (some lo) (some hi) none) {g N : Nat} (hx : a.eval x = .slice (some ⟨g, 0, none⟩) N N) (h1 : a.eval lo = .int .i64 0) (h2 : a.eval hi = .int .i64 (N : Int)) (w : World) :
 (execOp a.eval o).run Tryz.prog w = .ok (.value (.slice (some ⟨g, 0, none⟩) N N)) w := by
 have h := ex_sliceB ho hx (l := 0) (h := N) h1 h2 (by omega) (by omega) (by omega) w
 rw [h]
 by_cases h0 : N = 0
 ·simp [h0]
 ·simp [h0, addr_add]
end
attribute [local irreducible] bytesV replN cntN ixN
def ReplIs (R : List Nat) (w : World) (e : Ending) (w' : World) : Prop := ∃ B k d, e = .returned (.slice B k d) ∧ R.length = k ∧ SL w' 1 (.slice B k d) k (bytesV R) ∧ (B = none → d = 0) ∧ Ext w w'
set_option maxRecDepth 20000 in
set_option maxHeartbeats 2000000 in
theorem replace_any (A : Option Addr) (n c k1 k2 g1 g2 : Nat) (bs o v : List Nat) (m0 : Int) (w : World) (hs : SL w 1 (.slice A n c) n (bytesV bs)) (hA : A = none → c = 0) (hlt : ∀ b ∈ bs, b < 256) (hlo : ∀ b ∈ o, b < 256) (hn : n ≤ 1000000000)
 (ho : o.length = k1) (hk1 : 1 ≤ k1) (hk2 : k1 ≤ 2) (hv : v.length = k2) (hk3 : 1 ≤ k2) (hk4 : k2 ≤ 2) (hbo : Blk w g1 5 (bytesV o).toArray) (hbv : Blk w g2 5 (bytesV v).toArray) (hm : w.cell? ⟨0, 0, none⟩ = some (.int .i64 m0)) :
 Calls Tryz.prog 138 #[.slice A n c, .slice (some ⟨g1, 0, none⟩) k1 k1, .slice (some ⟨g2, 0, none⟩) k2 k2, .int .i64 (-1)] w (ReplIs (replZ bs o v) w) := by
 obtain ⟨hl, hc⟩ := sl_len hs
 have hone : o ≠ [] := by intro e; rw [e] at ho; simp at ho; omega
 have hm1 : ⟨0, 0, none⟩ = (⟨0, 0, none⟩ : Addr) := rfl
 have h00 : 0 < w.heap.size := by
  rcases Nat.eq_zero_or_pos w.heap.size with h | h
  ·unfold World.cell? at hm
   rw [Array.getElem?_eq_none (by simp [h])] at hm
   cases hm
  ·exact h
 have HMX := hid_ (fun W (h : Ext w W) => (h.cell (p := ⟨0, 0, none⟩) h00).trans hm)
 have HCT := hid_ (count_any A n c k1 g1 bs o _ m0 w hs hA hlt hlo ho hk1 (by omega) (by omega) hbo hm)
 have hroom := cnt_room _ bs o hone rfl
 have hrl := replN_len _ bs o v hone rfl
 obtain ⟨R, hR⟩ : ∃ R, replZ bs o v = R := ⟨_, rfl⟩
 rw [hR]
 unfold replZ at hR
 obtain ⟨m, hcm⟩ : ∃ m, cntN bs o = m := ⟨_, rfl⟩
 rw [hcm] at HCT hroom hrl hR
 rw [hR] at hrl
 have HR := hid_ hR
 have HC := hid_ hcm
 have HL := hid_ hl
 have HO := hid_ ho
 have HV := hid_ hv
 have HLT := hid_ hlt
 have HLO := hid_ hlo
 have hmn : m ≤ n := by
  rw [ho, hl] at hroom
  have : m * 1 ≤ m * k1 := Nat.mul_le_mul_left _ hk1
  omega
 by_cases hm0 : m = 0
 ·have HRE : Hid (R = bs) := hid_ (by rw [← HR.out, hm0]; unfold replN; rfl)
  subst hm0
  clear hR hcm hl ho hv hlt hlo hroom hrl HR HC hm hmn hm1
  rw [HRE.out]
  go_enter Tryz.func138, Tryz.ntmps138
  go_wp2_with (first
   | (go_at_call 177; (with_reducible refine (HCT.out).mono ?_); rintro e w1 ⟨rfl, hx1⟩)
   | (at_builtin; go_must (refine wApf elt_by rfl _ (.tmp 24) rfl w.heap.size (.slice none 0 0) 0 [] rfl (own_nil _ _ _ _) _ n (bytesV bs) rfl (hs.ext hx1) (byteOne bs) (by omega) (by omega) hx1.size ?_); intro B d w2 hown2 hgr2 hor2))
  go_ret
  obtain ⟨B', d', e2, hs2, hf2⟩ := own_form hown2
  injection e2 with q1 q2 q3
  subst q1 q3
  simp only [Nat.zero_add, List.nil_append] at hs2
  refine ⟨B, n, d, ?_, HL.out, hs2, own_none hown2, hx1.trans' (by exact (Below.refl _ w1).grown hgr2 hx1.size (fun k hk => by cases hk))⟩
  simp
 ·have hN : ∃ N : Nat, N = R.length ∧ (N : Int) = (n : Int) + (m : Int) * ((k2 : Int) - (k1 : Int)) := by
   refine ⟨R.length, rfl, ?_⟩
   rw [ho, hv, hl] at hrl
   rw [Int.mul_sub]
   have : ((R.length + m * k1 : Nat) : Int) = ((n + m * k2 : Nat) : Int) := by rw [hrl]
   push_cast at this
   omega
  obtain ⟨N, hNR, hNI⟩ := hN
  have hmk : (m : Int) * ((k2 : Int) - (k1 : Int)) ≤ 1000000000 ∧ -1000000000 ≤ (m : Int) * ((k2 : Int) - (k1 : Int)) := by
   have : k2 = k1 ∨ k2 = k1 + 1 ∨ k1 = k2 + 1 := by omega
   rcases this with rfl | rfl | rfl
   ·simp
   ·rw [show ((k1 + 1 : Nat) : Int) - (k1 : Int) = 1 by omega]; omega
   ·rw [show (k2 : Int) - ((k2 + 1 : Nat) : Int) = -1 by omega]; omega
  have H42R : Hid (∀ W, (binOp .mul 3 (.int .i64 (m : Int)) (.int .i64 ((k2 : Int) - (k1 : Int)))).run Tryz.prog W = .ok (.int .i64 ((m : Int) * ((k2 : Int) - (k1 : Int)))) W) := hid_ (fun W => run_mulI _ _ _ (IntWalk.i64_in _ (by omega)) W)
  have hNN : N ≤ 2000000000 := by omega
  have H43 : Hid (IntKind.i64.wrap ((n : Int) + (m : Int) * ((k2 : Int) - (k1 : Int))) = (N : Int)) := hid_ (by rw [← hNI]; exact IntWalk.i64_in _ (by omega))
  generalize (m : Int) * ((k2 : Int) - (k1 : Int)) = q42 at *
  have HNR := hid_ hNR
  have HONE := hid_ hone
  have HK1 : Hid (decide ((0 : Int) < (k1 : Int)) = true) := hid_ (by rw [decide_eq_true]; omega)
  have hmk42 := hmk
  have hb18 : ((-1 : Int) != 0) = true := rfl
  have hb23 : ((m : Int) == 0) = false := by simp [hm0]
  have hb23' : ¬ ((m : Int) = 0) := by omega
  have hm0' : 0 < m := by omega
  clear hR hcm hl ho hv hlt hlo hroom hrl hm hm1 hNI hmk hNR hone
  go_enter Tryz.func138, Tryz.ntmps138
  go_wp2_with (first
   | (go_at_call 177; (with_reducible refine (HCT.out).mono ?_); rintro e w1 ⟨rfl, hx1⟩)
   | ((with_reducible apply gS 41); refine wl_run rfl (.int .i64 ((k2 : Int) - (k1 : Int))) (ex_subI rfl rfl rfl (by omega)) ?_)
   | ((with_reducible apply gS 42); refine wl_run rfl (.int .i64 q42) (ex_bin rfl rfl rfl H42R.out) ?_)
   | ((with_reducible apply gS 43); refine wl_run rfl (.int .i64 (N : Int)) (ex_bin rfl rfl rfl (run_addI _ _ _ H43.out)) ?_)
   | ((with_reducible apply gS 44); refine wpList_makeBytes rfl (some 44) rfl _ _ rfl N (by omega) rfl rfl ?_; intro w2 g hb2 hx2 hg2)
   | ((with_reducible apply gS 47); refine wl_run rfl _ (ex_gtr rfl rfl rfl HK1.out) ?_))
  have hrow : RowB w2 g N [] := by
   unfold RowB
   simpa using hb2
  have hxw := hx1.trans hx2
  have hg : w.heap.size ≤ g := by have := hx1.size; omega
  have HST0 : Hid (cntN (bs.drop 0) o = m - 0) := hid_ (by rw [List.drop_zero]; exact HC.out)
  have HRR0 : Hid ([] ++ replN (m - 0) (bs.drop 0) o v = R) := hid_ (by rw [List.drop_zero]; exact HR.out)
  clear hb2 hx1 hx2 hg2 HC HR HCT H43 H42R hmk42
  obtain ⟨wo, rfl⟩ : ∃ wo : World, wo = w2 := ⟨_, rfl⟩
  go_loopw [11, 12, 49] (fun x y iv wr => ∃ (k st d : Nat) (D : List Nat), k ≤ m ∧ iv = .int .i64 (k : Int) ∧ x = .int .i64 (d : Int) ∧ y = .int .i64 (st : Int) ∧ st ≤ n ∧ Hid (D.length = d) ∧ Hid (cntN (bs.drop st) o = m - k) ∧ Hid (D ++ replN (m - k) (bs.drop st) o v = R) ∧ RowB wr g N D ∧ Ext w wr) (fun _ _ i _ => m - (intOf i).toNat)
  case atStart => exact ⟨0, 0, 0, [], by omega, rfl, rfl, rfl, by omega, hid_ rfl, HST0, HRR0, hrow, hxw⟩
  case round =>
   clear hrow hxw HST0 HRR0
   obtain ⟨k, st, d, D, hk, rfl, rfl, rfl, hst, HD, HCN, HRR, hr0, hx⟩ := hrel
   obtain ⟨Eb, hEb⟩ : ∃ E, E = if c = st then A else A.map (·.add st) := ⟨_, rfl⟩
   obtain ⟨Ed, hEd⟩ : ∃ E, E = if N = d then some ⟨g, 0, none⟩ else (some ⟨g, 0, none⟩ : Option Addr).map (·.add d) := ⟨_, rfl⟩
   have HEB := hid_ hEb
   have HED := hid_ hEd
   obtain ⟨r, hrn⟩ : ∃ r, r + st = n := ⟨n - st, by omega⟩
   obtain ⟨cq, hcq⟩ : ∃ q, q + st = c := ⟨c - st, by omega⟩
   have HTL := hid_ (fun W (h : Ext w W) => SL.tail (hs.ext h) hEb hrn hcq)
   clear hEb hEd
   by_cases hlt : k < m
   ·obtain ⟨i, e1, e2, e3⟩ := cnt_succ (m := m - (k + 1)) HONE.out (by rw [HCN.out]; omega)
    rw [List.length_drop, HL.out, HO.out] at e2
    rw [HO.out, List.drop_drop] at e3
    have e4 := HRR.out
    rw [show m - k = m - (k + 1) + 1 by omega, replN, e1, Int.toNat_natCast, List.drop_drop, HO.out] at e4
    have e5 := congrArg List.length e4
    rw [List.length_append, List.length_append, List.length_append, List.length_take, List.length_drop, HD.out, HL.out, HV.out, ← HNR.out, Nat.min_eq_left (by omega)] at e5
    obtain ⟨f, hfN⟩ : ∃ f, f + d = N := ⟨N - d, by omega⟩
    obtain ⟨sx, hsx⟩ : ∃ r, st + i = r := ⟨_, rfl⟩
    obtain ⟨sy, hsy⟩ : ∃ r, sx + k1 = r := ⟨_, rfl⟩
    obtain ⟨d2, hd2⟩ : ∃ r, d + i = r := ⟨_, rfl⟩
    obtain ⟨d3, hd3⟩ : ∃ r, d2 + k2 = r := ⟨_, rfl⟩
    obtain ⟨f2, hf2⟩ : ∃ f, f + d2 = N := ⟨N - d2, by omega⟩
    have HIX := hid_ (fun W (h : Ext w W) => index_any _ r cq k1 g1 (bs.drop st) o _ m0 W (HTL.out W h) (by omega) (fun b hb => HLT.out b (List.mem_of_mem_drop hb)) HLO.out HO.out (by omega) (by omega) (hbo.ext h) (HMX.out W h))
    rw [e1] at HIX
    obtain ⟨Ee, hEe⟩ : ∃ E, E = if N = d2 then some ⟨g, 0, none⟩ else (some ⟨g, 0, none⟩ : Option Addr).map (·.add d2) := ⟨_, rfl⟩
    have HEE := hid_ hEe
    clear hEe
    have HMD := hid_ (fun W (h : Ext w W) => SL.mid (hs.ext h) HEB.out hsx hcq (show sx ≤ n by omega))
    have HVS := hid_ (fun W (h : Ext w W) => byte_row HV.out (hbv.ext h))
    have HXL : Hid (((bs.drop st).take i).length = i) := hid_ (by rw [List.length_take, List.length_drop, HL.out]; omega)
    have HDL : Hid ((D ++ (bs.drop st).take i).length = d2) := hid_ (by rw [List.length_append, HXL.out, HD.out, hd2])
    have HDL2 : Hid ((D ++ (bs.drop st).take i ++ v).length = d3) := hid_ (by rw [List.length_append, HDL.out, HV.out, hd3])
    have HC2 : Hid (cntN (bs.drop sy) o = m - (k + 1)) := hid_ (by rw [← e3, ← hsy, ← hsx, Nat.add_assoc])
    have HR2 : Hid (D ++ (bs.drop st).take i ++ v ++ replN (m - (k + 1)) (bs.drop sy) o v = R) := hid_ (by rw [← e4, ← hsy, ← hsx, Nat.add_assoc st i k1]; simp only [List.append_assoc])
    have e6 : d3 ≤ N := by omega
    clear e1 e3 e4 e5 HCN HRR
    go_upto_region 15 with (first
     | ((with_reducible apply gS 54); refine wl_run rfl (.slice Eb r cq) (ex_sliceFE rfl HEB.out hrn hcq rfl rfl (by omega)) ?_)
     | (go_at_call 178; (with_reducible refine (HIX.out _ hx).mono ?_); rintro e w3 ⟨rfl, hx3⟩)
     | ((with_reducible apply gS 57); refine wl_run rfl (.int .i64 (sx : Int)) (ex_addNE rfl hsx rfl rfl (by omega)) ?_))
    have hx3' : Ext w w3.drew := (hx.trans hx3).drew
    have hr3 : RowB w3.drew g N D := Blk.ext hr0 hx3.drew
    clear hr0 hx hx3
    refine wp_region_oi (fun _ => True) (by kernel_rfl) ?_
    refine oi_run (k := 0) (by kernel_rfl) rfl (by rfl) (.int .i64 (d : Int)) (ex_move rfl rfl) trivial ?_
    simp only [Act.put, sA, sB, sC]
    refine oi_run (k := 1) (by kernel_rfl) rfl (by rfl) (.slice (some ⟨g, 0, none⟩) N N) (ex_move rfl rfl) trivial ?_
    simp only [Act.put, sA, sB, sC]
    refine oi_run (k := 2) (by kernel_rfl) rfl (by rfl) (.int .i64 (d : Int)) (ex_move rfl rfl) trivial ?_
    simp only [Act.put, sA, sB, sC]
    refine oi_run (k := 3) (by kernel_rfl) rfl (by rfl) (.slice Ed f f) (ex_sliceFE rfl HED.out hfN hfN rfl rfl (by omega)) trivial ?_
    simp only [Act.put, sA, sB, sC]
    refine oi_run (k := 4) (by kernel_rfl) rfl (by rfl) (.slice A n c) (ex_move rfl rfl) trivial ?_
    simp only [Act.put, sA, sB, sC]
    refine oi_run (k := 5) (by kernel_rfl) rfl (by rfl) (.int .i64 (st : Int)) (ex_move rfl rfl) trivial ?_
    simp only [Act.put, sA, sB, sC]
    refine oi_run (k := 6) (by kernel_rfl) rfl (by rfl) (.int .i64 (sx : Int)) (ex_move rfl rfl) trivial ?_
    simp only [Act.put, sA, sB, sC]
    refine oi_run (k := 7) (by kernel_rfl) rfl (by rfl) (.slice Eb i cq) (ex_sliceBE rfl HEB.out hsx hcq rfl rfl rfl (by omega) (by omega)) trivial ?_
    simp only [Act.put, sA, sB, sC]
    refine oi_loud (k := 8) (by kernel_rfl) rfl ?_
    refine wpList_copyB rfl (some 66) rfl (.tmp 61) (.tmp 65) rfl g N d f i _ D ((bs.drop st).take i) _ Ed HED.out rfl hfN rfl (HMD.out _ hx3') HXL.out HD.out (by omega) hr3 hx3' hg ?_
    intro w4 hr4 hx4
    refine oi_end ⟨trivial, ?_⟩
    simp only [Act.put, sA, sB, sC]
    refine oi_run (k := 9) (by kernel_rfl) rfl (by rfl) (.int .i64 (d2 : Int)) (ex_addNE rfl hd2 rfl rfl (by omega)) trivial ?_
    simp only [Act.put, sA, sB, sC]
    refine oi_run (k := 10) (by kernel_rfl) rfl (by rfl) (.int .i64 (d2 : Int)) (ex_assign rfl rfl) trivial ?_
    simp only [Act.put, sA, sB, sC]
    refine oi_done (by kernel_rfl) ?_
    go_wp2_with (first
     | ((with_reducible apply gS 71); refine wl_run rfl (.slice Ee f2 f2) (ex_sliceFE rfl HEE.out hf2 hf2 rfl rfl (by omega)) ?_)
     | ((with_reducible apply gS 73); refine wpList_copyB rfl (some 73) rfl (.tmp 71) (.tmp 72) rfl g N d2 f2 k2 _ _ v _ Ee HEE.out rfl hf2 rfl (HVS.out _ hx4) HV.out HDL.out (by omega) hr4 hx4 hg ?_; intro w5 hr5 hx5)
     | ((with_reducible apply gS 74); refine wl_run rfl (.int .i64 (d3 : Int)) (ex_addNE rfl hd3 rfl rfl (by omega)) ?_)
     | ((with_reducible apply gS 78); refine wl_run rfl (.int .i64 (sy : Int)) (ex_addNE rfl hsy rfl rfl (by omega)) ?_))
    go_roundw
    case rel => exact ⟨k + 1, sy, d3, _, by omega, by go_num, rfl, rfl, by omega, HDL2, HC2, HR2, hr5, hx5⟩
    case measure => simp [intOf]; omega
   ·have hkm : m - k = 0 := by omega
    have e4 := HRR.out
    rw [hkm, replN] at e4
    have e5 := congrArg List.length e4
    rw [List.length_append, List.length_drop, HD.out, HL.out, ← HNR.out] at e5
    have HRE : Hid (R = D ++ bs.drop st) := hid_ e4.symm
    have HXL : Hid ((bs.drop st).length = r) := hid_ (by rw [List.length_drop, HL.out]; omega)
    have hdr : d + r = N := by omega
    obtain ⟨f, hfN⟩ : ∃ f, f + d = N := ⟨N - d, by omega⟩
    clear hkm e4 HCN HRR
    go_upto_region 28 with ((with_reducible apply gS 47); refine wl_run rfl _ (ex_gtr rfl rfl rfl HK1.out) ?_)
    have hx' : Ext w wr.drew := hx.drew
    have hr0' : RowB wr.drew g N D := hr0
    refine wp_region_oi (fun _ => True) (by kernel_rfl) ?_
    refine oi_run (k := 0) (by kernel_rfl) rfl (by rfl) (.int .i64 (d : Int)) (ex_move rfl rfl) trivial ?_
    simp only [Act.put, sA, sB, sC]
    refine oi_run (k := 1) (by kernel_rfl) rfl (by rfl) (.slice (some ⟨g, 0, none⟩) N N) (ex_move rfl rfl) trivial ?_
    simp only [Act.put, sA, sB, sC]
    refine oi_run (k := 2) (by kernel_rfl) rfl (by rfl) (.int .i64 (d : Int)) (ex_move rfl rfl) trivial ?_
    simp only [Act.put, sA, sB, sC]
    refine oi_run (k := 3) (by kernel_rfl) rfl (by rfl) (.slice Ed f f) (ex_sliceFE rfl HED.out hfN hfN rfl rfl (by omega)) trivial ?_
    simp only [Act.put, sA, sB, sC]
    refine oi_run (k := 4) (by kernel_rfl) rfl (by rfl) (.slice A n c) (ex_move rfl rfl) trivial ?_
    simp only [Act.put, sA, sB, sC]
    refine oi_run (k := 5) (by kernel_rfl) rfl (by rfl) (.int .i64 (st : Int)) (ex_move rfl rfl) trivial ?_
    simp only [Act.put, sA, sB, sC]
    refine oi_run (k := 6) (by kernel_rfl) rfl (by rfl) (.slice Eb r cq) (ex_sliceFE rfl HEB.out hrn hcq rfl rfl (by omega)) trivial ?_
    simp only [Act.put, sA, sB, sC]
    refine oi_loud (k := 7) (by kernel_rfl) rfl ?_
    refine wpList_copyB rfl (some 127) rfl (.tmp 123) (.tmp 126) rfl g N d f r _ D (bs.drop st) _ Ed HED.out rfl hfN rfl (HTL.out _ hx') HXL.out HD.out (by omega) hr0 hx' hg ?_
    intro w4 hr4 hx4
    refine oi_end ⟨trivial, ?_⟩
    simp only [Act.put, sA, sB, sC]
    refine oi_run (k := 8) (by kernel_rfl) rfl (by rfl) (.int .i64 (N : Int)) (ex_addNE rfl hdr rfl rfl (by omega)) trivial ?_
    simp only [Act.put, sA, sB, sC]
    refine oi_run (k := 9) (by kernel_rfl) rfl (by rfl) (.int .i64 (N : Int)) (ex_assign rfl rfl) trivial ?_
    simp only [Act.put, sA, sB, sC]
    refine oi_done (by kernel_rfl) ?_
    go_wp2_with ((with_reducible apply gS 131); refine wl_run rfl (.slice (some ⟨g, 0, none⟩) N N) (ex_slice0 rfl rfl rfl rfl) ?_)
    go_ret
    refine ⟨some ⟨g, 0, none⟩, N, N, rfl, HNR.out.symm, ?_, (fun h => by cases h), hx4⟩
    unfold RowB at hr4
    rw [← HRE.out, ← HNR.out, Nat.sub_self, List.replicate_zero, List.append_nil] at hr4
    exact byte_row HNR.out.symm hr4
end
end Go.Proofs.YtkggcjdlpendfaaGreatDoor
