/- Contracts for the law RescueHurtsCard, part 4: what the functions that it reaches answer, for all arguments that the theorems name. -/
import Derived.Deep.Cut
import Derived.Test.YtkggcjdlpendfaaGreatDoorMRescueHurtsCard3
import Derived.Test.YtkggcjdlpendfaaGreatDoorMRescueHurtsCard2
import Derived.Test.YtkggcjdlpendfaaGreatDoorMRescueHurtsCard1
import Derived.Laws.CopyOwn
import Derived.WalkSmall
import Derived.Laws.MakeOwn
import Derived.Shelf.Small.Bits
import Derived.Shelf.Strconv.Itoa0
import Derived.Shelf.Strings.Search1
import Derived.Shelf.Strings.Search2
import Derived.Shelf.Strings.Search3
import Derived.Shelf.LaysM
import Derived.Shelf.Strings.Shaped
import Derived.Shelf.Strings.Prefix
import Derived.Shelf.Bytes.SlIndexSmall
import Derived.Ground.SlbNamesProg
import Derived.Shelf.Bytes.SlCountOne
import Derived.Shelf.Bytes.SlIndexAt
import Derived.Shelf.Bytes.SlSearch0
import Derived.Shelf.Bytes.SlSearch1
import Derived.Shelf.Bytes.SlSearch2
import Derived.Shelf.Bytes.SlIndexWhole
import Derived.Shelf.Bytes.SlCountWhole
import Derived.Shelf.Bytes.Small
import Derived.Shelf.Bytes.IndexByte
import Derived.Test.YtkggcjdlpendfaaGreatDoorProg
import Derived.Outline
import Derived.IntWalk
import Derived.WideKeyPair
namespace Go.Proofs.YtkggcjdlpendfaaGreatDoor
set_option linter.unusedVariables false
set_option linter.unusedSimpArgs false
open Go.RowKit
theorem bytesV_sub (bs : List Nat) (i k : Nat) : bytesV ((bs.drop i).take k) = ((bytesV bs).drop i).take k := by simp [bytesV]
theorem elt_bss : Elt Tryz.prog 71 45 1 24 := ⟨Tryz.underlying71, by kernel_rfl, by omega⟩
theorem sizeBs : (Tryz.prog.info? 45).map (·.size) = some 1 := by kernel_rfl
theorem zeroBs : ((Tryz.prog.info? 45).bind (·.zero)).isSome = true := by kernel_rfl
theorem zeroI : ((Tryz.prog.info? 3).bind (·.zero)).isSome = true := by kernel_rfl
def SpIsE (z : Option (List (List Nat) × List Nat)) (w : World) (e : Ending) (w' : World) : Prop :=
 match z with
 | none => e = .returned (.tuple #[.slice none 0 0, .slice none 0 0, .int .i64 4]) ∧ Ext w w'
 | some (P, M) => ∃ A c B d VS, e = .returned (.tuple #[.slice A P.length c, .slice B M.length d, .int .i64 0]) ∧ SL w' 1 (.slice A P.length c) P.length VS ∧ Pieces w' VS P ∧ SL w' 1 (.slice B M.length d) M.length (ints (M.map Int.ofNat)) ∧ Ext w w' ∧
    (∀ ad, A = some ad → w.heap.size ≤ ad.block) ∧ ∀ ad, B = some ad → w.heap.size ≤ ad.block
set_option maxRecDepth 20000 in
set_option maxHeartbeats 800000 in
theorem rsplit_anyF (bs : List Nat) (v : Value) (w : World) (hv : SL w 1 v bs.length (bytesV bs)) (hlt : ∀ b ∈ bs, b < 256) (hn : bs.length ≤ 1048576) :
 Calls Tryz.prog 53 #[v] w (SpIsE (spGo bs [] [] []) w) := by
 have HB := hid_ hlt
 have hv' := hv
 obtain ⟨A, c, rfl, hc1, hc2, -, -⟩ := hv'
 obtain ⟨ez, hez⟩ : ∃ ez, ez = spGo bs [] [] [] := ⟨_, rfl⟩
 have HEZ := hid_ hez
 rw [← hez]
 clear hez hlt
 have HSE := hid_ (fun i P M c (h : bs.length ≤ i) => sp_end (bs := bs) (i := i) (P := P) (M := M) (c := c) h)
 have HSP := hid_ (fun i P M c (h : i < bs.length) hx => sp_plain (bs := bs) (i := i) (P := P) (M := M) (c := c) h hx)
 have HS2 := hid_ (fun i P M c (h : i + 1 < bs.length) hx => sp_two (bs := bs) (i := i) (P := P) (M := M) (c := c) h hx)
 have HSL := hid_ (fun i P M c (h : i + 1 = bs.length) hx => sp_last (bs := bs) (i := i) (P := P) (M := M) (c := c) h hx)
 obtain ⟨n, hnn⟩ : ∃ n, n = bs.length := ⟨_, rfl⟩
 have HBL : Hid (bs.length = n) := hid_ hnn.symm
 rw [← hnn] at hv hn hc1 ⊢
 clear hnn
 go_enter Tryz.func53, Tryz.ntmps53
 go_wp2_with fail
 go_loopw [5, 6, 7, 8] (fun s1 s2 q iv wr => ∃ (i fr : Nat) (P : List (List Nat)) (M : List Nat) (A1 : Option Addr) (c1 : Nat) (A2 : Option Addr) (c2 : Nat) (VS : List Value), i ≤ n ∧ fr ≤ i ∧ iv = .int .i64 (i : Int) ∧ q = .int .i64 (fr : Int) ∧ P.length ≤ i ∧ M.length ≤ i ∧ s1 = .slice A1 P.length c1 ∧ s2 = .slice A2 M.length c2 ∧
  Two w wr w.heap.size 45 3 (.slice A1 P.length c1) (.slice A2 M.length c2) P.length M.length VS (ints (M.map Int.ofNat)) none none ∧ Pieces w VS P ∧ Hid (ez = spGo (bs.drop i) P M ((bs.drop fr).take (i - fr)))) (fun _ _ _ i _ => n - (intOf i).toNat)
 case atStart => exact ⟨0, 0, [], [], none, 0, none, 0, [], by omega, by omega, rfl, rfl, by simp, by simp, rfl, rfl, ⟨Ext.refl _, ⟨Nat.le_refl _, Nat.le_refl _⟩, own_nil _ _ _ _, own_nil _ _ _ _, (fun b h => by simp [Value.ownBlock] at h), (fun _ _ h => by cases h), (fun _ _ h => by cases h)⟩, ⟨rfl, fun i h => by simp at h⟩, HEZ⟩
 case round =>
  clear HEZ
  obtain ⟨i, fr, P, M, A1, c1, A2, c2, VS, hi, hfr, rfl, rfl, hPl, hMl, rfl, rfl, T0, HPI, HEZ⟩ := hrel
  by_cases hlt : i < n
  ·have hil : i < bs.length := by rw [HBL.out]; exact hlt
   obtain ⟨ad, u, rfl, hab, hxk, hcell⟩ := (hv.ext T0.ext).at1 hlt
   obtain ⟨hkl, rfl⟩ := bytes_at hxk
   have hx8 : bs[i] < 256 := HB.out _ (List.getElem_mem hil)
   have HPP := hid_ (fun hx => HEZ.out.trans (HSP.out i P M ((bs.drop fr).take (i - fr)) hil hx))
   have HTK : Hid ((bs.drop fr).take (i + 1 - fr) = (bs.drop fr).take (i - fr) ++ [bs[i]]) := hid_ (by
    rw [show i + 1 - fr = i - fr + 1 by omega, List.take_succ_eq_append_getElem (by simp; omega)]
    congr 2
    simp
    congr 1
    omega)
   by_cases hx : bs[i] = 255
   ·by_cases h1 : i + 1 = n
    ·have HER : Hid (ez = none) := hid_ (HEZ.out.trans (HSL.out i P M _ (by rw [HBL.out]; exact h1) hx))
     have hd : decide ((i : Int) + 1 = (n : Int)) = true := by simp; omega
     have hd2 : ((i : Int) + 1 == (n : Int)) = true := by simp; omega
     have hwr : IntKind.i64.wrap ((i : Int) + 1) = (i : Int) + 1 := IntWalk.i64_in _ (by omega)
     clear HPP HTK HEZ
     rw [hx] at hcell
     clear hxk hx8
     go_wp2_with fail
     go_ret3
     rw [HER.out]
     exact ⟨rfl, T0.ext⟩
    ·have h1' : i + 1 < n := by omega
     obtain ⟨ad2, u2, e2, -, hyk, hcell2⟩ := (hv.ext T0.ext).at1 h1'
     injection e2 with e2
     subst e2
     obtain ⟨hkl2, rfl⟩ := bytes_at hyk
     have hy : bs[i + 1] < 256 := HB.out _ (List.getElem_mem hkl2)
     have HT := hid_ (HEZ.out.trans (HS2.out i P M _ hkl2 hx))
     have HTK2 : Hid ((bs.drop fr).take (i + 2 - fr) = (bs.drop fr).take (i - fr) ++ [255, bs[i + 1]]) := hid_ (by
      rw [show i + 2 - fr = i - fr + 1 + 1 by omega, List.take_succ_eq_append_getElem (by simp; omega), List.take_succ_eq_append_getElem (by simp; omega)]
      simp only [List.append_assoc, List.getElem_drop]
      congr 1
      simp only [List.singleton_append, List.cons.injEq, and_true]
      refine ⟨?_, ?_⟩
      ·rw [← hx]; congr 1; omega
      ·congr 1; omega)
     have hd : decide ((i : Int) + 1 = (n : Int)) = false := by simp; omega
     have hd2 : ((i : Int) + 1 == (n : Int)) = false := by simp; omega
     have hdI : ¬ ((i : Int) + 1 = (n : Int)) := by omega
     have hwr : IntKind.i64.wrap ((i : Int) + 1) = (i : Int) + 1 := IntWalk.i64_in _ (by omega)
     have hwr2 : IntKind.i64.wrap ((i : Int) + 1 + 1) = (i : Int) + 1 + 1 := IntWalk.i64_in _ (by omega)
     have hwr3 : IntKind.i64.wrap ((i : Int) + 2) = (i : Int) + 2 := IntWalk.i64_in _ (by omega)
     have hi1 : i + 1 < n := h1'
     have hi1I : (i : Int) + 1 < (n : Int) := by omega
     clear HPP HTK HEZ hxk hyk hx8
     rw [hx] at hcell
     by_cases hy1 : bs[i + 1] = 255
     ·rw [if_pos hy1] at HT
      rw [hy1] at hcell2
      have hcell3 := hcell2
      unfold Addr.add at hcell3
      rw [if_neg (by omega)] at hcell3
      clear hy hy1 HTK2
      go_wp2_with fail
      go_ret3
      rw [HT.out]
      exact ⟨rfl, T0.ext⟩
     ·rw [if_neg hy1] at HT
      have hyI : ¬ (((bs[i + 1] : Nat) : Int) = 255) := by omega
      have hyb : (((bs[i + 1] : Nat) : Int) == 255) = false := by simp; omega
      by_cases hy0 : bs[i + 1] = 0
      ·rw [if_pos hy0] at HT
       rw [hy0] at hcell2 HTK2
       have hcell3 := hcell2
       unfold Addr.add at hcell3
       rw [if_neg (by omega)] at hcell3
       have HNX : Hid (ez = spGo (bs.drop (i + 2)) P M ((bs.drop fr).take (i + 2 - fr))) := hid_ (by rw [HT.out, HTK2.out])
       clear HT HTK2 hy hy1 hyI hyb hy0
       go_wp2_with fail
       go_roundw
       case rel => exact ⟨i + 2, fr, P, M, A1, c1, A2, c2, VS, by omega, by omega, by go_num, rfl, by omega, by omega, rfl, rfl, T0, HPI, HNX⟩
       case measure => simp [intOf]; omega
      ·rw [if_neg hy0] at HT
       have hdy : decide ((0 : Int) < ((bs[i + 1] : Nat) : Int)) = true := by simp; omega
       have hy0I : 0 < bs[i + 1] := by omega
       have HCX : ∀ W, Ext w W → W.cell? (ad.add ((i + 1) * 1)) = some (.int .u8 ((bs[i + 1] : Nat) : Int)) := fun W hW => by
        rw [Nat.mul_one]
        obtain ⟨ad3, u3, e3, -, hk3, hc3⟩ := (hv.ext hW).at1 h1'
        injection e3 with e3
        subst e3
        obtain ⟨_, hu⟩ := bytes_at hk3
        rw [hc3, hu]
       generalize bs[i + 1] = y at *
       clear HTK2 hx
       have hcell3 := hcell2
       unfold Addr.add at hcell3
       rw [if_neg (by omega)] at hcell3
       have HPS : Hid (Pieces w (VS ++ [.slice (if c = fr then some ad else (some ad).map (·.add fr)) (i - fr) (c - fr)]) (P ++ [(bs.drop fr).take (i - fr)])) := hid_ (HPI.snoc (by rw [List.length_take, List.length_drop, HBL.out]; omega) (by
        have := SL.sub hv hfr (show i ≤ n by omega)
        rwa [← bytesV_sub] at this))
       have hI : Ext w wr.drew := T0.ext.drew
       have T0d := T0.later (Ext.refl wr).drew
       go_wp2_with fail
       refine wp_region_oi (Ext w) (by kernel_rfl) ?_
       refine oi_run (k := 0) (by kernel_rfl) rfl (by rfl) (.slice A1 P.length c1) (ex_move rfl rfl) hI ?_
       simp only [Act.put, sA, sB, sC]
       refine oi_run (k := 1) (by kernel_rfl) rfl (by rfl) (.slice (some ad) n c) (ex_move rfl rfl) hI ?_
       simp only [Act.put, sA, sB, sC]
       refine oi_run (k := 2) (by kernel_rfl) rfl (by rfl) (.int .i64 ((fr : Nat) : Int)) (ex_move rfl rfl) hI ?_
       simp only [Act.put, sA, sB, sC]
       refine oi_run (k := 3) (by kernel_rfl) rfl (by rfl) (.int .i64 ((i : Nat) : Int)) (ex_move rfl rfl) hI ?_
       simp only [Act.put, sA, sB, sC]
       refine oi_run (k := 4) (by kernel_rfl) rfl (by rfl) (.slice (if c = fr then some ad else (some ad).map (·.add fr)) (i - fr) (c - fr)) (ex_sliceB rfl rfl rfl rfl (by omega) (by omega) (by omega)) hI ?_
       simp only [Act.put, sA, sB, sC]
       refine oi_run (k := 7) (by kernel_rfl) rfl (by rfl) (.slice A2 M.length c2) (ex_move rfl rfl) hI ?_
       simp only [Act.put, sA, sB, sC]
       refine oi_run (k := 8) (by kernel_rfl) rfl (by rfl) (.slice (some ad) n c) (ex_move rfl rfl) hI ?_
       simp only [Act.put, sA, sB, sC]
       refine oi_run (k := 9) (by kernel_rfl) rfl (by rfl) (.int .i64 ((i : Nat) : Int)) (ex_move rfl rfl) hI ?_
       simp only [Act.put, sA, sB, sC]
       refine oi_run (k := 10) (by kernel_rfl) rfl (by rfl) (.int .i64 ((i + 1 : Nat) : Int)) (ex_addN (i := i) (d := 1) rfl rfl rfl (by omega)) hI ?_
       simp only [Act.put, sA, sB, sC]
       refine oi_run (k := 11) (by kernel_rfl) rfl (by rfl) (.pointer (some (ad.add ((i + 1) * 1)))) (ex_ixSl Tryz.underlying45 sizeU8' rfl rfl rfl hi1) hI ?_
       simp only [Act.put, sA, sB, sC]
       refine oi_fix (k := 12) (by kernel_rfl) rfl (by rfl) (.int .u8 ((y : Nat) : Int)) (fun W hW => ex_loadU rfl rfl (HCX W hW)) hI ?_
       simp only [Act.put, sA, sB, sC]
       refine oi_run (k := 13) (by kernel_rfl) rfl (by rfl) (.int .i64 ((y : Nat) : Int)) (ex_conv rfl rfl (run_conv8 y hy)) hI ?_
       simp only [Act.put, sA, sB, sC]
       refine oi_two (k := 5) (l := 14) (by kernel_rfl) rfl rfl ?_ ?_
       ·refine wLit1 rfl 71 45 (.tmp 43) rfl (some 44) rfl Tryz.underlying71 1 sizeBs zeroBs _ rfl rfl (by omega) (by omega) ?_
        intro w1 g1 hb1 hx1 hg1
        have T1 := T0d.lit1 (v := (.slice (if c = fr then some ad else (some ad).map (·.add fr)) (i - fr) (c - fr))) hb1 hx1 hg1
        clear hb1 hx1 hg1
        refine oi_end ⟨T1.ext, ?_⟩
        simp only [Act.put, sA, sB, sC]
        refine oi_two (k := 6) (l := 14) (by kernel_rfl) rfl rfl ?_ ?_
        ·refine wApf elt_bss rfl _ _ rfl w.heap.size (.slice A1 P.length c1) P.length VS rfl T1.p _ 1 [(.slice (if c = fr then some ad else (some ad).map (·.add fr)) (i - fr) (c - fr))] rfl (blk_one (T1.a1 _ _ rfl).1) (one_of rfl) (by omega) (by omega) T1.base.2 ?_
         intro B1 d1 w2 ho2 hg2 hr2
         have T2 := T1.app1' ho2 hg2 hr2
         clear ho2 hg2 hr2
         refine oi_end ⟨T2.ext, ?_⟩
         simp only [Act.put, sA, sB, sC]
         refine oi_loud (k := 14) (by kernel_rfl) rfl ?_
         refine wLit1 rfl 22 3 (.tmp 52) rfl (some 53) rfl Tryz.underlying22 1 sizeI zeroI _ rfl rfl (by omega) (by omega) ?_
         intro w3 g3 hb3 hx3 hg3
         have T3 := T2.lit2 (v := .int .i64 (y : Int)) hb3 hx3 hg3
         clear hb3 hx3 hg3
         refine oi_end ⟨T3.ext, ?_⟩
         simp only [Act.put, sA, sB, sC]
         refine oi_loud (k := 15) (by kernel_rfl) rfl ?_
         refine wApf elt_intR rfl _ _ rfl w.heap.size (.slice A2 M.length c2) M.length (ints (M.map Int.ofNat)) rfl T3.m _ 1 [.int .i64 (y : Int)] rfl (blk_one (T3.a2 _ _ rfl).1) (int_one _) (by omega) (by omega) T3.base.2 ?_
         intro B2 d2 w4 ho4 hg4 hr4
         have T4 := T3.app2' ho4 hg4 hr4
         clear ho4 hg4 hr4
         refine oi_end ⟨T4.ext, ?_⟩
         simp only [Act.put, sA, sB, sC]
         refine oi_run (k := 16) (by kernel_rfl) rfl (by rfl) (.slice B1 (P.length + 1) d1) (ex_assign rfl rfl) T4.ext ?_
         simp only [Act.put, sA, sB, sC]
         refine oi_run (k := 17) (by kernel_rfl) rfl (by rfl) (.slice B2 (M.length + 1) d2) (ex_assign rfl rfl) T4.ext ?_
         simp only [Act.put, sA, sB, sC]
         refine oi_done (by kernel_rfl) ?_
         go_wp2_with fail
         go_roundw
         case rel =>
          refine ⟨i + 2, i + 2, P ++ [(bs.drop fr).take (i - fr)], M ++ [y], B1, d1, B2, d2, _, by omega, by omega, by go_num, by go_num, by simp; omega, by simp; omega, by rw [List.length_append]; rfl, by rw [List.length_append]; rfl, ?_, HPS.out, hid_ (by rw [HT.out, Nat.sub_self]; rfl)⟩
          rw [List.length_append, List.length_append, List.map_append, ints_app]
          exact T4
         case measure => simp [intOf]; omega
        ·refine wLit1 rfl 22 3 (.tmp 52) rfl (some 53) rfl Tryz.underlying22 1 sizeI zeroI _ rfl rfl (by omega) (by omega) ?_
         intro w2 g2 hb2 hx2 hg2
         have T2 := T1.lit2 (v := .int .i64 (y : Int)) hb2 hx2 hg2
         clear hb2 hx2 hg2
         refine oi_end ⟨T2.ext, ?_⟩
         simp only [Act.put, sA, sB, sC]
         refine oi_loud (k := 6) (by kernel_rfl) rfl ?_
         refine wApf elt_bss rfl _ _ rfl w.heap.size (.slice A1 P.length c1) P.length VS rfl T2.p _ 1 [(.slice (if c = fr then some ad else (some ad).map (·.add fr)) (i - fr) (c - fr))] rfl (blk_one (T2.a1 _ _ rfl).1) (one_of rfl) (by omega) (by omega) T2.base.2 ?_
         intro B1 d1 w3 ho3 hg3 hr3
         have T3 := T2.app1' ho3 hg3 hr3
         clear ho3 hg3 hr3
         refine oi_end ⟨T3.ext, ?_⟩
         simp only [Act.put, sA, sB, sC]
         refine oi_loud (k := 15) (by kernel_rfl) rfl ?_
         refine wApf elt_intR rfl _ _ rfl w.heap.size (.slice A2 M.length c2) M.length (ints (M.map Int.ofNat)) rfl T3.m _ 1 [.int .i64 (y : Int)] rfl (blk_one (T3.a2 _ _ rfl).1) (int_one _) (by omega) (by omega) T3.base.2 ?_
         intro B2 d2 w4 ho4 hg4 hr4
         have T4 := T3.app2' ho4 hg4 hr4
         clear ho4 hg4 hr4
         refine oi_end ⟨T4.ext, ?_⟩
         simp only [Act.put, sA, sB, sC]
         refine oi_run (k := 16) (by kernel_rfl) rfl (by rfl) (.slice B1 (P.length + 1) d1) (ex_assign rfl rfl) T4.ext ?_
         simp only [Act.put, sA, sB, sC]
         refine oi_run (k := 17) (by kernel_rfl) rfl (by rfl) (.slice B2 (M.length + 1) d2) (ex_assign rfl rfl) T4.ext ?_
         simp only [Act.put, sA, sB, sC]
         refine oi_done (by kernel_rfl) ?_
         go_wp2_with fail
         go_roundw
         case rel =>
          refine ⟨i + 2, i + 2, P ++ [(bs.drop fr).take (i - fr)], M ++ [y], B1, d1, B2, d2, _, by omega, by omega, by go_num, by go_num, by simp; omega, by simp; omega, by rw [List.length_append]; rfl, by rw [List.length_append]; rfl, ?_, HPS.out, hid_ (by rw [HT.out, Nat.sub_self]; rfl)⟩
          rw [List.length_append, List.length_append, List.map_append, ints_app]
          exact T4
         case measure => simp [intOf]; omega
       ·refine wLit1 rfl 22 3 (.tmp 52) rfl (some 53) rfl Tryz.underlying22 1 sizeI zeroI _ rfl rfl (by omega) (by omega) ?_
        intro w1 g1 hb1 hx1 hg1
        have T1 := T0d.lit2 (v := .int .i64 (y : Int)) hb1 hx1 hg1
        clear hb1 hx1 hg1
        refine oi_end ⟨T1.ext, ?_⟩
        simp only [Act.put, sA, sB, sC]
        refine oi_loud (k := 5) (by kernel_rfl) rfl ?_
        refine wLit1 rfl 71 45 (.tmp 43) rfl (some 44) rfl Tryz.underlying71 1 sizeBs zeroBs _ rfl rfl (by omega) (by omega) ?_
        intro w2 g2 hb2 hx2 hg2
        have T2 := T1.lit1 (v := (.slice (if c = fr then some ad else (some ad).map (·.add fr)) (i - fr) (c - fr))) hb2 hx2 hg2
        clear hb2 hx2 hg2
        refine oi_end ⟨T2.ext, ?_⟩
        simp only [Act.put, sA, sB, sC]
        refine oi_loud (k := 6) (by kernel_rfl) rfl ?_
        refine wApf elt_bss rfl _ _ rfl w.heap.size (.slice A1 P.length c1) P.length VS rfl T2.p _ 1 [(.slice (if c = fr then some ad else (some ad).map (·.add fr)) (i - fr) (c - fr))] rfl (blk_one (T2.a1 _ _ rfl).1) (one_of rfl) (by omega) (by omega) T2.base.2 ?_
        intro B1 d1 w3 ho3 hg3 hr3
        have T3 := T2.app1' ho3 hg3 hr3
        clear ho3 hg3 hr3
        refine oi_end ⟨T3.ext, ?_⟩
        simp only [Act.put, sA, sB, sC]
        refine oi_loud (k := 15) (by kernel_rfl) rfl ?_
        refine wApf elt_intR rfl _ _ rfl w.heap.size (.slice A2 M.length c2) M.length (ints (M.map Int.ofNat)) rfl T3.m _ 1 [.int .i64 (y : Int)] rfl (blk_one (T3.a2 _ _ rfl).1) (int_one _) (by omega) (by omega) T3.base.2 ?_
        intro B2 d2 w4 ho4 hg4 hr4
        have T4 := T3.app2' ho4 hg4 hr4
        clear ho4 hg4 hr4
        refine oi_end ⟨T4.ext, ?_⟩
        simp only [Act.put, sA, sB, sC]
        refine oi_run (k := 16) (by kernel_rfl) rfl (by rfl) (.slice B1 (P.length + 1) d1) (ex_assign rfl rfl) T4.ext ?_
        simp only [Act.put, sA, sB, sC]
        refine oi_run (k := 17) (by kernel_rfl) rfl (by rfl) (.slice B2 (M.length + 1) d2) (ex_assign rfl rfl) T4.ext ?_
        simp only [Act.put, sA, sB, sC]
        refine oi_done (by kernel_rfl) ?_
        go_wp2_with fail
        go_roundw
        case rel =>
         refine ⟨i + 2, i + 2, P ++ [(bs.drop fr).take (i - fr)], M ++ [y], B1, d1, B2, d2, _, by omega, by omega, by go_num, by go_num, by simp; omega, by simp; omega, by rw [List.length_append]; rfl, by rw [List.length_append]; rfl, ?_, HPS.out, hid_ (by rw [HT.out, Nat.sub_self]; rfl)⟩
         rw [List.length_append, List.length_append, List.map_append, ints_app]
         exact T4
        case measure => simp [intOf]; omega
   ·have HNX : Hid (ez = spGo (bs.drop (i + 1)) P M ((bs.drop fr).take (i + 1 - fr))) := hid_ (by rw [HPP.out hx, HTK.out])
    have hxn : (((bs[i] : Nat) : Int) != 255) = true := by simp; omega
    clear HPP HTK HEZ hxk
    generalize bs[i] = x at *
    have hxI : ¬ ((x : Int) = 255) := by omega
    go_wp2_with fail
    go_roundw
    case rel => exact ⟨i + 1, fr, P, M, A1, c1, A2, c2, VS, by omega, by omega, by go_num, rfl, by omega, by omega, rfl, rfl, T0, HPI, HNX⟩
    case measure => simp [intOf]; omega
  ·have ei : i = n := by omega
   have HER := hid_ (HEZ.out.trans (HSE.out i P M _ (by rw [HBL.out]; omega)))
   clear HEZ
   rw [ei] at hPl hMl hfr
   have HPS : Hid (Pieces w (VS ++ [.slice (if c = fr then A else A.map (·.add fr)) (n - fr) (c - fr)]) (P ++ [(bs.drop fr).take (i - fr)])) := hid_ (HPI.snoc (by rw [List.length_take, List.length_drop, HBL.out]; omega) (by
    have := SL.sub hv hfr (Nat.le_refl n)
    rw [ei]
    rwa [← bytesV_sub] at this))
   obtain ⟨Q, hQ⟩ : ∃ Q, Q = (if c = fr then A else A.map (·.add fr)) := ⟨_, rfl⟩
   have HQ := hid_ hQ
   rw [← hQ] at HPS
   clear hQ
   go_upto_region 14 with fail
   refine wp_region_lit ?_
   refine wl_run rfl (.slice A1 P.length c1) (ex_move rfl rfl) ?_
   simp only [Act.put, sA, sB, sC]
   refine wl_run rfl (.slice A n c) (ex_move rfl rfl) ?_
   simp only [Act.put, sA, sB, sC]
   refine wl_run rfl (.int .i64 (fr : Int)) (ex_move rfl rfl) ?_
   simp only [Act.put, sA, sB, sC]
   refine wl_run rfl (.slice Q (n - fr) (c - fr)) (by rw [HQ.out]; exact ex_sliceF rfl rfl rfl hfr hc1) ?_
   simp only [Act.put, sA, sB, sC]
   refine wLit1 rfl 71 45 (.tmp 62) rfl (some 63) rfl Tryz.underlying71 1 sizeBs zeroBs _ rfl rfl (by omega) (by omega) ?_
   intro w1 g1 hb1 hx1 hg1
   have T1 := T0.lit1 (v := .slice Q (n - fr) (c - fr)) hb1 hx1 hg1
   clear hb1 hx1 hg1
   simp only [Act.put, sA, sB, sC]
   refine wApf elt_bss rfl _ _ rfl w.heap.size (.slice A1 P.length c1) P.length VS rfl T1.p _ 1 [.slice Q (n - fr) (c - fr)] rfl (blk_one (T1.a1 _ _ rfl).1) (one_of rfl) (by omega) (by omega) T1.base.2 ?_
   intro B1 d1 w2 ho2 hg2 hr2
   have T2 := T1.app1' ho2 hg2 hr2
   clear ho2 hg2 hr2
   simp only [Act.put, sA, sB, sC]
   go_wp2_with fail
   go_ret3
   rw [HER.out]
   refine ⟨B1, d1, A2, c2, _, by rw [List.length_append]; rfl, ?_, HPS.out.ext T2.ext, (own_out T2.m).1, T2.ext, fun ad h => Nat.le_trans T2.base.1 ((own_out T2.p).2 ad h), fun ad h => Nat.le_trans T2.base.1 ((own_out T2.m).2 ad h)⟩
   rw [List.length_append]
   exact (own_out T2.p).1
theorem elt_by : Elt Tryz.prog 45 5 1 1 := ⟨Tryz.underlying45, by kernel_rfl, by omega⟩
def Kept (w : World) (VS : List Value) (P : List (List Nat)) (r1 r2 : Option Nat) : Prop :=
 Pieces w VS P ∧ ∀ V ∈ VS, ∀ b, V.ownBlock = some b → b < w.heap.size ∧ r1 ≠ some b ∧ r2 ≠ some b
theorem Kept.nil (w : World) (r1 r2 : Option Nat) : Kept w [] [] r1 r2 := ⟨⟨rfl, fun i h => by simp at h⟩, fun V h => by cases h⟩
theorem Kept.ext {w w' : World} {VS : List Value} {P : List (List Nat)} {r1 r2 : Option Nat} (h : Kept w VS P r1 r2) (hx : Ext w w') : Kept w' VS P r1 r2 :=
 ⟨h.1.ext hx, fun V hV b hb => by obtain ⟨h1, h2, h3⟩ := h.2 V hV b hb; exact ⟨Nat.lt_of_lt_of_le h1 hx.size, h2, h3⟩⟩
theorem Kept.swap {w : World} {VS : List Value} {P : List (List Nat)} {r1 r2 : Option Nat} (h : Kept w VS P r1 r2) : Kept w VS P r2 r1 :=
 ⟨h.1, fun V hV b hb => by obtain ⟨h1, h2, h3⟩ := h.2 V hV b hb; exact ⟨h1, h3, h2⟩⟩
theorem Pieces.upd {S : Nat → Prop} {w w' : World} {VS : List Value} {P : List (List Nat)} (h : Pieces w VS P) (hu : Upd S w w') (hS : ∀ V ∈ VS, ∀ b, V.ownBlock = some b → ¬ S b) : Pieces w' VS P :=
 ⟨h.1, fun i hi => by
  obtain ⟨A, c, h1, h2⟩ := h.2 i hi
  refine ⟨A, c, h1, h2.upd hu fun ad e => hS _ (List.mem_of_getElem? h1) _ ?_⟩
  rw [own_map2, e]; rfl⟩
theorem Kept.grown {w w' : World} {VS : List Value} {P : List (List Nat)} {r1 r1' r2 : Option Nat} (h : Kept w VS P r1 r2) (hg : w.grownBy w' r1) (hr : r1' = r1 ∨ r1' = some w.heap.size) : Kept w' VS P r1' r2 := by
 have hu := upd_grown hg
 refine ⟨h.1.upd hu fun V hV b hb e => (h.2 V hV b hb).2.1 e, fun V hV b hb => ?_⟩
 obtain ⟨h1, h2, h3⟩ := h.2 V hV b hb
 refine ⟨Nat.lt_of_lt_of_le h1 hu.size, ?_, h3⟩
 rcases hr with rfl | rfl
 ·exact h2
 ·intro e; injection e with e; omega
theorem Kept.grown1 {w w' : World} {VS : List Value} {P : List (List Nat)} {v1 : Value} {r2 : Option Nat} {A : Option Addr} {n c : Nat} (h : Kept w VS P v1.ownBlock r2) (hg : w.grownBy w' v1.ownBlock) (hr : A.map (·.block) = v1.ownBlock ∨ A.map (·.block) = some w.heap.size) : Kept w' VS P (Value.slice A n c).ownBlock r2 := by
 rw [own_map2]; exact h.grown hg hr
theorem Kept.grown2 {w w' : World} {VS : List Value} {P : List (List Nat)} {v2 : Value} {r1 : Option Nat} {A : Option Addr} {n c : Nat} (h : Kept w VS P r1 v2.ownBlock) (hg : w.grownBy w' v2.ownBlock) (hr : A.map (·.block) = v2.ownBlock ∨ A.map (·.block) = some w.heap.size) : Kept w' VS P r1 (Value.slice A n c).ownBlock :=
 (h.swap.grown1 hg hr).swap
theorem Kept.upd {S : Nat → Prop} {w w' : World} {VS : List Value} {P : List (List Nat)} {r1 r2 : Option Nat} (h : Kept w VS P r1 r2) (hu : Upd S w w') (hS : ∀ V ∈ VS, ∀ b, V.ownBlock = some b → ¬ S b) : Kept w' VS P r1 r2 :=
 ⟨h.1.upd hu hS, fun V hV b hb => by obtain ⟨h1, h2, h3⟩ := h.2 V hV b hb; exact ⟨Nat.lt_of_lt_of_le h1 hu.size, h2, h3⟩⟩
theorem Two.upd {S : Nat → Prop} {w0 w w' : World} {B : Nat} {e1 e2 : TypeId} {v1 v2 : Value} {n1 n2 : Nat} {xs1 xs2 : List Value} (h : Two w0 w B e1 e2 v1 v2 n1 n2 xs1 xs2 none none) (hu : Upd S w w') (h0 : ∀ b, S b → w0.heap.size ≤ b)
 (hS1 : ∀ b, v1.ownBlock = some b → ¬ S b) (hS2 : ∀ b, v2.ownBlock = some b → ¬ S b) : Two w0 w' B e1 e2 v1 v2 n1 n2 xs1 xs2 none none :=
 ⟨hu.ext h.ext h0, ⟨h.base.1, Nat.le_trans h.base.2 hu.size⟩, own_upd2 h.p hu hS1, own_upd2 h.m hu hS2, h.d, (fun _ _ e => by cases e), (fun _ _ e => by cases e)⟩
structure Cur (w0 w : World) (B : Nat) (e1 e2 e3 : TypeId) (v1 v2 v3 : Value) (n1 n2 n3 : Nat) (VS xs2 xs3 : List Value) (P : List (List Nat)) : Prop where
 two : Two w0 w B e1 e2 v1 v2 n1 n2 VS xs2 none none
 kept : Kept w VS P v1.ownBlock v2.ownBlock
 cur : w.ownsRow B e3 1 v3 n3 xs3
 d1 : ∀ b, v3.ownBlock = some b → v1.ownBlock ≠ some b ∧ v2.ownBlock ≠ some b
 d2 : ∀ V ∈ VS, ∀ b, V.ownBlock = some b → v3.ownBlock ≠ some b
section
variable {w0 w w' : World} {B : Nat} {e1 e2 e3 : TypeId} {v1 v2 v3 v3' : Value} {n1 n2 n3 m3 : Nat} {VS xs2 xs3 ys3 : List Value} {P : List (List Nat)}
theorem Cur.later (h : Cur w0 w B e1 e2 e3 v1 v2 v3 n1 n2 n3 VS xs2 xs3 P) (hx : Ext w w') : Cur w0 w' B e1 e2 e3 v1 v2 v3 n1 n2 n3 VS xs2 xs3 P :=
 ⟨h.two.later hx, h.kept.ext hx, own_keep h.cur hx, h.d1, h.d2⟩
theorem Cur.grow (h : Cur w0 w B e1 e2 e3 v1 v2 v3 n1 n2 n3 VS xs2 xs3 P) (ho : w'.ownsRow B e3 1 v3' m3 ys3) (hg : w.grownBy w' v3.ownBlock) (hr : v3'.ownBlock = v3.ownBlock ∨ v3'.ownBlock = some w.heap.size) : Cur w0 w' B e1 e2 e3 v1 v2 v3' n1 n2 m3 VS xs2 ys3 P := by
 have hu := upd_grown hg
 refine ⟨h.two.upd hu (fun b hb => by have := (h.cur.lt b hb).1; have := h.two.base.1; omega) (fun b hb e => (h.d1 b e).1 hb) (fun b hb e => (h.d1 b e).2 hb), h.kept.upd hu (fun V hV b hb e => h.d2 V hV b hb e), ho, fun b hb => ?_, fun V hV b hb => ?_⟩
 ·rcases hr with e | e
  ·exact h.d1 b (e ▸ hb)
  ·rw [e] at hb
   injection hb with hb
   exact ⟨fun e2 => by have := (h.two.p.lt b e2).2; omega, fun e2 => by have := (h.two.m.lt b e2).2; omega⟩
 ·rcases hr with e | e
  ·rw [e]; exact h.d2 V hV b hb
  ·rw [e]
   intro e2
   injection e2 with e2
   have := (h.kept.2 V hV b hb).1
   omega
end
theorem Kept.snoc {w : World} {VS : List Value} {P : List (List Nat)} {r1 r2 : Option Nat} {B : Nat} {e : TypeId} {A : Option Addr} {n c : Nat} {l : List Nat} (h : Kept w VS P r1 r2) (ho : w.ownsRow B e 1 (.slice A n c) n (bytesV l)) (hn : l.length = n)
 (hd : ∀ b, (Value.slice A n c).ownBlock = some b → r1 ≠ some b ∧ r2 ≠ some b) : Kept w (VS ++ [.slice A n c]) (P ++ [l]) r1 r2 := by
 refine ⟨h.1.snoc hn (by obtain ⟨B9, d9, e9, h9, -⟩ := own_form ho; injection e9 with e1 e2 e3; subst e1 e3; exact h9), fun V hV b hb => ?_⟩
 rcases List.mem_append.1 hV with h1 | h1
 ·exact h.2 V h1 b hb
 ·obtain rfl : V = .slice A n c := by simpa using h1
  exact ⟨(ho.lt b hb).2, hd b hb⟩
theorem two_sl (w : World) (T : TypeId) (x y : Value) : SL (w.alloc (.cells #[x, y] T)) 1 (.slice (some ⟨w.heap.size, 0, none⟩) 2 2) 2 [x, y] :=
 ⟨_, _, rfl, by omega, by omega, rfl, fun _ => ⟨_, rfl, (Blk.new w T #[x, y]).lt, fun j u hu => by
  have hc := (Blk.new w T #[x, y]).cell j
  rw [addr_add]
  simp only [Nat.zero_add]
  rw [hc, ← hu]
  simp⟩⟩
theorem two_one : ∀ u ∈ [Value.int .u8 255, Value.int .u8 0], u.oneCell' = true := by
 intro u hu
 simp at hu
 rcases hu with rfl | rfl <;> rfl
theorem bytesV_two (C : List Nat) : bytesV (C ++ [255, 0]) = bytesV C ++ [.int .u8 255, .int .u8 0] := by simp [bytesV]
def NZ (VS : List Value) : Prop := ∀ u ∈ VS, ∀ A n c, u = Value.slice A n c → A = none → c = 0
theorem NZ.nil : NZ [] := fun _ h => by cases h
theorem NZ.snoc {VS : List Value} {A : Option Addr} {n c : Nat} (h : NZ VS) (h2 : A = none → c = 0) : NZ (VS ++ [.slice A n c]) := by
 intro u hu A' n' c' e e0
 rcases List.mem_append.1 hu with hu | hu
 ·exact h u hu A' n' c' e e0
 ·simp at hu
  rw [hu] at e
  injection e with e1 e2 e3
  rw [← e3]
  exact h2 (by rw [e1]; exact e0)
theorem own_nz {w : World} {base size n c : Nat} {e : TypeId} {A : Option Addr} {xs : List Value} (ho : w.ownsRow base e size (.slice A n c) n xs) : A = none → c = 0 := by
 obtain ⟨-, hh⟩ := ho
 rcases hh with ⟨h1, -⟩ | ⟨k, cap, cur, h1, -⟩
 ·injection h1 with _ _ h3; exact fun _ => h3
 ·injection h1 with h2 _ _; exact fun h => by rw [h] at h2; cases h2
def SpIsF (z : Option (List (List Nat) × List Nat)) (w : World) (e : Ending) (w' : World) : Prop :=
 match z with
 | none => e = .returned (.tuple #[.slice none 0 0, .slice none 0 0, .int .i64 4]) ∧ Ext w w'
 | some (P, M) => ∃ A c B d VS, e = .returned (.tuple #[.slice A P.length c, .slice B M.length d, .int .i64 0]) ∧ SL w' 1 (.slice A P.length c) P.length VS ∧ Pieces w' VS P ∧ SL w' 1 (.slice B M.length d) M.length (ints (M.map Int.ofNat)) ∧ Ext w w' ∧ NZ VS ∧
    (∀ ad, A = some ad → w.heap.size ≤ ad.block) ∧ ∀ ad, B = some ad → w.heap.size ≤ ad.block
set_option maxRecDepth 20000 in
set_option maxHeartbeats 800000 in
theorem split_anyF (bs : List Nat) (v : Value) (w : World) (hv : SL w 1 v bs.length (bytesV bs)) (hlt : ∀ b ∈ bs, b < 256) (hn : bs.length ≤ 1048576) :
 Calls Tryz.prog 34 #[v] w (SpIsF (spGo bs [] [] []) w) := by
 have HB := hid_ hlt
 have hv' := hv
 obtain ⟨A, c, rfl, hc1, hc2, -, -⟩ := hv'
 obtain ⟨ez, hez⟩ : ∃ ez, ez = spGo bs [] [] [] := ⟨_, rfl⟩
 have HEZ := hid_ hez
 rw [← hez]
 clear hez hlt
 have HSE := hid_ (fun i P M c (h : bs.length ≤ i) => sp_end (bs := bs) (i := i) (P := P) (M := M) (c := c) h)
 have HSP := hid_ (fun i P M c (h : i < bs.length) hx => sp_plain (bs := bs) (i := i) (P := P) (M := M) (c := c) h hx)
 have HS2 := hid_ (fun i P M c (h : i + 1 < bs.length) hx => sp_two (bs := bs) (i := i) (P := P) (M := M) (c := c) h hx)
 have HSL := hid_ (fun i P M c (h : i + 1 = bs.length) hx => sp_last (bs := bs) (i := i) (P := P) (M := M) (c := c) h hx)
 obtain ⟨n, hnn⟩ : ∃ n, n = bs.length := ⟨_, rfl⟩
 have HBL : Hid (bs.length = n) := hid_ hnn.symm
 rw [← hnn] at hv hn hc1 ⊢
 clear hnn
 go_enter Tryz.func34, Tryz.ntmps34
 go_wp2_with fail
 go_loopw [5, 6, 7, 8] (fun s1 s2 s3 iv wr => ∃ (i : Nat) (P : List (List Nat)) (M C : List Nat) (A1 : Option Addr) (c1 : Nat) (A2 : Option Addr) (c2 : Nat) (A3 : Option Addr) (c3 : Nat) (VS : List Value), i ≤ n ∧ P.length ≤ i ∧ M.length ≤ i ∧ C.length ≤ i ∧ iv = .int .i64 (i : Int) ∧ s1 = .slice A1 P.length c1 ∧ s2 = .slice A2 M.length c2 ∧ s3 = .slice A3 C.length c3 ∧
  Cur w wr w.heap.size 45 3 5 (.slice A1 P.length c1) (.slice A2 M.length c2) (.slice A3 C.length c3) P.length M.length C.length VS (ints (M.map Int.ofNat)) (bytesV C) P ∧ Hid (ez = spGo (bs.drop i) P M C) ∧ Hid (NZ VS)) (fun _ _ _ i _ => n - (intOf i).toNat)
 case atStart => exact ⟨0, [], [], [], none, 0, none, 0, none, 0, [], by omega, by simp, by simp, by simp, rfl, rfl, rfl, rfl, ⟨⟨Ext.refl _, ⟨Nat.le_refl _, Nat.le_refl _⟩, own_nil _ _ _ _, own_nil _ _ _ _, (fun b h => by simp [Value.ownBlock] at h), (fun _ _ h => by cases h), (fun _ _ h => by cases h)⟩, Kept.nil _ _ _, own_nil _ _ _ _, (fun b h => by simp [Value.ownBlock] at h), (fun _ h => by cases h)⟩, HEZ, hid_ NZ.nil⟩
 case round =>
  clear HEZ
  obtain ⟨i, P, M, C, A1, c1, A2, c2, A3, c3, VS, hi, hPl, hMl, hCl, rfl, rfl, rfl, rfl, hC, HEZ, HNZ⟩ := hrel
  have HN3 := hid_ (own_nz hC.cur)
  by_cases hlt : i < n
  ·have hil : i < bs.length := by rw [HBL.out]; exact hlt
   obtain ⟨ad, u, rfl, hab, hxk, hcell⟩ := (hv.ext hC.two.ext).at1 hlt
   obtain ⟨hkl, rfl⟩ := bytes_at hxk
   have hx8 : bs[i] < 256 := HB.out _ (List.getElem_mem hil)
   have HPP := hid_ (fun hx => HEZ.out.trans (HSP.out i P M C hil hx))
   by_cases hx : bs[i] = 255
   ·by_cases h1 : i + 1 = n
    ·have HER : Hid (ez = none) := hid_ (HEZ.out.trans (HSL.out i P M _ (by rw [HBL.out]; exact h1) hx))
     have hd : decide ((i : Int) + 1 = (n : Int)) = true := by simp; omega
     have hd2 : ((i : Int) + 1 == (n : Int)) = true := by simp; omega
     have hwr : IntKind.i64.wrap ((i : Int) + 1) = (i : Int) + 1 := IntWalk.i64_in _ (by omega)
     clear HPP HEZ
     rw [hx] at hcell
     clear hxk hx8
     go_wp2_with fail
     go_ret3
     rw [HER.out]
     exact ⟨rfl, hC.two.ext⟩
    ·have h1' : i + 1 < n := by omega
     obtain ⟨ad2, u2, e2, -, hyk, hcell2⟩ := (hv.ext hC.two.ext).at1 h1'
     injection e2 with e2
     subst e2
     obtain ⟨hkl2, rfl⟩ := bytes_at hyk
     have hy : bs[i + 1] < 256 := HB.out _ (List.getElem_mem hkl2)
     have HT := hid_ (HEZ.out.trans (HS2.out i P M _ hkl2 hx))
     have hd : decide ((i : Int) + 1 = (n : Int)) = false := by simp; omega
     have hd2 : ((i : Int) + 1 == (n : Int)) = false := by simp; omega
     have hdI : ¬ ((i : Int) + 1 = (n : Int)) := by omega
     have hwr : IntKind.i64.wrap ((i : Int) + 1) = (i : Int) + 1 := IntWalk.i64_in _ (by omega)
     have hwr2 : IntKind.i64.wrap ((i : Int) + 1 + 1) = (i : Int) + 1 + 1 := IntWalk.i64_in _ (by omega)
     have hwr3 : IntKind.i64.wrap ((i : Int) + 2) = (i : Int) + 2 := IntWalk.i64_in _ (by omega)
     have hi1 : i + 1 < n := h1'
     have hi1I : (i : Int) + 1 < (n : Int) := by omega
     clear HPP HEZ hxk hyk hx8
     rw [hx] at hcell
     by_cases hy1 : bs[i + 1] = 255
     ·rw [if_pos hy1] at HT
      rw [hy1] at hcell2
      have hcell3 := hcell2
      unfold Addr.add at hcell3
      rw [if_neg (by omega)] at hcell3
      clear hy hy1
      go_wp2_with fail
      go_ret3
      rw [HT.out]
      exact ⟨rfl, hC.two.ext⟩
     ·rw [if_neg hy1] at HT
      have hyI : ¬ (((bs[i + 1] : Nat) : Int) = 255) := by omega
      have hyb : (((bs[i + 1] : Nat) : Int) == 255) = false := by simp; omega
      by_cases hy0 : bs[i + 1] = 0
      ·rw [if_pos hy0] at HT
       rw [hy0] at hcell2
       have hcell3 := hcell2
       unfold Addr.add at hcell3
       rw [if_neg (by omega)] at hcell3
       clear hy hy1 hyI hyb hy0
       go_wp2_with (at_builtin; go_must (refine wApf elt_by rfl _ _ rfl w.heap.size (.slice A3 C.length c3) _ _ rfl (hC.cur.alloc _) _ 2 [.int .u8 255, .int .u8 0] rfl (two_sl _ _ _ _) two_one (by omega) (by omega) (by have := hC.two.base.2; simp; omega) ?_); intro A7 c7 w7 ho7 hg7 hr7)
       have hC7 := (hC.later ((Ext.refl wr).alloc (.cells #[.int .u8 255, .int .u8 0] 5))).grow ho7 hg7 (by rw [own_map2]; exact hr7)
       go_roundw
       case rel =>
        refine ⟨i + 2, P, M, C ++ [255, 0], A1, c1, A2, c2, A7, c7, VS, by omega, by omega, by omega, by simp; omega, by go_num, rfl, rfl, by rw [List.length_append]; rfl, ?_, HT, HNZ⟩
        rw [List.length_append, bytesV_two]
        exact hC7
       case measure => simp [intOf]; omega
      ·rw [if_neg hy0] at HT
       have hdy : decide ((0 : Int) < ((bs[i + 1] : Nat) : Int)) = true := by simp; omega
       have hy0I : 0 < bs[i + 1] := by omega
       have HCX : ∀ W, Ext w W → W.cell? (ad.add ((i + 1) * 1)) = some (.int .u8 ((bs[i + 1] : Nat) : Int)) := fun W hW => by
        rw [Nat.mul_one]
        obtain ⟨ad3, u3, e3, -, hk3, hc3⟩ := (hv.ext hW).at1 h1'
        injection e3 with e3
        subst e3
        obtain ⟨_, hu⟩ := bytes_at hk3
        rw [hc3, hu]
       generalize bs[i + 1] = y at *
       try clear hx
       have hcell3 := hcell2
       unfold Addr.add at hcell3
       rw [if_neg (by omega)] at hcell3
       have hI : Ext w wr.drew := hC.two.ext.drew
       have hCd := hC.later (Ext.refl wr).drew
       have T0 := hCd.two
       have K0 := hCd.kept.snoc hCd.cur rfl hCd.d1
       clear hCd
       go_wp2_with fail
       refine wp_region_oi (Ext w) (by kernel_rfl) ?_
       refine oi_run (k := 0) (by kernel_rfl) rfl (by rfl) (.slice A1 P.length c1) (ex_move rfl rfl) hI ?_
       simp only [Act.put, sA, sB, sC]
       refine oi_run (k := 1) (by kernel_rfl) rfl (by rfl) (.slice A3 C.length c3) (ex_move rfl rfl) hI ?_
       simp only [Act.put, sA, sB, sC]
       refine oi_run (k := 4) (by kernel_rfl) rfl (by rfl) (.slice A2 M.length c2) (ex_move rfl rfl) hI ?_
       simp only [Act.put, sA, sB, sC]
       refine oi_run (k := 5) (by kernel_rfl) rfl (by rfl) (.slice (some ad) n c) (ex_move rfl rfl) hI ?_
       simp only [Act.put, sA, sB, sC]
       refine oi_run (k := 6) (by kernel_rfl) rfl (by rfl) (.int .i64 ((i + 1 : Nat) : Int)) (ex_move rfl rfl) hI ?_
       simp only [Act.put, sA, sB, sC]
       refine oi_run (k := 7) (by kernel_rfl) rfl (by rfl) (.pointer (some (ad.add ((i + 1) * 1)))) (ex_ixSl Tryz.underlying45 sizeU8' rfl rfl rfl hi1) hI ?_
       simp only [Act.put, sA, sB, sC]
       refine oi_fix (k := 8) (by kernel_rfl) rfl (by rfl) (.int .u8 ((y : Nat) : Int)) (fun W hW => ex_loadU rfl rfl (HCX W hW)) hI ?_
       simp only [Act.put, sA, sB, sC]
       refine oi_run (k := 9) (by kernel_rfl) rfl (by rfl) (.int .i64 ((y : Nat) : Int)) (ex_conv rfl rfl (run_conv8 y hy)) hI ?_
       simp only [Act.put, sA, sB, sC]
       refine oi_two (k := 2) (l := 10) (by kernel_rfl) rfl rfl ?_ ?_
       ·refine wLit1 rfl 71 45 (.tmp 30) rfl (some 31) rfl Tryz.underlying71 1 sizeBs zeroBs _ rfl rfl (by omega) (by omega) ?_
        intro w1 g1 hb1 hx1 hg1
        have T1 := T0.lit1 (v := (.slice A3 C.length c3)) hb1 hx1 hg1
        have K1 := K0.ext hx1
        clear hb1 hx1 hg1
        refine oi_end ⟨T1.ext, ?_⟩
        simp only [Act.put, sA, sB, sC]
        refine oi_two (k := 3) (l := 10) (by kernel_rfl) rfl rfl ?_ ?_
        ·refine wApf elt_bss rfl _ _ rfl w.heap.size (.slice A1 P.length c1) P.length VS rfl T1.p _ 1 [(.slice A3 C.length c3)] rfl (blk_one (T1.a1 _ _ rfl).1) (one_of rfl) (by omega) (by omega) T1.base.2 ?_
         intro B1 d1 w2 ho2 hg2 hr2
         have T2 := T1.app1' ho2 hg2 hr2
         have K2 := K1.grown1 (n := P.length + 1) (c := d1) hg2 hr2
         clear ho2 hg2 hr2
         refine oi_end ⟨T2.ext, ?_⟩
         simp only [Act.put, sA, sB, sC]
         refine oi_loud (k := 10) (by kernel_rfl) rfl ?_
         refine wLit1 rfl 22 3 (.tmp 38) rfl (some 39) rfl Tryz.underlying22 1 sizeI zeroI _ rfl rfl (by omega) (by omega) ?_
         intro w3 g3 hb3 hx3 hg3
         have T3 := T2.lit2 (v := .int .i64 (y : Int)) hb3 hx3 hg3
         have K3 := K2.ext hx3
         clear hb3 hx3 hg3
         refine oi_end ⟨T3.ext, ?_⟩
         simp only [Act.put, sA, sB, sC]
         refine oi_loud (k := 11) (by kernel_rfl) rfl ?_
         refine wApf elt_intR rfl _ _ rfl w.heap.size (.slice A2 M.length c2) M.length (ints (M.map Int.ofNat)) rfl T3.m _ 1 [.int .i64 (y : Int)] rfl (blk_one (T3.a2 _ _ rfl).1) (int_one _) (by omega) (by omega) T3.base.2 ?_
         intro B2 d2 w4 ho4 hg4 hr4
         have T4 := T3.app2' ho4 hg4 hr4
         have K4 := K3.grown2 (n := M.length + 1) (c := d2) hg4 hr4
         clear ho4 hg4 hr4
         refine oi_end ⟨T4.ext, ?_⟩
         simp only [Act.put, sA, sB, sC]
         refine oi_run (k := 12) (by kernel_rfl) rfl (by rfl) (.slice B1 (P.length + 1) d1) (ex_assign rfl rfl) T4.ext ?_
         simp only [Act.put, sA, sB, sC]
         refine oi_run (k := 13) (by kernel_rfl) rfl (by rfl) (.slice B2 (M.length + 1) d2) (ex_assign rfl rfl) T4.ext ?_
         simp only [Act.put, sA, sB, sC]
         refine oi_run (k := 14) (by kernel_rfl) rfl (by rfl) (.slice none 0 0) (ex_assign rfl rfl) T4.ext ?_
         simp only [Act.put, sA, sB, sC]
         refine oi_done (by kernel_rfl) ?_
         go_wp2_with fail
         go_roundw
         case rel =>
          refine ⟨i + 2, P ++ [C], M ++ [y], [], B1, d1, B2, d2, none, 0, VS ++ [.slice A3 C.length c3], by omega, by simp; omega, by simp; omega, by simp, by go_num, by rw [List.length_append]; rfl, by rw [List.length_append]; rfl, rfl, ?_, hid_ HT.out, hid_ (HNZ.out.snoc HN3.out)⟩
          rw [List.length_append, List.length_append, List.map_append, ints_app]
          exact ⟨T4, K4, own_nil _ _ _ _, (fun b h => by cases h), (fun _ _ _ _ h => by cases h)⟩
         case measure => simp [intOf]; omega
        ·refine wLit1 rfl 22 3 (.tmp 38) rfl (some 39) rfl Tryz.underlying22 1 sizeI zeroI _ rfl rfl (by omega) (by omega) ?_
         intro w2 g2 hb2 hx2 hg2
         have T2 := T1.lit2 (v := .int .i64 (y : Int)) hb2 hx2 hg2
         have K2 := K1.ext hx2
         clear hb2 hx2 hg2
         refine oi_end ⟨T2.ext, ?_⟩
         simp only [Act.put, sA, sB, sC]
         refine oi_loud (k := 3) (by kernel_rfl) rfl ?_
         refine wApf elt_bss rfl _ _ rfl w.heap.size (.slice A1 P.length c1) P.length VS rfl T2.p _ 1 [(.slice A3 C.length c3)] rfl (blk_one (T2.a1 _ _ rfl).1) (one_of rfl) (by omega) (by omega) T2.base.2 ?_
         intro B1 d1 w3 ho3 hg3 hr3
         have T3 := T2.app1' ho3 hg3 hr3
         have K3 := K2.grown1 (n := P.length + 1) (c := d1) hg3 hr3
         clear ho3 hg3 hr3
         refine oi_end ⟨T3.ext, ?_⟩
         simp only [Act.put, sA, sB, sC]
         refine oi_loud (k := 11) (by kernel_rfl) rfl ?_
         refine wApf elt_intR rfl _ _ rfl w.heap.size (.slice A2 M.length c2) M.length (ints (M.map Int.ofNat)) rfl T3.m _ 1 [.int .i64 (y : Int)] rfl (blk_one (T3.a2 _ _ rfl).1) (int_one _) (by omega) (by omega) T3.base.2 ?_
         intro B2 d2 w4 ho4 hg4 hr4
         have T4 := T3.app2' ho4 hg4 hr4
         have K4 := K3.grown2 (n := M.length + 1) (c := d2) hg4 hr4
         clear ho4 hg4 hr4
         refine oi_end ⟨T4.ext, ?_⟩
         simp only [Act.put, sA, sB, sC]
         refine oi_run (k := 12) (by kernel_rfl) rfl (by rfl) (.slice B1 (P.length + 1) d1) (ex_assign rfl rfl) T4.ext ?_
         simp only [Act.put, sA, sB, sC]
         refine oi_run (k := 13) (by kernel_rfl) rfl (by rfl) (.slice B2 (M.length + 1) d2) (ex_assign rfl rfl) T4.ext ?_
         simp only [Act.put, sA, sB, sC]
         refine oi_run (k := 14) (by kernel_rfl) rfl (by rfl) (.slice none 0 0) (ex_assign rfl rfl) T4.ext ?_
         simp only [Act.put, sA, sB, sC]
         refine oi_done (by kernel_rfl) ?_
         go_wp2_with fail
         go_roundw
         case rel =>
          refine ⟨i + 2, P ++ [C], M ++ [y], [], B1, d1, B2, d2, none, 0, VS ++ [.slice A3 C.length c3], by omega, by simp; omega, by simp; omega, by simp, by go_num, by rw [List.length_append]; rfl, by rw [List.length_append]; rfl, rfl, ?_, hid_ HT.out, hid_ (HNZ.out.snoc HN3.out)⟩
          rw [List.length_append, List.length_append, List.map_append, ints_app]
          exact ⟨T4, K4, own_nil _ _ _ _, (fun b h => by cases h), (fun _ _ _ _ h => by cases h)⟩
         case measure => simp [intOf]; omega
       ·refine wLit1 rfl 22 3 (.tmp 38) rfl (some 39) rfl Tryz.underlying22 1 sizeI zeroI _ rfl rfl (by omega) (by omega) ?_
        intro w1 g1 hb1 hx1 hg1
        have T1 := T0.lit2 (v := .int .i64 (y : Int)) hb1 hx1 hg1
        have K1 := K0.ext hx1
        clear hb1 hx1 hg1
        refine oi_end ⟨T1.ext, ?_⟩
        simp only [Act.put, sA, sB, sC]
        refine oi_loud (k := 2) (by kernel_rfl) rfl ?_
        refine wLit1 rfl 71 45 (.tmp 30) rfl (some 31) rfl Tryz.underlying71 1 sizeBs zeroBs _ rfl rfl (by omega) (by omega) ?_
        intro w2 g2 hb2 hx2 hg2
        have T2 := T1.lit1 (v := (.slice A3 C.length c3)) hb2 hx2 hg2
        have K2 := K1.ext hx2
        clear hb2 hx2 hg2
        refine oi_end ⟨T2.ext, ?_⟩
        simp only [Act.put, sA, sB, sC]
        refine oi_loud (k := 3) (by kernel_rfl) rfl ?_
        refine wApf elt_bss rfl _ _ rfl w.heap.size (.slice A1 P.length c1) P.length VS rfl T2.p _ 1 [(.slice A3 C.length c3)] rfl (blk_one (T2.a1 _ _ rfl).1) (one_of rfl) (by omega) (by omega) T2.base.2 ?_
        intro B1 d1 w3 ho3 hg3 hr3
        have T3 := T2.app1' ho3 hg3 hr3
        have K3 := K2.grown1 (n := P.length + 1) (c := d1) hg3 hr3
        clear ho3 hg3 hr3
        refine oi_end ⟨T3.ext, ?_⟩
        simp only [Act.put, sA, sB, sC]
        refine oi_loud (k := 11) (by kernel_rfl) rfl ?_
        refine wApf elt_intR rfl _ _ rfl w.heap.size (.slice A2 M.length c2) M.length (ints (M.map Int.ofNat)) rfl T3.m _ 1 [.int .i64 (y : Int)] rfl (blk_one (T3.a2 _ _ rfl).1) (int_one _) (by omega) (by omega) T3.base.2 ?_
        intro B2 d2 w4 ho4 hg4 hr4
        have T4 := T3.app2' ho4 hg4 hr4
        have K4 := K3.grown2 (n := M.length + 1) (c := d2) hg4 hr4
        clear ho4 hg4 hr4
        refine oi_end ⟨T4.ext, ?_⟩
        simp only [Act.put, sA, sB, sC]
        refine oi_run (k := 12) (by kernel_rfl) rfl (by rfl) (.slice B1 (P.length + 1) d1) (ex_assign rfl rfl) T4.ext ?_
        simp only [Act.put, sA, sB, sC]
        refine oi_run (k := 13) (by kernel_rfl) rfl (by rfl) (.slice B2 (M.length + 1) d2) (ex_assign rfl rfl) T4.ext ?_
        simp only [Act.put, sA, sB, sC]
        refine oi_run (k := 14) (by kernel_rfl) rfl (by rfl) (.slice none 0 0) (ex_assign rfl rfl) T4.ext ?_
        simp only [Act.put, sA, sB, sC]
        refine oi_done (by kernel_rfl) ?_
        go_wp2_with fail
        go_roundw
        case rel =>
         refine ⟨i + 2, P ++ [C], M ++ [y], [], B1, d1, B2, d2, none, 0, VS ++ [.slice A3 C.length c3], by omega, by simp; omega, by simp; omega, by simp, by go_num, by rw [List.length_append]; rfl, by rw [List.length_append]; rfl, rfl, ?_, hid_ HT.out, hid_ (HNZ.out.snoc HN3.out)⟩
         rw [List.length_append, List.length_append, List.map_append, ints_app]
         exact ⟨T4, K4, own_nil _ _ _ _, (fun b h => by cases h), (fun _ _ _ _ h => by cases h)⟩
        case measure => simp [intOf]; omega
   ·have HNX := hid_ (HPP.out hx)
    have hxn : (((bs[i] : Nat) : Int) != 255) = true := by simp; omega
    clear HPP HEZ hxk
    generalize bs[i] = x at *
    have hxI : ¬ ((x : Int) = 255) := by omega
    go_wp2_with (at_builtin; go_must (refine wApf elt_by rfl _ _ rfl w.heap.size (.slice A3 C.length c3) _ _ rfl (hC.cur.alloc _) _ 1 [.int .u8 _] rfl (one_sl _ _ _) (one_of rfl) (by omega) (by omega) (by have := hC.two.base.2; simp; omega) ?_); intro A7 c7 w7 ho7 hg7 hr7)
    have hC7 := (hC.later ((Ext.refl wr).alloc (.cells #[.int .u8 (x : Int)] 5))).grow ho7 hg7 (by rw [own_map2]; exact hr7)
    go_roundw
    case rel =>
     refine ⟨i + 1, P, M, C ++ [x], A1, c1, A2, c2, A7, c7, VS, by omega, by omega, by omega, by simp; omega, by go_num, rfl, rfl, by rw [List.length_append]; rfl, ?_, HNX, HNZ⟩
     rw [List.length_append, bytesV_snoc]
     exact hC7
    case measure => simp [intOf]; omega
  ·have HER := hid_ (HEZ.out.trans (HSE.out i P M _ (by rw [HBL.out]; omega)))
   clear HEZ
   have T0 := hC.two
   have K0 := hC.kept.snoc hC.cur rfl hC.d1
   go_upto_region 15 with fail
   refine wp_region_lit ?_
   refine wl_run rfl (.slice A1 P.length c1) (ex_move rfl rfl) ?_
   simp only [Act.put, sA, sB, sC]
   refine wl_run rfl (.slice A3 C.length c3) (ex_move rfl rfl) ?_
   simp only [Act.put, sA, sB, sC]
   refine wLit1 rfl 71 45 (.tmp 63) rfl (some 64) rfl Tryz.underlying71 1 sizeBs zeroBs _ rfl rfl (by omega) (by omega) ?_
   intro w1 g1 hb1 hx1 hg1
   have T1 := T0.lit1 (v := .slice A3 C.length c3) hb1 hx1 hg1
   have K1 := K0.ext hx1
   clear hb1 hx1 hg1
   simp only [Act.put, sA, sB, sC]
   refine wApf elt_bss rfl _ _ rfl w.heap.size (.slice A1 P.length c1) P.length VS rfl T1.p _ 1 [.slice A3 C.length c3] rfl (blk_one (T1.a1 _ _ rfl).1) (one_of rfl) (by omega) (by omega) T1.base.2 ?_
   intro B1 d1 w2 ho2 hg2 hr2
   have T2 := T1.app1' ho2 hg2 hr2
   have K2 := K1.grown1 (n := P.length + 1) (c := d1) hg2 hr2
   clear ho2 hg2 hr2
   simp only [Act.put, sA, sB, sC]
   go_wp2_with fail
   go_ret3
   rw [HER.out]
   refine ⟨B1, d1, A2, c2, _, by rw [List.length_append]; rfl, ?_, K2.1, (own_out T2.m).1, T2.ext, HNZ.out.snoc HN3.out, fun ad h => Nat.le_trans T2.base.1 ((own_out T2.p).2 ad h), fun ad h => Nat.le_trans T2.base.1 ((own_out T2.m).2 ad h)⟩
   rw [List.length_append]
   exact (own_out T2.p).1
theorem bytesV_at (l : List Nat) (k : Nat) (u : Value) (h : (bytesV l)[k]? = some u) : ∃ hk : k < l.length, u = .int .u8 (l[k] : Int) := by
 unfold bytesV at h
 rw [List.getElem?_map] at h
 obtain ⟨z, hz, rfl⟩ := Option.map_eq_some_iff.1 h
 obtain ⟨hk, e⟩ := List.getElem?_eq_some_iff.1 hz
 exact ⟨hk, by rw [e]⟩
set_option maxHeartbeats 400000 in
theorem eqByte_any (u v : Value) (xs ys : List Nat) (w : World) (hu : SL w 1 u xs.length (bytesV xs)) (hv : SL w 1 v ys.length (bytesV ys)) :
 Calls Tryz.prog 33 #[u, v] w fun e w' => e = .returned (.bool (decide (xs = ys))) ∧ w = w' := by
 have hu' := hu
 have hv' := hv
 obtain ⟨A, c, rfl, hc1, hc2, -, -⟩ := hu'
 obtain ⟨B, d, rfl, hd1, hd2, -, -⟩ := hv'
 by_cases hl : (xs.length : Int) != ys.length
 ·go_enter Tryz.func33, Tryz.ntmps33
  go_wp2
  go_ret
  refine ⟨?_, rfl⟩
  have : xs ≠ ys := by rintro rfl; simp at hl
  simp [this]
 ·have h9 : (xs.length : Int) = ys.length := by simpa using hl
  have hl' : xs.length = ys.length := by omega
  clear h9
  have HL := hl'
  have hn : ((xs.length : Int) != ys.length) = false := by simpa using hl
  have HE : Hid (xs.length = ys.length) := HL
  clear hl HL
  go_enter Tryz.func33, Tryz.ntmps33
  clear hl'
  go_wp2
  go_loop [14] (fun i => ∃ k : Nat, k ≤ xs.length ∧ i = .int .i64 k ∧ xs.take k = ys.take k) (fun i => xs.length - (intOf i).toNat)
  case atStart => exact ⟨0, by omega, rfl, by simp⟩
  case round =>
   obtain ⟨k, hk, rfl, ht⟩ := hrel
   have HT : Hid (xs.take k = ys.take k) := ht
   clear ht
   by_cases hlt : k < xs.length
   ·have hlt2 : k < ys.length := by have := HE.out; omega
    obtain ⟨ad, u, rfl, -, hx, hcell⟩ := hu.at1 hlt
    obtain ⟨_, rfl⟩ := bytesV_at _ _ _ hx
    obtain ⟨bd, u, rfl, -, hy, hcell2⟩ := hv.at1 hlt2
    obtain ⟨_, rfl⟩ := bytesV_at _ _ _ hy
    clear hx hy
    by_cases hq : xs[k] = ys[k]
    ·have hq' : ((xs[k] : Nat) != ys[k]) = false := by simpa using hq
     have HQ : Hid (xs[k] = ys[k]) := hq
     clear hq
     go_wp2
     go_round
     case rel => exact ⟨k + 1, by omega, by go_num, (take_succ_iff _ _ _ hlt hlt2).2 ⟨HT.out, HQ.out⟩⟩
     case measure => simp [intOf]; omega
    ·have hq' : ((xs[k] : Nat) != ys[k]) = true := by simpa using hq
     go_wp2
     go_ret
     refine ⟨?_, rfl⟩
     have : xs ≠ ys := by rintro rfl; exact hq rfl
     simp [this]
   ·go_wp2
    go_ret
    refine ⟨?_, rfl⟩
    have e : xs = ys := by
     have := HT.out
     rwa [List.take_of_length_le (by omega), List.take_of_length_le (by have := HE.out; omega)] at this
    simp [e]
section
theorem wpList_lit2B {ops : Array Oper} {rest : List Oper} {o : Oper} {a : Act} {w : World} {Q : Exit → Act → World → Prop} (hg : o.guard = none) (x y : Operand) (ho : o.op = .buildSlice 45 2 #[(0, x), (1, y)]) (dst : Option Tmp) (hdst : o.dst = dst)
 (m n : Nat) (hx : a.eval x = .int .u8 (m : Int)) (hy : a.eval y = .int .u8 (n : Int))
 (h : ∀ w1 g, Blk w1 g 5 (bytesV [m, n]).toArray → Ext w w1 → w.heap.size ≤ g → wpList Tryz.prog ops Q rest (a.put dst (.slice (some ⟨g, 0, none⟩) 2 2)) w1) : wpList Tryz.prog ops Q (o :: rest) a w := by
 refine Go.Great.wpList_buildSliceTo hg 45 5 2 #[(0, x), (1, y)] ho _ rfl dst hdst Tryz.underlying45 (bytesV [m, n]).toArray ?_ (h _ _ (Blk.new w _ _) ((Ext.refl w).alloc _) (Nat.le_refl _))
 simp only [List.map_toArray, List.map_cons, List.map_nil, hx, hy]
 show _ = _
 kernel_rfl
attribute [local irreducible] bytesV replZ stuffZ
end
def spanE (n e : Nat) : Nat := if e = 0 ∨ n = 0 then n else e
def cutK (n e : Nat) : Nat := if e = 0 ∨ n = 0 then 1 else (n + e - 1) / e
def spansL (n e : Nat) : Nat → List Int
 | 0 => []
 | k + 1 => spansL n e k ++ [((k * spanE n e : Nat) : Int), ((min (k * spanE n e + spanE n e) n : Nat) : Int)]
def partsL (n e : Nat) : Nat → List Int
 | 0 => []
 | k + 1 => partsL n e k ++ [((min (n - k * spanE n e) (spanE n e) : Nat) : Int)]
theorem sp_mem {B : Nat} : ∀ (r : List Nat) (P : List (List Nat)) (M c : List Nat) (z : List (List Nat) × List Nat), spGo r P M c = some z → (∀ p ∈ P, p.length ≤ B ∧ ∀ b ∈ p, b < 256) → c.length + r.length ≤ B → (∀ b ∈ c, b < 256) → (∀ b ∈ r, b < 256) → ∀ p ∈ z.1, p.length ≤ B ∧ ∀ b ∈ p, b < 256
 | [], P, M, c, z, h, hP, hB, hc, hr => by
   simp [spGo] at h
   subst h
   intro p hp
   rcases List.mem_append.1 hp with hp | hp
   ·exact hP p hp
   ·simp at hp; subst hp; exact ⟨by simpa using hB, hc⟩
 | [x], P, M, c, z, h, hP, hB, hc, hr => by
   simp only [spGo] at h
   split at h
   ·cases h
   ·simp at h
    subst h
    intro p hp
    rcases List.mem_append.1 hp with hp | hp
    ·exact hP p hp
    ·simp at hp
     subst hp
     refine ⟨by simpa using hB, fun b hb => ?_⟩
     rcases List.mem_append.1 hb with hb | hb
     ·exact hc b hb
     ·simp at hb; subst hb; exact hr b (by simp)
 | x :: y :: r, P, M, c, z, h, hP, hB, hc, hr => by
   simp only [spGo] at h
   simp only [List.length_cons] at hB
   split at h
   ·split at h
    ·cases h
    ·split at h
     ·refine sp_mem r P M (c ++ [255, 0]) z h hP (by simp; omega) (fun b hb => ?_) (fun b hb => hr b (by simp [hb]))
      rcases List.mem_append.1 hb with hb | hb
      ·exact hc b hb
      ·simp at hb; omega
     ·refine sp_mem r (P ++ [c]) (M ++ [y]) [] z h (fun p hp => ?_) (by simp; omega) (by simp) (fun b hb => hr b (by simp [hb]))
      rcases List.mem_append.1 hp with hp | hp
      ·exact hP p hp
      ·simp at hp; subst hp; exact ⟨by omega, hc⟩
   ·refine sp_mem (y :: r) P M (c ++ [x]) z h hP (by simp; omega) (fun b hb => ?_) (fun b hb => hr b (List.mem_cons_of_mem _ hb))
    rcases List.mem_append.1 hb with hb | hb
    ·exact hc b hb
    ·simp at hb; subst hb; exact hr b (by simp)
def marksOk : List Nat → Nat → Bool
 | [], _ => true
 | m :: r, i => decide (m = 208 + i % 8) && marksOk r (i + 1)
def lenAt (n e i : Nat) : Nat := min (n - i * spanE n e) (spanE n e)
def sdGo (T1 T2 : List Tok) (n e : Nat) (P : List (List Nat)) : Nat → Nat → List Int → Int × List Int
 | 0, _, acc => (0, acc)
 | m + 1, i, acc => if (decR true T1 T2 ((lenAt n e i : Nat) : Int) (plZ (P.getD i []))).1 ≠ 0 then ((decR true T1 T2 ((lenAt n e i : Nat) : Int) (plZ (P.getD i []))).1, []) else sdGo T1 T2 n e P m (i + 1) (acc ++ (decR true T1 T2 ((lenAt n e i : Nat) : Int) (plZ (P.getD i []))).2)
end Go.Proofs.YtkggcjdlpendfaaGreatDoor
