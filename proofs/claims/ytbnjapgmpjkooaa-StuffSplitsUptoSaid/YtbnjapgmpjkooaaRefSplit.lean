/- Split of the reference. -/
import Derived.Test.YtbnjapgmpjkooaaSplitMath
import Derived.Test.YtbnjapgmpjkooaaTwoRows
import Derived.Test.YtbnjapgmpjkooaaSubSlice
import Derived.Test.YtbnjapgmpjkooaaReader
import Derived.Test.YtbnjapgmpjkooaaRead
import Derived.Deep.Cut
namespace Go.Proofs.Ytbnjapgmpjkooaa
set_option linter.unusedVariables false
set_option linter.unusedSimpArgs false
open Go.RowKit
theorem bytesV_sub (bs : List Nat) (i k : Nat) : bytesV ((bs.drop i).take k) = ((bytesV bs).drop i).take k := by simp [bytesV]
theorem elt_bss : Elt Try.prog 43 23 1 24 := ⟨Try.underlying43, by kernel_rfl, by omega⟩
theorem sizeBs : (Try.prog.info? 23).map (·.size) = some 1 := by kernel_rfl
theorem zeroBs : ((Try.prog.info? 23).bind (·.zero)).isSome = true := by kernel_rfl
theorem zeroI : ((Try.prog.info? 3).bind (·.zero)).isSome = true := by kernel_rfl
/-- what Split hands back -/
def SpIs (z : Option (List (List Nat) × List Nat)) (w : World) (e : Ending) (w' : World) : Prop :=
  match z with
  | none => e = .returned (.tuple #[.slice none 0 0, .slice none 0 0, .int .i64 4]) ∧ Ext w w'
  | some (P, M) => ∃ A c B d VS, e = .returned (.tuple #[.slice A P.length c, .slice B M.length d, .int .i64 0]) ∧ SL w' 1 (.slice A P.length c) P.length VS ∧ Pieces w' VS P ∧ SL w' 1 (.slice B M.length d) M.length (ints (M.map Int.ofNat)) ∧ Ext w w'
set_option maxRecDepth 20000 in
set_option maxHeartbeats 800000 in
theorem rsplit_any (bs : List Nat) (v : Value) (w : World) (hv : SL w 1 v bs.length (bytesV bs)) (hlt : ∀ b ∈ bs, b < 256) (hn : bs.length ≤ 1048576) :
    Calls Try.prog 19 #[v] w (SpIs (spGo bs [] [] []) w) := by
  have HB := hid_ hlt
  have hv' := hv
  obtain ⟨A, c, rfl, hc1, hc2, -, -⟩ := hv'
  obtain ⟨ez, hez⟩ : ∃ ez, ez = spGo bs [] [] [] := ⟨_, rfl⟩
  have HEZ := hid_ hez
  rw [← hez]
  clear hez hlt
  have HSE := hid_ (fun i P M c (h : bs.length ≤ i) => sp_end (bs := bs) (i := i) (P := P) (M := M) (c := c) h)
  have HSP := hid_ (fun i P M c (h : i < bs.length) hx => sp_plain (bs := bs) (i := i) (P := P) (M := M) (c := c) h hx)
  have HS2 := hid_ (fun i P M c (h : i + 1 < bs.length) hx => sp_two (bs := bs) (i := i) (P := P) (M := M) (c := c) h hx)
  have HSL := hid_ (fun i P M c (h : i + 1 = bs.length) hx => sp_last (bs := bs) (i := i) (P := P) (M := M) (c := c) h hx)
  obtain ⟨n, hnn⟩ : ∃ n, n = bs.length := ⟨_, rfl⟩
  have HBL : Hid (bs.length = n) := hid_ hnn.symm
  rw [← hnn] at hv hn hc1 ⊢
  clear hnn
  go_enter Try.func19, Try.ntmps19
  go_wp2_with fail
  go_loopw [5, 6, 7, 8] (fun s1 s2 q iv wr => ∃ (i fr : Nat) (P : List (List Nat)) (M : List Nat) (A1 : Option Addr) (c1 : Nat) (A2 : Option Addr) (c2 : Nat) (VS : List Value), i ≤ n ∧ fr ≤ i ∧ iv = .int .i64 (i : Int) ∧ q = .int .i64 (fr : Int) ∧ P.length ≤ i ∧ M.length ≤ i ∧ s1 = .slice A1 P.length c1 ∧ s2 = .slice A2 M.length c2 ∧
    Two w wr w.heap.size 23 3 (.slice A1 P.length c1) (.slice A2 M.length c2) P.length M.length VS (ints (M.map Int.ofNat)) none none ∧ Pieces w VS P ∧ Hid (ez = spGo (bs.drop i) P M ((bs.drop fr).take (i - fr)))) (fun _ _ _ i _ => n - (intOf i).toNat)
  case atStart => exact ⟨0, 0, [], [], none, 0, none, 0, [], by omega, by omega, rfl, rfl, by simp, by simp, rfl, rfl, ⟨Ext.refl _, ⟨Nat.le_refl _, Nat.le_refl _⟩, own_nil _ _ _ _, own_nil _ _ _ _, (fun b h => by simp [Value.ownBlock] at h), (fun _ _ h => by cases h), (fun _ _ h => by cases h)⟩, ⟨rfl, fun i h => by simp at h⟩, HEZ⟩
  case round =>
    clear HEZ
    obtain ⟨i, fr, P, M, A1, c1, A2, c2, VS, hi, hfr, rfl, rfl, hPl, hMl, rfl, rfl, T0, HPI, HEZ⟩ := hrel
    by_cases hlt : i < n
    · have hil : i < bs.length := by rw [HBL.out]; exact hlt
      obtain ⟨ad, u, rfl, hab, hxk, hcell⟩ := (hv.ext T0.ext).at1 hlt
      obtain ⟨hkl, rfl⟩ := bytes_at hxk
      have hx8 : bs[i] < 256 := HB.out _ (List.getElem_mem hil)
      have HPP := hid_ (fun hx => HEZ.out.trans (HSP.out i P M ((bs.drop fr).take (i - fr)) hil hx))
      have HTK : Hid ((bs.drop fr).take (i + 1 - fr) = (bs.drop fr).take (i - fr) ++ [bs[i]]) := hid_ (by
        rw [show i + 1 - fr = i - fr + 1 by omega, List.take_succ_eq_append_getElem (by simp; omega)]
        congr 2
        simp
        congr 1
        omega)
      by_cases hx : bs[i] = 255
      · by_cases h1 : i + 1 = n
        · have HER : Hid (ez = none) := hid_ (HEZ.out.trans (HSL.out i P M _ (by rw [HBL.out]; exact h1) hx))
          have hd : decide ((i : Int) + 1 = (n : Int)) = true := by simp; omega
          have hd2 : ((i : Int) + 1 == (n : Int)) = true := by simp; omega
          have hwr : IntKind.i64.wrap ((i : Int) + 1) = (i : Int) + 1 := IntWalk.i64_in _ (by omega)
          clear HPP HTK HEZ
          rw [hx] at hcell
          clear hxk hx8
          go_wp2_with fail
          go_ret3
          rw [HER.out]
          exact ⟨rfl, T0.ext⟩
        · have h1' : i + 1 < n := by omega
          obtain ⟨ad2, u2, e2, -, hyk, hcell2⟩ := (hv.ext T0.ext).at1 h1'
          injection e2 with e2
          subst e2
          obtain ⟨hkl2, rfl⟩ := bytes_at hyk
          have hy : bs[i + 1] < 256 := HB.out _ (List.getElem_mem hkl2)
          have HT := hid_ (HEZ.out.trans (HS2.out i P M _ hkl2 hx))
          have HTK2 : Hid ((bs.drop fr).take (i + 2 - fr) = (bs.drop fr).take (i - fr) ++ [255, bs[i + 1]]) := hid_ (by
            rw [show i + 2 - fr = i - fr + 1 + 1 by omega, List.take_succ_eq_append_getElem (by simp; omega), List.take_succ_eq_append_getElem (by simp; omega)]
            simp only [List.append_assoc, List.getElem_drop]
            congr 1
            simp only [List.singleton_append, List.cons.injEq, and_true]
            refine ⟨?_, ?_⟩
            · rw [← hx]; congr 1; omega
            · congr 1; omega)
          have hd : decide ((i : Int) + 1 = (n : Int)) = false := by simp; omega
          have hd2 : ((i : Int) + 1 == (n : Int)) = false := by simp; omega
          have hdI : ¬ ((i : Int) + 1 = (n : Int)) := by omega
          have hwr : IntKind.i64.wrap ((i : Int) + 1) = (i : Int) + 1 := IntWalk.i64_in _ (by omega)
          have hwr2 : IntKind.i64.wrap ((i : Int) + 1 + 1) = (i : Int) + 1 + 1 := IntWalk.i64_in _ (by omega)
          have hwr3 : IntKind.i64.wrap ((i : Int) + 2) = (i : Int) + 2 := IntWalk.i64_in _ (by omega)
          have hi1 : i + 1 < n := h1'
          have hi1I : (i : Int) + 1 < (n : Int) := by omega
          clear HPP HTK HEZ hxk hyk hx8
          rw [hx] at hcell
          by_cases hy1 : bs[i + 1] = 255
          · rw [if_pos hy1] at HT
            rw [hy1] at hcell2
            have hcell3 := hcell2
            unfold Addr.add at hcell3
            rw [if_neg (by omega)] at hcell3
            clear hy hy1 HTK2
            go_wp2_with fail
            go_ret3
            rw [HT.out]
            exact ⟨rfl, T0.ext⟩
          · rw [if_neg hy1] at HT
            have hyI : ¬ (((bs[i + 1] : Nat) : Int) = 255) := by omega
            have hyb : (((bs[i + 1] : Nat) : Int) == 255) = false := by simp; omega
            by_cases hy0 : bs[i + 1] = 0
            · rw [if_pos hy0] at HT
              rw [hy0] at hcell2 HTK2
              have hcell3 := hcell2
              unfold Addr.add at hcell3
              rw [if_neg (by omega)] at hcell3
              have HNX : Hid (ez = spGo (bs.drop (i + 2)) P M ((bs.drop fr).take (i + 2 - fr))) := hid_ (by rw [HT.out, HTK2.out])
              clear HT HTK2 hy hy1 hyI hyb hy0
              go_wp2_with fail
              go_roundw
              case rel => exact ⟨i + 2, fr, P, M, A1, c1, A2, c2, VS, by omega, by omega, by go_num, rfl, by omega, by omega, rfl, rfl, T0, HPI, HNX⟩
              case measure => simp [intOf]; omega
            · rw [if_neg hy0] at HT
              have hdy : decide ((0 : Int) < ((bs[i + 1] : Nat) : Int)) = true := by simp; omega
              have hy0I : 0 < bs[i + 1] := by omega
              have HCX : ∀ W, Ext w W → W.cell? (ad.add ((i + 1) * 1)) = some (.int .u8 ((bs[i + 1] : Nat) : Int)) := fun W hW => by
                rw [Nat.mul_one]
                obtain ⟨ad3, u3, e3, -, hk3, hc3⟩ := (hv.ext hW).at1 h1'
                injection e3 with e3
                subst e3
                obtain ⟨_, hu⟩ := bytes_at hk3
                rw [hc3, hu]
              generalize bs[i + 1] = y at *
              clear HTK2 hx
              have hcell3 := hcell2
              unfold Addr.add at hcell3
              rw [if_neg (by omega)] at hcell3
              have HPS : Hid (Pieces w (VS ++ [.slice (if c = fr then some ad else (some ad).map (·.add fr)) (i - fr) (c - fr)]) (P ++ [(bs.drop fr).take (i - fr)])) := hid_ (HPI.snoc (by rw [List.length_take, List.length_drop, HBL.out]; omega) (by
                have := SL.sub hv hfr (show i ≤ n by omega)
                rwa [← bytesV_sub] at this))
              have hI : Ext w wr.drew := T0.ext.drew
              have T0d := T0.later (Ext.refl wr).drew
              go_wp2_with fail
              refine wp_region_oi (Ext w) (by kernel_rfl) ?_
              refine oi_run (k := 0) (by kernel_rfl) rfl (by rfl) (.slice A1 P.length c1) (ex_move rfl rfl) hI ?_
              simp only [Act.put, List.setIfInBounds_toArray, List.set_cons_succ, List.set_cons_zero]
              refine oi_run (k := 1) (by kernel_rfl) rfl (by rfl) (.slice (some ad) n c) (ex_move rfl rfl) hI ?_
              simp only [Act.put, List.setIfInBounds_toArray, List.set_cons_succ, List.set_cons_zero]
              refine oi_run (k := 2) (by kernel_rfl) rfl (by rfl) (.int .i64 ((fr : Nat) : Int)) (ex_move rfl rfl) hI ?_
              simp only [Act.put, List.setIfInBounds_toArray, List.set_cons_succ, List.set_cons_zero]
              refine oi_run (k := 3) (by kernel_rfl) rfl (by rfl) (.int .i64 ((i : Nat) : Int)) (ex_move rfl rfl) hI ?_
              simp only [Act.put, List.setIfInBounds_toArray, List.set_cons_succ, List.set_cons_zero]
              refine oi_run (k := 4) (by kernel_rfl) rfl (by rfl) (.slice (if c = fr then some ad else (some ad).map (·.add fr)) (i - fr) (c - fr)) (ex_sliceB rfl rfl rfl rfl (by omega) (by omega) (by omega)) hI ?_
              simp only [Act.put, List.setIfInBounds_toArray, List.set_cons_succ, List.set_cons_zero]
              refine oi_run (k := 7) (by kernel_rfl) rfl (by rfl) (.slice A2 M.length c2) (ex_move rfl rfl) hI ?_
              simp only [Act.put, List.setIfInBounds_toArray, List.set_cons_succ, List.set_cons_zero]
              refine oi_run (k := 8) (by kernel_rfl) rfl (by rfl) (.slice (some ad) n c) (ex_move rfl rfl) hI ?_
              simp only [Act.put, List.setIfInBounds_toArray, List.set_cons_succ, List.set_cons_zero]
              refine oi_run (k := 9) (by kernel_rfl) rfl (by rfl) (.int .i64 ((i : Nat) : Int)) (ex_move rfl rfl) hI ?_
              simp only [Act.put, List.setIfInBounds_toArray, List.set_cons_succ, List.set_cons_zero]
              refine oi_run (k := 10) (by kernel_rfl) rfl (by rfl) (.int .i64 ((i + 1 : Nat) : Int)) (ex_addN (i := i) (d := 1) rfl rfl rfl (by omega)) hI ?_
              simp only [Act.put, List.setIfInBounds_toArray, List.set_cons_succ, List.set_cons_zero]
              refine oi_run (k := 11) (by kernel_rfl) rfl (by rfl) (.pointer (some (ad.add ((i + 1) * 1)))) (ex_ixSl Try.underlying23 sizeU8' rfl rfl rfl hi1) hI ?_
              simp only [Act.put, List.setIfInBounds_toArray, List.set_cons_succ, List.set_cons_zero]
              refine oi_fix (k := 12) (by kernel_rfl) rfl (by rfl) (.int .u8 ((y : Nat) : Int)) (fun W hW => ex_loadU rfl rfl (HCX W hW)) hI ?_
              simp only [Act.put, List.setIfInBounds_toArray, List.set_cons_succ, List.set_cons_zero]
              refine oi_run (k := 13) (by kernel_rfl) rfl (by rfl) (.int .i64 ((y : Nat) : Int)) (ex_conv rfl rfl (run_conv8 y hy)) hI ?_
              simp only [Act.put, List.setIfInBounds_toArray, List.set_cons_succ, List.set_cons_zero]
              refine oi_two (k := 5) (l := 14) (by kernel_rfl) rfl rfl ?_ ?_
              · refine wpList_lit1 rfl 43 23 (.tmp 43) rfl (some 44) rfl Try.underlying43 1 sizeBs zeroBs _ rfl rfl (by omega) (by omega) ?_
                intro w1 g1 hb1 hx1 hg1
                have T1 := T0d.lit1 (v := (.slice (if c = fr then some ad else (some ad).map (·.add fr)) (i - fr) (c - fr))) hb1 hx1 hg1
                clear hb1 hx1 hg1
                refine oi_end ⟨T1.ext, ?_⟩
                simp only [Act.put, List.setIfInBounds_toArray, List.set_cons_succ, List.set_cons_zero]
                refine oi_two (k := 6) (l := 14) (by kernel_rfl) rfl rfl ?_ ?_
                · refine wpList_append_slf elt_bss rfl _ _ rfl w.heap.size (.slice A1 P.length c1) P.length VS rfl T1.p _ 1 [(.slice (if c = fr then some ad else (some ad).map (·.add fr)) (i - fr) (c - fr))] rfl (blk_one (T1.a1 _ _ rfl).1) (one_of rfl) (by omega) (by omega) T1.base.2 ?_
                  intro B1 d1 w2 ho2 hg2 hr2
                  have T2 := T1.app1' ho2 hg2 hr2
                  clear ho2 hg2 hr2
                  refine oi_end ⟨T2.ext, ?_⟩
                  simp only [Act.put, List.setIfInBounds_toArray, List.set_cons_succ, List.set_cons_zero]
                  refine oi_loud (k := 14) (by kernel_rfl) rfl ?_
                  refine wpList_lit1 rfl 31 3 (.tmp 52) rfl (some 53) rfl Try.underlying31 1 sizeI zeroI _ rfl rfl (by omega) (by omega) ?_
                  intro w3 g3 hb3 hx3 hg3
                  have T3 := T2.lit2 (v := .int .i64 (y : Int)) hb3 hx3 hg3
                  clear hb3 hx3 hg3
                  refine oi_end ⟨T3.ext, ?_⟩
                  simp only [Act.put, List.setIfInBounds_toArray, List.set_cons_succ, List.set_cons_zero]
                  refine oi_loud (k := 15) (by kernel_rfl) rfl ?_
                  refine wpList_append_slf elt_intR rfl _ _ rfl w.heap.size (.slice A2 M.length c2) M.length (ints (M.map Int.ofNat)) rfl T3.m _ 1 [.int .i64 (y : Int)] rfl (blk_one (T3.a2 _ _ rfl).1) (int_one _) (by omega) (by omega) T3.base.2 ?_
                  intro B2 d2 w4 ho4 hg4 hr4
                  have T4 := T3.app2' ho4 hg4 hr4
                  clear ho4 hg4 hr4
                  refine oi_end ⟨T4.ext, ?_⟩
                  simp only [Act.put, List.setIfInBounds_toArray, List.set_cons_succ, List.set_cons_zero]
                  refine oi_run (k := 16) (by kernel_rfl) rfl (by rfl) (.slice B1 (P.length + 1) d1) (ex_assign rfl rfl) T4.ext ?_
                  simp only [Act.put, List.setIfInBounds_toArray, List.set_cons_succ, List.set_cons_zero]
                  refine oi_run (k := 17) (by kernel_rfl) rfl (by rfl) (.slice B2 (M.length + 1) d2) (ex_assign rfl rfl) T4.ext ?_
                  simp only [Act.put, List.setIfInBounds_toArray, List.set_cons_succ, List.set_cons_zero]
                  refine oi_done (by kernel_rfl) ?_
                  go_wp2_with fail
                  go_roundw
                  case rel =>
                    refine ⟨i + 2, i + 2, P ++ [(bs.drop fr).take (i - fr)], M ++ [y], B1, d1, B2, d2, _, by omega, by omega, by go_num, by go_num, by simp; omega, by simp; omega, by rw [List.length_append]; rfl, by rw [List.length_append]; rfl, ?_, HPS.out, hid_ (by rw [HT.out, Nat.sub_self]; rfl)⟩
                    rw [List.length_append, List.length_append, List.map_append, ints_app]
                    exact T4
                  case measure => simp [intOf]; omega
                · refine wpList_lit1 rfl 31 3 (.tmp 52) rfl (some 53) rfl Try.underlying31 1 sizeI zeroI _ rfl rfl (by omega) (by omega) ?_
                  intro w2 g2 hb2 hx2 hg2
                  have T2 := T1.lit2 (v := .int .i64 (y : Int)) hb2 hx2 hg2
                  clear hb2 hx2 hg2
                  refine oi_end ⟨T2.ext, ?_⟩
                  simp only [Act.put, List.setIfInBounds_toArray, List.set_cons_succ, List.set_cons_zero]
                  refine oi_loud (k := 6) (by kernel_rfl) rfl ?_
                  refine wpList_append_slf elt_bss rfl _ _ rfl w.heap.size (.slice A1 P.length c1) P.length VS rfl T2.p _ 1 [(.slice (if c = fr then some ad else (some ad).map (·.add fr)) (i - fr) (c - fr))] rfl (blk_one (T2.a1 _ _ rfl).1) (one_of rfl) (by omega) (by omega) T2.base.2 ?_
                  intro B1 d1 w3 ho3 hg3 hr3
                  have T3 := T2.app1' ho3 hg3 hr3
                  clear ho3 hg3 hr3
                  refine oi_end ⟨T3.ext, ?_⟩
                  simp only [Act.put, List.setIfInBounds_toArray, List.set_cons_succ, List.set_cons_zero]
                  refine oi_loud (k := 15) (by kernel_rfl) rfl ?_
                  refine wpList_append_slf elt_intR rfl _ _ rfl w.heap.size (.slice A2 M.length c2) M.length (ints (M.map Int.ofNat)) rfl T3.m _ 1 [.int .i64 (y : Int)] rfl (blk_one (T3.a2 _ _ rfl).1) (int_one _) (by omega) (by omega) T3.base.2 ?_
                  intro B2 d2 w4 ho4 hg4 hr4
                  have T4 := T3.app2' ho4 hg4 hr4
                  clear ho4 hg4 hr4
                  refine oi_end ⟨T4.ext, ?_⟩
                  simp only [Act.put, List.setIfInBounds_toArray, List.set_cons_succ, List.set_cons_zero]
                  refine oi_run (k := 16) (by kernel_rfl) rfl (by rfl) (.slice B1 (P.length + 1) d1) (ex_assign rfl rfl) T4.ext ?_
                  simp only [Act.put, List.setIfInBounds_toArray, List.set_cons_succ, List.set_cons_zero]
                  refine oi_run (k := 17) (by kernel_rfl) rfl (by rfl) (.slice B2 (M.length + 1) d2) (ex_assign rfl rfl) T4.ext ?_
                  simp only [Act.put, List.setIfInBounds_toArray, List.set_cons_succ, List.set_cons_zero]
                  refine oi_done (by kernel_rfl) ?_
                  go_wp2_with fail
                  go_roundw
                  case rel =>
                    refine ⟨i + 2, i + 2, P ++ [(bs.drop fr).take (i - fr)], M ++ [y], B1, d1, B2, d2, _, by omega, by omega, by go_num, by go_num, by simp; omega, by simp; omega, by rw [List.length_append]; rfl, by rw [List.length_append]; rfl, ?_, HPS.out, hid_ (by rw [HT.out, Nat.sub_self]; rfl)⟩
                    rw [List.length_append, List.length_append, List.map_append, ints_app]
                    exact T4
                  case measure => simp [intOf]; omega
              · refine wpList_lit1 rfl 31 3 (.tmp 52) rfl (some 53) rfl Try.underlying31 1 sizeI zeroI _ rfl rfl (by omega) (by omega) ?_
                intro w1 g1 hb1 hx1 hg1
                have T1 := T0d.lit2 (v := .int .i64 (y : Int)) hb1 hx1 hg1
                clear hb1 hx1 hg1
                refine oi_end ⟨T1.ext, ?_⟩
                simp only [Act.put, List.setIfInBounds_toArray, List.set_cons_succ, List.set_cons_zero]
                refine oi_loud (k := 5) (by kernel_rfl) rfl ?_
                refine wpList_lit1 rfl 43 23 (.tmp 43) rfl (some 44) rfl Try.underlying43 1 sizeBs zeroBs _ rfl rfl (by omega) (by omega) ?_
                intro w2 g2 hb2 hx2 hg2
                have T2 := T1.lit1 (v := (.slice (if c = fr then some ad else (some ad).map (·.add fr)) (i - fr) (c - fr))) hb2 hx2 hg2
                clear hb2 hx2 hg2
                refine oi_end ⟨T2.ext, ?_⟩
                simp only [Act.put, List.setIfInBounds_toArray, List.set_cons_succ, List.set_cons_zero]
                refine oi_loud (k := 6) (by kernel_rfl) rfl ?_
                refine wpList_append_slf elt_bss rfl _ _ rfl w.heap.size (.slice A1 P.length c1) P.length VS rfl T2.p _ 1 [(.slice (if c = fr then some ad else (some ad).map (·.add fr)) (i - fr) (c - fr))] rfl (blk_one (T2.a1 _ _ rfl).1) (one_of rfl) (by omega) (by omega) T2.base.2 ?_
                intro B1 d1 w3 ho3 hg3 hr3
                have T3 := T2.app1' ho3 hg3 hr3
                clear ho3 hg3 hr3
                refine oi_end ⟨T3.ext, ?_⟩
                simp only [Act.put, List.setIfInBounds_toArray, List.set_cons_succ, List.set_cons_zero]
                refine oi_loud (k := 15) (by kernel_rfl) rfl ?_
                refine wpList_append_slf elt_intR rfl _ _ rfl w.heap.size (.slice A2 M.length c2) M.length (ints (M.map Int.ofNat)) rfl T3.m _ 1 [.int .i64 (y : Int)] rfl (blk_one (T3.a2 _ _ rfl).1) (int_one _) (by omega) (by omega) T3.base.2 ?_
                intro B2 d2 w4 ho4 hg4 hr4
                have T4 := T3.app2' ho4 hg4 hr4
                clear ho4 hg4 hr4
                refine oi_end ⟨T4.ext, ?_⟩
                simp only [Act.put, List.setIfInBounds_toArray, List.set_cons_succ, List.set_cons_zero]
                refine oi_run (k := 16) (by kernel_rfl) rfl (by rfl) (.slice B1 (P.length + 1) d1) (ex_assign rfl rfl) T4.ext ?_
                simp only [Act.put, List.setIfInBounds_toArray, List.set_cons_succ, List.set_cons_zero]
                refine oi_run (k := 17) (by kernel_rfl) rfl (by rfl) (.slice B2 (M.length + 1) d2) (ex_assign rfl rfl) T4.ext ?_
                simp only [Act.put, List.setIfInBounds_toArray, List.set_cons_succ, List.set_cons_zero]
                refine oi_done (by kernel_rfl) ?_
                go_wp2_with fail
                go_roundw
                case rel =>
                  refine ⟨i + 2, i + 2, P ++ [(bs.drop fr).take (i - fr)], M ++ [y], B1, d1, B2, d2, _, by omega, by omega, by go_num, by go_num, by simp; omega, by simp; omega, by rw [List.length_append]; rfl, by rw [List.length_append]; rfl, ?_, HPS.out, hid_ (by rw [HT.out, Nat.sub_self]; rfl)⟩
                  rw [List.length_append, List.length_append, List.map_append, ints_app]
                  exact T4
                case measure => simp [intOf]; omega
      · have HNX : Hid (ez = spGo (bs.drop (i + 1)) P M ((bs.drop fr).take (i + 1 - fr))) := hid_ (by rw [HPP.out hx, HTK.out])
        have hxn : (((bs[i] : Nat) : Int) != 255) = true := by simp; omega
        clear HPP HTK HEZ hxk
        generalize bs[i] = x at *
        have hxI : ¬ ((x : Int) = 255) := by omega
        go_wp2_with fail
        go_roundw
        case rel => exact ⟨i + 1, fr, P, M, A1, c1, A2, c2, VS, by omega, by omega, by go_num, rfl, by omega, by omega, rfl, rfl, T0, HPI, HNX⟩
        case measure => simp [intOf]; omega
    · have ei : i = n := by omega
      have HER := hid_ (HEZ.out.trans (HSE.out i P M _ (by rw [HBL.out]; omega)))
      clear HEZ
      rw [ei] at hPl hMl hfr
      have HPS : Hid (Pieces w (VS ++ [.slice (if c = fr then A else A.map (·.add fr)) (n - fr) (c - fr)]) (P ++ [(bs.drop fr).take (i - fr)])) := hid_ (HPI.snoc (by rw [List.length_take, List.length_drop, HBL.out]; omega) (by
        have := SL.sub hv hfr (Nat.le_refl n)
        rw [ei]
        rwa [← bytesV_sub] at this))
      obtain ⟨Q, hQ⟩ : ∃ Q, Q = (if c = fr then A else A.map (·.add fr)) := ⟨_, rfl⟩
      have HQ := hid_ hQ
      rw [← hQ] at HPS
      clear hQ
      go_upto_region 14 with fail
      refine wp_region_lit ?_
      refine wl_run rfl (.slice A1 P.length c1) (ex_move rfl rfl) ?_
      simp only [Act.put, List.setIfInBounds_toArray, List.set_cons_succ, List.set_cons_zero]
      refine wl_run rfl (.slice A n c) (ex_move rfl rfl) ?_
      simp only [Act.put, List.setIfInBounds_toArray, List.set_cons_succ, List.set_cons_zero]
      refine wl_run rfl (.int .i64 (fr : Int)) (ex_move rfl rfl) ?_
      simp only [Act.put, List.setIfInBounds_toArray, List.set_cons_succ, List.set_cons_zero]
      refine wl_run rfl (.slice Q (n - fr) (c - fr)) (by rw [HQ.out]; exact ex_sliceF rfl rfl rfl hfr hc1) ?_
      simp only [Act.put, List.setIfInBounds_toArray, List.set_cons_succ, List.set_cons_zero]
      refine wpList_lit1 rfl 43 23 (.tmp 62) rfl (some 63) rfl Try.underlying43 1 sizeBs zeroBs _ rfl rfl (by omega) (by omega) ?_
      intro w1 g1 hb1 hx1 hg1
      have T1 := T0.lit1 (v := .slice Q (n - fr) (c - fr)) hb1 hx1 hg1
      clear hb1 hx1 hg1
      simp only [Act.put, List.setIfInBounds_toArray, List.set_cons_succ, List.set_cons_zero]
      refine wpList_append_slf elt_bss rfl _ _ rfl w.heap.size (.slice A1 P.length c1) P.length VS rfl T1.p _ 1 [.slice Q (n - fr) (c - fr)] rfl (blk_one (T1.a1 _ _ rfl).1) (one_of rfl) (by omega) (by omega) T1.base.2 ?_
      intro B1 d1 w2 ho2 hg2 hr2
      have T2 := T1.app1' ho2 hg2 hr2
      clear ho2 hg2 hr2
      simp only [Act.put, List.setIfInBounds_toArray, List.set_cons_succ, List.set_cons_zero]
      go_wp2_with fail
      go_ret3
      rw [HER.out]
      refine ⟨B1, d1, A2, c2, _, by rw [List.length_append]; rfl, ?_, HPS.out.ext T2.ext, (own_out T2.m).1, T2.ext⟩
      rw [List.length_append]
      exact (own_out T2.p).1
end Go.Proofs.Ytbnjapgmpjkooaa
