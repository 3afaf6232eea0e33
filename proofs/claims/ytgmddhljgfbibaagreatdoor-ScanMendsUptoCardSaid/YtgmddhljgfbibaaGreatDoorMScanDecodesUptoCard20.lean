/- Contracts for the law ScanDecodesUptoCard, part 20: what the functions that it reaches answer, for all arguments that the theorems name. -/
import Derived.Test.YtgmddhljgfbibaaGreatDoorMScanDecodesUptoCard3
import Derived.Test.YtgmddhljgfbibaaGreatDoorMScanDecodesUptoCard16
import Derived.Test.YtgmddhljgfbibaaGreatDoorMScanDecodesUptoCard19
import Derived.Test.YtgmddhljgfbibaaGreatDoorMScanDecodesUptoCard12
import Derived.Test.YtgmddhljgfbibaaGreatDoorMScanDecodesUptoCard2
import Derived.Test.YtgmddhljgfbibaaGreatDoorMScanDecodesUptoCard5
import Derived.OwnWalk
import Derived.Deep.Cut
import Derived.Test.YtgmddhljgfbibaaGreatDoorMScanDecodesUptoCard4
/- Fields of bits (width, value): flat lists, what they answer; bits.isWidth. -/
namespace Go.Proofs.YtgmddhljgfbibaaGreatDoor
set_option linter.unusedVariables false
set_option linter.unusedSimpArgs false
open Go.RowKit
def flatF (F : List (Int × Int)) : List Int := F.flatMap fun f => [f.1, f.2]
theorem unflatF : ∀ (n : Nat) (zs : List Int), zs.length = n * 2 → ∃ F : List (Int × Int), F.length = n ∧ zs = flatF F
  | 0, zs, h => ⟨[], rfl, by simpa [flatF] using h⟩
  | n + 1, [], h => by simp at h
  | n + 1, [a], h => by simp at h; omega
  | n + 1, a :: b :: r, h => by
    obtain ⟨F, h1, rfl⟩ := unflatF n r (by simp at h; omega)
    exact ⟨(a, b) :: F, by simp [h1], by simp [flatF]⟩
theorem flatF_part : ∀ (F : List (Int × Int)) (k : Nat) (h : k < F.length), ((ints (flatF F)).drop (k * 2)).take 2 = ints [F[k].1, F[k].2]
  | f :: F, 0, _ => by simp [flatF, ints]
  | f :: F, k + 1, h => by
    have := flatF_part F k (by simpa using h)
    rw [show (k + 1) * 2 = k * 2 + 1 + 1 by omega]
    simpa [flatF, ints] using this
  | [], k, h => by simp at h
theorem flatF_mem {F : List (Int × Int)} {f : Int × Int} (h : f ∈ F) : f.1 ∈ flatF F ∧ f.2 ∈ flatF F := by
  constructor <;> exact List.mem_flatMap.2 ⟨f, h, by simp⟩
def okF (f : Int × Int) : Bool := inB f.1 0 24 && inB f.2 0 (2 ^ f.1.toNat - 1)
def bitsF (F : List (Int × Int)) : List Bool := F.flatMap fun f => digs f.2.toNat f.1.toNat
theorem bitsF_succ (F : List (Int × Int)) (k : Nat) (h : k < F.length) : bitsF (F.take (k + 1)) = bitsF (F.take k) ++ digs F[k].2.toNat F[k].1.toNat := by
  unfold bitsF
  rw [List.take_succ_eq_append_getElem h, List.flatMap_append]
  simp
theorem bitsF_len (F : List (Int × Int)) (h : ∀ f ∈ F, okF f = true) : (bitsF F).length ≤ 24 * F.length := by
  induction F with
  | nil => simp [bitsF]
  | cons f l ih =>
    have h1 := ih (fun g hg => h g (by simp [hg]))
    have h2 := h f (by simp)
    unfold okF at h2
    rw [Bool.and_eq_true, inB_iff] at h2
    simp only [bitsF, List.flatMap_cons, List.length_append, List.length_cons, digs_len] at h1 ⊢
    omega
/-- what Write answers -/
def bwZ (F : List (Int × Int)) : List Nat × Int := if F.length ≤ 20000 then (if F.all okF then (packB (padB (bitsF F)), 0) else ([], 1)) else ([], 2)
theorem bwZ_long {F : List (Int × Int)} (h : ¬ F.length ≤ 20000) : bwZ F = ([], 2) := by unfold bwZ; rw [if_neg h]
theorem bwZ_bad {F : List (Int × Int)} (h : F.length ≤ 20000) {k : Nat} (hk : k < F.length) (hb : okF F[k] = false) : bwZ F = ([], 1) := by
  have : F.all okF = false := by
    rw [← Bool.not_eq_true]
    intro h2
    have := List.all_eq_true.1 h2 _ (List.getElem_mem hk)
    rw [hb] at this
    cases this
  unfold bwZ
  rw [if_pos h, this]; rfl
theorem bwZ_good {F : List (Int × Int)} (h : F.length ≤ 20000) (hb : ∀ f ∈ F, okF f = true) : bwZ F = (packB (padB (bitsF F)), 0) := by
  unfold bwZ
  rw [if_pos h, List.all_eq_true.2 hb]; rfl
theorem okF_w {a b : Int} (h : inB a 0 24 = false) : okF (a, b) = false := by simp [okF, h]
theorem okF_v {a b : Int} (h : inB b 0 (2 ^ a.toNat - 1) = false) : okF (a, b) = false := by simp [okF, h]
theorem okF_y {a b : Int} (h1 : inB a 0 24 = true) (h2 : inB b 0 (2 ^ a.toNat - 1) = true) : okF (a, b) = true := by simp [okF, h1, h2]
theorem run_shl1 (a : Nat) (h : a ≤ 24) (W : World) : (binOp .shl 3 (.int .i64 1) (.int .i64 (a : Int))).run Tryz.prog W = .ok (.int .i64 (2 ^ a)) W := by
  have h1 : (2 : Int) ^ a ≤ 2 ^ 24 := by have := Nat.pow_le_pow_right (n := 2) (by omega) h; exact_mod_cast this
  have h2 : (0 : Int) ≤ 2 ^ a := by exact_mod_cast Nat.zero_le (2 ^ a)
  have h3 : (2 : Int) ^ 24 = 16777216 := by decide
  rw [h3] at h1
  have e : IntKind.i64.wrap (2 ^ a) = 2 ^ a := IntWalk.i64_in _ (by omega)
  have e2 : ¬ ((a : Int) < 0) := by omega
  simp [binOp, e, e2]
end Go.Proofs.YtgmddhljgfbibaaGreatDoor
/- bits.Read. -/
namespace Go.Proofs.YtgmddhljgfbibaaGreatDoor
set_option linter.unusedVariables false
set_option linter.unusedSimpArgs false
open Go.RowKit
theorem elt_intR : Elt Tryz.prog 23 3 1 8 := ⟨Tryz.underlying23, by kernel_rfl, by omega⟩
/-- what Read hands back -/
def RdIs (z : List Int × Int × Int) (w : World) (e : Ending) (w' : World) : Prop :=
  ∃ A c, e = .returned (.tuple #[.slice A z.1.length c, .int .i64 z.2.1, .int .i64 z.2.2]) ∧ SL w' 1 (.slice A z.1.length c) z.1.length (ints z.1) ∧ Ext w w'
theorem RdIs.err {w w' : World} {x y : Int} {z : List Int × Int × Int} (h : z = ([], x, y)) (hx : Ext w w') : RdIs z w (.returned (.tuple #[.slice none 0 0, .int .i64 x, .int .i64 y])) w' := by
  subst h
  exact ⟨none, 0, rfl, SL.nil _ _, hx⟩
end Go.Proofs.YtgmddhljgfbibaaGreatDoor
/- Split of the reference. -/
namespace Go.Proofs.YtgmddhljgfbibaaGreatDoor
set_option linter.unusedVariables false
set_option linter.unusedSimpArgs false
open Go.RowKit
theorem bytesV_sub (bs : List Nat) (i k : Nat) : bytesV ((bs.drop i).take k) = ((bytesV bs).drop i).take k := by simp [bytesV]
theorem elt_bss : Elt Tryz.prog 42 28 1 24 := ⟨Tryz.underlying42, by kernel_rfl, by omega⟩
theorem sizeBs : (Tryz.prog.info? 28).map (·.size) = some 1 := by kernel_rfl
theorem zeroBs : ((Tryz.prog.info? 28).bind (·.zero)).isSome = true := by kernel_rfl
theorem zeroI : ((Tryz.prog.info? 3).bind (·.zero)).isSome = true := by kernel_rfl
/-- what Split hands back -/
def SpIs (z : Option (List (List Nat) × List Nat)) (w : World) (e : Ending) (w' : World) : Prop :=
  match z with
  | none => e = .returned (.tuple #[.slice none 0 0, .slice none 0 0, .int .i64 4]) ∧ Ext w w'
  | some (P, M) => ∃ A c B d VS, e = .returned (.tuple #[.slice A P.length c, .slice B M.length d, .int .i64 0]) ∧ SL w' 1 (.slice A P.length c) P.length VS ∧ Pieces w' VS P ∧ SL w' 1 (.slice B M.length d) M.length (ints (M.map Int.ofNat)) ∧ Ext w w'
set_option maxRecDepth 20000 in
set_option maxHeartbeats 800000 in
theorem rsplit_any (bs : List Nat) (v : Value) (w : World) (hv : SL w 1 v bs.length (bytesV bs)) (hlt : ∀ b ∈ bs, b < 256) (hn : bs.length ≤ 1048576) :
    Calls Tryz.prog 31 #[v] w (SpIs (spGo bs [] [] []) w) := by
  have HB := hid_ hlt
  have hv' := hv
  obtain ⟨A, c, rfl, hc1, hc2, -, -⟩ := hv'
  obtain ⟨ez, hez⟩ : ∃ ez, ez = spGo bs [] [] [] := ⟨_, rfl⟩
  have HEZ := hid_ hez
  rw [← hez]
  clear hez hlt
  have HSE := hid_ (fun i P M c (h : bs.length ≤ i) => sp_end (bs := bs) (i := i) (P := P) (M := M) (c := c) h)
  have HSP := hid_ (fun i P M c (h : i < bs.length) hx => sp_plain (bs := bs) (i := i) (P := P) (M := M) (c := c) h hx)
  have HS2 := hid_ (fun i P M c (h : i + 1 < bs.length) hx => sp_two (bs := bs) (i := i) (P := P) (M := M) (c := c) h hx)
  have HSL := hid_ (fun i P M c (h : i + 1 = bs.length) hx => sp_last (bs := bs) (i := i) (P := P) (M := M) (c := c) h hx)
  obtain ⟨n, hnn⟩ : ∃ n, n = bs.length := ⟨_, rfl⟩
  have HBL : Hid (bs.length = n) := hid_ hnn.symm
  rw [← hnn] at hv hn hc1 ⊢
  clear hnn
  go_enter Tryz.func31, Tryz.ntmps31
  go_wp2_with fail
  go_loopw [5, 6, 7, 8] (fun s1 s2 q iv wr => ∃ (i fr : Nat) (P : List (List Nat)) (M : List Nat) (A1 : Option Addr) (c1 : Nat) (A2 : Option Addr) (c2 : Nat) (VS : List Value), i ≤ n ∧ fr ≤ i ∧ iv = .int .i64 (i : Int) ∧ q = .int .i64 (fr : Int) ∧ P.length ≤ i ∧ M.length ≤ i ∧ s1 = .slice A1 P.length c1 ∧ s2 = .slice A2 M.length c2 ∧
    Two w wr w.heap.size 28 3 (.slice A1 P.length c1) (.slice A2 M.length c2) P.length M.length VS (ints (M.map Int.ofNat)) none none ∧ Pieces w VS P ∧ Hid (ez = spGo (bs.drop i) P M ((bs.drop fr).take (i - fr)))) (fun _ _ _ i _ => n - (intOf i).toNat)
  case atStart => exact ⟨0, 0, [], [], none, 0, none, 0, [], by omega, by omega, rfl, rfl, by simp, by simp, rfl, rfl, ⟨Ext.refl _, ⟨Nat.le_refl _, Nat.le_refl _⟩, own_nil _ _ _ _, own_nil _ _ _ _, (fun b h => by simp [Value.ownBlock] at h), (fun _ _ h => by cases h), (fun _ _ h => by cases h)⟩, ⟨rfl, fun i h => by simp at h⟩, HEZ⟩
  case round =>
    clear HEZ
    obtain ⟨i, fr, P, M, A1, c1, A2, c2, VS, hi, hfr, rfl, rfl, hPl, hMl, rfl, rfl, T0, HPI, HEZ⟩ := hrel
    by_cases hlt : i < n
    · have hil : i < bs.length := by rw [HBL.out]; exact hlt
      obtain ⟨ad, u, rfl, hab, hxk, hcell⟩ := (hv.ext T0.ext).at1 hlt
      obtain ⟨hkl, rfl⟩ := bytes_at hxk
      have hx8 : bs[i] < 256 := HB.out _ (List.getElem_mem hil)
      have HPP := hid_ (fun hx => HEZ.out.trans (HSP.out i P M ((bs.drop fr).take (i - fr)) hil hx))
      have HTK : Hid ((bs.drop fr).take (i + 1 - fr) = (bs.drop fr).take (i - fr) ++ [bs[i]]) := hid_ (by
        rw [show i + 1 - fr = i - fr + 1 by omega, List.take_succ_eq_append_getElem (by simp; omega)]
        congr 2
        simp
        congr 1
        omega)
      by_cases hx : bs[i] = 255
      · by_cases h1 : i + 1 = n
        · have HER : Hid (ez = none) := hid_ (HEZ.out.trans (HSL.out i P M _ (by rw [HBL.out]; exact h1) hx))
          have hd : decide ((i : Int) + 1 = (n : Int)) = true := by simp; omega
          have hd2 : ((i : Int) + 1 == (n : Int)) = true := by simp; omega
          have hwr : IntKind.i64.wrap ((i : Int) + 1) = (i : Int) + 1 := IntWalk.i64_in _ (by omega)
          clear HPP HTK HEZ
          rw [hx] at hcell
          clear hxk hx8
          go_wp2_with fail
          go_ret3
          rw [HER.out]
          exact ⟨rfl, T0.ext⟩
        · have h1' : i + 1 < n := by omega
          obtain ⟨ad2, u2, e2, -, hyk, hcell2⟩ := (hv.ext T0.ext).at1 h1'
          injection e2 with e2
          subst e2
          obtain ⟨hkl2, rfl⟩ := bytes_at hyk
          have hy : bs[i + 1] < 256 := HB.out _ (List.getElem_mem hkl2)
          have HT := hid_ (HEZ.out.trans (HS2.out i P M _ hkl2 hx))
          have HTK2 : Hid ((bs.drop fr).take (i + 2 - fr) = (bs.drop fr).take (i - fr) ++ [255, bs[i + 1]]) := hid_ (by
            rw [show i + 2 - fr = i - fr + 1 + 1 by omega, List.take_succ_eq_append_getElem (by simp; omega), List.take_succ_eq_append_getElem (by simp; omega)]
            simp only [List.append_assoc, List.getElem_drop]
            congr 1
            simp only [List.singleton_append, List.cons.injEq, and_true]
            refine ⟨?_, ?_⟩
            · rw [← hx]; congr 1; omega
            · congr 1; omega)
          have hd : decide ((i : Int) + 1 = (n : Int)) = false := by simp; omega
          have hd2 : ((i : Int) + 1 == (n : Int)) = false := by simp; omega
          have hdI : ¬ ((i : Int) + 1 = (n : Int)) := by omega
          have hwr : IntKind.i64.wrap ((i : Int) + 1) = (i : Int) + 1 := IntWalk.i64_in _ (by omega)
          have hwr2 : IntKind.i64.wrap ((i : Int) + 1 + 1) = (i : Int) + 1 + 1 := IntWalk.i64_in _ (by omega)
          have hwr3 : IntKind.i64.wrap ((i : Int) + 2) = (i : Int) + 2 := IntWalk.i64_in _ (by omega)
          have hi1 : i + 1 < n := h1'
          have hi1I : (i : Int) + 1 < (n : Int) := by omega
          clear HPP HTK HEZ hxk hyk hx8
          rw [hx] at hcell
          by_cases hy1 : bs[i + 1] = 255
          · rw [if_pos hy1] at HT
            rw [hy1] at hcell2
            have hcell3 := hcell2
            unfold Addr.add at hcell3
            rw [if_neg (by omega)] at hcell3
            clear hy hy1 HTK2
            go_wp2_with fail
            go_ret3
            rw [HT.out]
            exact ⟨rfl, T0.ext⟩
          · rw [if_neg hy1] at HT
            have hyI : ¬ (((bs[i + 1] : Nat) : Int) = 255) := by omega
            have hyb : (((bs[i + 1] : Nat) : Int) == 255) = false := by simp; omega
            by_cases hy0 : bs[i + 1] = 0
            · rw [if_pos hy0] at HT
              rw [hy0] at hcell2 HTK2
              have hcell3 := hcell2
              unfold Addr.add at hcell3
              rw [if_neg (by omega)] at hcell3
              have HNX : Hid (ez = spGo (bs.drop (i + 2)) P M ((bs.drop fr).take (i + 2 - fr))) := hid_ (by rw [HT.out, HTK2.out])
              clear HT HTK2 hy hy1 hyI hyb hy0
              go_wp2_with fail
              go_roundw
              case rel => exact ⟨i + 2, fr, P, M, A1, c1, A2, c2, VS, by omega, by omega, by go_num, rfl, by omega, by omega, rfl, rfl, T0, HPI, HNX⟩
              case measure => simp [intOf]; omega
            · rw [if_neg hy0] at HT
              have hdy : decide ((0 : Int) < ((bs[i + 1] : Nat) : Int)) = true := by simp; omega
              have hy0I : 0 < bs[i + 1] := by omega
              have HCX : ∀ W, Ext w W → W.cell? (ad.add ((i + 1) * 1)) = some (.int .u8 ((bs[i + 1] : Nat) : Int)) := fun W hW => by
                rw [Nat.mul_one]
                obtain ⟨ad3, u3, e3, -, hk3, hc3⟩ := (hv.ext hW).at1 h1'
                injection e3 with e3
                subst e3
                obtain ⟨_, hu⟩ := bytes_at hk3
                rw [hc3, hu]
              generalize bs[i + 1] = y at *
              clear HTK2 hx
              have hcell3 := hcell2
              unfold Addr.add at hcell3
              rw [if_neg (by omega)] at hcell3
              have HPS : Hid (Pieces w (VS ++ [.slice (if c = fr then some ad else (some ad).map (·.add fr)) (i - fr) (c - fr)]) (P ++ [(bs.drop fr).take (i - fr)])) := hid_ (HPI.snoc (by rw [List.length_take, List.length_drop, HBL.out]; omega) (by
                have := SL.sub hv hfr (show i ≤ n by omega)
                rwa [← bytesV_sub] at this))
              have hI : Ext w wr.drew := T0.ext.drew
              have T0d := T0.later (Ext.refl wr).drew
              go_wp2_with fail
              refine wp_region_oi (Ext w) (by kernel_rfl) ?_
              refine oi_run (k := 0) (by kernel_rfl) rfl (by rfl) (.slice A1 P.length c1) (ex_move rfl rfl) hI ?_
              simp only [Act.put, List.setIfInBounds_toArray, List.set_cons_succ, List.set_cons_zero]
              refine oi_run (k := 1) (by kernel_rfl) rfl (by rfl) (.slice (some ad) n c) (ex_move rfl rfl) hI ?_
              simp only [Act.put, List.setIfInBounds_toArray, List.set_cons_succ, List.set_cons_zero]
              refine oi_run (k := 2) (by kernel_rfl) rfl (by rfl) (.int .i64 ((fr : Nat) : Int)) (ex_move rfl rfl) hI ?_
              simp only [Act.put, List.setIfInBounds_toArray, List.set_cons_succ, List.set_cons_zero]
              refine oi_run (k := 3) (by kernel_rfl) rfl (by rfl) (.int .i64 ((i : Nat) : Int)) (ex_move rfl rfl) hI ?_
              simp only [Act.put, List.setIfInBounds_toArray, List.set_cons_succ, List.set_cons_zero]
              refine oi_run (k := 4) (by kernel_rfl) rfl (by rfl) (.slice (if c = fr then some ad else (some ad).map (·.add fr)) (i - fr) (c - fr)) (ex_sliceB rfl rfl rfl rfl (by omega) (by omega) (by omega)) hI ?_
              simp only [Act.put, List.setIfInBounds_toArray, List.set_cons_succ, List.set_cons_zero]
              refine oi_run (k := 7) (by kernel_rfl) rfl (by rfl) (.slice A2 M.length c2) (ex_move rfl rfl) hI ?_
              simp only [Act.put, List.setIfInBounds_toArray, List.set_cons_succ, List.set_cons_zero]
              refine oi_run (k := 8) (by kernel_rfl) rfl (by rfl) (.slice (some ad) n c) (ex_move rfl rfl) hI ?_
              simp only [Act.put, List.setIfInBounds_toArray, List.set_cons_succ, List.set_cons_zero]
              refine oi_run (k := 9) (by kernel_rfl) rfl (by rfl) (.int .i64 ((i : Nat) : Int)) (ex_move rfl rfl) hI ?_
              simp only [Act.put, List.setIfInBounds_toArray, List.set_cons_succ, List.set_cons_zero]
              refine oi_run (k := 10) (by kernel_rfl) rfl (by rfl) (.int .i64 ((i + 1 : Nat) : Int)) (ex_addN (i := i) (d := 1) rfl rfl rfl (by omega)) hI ?_
              simp only [Act.put, List.setIfInBounds_toArray, List.set_cons_succ, List.set_cons_zero]
              refine oi_run (k := 11) (by kernel_rfl) rfl (by rfl) (.pointer (some (ad.add ((i + 1) * 1)))) (ex_ixSl Tryz.underlying28 sizeU8' rfl rfl rfl hi1) hI ?_
              simp only [Act.put, List.setIfInBounds_toArray, List.set_cons_succ, List.set_cons_zero]
              refine oi_fix (k := 12) (by kernel_rfl) rfl (by rfl) (.int .u8 ((y : Nat) : Int)) (fun W hW => ex_loadU rfl rfl (HCX W hW)) hI ?_
              simp only [Act.put, List.setIfInBounds_toArray, List.set_cons_succ, List.set_cons_zero]
              refine oi_run (k := 13) (by kernel_rfl) rfl (by rfl) (.int .i64 ((y : Nat) : Int)) (ex_conv rfl rfl (run_conv8 y hy)) hI ?_
              simp only [Act.put, List.setIfInBounds_toArray, List.set_cons_succ, List.set_cons_zero]
              refine oi_two (k := 5) (l := 14) (by kernel_rfl) rfl rfl ?_ ?_
              · refine wpList_lit1 rfl 42 28 (.tmp 43) rfl (some 44) rfl Tryz.underlying42 1 sizeBs zeroBs _ rfl rfl (by omega) (by omega) ?_
                intro w1 g1 hb1 hx1 hg1
                have T1 := T0d.lit1 (v := (.slice (if c = fr then some ad else (some ad).map (·.add fr)) (i - fr) (c - fr))) hb1 hx1 hg1
                clear hb1 hx1 hg1
                refine oi_end ⟨T1.ext, ?_⟩
                simp only [Act.put, List.setIfInBounds_toArray, List.set_cons_succ, List.set_cons_zero]
                refine oi_two (k := 6) (l := 14) (by kernel_rfl) rfl rfl ?_ ?_
                · refine wpList_append_slf elt_bss rfl _ _ rfl w.heap.size (.slice A1 P.length c1) P.length VS rfl T1.p _ 1 [(.slice (if c = fr then some ad else (some ad).map (·.add fr)) (i - fr) (c - fr))] rfl (blk_one (T1.a1 _ _ rfl).1) (one_of rfl) (by omega) (by omega) T1.base.2 ?_
                  intro B1 d1 w2 ho2 hg2 hr2
                  have T2 := T1.app1' ho2 hg2 hr2
                  clear ho2 hg2 hr2
                  refine oi_end ⟨T2.ext, ?_⟩
                  simp only [Act.put, List.setIfInBounds_toArray, List.set_cons_succ, List.set_cons_zero]
                  refine oi_loud (k := 14) (by kernel_rfl) rfl ?_
                  refine wpList_lit1 rfl 23 3 (.tmp 52) rfl (some 53) rfl Tryz.underlying23 1 sizeI zeroI _ rfl rfl (by omega) (by omega) ?_
                  intro w3 g3 hb3 hx3 hg3
                  have T3 := T2.lit2 (v := .int .i64 (y : Int)) hb3 hx3 hg3
                  clear hb3 hx3 hg3
                  refine oi_end ⟨T3.ext, ?_⟩
                  simp only [Act.put, List.setIfInBounds_toArray, List.set_cons_succ, List.set_cons_zero]
                  refine oi_loud (k := 15) (by kernel_rfl) rfl ?_
                  refine wpList_append_slf elt_intR rfl _ _ rfl w.heap.size (.slice A2 M.length c2) M.length (ints (M.map Int.ofNat)) rfl T3.m _ 1 [.int .i64 (y : Int)] rfl (blk_one (T3.a2 _ _ rfl).1) (int_one _) (by omega) (by omega) T3.base.2 ?_
                  intro B2 d2 w4 ho4 hg4 hr4
                  have T4 := T3.app2' ho4 hg4 hr4
                  clear ho4 hg4 hr4
                  refine oi_end ⟨T4.ext, ?_⟩
                  simp only [Act.put, List.setIfInBounds_toArray, List.set_cons_succ, List.set_cons_zero]
                  refine oi_run (k := 16) (by kernel_rfl) rfl (by rfl) (.slice B1 (P.length + 1) d1) (ex_assign rfl rfl) T4.ext ?_
                  simp only [Act.put, List.setIfInBounds_toArray, List.set_cons_succ, List.set_cons_zero]
                  refine oi_run (k := 17) (by kernel_rfl) rfl (by rfl) (.slice B2 (M.length + 1) d2) (ex_assign rfl rfl) T4.ext ?_
                  simp only [Act.put, List.setIfInBounds_toArray, List.set_cons_succ, List.set_cons_zero]
                  refine oi_done (by kernel_rfl) ?_
                  go_wp2_with fail
                  go_roundw
                  case rel =>
                    refine ⟨i + 2, i + 2, P ++ [(bs.drop fr).take (i - fr)], M ++ [y], B1, d1, B2, d2, _, by omega, by omega, by go_num, by go_num, by simp; omega, by simp; omega, by rw [List.length_append]; rfl, by rw [List.length_append]; rfl, ?_, HPS.out, hid_ (by rw [HT.out, Nat.sub_self]; rfl)⟩
                    rw [List.length_append, List.length_append, List.map_append, ints_app]
                    exact T4
                  case measure => simp [intOf]; omega
                · refine wpList_lit1 rfl 23 3 (.tmp 52) rfl (some 53) rfl Tryz.underlying23 1 sizeI zeroI _ rfl rfl (by omega) (by omega) ?_
                  intro w2 g2 hb2 hx2 hg2
                  have T2 := T1.lit2 (v := .int .i64 (y : Int)) hb2 hx2 hg2
                  clear hb2 hx2 hg2
                  refine oi_end ⟨T2.ext, ?_⟩
                  simp only [Act.put, List.setIfInBounds_toArray, List.set_cons_succ, List.set_cons_zero]
                  refine oi_loud (k := 6) (by kernel_rfl) rfl ?_
                  refine wpList_append_slf elt_bss rfl _ _ rfl w.heap.size (.slice A1 P.length c1) P.length VS rfl T2.p _ 1 [(.slice (if c = fr then some ad else (some ad).map (·.add fr)) (i - fr) (c - fr))] rfl (blk_one (T2.a1 _ _ rfl).1) (one_of rfl) (by omega) (by omega) T2.base.2 ?_
                  intro B1 d1 w3 ho3 hg3 hr3
                  have T3 := T2.app1' ho3 hg3 hr3
                  clear ho3 hg3 hr3
                  refine oi_end ⟨T3.ext, ?_⟩
                  simp only [Act.put, List.setIfInBounds_toArray, List.set_cons_succ, List.set_cons_zero]
                  refine oi_loud (k := 15) (by kernel_rfl) rfl ?_
                  refine wpList_append_slf elt_intR rfl _ _ rfl w.heap.size (.slice A2 M.length c2) M.length (ints (M.map Int.ofNat)) rfl T3.m _ 1 [.int .i64 (y : Int)] rfl (blk_one (T3.a2 _ _ rfl).1) (int_one _) (by omega) (by omega) T3.base.2 ?_
                  intro B2 d2 w4 ho4 hg4 hr4
                  have T4 := T3.app2' ho4 hg4 hr4
                  clear ho4 hg4 hr4
                  refine oi_end ⟨T4.ext, ?_⟩
                  simp only [Act.put, List.setIfInBounds_toArray, List.set_cons_succ, List.set_cons_zero]
                  refine oi_run (k := 16) (by kernel_rfl) rfl (by rfl) (.slice B1 (P.length + 1) d1) (ex_assign rfl rfl) T4.ext ?_
                  simp only [Act.put, List.setIfInBounds_toArray, List.set_cons_succ, List.set_cons_zero]
                  refine oi_run (k := 17) (by kernel_rfl) rfl (by rfl) (.slice B2 (M.length + 1) d2) (ex_assign rfl rfl) T4.ext ?_
                  simp only [Act.put, List.setIfInBounds_toArray, List.set_cons_succ, List.set_cons_zero]
                  refine oi_done (by kernel_rfl) ?_
                  go_wp2_with fail
                  go_roundw
                  case rel =>
                    refine ⟨i + 2, i + 2, P ++ [(bs.drop fr).take (i - fr)], M ++ [y], B1, d1, B2, d2, _, by omega, by omega, by go_num, by go_num, by simp; omega, by simp; omega, by rw [List.length_append]; rfl, by rw [List.length_append]; rfl, ?_, HPS.out, hid_ (by rw [HT.out, Nat.sub_self]; rfl)⟩
                    rw [List.length_append, List.length_append, List.map_append, ints_app]
                    exact T4
                  case measure => simp [intOf]; omega
              · refine wpList_lit1 rfl 23 3 (.tmp 52) rfl (some 53) rfl Tryz.underlying23 1 sizeI zeroI _ rfl rfl (by omega) (by omega) ?_
                intro w1 g1 hb1 hx1 hg1
                have T1 := T0d.lit2 (v := .int .i64 (y : Int)) hb1 hx1 hg1
                clear hb1 hx1 hg1
                refine oi_end ⟨T1.ext, ?_⟩
                simp only [Act.put, List.setIfInBounds_toArray, List.set_cons_succ, List.set_cons_zero]
                refine oi_loud (k := 5) (by kernel_rfl) rfl ?_
                refine wpList_lit1 rfl 42 28 (.tmp 43) rfl (some 44) rfl Tryz.underlying42 1 sizeBs zeroBs _ rfl rfl (by omega) (by omega) ?_
                intro w2 g2 hb2 hx2 hg2
                have T2 := T1.lit1 (v := (.slice (if c = fr then some ad else (some ad).map (·.add fr)) (i - fr) (c - fr))) hb2 hx2 hg2
                clear hb2 hx2 hg2
                refine oi_end ⟨T2.ext, ?_⟩
                simp only [Act.put, List.setIfInBounds_toArray, List.set_cons_succ, List.set_cons_zero]
                refine oi_loud (k := 6) (by kernel_rfl) rfl ?_
                refine wpList_append_slf elt_bss rfl _ _ rfl w.heap.size (.slice A1 P.length c1) P.length VS rfl T2.p _ 1 [(.slice (if c = fr then some ad else (some ad).map (·.add fr)) (i - fr) (c - fr))] rfl (blk_one (T2.a1 _ _ rfl).1) (one_of rfl) (by omega) (by omega) T2.base.2 ?_
                intro B1 d1 w3 ho3 hg3 hr3
                have T3 := T2.app1' ho3 hg3 hr3
                clear ho3 hg3 hr3
                refine oi_end ⟨T3.ext, ?_⟩
                simp only [Act.put, List.setIfInBounds_toArray, List.set_cons_succ, List.set_cons_zero]
                refine oi_loud (k := 15) (by kernel_rfl) rfl ?_
                refine wpList_append_slf elt_intR rfl _ _ rfl w.heap.size (.slice A2 M.length c2) M.length (ints (M.map Int.ofNat)) rfl T3.m _ 1 [.int .i64 (y : Int)] rfl (blk_one (T3.a2 _ _ rfl).1) (int_one _) (by omega) (by omega) T3.base.2 ?_
                intro B2 d2 w4 ho4 hg4 hr4
                have T4 := T3.app2' ho4 hg4 hr4
                clear ho4 hg4 hr4
                refine oi_end ⟨T4.ext, ?_⟩
                simp only [Act.put, List.setIfInBounds_toArray, List.set_cons_succ, List.set_cons_zero]
                refine oi_run (k := 16) (by kernel_rfl) rfl (by rfl) (.slice B1 (P.length + 1) d1) (ex_assign rfl rfl) T4.ext ?_
                simp only [Act.put, List.setIfInBounds_toArray, List.set_cons_succ, List.set_cons_zero]
                refine oi_run (k := 17) (by kernel_rfl) rfl (by rfl) (.slice B2 (M.length + 1) d2) (ex_assign rfl rfl) T4.ext ?_
                simp only [Act.put, List.setIfInBounds_toArray, List.set_cons_succ, List.set_cons_zero]
                refine oi_done (by kernel_rfl) ?_
                go_wp2_with fail
                go_roundw
                case rel =>
                  refine ⟨i + 2, i + 2, P ++ [(bs.drop fr).take (i - fr)], M ++ [y], B1, d1, B2, d2, _, by omega, by omega, by go_num, by go_num, by simp; omega, by simp; omega, by rw [List.length_append]; rfl, by rw [List.length_append]; rfl, ?_, HPS.out, hid_ (by rw [HT.out, Nat.sub_self]; rfl)⟩
                  rw [List.length_append, List.length_append, List.map_append, ints_app]
                  exact T4
                case measure => simp [intOf]; omega
      · have HNX : Hid (ez = spGo (bs.drop (i + 1)) P M ((bs.drop fr).take (i + 1 - fr))) := hid_ (by rw [HPP.out hx, HTK.out])
        have hxn : (((bs[i] : Nat) : Int) != 255) = true := by simp; omega
        clear HPP HTK HEZ hxk
        generalize bs[i] = x at *
        have hxI : ¬ ((x : Int) = 255) := by omega
        go_wp2_with fail
        go_roundw
        case rel => exact ⟨i + 1, fr, P, M, A1, c1, A2, c2, VS, by omega, by omega, by go_num, rfl, by omega, by omega, rfl, rfl, T0, HPI, HNX⟩
        case measure => simp [intOf]; omega
    · have ei : i = n := by omega
      have HER := hid_ (HEZ.out.trans (HSE.out i P M _ (by rw [HBL.out]; omega)))
      clear HEZ
      rw [ei] at hPl hMl hfr
      have HPS : Hid (Pieces w (VS ++ [.slice (if c = fr then A else A.map (·.add fr)) (n - fr) (c - fr)]) (P ++ [(bs.drop fr).take (i - fr)])) := hid_ (HPI.snoc (by rw [List.length_take, List.length_drop, HBL.out]; omega) (by
        have := SL.sub hv hfr (Nat.le_refl n)
        rw [ei]
        rwa [← bytesV_sub] at this))
      obtain ⟨Q, hQ⟩ : ∃ Q, Q = (if c = fr then A else A.map (·.add fr)) := ⟨_, rfl⟩
      have HQ := hid_ hQ
      rw [← hQ] at HPS
      clear hQ
      go_upto_region 14 with fail
      refine wp_region_lit ?_
      refine wl_run rfl (.slice A1 P.length c1) (ex_move rfl rfl) ?_
      simp only [Act.put, List.setIfInBounds_toArray, List.set_cons_succ, List.set_cons_zero]
      refine wl_run rfl (.slice A n c) (ex_move rfl rfl) ?_
      simp only [Act.put, List.setIfInBounds_toArray, List.set_cons_succ, List.set_cons_zero]
      refine wl_run rfl (.int .i64 (fr : Int)) (ex_move rfl rfl) ?_
      simp only [Act.put, List.setIfInBounds_toArray, List.set_cons_succ, List.set_cons_zero]
      refine wl_run rfl (.slice Q (n - fr) (c - fr)) (by rw [HQ.out]; exact ex_sliceF rfl rfl rfl hfr hc1) ?_
      simp only [Act.put, List.setIfInBounds_toArray, List.set_cons_succ, List.set_cons_zero]
      refine wpList_lit1 rfl 42 28 (.tmp 62) rfl (some 63) rfl Tryz.underlying42 1 sizeBs zeroBs _ rfl rfl (by omega) (by omega) ?_
      intro w1 g1 hb1 hx1 hg1
      have T1 := T0.lit1 (v := .slice Q (n - fr) (c - fr)) hb1 hx1 hg1
      clear hb1 hx1 hg1
      simp only [Act.put, List.setIfInBounds_toArray, List.set_cons_succ, List.set_cons_zero]
      refine wpList_append_slf elt_bss rfl _ _ rfl w.heap.size (.slice A1 P.length c1) P.length VS rfl T1.p _ 1 [.slice Q (n - fr) (c - fr)] rfl (blk_one (T1.a1 _ _ rfl).1) (one_of rfl) (by omega) (by omega) T1.base.2 ?_
      intro B1 d1 w2 ho2 hg2 hr2
      have T2 := T1.app1' ho2 hg2 hr2
      clear ho2 hg2 hr2
      simp only [Act.put, List.setIfInBounds_toArray, List.set_cons_succ, List.set_cons_zero]
      go_wp2_with fail
      go_ret3
      rw [HER.out]
      refine ⟨B1, d1, A2, c2, _, by rw [List.length_append]; rfl, ?_, HPS.out.ext T2.ext, (own_out T2.m).1, T2.ext⟩
      rw [List.length_append]
      exact (own_out T2.p).1
end Go.Proofs.YtgmddhljgfbibaaGreatDoor
/- The element of a slice of bytes. -/
namespace Go.Proofs.YtgmddhljgfbibaaGreatDoor
set_option linter.unusedVariables false
set_option linter.unusedSimpArgs false
open Go.RowKit
theorem elt_by : Elt Tryz.prog 28 5 1 1 := ⟨Tryz.underlying28, by kernel_rfl, by omega⟩
end Go.Proofs.YtgmddhljgfbibaaGreatDoor
