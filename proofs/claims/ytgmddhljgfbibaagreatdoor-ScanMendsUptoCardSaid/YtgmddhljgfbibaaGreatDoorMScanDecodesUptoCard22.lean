/- Contracts for the law ScanDecodesUptoCard, part 22: what the functions that it reaches answer, for all arguments that the theorems name. -/
import Derived.Test.YtgmddhljgfbibaaGreatDoorMScanDecodesUptoCard20
import Derived.Test.YtgmddhljgfbibaaGreatDoorMScanDecodesUptoCard21
import Derived.Test.YtgmddhljgfbibaaGreatDoorMScanDecodesUptoCard3
import Derived.Test.YtgmddhljgfbibaaGreatDoorMScanDecodesUptoCard2
import Derived.Test.YtgmddhljgfbibaaGreatDoorMScanDecodesUptoCard6
import Derived.Test.YtgmddhljgfbibaaGreatDoorMScanDecodesUptoCard5
import Derived.Test.YtgmddhljgfbibaaGreatDoorMScanDecodesUptoCard12
/- stuff.Split. -/
namespace Go.Proofs.YtgmddhljgfbibaaGreatDoor
set_option linter.unusedVariables false
set_option linter.unusedSimpArgs false
open Go.RowKit
theorem two_sl (w : World) (T : TypeId) (x y : Value) : SL (w.alloc (.cells #[x, y] T)) 1 (.slice (some ⟨w.heap.size, 0, none⟩) 2 2) 2 [x, y] :=
  ⟨_, _, rfl, by omega, by omega, rfl, fun _ => ⟨_, rfl, (Blk.new w T #[x, y]).lt, fun j u hu => by
    have hc := (Blk.new w T #[x, y]).cell j
    rw [addr_add]
    simp only [Nat.zero_add]
    rw [hc, ← hu]
    simp⟩⟩
theorem two_one : ∀ u ∈ [Value.int .u8 255, Value.int .u8 0], u.oneCell' = true := by
  intro u hu
  simp at hu
  rcases hu with rfl | rfl <;> rfl
theorem bytesV_two (C : List Nat) : bytesV (C ++ [255, 0]) = bytesV C ++ [.int .u8 255, .int .u8 0] := by simp [bytesV]
/-- slices without an address have no room -/
def NZ (VS : List Value) : Prop := ∀ u ∈ VS, ∀ A n c, u = Value.slice A n c → A = none → c = 0
theorem NZ.nil : NZ [] := fun _ h => by cases h
theorem NZ.snoc {VS : List Value} {A : Option Addr} {n c : Nat} (h : NZ VS) (h2 : A = none → c = 0) : NZ (VS ++ [.slice A n c]) := by
  intro u hu A' n' c' e e0
  rcases List.mem_append.1 hu with hu | hu
  · exact h u hu A' n' c' e e0
  · simp at hu
    rw [hu] at e
    injection e with e1 e2 e3
    rw [← e3]
    exact h2 (by rw [e1]; exact e0)
theorem own_nz {w : World} {base size n c : Nat} {e : TypeId} {A : Option Addr} {xs : List Value} (ho : w.ownsRow base e size (.slice A n c) n xs) : A = none → c = 0 := by
  obtain ⟨-, hh⟩ := ho
  rcases hh with ⟨h1, -⟩ | ⟨k, cap, cur, h1, -⟩
  · injection h1 with _ _ h3; exact fun _ => h3
  · injection h1 with h2 _ _; exact fun h => by rw [h] at h2; cases h2
/-- as SpIs; pieces without an address have no room -/
def SpIsN (z : Option (List (List Nat) × List Nat)) (w : World) (e : Ending) (w' : World) : Prop :=
  match z with
  | none => e = .returned (.tuple #[.slice none 0 0, .slice none 0 0, .int .i64 4]) ∧ Ext w w'
  | some (P, M) => ∃ A c B d VS, e = .returned (.tuple #[.slice A P.length c, .slice B M.length d, .int .i64 0]) ∧ SL w' 1 (.slice A P.length c) P.length VS ∧ Pieces w' VS P ∧ SL w' 1 (.slice B M.length d) M.length (ints (M.map Int.ofNat)) ∧ Ext w w' ∧ NZ VS
theorem SpIsN.is {z : Option (List (List Nat) × List Nat)} {w w' : World} {e : Ending} (h : SpIsN z w e w') : SpIs z w e w' := by
  cases z with
  | none => exact h
  | some q =>
    obtain ⟨P, M⟩ := q
    obtain ⟨A, c, B, d, VS, h1, h2, h3, h4, h5, -⟩ := h
    exact ⟨A, c, B, d, VS, h1, h2, h3, h4, h5⟩
set_option maxRecDepth 20000 in
set_option maxHeartbeats 800000 in
theorem split_anyN (bs : List Nat) (v : Value) (w : World) (hv : SL w 1 v bs.length (bytesV bs)) (hlt : ∀ b ∈ bs, b < 256) (hn : bs.length ≤ 1048576) :
    Calls Tryz.prog 48 #[v] w (SpIsN (spGo bs [] [] []) w) := by
  have HB := hid_ hlt
  have hv' := hv
  obtain ⟨A, c, rfl, hc1, hc2, -, -⟩ := hv'
  obtain ⟨ez, hez⟩ : ∃ ez, ez = spGo bs [] [] [] := ⟨_, rfl⟩
  have HEZ := hid_ hez
  rw [← hez]
  clear hez hlt
  have HSE := hid_ (fun i P M c (h : bs.length ≤ i) => sp_end (bs := bs) (i := i) (P := P) (M := M) (c := c) h)
  have HSP := hid_ (fun i P M c (h : i < bs.length) hx => sp_plain (bs := bs) (i := i) (P := P) (M := M) (c := c) h hx)
  have HS2 := hid_ (fun i P M c (h : i + 1 < bs.length) hx => sp_two (bs := bs) (i := i) (P := P) (M := M) (c := c) h hx)
  have HSL := hid_ (fun i P M c (h : i + 1 = bs.length) hx => sp_last (bs := bs) (i := i) (P := P) (M := M) (c := c) h hx)
  obtain ⟨n, hnn⟩ : ∃ n, n = bs.length := ⟨_, rfl⟩
  have HBL : Hid (bs.length = n) := hid_ hnn.symm
  rw [← hnn] at hv hn hc1 ⊢
  clear hnn
  go_enter Tryz.func48, Tryz.ntmps48
  go_wp2_with fail
  go_loopw [5, 6, 7, 8] (fun s1 s2 s3 iv wr => ∃ (i : Nat) (P : List (List Nat)) (M C : List Nat) (A1 : Option Addr) (c1 : Nat) (A2 : Option Addr) (c2 : Nat) (A3 : Option Addr) (c3 : Nat) (VS : List Value), i ≤ n ∧ P.length ≤ i ∧ M.length ≤ i ∧ C.length ≤ i ∧ iv = .int .i64 (i : Int) ∧ s1 = .slice A1 P.length c1 ∧ s2 = .slice A2 M.length c2 ∧ s3 = .slice A3 C.length c3 ∧
    Cur w wr w.heap.size 28 3 5 (.slice A1 P.length c1) (.slice A2 M.length c2) (.slice A3 C.length c3) P.length M.length C.length VS (ints (M.map Int.ofNat)) (bytesV C) P ∧ Hid (ez = spGo (bs.drop i) P M C) ∧ Hid (NZ VS)) (fun _ _ _ i _ => n - (intOf i).toNat)
  case atStart => exact ⟨0, [], [], [], none, 0, none, 0, none, 0, [], by omega, by simp, by simp, by simp, rfl, rfl, rfl, rfl, ⟨⟨Ext.refl _, ⟨Nat.le_refl _, Nat.le_refl _⟩, own_nil _ _ _ _, own_nil _ _ _ _, (fun b h => by simp [Value.ownBlock] at h), (fun _ _ h => by cases h), (fun _ _ h => by cases h)⟩, Kept.nil _ _ _, own_nil _ _ _ _, (fun b h => by simp [Value.ownBlock] at h), (fun _ h => by cases h)⟩, HEZ, hid_ NZ.nil⟩
  case round =>
    clear HEZ
    obtain ⟨i, P, M, C, A1, c1, A2, c2, A3, c3, VS, hi, hPl, hMl, hCl, rfl, rfl, rfl, rfl, hC, HEZ, HNZ⟩ := hrel
    have HN3 := hid_ (own_nz hC.cur)
    by_cases hlt : i < n
    · have hil : i < bs.length := by rw [HBL.out]; exact hlt
      obtain ⟨ad, u, rfl, hab, hxk, hcell⟩ := (hv.ext hC.two.ext).at1 hlt
      obtain ⟨hkl, rfl⟩ := bytes_at hxk
      have hx8 : bs[i] < 256 := HB.out _ (List.getElem_mem hil)
      have HPP := hid_ (fun hx => HEZ.out.trans (HSP.out i P M C hil hx))
      by_cases hx : bs[i] = 255
      · by_cases h1 : i + 1 = n
        · have HER : Hid (ez = none) := hid_ (HEZ.out.trans (HSL.out i P M _ (by rw [HBL.out]; exact h1) hx))
          have hd : decide ((i : Int) + 1 = (n : Int)) = true := by simp; omega
          have hd2 : ((i : Int) + 1 == (n : Int)) = true := by simp; omega
          have hwr : IntKind.i64.wrap ((i : Int) + 1) = (i : Int) + 1 := IntWalk.i64_in _ (by omega)
          clear HPP HEZ
          rw [hx] at hcell
          clear hxk hx8
          go_wp2_with fail
          go_ret3
          rw [HER.out]
          exact ⟨rfl, hC.two.ext⟩
        · have h1' : i + 1 < n := by omega
          obtain ⟨ad2, u2, e2, -, hyk, hcell2⟩ := (hv.ext hC.two.ext).at1 h1'
          injection e2 with e2
          subst e2
          obtain ⟨hkl2, rfl⟩ := bytes_at hyk
          have hy : bs[i + 1] < 256 := HB.out _ (List.getElem_mem hkl2)
          have HT := hid_ (HEZ.out.trans (HS2.out i P M _ hkl2 hx))
          have hd : decide ((i : Int) + 1 = (n : Int)) = false := by simp; omega
          have hd2 : ((i : Int) + 1 == (n : Int)) = false := by simp; omega
          have hdI : ¬ ((i : Int) + 1 = (n : Int)) := by omega
          have hwr : IntKind.i64.wrap ((i : Int) + 1) = (i : Int) + 1 := IntWalk.i64_in _ (by omega)
          have hwr2 : IntKind.i64.wrap ((i : Int) + 1 + 1) = (i : Int) + 1 + 1 := IntWalk.i64_in _ (by omega)
          have hwr3 : IntKind.i64.wrap ((i : Int) + 2) = (i : Int) + 2 := IntWalk.i64_in _ (by omega)
          have hi1 : i + 1 < n := h1'
          have hi1I : (i : Int) + 1 < (n : Int) := by omega
          clear HPP HEZ hxk hyk hx8
          rw [hx] at hcell
          by_cases hy1 : bs[i + 1] = 255
          · rw [if_pos hy1] at HT
            rw [hy1] at hcell2
            have hcell3 := hcell2
            unfold Addr.add at hcell3
            rw [if_neg (by omega)] at hcell3
            clear hy hy1
            go_wp2_with fail
            go_ret3
            rw [HT.out]
            exact ⟨rfl, hC.two.ext⟩
          · rw [if_neg hy1] at HT
            have hyI : ¬ (((bs[i + 1] : Nat) : Int) = 255) := by omega
            have hyb : (((bs[i + 1] : Nat) : Int) == 255) = false := by simp; omega
            by_cases hy0 : bs[i + 1] = 0
            · rw [if_pos hy0] at HT
              rw [hy0] at hcell2
              have hcell3 := hcell2
              unfold Addr.add at hcell3
              rw [if_neg (by omega)] at hcell3
              clear hy hy1 hyI hyb hy0
              go_wp2_with (at_builtin; go_must (refine wpList_append_slf elt_by rfl _ _ rfl w.heap.size (.slice A3 C.length c3) _ _ rfl (hC.cur.alloc _) _ 2 [.int .u8 255, .int .u8 0] rfl (two_sl _ _ _ _) two_one (by omega) (by omega) (by have := hC.two.base.2; simp; omega) ?_); intro A7 c7 w7 ho7 hg7 hr7)
              have hC7 := (hC.later ((Ext.refl wr).alloc (.cells #[.int .u8 255, .int .u8 0] 5))).grow ho7 hg7 (by rw [own_map2]; exact hr7)
              go_roundw
              case rel =>
                refine ⟨i + 2, P, M, C ++ [255, 0], A1, c1, A2, c2, A7, c7, VS, by omega, by omega, by omega, by simp; omega, by go_num, rfl, rfl, by rw [List.length_append]; rfl, ?_, HT, HNZ⟩
                rw [List.length_append, bytesV_two]
                exact hC7
              case measure => simp [intOf]; omega
            · rw [if_neg hy0] at HT
              have hdy : decide ((0 : Int) < ((bs[i + 1] : Nat) : Int)) = true := by simp; omega
              have hy0I : 0 < bs[i + 1] := by omega
              have HCX : ∀ W, Ext w W → W.cell? (ad.add ((i + 1) * 1)) = some (.int .u8 ((bs[i + 1] : Nat) : Int)) := fun W hW => by
                rw [Nat.mul_one]
                obtain ⟨ad3, u3, e3, -, hk3, hc3⟩ := (hv.ext hW).at1 h1'
                injection e3 with e3
                subst e3
                obtain ⟨_, hu⟩ := bytes_at hk3
                rw [hc3, hu]
              generalize bs[i + 1] = y at *
              try clear hx
              have hcell3 := hcell2
              unfold Addr.add at hcell3
              rw [if_neg (by omega)] at hcell3
              have hI : Ext w wr.drew := hC.two.ext.drew
              have hCd := hC.later (Ext.refl wr).drew
              have T0 := hCd.two
              have K0 := hCd.kept.snoc hCd.cur rfl hCd.d1
              clear hCd
              go_wp2_with fail
              refine wp_region_oi (Ext w) (by kernel_rfl) ?_
              refine oi_run (k := 0) (by kernel_rfl) rfl (by rfl) (.slice A1 P.length c1) (ex_move rfl rfl) hI ?_
              simp only [Act.put, List.setIfInBounds_toArray, List.set_cons_succ, List.set_cons_zero]
              refine oi_run (k := 1) (by kernel_rfl) rfl (by rfl) (.slice A3 C.length c3) (ex_move rfl rfl) hI ?_
              simp only [Act.put, List.setIfInBounds_toArray, List.set_cons_succ, List.set_cons_zero]
              refine oi_run (k := 4) (by kernel_rfl) rfl (by rfl) (.slice A2 M.length c2) (ex_move rfl rfl) hI ?_
              simp only [Act.put, List.setIfInBounds_toArray, List.set_cons_succ, List.set_cons_zero]
              refine oi_run (k := 5) (by kernel_rfl) rfl (by rfl) (.slice (some ad) n c) (ex_move rfl rfl) hI ?_
              simp only [Act.put, List.setIfInBounds_toArray, List.set_cons_succ, List.set_cons_zero]
              refine oi_run (k := 6) (by kernel_rfl) rfl (by rfl) (.int .i64 ((i + 1 : Nat) : Int)) (ex_move rfl rfl) hI ?_
              simp only [Act.put, List.setIfInBounds_toArray, List.set_cons_succ, List.set_cons_zero]
              refine oi_run (k := 7) (by kernel_rfl) rfl (by rfl) (.pointer (some (ad.add ((i + 1) * 1)))) (ex_ixSl Tryz.underlying28 sizeU8' rfl rfl rfl hi1) hI ?_
              simp only [Act.put, List.setIfInBounds_toArray, List.set_cons_succ, List.set_cons_zero]
              refine oi_fix (k := 8) (by kernel_rfl) rfl (by rfl) (.int .u8 ((y : Nat) : Int)) (fun W hW => ex_loadU rfl rfl (HCX W hW)) hI ?_
              simp only [Act.put, List.setIfInBounds_toArray, List.set_cons_succ, List.set_cons_zero]
              refine oi_run (k := 9) (by kernel_rfl) rfl (by rfl) (.int .i64 ((y : Nat) : Int)) (ex_conv rfl rfl (run_conv8 y hy)) hI ?_
              simp only [Act.put, List.setIfInBounds_toArray, List.set_cons_succ, List.set_cons_zero]
              refine oi_two (k := 2) (l := 10) (by kernel_rfl) rfl rfl ?_ ?_
              · refine wpList_lit1 rfl 42 28 (.tmp 30) rfl (some 31) rfl Tryz.underlying42 1 sizeBs zeroBs _ rfl rfl (by omega) (by omega) ?_
                intro w1 g1 hb1 hx1 hg1
                have T1 := T0.lit1 (v := (.slice A3 C.length c3)) hb1 hx1 hg1
                have K1 := K0.ext hx1
                clear hb1 hx1 hg1
                refine oi_end ⟨T1.ext, ?_⟩
                simp only [Act.put, List.setIfInBounds_toArray, List.set_cons_succ, List.set_cons_zero]
                refine oi_two (k := 3) (l := 10) (by kernel_rfl) rfl rfl ?_ ?_
                · refine wpList_append_slf elt_bss rfl _ _ rfl w.heap.size (.slice A1 P.length c1) P.length VS rfl T1.p _ 1 [(.slice A3 C.length c3)] rfl (blk_one (T1.a1 _ _ rfl).1) (one_of rfl) (by omega) (by omega) T1.base.2 ?_
                  intro B1 d1 w2 ho2 hg2 hr2
                  have T2 := T1.app1' ho2 hg2 hr2
                  have K2 := K1.grown1 (n := P.length + 1) (c := d1) hg2 hr2
                  clear ho2 hg2 hr2
                  refine oi_end ⟨T2.ext, ?_⟩
                  simp only [Act.put, List.setIfInBounds_toArray, List.set_cons_succ, List.set_cons_zero]
                  refine oi_loud (k := 10) (by kernel_rfl) rfl ?_
                  refine wpList_lit1 rfl 23 3 (.tmp 38) rfl (some 39) rfl Tryz.underlying23 1 sizeI zeroI _ rfl rfl (by omega) (by omega) ?_
                  intro w3 g3 hb3 hx3 hg3
                  have T3 := T2.lit2 (v := .int .i64 (y : Int)) hb3 hx3 hg3
                  have K3 := K2.ext hx3
                  clear hb3 hx3 hg3
                  refine oi_end ⟨T3.ext, ?_⟩
                  simp only [Act.put, List.setIfInBounds_toArray, List.set_cons_succ, List.set_cons_zero]
                  refine oi_loud (k := 11) (by kernel_rfl) rfl ?_
                  refine wpList_append_slf elt_intR rfl _ _ rfl w.heap.size (.slice A2 M.length c2) M.length (ints (M.map Int.ofNat)) rfl T3.m _ 1 [.int .i64 (y : Int)] rfl (blk_one (T3.a2 _ _ rfl).1) (int_one _) (by omega) (by omega) T3.base.2 ?_
                  intro B2 d2 w4 ho4 hg4 hr4
                  have T4 := T3.app2' ho4 hg4 hr4
                  have K4 := K3.grown2 (n := M.length + 1) (c := d2) hg4 hr4
                  clear ho4 hg4 hr4
                  refine oi_end ⟨T4.ext, ?_⟩
                  simp only [Act.put, List.setIfInBounds_toArray, List.set_cons_succ, List.set_cons_zero]
                  refine oi_run (k := 12) (by kernel_rfl) rfl (by rfl) (.slice B1 (P.length + 1) d1) (ex_assign rfl rfl) T4.ext ?_
                  simp only [Act.put, List.setIfInBounds_toArray, List.set_cons_succ, List.set_cons_zero]
                  refine oi_run (k := 13) (by kernel_rfl) rfl (by rfl) (.slice B2 (M.length + 1) d2) (ex_assign rfl rfl) T4.ext ?_
                  simp only [Act.put, List.setIfInBounds_toArray, List.set_cons_succ, List.set_cons_zero]
                  refine oi_run (k := 14) (by kernel_rfl) rfl (by rfl) (.slice none 0 0) (ex_assign rfl rfl) T4.ext ?_
                  simp only [Act.put, List.setIfInBounds_toArray, List.set_cons_succ, List.set_cons_zero]
                  refine oi_done (by kernel_rfl) ?_
                  go_wp2_with fail
                  go_roundw
                  case rel =>
                    refine ⟨i + 2, P ++ [C], M ++ [y], [], B1, d1, B2, d2, none, 0, VS ++ [.slice A3 C.length c3], by omega, by simp; omega, by simp; omega, by simp, by go_num, by rw [List.length_append]; rfl, by rw [List.length_append]; rfl, rfl, ?_, hid_ HT.out, hid_ (HNZ.out.snoc HN3.out)⟩
                    rw [List.length_append, List.length_append, List.map_append, ints_app]
                    exact ⟨T4, K4, own_nil _ _ _ _, (fun b h => by cases h), (fun _ _ _ _ h => by cases h)⟩
                  case measure => simp [intOf]; omega
                · refine wpList_lit1 rfl 23 3 (.tmp 38) rfl (some 39) rfl Tryz.underlying23 1 sizeI zeroI _ rfl rfl (by omega) (by omega) ?_
                  intro w2 g2 hb2 hx2 hg2
                  have T2 := T1.lit2 (v := .int .i64 (y : Int)) hb2 hx2 hg2
                  have K2 := K1.ext hx2
                  clear hb2 hx2 hg2
                  refine oi_end ⟨T2.ext, ?_⟩
                  simp only [Act.put, List.setIfInBounds_toArray, List.set_cons_succ, List.set_cons_zero]
                  refine oi_loud (k := 3) (by kernel_rfl) rfl ?_
                  refine wpList_append_slf elt_bss rfl _ _ rfl w.heap.size (.slice A1 P.length c1) P.length VS rfl T2.p _ 1 [(.slice A3 C.length c3)] rfl (blk_one (T2.a1 _ _ rfl).1) (one_of rfl) (by omega) (by omega) T2.base.2 ?_
                  intro B1 d1 w3 ho3 hg3 hr3
                  have T3 := T2.app1' ho3 hg3 hr3
                  have K3 := K2.grown1 (n := P.length + 1) (c := d1) hg3 hr3
                  clear ho3 hg3 hr3
                  refine oi_end ⟨T3.ext, ?_⟩
                  simp only [Act.put, List.setIfInBounds_toArray, List.set_cons_succ, List.set_cons_zero]
                  refine oi_loud (k := 11) (by kernel_rfl) rfl ?_
                  refine wpList_append_slf elt_intR rfl _ _ rfl w.heap.size (.slice A2 M.length c2) M.length (ints (M.map Int.ofNat)) rfl T3.m _ 1 [.int .i64 (y : Int)] rfl (blk_one (T3.a2 _ _ rfl).1) (int_one _) (by omega) (by omega) T3.base.2 ?_
                  intro B2 d2 w4 ho4 hg4 hr4
                  have T4 := T3.app2' ho4 hg4 hr4
                  have K4 := K3.grown2 (n := M.length + 1) (c := d2) hg4 hr4
                  clear ho4 hg4 hr4
                  refine oi_end ⟨T4.ext, ?_⟩
                  simp only [Act.put, List.setIfInBounds_toArray, List.set_cons_succ, List.set_cons_zero]
                  refine oi_run (k := 12) (by kernel_rfl) rfl (by rfl) (.slice B1 (P.length + 1) d1) (ex_assign rfl rfl) T4.ext ?_
                  simp only [Act.put, List.setIfInBounds_toArray, List.set_cons_succ, List.set_cons_zero]
                  refine oi_run (k := 13) (by kernel_rfl) rfl (by rfl) (.slice B2 (M.length + 1) d2) (ex_assign rfl rfl) T4.ext ?_
                  simp only [Act.put, List.setIfInBounds_toArray, List.set_cons_succ, List.set_cons_zero]
                  refine oi_run (k := 14) (by kernel_rfl) rfl (by rfl) (.slice none 0 0) (ex_assign rfl rfl) T4.ext ?_
                  simp only [Act.put, List.setIfInBounds_toArray, List.set_cons_succ, List.set_cons_zero]
                  refine oi_done (by kernel_rfl) ?_
                  go_wp2_with fail
                  go_roundw
                  case rel =>
                    refine ⟨i + 2, P ++ [C], M ++ [y], [], B1, d1, B2, d2, none, 0, VS ++ [.slice A3 C.length c3], by omega, by simp; omega, by simp; omega, by simp, by go_num, by rw [List.length_append]; rfl, by rw [List.length_append]; rfl, rfl, ?_, hid_ HT.out, hid_ (HNZ.out.snoc HN3.out)⟩
                    rw [List.length_append, List.length_append, List.map_append, ints_app]
                    exact ⟨T4, K4, own_nil _ _ _ _, (fun b h => by cases h), (fun _ _ _ _ h => by cases h)⟩
                  case measure => simp [intOf]; omega
              · refine wpList_lit1 rfl 23 3 (.tmp 38) rfl (some 39) rfl Tryz.underlying23 1 sizeI zeroI _ rfl rfl (by omega) (by omega) ?_
                intro w1 g1 hb1 hx1 hg1
                have T1 := T0.lit2 (v := .int .i64 (y : Int)) hb1 hx1 hg1
                have K1 := K0.ext hx1
                clear hb1 hx1 hg1
                refine oi_end ⟨T1.ext, ?_⟩
                simp only [Act.put, List.setIfInBounds_toArray, List.set_cons_succ, List.set_cons_zero]
                refine oi_loud (k := 2) (by kernel_rfl) rfl ?_
                refine wpList_lit1 rfl 42 28 (.tmp 30) rfl (some 31) rfl Tryz.underlying42 1 sizeBs zeroBs _ rfl rfl (by omega) (by omega) ?_
                intro w2 g2 hb2 hx2 hg2
                have T2 := T1.lit1 (v := (.slice A3 C.length c3)) hb2 hx2 hg2
                have K2 := K1.ext hx2
                clear hb2 hx2 hg2
                refine oi_end ⟨T2.ext, ?_⟩
                simp only [Act.put, List.setIfInBounds_toArray, List.set_cons_succ, List.set_cons_zero]
                refine oi_loud (k := 3) (by kernel_rfl) rfl ?_
                refine wpList_append_slf elt_bss rfl _ _ rfl w.heap.size (.slice A1 P.length c1) P.length VS rfl T2.p _ 1 [(.slice A3 C.length c3)] rfl (blk_one (T2.a1 _ _ rfl).1) (one_of rfl) (by omega) (by omega) T2.base.2 ?_
                intro B1 d1 w3 ho3 hg3 hr3
                have T3 := T2.app1' ho3 hg3 hr3
                have K3 := K2.grown1 (n := P.length + 1) (c := d1) hg3 hr3
                clear ho3 hg3 hr3
                refine oi_end ⟨T3.ext, ?_⟩
                simp only [Act.put, List.setIfInBounds_toArray, List.set_cons_succ, List.set_cons_zero]
                refine oi_loud (k := 11) (by kernel_rfl) rfl ?_
                refine wpList_append_slf elt_intR rfl _ _ rfl w.heap.size (.slice A2 M.length c2) M.length (ints (M.map Int.ofNat)) rfl T3.m _ 1 [.int .i64 (y : Int)] rfl (blk_one (T3.a2 _ _ rfl).1) (int_one _) (by omega) (by omega) T3.base.2 ?_
                intro B2 d2 w4 ho4 hg4 hr4
                have T4 := T3.app2' ho4 hg4 hr4
                have K4 := K3.grown2 (n := M.length + 1) (c := d2) hg4 hr4
                clear ho4 hg4 hr4
                refine oi_end ⟨T4.ext, ?_⟩
                simp only [Act.put, List.setIfInBounds_toArray, List.set_cons_succ, List.set_cons_zero]
                refine oi_run (k := 12) (by kernel_rfl) rfl (by rfl) (.slice B1 (P.length + 1) d1) (ex_assign rfl rfl) T4.ext ?_
                simp only [Act.put, List.setIfInBounds_toArray, List.set_cons_succ, List.set_cons_zero]
                refine oi_run (k := 13) (by kernel_rfl) rfl (by rfl) (.slice B2 (M.length + 1) d2) (ex_assign rfl rfl) T4.ext ?_
                simp only [Act.put, List.setIfInBounds_toArray, List.set_cons_succ, List.set_cons_zero]
                refine oi_run (k := 14) (by kernel_rfl) rfl (by rfl) (.slice none 0 0) (ex_assign rfl rfl) T4.ext ?_
                simp only [Act.put, List.setIfInBounds_toArray, List.set_cons_succ, List.set_cons_zero]
                refine oi_done (by kernel_rfl) ?_
                go_wp2_with fail
                go_roundw
                case rel =>
                  refine ⟨i + 2, P ++ [C], M ++ [y], [], B1, d1, B2, d2, none, 0, VS ++ [.slice A3 C.length c3], by omega, by simp; omega, by simp; omega, by simp, by go_num, by rw [List.length_append]; rfl, by rw [List.length_append]; rfl, rfl, ?_, hid_ HT.out, hid_ (HNZ.out.snoc HN3.out)⟩
                  rw [List.length_append, List.length_append, List.map_append, ints_app]
                  exact ⟨T4, K4, own_nil _ _ _ _, (fun b h => by cases h), (fun _ _ _ _ h => by cases h)⟩
                case measure => simp [intOf]; omega
      · have HNX := hid_ (HPP.out hx)
        have hxn : (((bs[i] : Nat) : Int) != 255) = true := by simp; omega
        clear HPP HEZ hxk
        generalize bs[i] = x at *
        have hxI : ¬ ((x : Int) = 255) := by omega
        go_wp2_with (at_builtin; go_must (refine wpList_append_slf elt_by rfl _ _ rfl w.heap.size (.slice A3 C.length c3) _ _ rfl (hC.cur.alloc _) _ 1 [.int .u8 _] rfl (one_sl _ _ _) (one_of rfl) (by omega) (by omega) (by have := hC.two.base.2; simp; omega) ?_); intro A7 c7 w7 ho7 hg7 hr7)
        have hC7 := (hC.later ((Ext.refl wr).alloc (.cells #[.int .u8 (x : Int)] 5))).grow ho7 hg7 (by rw [own_map2]; exact hr7)
        go_roundw
        case rel =>
          refine ⟨i + 1, P, M, C ++ [x], A1, c1, A2, c2, A7, c7, VS, by omega, by omega, by omega, by simp; omega, by go_num, rfl, rfl, by rw [List.length_append]; rfl, ?_, HNX, HNZ⟩
          rw [List.length_append, bytesV_snoc]
          exact hC7
        case measure => simp [intOf]; omega
    · have HER := hid_ (HEZ.out.trans (HSE.out i P M _ (by rw [HBL.out]; omega)))
      clear HEZ
      have T0 := hC.two
      have K0 := hC.kept.snoc hC.cur rfl hC.d1
      go_upto_region 15 with fail
      refine wp_region_lit ?_
      refine wl_run rfl (.slice A1 P.length c1) (ex_move rfl rfl) ?_
      simp only [Act.put, List.setIfInBounds_toArray, List.set_cons_succ, List.set_cons_zero]
      refine wl_run rfl (.slice A3 C.length c3) (ex_move rfl rfl) ?_
      simp only [Act.put, List.setIfInBounds_toArray, List.set_cons_succ, List.set_cons_zero]
      refine wpList_lit1 rfl 42 28 (.tmp 63) rfl (some 64) rfl Tryz.underlying42 1 sizeBs zeroBs _ rfl rfl (by omega) (by omega) ?_
      intro w1 g1 hb1 hx1 hg1
      have T1 := T0.lit1 (v := .slice A3 C.length c3) hb1 hx1 hg1
      have K1 := K0.ext hx1
      clear hb1 hx1 hg1
      simp only [Act.put, List.setIfInBounds_toArray, List.set_cons_succ, List.set_cons_zero]
      refine wpList_append_slf elt_bss rfl _ _ rfl w.heap.size (.slice A1 P.length c1) P.length VS rfl T1.p _ 1 [.slice A3 C.length c3] rfl (blk_one (T1.a1 _ _ rfl).1) (one_of rfl) (by omega) (by omega) T1.base.2 ?_
      intro B1 d1 w2 ho2 hg2 hr2
      have T2 := T1.app1' ho2 hg2 hr2
      have K2 := K1.grown1 (n := P.length + 1) (c := d1) hg2 hr2
      clear ho2 hg2 hr2
      simp only [Act.put, List.setIfInBounds_toArray, List.set_cons_succ, List.set_cons_zero]
      go_wp2_with fail
      go_ret3
      rw [HER.out]
      refine ⟨B1, d1, A2, c2, _, by rw [List.length_append]; rfl, ?_, K2.1, (own_out T2.m).1, T2.ext, HNZ.out.snoc HN3.out⟩
      rw [List.length_append]
      exact (own_out T2.p).1
theorem split_any (bs : List Nat) (v : Value) (w : World) (hv : SL w 1 v bs.length (bytesV bs)) (hlt : ∀ b ∈ bs, b < 256) (hn : bs.length ≤ 1048576) :
    Calls Tryz.prog 48 #[v] w (SpIs (spGo bs [] [] []) w) := (split_anyN bs v w hv hlt hn).mono fun _ _ h => h.is
end Go.Proofs.YtgmddhljgfbibaaGreatDoor
/- Eq of bytes. -/
namespace Go.Proofs.YtgmddhljgfbibaaGreatDoor
set_option linter.unusedVariables false
set_option linter.unusedSimpArgs false
open Go.RowKit
/-- Eq of bytes -/
theorem bytesV_at (l : List Nat) (k : Nat) (u : Value) (h : (bytesV l)[k]? = some u) : ∃ hk : k < l.length, u = .int .u8 (l[k] : Int) := by
  unfold bytesV at h
  rw [List.getElem?_map] at h
  obtain ⟨z, hz, rfl⟩ := Option.map_eq_some_iff.1 h
  obtain ⟨hk, e⟩ := List.getElem?_eq_some_iff.1 hz
  exact ⟨hk, by rw [e]⟩
end Go.Proofs.YtgmddhljgfbibaaGreatDoor
/- bytesOf of the reference; Eq of bytes. -/
namespace Go.Proofs.YtgmddhljgfbibaaGreatDoor
set_option linter.unusedVariables false
set_option linter.unusedSimpArgs false
open Go.RowKit
theorem Ext.grown' {a w w' : World} (h : Ext a w) {row : Option Nat} (hg : w.grownBy w' row) (hB : ∀ b, row = some b → a.heap.size ≤ b) : Ext a w' :=
  Below.grown h hg h.size (fun k hk => hB k hk)
def strLen : Value → Nat
  | .string b => b.size
  | _ => 0
theorem strB_one (l : List Bool) : strB (l ++ [true]) = strB l ++ ⟨#[49]⟩ := by rw [strB_append]; rfl
theorem replicate_snoc (L : List Bool) (j : Nat) : L ++ List.replicate (j + 1) true = (L ++ List.replicate j true) ++ [true] := by
  rw [List.replicate_succ', List.append_assoc]
theorem packB_take' (R : List Bool) (j : Nat) (h : j < R.length / 8) : (packB R).take (j + 1) = (packB R).take j ++ [numB ((R.drop (8 * j)).take 8)] := by
  rw [List.take_succ_eq_append_getElem (by rw [packB_len]; exact h)]
  simp [packB]
end Go.Proofs.YtgmddhljgfbibaaGreatDoor
/- Stuff and Plain, the program's and the reference's. -/
namespace Go.Proofs.YtgmddhljgfbibaaGreatDoor
set_option linter.unusedVariables false
set_option linter.unusedSimpArgs false
open Go.RowKit
theorem zeroU8 : ((Tryz.prog.info? 5).bind (·.zero)).isSome = true := by kernel_rfl
/-- as ReplIs, in new memory -/
def ReplF (R : List Nat) (w : World) (e : Ending) (w' : World) : Prop := ∃ B k d, e = .returned (.slice B k d) ∧ R.length = k ∧ SL w' 1 (.slice B k d) k (bytesV R) ∧ (B = none → d = 0) ∧ Ext w w' ∧ ∀ ad, B = some ad → w.heap.size ≤ ad.block
theorem wpList_lit2B {ops : Array Oper} {rest : List Oper} {o : Oper} {a : Act} {w : World} {Q : Exit → Act → World → Prop} (hg : o.guard = none) (x y : Operand) (ho : o.op = .buildSlice 28 2 #[(0, x), (1, y)]) (dst : Option Tmp) (hdst : o.dst = dst)
    (m n : Nat) (hx : a.eval x = .int .u8 (m : Int)) (hy : a.eval y = .int .u8 (n : Int))
    (h : ∀ w1 g, Blk w1 g 5 (bytesV [m, n]).toArray → Ext w w1 → w.heap.size ≤ g → wpList Tryz.prog ops Q rest (a.put dst (.slice (some ⟨g, 0, none⟩) 2 2)) w1) : wpList Tryz.prog ops Q (o :: rest) a w := by
  refine Go.Great.wpList_buildSliceTo hg 28 5 2 #[(0, x), (1, y)] ho _ rfl dst hdst Tryz.underlying28 (bytesV [m, n]).toArray ?_ (h _ _ (Blk.new w _ _) ((Ext.refl w).alloc _) (Nat.le_refl _))
  simp only [List.map_toArray, List.map_cons, List.map_nil, hx, hy]
  show _ = _
  kernel_rfl
theorem wpList_lit1B {ops : Array Oper} {rest : List Oper} {o : Oper} {a : Act} {w : World} {Q : Exit → Act → World → Prop} (hg : o.guard = none) (x : Operand) (ho : o.op = .buildSlice 28 1 #[(0, x)]) (dst : Option Tmp) (hdst : o.dst = dst)
    (m : Nat) (hx : a.eval x = .int .u8 (m : Int))
    (h : ∀ w1 g, Blk w1 g 5 (bytesV [m]).toArray → Ext w w1 → w.heap.size ≤ g → wpList Tryz.prog ops Q rest (a.put dst (.slice (some ⟨g, 0, none⟩) 1 1)) w1) : wpList Tryz.prog ops Q (o :: rest) a w :=
  wpList_lit1 hg 28 5 x ho dst hdst Tryz.underlying28 1 sizeU8' zeroU8 _ hx rfl (by omega) (by omega) h
attribute [local irreducible] bytesV replZ stuffZ
theorem replaceAll_any (A : Option Addr) (n c k1 k2 g1 g2 : Nat) (bs o v : List Nat) (m0 : Int) (w : World) (hs : SL w 1 (.slice A n c) n (bytesV bs)) (hA : A = none → c = 0) (hlt : ∀ b ∈ bs, b < 256) (hlo : ∀ b ∈ o, b < 256) (hn : n ≤ 1000000000)
    (ho : o.length = k1) (hk1 : 1 ≤ k1) (hk2 : k1 ≤ 2) (hv : v.length = k2) (hk3 : 1 ≤ k2) (hk4 : k2 ≤ 2) (hbo : Blk w g1 5 (bytesV o).toArray) (hbv : Blk w g2 5 (bytesV v).toArray) (hm : w.cell? ⟨0, 0, none⟩ = some (.int .i64 m0)) :
    Calls Tryz.prog 50 #[.slice A n c, .slice (some ⟨g1, 0, none⟩) k1 k1, .slice (some ⟨g2, 0, none⟩) k2 k2] w (ReplIs (replZ bs o v) w) := by
  have H := hid_ (replace_any A n c k1 k2 g1 g2 bs o v m0 w hs hA hlt hlo hn ho hk1 hk2 hv hk3 hk4 hbo hbv hm)
  generalize replZ bs o v = R at *
  clear hs hlt hlo ho hv hbo hbv hm
  go_enter Tryz.func50, Tryz.ntmps50
  go_wp2_with (go_at_call 70; (with_reducible refine (H.out).mono ?_); rintro e w1 ⟨B, k, d, rfl, h1, h2, h3, h4⟩)
  go_ret
  exact ⟨B, k, d, rfl, h1, h2, h3, h4⟩
theorem cell_keep {w w' : World} {m0 : Int} (hm : w.cell? ⟨0, 0, none⟩ = some (.int .i64 m0)) (hx : Ext w w') : w'.cell? ⟨0, 0, none⟩ = some (.int .i64 m0) := by
  have h00 : 0 < w.heap.size := by
    rcases Nat.eq_zero_or_pos w.heap.size with h | h
    · unfold World.cell? at hm
      rw [Array.getElem?_eq_none (by simp [h])] at hm
      cases hm
    · exact h
  exact (hx.cell (p := ⟨0, 0, none⟩) h00).trans hm
theorem stuff_any (A : Option Addr) (n c : Nat) (bs : List Nat) (m0 : Int) (w : World) (hs : SL w 1 (.slice A n c) n (bytesV bs)) (hA : A = none → c = 0) (hlt : ∀ b ∈ bs, b < 256) (hn : n ≤ 1000000000) (hm : w.cell? ⟨0, 0, none⟩ = some (.int .i64 m0)) :
    Calls Tryz.prog 46 #[.slice A n c] w (ReplIs (stuffZ bs) w) := by
  have H := hid_ (fun W (h : Ext w W) g1 g2 h1 h2 => replaceAll_any A n c 1 2 g1 g2 bs [255] [255, 0] m0 W (hs.ext h) hA hlt (by simp) hn rfl (by omega) (by omega) rfl (by omega) (by omega) h1 h2 (cell_keep hm h))
  rw [stuff_repl bs hlt] at H
  generalize stuffZ bs = R at *
  clear hs hlt hm
  go_enter Tryz.func46, Tryz.ntmps46
  go_wp2_with (first
    | (show wpList _ _ _ (⟨some 4, _, _, _, _, _⟩ :: _) _ _; refine wpList_lit1B rfl _ rfl (some 4) rfl 255 rfl ?_; intro w1 g1 hb1 hx1 hg1)
    | (show wpList _ _ _ (⟨some 5, _, _, _, _, _⟩ :: _) _ _; refine wpList_lit2B rfl _ _ rfl (some 5) rfl 255 0 rfl rfl ?_; intro w2 g2 hb2 hx2 hg2)
    | (go_at_call 50; (with_reducible refine (H.out _ (hx1.trans hx2) _ _ (hb1.ext hx2) hb2).mono ?_); rintro e w3 ⟨B, k, d, rfl, h1, h2, h3, h4⟩))
  go_ret
  exact ⟨B, k, d, rfl, h1, h2, h3, (hx1.trans hx2).trans h4⟩
/-- what Plain hands back -/
def PlIs (z : Option (List Nat)) (w : World) (e : Ending) (w' : World) : Prop :=
  match z with
  | none => e = .returned (.tuple #[.slice none 0 0, .int .i64 4]) ∧ Ext w w'
  | some R => ∃ B k d, e = .returned (.tuple #[.slice B k d, .int .i64 0]) ∧ R.length = k ∧ SL w' 1 (.slice B k d) k (bytesV R) ∧ (B = none → d = 0) ∧ Ext w w'
set_option maxHeartbeats 1000000 in
theorem plain_any (A : Option Addr) (n c : Nat) (bs : List Nat) (m0 : Int) (w : World) (hs : SL w 1 (.slice A n c) n (bytesV bs)) (hA : A = none → c = 0) (hlt : ∀ b ∈ bs, b < 256) (hn : n ≤ 1048576) (hm : w.cell? ⟨0, 0, none⟩ = some (.int .i64 m0)) :
    Calls Tryz.prog 24 #[.slice A n c] w (PlIs (plZ bs) w) := by
  have hl := (sl_len hs).1
  have HSP := split_any bs (.slice A n c) w (by rw [hl]; exact hs) hlt (by omega)
  obtain ⟨k1, k2⟩ := sp_plZ bs [] [] []
  have H := hid_ (fun W (h : Ext w W) g1 g2 h1 h2 => replaceAll_any A n c 2 1 g1 g2 bs [255, 0] [255] m0 W (hs.ext h) hA hlt (by simp) (by omega) rfl (by omega) (by omega) rfl (by omega) (by omega) h1 h2 (cell_keep hm h))
  have hpr := plain_repl bs
  cases hz : plZ bs with
  | none =>
    have k3 := k1 (.inr hz)
    cases hq : spGo bs [] [] [] with
    | none =>
      rw [hq] at HSP
      have HSP := hid_ HSP
      clear hs hlt hm k1 k2 k3 hz hq H hpr
      go_enter Tryz.func24, Tryz.ntmps24
      go_wp2_with (go_at_call 48; (with_reducible refine (HSP.out).mono ?_); rintro e w1 ⟨rfl, hx1⟩)
      refine bodyPost_ret (results_tmp2 rfl _ _ _) rfl ?_
      exact ⟨rfl, hx1⟩
    | some z =>
      obtain ⟨P, M⟩ := z
      have hM := k3 _ hq
      dsimp only at hM
      rw [hq] at HSP
      have HSP := hid_ HSP
      obtain ⟨ml, hml⟩ : ∃ ml, M.length = ml := ⟨_, rfl⟩
      have hml0 : 0 < ml := by rw [← hml]; exact List.length_pos_iff.2 hM
      have HML := hid_ hml
      clear hs hlt hm k1 k2 k3 hz hq H hpr hM hml
      go_enter Tryz.func24, Tryz.ntmps24
      go_wp2_with (go_at_call 48; (with_reducible refine (HSP.out).mono ?_); rintro e w1 ⟨B, b, D, d, VS, rfl, -, -, -, hx1⟩; rw [HML.out])
      refine bodyPost_ret (results_tmp2 rfl _ _ _) rfl ?_
      exact ⟨rfl, hx1⟩
  | some R =>
    obtain ⟨P, hq⟩ := k2 rfl R hz
    rw [hq] at HSP
    have HSP := hid_ HSP
    rw [hpr R hlt hz] at H
    clear hs hlt hm k1 k2 hz hq hpr
    go_enter Tryz.func24, Tryz.ntmps24
    go_wp2_with (first
      | (go_at_call 48; (with_reducible refine (HSP.out).mono ?_); rintro e w1 ⟨B, b, D, d, VS, rfl, -, -, -, hx1⟩; rw [show ([] : List Nat).length = 0 from rfl])
      | (show wpList _ _ _ (⟨some 24, _, _, _, _, _⟩ :: _) _ _; refine wpList_lit2B rfl _ _ rfl (some 24) rfl 255 0 rfl rfl ?_; intro w2 g2 hb2 hx2 hg2)
      | (show wpList _ _ _ (⟨some 25, _, _, _, _, _⟩ :: _) _ _; refine wpList_lit1B rfl _ rfl (some 25) rfl 255 rfl ?_; intro w3 g3 hb3 hx3 hg3; have hx13 := (hx1.trans hx2).trans hx3)
      | (go_at_call 50; (with_reducible refine (H.out _ hx13 _ _ (hb2.ext hx3) hb3).mono ?_); rintro e w4 ⟨B4, k4, d4, rfl, h1, h2, h3, h4⟩))
    refine bodyPost_ret (results_tmp2 rfl _ _ _) rfl ?_
    exact ⟨B4, k4, d4, rfl, h1, h2, h3, hx13.trans h4⟩
theorem stuff_cons (y : Nat) (l : List Nat) : stuffZ (y :: l) = (if y = 255 then [255, 0] else [y]) ++ stuffZ l := by unfold stuffZ; rw [List.flatMap_cons]
end Go.Proofs.YtgmddhljgfbibaaGreatDoor
