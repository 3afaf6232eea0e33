/- bits.Write. -/
import Derived.Test.YtbnjapgmpjkooaaFieldMath
import Derived.Test.YtbnjapgmpjkooaaBytes
namespace Go.Proofs.Ytbnjapgmpjkooaa
set_option linter.unusedVariables false
set_option linter.unusedSimpArgs false
open Go.RowKit
set_option maxRecDepth 20000 in
set_option maxHeartbeats 1000000 in
theorem bitsWrite_long (F : List (Int × Int)) (v : Value) (w : World) (hv : SL w 2 v F.length (ints (flatF F))) (h : ¬ F.length ≤ 20000) :
    Calls Try.prog 8 #[v] w fun e w' => e = .returned (.tuple #[.slice none 0 0, .int .i64 2]) ∧ Ext w w' := by
  obtain ⟨A, c, rfl, hc1, hc2, -, -⟩ := hv
  generalize F.length = n at *
  go_enter Try.func8, Try.ntmps8
  go_wp2_with fail
  go_ret2
  exact ⟨rfl, Ext.refl _⟩
set_option maxRecDepth 20000 in
set_option maxHeartbeats 2000000 in
theorem bitsWrite_any (F : List (Int × Int)) (v : Value) (w : World) (hv : SL w 2 v F.length (ints (flatF F))) :
    Calls Try.prog 8 #[v] w fun e w' => ∃ A c, e = .returned (.tuple #[.slice A (bwZ F).1.length c, .int .i64 (bwZ F).2]) ∧ SL w' 1 (.slice A (bwZ F).1.length c) (bwZ F).1.length (bytesV (bwZ F).1) ∧ Ext w w' := by
  by_cases hn : F.length ≤ 20000
  case neg =>
    refine (bitsWrite_long F v w hv hn).mono ?_
    rintro e w' ⟨rfl, hx⟩
    rw [bwZ_long hn]
    exact ⟨none, 0, rfl, SL.nil _ _, hx⟩
  have HBAD := hid_ (fun k hk hb => bwZ_bad (F := F) hn (k := k) hk hb)
  have HGOOD := hid_ (fun hb => bwZ_good (F := F) hn hb)
  have HFP := hid_ (flatF_part F)
  have HSU := hid_ (bitsF_succ F)
  have HLN := hid_ (fun k h => bitsF_len (F.take k) h)
  generalize bwZ F = ez at *
  have hv' := hv
  obtain ⟨A, c, rfl, hc1, hc2, -, -⟩ := hv'
  obtain ⟨n, hfn⟩ : ∃ n, n = F.length := ⟨_, rfl⟩
  have HFN : Hid (F.length = n) := hid_ hfn.symm
  rw [← hfn] at hv hn hc1
  clear hfn
  rw [HFN.out]
  go_enter Try.func8, Try.ntmps8
  go_wp2_with fail
  have hw0 := WrS.nil (w.alloc (.cells #[.slice none 0 0, .int .u64 0, .int .i64 0] 61)) w.heap.size (Blk.new _ _ _)
  have hbw : Below w.heap.size w (w.alloc (.cells #[.slice none 0 0, .int .u64 0, .int .i64 0] 61)) := (Ext.refl w).alloc _
  generalize hgw : w.heap.size = gw at *
  have hgw' : w.heap.size ≤ gw := by omega
  clear hgw
  go_loopw [14] (fun i wr => ∃ (k : Nat) (r : Option Nat), k ≤ n ∧ i = .int .i64 (k : Int) ∧ WrS wr gw (bitsF (F.take k)) r ∧ Hid (∀ f ∈ F.take k, okF f = true) ∧ Below gw w wr) (fun i _ => n - (intOf i).toNat)
  case atStart => exact ⟨0, none, by omega, rfl, by simpa [bitsF] using hw0, hid_ (by simp), hbw⟩
  case round =>
    clear hw0 hbw
    obtain ⟨k, r, hk, rfl, hwr, HALL, hbl⟩ := hrel
    by_cases hlt : k < n
    · obtain ⟨ad, rfl, hab, hca⟩ := (hv.below hbl hgw').part hlt
      have hkl : k < F.length := by rw [HFN.out]; exact hlt
      rw [HFP.out k hkl] at hca
      have HSK := hid_ (HSU.out k hkl)
      have HBK := hid_ (HBAD.out k hkl)
      have HAS : Hid (okF F[k] = true → ∀ f ∈ F.take (k + 1), okF f = true) := hid_ (fun h f hf => by
        rw [List.take_succ_eq_append_getElem hkl] at hf
        rcases List.mem_append.1 hf with h1 | h1
        · exact HALL.out f h1
        · simp at h1; subst h1; exact h)
      have hll : (bitsF (F.take k)).length ≤ 1000000000000 := by
        have h1 := HLN.out k HALL.out
        have : (F.take k).length ≤ k := List.length_take_le _ _
        omega
      generalize F[k] = f at *
      obtain ⟨a, b⟩ := f
      have HCA := hid_ hca
      clear hca hkl
      have hgb := hwr.lt
      by_cases ha : inB a 0 24 = true
      · rw [inB_iff] at ha
        obtain ⟨an, rfl⟩ : ∃ an : Nat, a = (an : Int) := ⟨a.toNat, by omega⟩
        have HA := hid_ (inB_iff.2 ha)
        have HW := hid_ (fun W => isWidth_any (an : Int) W)
        rw [HA.out] at HW
        have han : an ≤ 24 := by omega
        have HSH := hid_ (run_shl1 an han)
        have HP2 : Hid ((2 : Int) ^ an = ((2 ^ an : Nat) : Int)) := hid_ (by simp)
        have hp1 : (1 : Int) ≤ 2 ^ an := by rw [HP2.out]; have := Nat.one_le_two_pow (n := an); omega
        have HOV := hid_ (fun (h : inB b 0 (2 ^ an - 1) = false) => HBK.out (okF_v (a := (an : Int)) h))
        have HOY := hid_ (fun (h : inB b 0 (2 ^ an - 1) = true) => okF_y (a := (an : Int)) HA.out h)
        generalize hp2 : (2 : Int) ^ an = p2 at *
        clear hp2
        by_cases hb : b < 0
        · have hb0 : decide (b < 0) = true := by simpa using hb
          have HEZ := hid_ (HOV.out (by rw [inB_not]; omega))
          go_wp2_with (first
            | (refine wpList_load_any (by rfl) 28 (.tmp 16) rfl (ad.add (k * 2)) rfl (ints [(an : Int), b]) _ HCA.out Try.underlying28 rfl sizeField ?_)
            | (refine wpList_alloc_abs' rfl (some 6) rfl 28 rfl _ zeroField ?_; intro w7 g7 hb7 hx7 hg7)
            | (refine wpList_store_blk rfl 28 (.tmp 6) (.tmp 17) rfl _ _ rfl rfl hb7 2 sizeField rfl rfl (bv_one [(an : Int), b]) ?_; intro w8 hb8 hg8; have hx8 := hx7.grown hg8 (by omega)))
          have hc0 := hb8.drew.cell 0
          have hc1 := hb8.drew.cell 1
          have HC0 : ∀ W, Ext w8.drew W → W.cell? ⟨g7, 0, none⟩ = some (.int .i64 (an : Int)) := fun W h => (hb8.drew.ext h).cell 0
          have HC1 : ∀ W, Ext w8.drew W → W.cell? ⟨g7, 1, none⟩ = some (.int .i64 b) := fun W h => (hb8.drew.ext h).cell 1
          clear hc0 hc1
          refine wp_region_lx later_ext (by kernel_rfl) (by kernel_rfl) ?_
          refine lx_run (by rfl) (.pointer (some ⟨g7, 0, none⟩)) (fun W => by go_simp) ?_
          simp only [Act.put, List.setIfInBounds_toArray, List.set_cons_succ, List.set_cons_zero]
          refine lx_read (by rfl) (.int .i64 (an : Int)) (fun W hW => ex_loadI rfl rfl (HC0 W hW)) ?_
          simp only [Act.put, List.setIfInBounds_toArray, List.set_cons_succ, List.set_cons_zero]
          refine lx_callF (by rfl) 25 Try.func25 rfl rfl _ _ rfl #[.int .i64 (an : Int)] (by simp [Act.eval]) (.bool true) (fun W h => (HW.out W).mono (fun e w' h => by rw [h.2]; exact ⟨h.1, Ext.refl _⟩)) ?_
          simp only [Act.put, List.setIfInBounds_toArray, List.set_cons_succ, List.set_cons_zero]
          refine lx_run (by rfl) (.bool false) (ex_not (b := true) rfl rfl) ?_
          simp only [Act.put, List.setIfInBounds_toArray, List.set_cons_succ, List.set_cons_zero]
          refine lx_run (by rfl) (.bool false) (ex_move rfl rfl) ?_
          simp only [Act.put, List.setIfInBounds_toArray, List.set_cons_succ, List.set_cons_zero]
          refine lx_run (by rfl) (.pointer (some ⟨g7, 1, none⟩)) (fun W => by go_simp) ?_
          simp only [Act.put, List.setIfInBounds_toArray, List.set_cons_succ, List.set_cons_zero]
          refine lx_read (by rfl) (.int .i64 (b)) (fun W hW => ex_loadI rfl rfl (HC1 W hW)) ?_
          simp only [Act.put, List.setIfInBounds_toArray, List.set_cons_succ, List.set_cons_zero]
          refine lx_run (by rfl) (.bool true) (ex_lss (m := b) (n := 0) rfl rfl rfl hb0) ?_
          simp only [Act.put, List.setIfInBounds_toArray, List.set_cons_succ, List.set_cons_zero]
          refine lx_run (by rfl) (.bool true) (ex_pick (b := false) rfl rfl rfl) ?_
          simp only [Act.put, List.setIfInBounds_toArray, List.set_cons_succ, List.set_cons_zero]
          refine lx_run (by rfl) (.bool true) (ex_move rfl rfl) ?_
          simp only [Act.put, List.setIfInBounds_toArray, List.set_cons_succ, List.set_cons_zero]
          refine lx_skip (by rfl) ?_
          simp only [Act.put, List.setIfInBounds_toArray, List.set_cons_succ, List.set_cons_zero]
          refine lx_skip (by rfl) ?_
          simp only [Act.put, List.setIfInBounds_toArray, List.set_cons_succ, List.set_cons_zero]
          refine lx_skip (by rfl) ?_
          simp only [Act.put, List.setIfInBounds_toArray, List.set_cons_succ, List.set_cons_zero]
          refine lx_skip (by rfl) ?_
          simp only [Act.put, List.setIfInBounds_toArray, List.set_cons_succ, List.set_cons_zero]
          refine lx_skip (by rfl) ?_
          simp only [Act.put, List.setIfInBounds_toArray, List.set_cons_succ, List.set_cons_zero]
          refine lx_skip (by rfl) ?_
          simp only [Act.put, List.setIfInBounds_toArray, List.set_cons_succ, List.set_cons_zero]
          refine lx_run (by rfl) (.bool true) (ex_pick (b := true) rfl rfl rfl) ?_
          simp only [Act.put, List.setIfInBounds_toArray, List.set_cons_succ, List.set_cons_zero]
          refine lx_nil ?_
          intro w9 hx9
          go_wp2_with fail
          go_ret2
          rw [HEZ.out]
          exact ⟨none, 0, rfl, SL.nil _ _, (show Ext w wr from Below.mono hbl hgw').trans (hx8.drew.trans hx9)⟩
        · have hb0 : decide (b < 0) = false := by simpa using hb
          by_cases hbb : p2 ≤ b
          · have hbp : decide (p2 ≤ b) = true := by simpa using hbb
            have HEZ := hid_ (HOV.out (by rw [inB_not]; omega))
            go_wp2_with (first
              | (refine wpList_load_any (by rfl) 28 (.tmp 16) rfl (ad.add (k * 2)) rfl (ints [(an : Int), b]) _ HCA.out Try.underlying28 rfl sizeField ?_)
              | (refine wpList_alloc_abs' rfl (some 6) rfl 28 rfl _ zeroField ?_; intro w7 g7 hb7 hx7 hg7)
              | (refine wpList_store_blk rfl 28 (.tmp 6) (.tmp 17) rfl _ _ rfl rfl hb7 2 sizeField rfl rfl (bv_one [(an : Int), b]) ?_; intro w8 hb8 hg8; have hx8 := hx7.grown hg8 (by omega)))
            have hc0 := hb8.drew.cell 0
            have hc1 := hb8.drew.cell 1
            have HC0 : ∀ W, Ext w8.drew W → W.cell? ⟨g7, 0, none⟩ = some (.int .i64 (an : Int)) := fun W h => (hb8.drew.ext h).cell 0
            have HC1 : ∀ W, Ext w8.drew W → W.cell? ⟨g7, 1, none⟩ = some (.int .i64 b) := fun W h => (hb8.drew.ext h).cell 1
            clear hc0 hc1
            refine wp_region_lx later_ext (by kernel_rfl) (by kernel_rfl) ?_
            refine lx_run (by rfl) (.pointer (some ⟨g7, 0, none⟩)) (fun W => by go_simp) ?_
            simp only [Act.put, List.setIfInBounds_toArray, List.set_cons_succ, List.set_cons_zero]
            refine lx_read (by rfl) (.int .i64 (an : Int)) (fun W hW => ex_loadI rfl rfl (HC0 W hW)) ?_
            simp only [Act.put, List.setIfInBounds_toArray, List.set_cons_succ, List.set_cons_zero]
            refine lx_callF (by rfl) 25 Try.func25 rfl rfl _ _ rfl #[.int .i64 (an : Int)] (by simp [Act.eval]) (.bool true) (fun W h => (HW.out W).mono (fun e w' h => by rw [h.2]; exact ⟨h.1, Ext.refl _⟩)) ?_
            simp only [Act.put, List.setIfInBounds_toArray, List.set_cons_succ, List.set_cons_zero]
            refine lx_run (by rfl) (.bool false) (ex_not (b := true) rfl rfl) ?_
            simp only [Act.put, List.setIfInBounds_toArray, List.set_cons_succ, List.set_cons_zero]
            refine lx_run (by rfl) (.bool false) (ex_move rfl rfl) ?_
            simp only [Act.put, List.setIfInBounds_toArray, List.set_cons_succ, List.set_cons_zero]
            refine lx_run (by rfl) (.pointer (some ⟨g7, 1, none⟩)) (fun W => by go_simp) ?_
            simp only [Act.put, List.setIfInBounds_toArray, List.set_cons_succ, List.set_cons_zero]
            refine lx_read (by rfl) (.int .i64 (b)) (fun W hW => ex_loadI rfl rfl (HC1 W hW)) ?_
            simp only [Act.put, List.setIfInBounds_toArray, List.set_cons_succ, List.set_cons_zero]
            refine lx_run (by rfl) (.bool false) (ex_lss (m := b) (n := 0) rfl rfl rfl hb0) ?_
            simp only [Act.put, List.setIfInBounds_toArray, List.set_cons_succ, List.set_cons_zero]
            refine lx_run (by rfl) (.bool false) (ex_pick (b := false) rfl rfl rfl) ?_
            simp only [Act.put, List.setIfInBounds_toArray, List.set_cons_succ, List.set_cons_zero]
            refine lx_run (by rfl) (.bool false) (ex_move rfl rfl) ?_
            simp only [Act.put, List.setIfInBounds_toArray, List.set_cons_succ, List.set_cons_zero]
            refine lx_run (by rfl) (.pointer (some ⟨g7, 1, none⟩)) (fun W => by go_simp) ?_
            simp only [Act.put, List.setIfInBounds_toArray, List.set_cons_succ, List.set_cons_zero]
            refine lx_read (by rfl) (.int .i64 (b)) (fun W hW => ex_loadI rfl rfl (HC1 W hW)) ?_
            simp only [Act.put, List.setIfInBounds_toArray, List.set_cons_succ, List.set_cons_zero]
            refine lx_run (by rfl) (.pointer (some ⟨g7, 0, none⟩)) (fun W => by go_simp) ?_
            simp only [Act.put, List.setIfInBounds_toArray, List.set_cons_succ, List.set_cons_zero]
            refine lx_read (by rfl) (.int .i64 (an : Int)) (fun W hW => ex_loadI rfl rfl (HC0 W hW)) ?_
            simp only [Act.put, List.setIfInBounds_toArray, List.set_cons_succ, List.set_cons_zero]
            refine lx_run (by rfl) (.int .i64 p2) (ex_bin (m := 1) (n := (an : Int)) rfl rfl rfl HSH.out) ?_
            simp only [Act.put, List.setIfInBounds_toArray, List.set_cons_succ, List.set_cons_zero]
            refine lx_run (by rfl) (.bool true) (ex_geq (m := b) (n := p2) rfl rfl rfl hbp) ?_
            simp only [Act.put, List.setIfInBounds_toArray, List.set_cons_succ, List.set_cons_zero]
            refine lx_run (by rfl) (.bool true) (ex_pick (b := false) rfl rfl rfl) ?_
            simp only [Act.put, List.setIfInBounds_toArray, List.set_cons_succ, List.set_cons_zero]
            refine lx_nil ?_
            intro w9 hx9
            go_wp2_with fail
            go_ret2
            rw [HEZ.out]
            exact ⟨none, 0, rfl, SL.nil _ _, (show Ext w wr from Below.mono hbl hgw').trans (hx8.drew.trans hx9)⟩
          · have hbp : decide (p2 ≤ b) = false := by simpa using hbb
            obtain ⟨bn, rfl⟩ : ∃ bn : Nat, b = (bn : Int) := ⟨b.toNat, by omega⟩
            have HAS2 := hid_ (HAS.out (HOY.out (by rw [inB_iff]; omega)))
            have HP := hid_ (fun W h => put_any gw (bitsF (F.take k)) r bn an W h han (by have := HP2.out; omega) hll)
            have hrow := hwr.row
            have hS2 : Hid (bitsF (F.take (k + 1)) = bitsF (F.take k) ++ digs bn an) := hid_ (by rw [HSK.out]; rfl)
            generalize digs bn an = D at *
            go_wp2_with (first
              | (refine wpList_load_any (by rfl) 28 (.tmp 16) rfl (ad.add (k * 2)) rfl (ints [(an : Int), (bn : Int)]) _ HCA.out Try.underlying28 rfl sizeField ?_)
              | (refine wpList_alloc_abs' rfl (some 6) rfl 28 rfl _ zeroField ?_; intro w7 g7 hb7 hx7 hg7)
              | (refine wpList_store_blk rfl 28 (.tmp 6) (.tmp 17) rfl _ _ rfl rfl hb7 2 sizeField rfl rfl (bv_one [(an : Int), (bn : Int)]) ?_; intro w8 hb8 hg8; have hx8 := hx7.grown hg8 (by omega)))
            have hc0 := hb8.drew.cell 0
            have hc1 := hb8.drew.cell 1
            have HC0 : ∀ W, Ext w8.drew W → W.cell? ⟨g7, 0, none⟩ = some (.int .i64 (an : Int)) := fun W h => (hb8.drew.ext h).cell 0
            have HC1 : ∀ W, Ext w8.drew W → W.cell? ⟨g7, 1, none⟩ = some (.int .i64 (bn : Int)) := fun W h => (hb8.drew.ext h).cell 1
            clear hc0 hc1
            refine wp_region_lx later_ext (by kernel_rfl) (by kernel_rfl) ?_
            refine lx_run (by rfl) (.pointer (some ⟨g7, 0, none⟩)) (fun W => by go_simp) ?_
            simp only [Act.put, List.setIfInBounds_toArray, List.set_cons_succ, List.set_cons_zero]
            refine lx_read (by rfl) (.int .i64 (an : Int)) (fun W hW => ex_loadI rfl rfl (HC0 W hW)) ?_
            simp only [Act.put, List.setIfInBounds_toArray, List.set_cons_succ, List.set_cons_zero]
            refine lx_callF (by rfl) 25 Try.func25 rfl rfl _ _ rfl #[.int .i64 (an : Int)] (by simp [Act.eval]) (.bool true) (fun W h => (HW.out W).mono (fun e w' h => by rw [h.2]; exact ⟨h.1, Ext.refl _⟩)) ?_
            simp only [Act.put, List.setIfInBounds_toArray, List.set_cons_succ, List.set_cons_zero]
            refine lx_run (by rfl) (.bool false) (ex_not (b := true) rfl rfl) ?_
            simp only [Act.put, List.setIfInBounds_toArray, List.set_cons_succ, List.set_cons_zero]
            refine lx_run (by rfl) (.bool false) (ex_move rfl rfl) ?_
            simp only [Act.put, List.setIfInBounds_toArray, List.set_cons_succ, List.set_cons_zero]
            refine lx_run (by rfl) (.pointer (some ⟨g7, 1, none⟩)) (fun W => by go_simp) ?_
            simp only [Act.put, List.setIfInBounds_toArray, List.set_cons_succ, List.set_cons_zero]
            refine lx_read (by rfl) (.int .i64 (bn : Int)) (fun W hW => ex_loadI rfl rfl (HC1 W hW)) ?_
            simp only [Act.put, List.setIfInBounds_toArray, List.set_cons_succ, List.set_cons_zero]
            refine lx_run (by rfl) (.bool false) (ex_lss (m := (bn : Int)) (n := 0) rfl rfl rfl hb0) ?_
            simp only [Act.put, List.setIfInBounds_toArray, List.set_cons_succ, List.set_cons_zero]
            refine lx_run (by rfl) (.bool false) (ex_pick (b := false) rfl rfl rfl) ?_
            simp only [Act.put, List.setIfInBounds_toArray, List.set_cons_succ, List.set_cons_zero]
            refine lx_run (by rfl) (.bool false) (ex_move rfl rfl) ?_
            simp only [Act.put, List.setIfInBounds_toArray, List.set_cons_succ, List.set_cons_zero]
            refine lx_run (by rfl) (.pointer (some ⟨g7, 1, none⟩)) (fun W => by go_simp) ?_
            simp only [Act.put, List.setIfInBounds_toArray, List.set_cons_succ, List.set_cons_zero]
            refine lx_read (by rfl) (.int .i64 (bn : Int)) (fun W hW => ex_loadI rfl rfl (HC1 W hW)) ?_
            simp only [Act.put, List.setIfInBounds_toArray, List.set_cons_succ, List.set_cons_zero]
            refine lx_run (by rfl) (.pointer (some ⟨g7, 0, none⟩)) (fun W => by go_simp) ?_
            simp only [Act.put, List.setIfInBounds_toArray, List.set_cons_succ, List.set_cons_zero]
            refine lx_read (by rfl) (.int .i64 (an : Int)) (fun W hW => ex_loadI rfl rfl (HC0 W hW)) ?_
            simp only [Act.put, List.setIfInBounds_toArray, List.set_cons_succ, List.set_cons_zero]
            refine lx_run (by rfl) (.int .i64 p2) (ex_bin (m := 1) (n := (an : Int)) rfl rfl rfl HSH.out) ?_
            simp only [Act.put, List.setIfInBounds_toArray, List.set_cons_succ, List.set_cons_zero]
            refine lx_run (by rfl) (.bool false) (ex_geq (m := (bn : Int)) (n := p2) rfl rfl rfl hbp) ?_
            simp only [Act.put, List.setIfInBounds_toArray, List.set_cons_succ, List.set_cons_zero]
            refine lx_run (by rfl) (.bool false) (ex_pick (b := false) rfl rfl rfl) ?_
            simp only [Act.put, List.setIfInBounds_toArray, List.set_cons_succ, List.set_cons_zero]
            refine lx_nil ?_
            intro w9 hx9
            have hxa := hx8.drew.trans hx9
            have hw9 := hwr.ext hxa
            have hb9 := hb8.drew.ext hx9
            have hd0 := hb9.cell 0
            have hd1 := hb9.cell 1
            simp only [List.getElem?_toArray, List.getElem?_cons_zero, List.getElem?_cons_succ, ints, List.map_cons] at hd0 hd1
            have hs9 := hxa.size
            go_wp2_with (go_at_call 26; (with_reducible refine (HP.out _ hw9).mono ?_); rintro e w5 ⟨rfl, r', hw5, hrr, hu5⟩)
            go_roundw
            case rel =>
              refine ⟨k + 1, r', by omega, by go_num, by rw [hS2.out]; exact hw5, HAS2, (hbl.trans (Below.mono hxa (by omega))).trans (hu5.below (fun x hx => ?_) (by omega))⟩
              rcases hx with rfl | hx
              · exact Nat.le_refl _
              · have := hrow x hx; omega
            case measure => simp [intOf]; omega
      · have ha' : inB a 0 24 = false := by simpa using ha
        have HW := hid_ (fun W => isWidth_any a W)
        rw [ha'] at HW
        have HEZ := hid_ (HBK.out (okF_w ha'))
        clear ha ha'
        go_wp2_with (first
          | (refine wpList_load_any (by rfl) 28 (.tmp 16) rfl (ad.add (k * 2)) rfl (ints [a, b]) _ HCA.out Try.underlying28 rfl sizeField ?_)
          | (refine wpList_alloc_abs' rfl (some 6) rfl 28 rfl _ zeroField ?_; intro w7 g7 hb7 hx7 hg7)
          | (refine wpList_store_blk rfl 28 (.tmp 6) (.tmp 17) rfl _ _ rfl rfl hb7 2 sizeField rfl rfl (bv_one [a, b]) ?_; intro w8 hb8 hg8; have hx8 := hx7.grown hg8 (by omega)))
        have hc0 := hb8.drew.cell 0
        have hc1 := hb8.drew.cell 1
        have HC0 : ∀ W, Ext w8.drew W → W.cell? ⟨g7, 0, none⟩ = some (.int .i64 a) := fun W h => (hb8.drew.ext h).cell 0
        have HC1 : ∀ W, Ext w8.drew W → W.cell? ⟨g7, 1, none⟩ = some (.int .i64 b) := fun W h => (hb8.drew.ext h).cell 1
        clear hc0 hc1
        refine wp_region_lx later_ext (by kernel_rfl) (by kernel_rfl) ?_
        refine lx_run (by rfl) (.pointer (some ⟨g7, 0, none⟩)) (fun W => by go_simp) ?_
        simp only [Act.put, List.setIfInBounds_toArray, List.set_cons_succ, List.set_cons_zero]
        refine lx_read (by rfl) (.int .i64 (a)) (fun W hW => ex_loadI rfl rfl (HC0 W hW)) ?_
        simp only [Act.put, List.setIfInBounds_toArray, List.set_cons_succ, List.set_cons_zero]
        refine lx_callF (by rfl) 25 Try.func25 rfl rfl _ _ rfl #[.int .i64 a] (by simp [Act.eval]) (.bool false) (fun W h => (HW.out W).mono (fun e w' h => by rw [h.2]; exact ⟨h.1, Ext.refl _⟩)) ?_
        simp only [Act.put, List.setIfInBounds_toArray, List.set_cons_succ, List.set_cons_zero]
        refine lx_run (by rfl) (.bool true) (ex_not (b := false) rfl rfl) ?_
        simp only [Act.put, List.setIfInBounds_toArray, List.set_cons_succ, List.set_cons_zero]
        refine lx_run (by rfl) (.bool true) (ex_move rfl rfl) ?_
        simp only [Act.put, List.setIfInBounds_toArray, List.set_cons_succ, List.set_cons_zero]
        refine lx_skip (by rfl) ?_
        simp only [Act.put, List.setIfInBounds_toArray, List.set_cons_succ, List.set_cons_zero]
        refine lx_skip (by rfl) ?_
        simp only [Act.put, List.setIfInBounds_toArray, List.set_cons_succ, List.set_cons_zero]
        refine lx_skip (by rfl) ?_
        simp only [Act.put, List.setIfInBounds_toArray, List.set_cons_succ, List.set_cons_zero]
        refine lx_run (by rfl) (.bool true) (ex_pick (b := true) rfl rfl rfl) ?_
        simp only [Act.put, List.setIfInBounds_toArray, List.set_cons_succ, List.set_cons_zero]
        refine lx_run (by rfl) (.bool true) (ex_move rfl rfl) ?_
        simp only [Act.put, List.setIfInBounds_toArray, List.set_cons_succ, List.set_cons_zero]
        refine lx_skip (by rfl) ?_
        simp only [Act.put, List.setIfInBounds_toArray, List.set_cons_succ, List.set_cons_zero]
        refine lx_skip (by rfl) ?_
        simp only [Act.put, List.setIfInBounds_toArray, List.set_cons_succ, List.set_cons_zero]
        refine lx_skip (by rfl) ?_
        simp only [Act.put, List.setIfInBounds_toArray, List.set_cons_succ, List.set_cons_zero]
        refine lx_skip (by rfl) ?_
        simp only [Act.put, List.setIfInBounds_toArray, List.set_cons_succ, List.set_cons_zero]
        refine lx_skip (by rfl) ?_
        simp only [Act.put, List.setIfInBounds_toArray, List.set_cons_succ, List.set_cons_zero]
        refine lx_skip (by rfl) ?_
        simp only [Act.put, List.setIfInBounds_toArray, List.set_cons_succ, List.set_cons_zero]
        refine lx_run (by rfl) (.bool true) (ex_pick (b := true) rfl rfl rfl) ?_
        simp only [Act.put, List.setIfInBounds_toArray, List.set_cons_succ, List.set_cons_zero]
        refine lx_nil ?_
        intro w9 hx9
        go_wp2_with fail
        go_ret2
        rw [HEZ.out]
        exact ⟨none, 0, rfl, SL.nil _ _, (show Ext w wr from Below.mono hbl hgw').trans (hx8.drew.trans hx9)⟩
    · have e1 : F.take k = F := List.take_of_length_le (by have := HFN.out; omega)
      rw [e1] at hwr HALL
      have HLL := hid_ (bitsF_len F HALL.out)
      have HB := hid_ (fun W h => bytes_any gw (bitsF F) r W h (by have := HLL.out; have := HFN.out; omega))
      have hrow := hwr.row
      have hgl := hwr.lt
      have HEZ := hid_ (HGOOD.out HALL.out)
      generalize packB (padB (bitsF F)) = out at *
      go_wp2_with (go_at_call 27; (with_reducible refine (HB.out _ hwr).mono ?_); rintro e w6 ⟨A6, c6, rfl, hs6, hf6, hu6⟩)
      go_ret2
      rw [HEZ.out]
      refine ⟨A6, c6, rfl, hs6, show Ext w w6 from Below.mono (hbl.trans (hu6.below (fun x hx => ?_) (by omega))) hgw'⟩
      rcases hx with rfl | hx
      · exact Nat.le_refl _
      · have := hrow x hx; omega
end Go.Proofs.Ytbnjapgmpjkooaa
