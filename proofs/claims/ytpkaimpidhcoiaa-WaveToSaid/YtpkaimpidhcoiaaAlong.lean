/- wave.along. -/
import Derived.Test.YtpkaimpidhcoiaaQuietStore
import Derived.Test.YtpkaimpidhcoiaaRunOps
import Derived.Test.YtpkaimpidhcoiaaWaveMath
import Derived.Test.YtpkaimpidhcoiaaZeros
import Derived.Test.YtpkaimpidhcoiaaIdxFunc
namespace Go.Proofs.Ytpkaimpidhcoiaa
set_option linter.unusedVariables false
set_option linter.unusedSimpArgs false
open Go.RowKit
set_option maxRecDepth 20000 in
set_option maxHeartbeats 1000000 in
theorem along_any (gf : Nat) (eg : Enters Try.prog gf) (C : Nat → Nat → Int) (zs : List Int) (M : Int) (w : World) (hz : zs.length = 64) (hM : 0 ≤ M) (hM2 : M ≤ 2000000000) (hzb : ∀ z ∈ zs, -M ≤ z ∧ z ≤ M)
    (hC : ∀ i k, i < 8 → k < 8 → -4096 ≤ C i k ∧ C i k ≤ 4096)
    (hF : ∀ i k W, i < 8 → k < 8 → Calls Try.prog gf (#[.int .i64 (i : Nat), .int .i64 (k : Nat)] ++ #[]) W fun e w' => e = .returned (.int .i64 (C i k)) ∧ Ext W w') :
    Calls Try.prog 37 #[.agg (bv zs), .func (.func gf) #[] #[]] w fun e w' => e = .returned (.agg (bv (alongZ C zs))) ∧ Ext w w' := by
  have HZ := hid_ hz
  have HAT := hid_ (fun k (hk : k < zs.length) => bv_at zs k hk)
  have HZB := hid_ hzb
  have HCB := hid_ hC
  have HBD := hid_ (alongAt_bd C zs M hM hzb hC)
  have HFF := hid_ hF
  have HEG := hid_ eg
  clear hzb hC hF eg
  generalize hc0 : bv zs = cz at *
  clear hz hc0
  go_enter Try.func37, Try.ntmps37
  go_wp2_with (first
    | (refine wpList_box_abs rfl 27 (.tmp 0) rfl cz rfl ?_; intro w1 gz hbz1 hx1 hgz)
    | (refine wpList_alloc_abs' rfl (some 4) rfl 27 rfl _ zero48 ?_; intro w2 go hbo2 hx2 hgo; have hbz2 := hbz1.ext hx2))
  have hne : go ≠ gz := by have := hbz1.lt; omega
  have hgo' : w.heap.size ≤ go := by have := hx1.size; omega
  have hxx := hx1.trans hx2
  clear hbz1 hx1 hx2
  go_loopw [8] (fun i wr => ∃ row : Nat, row ≤ 8 ∧ i = .int .i64 (row : Int) ∧ Blk wr gz 27 cz ∧ Blk wr go 27 (bv (partL C zs row 0 0)) ∧ Ext w wr) (fun i _ => 8 - (intOf i).toNat)
  case atStart => exact ⟨0, by omega, rfl, hbz2, by rw [partL_start]; exact hbo2, hxx⟩
  case round =>
    clear hbz2 hbo2 hxx
    obtain ⟨row, hrow, rfl, hbz, hbo, hx⟩ := hrel
    by_cases hlr : row < 8
    · go_wp2_with fail
      go_loopw [11] (fun i wr => ∃ j : Nat, j ≤ 8 ∧ i = .int .i64 (j : Int) ∧ Blk wr gz 27 cz ∧ Blk wr go 27 (bv (partL C zs row j 0)) ∧ Ext w wr) (fun i _ => 8 - (intOf i).toNat)
      case atStart => exact ⟨0, by omega, rfl, hbz, hbo, hx⟩
      case round =>
        clear hbz hbo hx
        obtain ⟨j, hj, rfl, hbz, hbo, hx⟩ := hrel
        by_cases hlj : j < 8
        · go_wp2_with fail
          go_loopw [14] (fun i wr => ∃ k : Nat, k ≤ 8 ∧ i = .int .i64 (k : Int) ∧ Blk wr gz 27 cz ∧ Blk wr go 27 (bv (partL C zs row j k)) ∧ Ext w wr) (fun i _ => 8 - (intOf i).toNat)
          case atStart => exact ⟨0, by omega, rfl, hbz, hbo, hx⟩
          case round =>
            clear hbz hbo hx
            obtain ⟨k, hk, rfl, hbz, hbo, hx⟩ := hrel
            by_cases hlk : k < 8
            · have hcall := hid_ (fun W => HFF.out j k W hlj hlk)
              have hzl : 8 * row + k < zs.length := by have := HZ.out; omega
              have hlz' : ∀ W, Blk W gz 27 cz → W.cell? ⟨gz, 8 * row + k, none⟩ = some (.int .i64 zs[8 * row + k]) := fun W h => (h.cell _).trans (HAT.out _ hzl)
              have hlz := hlz' wr hbz
              have hol : 8 * j + row < (partL C zs row j k).length := by rw [partL_len]; omega
              have hlo' : ∀ W, Blk W go 27 (bv (partL C zs row j k)) → W.cell? ⟨go, 8 * j + row, none⟩ = some (.int .i64 (alongAt C zs j row k)) := fun W h => (h.cell _).trans (by rw [bv_at _ _ hol, partL_at C zs row j k hlr hlj hol])
              have hlo := hlo' wr hbo
              have hfr := hbo.frozen (8 * j + row)
              obtain ⟨z1, z2⟩ := HZB.out _ (List.getElem_mem hzl)
              obtain ⟨c1, c2⟩ := HCB.out j k hlj hlk
              obtain ⟨m1, m2⟩ := term_bd _ _ M 4096 hM z1 z2 c1 c2
              obtain ⟨s1, s2⟩ := HBD.out j row k hlj hk
              have HS := hid_ (alongAt_succ C zs j row k)
              have HD : Hid (zs.getD (8 * row + k) 0 = zs[8 * row + k]) := hid_ (by simp [hzl])
              clear z1 z2 c1 c2
              generalize C j k = c at *
              generalize alongAt C zs j row k = s at *
              generalize zs[8 * row + k] = z at *
              go_wp2_with fail
              have step : ∀ W, (Ext w W ∧ Blk W gz 27 cz ∧ Blk W go 27 (bv (partL C zs row j k))) → Calls Try.prog gf (#[.int .i64 (j : Nat), .int .i64 (k : Nat)] ++ #[]) W fun e w' => e = .returned (.int .i64 c) ∧ (Ext w w' ∧ Blk w' gz 27 cz ∧ Blk w' go 27 (bv (partL C zs row j k))) :=
                fun W ⟨h1, h2, h3⟩ => (hcall.out W).mono fun e w' ⟨he, hx⟩ => ⟨he, h1.trans hx, h2.ext hx, h3.ext hx⟩
              refine wp_region_quiet_last (C := fun W => Ext w W ∧ Blk W gz 27 cz ∧ Blk W go 27 (bv (partL C zs row j k))) rfl (by kernel_rfl) rfl rfl (by kernel_rfl) (by kernel_rfl) (by kernel_rfl) ⟨hx.drew, hbz.drew, hbo.drew⟩ (fun opsq => ?_)
              simp only [List.dropLast_cons_cons, List.dropLast_singleton]
              refine q_move rfl _ rfl (.int .i64 (j : Int)) rfl ?_
              simp only [Act.put, List.setIfInBounds_toArray, List.set_cons_succ, List.set_cons_zero]
              refine q_binOp rfl .mul 3 _ _ _ rfl (.int .i64 8) (.int .i64 (j : Int)) rfl rfl (.int .i64 ((8 * j : Nat) : Int)) (guardI _ _ _ _ _) (run_mulI _ _ _ (by rw [IntWalk.i64_in _ (by omega)]; omega)) ?_
              simp only [Act.put, List.setIfInBounds_toArray, List.set_cons_succ, List.set_cons_zero]
              refine q_move rfl _ rfl (.int .i64 (row : Int)) rfl ?_
              simp only [Act.put, List.setIfInBounds_toArray, List.set_cons_succ, List.set_cons_zero]
              refine q_binOp rfl .add 3 _ _ _ rfl (.int .i64 ((8 * j : Nat) : Int)) (.int .i64 (row : Int)) rfl rfl (.int .i64 ((8 * j + row : Nat) : Int)) (guardI _ _ _ _ _) (run_addI _ _ _ (by rw [IntWalk.i64_in _ (by omega)]; omega)) ?_
              simp only [Act.put, List.setIfInBounds_toArray, List.set_cons_succ, List.set_cons_zero]
              refine q_addr rfl 27 _ _ rfl (.pointer (some ⟨go, 0, none⟩)) (.int .i64 ((8 * j + row : Nat) : Int)) rfl rfl (.pointer (some ⟨go, 8 * j + row, none⟩)) (run_indexI _ _ (by omega)) ?_
              simp only [Act.put, List.setIfInBounds_toArray, List.set_cons_succ, List.set_cons_zero]
              refine q_load rfl 3 _ rfl (.pointer (some ⟨go, 8 * j + row, none⟩)) rfl (.int .i64 s) (fun W hW => run_loadI W _ _ (hlo' W hW.2.2)) ?_
              simp only [Act.put, List.setIfInBounds_toArray, List.set_cons_succ, List.set_cons_zero]
              refine q_move rfl _ rfl (.int .i64 (row : Int)) rfl ?_
              simp only [Act.put, List.setIfInBounds_toArray, List.set_cons_succ, List.set_cons_zero]
              refine q_binOp rfl .mul 3 _ _ _ rfl (.int .i64 8) (.int .i64 (row : Int)) rfl rfl (.int .i64 ((8 * row : Nat) : Int)) (guardI _ _ _ _ _) (run_mulI _ _ _ (by rw [IntWalk.i64_in _ (by omega)]; omega)) ?_
              simp only [Act.put, List.setIfInBounds_toArray, List.set_cons_succ, List.set_cons_zero]
              refine q_move rfl _ rfl (.int .i64 (k : Int)) rfl ?_
              simp only [Act.put, List.setIfInBounds_toArray, List.set_cons_succ, List.set_cons_zero]
              refine q_binOp rfl .add 3 _ _ _ rfl (.int .i64 ((8 * row : Nat) : Int)) (.int .i64 (k : Int)) rfl rfl (.int .i64 ((8 * row + k : Nat) : Int)) (guardI _ _ _ _ _) (run_addI _ _ _ (by rw [IntWalk.i64_in _ (by omega)]; omega)) ?_
              simp only [Act.put, List.setIfInBounds_toArray, List.set_cons_succ, List.set_cons_zero]
              refine q_addr rfl 27 _ _ rfl (.pointer (some ⟨gz, 0, none⟩)) (.int .i64 ((8 * row + k : Nat) : Int)) rfl rfl (.pointer (some ⟨gz, 8 * row + k, none⟩)) (run_indexI _ _ (by omega)) ?_
              simp only [Act.put, List.setIfInBounds_toArray, List.set_cons_succ, List.set_cons_zero]
              refine q_load rfl 3 _ rfl (.pointer (some ⟨gz, 8 * row + k, none⟩)) rfl (.int .i64 z) (fun W hW => run_loadI W _ _ (hlz' W hW.2.1)) ?_
              simp only [Act.put, List.setIfInBounds_toArray, List.set_cons_succ, List.set_cons_zero]
              refine q_move rfl _ rfl (.func (.func gf) #[] #[]) rfl ?_
              simp only [Act.put, List.setIfInBounds_toArray, List.set_cons_succ, List.set_cons_zero]
              refine q_move rfl _ rfl (.int .i64 (j : Int)) rfl ?_
              simp only [Act.put, List.setIfInBounds_toArray, List.set_cons_succ, List.set_cons_zero]
              refine q_move rfl _ rfl (.int .i64 (k : Int)) rfl ?_
              simp only [Act.put, List.setIfInBounds_toArray, List.set_cons_succ, List.set_cons_zero]
              refine q_callV rfl gf _ _ _ rfl rfl HEG.out #[.int .i64 (j : Int), .int .i64 (k : Int)] (by simp [Act.eval]) (.int .i64 c) step ?_
              simp only [Act.put, List.setIfInBounds_toArray, List.set_cons_succ, List.set_cons_zero]
              refine q_binOp rfl .mul 3 _ _ _ rfl (.int .i64 z) (.int .i64 c) rfl rfl (.int .i64 (z * c)) (guardI _ _ _ _ _) (run_mulI _ _ _ (IntWalk.i64_in _ (by omega))) ?_
              simp only [Act.put, List.setIfInBounds_toArray, List.set_cons_succ, List.set_cons_zero]
              refine q_binOp rfl .add 3 _ _ _ rfl (.int .i64 s) (.int .i64 (z * c)) rfl rfl (.int .i64 (s + z * c)) (guardI _ _ _ _ _) (run_addI _ _ _ (IntWalk.i64_in _ (by omega))) ?_
              simp only [Act.put, List.setIfInBounds_toArray, List.set_cons_succ, List.set_cons_zero]
              refine q_addr rfl 27 _ _ rfl (.pointer (some ⟨go, 0, none⟩)) (.int .i64 ((8 * j + row : Nat) : Int)) rfl rfl (.pointer (some ⟨go, 8 * j + row, none⟩)) (run_indexI _ _ (by omega)) ?_
              simp only [Act.put, List.setIfInBounds_toArray, List.set_cons_succ, List.set_cons_zero]
              refine wpQuiet_nil ?_
              clear hx hbz hbo hlo hlz hfr
              intro w6 hw6
              obtain ⟨hx, hbz, hbo⟩ := hw6
              have hlo := hlo' w6 hbo
              have hfr := hbo.frozen (8 * j + row)
              refine wp_storeI _ _ rfl ⟨go, 8 * j + row, none⟩ (s + z * c) rfl rfl _ hlo hfr ?_
              simp only [Act.put, List.setIfInBounds_toArray, List.set_cons_succ, List.set_cons_zero]
              clear step hlo' hlz'
              go_wp2_with fail
              go_roundw
              case rel =>
                refine ⟨k + 1, by omega, by go_num, hbz.far (p := ⟨go, 8 * j + row, none⟩) (by simpa using hne.symm) _, ?_, hx.setCell (by omega) _⟩
                have := hbo.set_ (8 * j + row) (.int .i64 (s + z * c))
                rw [bv_set] at this
                have e := partL_set C zs row j k hlr hlj
                rw [HS.out, HD.out] at e
                rw [e] at this
                exact this
              case measure => simp [intOf]; omega
            · obtain rfl : k = 8 := by omega
              rw [partL_place] at hbo
              go_wp2_with fail
              go_roundw
              case rel => exact ⟨j + 1, by omega, by go_num, hbz, hbo, hx⟩
              case measure => simp [intOf]; omega
        · obtain rfl : j = 8 := by omega
          rw [partL_row] at hbo
          go_wp2_with fail
          go_roundw
          case rel => exact ⟨row + 1, by omega, by go_num, hbz, hbo, hx⟩
          case measure => simp [intOf]; omega
    · obtain rfl : row = 8 := by omega
      rw [partL_end] at hbo
      have hs : Hid ((bv (alongZ C zs)).size = 64) := hid_ (by rw [bv_size, alongZ_len])
      have ho := hid_ (bv_one (alongZ C zs))
      generalize hcr : bv (alongZ C zs) = cr at *
      have HC := hid_ hcr
      clear hcr
      go_wp2_with (first
        | (refine wpList_load_blk rfl 27 (.tmp 4) rfl _ rfl hbo _ Try.underlying27 rfl 64 size48 hs.out ?_)
        | (refine wpList_store_blk rfl 27 (.tmp 4) (.tmp 39) rfl _ _ rfl rfl hbo 64 size48 hs.out hs.out ho.out ?_; intro w7 hb7 hg7))
      exact ret_cell rfl rfl _ rfl hb7 _ Try.underlying27 rfl 64 size48 hs.out ⟨by rw [HC.out], hx.grown hg7 hgo'⟩
end Go.Proofs.Ytpkaimpidhcoiaa
