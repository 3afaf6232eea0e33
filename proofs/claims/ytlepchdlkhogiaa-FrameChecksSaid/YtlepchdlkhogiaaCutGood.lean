/- plane.Cut: the good case. -/
import Derived.Test.YtlepchdlkhogiaaCutBad
import Derived.Test.YtlepchdlkhogiaaCutMath
import Derived.Test.YtlepchdlkhogiaaMakeBlocks
import Derived.Test.YtlepchdlkhogiaaDraw
namespace Go.Proofs.Ytlepchdlkhogiaa
set_option linter.unusedVariables false
set_option linter.unusedSimpArgs false
open Go.RowKit
set_option maxRecDepth 20000 in
set_option maxHeartbeats 2000000 in
theorem cut_good (xs : List Int) (v : Value) (wd hi : Nat) (w : World) (hv : SL w 1 v xs.length (ints xs)) (h0 : sidesZ wd hi = 0) (a1 : 1 ≤ wd) (a2 : wd ≤ 64) (b1 : 1 ≤ hi) (b2 : hi ≤ 64) (h : xs.length = wd * hi) (hq : allIn xs 0 255 = true) :
    Calls Try.prog 10 #[v, .int .i64 wd, .int .i64 hi] w fun e w' => ∃ g, e = .returned (.tuple #[.slice (some ⟨g, 0, none⟩) (cutN wd hi) (cutN wd hi), .int .i64 0]) ∧ Blk w' g 31 (bv (cutZ xs wd hi)) ∧ Ext w w' := by
  have HK := hid_ (fun W => areaCheck_any wd hi W)
  rw [h0] at HK
  clear h0
  have HCF := hid_ (fun W (hs : SL W 1 v xs.length (ints xs)) => containsFunc_any 33 #[] (fun z => !inB z 0 255) enters_cut1 v xs W hs (fun z _ => cut1_any z W))
  simp only [inB_any, hq] at HCF
  have HQ := hid_ hq
  clear hq
  have HM := hid_ (fun W => many_any wd hi W a1 a2 b1 b2)
  have HP : Hid (∀ k j, k < 64 → j < 64 → ∃ r q : Nat, Hid (r = k / ((wd + 7) / 8) * 8 + j / 8 ∧ q = k % ((wd + 7) / 8) * 8 + j % 8) ∧ ∀ W, Calls Try.prog 35 #[.agg (areaV wd hi), .int .i64 (k : Int), .int .i64 (j : Int)] W fun e w' =>
      e = .returned (.tuple #[.int .i64 ((r : Nat) : Int), .int .i64 ((q : Nat) : Int)]) ∧ Ext W w') := hid_ fun k j hk hj => ⟨_, _, hid_ ⟨rfl, rfl⟩, fun W => place_any wd hi k j W a1 a2 hk hj⟩
  have hm : wd * hi ≤ 64 * 64 := Nat.mul_le_mul a2 b2
  have hw1 : IntKind.i64.wrap ((wd : Int) * (hi : Int)) = (wd : Int) * (hi : Int) := by rw [← Int.natCast_mul]; exact IntWalk.i64_in _ (by omega)
  have hne : ((xs.length : Int) != (wd : Int) * (hi : Int)) = false := by rw [← Int.natCast_mul]; simp; omega
  have hbv : #[Value.int .i64 wd, Value.int .i64 hi] = areaV wd hi := rfl
  have hts := hid_ (areaV_size wd hi)
  have ho := hid_ (areaV_one wd hi)
  have hn64 : cutN wd hi ≤ 64 := by have : (wd + 7) / 8 * ((hi + 7) / 8) ≤ 8 * 8 := Nat.mul_le_mul (by omega) (by omega); exact this
  have hcn : (wd + 7) / 8 * ((hi + 7) / 8) = cutN wd hi := rfl
  rw [hcn] at HM
  clear hcn
  have HZL := hid_ (cutZ_len xs wd hi)
  have HXL := hid_ h
  generalize areaV wd hi = av at *
  have hv' := hv
  obtain ⟨A, c, rfl, hc1, hc2, -, -⟩ := hv'
  clear h hm
  generalize hn : cutN wd hi = n at *
  have HN := hid_ hn
  clear hn
  go_enter Try.func10, Try.ntmps10
  go_wp2_with (first
    | (refine wpList_alloc_abs' rfl (some 8) rfl 69 rfl _ zeroArea ?_; intro w1 g hb1 hx1 hg)
    | (refine wpList_store_blk rfl 69 (.tmp 8) (.tmp 17) rfl _ _ rfl rfl hb1 2 sizeArea hts.out rfl ho.out ?_; intro w2 hb2 hg2; have hx2 := hx1.grown hg2 (by omega))
    | (refine wpList_load_blk rfl 69 (.tmp 8) rfl _ rfl hb2 _ Try.underlying69 rfl 2 sizeArea hts.out ?_)
    | (go_at_call 31; (with_reducible refine (HK.out _).mono ?_); rintro e w3 ⟨rfl, hx3⟩; have hx23 := hx2.trans hx3; have hb3 := hb2.ext hx3)
    | (go_at_call 32; (with_reducible refine (HCF.out _ (hv.ext hx23)).mono ?_); rintro e w4 ⟨rfl, rfl⟩)
    | (refine wpList_load_blk rfl 69 (.tmp 8) rfl _ rfl hb3 _ Try.underlying69 rfl 2 sizeArea hts.out ?_)
    | (go_at_call 34; (with_reducible refine (HM.out _).mono ?_); rintro e w5 ⟨rfl, hx5⟩; have hb5 := hb3.ext hx5; have hx35 := hx23.trans hx5)
    | (refine wpList_makeBlocks rfl (some 36) rfl _ _ rfl n (by omega) rfl rfl ?_; intro w6 gz hbz hx6 hgz; have hb6 := hb5.ext hx6; have hx36 := hx35.trans hx6))
  have hgz0 : w.heap.size ≤ gz := by have := hx35.size; omega
  have hbz0 : Blk w6 gz 31 (bv (midZ (cutZ xs wd hi) 0)) := by rw [midZ_zero, HZL.out]; exact hbz
  generalize hZ : cutZ xs wd hi = Z at *
  have HZ := hid_ hZ
  clear hZ hbz hb2 hb3 hb5 hx1 hx2 hx3 hx5 hx6 hx23 hx35 hg2
  go_loopw [39] (fun i wr => ∃ k : Nat, k ≤ n ∧ i = .int .i64 (k : Int) ∧ Blk wr gz 31 (bv (midZ Z (k * 64))) ∧ Blk wr g 69 av ∧ Ext w wr) (fun i _ => n - (intOf i).toNat)
  case atStart => exact ⟨0, by omega, rfl, hbz0, hb6, hx36⟩
  case round =>
    clear hbz0 hb6 hx36
    obtain ⟨k, hk, rfl, hbo, hba, hxo⟩ := hrel
    by_cases hlt : k < n
    · go_wp2_with fail
      go_loopw [42] (fun i wr => ∃ j : Nat, j ≤ 64 ∧ i = .int .i64 (j : Int) ∧ Blk wr gz 31 (bv (midZ Z (k * 64 + j))) ∧ Blk wr g 69 av ∧ Ext w wr) (fun i _ => 64 - (intOf i).toNat)
      case atStart => exact ⟨0, by omega, rfl, hbo, hba, hxo⟩
      case round =>
        clear hbo hba hxo
        obtain ⟨j, hj, rfl, hbi, hbj, hxi⟩ := hrel
        by_cases hlj : j < 64
        · obtain ⟨r, q, HRQ, hcall⟩ := HP.out k j (by omega) hlj
          have HCALL := hid_ hcall
          clear hcall
          go_wp2_with (first
            | (refine wpList_load_blk rfl 69 (.tmp 8) rfl _ rfl hbj _ Try.underlying69 rfl 2 sizeArea hts.out ?_)
            | (go_at_call 35; (with_reducible refine (HCALL.out _).mono ?_); rintro e w7 ⟨rfl, hx7⟩; have hbi7 := hbi.ext hx7; have hbj7 := hbj.ext hx7; have hxi7 := hxi.trans hx7))
          have hpl := cut_place wd hi r q a1 b1
          have hm1 : min r (hi - 1) * wd ≤ 64 * 64 := Nat.mul_le_mul (by omega) a2
          obtain ⟨p, hpx⟩ : ∃ p, min r (hi - 1) * wd + min q (wd - 1) = p := ⟨_, rfl⟩
          have hp : p < xs.length := by have := HXL.out; omega
          obtain ⟨ad, u, rfl, hadb, hxp, hcell⟩ := hv.at1 hp
          obtain ⟨hpl', rfl⟩ := ints_at _ _ _ hxp
          have hzb := allIn_iff.1 HQ.out _ (List.getElem_mem hpl')
          have hval : cutAt xs wd hi k j = xs[p] - 128 := by
            unfold cutAt
            rw [← HRQ.out.1, ← HRQ.out.2, hpx, List.getD_eq_getElem?_getD, List.getElem?_eq_getElem hpl']
            rfl
          generalize xs[p] = z at *
          have hx7' := hxi7.drew
          have hcz : ∀ W, Ext w7.drew W → W.cell? (ad.add (p * 1)) = some (.int .i64 z) := fun W hW => by
            rw [Nat.mul_one, ((hx7'.trans hW).cell (p := ad.add p) (by rw [block_of_add]; exact hadb))]
            exact hcell
          refine wp_region_lxt later_ext 20 (by kernel_rfl) (by kernel_rfl) ?_
          simp only [List.take, List.drop]
          refine lx_run (by rfl) (.slice (some ⟨gz, 0, none⟩) n n) (ex_move rfl rfl) ?_
          simp only [Act.put, List.setIfInBounds_toArray, List.set_cons_succ, List.set_cons_zero]
          refine lx_run (by rfl) (.int .i64 ((k : Nat) : Int)) (ex_move rfl rfl) ?_
          simp only [Act.put, List.setIfInBounds_toArray, List.set_cons_succ, List.set_cons_zero]
          refine lx_run (by rfl) (.int .i64 ((j : Nat) : Int)) (ex_move rfl rfl) ?_
          simp only [Act.put, List.setIfInBounds_toArray, List.set_cons_succ, List.set_cons_zero]
          refine lx_run (by rfl) (.slice (some ad) xs.length c) (ex_move rfl rfl) ?_
          simp only [Act.put, List.setIfInBounds_toArray, List.set_cons_succ, List.set_cons_zero]
          refine lx_run (by rfl) (.int .i64 ((r : Nat) : Int)) (ex_move rfl rfl) ?_
          simp only [Act.put, List.setIfInBounds_toArray, List.set_cons_succ, List.set_cons_zero]
          refine lx_run (by rfl) (.int .i64 ((hi : Nat) : Int)) (ex_move rfl rfl) ?_
          simp only [Act.put, List.setIfInBounds_toArray, List.set_cons_succ, List.set_cons_zero]
          refine lx_run (by rfl) (.int .i64 ((hi - 1 : Nat) : Int)) (ex_subN (i := hi) (d := 1) rfl rfl rfl (by omega) (by omega)) ?_
          simp only [Act.put, List.setIfInBounds_toArray, List.set_cons_succ, List.set_cons_zero]
          refine lx_run (by rfl) (.int .i64 ((min r (hi - 1) : Nat) : Int)) (ex_minN (i := r) (d := hi - 1) rfl rfl rfl) ?_
          simp only [Act.put, List.setIfInBounds_toArray, List.set_cons_succ, List.set_cons_zero]
          refine lx_run (by rfl) (.int .i64 ((wd : Nat) : Int)) (ex_move rfl rfl) ?_
          simp only [Act.put, List.setIfInBounds_toArray, List.set_cons_succ, List.set_cons_zero]
          refine lx_run (by rfl) (.int .i64 (((min r (hi - 1)) * wd : Nat) : Int)) (ex_mulN (i := min r (hi - 1)) (d := wd) rfl rfl rfl (by omega)) ?_
          simp only [Act.put, List.setIfInBounds_toArray, List.set_cons_succ, List.set_cons_zero]
          refine lx_run (by rfl) (.int .i64 ((q : Nat) : Int)) (ex_move rfl rfl) ?_
          simp only [Act.put, List.setIfInBounds_toArray, List.set_cons_succ, List.set_cons_zero]
          refine lx_run (by rfl) (.int .i64 ((wd : Nat) : Int)) (ex_move rfl rfl) ?_
          simp only [Act.put, List.setIfInBounds_toArray, List.set_cons_succ, List.set_cons_zero]
          refine lx_run (by rfl) (.int .i64 ((wd - 1 : Nat) : Int)) (ex_subN (i := wd) (d := 1) rfl rfl rfl (by omega) (by omega)) ?_
          simp only [Act.put, List.setIfInBounds_toArray, List.set_cons_succ, List.set_cons_zero]
          refine lx_run (by rfl) (.int .i64 ((min q (wd - 1) : Nat) : Int)) (ex_minN (i := q) (d := wd - 1) rfl rfl rfl) ?_
          simp only [Act.put, List.setIfInBounds_toArray, List.set_cons_succ, List.set_cons_zero]
          refine lx_run (by rfl) (.int .i64 ((((min r (hi - 1)) * wd) + (min q (wd - 1)) : Nat) : Int)) (ex_addN (i := (min r (hi - 1)) * wd) (d := min q (wd - 1)) rfl rfl rfl (by omega)) ?_
          simp only [Act.put, List.setIfInBounds_toArray, List.set_cons_succ, List.set_cons_zero]
          rw [hpx]
          refine lx_run (by rfl) (.pointer (some (ad.add (p * 1)))) (ex_ixSl Try.underlying22 sizeI rfl rfl rfl hp) ?_
          simp only [Act.put, List.setIfInBounds_toArray, List.set_cons_succ, List.set_cons_zero]
          refine lx_read (by rfl) (.int .i64 z) (fun W hW => ex_loadI rfl rfl (hcz W hW)) ?_
          simp only [Act.put, List.setIfInBounds_toArray, List.set_cons_succ, List.set_cons_zero]
          refine lx_run (by rfl) (.int .i64 (z - (((128 : Nat) : Int)))) (ex_subI (i := z) (d := ((128 : Nat) : Int)) rfl rfl rfl (by omega)) ?_
          simp only [Act.put, List.setIfInBounds_toArray, List.set_cons_succ, List.set_cons_zero]
          refine lx_run (by rfl) (.pointer (some ⟨gz, 0 + k * 64, none⟩)) (ex_ixSlG Try.underlying23 size48 rfl rfl rfl hlt) ?_
          simp only [Act.put, List.setIfInBounds_toArray, List.set_cons_succ, List.set_cons_zero]
          refine lx_run (by rfl) (.pointer (some ⟨gz, 0 + k * 64 + j * 1, none⟩)) (ex_ixArrG Try.underlying31 sizeI rfl rfl rfl hlj) ?_
          simp only [Act.put, List.setIfInBounds_toArray, List.set_cons_succ, List.set_cons_zero]
          refine lx_nil ?_
          intro W hW
          have hbi8 := (hbi7.drew).ext hW
          have hbj8 := (hbj7.drew).ext hW
          have hx8 := hx7'.trans hW
          have hlen : k * 64 + j < (bv (midZ Z (k * 64 + j))).size := by rw [bv_size, midZ_len _ _ (by rw [HZL.out]; omega), HZL.out]; omega
          refine wl_storeI rfl (.tmp 71) (.tmp 69) rfl gz (0 + k * 64 + j * 1) (z - 128) rfl rfl hbi8 (by rw [Nat.zero_add, Nat.mul_one]; exact hlen) ?_
          simp only [Act.put, List.setIfInBounds_toArray, List.set_cons_succ, List.set_cons_zero]
          have hb9 := hbi8.set_ (0 + k * 64 + j * 1) (.int .i64 (z - 128))
          rw [bv_set, Nat.zero_add, Nat.mul_one, midZ_set Z (k * 64 + j) (z - 128) (by rw [← HZ.out, cutZ_at xs wd hi k j hlj (by have := HN.out; omega), hval])] at hb9
          have hb10 := hbj8.far (p := ⟨gz, k * 64 + j, none⟩) (hbi8.ne_ hbj8 (by decide)).symm (.int .i64 (z - 128))
          have hx9 := hx8.setCell (p := ⟨gz, k * 64 + j, none⟩) hgz0 (.int .i64 (z - 128))
          rw [show 0 + k * 64 + j * 1 = k * 64 + j by omega]
          generalize W.setCell ⟨gz, k * 64 + j, none⟩ (.int .i64 (z - 128)) = W9 at *
          go_wp2_with fail
          go_roundw
          case rel => exact ⟨j + 1, by omega, by go_num, hb9, hb10, hx9⟩
          case measure => simp [intOf]; omega
        · have ej : j = 64 := by omega
          rw [ej]
          go_wp2_with fail
          go_roundw
          case rel => exact ⟨k + 1, by omega, by go_num, by rw [ej] at hbi; rw [show (k + 1) * 64 = k * 64 + 64 by omega]; exact hbi, hbj, hxi⟩
          case measure => simp [intOf]; omega
    · have ek : k = n := by omega
      rw [ek] at hbo
      rw [ek]
      go_wp2_with fail
      go_ret2
      refine ⟨gz, rfl, ?_, hxo⟩
      rw [← HZL.out, midZ_all] at hbo
      rw [HZ.out]
      exact hbo
end Go.Proofs.Ytlepchdlkhogiaa
