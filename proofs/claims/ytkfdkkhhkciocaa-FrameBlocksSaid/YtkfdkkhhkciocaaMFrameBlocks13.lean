/- Contracts for the law FrameBlocks, part 13: what the functions that it reaches answer, for all arguments that the theorems name. -/
import Derived.Test.YtkfdkkhhkciocaaMFrameBlocks12
import Derived.Test.YtkfdkkhhkciocaaMFrameBlocks4
import Derived.Deep.Cut
import Derived.Test.YtkfdkkhhkciocaaMFrameBlocks2
import Derived.Test.YtkfdkkhhkciocaaMFrameBlocks3
/- PlaneCut of the reference: the good case. -/
namespace Go.Proofs.Ytkfdkkhhkciocaa
set_option linter.unusedVariables false
set_option linter.unusedSimpArgs false
open Go.RowKit
theorem cut_step (Z : List Int) (m : Nat) (h : (m + 1) * 64 ≤ Z.length) : Z.take (m * 64) ++ (Z.drop (m * 64)).take 64 = Z.take ((m + 1) * 64) := by
  rw [show (m + 1) * 64 = m * 64 + 64 by omega, List.take_add]
theorem cutAt_xy (xs : List Int) (wd hi Y X j : Nat) (hX : X < (wd + 7) / 8) : cutAt xs wd hi (Y * ((wd + 7) / 8) + X) j = xs.getD (wd * min (Y * 8 + j / 8) (hi - 1) + min (X * 8 + j % 8) (wd - 1)) 0 - 128 := by
  unfold cutAt
  have h0 : 0 < (wd + 7) / 8 := by omega
  rw [Nat.add_comm (Y * _) X, Nat.add_mul_div_right _ _ h0, Nat.add_mul_mod_self_right, Nat.div_eq_of_lt hX, Nat.mod_eq_of_lt hX, Nat.zero_add, Nat.mul_comm wd]
set_option maxRecDepth 20000 in
set_option maxHeartbeats 2000000 in
theorem rcut_good (xs : List Int) (v : Value) (wd hi : Nat) (w : World) (hv : SL w 1 v xs.length (ints xs)) (h0 : sidesZ wd hi = 0) (a1 : 1 ≤ wd) (a2 : wd ≤ 64) (b1 : 1 ≤ hi) (b2 : hi ≤ 64) (h : xs.length = wd * hi) (hq : allIn xs 0 255 = true) :
    Calls Try.prog 56 #[v, .int .i64 wd, .int .i64 hi] w fun e w' => ∃ A c, e = .returned (.tuple #[.slice A (cutN wd hi) c, .int .i64 0]) ∧ SL w' 64 (.slice A (cutN wd hi) c) (cutN wd hi) (ints (cutZ xs wd hi)) ∧ Ext w w' ∧ ∀ ad, A = some ad → w.heap.size ≤ ad.block := by
  have HK := hid_ (fun W => sidesCheck_any wd hi W)
  rw [h0] at HK
  clear h0
  have HQ := hid_ hq
  clear hq
  have hm : wd * hi ≤ 64 * 64 := Nat.mul_le_mul a2 b2
  have hw1 : IntKind.i64.wrap ((wd : Int) * (hi : Int)) = (wd : Int) * (hi : Int) := by rw [← Int.natCast_mul]; exact IntWalk.i64_in _ (by omega)
  have hne : ((xs.length : Int) != (wd : Int) * (hi : Int)) = false := by rw [← Int.natCast_mul]; simp; omega
  have HXL := hid_ h
  have hv' := hv
  obtain ⟨A, c, rfl, hc1, hc2, -, -⟩ := hv'
  clear h hm
  obtain ⟨NX, hNX⟩ : ∃ NX, NX = (wd + 7) / 8 := ⟨_, rfl⟩
  obtain ⟨NY, hNY⟩ : ∃ NY, NY = (hi + 7) / 8 := ⟨_, rfl⟩
  have hNX1 : (NX - 1) * 8 < wd := by omega
  have hNX2 : wd ≤ NX * 8 := by omega
  have hNX8 : NX ≤ 8 := by omega
  have hNY1 : (NY - 1) * 8 < hi := by omega
  have hNY2 : hi ≤ NY * 8 := by omega
  have hNY8 : NY ≤ 8 := by omega
  have HN : Hid (cutN wd hi = NX * NY) := hid_ (by rw [hNX, hNY]; rfl)
  have HNX := hid_ hNX
  clear hNX hNY
  have HZL : Hid ((cutZ xs wd hi).length = NX * NY * 64) := hid_ (by rw [cutZ_len, HN.out])
  have HAT : Hid (∀ Y X j : Nat, X < NX → j < 64 → (Y * NX + X) * 64 + j < NX * NY * 64 → (cutZ xs wd hi)[(Y * NX + X) * 64 + j]? = some (xs.getD (wd * min (Y * 8 + j / 8) (hi - 1) + min (X * 8 + j % 8) (wd - 1)) 0 - 128)) := hid_ (fun Y X j hX hj hl => by
    rw [cutZ_at xs wd hi (Y * NX + X) j hj (by rw [HN.out]; exact hl)]
    have e := HNX.out
    subst e
    rw [cutAt_xy xs wd hi Y X j hX])
  rw [HN.out]
  generalize hZ : cutZ xs wd hi = Z at *
  clear hZ
  have hinf : SL w 64 (.slice none 0 0) 0 (ints (Z.take (0 * 64))) := SL.nil w 64
  go_enter Try.func56, Try.ntmps56
  go_wp2_with (go_at_call 95; (with_reducible refine (HK.out _).mono ?_); rintro e w3 ⟨rfl, rfl⟩)
  go_loop [30] (fun i => ∃ k : Nat, k ≤ xs.length ∧ i = .int .i64 (k : Int)) (fun i => xs.length - (intOf i).toNat)
  case atStart => exact ⟨0, by omega, rfl⟩
  case round =>
    obtain ⟨k, hk, rfl⟩ := hrel
    by_cases hlt : k < xs.length
    · obtain ⟨ad, u, rfl, -, hxk, hcell⟩ := hv.at1 hlt
      obtain ⟨hkl, rfl⟩ := ints_at _ _ _ hxk
      clear hxk
      have HI : Hid (inB xs[k] 0 255 = true) := hid_ (inB_iff.2 (allIn_iff.1 HQ.out _ (List.getElem_mem hkl)))
      have HOUT := hid_ (fun W => outside_any xs[k] 0 255 W)
      rw [HI.out] at HOUT
      go_wp2_with (go_at_call 28; (with_reducible refine (HOUT.out _).mono ?_); rintro e w' ⟨rfl, rfl⟩)
      go_round
      case rel => exact ⟨k + 1, by omega, by go_num⟩
      case measure => simp [intOf]; omega
    · have emk : k = xs.length := by omega
      rw [emk]
      clear emk hlt hk
      go_wp2_with fail
      go_loopw [11, 12] (fun v y wr => ∃ Y y0 m : Nat, Y ≤ NY ∧ Hid (y0 = Y * 8) ∧ y0 ≤ 64 ∧ Hid (m = Y * NX) ∧ m ≤ 64 ∧ y = .int .i64 ((y0 : Nat) : Int) ∧ wr.ownsRow w.heap.size 24 64 v m (ints (Z.take (m * 64))) ∧ Ext w wr) (fun _ y _ => NY * 8 - (intOf y).toNat)
      case atStart => exact ⟨0, 0, 0, by omega, hid_ rfl, by omega, hid_ (by omega), by omega, rfl, by simpa [ints] using own_nil w _ _ 64, Ext.refl w⟩
      case round =>
        obtain ⟨Y, y0, m0, hY, HY0, hy64, HM0, hm64, rfl, hown, hx⟩ := hrel
        by_cases hlt : Y < NY
        · have hylt : y0 < hi := by have := HY0.out; omega
          go_wp2_with fail
          go_loopw [11, 13] (fun v x wr => ∃ X x0 m : Nat, X ≤ NX ∧ Hid (x0 = X * 8) ∧ x0 ≤ 64 ∧ Hid (m = Y * NX + X) ∧ m ≤ 64 ∧ x = .int .i64 ((x0 : Nat) : Int) ∧ wr.ownsRow w.heap.size 24 64 v m (ints (Z.take (m * 64))) ∧ Ext w wr) (fun _ x _ => NX * 8 - (intOf x).toNat)
          case atStart => exact ⟨0, 0, m0, by omega, hid_ rfl, by omega, hid_ (by rw [HM0.out]; rfl), hm64, rfl, hown, hx⟩
          case round =>
            clear hown hx
            obtain ⟨X, x0, m, hX, HX0, hx64, HM, hm64', rfl, hown, hx⟩ := hrel
            by_cases hltx : X < NX
            · have hxlt : x0 < wd := by have := HX0.out; omega
              have hmn : m + 1 ≤ NX * NY := by
                have := HM.out
                have h1 : (Y + 1) * NX ≤ NY * NX := Nat.mul_le_mul_right _ (by omega)
                rw [Nat.mul_comm NX NY]
                rw [Nat.add_mul] at h1
                omega
              have hmz : (m + 1) * 64 ≤ Z.length := by rw [HZL.out]; exact Nat.mul_le_mul_right 64 hmn
              have hm63 : m < 64 := by have : NX * NY ≤ 8 * 8 := Nat.mul_le_mul hNX8 hNY8; omega
              have HB : Hid (((Z.drop (m * 64)).take 64).length = 64) := hid_ (by simp; omega)
              have HBE : Hid (Z.take (m * 64) ++ (Z.drop (m * 64)).take 64 = Z.take ((m + 1) * 64)) := hid_ (cut_step Z m hmz)
              have HBA : Hid (∀ j : Nat, j < 64 → ((Z.drop (m * 64)).take 64)[j]? = some (xs.getD (wd * min (y0 + j / 8) (hi - 1) + min (x0 + j % 8) (wd - 1)) 0 - 128)) := hid_ (fun j hj => by
                rw [List.getElem?_take_of_lt hj, List.getElem?_drop, HM.out, HY0.out, HX0.out]
                exact HAT.out Y X j hltx hj (by rw [← HM.out]; omega))
              generalize (Z.drop (m * 64)).take 64 = B at *
              clear hmn hmz
              have HZ0 := hid_ zero48
              go_wp2_with (refine wpList_alloc_abs' rfl (some 14) rfl 24 rfl _ HZ0.out ?_; intro w4 g hb4 hx4 hg)
              have hb40 : Blk w4 g 24 (bv (midZ B 0)) := by rw [midZ_zero, HB.out]; exact hb4
              clear hb4
              go_loopw [47] (fun i w5 => ∃ j : Nat, j ≤ 64 ∧ i = .int .i64 (j : Int) ∧ Blk w5 g 24 (bv (midZ B j)) ∧ Ext wr w5) (fun i _ => 64 - (intOf i).toNat)
              case atStart => exact ⟨0, by omega, rfl, hb40, hx4⟩
              case round =>
                clear hb40 hx4
                obtain ⟨j, hj, rfl, hb5, hx5⟩ := hrel
                by_cases hltj : j < 64
                · have hpl := cut_place wd hi (y0 + j / 8) (x0 + j % 8) a1 b1
                  rw [Nat.mul_comm] at hpl
                  have hm1 : wd * min (y0 + j / 8) (hi - 1) ≤ 64 * 64 := Nat.mul_le_mul a2 (by omega)
                  obtain ⟨p, hpx⟩ : ∃ p, wd * min (y0 + j / 8) (hi - 1) + min (x0 + j % 8) (wd - 1) = p := ⟨_, rfl⟩
                  have hp : p < xs.length := by have := HXL.out; omega
                  obtain ⟨ad, u, had, hadb, hxp, hcell⟩ := (hv.ext (hx.trans hx5)).at1 hp
                  obtain ⟨hpl', rfl⟩ := ints_at _ _ _ hxp
                  have hzb := allIn_iff.1 HQ.out _ (List.getElem_mem hpl')
                  have hval : B[j]? = some (xs[p] - 128) := by
                    rw [HBA.out j hltj, hpx, List.getD_eq_getElem?_getD, List.getElem?_eq_getElem hpl']
                    rfl
                  generalize xs[p] = z at *
                  have HPX := hid_ hpx
                  have HV := hid_ hval
                  rw [← Nat.mul_one p] at hcell
                  have hc1' := hcell
                  clear hpx hval hxp hcell hpl
                  subst had
                  have HSZ : Hid (j < (bv (midZ B j)).size) := hid_ (by rw [bv_size, midZ_len _ _ (by rw [HB.out]; omega), HB.out]; omega)
                  go_upto_region 23 with fail
                  refine wp_region_lit ?_
                  refine wl_run rfl (.int .i64 ((j : Nat) : Int)) (ex_move rfl rfl) ?_
                  simp only [Act.put, List.setIfInBounds_toArray, List.set_cons_succ, List.set_cons_zero]
                  refine wl_run rfl (.slice (some ad) xs.length c) (ex_move rfl rfl) ?_
                  simp only [Act.put, List.setIfInBounds_toArray, List.set_cons_succ, List.set_cons_zero]
                  refine wl_run rfl (.int .i64 ((wd : Nat) : Int)) (ex_move rfl rfl) ?_
                  simp only [Act.put, List.setIfInBounds_toArray, List.set_cons_succ, List.set_cons_zero]
                  refine wl_run rfl (.int .i64 ((y0 : Nat) : Int)) (ex_move rfl rfl) ?_
                  simp only [Act.put, List.setIfInBounds_toArray, List.set_cons_succ, List.set_cons_zero]
                  refine wl_run rfl (.int .i64 ((j : Nat) : Int)) (ex_move rfl rfl) ?_
                  simp only [Act.put, List.setIfInBounds_toArray, List.set_cons_succ, List.set_cons_zero]
                  refine wl_run rfl (.int .i64 ((j / 8 : Nat) : Int)) (ex_quoN (i := j) (d := 8) rfl rfl rfl (by omega) (by omega)) ?_
                  simp only [Act.put, List.setIfInBounds_toArray, List.set_cons_succ, List.set_cons_zero]
                  refine wl_run rfl (.int .i64 ((y0 + (j / 8) : Nat) : Int)) (ex_addN (i := y0) (d := j / 8) rfl rfl rfl (by omega)) ?_
                  simp only [Act.put, List.setIfInBounds_toArray, List.set_cons_succ, List.set_cons_zero]
                  refine wl_run rfl (.int .i64 ((hi : Nat) : Int)) (ex_move rfl rfl) ?_
                  simp only [Act.put, List.setIfInBounds_toArray, List.set_cons_succ, List.set_cons_zero]
                  refine wl_run rfl (.int .i64 ((hi - 1 : Nat) : Int)) (ex_subN (i := hi) (d := 1) rfl rfl rfl (by omega) (by omega)) ?_
                  simp only [Act.put, List.setIfInBounds_toArray, List.set_cons_succ, List.set_cons_zero]
                  refine wl_run rfl (.int .i64 ((min (y0 + (j / 8)) (hi - 1) : Nat) : Int)) (ex_minN (i := y0 + (j / 8)) (d := hi - 1) rfl rfl rfl) ?_
                  simp only [Act.put, List.setIfInBounds_toArray, List.set_cons_succ, List.set_cons_zero]
                  refine wl_run rfl (.int .i64 ((wd * (min (y0 + (j / 8)) (hi - 1)) : Nat) : Int)) (ex_mulN (i := wd) (d := min (y0 + (j / 8)) (hi - 1)) rfl rfl rfl (by omega)) ?_
                  simp only [Act.put, List.setIfInBounds_toArray, List.set_cons_succ, List.set_cons_zero]
                  refine wl_run rfl (.int .i64 ((x0 : Nat) : Int)) (ex_move rfl rfl) ?_
                  simp only [Act.put, List.setIfInBounds_toArray, List.set_cons_succ, List.set_cons_zero]
                  refine wl_run rfl (.int .i64 ((j : Nat) : Int)) (ex_move rfl rfl) ?_
                  simp only [Act.put, List.setIfInBounds_toArray, List.set_cons_succ, List.set_cons_zero]
                  refine wl_run rfl (.int .i64 ((j % 8 : Nat) : Int)) (ex_remN (i := j) (d := 8) rfl rfl rfl (by omega) (by omega)) ?_
                  simp only [Act.put, List.setIfInBounds_toArray, List.set_cons_succ, List.set_cons_zero]
                  refine wl_run rfl (.int .i64 ((x0 + (j % 8) : Nat) : Int)) (ex_addN (i := x0) (d := j % 8) rfl rfl rfl (by omega)) ?_
                  simp only [Act.put, List.setIfInBounds_toArray, List.set_cons_succ, List.set_cons_zero]
                  refine wl_run rfl (.int .i64 ((wd : Nat) : Int)) (ex_move rfl rfl) ?_
                  simp only [Act.put, List.setIfInBounds_toArray, List.set_cons_succ, List.set_cons_zero]
                  refine wl_run rfl (.int .i64 ((wd - 1 : Nat) : Int)) (ex_subN (i := wd) (d := 1) rfl rfl rfl (by omega) (by omega)) ?_
                  simp only [Act.put, List.setIfInBounds_toArray, List.set_cons_succ, List.set_cons_zero]
                  refine wl_run rfl (.int .i64 ((min (x0 + (j % 8)) (wd - 1) : Nat) : Int)) (ex_minN (i := x0 + (j % 8)) (d := wd - 1) rfl rfl rfl) ?_
                  simp only [Act.put, List.setIfInBounds_toArray, List.set_cons_succ, List.set_cons_zero]
                  refine wl_run rfl (.int .i64 ((p : Nat) : Int)) (by rw [← HPX.out]; exact ex_addN (i := wd * (min (y0 + (j / 8)) (hi - 1))) (d := min (x0 + (j % 8)) (wd - 1)) rfl rfl rfl (by omega)) ?_
                  simp only [Act.put, List.setIfInBounds_toArray, List.set_cons_succ, List.set_cons_zero]
                  refine wl_run rfl (.pointer (some (ad.add (p * 1)))) (ex_ixSl Try.underlying30 sizeI rfl rfl rfl hp) ?_
                  simp only [Act.put, List.setIfInBounds_toArray, List.set_cons_succ, List.set_cons_zero]
                  refine wl_read rfl (.int .i64 z) (ex_loadI rfl rfl hc1') ?_
                  simp only [Act.put, List.setIfInBounds_toArray, List.set_cons_succ, List.set_cons_zero]
                  refine wl_run rfl (.int .i64 (z - (((128 : Nat) : Int)))) (ex_subI (i := z) (d := ((128 : Nat) : Int)) rfl rfl rfl (by omega)) ?_
                  simp only [Act.put, List.setIfInBounds_toArray, List.set_cons_succ, List.set_cons_zero]
                  refine wl_run rfl (.pointer (some ⟨g, 0 + j * 1, none⟩)) (ex_ixArrG Try.underlying24 sizeI rfl rfl rfl hltj) ?_
                  simp only [Act.put, List.setIfInBounds_toArray, List.set_cons_succ, List.set_cons_zero]
                  refine wl_storeI rfl (.tmp 72) (.tmp 71) rfl g (0 + j * 1) (z - 128) rfl rfl hb5 (by rw [Nat.zero_add, Nat.mul_one]; exact HSZ.out) ?_
                  simp only [Act.put, List.setIfInBounds_toArray, List.set_cons_succ, List.set_cons_zero]
                  rw [show 0 + j * 1 = j by omega]
                  have hb9 := hb5.set_ j (.int .i64 (z - 128))
                  rw [bv_set, midZ_set B j (z - 128) HV.out] at hb9
                  have hx9 := hx5.setCell (p := ⟨g, j, none⟩) hg (.int .i64 (z - 128))
                  go_wp2_with fail
                  go_roundw
                  case rel => exact ⟨j + 1, by omega, by go_num, hb9, hx9⟩
                  case measure => simp [intOf]; omega
                · have ej : j = 64 := by omega
                  rw [ej] at hb5
                  rw [ej]
                  rw [← HB.out, midZ_all] at hb5
                  have HBS : Hid ((bv B).size = 64) := hid_ (by rw [bv_size, HB.out])
                  go_wp2_with (first
                    | (refine wpList_load_blk rfl 24 (.tmp 14) rfl _ rfl hb5 _ Try.underlying24 rfl 64 size48 HBS.out ?_)
                    | (refine wpList_lit1 rfl 29 24 (.tmp 75) rfl (some 76) rfl Try.underlying29 64 size48 zero48' (.agg (bv B)) rfl HBS.out (by omega) (by omega) ?_; intro w8 g8 hb8 hx8 hg8)
                    | (at_builtin; go_must (refine wpList_append_sl elt_blk rfl _ _ rfl w.heap.size _ _ _ rfl (own_keep hown (hx5.trans hx8)) _ 1 (ints B) rfl (blk_sl1 hb8 HB.out) (ints_one_mem B) (by omega) (by omega) (by have := hx.size; have := hx5.size; have := hx8.size; omega) ?_); intro v' w9 hown9 hb9)
                    | (refine wl_run rfl (.int .i64 ((x0 + 8 : Nat) : Int)) (ex_addN (i := x0) (d := 8) rfl rfl rfl (by omega)) ?_))
                  go_roundw
                  case rel =>
                    refine ⟨X + 1, x0 + 8, m + 1, by omega, hid_ (by rw [HX0.out]; omega), by have := HX0.out; omega, hid_ (by rw [HM.out]; omega), by omega, rfl, ?_, ((hx.trans hx5).trans hx8).trans' hb9⟩
                    rw [← HBE.out, ints_app]
                    exact hown9
                  case measure => have := HX0.out; simp [intOf]; omega
            · have eX : X = NX := by omega
              have hge : wd ≤ x0 := by have := HX0.out; omega
              go_wp2_with (refine wl_run rfl (.int .i64 ((y0 + 8 : Nat) : Int)) (ex_addN (i := y0) (d := 8) rfl rfl rfl (by omega)) ?_)
              go_roundw
              case rel =>
                refine ⟨Y + 1, y0 + 8, m, by omega, hid_ (by rw [HY0.out]; omega), by have := HY0.out; omega, hid_ (by rw [HM.out, eX, Nat.add_mul]; omega), hm64', rfl, hown, hx⟩
              case measure => have := HY0.out; simp [intOf]; omega
        · have eY : Y = NY := by omega
          have hge : hi ≤ y0 := by have := HY0.out; omega
          have emn : m0 = NX * NY := by rw [HM0.out, eY, Nat.mul_comm]
          rw [emn] at hown
          go_wp2_with fail
          go_ret2
          obtain ⟨A', c', rfl, hsl, hfs⟩ := own_form hown
          refine ⟨A', c', rfl, ?_, hx, hfs⟩
          rw [← HZL.out, List.take_length] at hsl
          exact hsl
end Go.Proofs.Ytkfdkkhhkciocaa
/- plane.Cut and PlaneCut of the reference: one contract each, for all arguments. -/
namespace Go.Proofs.Ytkfdkkhhkciocaa
set_option linter.unusedVariables false
set_option linter.unusedSimpArgs false
open Go.RowKit
def cutRN (xs : List Int) (wd hi : Int) : Nat := if cutE xs wd hi = 0 then cutN wd.toNat hi.toNat else 0
def cutRZ (xs : List Int) (wd hi : Int) : List Int := if cutE xs wd hi = 0 then cutZ xs wd.toNat hi.toNat else []
theorem cutRZ_len (xs : List Int) (wd hi : Int) : (cutRZ xs wd hi).length = cutRN xs wd hi * 64 := by
  unfold cutRZ cutRN
  split
  · exact cutZ_len _ _ _
  · rfl
/-- what Cut answers -/
def CutIs (xs : List Int) (wd hi : Int) (w : World) (e : Ending) (w' : World) : Prop :=
  ∃ A c, e = .returned (.tuple #[.slice A (cutRN xs wd hi) c, .int .i64 (cutE xs wd hi)]) ∧ SL w' 64 (.slice A (cutRN xs wd hi) c) (cutRN xs wd hi) (ints (cutRZ xs wd hi)) ∧ Ext w w'
theorem cut_err {xs : List Int} {wd hi : Int} {w w' : World} {e : Ending} {k : Int} (hk : cutE xs wd hi = k) (h0 : k ≠ 0) (h : e = .returned (.tuple #[.slice none 0 0, .int .i64 k]) ∧ Ext w w') : CutIs xs wd hi w e w' := by
  have hn : cutRN xs wd hi = 0 := by unfold cutRN; rw [if_neg (by rw [hk]; exact h0)]
  have hz : cutRZ xs wd hi = [] := by unfold cutRZ; rw [if_neg (by rw [hk]; exact h0)]
  unfold CutIs
  rw [hn, hz, hk]
  exact ⟨none, 0, h.1, SL.nil _ _, h.2⟩
theorem cut_cases (xs : List Int) (wd hi : Int) : (sidesZ wd hi ≠ 0 ∧ cutE xs wd hi = 1) ∨ ∃ a b : Nat, wd = (a : Int) ∧ hi = (b : Int) ∧ 1 ≤ a ∧ a ≤ 64 ∧ 1 ≤ b ∧ b ≤ 64 ∧ sidesZ wd hi = 0 ∧
    ((xs.length ≠ a * b ∧ cutE xs wd hi = 4) ∨ (xs.length = a * b ∧ allIn xs 0 255 = false ∧ cutE xs wd hi = 1) ∨ (xs.length = a * b ∧ allIn xs 0 255 = true ∧ cutE xs wd hi = 0)) := by
  by_cases h : sidesZ wd hi = 0
  · right
    obtain ⟨a, b, ha, hb, h1, h2, h3, h4⟩ := sides_ok h
    refine ⟨a, b, ha, hb, h1, h2, h3, h4, h, ?_⟩
    unfold cutE
    rw [if_pos h]
    subst ha hb
    by_cases hl : xs.length = a * b
    · rw [if_pos (by rw [hl]; push_cast; rfl)]
      cases hq : allIn xs 0 255 with
      | false => exact .inr (.inl ⟨hl, rfl, by simp⟩)
      | true => exact .inr (.inr ⟨hl, rfl, by simp⟩)
    · rw [if_neg (fun he => hl (by exact_mod_cast he))]
      exact .inl ⟨hl, rfl⟩
  · left
    refine ⟨h, ?_⟩
    unfold cutE
    rw [if_neg h]
theorem cut_any (xs : List Int) (v : Value) (wd hi : Int) (w : World) (hv : SL w 1 v xs.length (ints xs)) : Calls Try.prog 50 #[v, .int .i64 wd, .int .i64 hi] w (CutIs xs wd hi w) := by
  rcases cut_cases xs wd hi with ⟨h, hE⟩ | ⟨a, b, rfl, rfl, h1, h2, h3, h4, h0, ⟨hl, hE⟩ | ⟨hl, hq, hE⟩ | ⟨hl, hq, hE⟩⟩
  · exact (cut_sides xs v wd hi w hv h).mono fun e w' h => cut_err hE (by decide) h
  · exact (cut_long xs v a b w hv h0 h2 h4 hl).mono fun e w' h => cut_err hE (by decide) h
  · exact (cut_out xs v a b w hv h0 h2 h4 hl hq).mono fun e w' h => cut_err hE (by decide) h
  · refine (cut_good xs v a b w hv h0 h1 h2 h3 h4 hl hq).mono fun e w' ⟨g, he, hb, hx, hfr⟩ => ?_
    have hn : cutRN xs a b = cutN a b := by unfold cutRN; rw [if_pos hE]; rfl
    have hz : cutRZ xs a b = cutZ xs a b := by unfold cutRZ; rw [if_pos hE]; rfl
    unfold CutIs
    rw [hn, hz, hE]
    refine ⟨some ⟨g, 0, none⟩, _, he, ?_, hx⟩
    have hc : cutN a b ≤ 8 * 8 := Nat.mul_le_mul (by omega) (by omega)
    have := hb.sl (size := 64) (n := cutN a b) (c := cutN a b) (by rw [bv_size, cutZ_len]) (by omega) (by omega)
    simpa [bv] using this
theorem rcut_any (xs : List Int) (v : Value) (wd hi : Int) (w : World) (hv : SL w 1 v xs.length (ints xs)) : Calls Try.prog 56 #[v, .int .i64 wd, .int .i64 hi] w (CutIs xs wd hi w) := by
  rcases cut_cases xs wd hi with ⟨h, hE⟩ | ⟨a, b, rfl, rfl, h1, h2, h3, h4, h0, ⟨hl, hE⟩ | ⟨hl, hq, hE⟩ | ⟨hl, hq, hE⟩⟩
  · exact (rcut_sides xs v wd hi w hv h).mono fun e w' h => cut_err hE (by decide) h
  · exact (rcut_long xs v a b w hv h0 h2 h4 hl).mono fun e w' h => cut_err hE (by decide) h
  · exact (rcut_out xs v a b w hv h0 h2 h4 hl hq).mono fun e w' h => cut_err hE (by decide) h
  · refine (rcut_good xs v a b w hv h0 h1 h2 h3 h4 hl hq).mono fun e w' ⟨A, c, he, hb, hx, hfr⟩ => ?_
    have hn : cutRN xs a b = cutN a b := by unfold cutRN; rw [if_pos hE]; rfl
    have hz : cutRZ xs a b = cutZ xs a b := by unfold cutRZ; rw [if_pos hE]; rfl
    unfold CutIs
    rw [hn, hz, hE]
    exact ⟨A, c, he, hb, hx⟩
/-- as CutIs, and the blocks lie in new memory -/
def CutFr (xs : List Int) (wd hi : Int) (w : World) (e : Ending) (w' : World) : Prop :=
  ∃ A c, e = .returned (.tuple #[.slice A (cutRN xs wd hi) c, .int .i64 (cutE xs wd hi)]) ∧ SL w' 64 (.slice A (cutRN xs wd hi) c) (cutRN xs wd hi) (ints (cutRZ xs wd hi)) ∧ Ext w w' ∧ ∀ ad, A = some ad → w.heap.size ≤ ad.block
theorem cut_errF {xs : List Int} {wd hi : Int} {w w' : World} {e : Ending} {k : Int} (hk : cutE xs wd hi = k) (h0 : k ≠ 0) (h : e = .returned (.tuple #[.slice none 0 0, .int .i64 k]) ∧ Ext w w') : CutFr xs wd hi w e w' := by
  have hn : cutRN xs wd hi = 0 := by unfold cutRN; rw [if_neg (by rw [hk]; exact h0)]
  have hz : cutRZ xs wd hi = [] := by unfold cutRZ; rw [if_neg (by rw [hk]; exact h0)]
  unfold CutFr
  rw [hn, hz, hk]
  exact ⟨none, 0, h.1, SL.nil _ _, h.2, fun _ h => by cases h⟩
theorem cut_anyF (xs : List Int) (v : Value) (wd hi : Int) (w : World) (hv : SL w 1 v xs.length (ints xs)) : Calls Try.prog 50 #[v, .int .i64 wd, .int .i64 hi] w (CutFr xs wd hi w) := by
  rcases cut_cases xs wd hi with ⟨h, hE⟩ | ⟨a, b, rfl, rfl, h1, h2, h3, h4, h0, ⟨hl, hE⟩ | ⟨hl, hq, hE⟩ | ⟨hl, hq, hE⟩⟩
  · exact (cut_sides xs v wd hi w hv h).mono fun e w' h => cut_errF hE (by decide) h
  · exact (cut_long xs v a b w hv h0 h2 h4 hl).mono fun e w' h => cut_errF hE (by decide) h
  · exact (cut_out xs v a b w hv h0 h2 h4 hl hq).mono fun e w' h => cut_errF hE (by decide) h
  · refine (cut_good xs v a b w hv h0 h1 h2 h3 h4 hl hq).mono fun e w' ⟨g, he, hb, hx, hfr⟩ => ?_
    have hn : cutRN xs a b = cutN a b := by unfold cutRN; rw [if_pos hE]; rfl
    have hz : cutRZ xs a b = cutZ xs a b := by unfold cutRZ; rw [if_pos hE]; rfl
    unfold CutFr
    rw [hn, hz, hE]
    refine ⟨some ⟨g, 0, none⟩, _, he, ?_, hx, fun ad h => by injection h with h; subst h; exact hfr⟩
    have hc : cutN a b ≤ 8 * 8 := Nat.mul_le_mul (by omega) (by omega)
    have := hb.sl (size := 64) (n := cutN a b) (c := cutN a b) (by rw [bv_size, cutZ_len]) (by omega) (by omega)
    simpa [bv] using this
theorem rcut_anyF (xs : List Int) (v : Value) (wd hi : Int) (w : World) (hv : SL w 1 v xs.length (ints xs)) : Calls Try.prog 56 #[v, .int .i64 wd, .int .i64 hi] w (CutFr xs wd hi w) := by
  rcases cut_cases xs wd hi with ⟨h, hE⟩ | ⟨a, b, rfl, rfl, h1, h2, h3, h4, h0, ⟨hl, hE⟩ | ⟨hl, hq, hE⟩ | ⟨hl, hq, hE⟩⟩
  · exact (rcut_sides xs v wd hi w hv h).mono fun e w' h => cut_errF hE (by decide) h
  · exact (rcut_long xs v a b w hv h0 h2 h4 hl).mono fun e w' h => cut_errF hE (by decide) h
  · exact (rcut_out xs v a b w hv h0 h2 h4 hl hq).mono fun e w' h => cut_errF hE (by decide) h
  · refine (rcut_good xs v a b w hv h0 h1 h2 h3 h4 hl hq).mono fun e w' ⟨A, c, he, hb, hx, hfr⟩ => ?_
    have hn : cutRN xs a b = cutN a b := by unfold cutRN; rw [if_pos hE]; rfl
    have hz : cutRZ xs a b = cutZ xs a b := by unfold cutRZ; rw [if_pos hE]; rfl
    unfold CutFr
    rw [hn, hz, hE]
    exact ⟨A, c, he, hb, hx, hfr⟩
end Go.Proofs.Ytkfdkkhhkciocaa
/- samples of the reference. -/
namespace Go.Proofs.Ytkfdkkhhkciocaa
set_option linter.unusedVariables false
set_option linter.unusedSimpArgs false
open Go.RowKit
set_option maxRecDepth 20000 in
set_option maxHeartbeats 1000000 in
theorem samples_any (xs : List Int) (v : Value) (w : World) (hv : SL w 1 v xs.length (ints xs)) :
    Calls Try.prog 96 #[v] w fun e w' => e = .returned (.bool (allIn xs 0 255)) ∧ Ext w w' := by
  have hv' := hv
  obtain ⟨A, c, rfl, hc1, hc2, -, -⟩ := hv'
  go_enter Try.func96, Try.ntmps96
  go_wp2_with fail
  go_loop [7] (fun i => ∃ k : Nat, k ≤ xs.length ∧ i = .int .i64 (k : Int) ∧ ∀ z ∈ xs.take k, 0 ≤ z ∧ z ≤ 255) (fun i => xs.length - (intOf i).toNat)
  case atStart => exact ⟨0, by omega, rfl, by simp⟩
  case round =>
    obtain ⟨k, hk, rfl, hin⟩ := hrel
    have HIN := hid_ hin
    clear hin
    by_cases hlt : k < xs.length
    · obtain ⟨ad, u, rfl, -, hxk, hcell⟩ := hv.at1 hlt
      obtain ⟨hkl, rfl⟩ := ints_at _ _ _ hxk
      clear hxk
      cases hq : inB xs[k] 0 255 with
      | true =>
        have HN := hid_ (allIn_take HIN.out hkl (inB_iff.1 hq))
        go_wp2_with (go_at_call 28; refine (outside_any _ _ _ _).mono ?_; rintro e w' ⟨rfl, rfl⟩)
        go_round
        case rel => exact ⟨k + 1, by omega, by go_num, HN.out⟩
        case measure => simp [intOf]; omega
      | false =>
        have HNO : Hid (allIn xs 0 255 = false) := hid_ (by
          rw [← Bool.not_eq_true]
          intro h
          have := allIn_iff.1 h _ (List.getElem_mem hkl)
          have h2 := inB_not.1 hq
          omega)
        go_wp2_with (go_at_call 28; refine (outside_any _ _ _ _).mono ?_; rintro e w' ⟨rfl, rfl⟩)
        go_ret
        rw [HNO.out]
        exact ⟨rfl, Ext.refl _⟩
    · have emk : k = xs.length := by omega
      have HYES : Hid (allIn xs 0 255 = true) := hid_ (allIn_iff.2 fun z hz => HIN.out z (by rw [emk, List.take_length]; exact hz))
      rw [emk]
      go_wp2_with fail
      go_ret
      rw [HYES.out]
      exact ⟨rfl, Ext.refl _⟩
end Go.Proofs.Ytkfdkkhhkciocaa
/- Pictures: lists of lists of integers in memory; what Check answers. -/
namespace Go.Proofs.Ytkfdkkhhkciocaa
set_option linter.unusedVariables false
set_option linter.unusedSimpArgs false
open Go.RowKit
/-- the first error of a list of them -/
def firstE : List Int → Int
  | [] => 0
  | e :: r => if e = 0 then firstE r else e
theorem firstE_all : ∀ (l : List Int), (∀ e ∈ l, e = 0) → firstE l = 0
  | [], _ => rfl
  | e :: r, h => by
    have := h e (by simp)
    unfold firstE
    rw [if_pos this]
    exact firstE_all r (fun x hx => h x (by simp [hx]))
theorem firstE_at : ∀ (l : List Int) (k : Nat) (e : Int), (∀ x ∈ l.take k, x = 0) → l[k]? = some e → e ≠ 0 → firstE l = e
  | [], k, e, _, h, _ => by simp at h
  | x :: r, 0, e, _, h, h0 => by
    simp at h
    subst h
    unfold firstE
    rw [if_neg h0]
  | x :: r, k + 1, e, ht, h, h0 => by
    have hx : x = 0 := ht x (by simp)
    unfold firstE
    rw [if_pos hx]
    exact firstE_at r k e (fun y hy => ht y (by simp [hy])) (by simpa using h) h0
/-- the errno of Check -/
def picE (wd hi : Int) (L : List (List Int)) : Int := if sidesZ wd hi = 0 then (if L.length = 1 ∨ L.length = 3 then firstE (L.map fun l => cutE l wd hi) else 1) else 1
def picV (wd hi : Int) (v : Value) : Array Value := #[.int .i64 wd, .int .i64 hi, v]
theorem picV_size (wd hi : Int) (v : Value) : (picV wd hi v).size = 3 := rfl
theorem sizePic : (Try.prog.info? 53).map (·.size) = some 3 := by kernel_rfl
theorem pic_cells {w : World} {g : Nat} {T : TypeId} {wd hi : Int} {v : Value} (h : Blk w g T (picV wd hi v)) : w.cell? ⟨g, 0, none⟩ = some (.int .i64 wd) ∧ w.cell? ⟨g, 1, none⟩ = some (.int .i64 hi) ∧ w.cell? ⟨g, 2, none⟩ = some v := by
  rw [h.cell, h.cell, h.cell]
  exact ⟨rfl, rfl, rfl⟩
theorem take_all0 {L : List (List Int)} {f : List Int → Int} {k : Nat} {l : List Int} (h : ∀ x ∈ L.take k, f x = 0) (hl : L[k]? = some l) (h0 : f l = 0) : ∀ x ∈ L.take (k + 1), f x = 0 := by
  intro x hx
  rw [List.take_add_one, hl] at hx
  rcases List.mem_append.1 hx with h1 | h1
  · exact h x h1
  · simp at h1; subst h1; exact h0
theorem pic_first {L : List (List Int)} {f : List Int → Int} {k : Nat} {l : List Int} {e : Int} (h : ∀ x ∈ L.take k, f x = 0) (hl : L[k]? = some l) (he : f l = e) (h0 : e ≠ 0) : firstE (L.map f) = e :=
  firstE_at _ k _ (fun y hy => by
    rw [← List.map_take] at hy
    obtain ⟨x, hx, rfl⟩ := List.mem_map.1 hy
    exact h x hx) (by rw [List.getElem?_map, hl]; simp [he]) h0
end Go.Proofs.Ytkfdkkhhkciocaa
/- frame.Check. -/
namespace Go.Proofs.Ytkfdkkhhkciocaa
set_option linter.unusedVariables false
set_option linter.unusedSimpArgs false
open Go.RowKit
set_option maxRecDepth 20000 in
set_option maxHeartbeats 1000000 in
theorem fchk_sides (wd hi : Int) (L : List (List Int)) (A : Option Addr) (n c : Nat) (w : World) (hr : RowsS w A n c L) (h : sidesZ wd hi ≠ 0) :
    Calls Try.prog 21 #[.agg (picV wd hi (.slice A n c))] w fun e w' => e = .returned (.int .i64 1) ∧ Ext w w' := by
  have HM := hid_ (fun W => Many_any wd hi W)
  rw [sides_no h] at HM
  clear h
  have HC := hid_ (fun W g (h : Blk W g 53 (picV wd hi (.slice A n c))) => pic_cells h)
  generalize picV wd hi (.slice A n c) = pv at *
  generalize manyZ wd hi = mz at *
  go_enter Try.func21, Try.ntmps21
  go_wp2_with (first
    | (refine wpList_box_abs rfl 53 (.tmp 0) rfl pv rfl ?_; intro w1 g hb1 hx1 hg; obtain ⟨c0, c1, c2⟩ := HC.out _ _ hb1)
    | (go_at_call 59; (with_reducible refine (HM.out _).mono ?_); rintro e w2 ⟨rfl, hx2⟩; have hb2 := hb1.ext hx2; have hx12 := hx1.trans hx2; clear c0 c1 c2; obtain ⟨d0, d1, d2⟩ := HC.out _ _ hb2))
  go_ret
  exact ⟨rfl, hx12⟩
set_option maxRecDepth 20000 in
set_option maxHeartbeats 1000000 in
theorem fchk_parts (wd hi : Int) (L : List (List Int)) (A : Option Addr) (n c : Nat) (w : World) (hr : RowsS w A n c L) (h0 : sidesZ wd hi = 0) (h : ¬ (L.length = 1 ∨ L.length = 3)) :
    Calls Try.prog 21 #[.agg (picV wd hi (.slice A n c))] w fun e w' => e = .returned (.int .i64 1) ∧ Ext w w' := by
  have HM := hid_ (fun W => Many_any wd hi W)
  rw [h0] at HM
  clear h0
  have HC := hid_ (fun W g (h : Blk W g 53 (picV wd hi (.slice A n c))) => pic_cells h)
  rw [hr.len] at h
  have hn1 : ((n : Int) != 1) = true := by simp; omega
  have hn3 : ((n : Int) != 3) = true := by simp; omega
  clear h
  generalize picV wd hi (.slice A n c) = pv at *
  generalize manyZ wd hi = mz at *
  go_enter Try.func21, Try.ntmps21
  go_wp2_with (first
    | (refine wpList_box_abs rfl 53 (.tmp 0) rfl pv rfl ?_; intro w1 g hb1 hx1 hg; obtain ⟨c0, c1, c2⟩ := HC.out _ _ hb1)
    | (go_at_call 59; (with_reducible refine (HM.out _).mono ?_); rintro e w2 ⟨rfl, hx2⟩; have hb2 := hb1.ext hx2; have hx12 := hx1.trans hx2; clear c0 c1 c2; obtain ⟨d0, d1, d2⟩ := HC.out _ _ hb2))
  go_ret
  exact ⟨rfl, hx12⟩
set_option maxRecDepth 20000 in
set_option maxHeartbeats 2000000 in
theorem fchk_in1 (wd hi : Int) (L : List (List Int)) (A : Option Addr) (n c : Nat) (w : World) (hr : RowsS w A n c L) (h0 : sidesZ wd hi = 0) (h : n = 1) :
    Calls Try.prog 21 #[.agg (picV wd hi (.slice A n c))] w fun e w' => e = .returned (.int .i64 (firstE (L.map fun l => cutE l wd hi))) ∧ Ext w w' := by
  have HM := hid_ (fun W => Many_any wd hi W)
  rw [h0] at HM
  clear h0
  have HC := hid_ (fun W g (h : Blk W g 53 (picV wd hi (.slice A n c))) => pic_cells h)
  have hn1 : ((n : Int) != 1) = false := by simp; omega
  have hn9 : n ≤ 3 := by omega
  have HL := hid_ hr.len
  clear h
  have HCUT := hid_ (fun W v l (hv : SL W 1 v l.length (ints l)) => cut_any l v wd hi W hv)
  unfold CutIs at HCUT
  generalize manyZ wd hi = mz at *
  generalize picV wd hi (.slice A n c) = pv at *
  go_enter Try.func21, Try.ntmps21
  go_wp2_with (first
    | (refine wpList_box_abs rfl 53 (.tmp 0) rfl pv rfl ?_; intro w1 g hb1 hx1 hg; obtain ⟨c0, c1, c2⟩ := HC.out _ _ hb1)
    | (go_at_call 59; (with_reducible refine (HM.out _).mono ?_); rintro e w2 ⟨rfl, hx2⟩; have hb2 := hb1.ext hx2; have hx12 := hx1.trans hx2; clear c0 c1 c2; obtain ⟨d0, d1, d2⟩ := HC.out _ _ hb2))
  clear d0 d1 d2
  go_loopw [33] (fun i wr => ∃ (k : Nat), k ≤ n ∧ i = .int .i64 (k : Int) ∧ Hid (∀ x ∈ L.take k, cutE x wd hi = 0) ∧ Blk wr g 53 pv ∧ Ext w wr) (fun i _ => n - (intOf i).toNat)
  case atStart => exact ⟨0, by omega, rfl, hid_ (by simp), hb2, hx12⟩
  case round =>
    clear hb2 hx12
    obtain ⟨k, hk, rfl, HT, hb, hx⟩ := hrel
    by_cases hlt : k < n
    · obtain ⟨ad, l, B, d, rfl, hl, hab, hcell, hsl⟩ := (hr.ext hx).get hlt
      have HLK := hid_ hl
      obtain ⟨d0, d1, d2⟩ := HC.out _ _ hb
      clear hl
      have HCU := hid_ (HCUT.out wr _ l hsl)
      by_cases hz : cutE l wd hi = 0
      · have HZ := hid_ hz
        rw [hz] at HCU
        clear hz
        generalize cutRN l wd hi = rn at *
        go_wp2_with (go_at_call 50; (with_reducible refine (HCU.out).mono ?_); rintro e w4 ⟨A4, c4, rfl, hs4, hx4⟩)
        go_roundw
        case rel => exact ⟨k + 1, by omega, by go_num, hid_ (take_all0 HT.out HLK.out HZ.out), hb.ext hx4, hx.trans hx4⟩
        case measure => simp [intOf]; omega
      · have hz2 : (cutE l wd hi != 0) = true := by simpa using hz
        have HF := hid_ (pic_first HT.out HLK.out rfl hz)
        generalize cutE l wd hi = ce at *
        generalize cutRN l wd hi = rn at *
        clear hz
        go_wp2_with (go_at_call 50; (with_reducible refine (HCU.out).mono ?_); rintro e w4 ⟨A4, c4, rfl, hs4, hx4⟩)
        go_ret
        rw [HF.out]
        exact ⟨rfl, hx.trans hx4⟩
    · have ek : k = n := by omega
      have HF : Hid (firstE (L.map fun l => cutE l wd hi) = 0) := hid_ (firstE_all _ (fun y hy => by
        obtain ⟨x, hx, rfl⟩ := List.mem_map.1 hy
        exact HT.out x (by rw [ek, ← HL.out, List.take_length]; exact hx)))
      go_wp2_with fail
      go_ret
      rw [HF.out]
      exact ⟨rfl, hx⟩
set_option maxRecDepth 20000 in
set_option maxHeartbeats 2000000 in
theorem fchk_in3 (wd hi : Int) (L : List (List Int)) (A : Option Addr) (n c : Nat) (w : World) (hr : RowsS w A n c L) (h0 : sidesZ wd hi = 0) (h : n = 3) :
    Calls Try.prog 21 #[.agg (picV wd hi (.slice A n c))] w fun e w' => e = .returned (.int .i64 (firstE (L.map fun l => cutE l wd hi))) ∧ Ext w w' := by
  have HM := hid_ (fun W => Many_any wd hi W)
  rw [h0] at HM
  clear h0
  have HC := hid_ (fun W g (h : Blk W g 53 (picV wd hi (.slice A n c))) => pic_cells h)
  have hn1 : ((n : Int) != 1) = true := by simp; omega
  have hn3 : ((n : Int) != 3) = false := by simp; omega
  have hn9 : n ≤ 3 := by omega
  have HL := hid_ hr.len
  clear h
  have HCUT := hid_ (fun W v l (hv : SL W 1 v l.length (ints l)) => cut_any l v wd hi W hv)
  unfold CutIs at HCUT
  generalize manyZ wd hi = mz at *
  generalize picV wd hi (.slice A n c) = pv at *
  go_enter Try.func21, Try.ntmps21
  go_wp2_with (first
    | (refine wpList_box_abs rfl 53 (.tmp 0) rfl pv rfl ?_; intro w1 g hb1 hx1 hg; obtain ⟨c0, c1, c2⟩ := HC.out _ _ hb1)
    | (go_at_call 59; (with_reducible refine (HM.out _).mono ?_); rintro e w2 ⟨rfl, hx2⟩; have hb2 := hb1.ext hx2; have hx12 := hx1.trans hx2; clear c0 c1 c2; obtain ⟨d0, d1, d2⟩ := HC.out _ _ hb2))
  clear d0 d1 d2
  go_loopw [33] (fun i wr => ∃ (k : Nat), k ≤ n ∧ i = .int .i64 (k : Int) ∧ Hid (∀ x ∈ L.take k, cutE x wd hi = 0) ∧ Blk wr g 53 pv ∧ Ext w wr) (fun i _ => n - (intOf i).toNat)
  case atStart => exact ⟨0, by omega, rfl, hid_ (by simp), hb2, hx12⟩
  case round =>
    clear hb2 hx12
    obtain ⟨k, hk, rfl, HT, hb, hx⟩ := hrel
    by_cases hlt : k < n
    · obtain ⟨ad, l, B, d, rfl, hl, hab, hcell, hsl⟩ := (hr.ext hx).get hlt
      have HLK := hid_ hl
      obtain ⟨d0, d1, d2⟩ := HC.out _ _ hb
      clear hl
      have HCU := hid_ (HCUT.out wr _ l hsl)
      by_cases hz : cutE l wd hi = 0
      · have HZ := hid_ hz
        rw [hz] at HCU
        clear hz
        generalize cutRN l wd hi = rn at *
        go_wp2_with (go_at_call 50; (with_reducible refine (HCU.out).mono ?_); rintro e w4 ⟨A4, c4, rfl, hs4, hx4⟩)
        go_roundw
        case rel => exact ⟨k + 1, by omega, by go_num, hid_ (take_all0 HT.out HLK.out HZ.out), hb.ext hx4, hx.trans hx4⟩
        case measure => simp [intOf]; omega
      · have hz2 : (cutE l wd hi != 0) = true := by simpa using hz
        have HF := hid_ (pic_first HT.out HLK.out rfl hz)
        generalize cutE l wd hi = ce at *
        generalize cutRN l wd hi = rn at *
        clear hz
        go_wp2_with (go_at_call 50; (with_reducible refine (HCU.out).mono ?_); rintro e w4 ⟨A4, c4, rfl, hs4, hx4⟩)
        go_ret
        rw [HF.out]
        exact ⟨rfl, hx.trans hx4⟩
    · have ek : k = n := by omega
      have HF : Hid (firstE (L.map fun l => cutE l wd hi) = 0) := hid_ (firstE_all _ (fun y hy => by
        obtain ⟨x, hx, rfl⟩ := List.mem_map.1 hy
        exact HT.out x (by rw [ek, ← HL.out, List.take_length]; exact hx)))
      go_wp2_with fail
      go_ret
      rw [HF.out]
      exact ⟨rfl, hx⟩
theorem fchk_any (wd hi : Int) (L : List (List Int)) (A : Option Addr) (n c : Nat) (w : World) (hr : RowsS w A n c L) :
    Calls Try.prog 21 #[.agg (picV wd hi (.slice A n c))] w fun e w' => e = .returned (.int .i64 (picE wd hi L)) ∧ Ext w w' := by
  unfold picE
  by_cases h0 : sidesZ wd hi = 0
  · rw [if_pos h0]
    by_cases h : L.length = 1 ∨ L.length = 3
    · rw [if_pos h]
      rw [hr.len] at h
      rcases h with h | h
      · exact fchk_in1 wd hi L A n c w hr h0 h
      · exact fchk_in3 wd hi L A n c w hr h0 h
    · rw [if_neg h]
      exact fchk_parts wd hi L A n c w hr h0 h
  · rw [if_neg h0]
    exact fchk_sides wd hi L A n c w hr h0
end Go.Proofs.Ytkfdkkhhkciocaa
