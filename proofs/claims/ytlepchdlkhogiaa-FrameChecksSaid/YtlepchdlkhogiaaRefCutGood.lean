/- PlaneCut of the reference: the good case. -/
import Derived.Test.YtlepchdlkhogiaaRefCutBad
import Derived.Test.YtlepchdlkhogiaaCutMath
import Derived.Test.YtlepchdlkhogiaaBuild1
import Derived.Test.YtlepchdlkhogiaaDraw
import Derived.Deep.Cut
namespace Go.Proofs.Ytlepchdlkhogiaa
set_option linter.unusedVariables false
set_option linter.unusedSimpArgs false
open Go.RowKit
theorem cut_step (Z : List Int) (m : Nat) (h : (m + 1) * 64 ≤ Z.length) : Z.take (m * 64) ++ (Z.drop (m * 64)).take 64 = Z.take ((m + 1) * 64) := by
  rw [show (m + 1) * 64 = m * 64 + 64 by omega, List.take_add]
theorem cutAt_xy (xs : List Int) (wd hi Y X j : Nat) (hX : X < (wd + 7) / 8) : cutAt xs wd hi (Y * ((wd + 7) / 8) + X) j = xs.getD (wd * min (Y * 8 + j / 8) (hi - 1) + min (X * 8 + j % 8) (wd - 1)) 0 - 128 := by
  unfold cutAt
  have h0 : 0 < (wd + 7) / 8 := by omega
  rw [Nat.add_comm (Y * _) X, Nat.add_mul_div_right _ _ h0, Nat.add_mul_mod_self_right, Nat.div_eq_of_lt hX, Nat.mod_eq_of_lt hX, Nat.zero_add, Nat.mul_comm wd]
set_option maxRecDepth 20000 in
set_option maxHeartbeats 2000000 in
theorem rcut_good (xs : List Int) (v : Value) (wd hi : Nat) (w : World) (hv : SL w 1 v xs.length (ints xs)) (h0 : sidesZ wd hi = 0) (a1 : 1 ≤ wd) (a2 : wd ≤ 64) (b1 : 1 ≤ hi) (b2 : hi ≤ 64) (h : xs.length = wd * hi) (hq : allIn xs 0 255 = true) :
    Calls Try.prog 11 #[v, .int .i64 wd, .int .i64 hi] w fun e w' => ∃ A c, e = .returned (.tuple #[.slice A (cutN wd hi) c, .int .i64 0]) ∧ SL w' 64 (.slice A (cutN wd hi) c) (cutN wd hi) (ints (cutZ xs wd hi)) ∧ Ext w w' := by
  have HK := hid_ (fun W => sidesCheck_any wd hi W)
  rw [h0] at HK
  clear h0
  have HQ := hid_ hq
  clear hq
  have hm : wd * hi ≤ 64 * 64 := Nat.mul_le_mul a2 b2
  have hw1 : IntKind.i64.wrap ((wd : Int) * (hi : Int)) = (wd : Int) * (hi : Int) := by rw [← Int.natCast_mul]; exact IntWalk.i64_in _ (by omega)
  have hne : ((xs.length : Int) != (wd : Int) * (hi : Int)) = false := by rw [← Int.natCast_mul]; simp; omega
  have HXL := hid_ h
  have hv' := hv
  obtain ⟨A, c, rfl, hc1, hc2, -, -⟩ := hv'
  clear h hm
  obtain ⟨NX, hNX⟩ : ∃ NX, NX = (wd + 7) / 8 := ⟨_, rfl⟩
  obtain ⟨NY, hNY⟩ : ∃ NY, NY = (hi + 7) / 8 := ⟨_, rfl⟩
  have hNX1 : (NX - 1) * 8 < wd := by omega
  have hNX2 : wd ≤ NX * 8 := by omega
  have hNX8 : NX ≤ 8 := by omega
  have hNY1 : (NY - 1) * 8 < hi := by omega
  have hNY2 : hi ≤ NY * 8 := by omega
  have hNY8 : NY ≤ 8 := by omega
  have HN : Hid (cutN wd hi = NX * NY) := hid_ (by rw [hNX, hNY]; rfl)
  have HNX := hid_ hNX
  clear hNX hNY
  have HZL : Hid ((cutZ xs wd hi).length = NX * NY * 64) := hid_ (by rw [cutZ_len, HN.out])
  have HAT : Hid (∀ Y X j : Nat, X < NX → j < 64 → (Y * NX + X) * 64 + j < NX * NY * 64 → (cutZ xs wd hi)[(Y * NX + X) * 64 + j]? = some (xs.getD (wd * min (Y * 8 + j / 8) (hi - 1) + min (X * 8 + j % 8) (wd - 1)) 0 - 128)) := hid_ (fun Y X j hX hj hl => by
    rw [cutZ_at xs wd hi (Y * NX + X) j hj (by rw [HN.out]; exact hl)]
    have e := HNX.out
    subst e
    rw [cutAt_xy xs wd hi Y X j hX])
  rw [HN.out]
  generalize hZ : cutZ xs wd hi = Z at *
  clear hZ
  have hinf : SL w 64 (.slice none 0 0) 0 (ints (Z.take (0 * 64))) := SL.nil w 64
  go_enter Try.func11, Try.ntmps11
  go_wp2_with (go_at_call 16; (with_reducible refine (HK.out _).mono ?_); rintro e w3 ⟨rfl, rfl⟩)
  go_loop [30] (fun i => ∃ k : Nat, k ≤ xs.length ∧ i = .int .i64 (k : Int)) (fun i => xs.length - (intOf i).toNat)
  case atStart => exact ⟨0, by omega, rfl⟩
  case round =>
    obtain ⟨k, hk, rfl⟩ := hrel
    by_cases hlt : k < xs.length
    · obtain ⟨ad, u, rfl, -, hxk, hcell⟩ := hv.at1 hlt
      obtain ⟨hkl, rfl⟩ := ints_at _ _ _ hxk
      clear hxk
      have HI : Hid (inB xs[k] 0 255 = true) := hid_ (inB_iff.2 (allIn_iff.1 HQ.out _ (List.getElem_mem hkl)))
      have HOUT := hid_ (fun W => outside_any xs[k] 0 255 W)
      rw [HI.out] at HOUT
      go_wp2_with (go_at_call 36; (with_reducible refine (HOUT.out _).mono ?_); rintro e w' ⟨rfl, rfl⟩)
      go_round
      case rel => exact ⟨k + 1, by omega, by go_num⟩
      case measure => simp [intOf]; omega
    · have emk : k = xs.length := by omega
      rw [emk]
      clear emk hlt hk
      go_wp2_with fail
      go_loopw [11, 12] (fun v y wr => ∃ Y y0 m : Nat, Y ≤ NY ∧ Hid (y0 = Y * 8) ∧ y0 ≤ 64 ∧ Hid (m = Y * NX) ∧ m ≤ 64 ∧ y = .int .i64 ((y0 : Nat) : Int) ∧ wr.ownsRow w.heap.size 31 64 v m (ints (Z.take (m * 64))) ∧ Ext w wr) (fun _ y _ => NY * 8 - (intOf y).toNat)
      case atStart => exact ⟨0, 0, 0, by omega, hid_ rfl, by omega, hid_ (by omega), by omega, rfl, by simpa [ints] using own_nil w _ _ 64, Ext.refl w⟩
      case round =>
        obtain ⟨Y, y0, m0, hY, HY0, hy64, HM0, hm64, rfl, hown, hx⟩ := hrel
        by_cases hlt : Y < NY
        · have hylt : y0 < hi := by have := HY0.out; omega
          go_wp2_with fail
          go_loopw [11, 13] (fun v x wr => ∃ X x0 m : Nat, X ≤ NX ∧ Hid (x0 = X * 8) ∧ x0 ≤ 64 ∧ Hid (m = Y * NX + X) ∧ m ≤ 64 ∧ x = .int .i64 ((x0 : Nat) : Int) ∧ wr.ownsRow w.heap.size 31 64 v m (ints (Z.take (m * 64))) ∧ Ext w wr) (fun _ x _ => NX * 8 - (intOf x).toNat)
          case atStart => exact ⟨0, 0, m0, by omega, hid_ rfl, by omega, hid_ (by rw [HM0.out]; rfl), hm64, rfl, hown, hx⟩
          case round =>
            clear hown hx
            obtain ⟨X, x0, m, hX, HX0, hx64, HM, hm64', rfl, hown, hx⟩ := hrel
            by_cases hltx : X < NX
            · have hxlt : x0 < wd := by have := HX0.out; omega
              have hmn : m + 1 ≤ NX * NY := by
                have := HM.out
                have h1 : (Y + 1) * NX ≤ NY * NX := Nat.mul_le_mul_right _ (by omega)
                rw [Nat.mul_comm NX NY]
                rw [Nat.add_mul] at h1
                omega
              have hmz : (m + 1) * 64 ≤ Z.length := by rw [HZL.out]; exact Nat.mul_le_mul_right 64 hmn
              have hm63 : m < 64 := by have : NX * NY ≤ 8 * 8 := Nat.mul_le_mul hNX8 hNY8; omega
              have HB : Hid (((Z.drop (m * 64)).take 64).length = 64) := hid_ (by simp; omega)
              have HBE : Hid (Z.take (m * 64) ++ (Z.drop (m * 64)).take 64 = Z.take ((m + 1) * 64)) := hid_ (cut_step Z m hmz)
              have HBA : Hid (∀ j : Nat, j < 64 → ((Z.drop (m * 64)).take 64)[j]? = some (xs.getD (wd * min (y0 + j / 8) (hi - 1) + min (x0 + j % 8) (wd - 1)) 0 - 128)) := hid_ (fun j hj => by
                rw [List.getElem?_take_of_lt hj, List.getElem?_drop, HM.out, HY0.out, HX0.out]
                exact HAT.out Y X j hltx hj (by rw [← HM.out]; omega))
              generalize (Z.drop (m * 64)).take 64 = B at *
              clear hmn hmz
              have HZ0 := hid_ zero48
              go_wp2_with (refine wpList_alloc_abs' rfl (some 14) rfl 31 rfl _ HZ0.out ?_; intro w4 g hb4 hx4 hg)
              have hb40 : Blk w4 g 31 (bv (midZ B 0)) := by rw [midZ_zero, HB.out]; exact hb4
              clear hb4
              go_loopw [47] (fun i w5 => ∃ j : Nat, j ≤ 64 ∧ i = .int .i64 (j : Int) ∧ Blk w5 g 31 (bv (midZ B j)) ∧ Ext wr w5) (fun i _ => 64 - (intOf i).toNat)
              case atStart => exact ⟨0, by omega, rfl, hb40, hx4⟩
              case round =>
                clear hb40 hx4
                obtain ⟨j, hj, rfl, hb5, hx5⟩ := hrel
                by_cases hltj : j < 64
                · have hpl := cut_place wd hi (y0 + j / 8) (x0 + j % 8) a1 b1
                  rw [Nat.mul_comm] at hpl
                  have hm1 : wd * min (y0 + j / 8) (hi - 1) ≤ 64 * 64 := Nat.mul_le_mul a2 (by omega)
                  obtain ⟨p, hpx⟩ : ∃ p, wd * min (y0 + j / 8) (hi - 1) + min (x0 + j % 8) (wd - 1) = p := ⟨_, rfl⟩
                  have hp : p < xs.length := by have := HXL.out; omega
                  obtain ⟨ad, u, had, hadb, hxp, hcell⟩ := (hv.ext (hx.trans hx5)).at1 hp
                  obtain ⟨hpl', rfl⟩ := ints_at _ _ _ hxp
                  have hzb := allIn_iff.1 HQ.out _ (List.getElem_mem hpl')
                  have hval : B[j]? = some (xs[p] - 128) := by
                    rw [HBA.out j hltj, hpx, List.getD_eq_getElem?_getD, List.getElem?_eq_getElem hpl']
                    rfl
                  generalize xs[p] = z at *
                  have HPX := hid_ hpx
                  have HV := hid_ hval
                  rw [← Nat.mul_one p] at hcell
                  have hc1' := hcell
                  clear hpx hval hxp hcell hpl
                  subst had
                  have HSZ : Hid (j < (bv (midZ B j)).size) := hid_ (by rw [bv_size, midZ_len _ _ (by rw [HB.out]; omega), HB.out]; omega)
                  go_upto_region 23 with fail
                  refine wp_region_lit ?_
                  refine wl_run rfl (.int .i64 ((j : Nat) : Int)) (ex_move rfl rfl) ?_
                  simp only [Act.put, List.setIfInBounds_toArray, List.set_cons_succ, List.set_cons_zero]
                  refine wl_run rfl (.slice (some ad) xs.length c) (ex_move rfl rfl) ?_
                  simp only [Act.put, List.setIfInBounds_toArray, List.set_cons_succ, List.set_cons_zero]
                  refine wl_run rfl (.int .i64 ((wd : Nat) : Int)) (ex_move rfl rfl) ?_
                  simp only [Act.put, List.setIfInBounds_toArray, List.set_cons_succ, List.set_cons_zero]
                  refine wl_run rfl (.int .i64 ((y0 : Nat) : Int)) (ex_move rfl rfl) ?_
                  simp only [Act.put, List.setIfInBounds_toArray, List.set_cons_succ, List.set_cons_zero]
                  refine wl_run rfl (.int .i64 ((j : Nat) : Int)) (ex_move rfl rfl) ?_
                  simp only [Act.put, List.setIfInBounds_toArray, List.set_cons_succ, List.set_cons_zero]
                  refine wl_run rfl (.int .i64 ((j / 8 : Nat) : Int)) (ex_quoN (i := j) (d := 8) rfl rfl rfl (by omega) (by omega)) ?_
                  simp only [Act.put, List.setIfInBounds_toArray, List.set_cons_succ, List.set_cons_zero]
                  refine wl_run rfl (.int .i64 ((y0 + (j / 8) : Nat) : Int)) (ex_addN (i := y0) (d := j / 8) rfl rfl rfl (by omega)) ?_
                  simp only [Act.put, List.setIfInBounds_toArray, List.set_cons_succ, List.set_cons_zero]
                  refine wl_run rfl (.int .i64 ((hi : Nat) : Int)) (ex_move rfl rfl) ?_
                  simp only [Act.put, List.setIfInBounds_toArray, List.set_cons_succ, List.set_cons_zero]
                  refine wl_run rfl (.int .i64 ((hi - 1 : Nat) : Int)) (ex_subN (i := hi) (d := 1) rfl rfl rfl (by omega) (by omega)) ?_
                  simp only [Act.put, List.setIfInBounds_toArray, List.set_cons_succ, List.set_cons_zero]
                  refine wl_run rfl (.int .i64 ((min (y0 + (j / 8)) (hi - 1) : Nat) : Int)) (ex_minN (i := y0 + (j / 8)) (d := hi - 1) rfl rfl rfl) ?_
                  simp only [Act.put, List.setIfInBounds_toArray, List.set_cons_succ, List.set_cons_zero]
                  refine wl_run rfl (.int .i64 ((wd * (min (y0 + (j / 8)) (hi - 1)) : Nat) : Int)) (ex_mulN (i := wd) (d := min (y0 + (j / 8)) (hi - 1)) rfl rfl rfl (by omega)) ?_
                  simp only [Act.put, List.setIfInBounds_toArray, List.set_cons_succ, List.set_cons_zero]
                  refine wl_run rfl (.int .i64 ((x0 : Nat) : Int)) (ex_move rfl rfl) ?_
                  simp only [Act.put, List.setIfInBounds_toArray, List.set_cons_succ, List.set_cons_zero]
                  refine wl_run rfl (.int .i64 ((j : Nat) : Int)) (ex_move rfl rfl) ?_
                  simp only [Act.put, List.setIfInBounds_toArray, List.set_cons_succ, List.set_cons_zero]
                  refine wl_run rfl (.int .i64 ((j % 8 : Nat) : Int)) (ex_remN (i := j) (d := 8) rfl rfl rfl (by omega) (by omega)) ?_
                  simp only [Act.put, List.setIfInBounds_toArray, List.set_cons_succ, List.set_cons_zero]
                  refine wl_run rfl (.int .i64 ((x0 + (j % 8) : Nat) : Int)) (ex_addN (i := x0) (d := j % 8) rfl rfl rfl (by omega)) ?_
                  simp only [Act.put, List.setIfInBounds_toArray, List.set_cons_succ, List.set_cons_zero]
                  refine wl_run rfl (.int .i64 ((wd : Nat) : Int)) (ex_move rfl rfl) ?_
                  simp only [Act.put, List.setIfInBounds_toArray, List.set_cons_succ, List.set_cons_zero]
                  refine wl_run rfl (.int .i64 ((wd - 1 : Nat) : Int)) (ex_subN (i := wd) (d := 1) rfl rfl rfl (by omega) (by omega)) ?_
                  simp only [Act.put, List.setIfInBounds_toArray, List.set_cons_succ, List.set_cons_zero]
                  refine wl_run rfl (.int .i64 ((min (x0 + (j % 8)) (wd - 1) : Nat) : Int)) (ex_minN (i := x0 + (j % 8)) (d := wd - 1) rfl rfl rfl) ?_
                  simp only [Act.put, List.setIfInBounds_toArray, List.set_cons_succ, List.set_cons_zero]
                  refine wl_run rfl (.int .i64 ((p : Nat) : Int)) (by rw [← HPX.out]; exact ex_addN (i := wd * (min (y0 + (j / 8)) (hi - 1))) (d := min (x0 + (j % 8)) (wd - 1)) rfl rfl rfl (by omega)) ?_
                  simp only [Act.put, List.setIfInBounds_toArray, List.set_cons_succ, List.set_cons_zero]
                  refine wl_run rfl (.pointer (some (ad.add (p * 1)))) (ex_ixSl Try.underlying22 sizeI rfl rfl rfl hp) ?_
                  simp only [Act.put, List.setIfInBounds_toArray, List.set_cons_succ, List.set_cons_zero]
                  refine wl_read rfl (.int .i64 z) (ex_loadI rfl rfl hc1') ?_
                  simp only [Act.put, List.setIfInBounds_toArray, List.set_cons_succ, List.set_cons_zero]
                  refine wl_run rfl (.int .i64 (z - (((128 : Nat) : Int)))) (ex_subI (i := z) (d := ((128 : Nat) : Int)) rfl rfl rfl (by omega)) ?_
                  simp only [Act.put, List.setIfInBounds_toArray, List.set_cons_succ, List.set_cons_zero]
                  refine wl_run rfl (.pointer (some ⟨g, 0 + j * 1, none⟩)) (ex_ixArrG Try.underlying31 sizeI rfl rfl rfl hltj) ?_
                  simp only [Act.put, List.setIfInBounds_toArray, List.set_cons_succ, List.set_cons_zero]
                  refine wl_storeI rfl (.tmp 72) (.tmp 71) rfl g (0 + j * 1) (z - 128) rfl rfl hb5 (by rw [Nat.zero_add, Nat.mul_one]; exact HSZ.out) ?_
                  simp only [Act.put, List.setIfInBounds_toArray, List.set_cons_succ, List.set_cons_zero]
                  rw [show 0 + j * 1 = j by omega]
                  have hb9 := hb5.set_ j (.int .i64 (z - 128))
                  rw [bv_set, midZ_set B j (z - 128) HV.out] at hb9
                  have hx9 := hx5.setCell (p := ⟨g, j, none⟩) hg (.int .i64 (z - 128))
                  go_wp2_with fail
                  go_roundw
                  case rel => exact ⟨j + 1, by omega, by go_num, hb9, hx9⟩
                  case measure => simp [intOf]; omega
                · have ej : j = 64 := by omega
                  rw [ej] at hb5
                  rw [ej]
                  rw [← HB.out, midZ_all] at hb5
                  have HBS : Hid ((bv B).size = 64) := hid_ (by rw [bv_size, HB.out])
                  go_wp2_with (first
                    | (refine wpList_load_blk rfl 31 (.tmp 14) rfl _ rfl hb5 _ Try.underlying31 rfl 64 size48 HBS.out ?_)
                    | (refine wpList_lit1 rfl 23 31 (.tmp 75) rfl (some 76) rfl Try.underlying23 64 size48 zero48' (.agg (bv B)) rfl HBS.out (by omega) (by omega) ?_; intro w8 g8 hb8 hx8 hg8)
                    | (at_builtin; go_must (refine wpList_append_sl elt_blk rfl _ _ rfl w.heap.size _ _ _ rfl (own_keep hown (hx5.trans hx8)) _ 1 (ints B) rfl (blk_sl1 hb8 HB.out) (ints_one_mem B) (by omega) (by omega) (by have := hx.size; have := hx5.size; have := hx8.size; omega) ?_); intro v' w9 hown9 hb9)
                    | (refine wl_run rfl (.int .i64 ((x0 + 8 : Nat) : Int)) (ex_addN (i := x0) (d := 8) rfl rfl rfl (by omega)) ?_))
                  go_roundw
                  case rel =>
                    refine ⟨X + 1, x0 + 8, m + 1, by omega, hid_ (by rw [HX0.out]; omega), by have := HX0.out; omega, hid_ (by rw [HM.out]; omega), by omega, rfl, ?_, ((hx.trans hx5).trans hx8).trans' hb9⟩
                    rw [← HBE.out, ints_app]
                    exact hown9
                  case measure => have := HX0.out; simp [intOf]; omega
            · have eX : X = NX := by omega
              have hge : wd ≤ x0 := by have := HX0.out; omega
              go_wp2_with (refine wl_run rfl (.int .i64 ((y0 + 8 : Nat) : Int)) (ex_addN (i := y0) (d := 8) rfl rfl rfl (by omega)) ?_)
              go_roundw
              case rel =>
                refine ⟨Y + 1, y0 + 8, m, by omega, hid_ (by rw [HY0.out]; omega), by have := HY0.out; omega, hid_ (by rw [HM.out, eX, Nat.add_mul]; omega), hm64', rfl, hown, hx⟩
              case measure => have := HY0.out; simp [intOf]; omega
        · have eY : Y = NY := by omega
          have hge : hi ≤ y0 := by have := HY0.out; omega
          have emn : m0 = NX * NY := by rw [HM0.out, eY, Nat.mul_comm]
          rw [emn] at hown
          go_wp2_with fail
          go_ret2
          obtain ⟨A', c', rfl, hsl, hfs⟩ := own_form hown
          refine ⟨A', c', rfl, ?_, hx⟩
          rw [← HZL.out, List.take_length] at hsl
          exact hsl
end Go.Proofs.Ytlepchdlkhogiaa
