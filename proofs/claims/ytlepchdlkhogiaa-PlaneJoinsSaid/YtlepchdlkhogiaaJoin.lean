/- plane.Join: sides and the number of blocks in order. -/
import Derived.Test.YtlepchdlkhogiaaJoinBad
namespace Go.Proofs.Ytlepchdlkhogiaa
set_option linter.unusedVariables false
set_option linter.unusedSimpArgs false
open Go.RowKit
theorem allIn_app (xs ys : List Int) (lo hi : Int) : allIn (xs ++ ys) lo hi = (allIn xs lo hi && allIn ys lo hi) := by simp [allIn]
theorem take_next (Z : List Int) (k : Nat) : Z.take ((k + 1) * 64) = Z.take (k * 64) ++ (Z.drop (k * 64)).take 64 := by
  rw [show (k + 1) * 64 = k * 64 + 64 by omega, List.take_add]
theorem join_bsl {w : World} {g : Nat} {t : TypeId} {zs : List Int} (h : Blk w g t (ints zs).toArray) (hl : zs.length = 64) : SL w 1 (.slice (some ⟨g, 0, none⟩) 64 64) zs.length (ints zs) := by
  have := Blk.bsl (zs := zs) (c := 64) h (by omega) (by omega)
  rwa [hl] at this ⊢
theorem clampI (z : Int) : min (max z 0) 255 = clampZ z 0 255 := min_max z 0 255 (by decide)
set_option maxRecDepth 20000 in
set_option maxHeartbeats 4000000 in
theorem join_in (n : Nat) (Z : List Int) (v : Value) (wd hi : Nat) (w : World) (hv : SL w 64 v n (ints Z)) (hz : Z.length = n * 64) (h0 : sidesZ wd hi = 0) (a1 : 1 ≤ wd) (a2 : wd ≤ 64) (b1 : 1 ≤ hi) (b2 : hi ≤ 64) (h : n = cutN wd hi) :
    Calls Try.prog 14 #[v, .int .i64 wd, .int .i64 hi] w (JoinIs n Z wd hi w) := by
  have HK := hid_ (fun W => areaCheck_any wd hi W)
  have HE : Hid (joinE n Z wd hi (sidesZ wd hi) = if allIn Z (-40000) 40000 then 0 else 1) := hid_ (by unfold joinE; rw [h0, if_pos rfl]; simp only [Int.toNat_natCast]; rw [if_pos h])
  rw [h0] at HK
  clear h0
  have HM := hid_ (fun W => many_any wd hi W a1 a2 b1 b2)
  have HP : Hid (∀ k j, k < 64 → j < 64 → ∃ r q : Nat, Hid (r = k / ((wd + 7) / 8) * 8 + j / 8 ∧ q = k % ((wd + 7) / 8) * 8 + j % 8) ∧ ∀ W, Calls Try.prog 35 #[.agg (areaV wd hi), .int .i64 (k : Int), .int .i64 (j : Int)] W fun e w' =>
      e = .returned (.tuple #[.int .i64 ((r : Nat) : Int), .int .i64 ((q : Nat) : Int)]) ∧ Ext W w') := hid_ fun k j hk hj => ⟨_, _, hid_ ⟨rfl, rfl⟩, fun W => place_any wd hi k j W a1 a2 hk hj⟩
  have hcn : (wd + 7) / 8 * ((hi + 7) / 8) = cutN wd hi := rfl
  rw [hcn, ← h] at HM
  clear hcn
  have hn64 : n ≤ 64 := by rw [h]; have : (wd + 7) / 8 * ((hi + 7) / 8) ≤ 8 * 8 := Nat.mul_le_mul (by omega) (by omega); exact this
  have HN := hid_ h
  clear h
  have HCF := hid_ (fun W u zs (hl : zs.length = 64) (hs : SL W 1 u zs.length (ints zs)) => containsFunc_any 37 #[] (fun z => !inB z (-40000) 40000) enters_join1 u zs W hs (fun z _ => join1_any z W))
  simp only [inB_any] at HCF
  have hm : wd * hi ≤ 64 * 64 := Nat.mul_le_mul a2 b2
  obtain ⟨n0, hn0⟩ : ∃ n0, wd * hi = n0 := ⟨_, rfl⟩
  have HN0 := hid_ hn0
  rw [hn0] at hm
  clear hn0
  have hbv : #[Value.int .i64 wd, Value.int .i64 hi] = areaV wd hi := rfl
  have hts := hid_ (areaV_size wd hi)
  have ho := hid_ (areaV_one wd hi)
  have HZ0 := hid_ zero48
  generalize areaV wd hi = av at *
  have HZ := hid_ hz
  clear hz
  have hv' := hv
  obtain ⟨A, c, rfl, hc1, hc2, -, -⟩ := hv'
  go_enter Try.func14, Try.ntmps14
  go_wp2_with (first
                | (refine wpList_alloc_abs' rfl (some 8) rfl 69 rfl _ zeroArea ?_; intro w1 g hb1 hx1 hg)
                | (refine wpList_store_blk rfl 69 (.tmp 8) (.tmp 21) rfl _ _ rfl rfl hb1 2 sizeArea hts.out rfl ho.out ?_; intro w2 hb2 hg2; have hx2 := hx1.grown hg2 (by omega))
                | (refine wpList_load_blk rfl 69 (.tmp 8) rfl _ rfl hb2 _ Try.underlying69 rfl 2 sizeArea hts.out ?_)
                | (go_at_call 31; (with_reducible refine (HK.out _).mono ?_); rintro e w3 ⟨rfl, hx3⟩; have hx23 := hx2.trans hx3; have hb3 := hb2.ext hx3)
                | (refine wpList_load_blk_g (by rfl) 69 (.tmp 8) rfl _ rfl hb3 _ Try.underlying69 rfl 2 sizeArea hts.out ?_)
                | (go_at_call 34; (with_reducible refine (HM.out _).mono ?_); rintro e w5 ⟨rfl, hx5⟩; have hb5 := hb3.ext hx5; have hx35 := hx23.trans hx5))
  clear hb1 hb2 hb3 hx1 hx2 hx3 hx5 hx23 hg2 HK HM
  go_loopw [9, 35] (fun s i wr => ∃ (k : Nat) (b : Bool), k ≤ n ∧ i = .int .i64 (k : Int) ∧ s = .int .i64 (if b then 0 else 1) ∧ Hid (b = allIn (Z.take (k * 64)) (-40000) 40000) ∧ Blk wr g 69 av ∧ Ext w wr) (fun _ i _ => n - (intOf i).toNat)
  case atStart => exact ⟨0, true, by omega, rfl, rfl, hid_ (by simp [allIn]), hb5, hx35⟩
  case round =>
    clear hb5 hx35
    obtain ⟨k, b, hk, rfl, rfl, HB, hba, hx⟩ := hrel
    by_cases hlt : k < n
    · obtain ⟨ad, zs, rfl, hab, hca, hzs, hl⟩ := blk_part (hv.ext hx) HZ.out hlt
      have HNX : Hid (allIn (Z.take ((k + 1) * 64)) (-40000) 40000 = (b && allIn zs (-40000) 40000)) := hid_ (by
        rw [HB.out, hzs, ← allIn_app, ← take_next])
      have HCA := hid_ hca
      have HL := hid_ hl
      clear hca hl hzs
      have HCF2 := hid_ (fun W u => HCF.out W u zs HL.out)
      generalize hq : allIn zs (-40000) 40000 = q at *
      clear hq
      cases b with
      | false =>
        go_wp2_with (first
                | (refine wpList_load_any (by rfl) 31 (.tmp 37) rfl (ad.add (k * 64)) rfl (ints zs) _ HCA.out Try.underlying31 rfl (by rw [ints_len, HL.out]; exact size48) ?_)
                | (refine wpList_alloc_abs' rfl (some 11) rfl 31 rfl _ HZ0.out ?_; intro w7 g7 hb7 hx7 hg7)
                | (refine wpList_store_blk rfl 31 (.tmp 11) (.tmp 38) rfl _ _ rfl rfl hb7 64 size48 (bv_sz HL.out) zero48s (bv_one zs) ?_; intro w8 hb8 hg8; have hx8 := hx7.grown hg8 (by omega)))
        go_roundw
        case rel => exact ⟨k + 1, false, by omega, by go_num, rfl, hid_ (by rw [HNX.out]; rfl), (hba.ext hx8), hx.trans hx8⟩
        case measure => simp [intOf]; omega
      | true =>
        cases q with
        | true =>
          go_wp2_with (first
                | (refine wpList_load_any (by rfl) 31 (.tmp 37) rfl (ad.add (k * 64)) rfl (ints zs) _ HCA.out Try.underlying31 rfl (by rw [ints_len, HL.out]; exact size48) ?_)
                | (refine wpList_alloc_abs' rfl (some 11) rfl 31 rfl _ HZ0.out ?_; intro w7 g7 hb7 hx7 hg7)
                | (refine wpList_store_blk rfl 31 (.tmp 11) (.tmp 38) rfl _ _ rfl rfl hb7 64 size48 (bv_sz HL.out) zero48s (bv_one zs) ?_; intro w8 hb8 hg8; have hx8 := hx7.grown hg8 (by omega))
                | (go_at_call 32; (with_reducible refine (HCF2.out _ _ (join_bsl hb8 HL.out)).mono ?_); rintro e w9 ⟨rfl, rfl⟩))
          go_roundw
          case rel => exact ⟨k + 1, true, by omega, by go_num, rfl, hid_ (by rw [HNX.out]; rfl), (hba.ext hx8), hx.trans hx8⟩
          case measure => simp [intOf]; omega
        | false =>
          go_wp2_with (first
                | (refine wpList_load_any (by rfl) 31 (.tmp 37) rfl (ad.add (k * 64)) rfl (ints zs) _ HCA.out Try.underlying31 rfl (by rw [ints_len, HL.out]; exact size48) ?_)
                | (refine wpList_alloc_abs' rfl (some 11) rfl 31 rfl _ HZ0.out ?_; intro w7 g7 hb7 hx7 hg7)
                | (refine wpList_store_blk rfl 31 (.tmp 11) (.tmp 38) rfl _ _ rfl rfl hb7 64 size48 (bv_sz HL.out) zero48s (bv_one zs) ?_; intro w8 hb8 hg8; have hx8 := hx7.grown hg8 (by omega))
                | (go_at_call 32; (with_reducible refine (HCF2.out _ _ (join_bsl hb8 HL.out)).mono ?_); rintro e w9 ⟨rfl, rfl⟩))
          go_roundw
          case rel => exact ⟨k + 1, false, by omega, by go_num, rfl, hid_ (by rw [HNX.out]; rfl), (hba.ext hx8), hx.trans hx8⟩
          case measure => simp [intOf]; omega
    · have ek : k = n := by omega
      have HA : Hid (allIn Z (-40000) 40000 = b) := hid_ (by rw [HB.out, ek, ← HZ.out, List.take_length])
      rw [ek]
      clear ek hk hlt HB
      cases b with
      | false =>
        go_wp2_with fail
        go_ret2
        exact join_err (by rw [HE.out, HA.out]; rfl) (by decide) rfl hx
      | true =>
        go_wp2_with (first
                | (refine wl_run rfl (.int .i64 ((n0 : Nat) : Int)) (by rw [← HN0.out]; exact ex_mulN (i := wd) (d := hi) rfl rfl rfl (by have := HN0.out; omega)) ?_)
                | (refine wpList_makeInts rfl (some 52) rfl _ _ rfl n0 (by omega) rfl rfl ?_; intro w6 gz hbz hx6 hgz; have hb6 := hba.ext hx6; have hxx := hx.trans hx6))
        have hgz0 : w.heap.size ≤ gz := by have := hx.size; omega
        have hbz0 : Blk w6 gz 3 (bv (joinMid Z wd hi 0)) := by rw [joinMid_zero, HN0.out]; exact hbz
        clear hbz hba hx hx6
        go_loopw [55] (fun i wr => ∃ k : Nat, k ≤ n ∧ i = .int .i64 (k : Int) ∧ Blk wr gz 3 (bv (joinMid Z wd hi (k * 64))) ∧ Blk wr g 69 av ∧ Ext w wr) (fun i _ => n - (intOf i).toNat)
        case atStart => exact ⟨0, by omega, rfl, hbz0, hb6, hxx⟩
        case round =>
          clear hbz0 hb6 hxx
          obtain ⟨k, hk, rfl, hbo, hba, hx⟩ := hrel
          by_cases hlt : k < n
          · obtain ⟨ad, zs, rfl, hab, hca, hzs, hl⟩ := blk_part (hv.ext hx) HZ.out hlt
            have HCA := hid_ hca
            have HL := hid_ hl
            have HZS := hid_ hzs
            clear hca hl hzs
            go_wp2_with (first
                | (refine wpList_load_any (by rfl) 31 (.tmp 58) rfl (ad.add (k * 64)) rfl (ints zs) _ HCA.out Try.underlying31 rfl (by rw [ints_len, HL.out]; exact size48) ?_)
                | (refine wpList_alloc_abs' rfl (some 14) rfl 31 rfl _ HZ0.out ?_; intro w7 g7 hb7 hx7 hg7)
                | (refine wpList_store_blk rfl 31 (.tmp 14) (.tmp 59) rfl _ _ rfl rfl hb7 64 size48 (bv_sz HL.out) zero48s (bv_one zs) ?_; intro w8 hb8 hg8; have hx8 := hx7.grown hg8 (by omega); have hbo8 := hbo.ext hx8; have hba8 := hba.ext hx8; have hxx8 := hx.trans hx8)
                | (refine wpList_load_blk rfl 31 (.tmp 14) rfl _ rfl hb8 _ Try.underlying31 rfl 64 size48 (bv_sz HL.out) ?_))
            have HBV : Hid (∀ j : Nat, j < 64 → ∃ z, (bv zs)[j]? = some (.int .i64 z) ∧ Hid (z = Z.getD (k * 64 + j) 0) ∧ -40000 ≤ z ∧ z ≤ 40000) := hid_ (fun j hj => by
              have hjl : j < zs.length := by rw [HL.out]; exact hj
              refine ⟨zs[j], bv_at zs j hjl, hid_ ?_, ?_⟩
              · have e := List.getElem?_eq_getElem hjl
                have hzs := HZS.out
                subst hzs
                rw [List.getElem?_take_of_lt hj, List.getElem?_drop] at e
                rw [List.getD_eq_getElem?_getD, e]
                rfl
              · have hmem : ∀ z ∈ zs, z ∈ Z := fun z hz => by
                  rw [HZS.out] at hz
                  exact List.mem_of_mem_drop (List.mem_of_mem_take hz)
                exact allIn_iff.1 HA.out _ (hmem _ (List.getElem_mem hjl)))
            have hbve : (ints zs).toArray = bv zs := rfl
            rw [hbve]
            generalize bv zs = cz at *
            clear hbo hba hx hb7 hx7 hg8 hx8
            go_loopw [61] (fun i wr => ∃ j : Nat, j ≤ 64 ∧ i = .int .i64 (j : Int) ∧ Blk wr gz 3 (bv (joinMid Z wd hi (k * 64 + j))) ∧ Blk wr g 69 av ∧ Ext w wr) (fun i _ => 64 - (intOf i).toNat)
            case atStart => exact ⟨0, by omega, rfl, hbo8, hba8, hxx8⟩
            case round =>
              clear hbo8 hba8 hxx8 hb8
              obtain ⟨j, hj, rfl, hbo, hba, hx⟩ := hrel
              by_cases hltj : j < 64
              · obtain ⟨z, hcz, HZV, hz1, hz2⟩ := HBV.out j hltj
                have hat := fun W => run_index48 cz j _ hltj hcz W
                obtain ⟨r, q, HRQ, hcall⟩ := HP.out k j (by omega) hltj
                have HCALL := hid_ hcall
                clear hcall hcz
                by_cases hrq : r < hi ∧ q < wd
                · obtain ⟨hr, hq⟩ := hrq
                  have d1 : decide (r < hi) = true := by simpa using hr
                  have d2 : decide (q < wd) = true := by simpa using hq
                  go_upto_region 22 with (first
                | (refine wpList_load_blk rfl 69 (.tmp 8) rfl _ rfl hba _ Try.underlying69 rfl 2 sizeArea hts.out ?_)
                | (go_at_call 35; (with_reducible refine (HCALL.out _).mono ?_); rintro e w9 ⟨rfl, hx9⟩; have hbo9 := hbo.ext hx9; have hba9 := hba.ext hx9; have hxx9 := hx.trans hx9))
                  have hpb : r * wd ≤ 64 * 64 := Nat.mul_le_mul (by omega) a2
                  obtain ⟨p, hpx⟩ : ∃ p, r * wd + q = p := ⟨_, rfl⟩
                  have HPX := hid_ hpx
                  have hp : p < n0 := by
                    have h9 := Nat.mul_le_mul_right wd (show r + 1 ≤ hi by omega)
                    rw [Nat.add_mul, Nat.mul_comm hi wd, HN0.out] at h9
                    omega
                  clear hpx
                  have HSZ : Hid (p < (bv (joinMid Z wd hi (k * 64 + j))).size) := hid_ (by rw [bv_size, joinMid_len, HN0.out]; exact hp)
                  refine wp_region_lit ?_
                  refine wl_run rfl (.slice (some ⟨gz, 0, none⟩) n0 n0) (ex_move rfl rfl) ?_
                  simp only [Act.put, List.setIfInBounds_toArray, List.set_cons_succ, List.set_cons_zero]
                  refine wl_run rfl (.int .i64 ((r : Nat) : Int)) (ex_move rfl rfl) ?_
                  simp only [Act.put, List.setIfInBounds_toArray, List.set_cons_succ, List.set_cons_zero]
                  refine wl_run rfl (.int .i64 ((wd : Nat) : Int)) (ex_move rfl rfl) ?_
                  simp only [Act.put, List.setIfInBounds_toArray, List.set_cons_succ, List.set_cons_zero]
                  refine wl_run rfl (.int .i64 ((r * wd : Nat) : Int)) (ex_mulN (i := r) (d := wd) rfl rfl rfl (by omega)) ?_
                  simp only [Act.put, List.setIfInBounds_toArray, List.set_cons_succ, List.set_cons_zero]
                  refine wl_run rfl (.int .i64 ((q : Nat) : Int)) (ex_move rfl rfl) ?_
                  simp only [Act.put, List.setIfInBounds_toArray, List.set_cons_succ, List.set_cons_zero]
                  refine wl_run rfl (.int .i64 ((p : Nat) : Int)) (by rw [← HPX.out]; exact ex_addN (i := r * wd) (d := q) rfl rfl rfl (by omega)) ?_
                  simp only [Act.put, List.setIfInBounds_toArray, List.set_cons_succ, List.set_cons_zero]
                  refine wl_run rfl (.int .i64 (z)) (ex_move rfl rfl) ?_
                  simp only [Act.put, List.setIfInBounds_toArray, List.set_cons_succ, List.set_cons_zero]
                  refine wl_run rfl (.int .i64 (z + 128)) (ex_addI (i := z) (d := 128) rfl rfl rfl (by omega)) ?_
                  simp only [Act.put, List.setIfInBounds_toArray, List.set_cons_succ, List.set_cons_zero]
                  refine wl_run rfl (.int .i64 (max (z + 128) 0)) (ex_maxI (i := z + 128) (d := 0) rfl rfl rfl) ?_
                  simp only [Act.put, List.setIfInBounds_toArray, List.set_cons_succ, List.set_cons_zero]
                  refine wl_run rfl (.int .i64 (min (max (z + 128) 0) 255)) (ex_minI (i := max (z + 128) 0) (d := 255) rfl rfl rfl) ?_
                  simp only [Act.put, List.setIfInBounds_toArray, List.set_cons_succ, List.set_cons_zero]
                  refine wl_run rfl (.pointer (some ⟨gz, p, none⟩)) (ex_ixSl0 Try.underlying22 sizeI rfl rfl rfl hp) ?_
                  simp only [Act.put, List.setIfInBounds_toArray, List.set_cons_succ, List.set_cons_zero]
                  refine wl_storeI rfl (.tmp 90) (.tmp 89) rfl gz p (min (max (z + 128) 0) 255) rfl rfl hbo9 HSZ.out ?_
                  simp only [Act.put, List.setIfInBounds_toArray, List.set_cons_succ, List.set_cons_zero]
                  have hb9 := hbo9.set_ p (.int .i64 (min (max (z + 128) 0) 255))
                  have hset := joinMid_set Z wd hi k j hltj (by rw [← HRQ.out.1]; exact hr) (by rw [← HRQ.out.2]; exact hq)
                  rw [← HRQ.out.1, ← HRQ.out.2, HPX.out, ← HZV.out] at hset
                  rw [bv_set, clampI, hset] at hb9
                  have hb10 := hba9.far (p := ⟨gz, p, none⟩) (hbo9.ne_ hba9 (by decide)).symm (.int .i64 (min (max (z + 128) 0) 255))
                  have hx10 := hxx9.setCell (p := ⟨gz, p, none⟩) hgz0 (.int .i64 (min (max (z + 128) 0) 255))
                  rw [clampI] at hb10 hx10 ⊢
                  clear hset
                  go_wp2_with fail
                  go_roundw
                  case rel => exact ⟨j + 1, by omega, by go_num, hb9, hb10, hx10⟩
                  case measure => simp [intOf]; omega
                · have HSK := hid_ (joinMid_skip Z wd hi k j hltj (by rw [← HRQ.out.1, ← HRQ.out.2]; exact hrq))
                  rw [HSK.out] at hbo
                  by_cases hr : r < hi
                  · have hq : ¬ q < wd := fun hq => hrq ⟨hr, hq⟩
                    have d1 : decide (r < hi) = true := by simpa using hr
                    have d2 : decide (q < wd) = false := by simpa using hq
                    clear hrq
                    go_wp2_with (first
                | (refine wpList_load_blk rfl 69 (.tmp 8) rfl _ rfl hba _ Try.underlying69 rfl 2 sizeArea hts.out ?_)
                | (go_at_call 35; (with_reducible refine (HCALL.out _).mono ?_); rintro e w9 ⟨rfl, hx9⟩; have hbo9 := hbo.ext hx9; have hba9 := hba.ext hx9; have hxx9 := hx.trans hx9))
                    go_roundw
                    case rel => exact ⟨j + 1, by omega, by go_num, hbo9, hba9, hxx9⟩
                    case measure => simp [intOf]; omega
                  · have d1 : decide (r < hi) = false := by simpa using hr
                    clear hrq
                    go_wp2_with (first
                | (refine wpList_load_blk rfl 69 (.tmp 8) rfl _ rfl hba _ Try.underlying69 rfl 2 sizeArea hts.out ?_)
                | (go_at_call 35; (with_reducible refine (HCALL.out _).mono ?_); rintro e w9 ⟨rfl, hx9⟩; have hbo9 := hbo.ext hx9; have hba9 := hba.ext hx9; have hxx9 := hx.trans hx9))
                    go_roundw
                    case rel => exact ⟨j + 1, by omega, by go_num, hbo9, hba9, hxx9⟩
                    case measure => simp [intOf]; omega
              · have ej : j = 64 := by omega
                rw [ej]
                go_wp2_with fail
                go_roundw
                case rel => exact ⟨k + 1, by omega, by go_num, by rw [ej] at hbo; rw [show (k + 1) * 64 = k * 64 + 64 by omega]; exact hbo, hba, hx⟩
                case measure => simp [intOf]; omega
          · have ek : k = n := by omega
            rw [ek] at hbo ⊢
            rw [HN.out, joinMid_all] at hbo
            go_wp2_with fail
            go_ret2
            have hE : joinE n Z wd hi (sidesZ wd hi) = 0 := by rw [HE.out, HA.out]; rfl
            unfold JoinIs
            rw [hE]
            refine ⟨some ⟨gz, 0, none⟩, n0, n0, rfl, ?_, ?_, hx⟩
            · rw [if_pos rfl]; exact HN0.out.symm
            · rw [if_pos rfl]
              have := hbo.bsl (c := n0) (by rw [joinZ_len, HN0.out]; omega) (by omega)
              rw [joinZ_len, HN0.out] at this
              exact this
end Go.Proofs.Ytlepchdlkhogiaa
