/- PlaneJoin of the reference. -/
import Derived.Test.YtlepchdlkhogiaaJoin
import Derived.Test.YtlepchdlkhogiaaRefCutBad
import Derived.Test.YtlepchdlkhogiaaBuild1
namespace Go.Proofs.Ytlepchdlkhogiaa
set_option linter.unusedVariables false
set_option linter.unusedSimpArgs false
open Go.RowKit
theorem elt_intJ : Elt Try.prog 22 3 1 8 := ⟨Try.underlying22, by kernel_rfl, by omega⟩
theorem own_next {w : World} {base : Nat} {e : TypeId} {v : Value} {L : List Int} {z : Int} {m : Nat} (hm : L.length = m) (h : w.ownsRow base e 1 v (m + 1) (ints L ++ [.int .i64 z])) {L2 : List Int} (h2 : L2 = L ++ [z]) : w.ownsRow base e 1 v (m + 1) (ints L2) := by
  subst h2 hm
  simpa [ints] using h
set_option maxRecDepth 20000 in
set_option maxHeartbeats 1000000 in
theorem rjoin_sides (n : Nat) (Z : List Int) (v : Value) (wd hi : Int) (w : World) (hv : SL w 64 v n (ints Z)) (h : sidesZ wd hi ≠ 0) :
    Calls Try.prog 15 #[v, .int .i64 wd, .int .i64 hi] w fun e w' => e = .returned (.tuple #[.slice none 0 0, .int .i64 1]) ∧ Ext w w' := by
  have HK := hid_ (fun W => sidesCheck_any wd hi W)
  rw [sides_no h] at HK
  clear h
  obtain ⟨A, c, rfl, hc1, hc2, -, -⟩ := hv
  go_enter Try.func15, Try.ntmps15
  go_wp2_with (go_at_call 16; (with_reducible refine (HK.out _).mono ?_); rintro e w3 ⟨rfl, rfl⟩)
  go_ret2
  exact ⟨rfl, Ext.refl _⟩
set_option maxRecDepth 20000 in
set_option maxHeartbeats 1000000 in
theorem rjoin_many (n : Nat) (Z : List Int) (v : Value) (wd hi : Nat) (w : World) (hv : SL w 64 v n (ints Z)) (h0 : sidesZ wd hi = 0) (a2 : wd ≤ 64) (b2 : hi ≤ 64) (h : n ≠ cutN wd hi) :
    Calls Try.prog 15 #[v, .int .i64 wd, .int .i64 hi] w fun e w' => e = .returned (.tuple #[.slice none 0 0, .int .i64 4]) ∧ Ext w w' := by
  have HK := hid_ (fun W => sidesCheck_any wd hi W)
  rw [h0] at HK
  clear h0
  have HM := hid_ (fun W => rmany_any wd hi W a2 b2)
  have hcn : (wd + 7) / 8 * ((hi + 7) / 8) = cutN wd hi := rfl
  rw [hcn] at HM
  clear hcn
  generalize cutN wd hi = N at *
  have hneq : (n == N) = false := by simpa using h
  clear h
  obtain ⟨A, c, rfl, hc1, hc2, -, -⟩ := hv
  go_enter Try.func15, Try.ntmps15
  go_wp2_with (first
    | (go_at_call 16; (with_reducible refine (HK.out _).mono ?_); rintro e w3 ⟨rfl, rfl⟩)
    | (go_at_call 38; (with_reducible refine (HM.out _).mono ?_); rintro e w4 ⟨rfl, rfl⟩))
  go_ret2
  exact ⟨rfl, Ext.refl _⟩
set_option maxRecDepth 20000 in
set_option maxHeartbeats 4000000 in
theorem rjoin_in (n : Nat) (Z : List Int) (v : Value) (wd hi : Nat) (w : World) (hv : SL w 64 v n (ints Z)) (hz : Z.length = n * 64) (h0 : sidesZ wd hi = 0) (a1 : 1 ≤ wd) (a2 : wd ≤ 64) (b1 : 1 ≤ hi) (b2 : hi ≤ 64) (h : n = cutN wd hi) :
    Calls Try.prog 15 #[v, .int .i64 wd, .int .i64 hi] w (JoinIs n Z wd hi w) := by
  have HK := hid_ (fun W => sidesCheck_any wd hi W)
  have HE : Hid (joinE n Z wd hi (sidesZ wd hi) = if allIn Z (-40000) 40000 then 0 else 1) := hid_ (by unfold joinE; rw [h0, if_pos rfl]; simp only [Int.toNat_natCast]; rw [if_pos h])
  rw [h0] at HK
  clear h0
  have HM := hid_ (fun W => rmany_any wd hi W a2 b2)
  have hcn : (wd + 7) / 8 * ((hi + 7) / 8) = cutN wd hi := rfl
  rw [hcn, ← h] at HM
  clear hcn
  have hneq : (n == n) = true := by simp
  have hn64 : n ≤ 64 := by rw [h]; have : (wd + 7) / 8 * ((hi + 7) / 8) ≤ 8 * 8 := Nat.mul_le_mul (by omega) (by omega); exact this
  have HN := hid_ h
  clear h
  have hm : wd * hi ≤ 64 * 64 := Nat.mul_le_mul a2 b2
  obtain ⟨n0, hn0⟩ : ∃ n0, wd * hi = n0 := ⟨_, rfl⟩
  have HN0 := hid_ hn0
  rw [hn0] at hm
  clear hn0
  have HZ0 := hid_ zero48
  have HZ := hid_ hz
  clear hz
  have hv' := hv
  obtain ⟨A, c, rfl, hc1, hc2, -, -⟩ := hv'
  have HJL := hid_ (joinZ_len Z wd hi)
  have HJA := hid_ (fun y x (hx : x < wd) (hy : y < hi) => joinZ_at Z wd hi y x hx hy)
  have HUN : Hid (∀ y x, joinAt Z wd y x = clampZ (Z.getD (jidx wd y x) 0 + 128) 0 255) := hid_ (fun _ _ => rfl)
  have HIX : Hid (∀ y x, x < wd → y < hi → jidx wd y x < n * 64) := hid_ (fun y x hx hy => by rw [HN.out]; exact jidx_lt wd hi y x hx hy)
  go_enter Try.func15, Try.ntmps15
  go_wp2_with (first
    | (go_at_call 16; (with_reducible refine (HK.out _).mono ?_); rintro e w3 ⟨rfl, rfl⟩)
    | (go_at_call 38; (with_reducible refine (HM.out _).mono ?_); rintro e w4 ⟨rfl, rfl⟩))
  clear HK HM
  go_loopw [29] (fun i wr => ∃ (k : Nat), k ≤ n ∧ i = .int .i64 (k : Int) ∧ Hid (allIn (Z.take (k * 64)) (-40000) 40000 = true) ∧ Ext w wr) (fun i _ => n - (intOf i).toNat)
  case atStart => exact ⟨0, by omega, rfl, hid_ (by simp [allIn]), Ext.refl w⟩
  case round =>
    obtain ⟨k, hk, rfl, HB, hx⟩ := hrel
    by_cases hlt : k < n
    · obtain ⟨ad, zs, rfl, hab, hca, hzs, hl⟩ := blk_part (hv.ext hx) HZ.out hlt
      have HNX : Hid (allIn (Z.take ((k + 1) * 64)) (-40000) 40000 = allIn zs (-40000) 40000) := hid_ (by
        rw [hzs, take_next, allIn_app, HB.out, Bool.true_and])
      have HALL : Hid (allIn Z (-40000) 40000 = true → allIn zs (-40000) 40000 = true) := hid_ (fun h => allIn_iff.2 fun z hz => allIn_iff.1 h z (by
        rw [hzs] at hz
        exact List.mem_of_mem_drop (List.mem_of_mem_take hz)))
      have HCA := hid_ hca
      have HL := hid_ hl
      have HBW : Hid (∀ W, Calls Try.prog 39 #[.agg (ints zs).toArray, .int .i64 (-40000), .int .i64 40000] W fun e w' => e = .returned (.bool (allIn zs (-40000) 40000)) ∧ Ext W w') := hid_ (fun W => blockWithin_any zs (-40000) 40000 W hl)
      clear hca hl hzs
      cases hq : allIn zs (-40000) 40000 with
      | true =>
        rw [hq] at HNX HALL HBW
        clear hq
        go_wp2_with (first
                | (refine wpList_load_any (by rfl) 31 (.tmp 31) rfl (ad.add (k * 64)) rfl (ints zs) _ HCA.out Try.underlying31 rfl (by rw [ints_len, HL.out]; exact size48) ?_)
                | (refine wpList_alloc_abs' rfl (some 10) rfl 31 rfl _ HZ0.out ?_; intro w7 g7 hb7 hx7 hg7)
                | (refine wpList_store_blk rfl 31 (.tmp 10) (.tmp 32) rfl _ _ rfl rfl hb7 64 size48 (bv_sz HL.out) zero48s (bv_one zs) ?_; intro w8 hb8 hg8; have hx8 := hx7.grown hg8 (by omega))
                | (refine wpList_load_blk rfl 31 (.tmp 10) rfl _ rfl hb8 _ Try.underlying31 rfl 64 size48 (bv_sz HL.out) ?_)
                | (go_at_call 39; (with_reducible refine (HBW.out _).mono ?_); rintro e w9 ⟨rfl, hx9⟩; have hx89 := hx8.trans hx9))
        go_roundw
        case rel => exact ⟨k + 1, by omega, by go_num, HNX, hx.trans hx89⟩
        case measure => simp [intOf]; omega
      | false =>
        have HNO : Hid (allIn Z (-40000) 40000 = false) := hid_ (by
          cases h9 : allIn Z (-40000) 40000 with
          | false => rfl
          | true => have := HALL.out h9; rw [hq] at this; cases this)
        rw [hq] at HNX HALL HBW
        clear hq
        go_wp2_with (first
                | (refine wpList_load_any (by rfl) 31 (.tmp 31) rfl (ad.add (k * 64)) rfl (ints zs) _ HCA.out Try.underlying31 rfl (by rw [ints_len, HL.out]; exact size48) ?_)
                | (refine wpList_alloc_abs' rfl (some 10) rfl 31 rfl _ HZ0.out ?_; intro w7 g7 hb7 hx7 hg7)
                | (refine wpList_store_blk rfl 31 (.tmp 10) (.tmp 32) rfl _ _ rfl rfl hb7 64 size48 (bv_sz HL.out) zero48s (bv_one zs) ?_; intro w8 hb8 hg8; have hx8 := hx7.grown hg8 (by omega))
                | (refine wpList_load_blk rfl 31 (.tmp 10) rfl _ rfl hb8 _ Try.underlying31 rfl 64 size48 (bv_sz HL.out) ?_)
                | (go_at_call 39; (with_reducible refine (HBW.out _).mono ?_); rintro e w9 ⟨rfl, hx9⟩; have hx89 := hx8.trans hx9))
        go_ret2
        exact join_err (by rw [HE.out, HNO.out]; rfl) (by decide) rfl (hx.trans hx89)
    · have ek : k = n := by omega
      have HA : Hid (allIn Z (-40000) 40000 = true) := hid_ (by have := HB.out; rw [ek, ← HZ.out, List.take_length] at this; exact this)
      rw [ek]
      clear ek hk hlt HB
      have hB0 := hx.size
      go_wp2_with fail
      go_loopw [11, 38] (fun u y wr => ∃ (y0 m : Nat), y0 ≤ hi ∧ Hid (m = y0 * wd) ∧ m ≤ 4096 ∧ y = .int .i64 ((y0 : Nat) : Int) ∧ wr.ownsRow w.heap.size 3 1 u m (ints ((joinZ Z wd hi).take m)) ∧ Ext w wr) (fun _ y _ => hi - (intOf y).toNat)
      case atStart => exact ⟨0, 0, by omega, hid_ (by omega), by omega, rfl, by simpa [ints] using own_nil _ _ _ 1, hx⟩
      case round =>
        clear hx hB0
        obtain ⟨y, m0, hy, HM0, hm0, rfl, hown, hx⟩ := hrel
        by_cases hlt : y < hi
        · go_wp2_with fail
          go_loopw [11, 42] (fun u x wr => ∃ (x0 m : Nat), x0 ≤ wd ∧ Hid (m = y * wd + x0) ∧ m ≤ 4096 ∧ x = .int .i64 ((x0 : Nat) : Int) ∧ wr.ownsRow w.heap.size 3 1 u m (ints ((joinZ Z wd hi).take m)) ∧ Ext w wr) (fun _ x _ => wd - (intOf x).toNat)
          case atStart => exact ⟨0, m0, by omega, hid_ (by rw [HM0.out]; rfl), hm0, rfl, hown, hx⟩
          case round =>
            clear hown hx
            obtain ⟨x, m, hxw, HM, hm9, rfl, hown, hx⟩ := hrel
            by_cases hltx : x < wd
            · have hml : m < n0 := by
                have h9 := Nat.mul_le_mul_right wd (show y + 1 ≤ hi by omega)
                rw [Nat.add_mul, Nat.mul_comm hi wd, HN0.out] at h9
                have := HM.out
                omega
              have hkb : y / 8 * ((wd + 7) / 8) ≤ 8 * 8 := Nat.mul_le_mul (by omega) (by omega)
              have hwd8 : (wd + 7) / 8 ≤ 8 := by omega
              obtain ⟨k2, hk2⟩ : ∃ k2, y / 8 * ((wd + 7) / 8) + x / 8 = k2 := ⟨_, rfl⟩
              obtain ⟨p, hpx⟩ : ∃ p, y % 8 * 8 + x % 8 = p := ⟨_, rfl⟩
              have hp : p < 64 := by omega
              have hji : jidx wd y x = k2 * 64 + p := by rw [← hk2, ← hpx]; rfl
              have hk : k2 < n := by have := HIX.out y x hltx hlt; omega
              have HKX := hid_ hk2
              have HPX := hid_ hpx
              obtain ⟨ad, zs, rfl, hab, hca, hzs, hl⟩ := blk_part (hv.ext hx) HZ.out hk
              have hjl : p < zs.length := by omega
              have hzp : (bv zs)[p]? = some (.int .i64 zs[p]) := bv_at zs p hjl
              have hval : joinAt Z wd y x = clampZ (zs[p] + 128) 0 255 := by
                rw [HUN.out, hji]
                have e := List.getElem?_eq_getElem hjl
                subst hzs
                rw [List.getElem?_take_of_lt hp, List.getElem?_drop] at e
                rw [List.getD_eq_getElem?_getD, e]
                rfl
              have hzb : -40000 ≤ zs[p] ∧ zs[p] ≤ 40000 := by
                have hmem : ∀ z ∈ zs, z ∈ Z := fun z hz => by
                  rw [hzs] at hz
                  exact List.mem_of_mem_drop (List.mem_of_mem_take hz)
                exact allIn_iff.1 HA.out _ (hmem _ (List.getElem_mem hjl))
              have HNEXT : Hid ((joinZ Z wd hi).take (m + 1) = (joinZ Z wd hi).take m ++ [clampZ (zs[p] + 128) 0 255]) := hid_ (by
                have h9 := HJA.out y x hltx hlt
                rw [← HM.out, hval] at h9
                rw [List.take_add_one, h9]; rfl)
              have HCA := hid_ hca
              have HL := hid_ hl
              have HZP := hid_ hzp
              generalize zs[p] = z at *
              clear hca hl hzs hk2 hpx hji hval hzp
              have HCL := hid_ (fun W => clamp_any (z + 128) 0 255 W)
              generalize clampZ (z + 128) 0 255 = cz at *
              obtain ⟨hz1, hz2⟩ := hzb
              go_upto_region 19 with fail
              refine wp_region_lit ?_
              refine wl_run rfl (.slice (some ad) n c) (ex_move rfl rfl) ?_
              simp only [Act.put, List.setIfInBounds_toArray, List.set_cons_succ, List.set_cons_zero]
              refine wl_run rfl (.int .i64 ((y : Nat) : Int)) (ex_move rfl rfl) ?_
              simp only [Act.put, List.setIfInBounds_toArray, List.set_cons_succ, List.set_cons_zero]
              refine wl_run rfl (.int .i64 ((y / 8 : Nat) : Int)) (ex_quoN (i := y) (d := 8) rfl rfl rfl (by omega) (by omega)) ?_
              simp only [Act.put, List.setIfInBounds_toArray, List.set_cons_succ, List.set_cons_zero]
              refine wl_run rfl (.int .i64 ((wd : Nat) : Int)) (ex_move rfl rfl) ?_
              simp only [Act.put, List.setIfInBounds_toArray, List.set_cons_succ, List.set_cons_zero]
              refine wl_run rfl (.int .i64 ((wd + 7 : Nat) : Int)) (ex_addN (i := wd) (d := 7) rfl rfl rfl (by omega)) ?_
              simp only [Act.put, List.setIfInBounds_toArray, List.set_cons_succ, List.set_cons_zero]
              refine wl_run rfl (.int .i64 (((wd + 7) / 8 : Nat) : Int)) (ex_quoN (i := wd + 7) (d := 8) rfl rfl rfl (by omega) (by omega)) ?_
              simp only [Act.put, List.setIfInBounds_toArray, List.set_cons_succ, List.set_cons_zero]
              refine wl_run rfl (.int .i64 (((y / 8) * ((wd + 7) / 8) : Nat) : Int)) (ex_mulN (i := y / 8) (d := (wd + 7) / 8) rfl rfl rfl (by omega)) ?_
              simp only [Act.put, List.setIfInBounds_toArray, List.set_cons_succ, List.set_cons_zero]
              refine wl_run rfl (.int .i64 ((x : Nat) : Int)) (ex_move rfl rfl) ?_
              simp only [Act.put, List.setIfInBounds_toArray, List.set_cons_succ, List.set_cons_zero]
              refine wl_run rfl (.int .i64 ((x / 8 : Nat) : Int)) (ex_quoN (i := x) (d := 8) rfl rfl rfl (by omega) (by omega)) ?_
              simp only [Act.put, List.setIfInBounds_toArray, List.set_cons_succ, List.set_cons_zero]
              refine wl_run rfl (.int .i64 ((k2 : Nat) : Int)) (by rw [← HKX.out]; exact ex_addN (i := (y / 8) * ((wd + 7) / 8)) (d := x / 8) rfl rfl rfl (by omega)) ?_
              simp only [Act.put, List.setIfInBounds_toArray, List.set_cons_succ, List.set_cons_zero]
              refine wl_run rfl (.pointer (some (ad.add (k2 * 64)))) (ex_ixSl Try.underlying23 size48 rfl rfl rfl hk) ?_
              simp only [Act.put, List.setIfInBounds_toArray, List.set_cons_succ, List.set_cons_zero]
              go_upto_region 20 with (first
                | (refine wpList_load_any (by rfl) 31 (.tmp 55) rfl (ad.add (k2 * 64)) rfl (ints zs) _ HCA.out Try.underlying31 rfl (by rw [ints_len, HL.out]; exact size48) ?_)
                | (refine wpList_alloc_abs' rfl (some 14) rfl 31 rfl _ HZ0.out ?_; intro w7 g hb7 hx7 hg7)
                | (refine wpList_store_blk rfl 31 (.tmp 14) (.tmp 56) rfl _ _ rfl rfl hb7 64 size48 (bv_sz HL.out) zero48s (bv_one zs) ?_; intro w8 hb8 hg8; have hx8 := hx7.grown hg8 (by omega)))
              have hcz : w8.cell? ⟨g, p, none⟩ = some (.int .i64 z) := (hb8.cell p).trans HZP.out
              refine wp_region_lit ?_
              refine wl_run rfl (_) (ex_move rfl rfl) ?_
              simp only [Act.put, List.setIfInBounds_toArray, List.set_cons_succ, List.set_cons_zero]
              refine wl_run rfl (.int .i64 ((y : Nat) : Int)) (ex_move rfl rfl) ?_
              simp only [Act.put, List.setIfInBounds_toArray, List.set_cons_succ, List.set_cons_zero]
              refine wl_run rfl (.int .i64 ((y % 8 : Nat) : Int)) (ex_remN (i := y) (d := 8) rfl rfl rfl (by omega) (by omega)) ?_
              simp only [Act.put, List.setIfInBounds_toArray, List.set_cons_succ, List.set_cons_zero]
              refine wl_run rfl (.int .i64 (((y % 8) * 8 : Nat) : Int)) (ex_mulN (i := y % 8) (d := 8) rfl rfl rfl (by omega)) ?_
              simp only [Act.put, List.setIfInBounds_toArray, List.set_cons_succ, List.set_cons_zero]
              refine wl_run rfl (.int .i64 ((x : Nat) : Int)) (ex_move rfl rfl) ?_
              simp only [Act.put, List.setIfInBounds_toArray, List.set_cons_succ, List.set_cons_zero]
              refine wl_run rfl (.int .i64 ((x % 8 : Nat) : Int)) (ex_remN (i := x) (d := 8) rfl rfl rfl (by omega) (by omega)) ?_
              simp only [Act.put, List.setIfInBounds_toArray, List.set_cons_succ, List.set_cons_zero]
              refine wl_run rfl (.int .i64 ((p : Nat) : Int)) (by rw [← HPX.out]; exact ex_addN (i := (y % 8) * 8) (d := x % 8) rfl rfl rfl (by omega)) ?_
              simp only [Act.put, List.setIfInBounds_toArray, List.set_cons_succ, List.set_cons_zero]
              refine wl_run rfl (.pointer (some ⟨g, p, none⟩)) (ex_ixArr0 Try.underlying31 sizeI rfl rfl rfl hp) ?_
              simp only [Act.put, List.setIfInBounds_toArray, List.set_cons_succ, List.set_cons_zero]
              refine wl_read rfl (.int .i64 (z)) (ex_loadI rfl rfl hcz) ?_
              simp only [Act.put, List.setIfInBounds_toArray, List.set_cons_succ, List.set_cons_zero]
              refine wl_run rfl (.int .i64 (z + 128)) (ex_addI (i := z) (d := 128) rfl rfl rfl (by omega)) ?_
              simp only [Act.put, List.setIfInBounds_toArray, List.set_cons_succ, List.set_cons_zero]
              go_wp2_with (first
                | (go_at_call 40; (with_reducible refine (HCL.out _).mono ?_); rintro e w9 ⟨rfl, rfl⟩)
                | (at_builtin; go_must (refine wpList_append_sl elt_intJ rfl _ _ rfl w.heap.size _ _ _ rfl ((own_keep hown hx8).alloc _) _ 1 [.int .i64 cz] rfl (one_sl _ _ _) (int_one cz) (by omega) (by omega) (by have := hx.size; have := hx8.size; simp; omega) ?_); intro v' w9 hown9 hb9))
              go_roundw
              case rel => exact ⟨x + 1, m + 1, by omega, hid_ (by rw [HM.out]; omega), by omega, by go_num, own_next (by rw [List.length_take, HJL.out]; have := HN0.out; omega) hown9 HNEXT.out, ((hx.trans hx8).alloc _).trans' hb9⟩
              case measure => simp [intOf]; omega
            · have ex : x = wd := by omega
              go_wp2_with fail
              go_roundw
              case rel => exact ⟨y + 1, m, by omega, hid_ (by rw [HM.out, ex, Nat.add_mul]; omega), hm9, by go_num, hown, hx⟩
              case measure => simp [intOf]; omega
        · have ey : y = hi := by omega
          have em : m0 = n0 := by rw [HM0.out, ey, Nat.mul_comm, HN0.out]
          rw [em] at hown
          go_wp2_with fail
          go_ret2
          have hE : joinE n Z wd hi (sidesZ wd hi) = 0 := by rw [HE.out, HA.out]; rfl
          obtain ⟨A', c', rfl, hsl, hfs⟩ := own_form hown
          unfold JoinIs
          rw [hE]
          refine ⟨A', n0, c', rfl, ?_, ?_, hx⟩
          · rw [if_pos rfl]; exact HN0.out.symm
          · rw [if_pos rfl]
            rw [List.take_of_length_le (by rw [HJL.out, HN0.out]; omega)] at hsl
            exact hsl
end Go.Proofs.Ytlepchdlkhogiaa
