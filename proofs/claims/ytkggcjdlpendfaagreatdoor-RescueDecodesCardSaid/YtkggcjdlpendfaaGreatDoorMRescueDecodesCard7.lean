/- Contracts for the law RescueDecodesCard, part 7: what the functions that it reaches answer, for all arguments that the theorems name. -/
import Derived.Test.YtkggcjdlpendfaaGreatDoorMRescueDecodesCard6
import Derived.Test.YtkggcjdlpendfaaGreatDoorMRescueDecodesCard1
import Derived.Deep.QuietTactic
import Derived.BigQuiet
import Derived.Test.YtkggcjdlpendfaaGreatDoorMRescueDecodesCard2
namespace Go.Proofs.YtkggcjdlpendfaaGreatDoor
set_option linter.unusedVariables false
set_option linter.unusedSimpArgs false
open Go.RowKit
theorem elt_intJ : Elt Tryz.prog 22 3 1 8 := ⟨Tryz.underlying22, by kernel_rfl, by omega⟩
theorem own_next {w : World} {base : Nat} {e : TypeId} {v : Value} {L : List Int} {z : Int} {m : Nat} (hm : L.length = m) (h : w.ownsRow base e 1 v (m + 1) (ints L ++ [.int .i64 z])) {L2 : List Int} (h2 : L2 = L ++ [z]) : w.ownsRow base e 1 v (m + 1) (ints L2) := by
 subst h2 hm
 simpa [ints] using h
set_option maxRecDepth 20000 in
set_option maxHeartbeats 1000000 in
theorem rjoin_sides (n : Nat) (Z : List Int) (v : Value) (wd hi : Int) (w : World) (hv : SL w 64 v n (ints Z)) (h : sidesZ wd hi ≠ 0) :
 Calls Tryz.prog 120 #[v, .int .i64 wd, .int .i64 hi] w fun e w' => e = .returned (.tuple #[.slice none 0 0, .int .i64 1]) ∧ Ext w w' := by
 have HK := hid_ (fun W => sidesCheck_any wd hi W)
 rw [sides_no h] at HK
 clear h
 obtain ⟨A, c, rfl, hc1, hc2, -, -⟩ := hv
 go_enter Tryz.func120, Tryz.ntmps120
 go_wp2_with (go_at_call 123; (with_reducible refine (HK.out _).mono ?_); rintro e w3 ⟨rfl, rfl⟩)
 go_ret2
 exact ⟨rfl, Ext.refl _⟩
set_option maxRecDepth 20000 in
set_option maxHeartbeats 1000000 in
theorem rjoin_many (n : Nat) (Z : List Int) (v : Value) (wd hi : Nat) (w : World) (hv : SL w 64 v n (ints Z)) (h0 : sidesZ wd hi = 0) (a2 : wd ≤ 64) (b2 : hi ≤ 64) (h : n ≠ cutN wd hi) :
 Calls Tryz.prog 120 #[v, .int .i64 wd, .int .i64 hi] w fun e w' => e = .returned (.tuple #[.slice none 0 0, .int .i64 4]) ∧ Ext w w' := by
 have HK := hid_ (fun W => sidesCheck_any wd hi W)
 rw [h0] at HK
 clear h0
 have HM := hid_ (fun W => rmany_any wd hi W a2 b2)
 have hcn : (wd + 7) / 8 * ((hi + 7) / 8) = cutN wd hi := rfl
 rw [hcn] at HM
 clear hcn
 generalize cutN wd hi = N at *
 have hneq : (n == N) = false := by simpa using h
 clear h
 obtain ⟨A, c, rfl, hc1, hc2, -, -⟩ := hv
 go_enter Tryz.func120, Tryz.ntmps120
 go_wp2_with (first
  | (go_at_call 123; (with_reducible refine (HK.out _).mono ?_); rintro e w3 ⟨rfl, rfl⟩)
  | (go_at_call 60; (with_reducible refine (HM.out _).mono ?_); rintro e w4 ⟨rfl, rfl⟩))
 go_ret2
 exact ⟨rfl, Ext.refl _⟩
set_option maxRecDepth 20000 in
set_option maxHeartbeats 4000000 in
theorem rjoin_in (n : Nat) (Z : List Int) (v : Value) (wd hi : Nat) (w : World) (hv : SL w 64 v n (ints Z)) (hz : Z.length = n * 64) (h0 : sidesZ wd hi = 0) (a1 : 1 ≤ wd) (a2 : wd ≤ 64) (b1 : 1 ≤ hi) (b2 : hi ≤ 64) (h : n = cutN wd hi) :
 Calls Tryz.prog 120 #[v, .int .i64 wd, .int .i64 hi] w (JoinIs n Z wd hi w) := by
 have HK := hid_ (fun W => sidesCheck_any wd hi W)
 have HE : Hid (joinE n Z wd hi (sidesZ wd hi) = if allIn Z (-40000) 40000 then 0 else 1) := hid_ (by unfold joinE; rw [h0, if_pos rfl]; simp only [Int.toNat_natCast]; rw [if_pos h])
 rw [h0] at HK
 clear h0
 have HM := hid_ (fun W => rmany_any wd hi W a2 b2)
 have hcn : (wd + 7) / 8 * ((hi + 7) / 8) = cutN wd hi := rfl
 rw [hcn, ← h] at HM
 clear hcn
 have hneq : (n == n) = true := by simp
 have hn64 : n ≤ 64 := by rw [h]; have : (wd + 7) / 8 * ((hi + 7) / 8) ≤ 8 * 8 := Nat.mul_le_mul (by omega) (by omega); exact this
 have HN := hid_ h
 clear h
 have hm : wd * hi ≤ 64 * 64 := Nat.mul_le_mul a2 b2
 obtain ⟨n0, hn0⟩ : ∃ n0, wd * hi = n0 := ⟨_, rfl⟩
 have HN0 := hid_ hn0
 rw [hn0] at hm
 clear hn0
 have HZ0 := hid_ zero48
 have HZ := hid_ hz
 clear hz
 have hv' := hv
 obtain ⟨A, c, rfl, hc1, hc2, -, -⟩ := hv'
 have HJL := hid_ (joinZ_len Z wd hi)
 have HJA := hid_ (fun y x (hx : x < wd) (hy : y < hi) => joinZ_at Z wd hi y x hx hy)
 have HUN : Hid (∀ y x, joinAt Z wd y x = clampZ (Z.getD (jidx wd y x) 0 + 128) 0 255) := hid_ (fun _ _ => rfl)
 have HIX : Hid (∀ y x, x < wd → y < hi → jidx wd y x < n * 64) := hid_ (fun y x hx hy => by rw [HN.out]; exact jidx_lt wd hi y x hx hy)
 go_enter Tryz.func120, Tryz.ntmps120
 go_wp2_with (first
  | (go_at_call 123; (with_reducible refine (HK.out _).mono ?_); rintro e w3 ⟨rfl, rfl⟩)
  | (go_at_call 60; (with_reducible refine (HM.out _).mono ?_); rintro e w4 ⟨rfl, rfl⟩))
 clear HK HM
 go_loopw [29] (fun i wr => ∃ (k : Nat), k ≤ n ∧ i = .int .i64 (k : Int) ∧ Hid (allIn (Z.take (k * 64)) (-40000) 40000 = true) ∧ Ext w wr) (fun i _ => n - (intOf i).toNat)
 case atStart => exact ⟨0, by omega, rfl, hid_ (by simp [allIn]), Ext.refl w⟩
 case round =>
  obtain ⟨k, hk, rfl, HB, hx⟩ := hrel
  by_cases hlt : k < n
  ·obtain ⟨ad, zs, rfl, hab, hca, hzs, hl⟩ := blk_part (hv.ext hx) HZ.out hlt
   have HNX : Hid (allIn (Z.take ((k + 1) * 64)) (-40000) 40000 = allIn zs (-40000) 40000) := hid_ (by
    rw [hzs, take_next, allIn_app, HB.out, Bool.true_and])
   have HALL : Hid (allIn Z (-40000) 40000 = true → allIn zs (-40000) 40000 = true) := hid_ (fun h => allIn_iff.2 fun z hz => allIn_iff.1 h z (by
    rw [hzs] at hz
    exact List.mem_of_mem_drop (List.mem_of_mem_take hz)))
   have HCA := hid_ hca
   have HL := hid_ hl
   have HBW : Hid (∀ W, Calls Tryz.prog 67 #[.agg (ints zs).toArray, .int .i64 (-40000), .int .i64 40000] W fun e w' => e = .returned (.bool (allIn zs (-40000) 40000)) ∧ Ext W w') := hid_ (fun W => blockWithin_any zs (-40000) 40000 W hl)
   clear hca hl hzs
   cases hq : allIn zs (-40000) 40000 with
   | true =>
     rw [hq] at HNX HALL HBW
     clear hq
     go_wp2_with (first
      | (refine wpList_load_any (by rfl) 33 (.tmp 31) rfl (ad.add (k * 64)) rfl (ints zs) _ HCA.out Tryz.underlying33 rfl (by rw [ints_len, HL.out]; exact size48) ?_)
      | (refine wAlo' rfl (some 10) rfl 33 rfl _ HZ0.out ?_; intro w7 g7 hb7 hx7 hg7)
      | (refine wStB rfl 33 (.tmp 10) (.tmp 32) rfl _ _ rfl rfl hb7 64 size48 (bv_sz HL.out) zero48s (bv_one zs) ?_; intro w8 hb8 hg8; have hx8 := hx7.grown hg8 (by omega))
      | (refine wLdB rfl 33 (.tmp 10) rfl _ rfl hb8 _ Tryz.underlying33 rfl 64 size48 (bv_sz HL.out) ?_)
      | (go_at_call 67; (with_reducible refine (HBW.out _).mono ?_); rintro e w9 ⟨rfl, hx9⟩; have hx89 := hx8.trans hx9))
     go_roundw
     case rel => exact ⟨k + 1, by omega, by go_num, HNX, hx.trans hx89⟩
     case measure => simp [intOf]; omega
   | false =>
     have HNO : Hid (allIn Z (-40000) 40000 = false) := hid_ (by
      cases h9 : allIn Z (-40000) 40000 with
      | false => rfl
      | true => have := HALL.out h9; rw [hq] at this; cases this)
     rw [hq] at HNX HALL HBW
     clear hq
     go_wp2_with (first
      | (refine wpList_load_any (by rfl) 33 (.tmp 31) rfl (ad.add (k * 64)) rfl (ints zs) _ HCA.out Tryz.underlying33 rfl (by rw [ints_len, HL.out]; exact size48) ?_)
      | (refine wAlo' rfl (some 10) rfl 33 rfl _ HZ0.out ?_; intro w7 g7 hb7 hx7 hg7)
      | (refine wStB rfl 33 (.tmp 10) (.tmp 32) rfl _ _ rfl rfl hb7 64 size48 (bv_sz HL.out) zero48s (bv_one zs) ?_; intro w8 hb8 hg8; have hx8 := hx7.grown hg8 (by omega))
      | (refine wLdB rfl 33 (.tmp 10) rfl _ rfl hb8 _ Tryz.underlying33 rfl 64 size48 (bv_sz HL.out) ?_)
      | (go_at_call 67; (with_reducible refine (HBW.out _).mono ?_); rintro e w9 ⟨rfl, hx9⟩; have hx89 := hx8.trans hx9))
     go_ret2
     exact join_err (by rw [HE.out, HNO.out]; rfl) (by decide) rfl (hx.trans hx89)
  ·have ek : k = n := by omega
   have HA : Hid (allIn Z (-40000) 40000 = true) := hid_ (by have := HB.out; rw [ek, ← HZ.out, List.take_length] at this; exact this)
   rw [ek]
   clear ek hk hlt HB
   have hB0 := hx.size
   go_wp2_with fail
   go_loopw [11, 38] (fun u y wr => ∃ (y0 m : Nat), y0 ≤ hi ∧ Hid (m = y0 * wd) ∧ m ≤ 4096 ∧ y = .int .i64 ((y0 : Nat) : Int) ∧ wr.ownsRow w.heap.size 3 1 u m (ints ((joinZ Z wd hi).take m)) ∧ Ext w wr) (fun _ y _ => hi - (intOf y).toNat)
   case atStart => exact ⟨0, 0, by omega, hid_ (by omega), by omega, rfl, by simpa [ints] using own_nil _ _ _ 1, hx⟩
   case round =>
    clear hx hB0
    obtain ⟨y, m0, hy, HM0, hm0, rfl, hown, hx⟩ := hrel
    by_cases hlt : y < hi
    ·go_wp2_with fail
     go_loopw [11, 42] (fun u x wr => ∃ (x0 m : Nat), x0 ≤ wd ∧ Hid (m = y * wd + x0) ∧ m ≤ 4096 ∧ x = .int .i64 ((x0 : Nat) : Int) ∧ wr.ownsRow w.heap.size 3 1 u m (ints ((joinZ Z wd hi).take m)) ∧ Ext w wr) (fun _ x _ => wd - (intOf x).toNat)
     case atStart => exact ⟨0, m0, by omega, hid_ (by rw [HM0.out]; rfl), hm0, rfl, hown, hx⟩
     case round =>
      clear hown hx
      obtain ⟨x, m, hxw, HM, hm9, rfl, hown, hx⟩ := hrel
      by_cases hltx : x < wd
      ·have hml : m < n0 := by
        have h9 := Nat.mul_le_mul_right wd (show y + 1 ≤ hi by omega)
        rw [Nat.add_mul, Nat.mul_comm hi wd, HN0.out] at h9
        have := HM.out
        omega
       have hkb : y / 8 * ((wd + 7) / 8) ≤ 8 * 8 := Nat.mul_le_mul (by omega) (by omega)
       have hwd8 : (wd + 7) / 8 ≤ 8 := by omega
       obtain ⟨k2, hk2⟩ : ∃ k2, y / 8 * ((wd + 7) / 8) + x / 8 = k2 := ⟨_, rfl⟩
       obtain ⟨p, hpx⟩ : ∃ p, y % 8 * 8 + x % 8 = p := ⟨_, rfl⟩
       have hp : p < 64 := by omega
       have hji : jidx wd y x = k2 * 64 + p := by rw [← hk2, ← hpx]; rfl
       have hk : k2 < n := by have := HIX.out y x hltx hlt; omega
       have HKX := hid_ hk2
       have HPX := hid_ hpx
       obtain ⟨ad, zs, rfl, hab, hca, hzs, hl⟩ := blk_part (hv.ext hx) HZ.out hk
       have hjl : p < zs.length := by omega
       have hzp : (bv zs)[p]? = some (.int .i64 zs[p]) := bv_at zs p hjl
       have hval : joinAt Z wd y x = clampZ (zs[p] + 128) 0 255 := by
        rw [HUN.out, hji]
        have e := List.getElem?_eq_getElem hjl
        subst hzs
        rw [List.getElem?_take_of_lt hp, List.getElem?_drop] at e
        rw [List.getD_eq_getElem?_getD, e]
        rfl
       have hzb : -40000 ≤ zs[p] ∧ zs[p] ≤ 40000 := by
        have hmem : ∀ z ∈ zs, z ∈ Z := fun z hz => by
         rw [hzs] at hz
         exact List.mem_of_mem_drop (List.mem_of_mem_take hz)
        exact allIn_iff.1 HA.out _ (hmem _ (List.getElem_mem hjl))
       have HNEXT : Hid ((joinZ Z wd hi).take (m + 1) = (joinZ Z wd hi).take m ++ [clampZ (zs[p] + 128) 0 255]) := hid_ (by
        have h9 := HJA.out y x hltx hlt
        rw [← HM.out, hval] at h9
        rw [List.take_add_one, h9]; rfl)
       have HCA := hid_ hca
       have HL := hid_ hl
       have HZP := hid_ hzp
       generalize zs[p] = z at *
       clear hca hl hzs hk2 hpx hji hval hzp
       have HCL := hid_ (fun W => clamp_any (z + 128) 0 255 W)
       generalize clampZ (z + 128) 0 255 = cz at *
       obtain ⟨hz1, hz2⟩ := hzb
       go_upto_region 19 with fail
       refine wp_region_lit ?_
       refine wl_run rfl (.slice (some ad) n c) (ex_move rfl rfl) ?_
       simp only [Act.put, sA, sB, sC]
       refine wl_run rfl (.int .i64 ((y : Nat) : Int)) (ex_move rfl rfl) ?_
       simp only [Act.put, sA, sB, sC]
       refine wl_run rfl (.int .i64 ((y / 8 : Nat) : Int)) (ex_quoN (i := y) (d := 8) rfl rfl rfl (by omega) (by omega)) ?_
       simp only [Act.put, sA, sB, sC]
       refine wl_run rfl (.int .i64 ((wd : Nat) : Int)) (ex_move rfl rfl) ?_
       simp only [Act.put, sA, sB, sC]
       refine wl_run rfl (.int .i64 ((wd + 7 : Nat) : Int)) (ex_addN (i := wd) (d := 7) rfl rfl rfl (by omega)) ?_
       simp only [Act.put, sA, sB, sC]
       refine wl_run rfl (.int .i64 (((wd + 7) / 8 : Nat) : Int)) (ex_quoN (i := wd + 7) (d := 8) rfl rfl rfl (by omega) (by omega)) ?_
       simp only [Act.put, sA, sB, sC]
       refine wl_run rfl (.int .i64 (((y / 8) * ((wd + 7) / 8) : Nat) : Int)) (ex_mulN (i := y / 8) (d := (wd + 7) / 8) rfl rfl rfl (by omega)) ?_
       simp only [Act.put, sA, sB, sC]
       refine wl_run rfl (.int .i64 ((x : Nat) : Int)) (ex_move rfl rfl) ?_
       simp only [Act.put, sA, sB, sC]
       refine wl_run rfl (.int .i64 ((x / 8 : Nat) : Int)) (ex_quoN (i := x) (d := 8) rfl rfl rfl (by omega) (by omega)) ?_
       simp only [Act.put, sA, sB, sC]
       refine wl_run rfl (.int .i64 ((k2 : Nat) : Int)) (by rw [← HKX.out]; exact ex_addN (i := (y / 8) * ((wd + 7) / 8)) (d := x / 8) rfl rfl rfl (by omega)) ?_
       simp only [Act.put, sA, sB, sC]
       refine wl_run rfl (.pointer (some (ad.add (k2 * 64)))) (ex_ixSl Tryz.underlying25 size48 rfl rfl rfl hk) ?_
       simp only [Act.put, sA, sB, sC]
       go_upto_region 20 with (first
        | (refine wpList_load_any (by rfl) 33 (.tmp 55) rfl (ad.add (k2 * 64)) rfl (ints zs) _ HCA.out Tryz.underlying33 rfl (by rw [ints_len, HL.out]; exact size48) ?_)
        | (refine wAlo' rfl (some 14) rfl 33 rfl _ HZ0.out ?_; intro w7 g hb7 hx7 hg7)
        | (refine wStB rfl 33 (.tmp 14) (.tmp 56) rfl _ _ rfl rfl hb7 64 size48 (bv_sz HL.out) zero48s (bv_one zs) ?_; intro w8 hb8 hg8; have hx8 := hx7.grown hg8 (by omega)))
       have hcz : w8.cell? ⟨g, p, none⟩ = some (.int .i64 z) := (hb8.cell p).trans HZP.out
       refine wp_region_lit ?_
       refine wl_run rfl (_) (ex_move rfl rfl) ?_
       simp only [Act.put, sA, sB, sC]
       refine wl_run rfl (.int .i64 ((y : Nat) : Int)) (ex_move rfl rfl) ?_
       simp only [Act.put, sA, sB, sC]
       refine wl_run rfl (.int .i64 ((y % 8 : Nat) : Int)) (ex_remN (i := y) (d := 8) rfl rfl rfl (by omega) (by omega)) ?_
       simp only [Act.put, sA, sB, sC]
       refine wl_run rfl (.int .i64 (((y % 8) * 8 : Nat) : Int)) (ex_mulN (i := y % 8) (d := 8) rfl rfl rfl (by omega)) ?_
       simp only [Act.put, sA, sB, sC]
       refine wl_run rfl (.int .i64 ((x : Nat) : Int)) (ex_move rfl rfl) ?_
       simp only [Act.put, sA, sB, sC]
       refine wl_run rfl (.int .i64 ((x % 8 : Nat) : Int)) (ex_remN (i := x) (d := 8) rfl rfl rfl (by omega) (by omega)) ?_
       simp only [Act.put, sA, sB, sC]
       refine wl_run rfl (.int .i64 ((p : Nat) : Int)) (by rw [← HPX.out]; exact ex_addN (i := (y % 8) * 8) (d := x % 8) rfl rfl rfl (by omega)) ?_
       simp only [Act.put, sA, sB, sC]
       refine wl_run rfl (.pointer (some ⟨g, p, none⟩)) (ex_ixArr0 Tryz.underlying33 sizeI rfl rfl rfl hp) ?_
       simp only [Act.put, sA, sB, sC]
       refine wl_read rfl (.int .i64 (z)) (ex_loadI rfl rfl hcz) ?_
       simp only [Act.put, sA, sB, sC]
       refine wl_run rfl (.int .i64 (z + 128)) (ex_addI (i := z) (d := 128) rfl rfl rfl (by omega)) ?_
       simp only [Act.put, sA, sB, sC]
       go_wp2_with (first
        | (go_at_call 119; (with_reducible refine (HCL.out _).mono ?_); rintro e w9 ⟨rfl, rfl⟩)
        | (at_builtin; go_must (refine wpList_append_sl elt_intJ rfl _ _ rfl w.heap.size _ _ _ rfl ((own_keep hown hx8).alloc _) _ 1 [.int .i64 cz] rfl (one_sl _ _ _) (int_one cz) (by omega) (by omega) (by have := hx.size; have := hx8.size; simp; omega) ?_); intro v' w9 hown9 hb9))
       go_roundw
       case rel => exact ⟨x + 1, m + 1, by omega, hid_ (by rw [HM.out]; omega), by omega, by go_num, own_next (by rw [List.length_take, HJL.out]; have := HN0.out; omega) hown9 HNEXT.out, ((hx.trans hx8).alloc _).trans' hb9⟩
       case measure => simp [intOf]; omega
      ·have ex : x = wd := by omega
       go_wp2_with fail
       go_roundw
       case rel => exact ⟨y + 1, m, by omega, hid_ (by rw [HM.out, ex, Nat.add_mul]; omega), hm9, by go_num, hown, hx⟩
       case measure => simp [intOf]; omega
    ·have ey : y = hi := by omega
     have em : m0 = n0 := by rw [HM0.out, ey, Nat.mul_comm, HN0.out]
     rw [em] at hown
     go_wp2_with fail
     go_ret2
     have hE : joinE n Z wd hi (sidesZ wd hi) = 0 := by rw [HE.out, HA.out]; rfl
     obtain ⟨A', c', rfl, hsl, hfs⟩ := own_form hown
     unfold JoinIs
     rw [hE]
     refine ⟨A', n0, c', rfl, ?_, ?_, hx, hfs⟩
     ·rw [if_pos rfl]; exact HN0.out.symm
     ·rw [if_pos rfl]
      rw [List.take_of_length_le (by rw [HJL.out, HN0.out]; omega)] at hsl
      exact hsl
theorem join_any (n : Nat) (Z : List Int) (v : Value) (wd hi : Int) (w : World) (hv : SL w 64 v n (ints Z)) (hz : Z.length = n * 64) : Calls Tryz.prog 114 #[v, .int .i64 wd, .int .i64 hi] w (JoinIs n Z wd hi w) := by
 by_cases h : sidesZ wd hi = 0
 ·obtain ⟨a, b, rfl, rfl, h1, h2, h3, h4⟩ := sides_ok h
  by_cases hn : n = cutN a b
  ·exact join_in n Z v a b w hv hz h h1 h2 h3 h4 hn
  ·exact (join_many n Z v a b w hv hz h h1 h2 h3 h4 hn).mono fun e w' hh => join_err (by unfold joinE; rw [h, if_pos rfl]; simp only [Int.toNat_natCast]; rw [if_neg hn]) (by decide) hh.1 hh.2
 ·exact (join_sides n Z v wd hi w hv hz h).mono fun e w' hh => join_err (by unfold joinE; rw [if_neg h]) (by decide) hh.1 hh.2
theorem rjoin_any (n : Nat) (Z : List Int) (v : Value) (wd hi : Int) (w : World) (hv : SL w 64 v n (ints Z)) (hz : Z.length = n * 64) : Calls Tryz.prog 120 #[v, .int .i64 wd, .int .i64 hi] w (JoinIs n Z wd hi w) := by
 by_cases h : sidesZ wd hi = 0
 ·obtain ⟨a, b, rfl, rfl, h1, h2, h3, h4⟩ := sides_ok h
  by_cases hn : n = cutN a b
  ·exact rjoin_in n Z v a b w hv hz h h1 h2 h3 h4 hn
  ·exact (rjoin_many n Z v a b w hv h h2 h4 hn).mono fun e w' hh => join_err (by unfold joinE; rw [h, if_pos rfl]; simp only [Int.toNat_natCast]; rw [if_neg hn]) (by decide) hh.1 hh.2
 ·exact (rjoin_sides n Z v wd hi w hv h).mono fun e w' hh => join_err (by unfold joinE; rw [if_neg h]) (by decide) hh.1 hh.2
theorem round_pos (n d : Int) (w : World) (h0 : 0 ≤ n) (hn : n ≤ 1000000000000000000) (hd : 1 ≤ d) (hd2 : d ≤ 1000000000000000000) :
 Calls Tryz.prog 97 #[.int .i64 n, .int .i64 d] w fun e w' => e = .returned (.int .i64 (rp n d)) ∧ w = w' := by
 go_enter Tryz.func97, Tryz.ntmps97
 go_wp2_with fail
 go_ret
 exact ⟨rfl, rfl⟩
theorem round_any (n d : Int) (w : World) (hn1 : -1000000000000000000 ≤ n) (hn : n ≤ 1000000000000000000) (hd : 1 ≤ d) (hd2 : d ≤ 1000000000000000000) :
 Calls Tryz.prog 97 #[.int .i64 n, .int .i64 d] w fun e w' => e = .returned (.int .i64 (rnd n d)) ∧ w = w' := by
 by_cases h : n < 0
 ·have hb := rp_bounds (-n) d (by omega) hd
  obtain ⟨hb1, hb2⟩ := hb
  go_enter Tryz.func97, Tryz.ntmps97
  go_wp2_with (go_at_call 97; refine (round_pos _ _ _ (by omega) (by omega) hd hd2).mono ?_; rintro e w' ⟨rfl, rfl⟩)
  go_ret
  exact ⟨by simp [rnd, h], rfl⟩
 ·unfold rnd; rw [if_neg h]
  exact round_pos n d w (by omega) hn hd hd2
theorem within_any (n most : Int) (w : World) (h0 : 0 ≤ most) (h1 : most ≤ 1000000000000000000) :
 Calls Tryz.prog 96 #[.int .i64 n, .int .i64 most] w fun e w' => e = .returned (.int .i64 (clampZ n (-most) most)) ∧ w = w' := by
 have hd : n < -most ∨ (-most ≤ n ∧ n ≤ most) ∨ most < n := by omega
 rcases hd with hd | ⟨hd1, hd2⟩ | hd
 ·have e : clampZ n (-most) most = -most := by unfold clampZ; rw [if_pos hd]
  rw [e]; clear e
  go_enter Tryz.func96, Tryz.ntmps96
  go_wp2
  all_goals
   go_ret
   refine ⟨?_, rfl⟩
   first
    | rfl
    | (show Ending.returned (.int .i64 (min (max n (-most)) most)) = _; congr 2; omega)
 ·have e : clampZ n (-most) most = n := by unfold clampZ; rw [if_neg (by omega), if_neg (by omega)]
  rw [e]; clear e
  go_enter Tryz.func96, Tryz.ntmps96
  go_wp2
  all_goals
   go_ret
   refine ⟨?_, rfl⟩
   first
    | (show Ending.returned (.int .i64 (min (max n (-most)) most)) = _; congr 2; omega)
    | (congr 2; try omega)
 ·have e : clampZ n (-most) most = most := by unfold clampZ; rw [if_neg (by omega), if_pos hd]
  rw [e]; clear e
  have hd' : ¬ n < -most := by omega
  go_enter Tryz.func96, Tryz.ntmps96
  go_wp2
  all_goals
   go_ret
   refine ⟨?_, rfl⟩
   first
    | rfl
    | (show Ending.returned (.int .i64 (min (max n (-most)) most)) = _; congr 2; omega)
set_option maxRecDepth 20000
theorem size65 : (Tryz.prog.info? 125).map (·.size) = some 12 := by kernel_rfl
theorem size64_ : (Tryz.prog.info? 124).map (·.size) = some 4 := by kernel_rfl
theorem size66 : (Tryz.prog.info? 126).map (·.size) = some 3 := by kernel_rfl
theorem zero66 : (Tryz.prog.info? 126).bind (·.zero) = some (.agg (bv [0, 0, 0])) := by kernel_rfl
theorem zero64_ : (Tryz.prog.info? 124).bind (·.zero) = some (.agg (bv [0, 0, 0, 0])) := by kernel_rfl
theorem results_tmp4 {fn : Func} {t u v x : Tmp} (h : fn.results = #[.tmp t, .tmp u, .tmp v, .tmp x]) (tmps : Array Value) (P : Program) (w : World) :
 (results fn tmps).run P w = .ok (.tuple #[tmps.getD t undef, tmps.getD u undef, tmps.getD v undef, tmps.getD x undef]) w := by
 simp [results, h]
def mrow (m : List Int) (i : Nat) : List Int := (m.drop (i * 4)).take 4
def msum (m l : List Int) (i : Nat) (k : Nat) : Int := (mrow m i).getD 3 0 + (List.zipWith (· * ·) ((mrow m i).take k) (l.take k)).sum
def mval (m l : List Int) (i : Nat) : Int := clampZ (rnd (msum m l i 3) 65536) 0 255
theorem mrow_len (m : List Int) (hm : m.length = 12) (i : Nat) (hi : i < 3) : (mrow m i).length = 4 := by simp [mrow]; omega
theorem mrow_bd (m : List Int) (M : Int) (hb : ∀ z ∈ m, -M ≤ z ∧ z ≤ M) (i : Nat) : ∀ z ∈ mrow m i, -M ≤ z ∧ z ≤ M :=
 fun z hz => hb z (List.mem_of_mem_drop (List.mem_of_mem_take hz))
theorem msum_succ (m l : List Int) (i k : Nat) (h1 : k < (mrow m i).length) (h2 : k < l.length) : msum m l i (k + 1) = msum m l i k + (mrow m i)[k] * l[k] := by
 unfold msum
 rw [List.take_succ_eq_append_getElem h1, List.take_succ_eq_append_getElem h2, List.zipWith_append (by simp; omega)]
 simp; omega
theorem msum_bd (m l : List Int) (M : Int) (hM : 0 ≤ M) (hb : ∀ z ∈ m, -M ≤ z ∧ z ≤ M) (hm : m.length = 12) (hl : l.length = 3) (hlb : allIn l 0 255 = true) (i : Nat) (hi : i < 3) :
 ∀ k, k ≤ 3 → -(M + k * (M * 255)) ≤ msum m l i k ∧ msum m l i k ≤ M + k * (M * 255) := by
 intro k
 have hrl := mrow_len m hm i hi
 induction k with
 | zero =>
   intro _
   have h3 : 3 < (mrow m i).length := by omega
   have : msum m l i 0 = (mrow m i)[3] := by simp [msum, h3]
   have := mrow_bd m M hb i _ (List.getElem_mem h3)
   omega
 | succ k ih =>
   intro hk
   have h1 : k < (mrow m i).length := by omega
   have h2 : k < l.length := by omega
   have := ih (by omega)
   rw [msum_succ m l i k h1 h2]
   obtain ⟨a1, a2⟩ := mrow_bd m M hb i _ (List.getElem_mem h1)
   obtain ⟨b1, b2⟩ := allIn_iff.1 hlb _ (List.getElem_mem h2)
   generalize (mrow m i)[k] = x at *
   generalize l[k] = y at *
   have e1 : x * y ≤ M * y := Int.mul_le_mul_of_nonneg_right a2 b1
   have e2 : M * y ≤ M * 255 := Int.mul_le_mul_of_nonneg_left b2 hM
   have e3 : -M * y ≤ x * y := Int.mul_le_mul_of_nonneg_right a1 b1
   rw [Int.neg_mul] at e3
   have e4 : ((k + 1 : Nat) : Int) * (M * 255) = k * (M * 255) + M * 255 := by rw [Int.natCast_succ, Int.add_mul, Int.one_mul]
   omega
theorem run_index_row (m : List Int) (i : Nat) (hi : i < 3) (w : World) : (Instr.index 125 (.agg (bv m)) (.int .i64 (i : Int))).run Tryz.prog w = .ok (.agg (bv (mrow m i))) w := by
 have hc : ((0 : Int) ≤ (i : Int) ∧ (i : Int) < ((3 : Nat) : Int)) = True := by simp; omega
 have hso : (sizeOf 124).run Tryz.prog w = .ok 4 w := by
  cases hq : Tryz.prog.info? 124 with
  | none => have := size64_; simp [hq] at this
  | some inf =>
    have : inf.size = 4 := by have := size64_; simpa [hq] using this
    simp [sizeOf, typeInfo, hq, this]
 have e : (bv m).extract (i * 4) (i * 4 + 4) = bv (mrow m i) := by
  simp [bv, ints, mrow, List.extract_toArray, List.extract_eq_take_drop, List.map_take, List.map_drop]
 simp only [Instr.index, asIntOf, Sem.run_bind, Sem.run_pure, Result.andThen_ok, run_underlying Tryz.underlying125, hc, if_true]
 simp [part, hso, e]
theorem mvals_set (m l : List Int) (i : Nat) (hi : i < 3) : ((List.range i).map (mval m l) ++ List.replicate (3 - i) 0).set i (mval m l i) = (List.range (i + 1)).map (mval m l) ++ List.replicate (3 - (i + 1)) 0 := by
 have hl : ((List.range i).map (mval m l)).length = i := by simp
 rw [List.set_append_right _ _ (by omega), hl, Nat.sub_self]
 obtain ⟨j, hj⟩ : ∃ j, 3 - i = j + 1 := ⟨3 - i - 1, by omega⟩
 have hj2 : 3 - (i + 1) = j := by omega
 rw [hj, hj2, List.replicate_succ, List.set_cons_zero, List.range_succ, List.map_append]
 simp
theorem run_index66 (cs : Array Value) (i : Nat) (u : Value) (hi : i < 3) (hu : cs[i]? = some u) (w : World) : (Instr.index 126 (.agg cs) (.int .i64 (i : Int))).run Tryz.prog w = .ok u w :=
 run_index_agg _ _ 3 cs i u Tryz.underlying126 _ Tryz.underlying3 sizeInt hi hu w
set_option maxHeartbeats 800000 in
theorem three_in (m l : List Int) (w : World) (hm : m.length = 12) (hl : l.length = 3) (hmb : ∀ z ∈ m, -20000000 ≤ z ∧ z ≤ 20000000) (hlb : allIn l 0 255 = true) :
 Calls Tryz.prog 86 #[.agg (bv m), .agg (bv l)] w fun e w' => e = .returned (.tuple #[.int .i64 (mval m l 0), .int .i64 (mval m l 1), .int .i64 (mval m l 2), .int .i64 0]) ∧ Ext w w' := by
 have HL := hid_ hl
 have HLB := hid_ (allIn_iff.1 hlb)
 have hsm := hid_ ((bv_size m).trans hm)
 have hsl := hid_ ((bv_size l).trans hl)
 have HRL := hid_ (fun i hi => mrow_len m hm i hi)
 have HRB := hid_ (mrow_bd m 20000000 hmb)
 have HSB := hid_ (msum_bd m l 20000000 (by omega) hmb hm hl hlb)
 have HIR := hid_ (fun i hi W => run_index_row m i hi W)
 generalize hcm : bv m = cm at *
 generalize hcl : bv l = cl at *
 have HCL := hid_ hcl
 clear hcm hcl hm hl hmb hlb
 go_enter Tryz.func86, Tryz.ntmps86
 go_wp2_with (first
  | (refine wBox rfl 125 (.tmp 0) rfl cm rfl ?_; intro w1 gm hbm1 hx1 hgm)
  | (refine wBox rfl 126 (.tmp 1) rfl cl rfl ?_; intro w2 gl hbl2 hx2 hgl; have hbm2 := hbm1.ext hx2)
  | (refine wAlo' rfl (some 8) rfl 126 rfl _ zero66 ?_; intro w3 go hbo3 hx3 hgo; have hbm3 := hbm2.ext hx3; have hbl3 := hbl2.ext hx3)
  | (refine wLdB rfl 125 (.tmp 2) rfl _ rfl hbm3 _ Tryz.underlying125 rfl 12 size65 hsm.out ?_))
 have hne : go ≠ gl := by have := hbl2.lt; omega
 have hgo' : w.heap.size ≤ go := by have := hx1.size; have := hx2.size; omega
 have hxx := (hx1.trans hx2).trans hx3
 clear hbm1 hbm2 hbm3 hbl2 hx1 hx2 hx3
 go_loopw [15] (fun i wr => ∃ k : Nat, k ≤ 3 ∧ i = .int .i64 k ∧ Blk wr gl 126 cl ∧ Blk wr go 126 (bv ((List.range k).map (mval m l) ++ List.replicate (3 - k) 0)) ∧ Ext w wr) (fun i _ => 3 - (intOf i).toNat)
 case atStart => exact ⟨0, by omega, rfl, hbl3, hbo3, hxx⟩
 case round =>
  obtain ⟨k, hk, rfl, hb1, hb2, hx⟩ := hrel
  by_cases hlt : k < 3
  ·have hix := HIR.out k hlt
   have hrl := HRL.out k hlt
   have hrs := hid_ ((bv_size (mrow m k)).trans hrl)
   have hro := hid_ (bv_one (mrow m k))
   have hz4 : Hid ((Value.agg (bv [0, 0, 0, 0])).cells.size = 4) := hid_ rfl
   have hrz := zero64_
   have HRZ := hid_ hrz
   have h3 : 3 < (mrow m k).length := by omega
   have hr3 := hid_ (bv_at (mrow m k) 3 h3)
   have HRK := hid_ (fun j (hj : j < (mrow m k).length) => bv_at (mrow m k) j hj)
   clear hrz
   generalize bv (mrow m k) = cr at *
   go_wp2_with (first
    | (refine wAlo' rfl (some 10) rfl 124 rfl _ HRZ.out ?_; intro w4 gr hbr4 hx4 hgr)
    | (refine wStB rfl 124 (.tmp 10) (.tmp 18) rfl _ _ rfl rfl hbr4 4 size64_ hrs.out hz4.out hro.out ?_; intro w5 hbr5 hg5; have hl3 : w5.cell? ⟨gr, 3, none⟩ = some (.int .i64 (mrow m k)[3]) := (hbr5.cell 3).trans hr3.out; have hbl5 := (hb1.ext hx4).grown hg5 (by have := hb1.lt; simp; omega); have hbo5 := (hb2.ext hx4).grown hg5 (by have := hb2.lt; simp; omega))
    | (refine wLdB rfl 126 (.tmp 3) rfl _ rfl hbl5 _ Tryz.underlying126 rfl 3 size66 hsl.out ?_))
   have hgr' : w.heap.size ≤ gr := by have := hx.size; omega
   have hx5 := (hx.trans hx4).grown hg5 hgr'
   clear hb1 hb2 hx hx4 hg5 hbr4
   have hs0 : msum m l k 0 = (mrow m k)[3] := by simp [msum, h3]
   have HS0 := hid_ hs0
   clear hs0
   go_loop [11, 22] (fun s j => ∃ n : Nat, n ≤ 3 ∧ j = .int .i64 n ∧ s = .int .i64 (msum m l k n)) (fun _ j => 3 - (intOf j).toNat)
   case atStart => exact ⟨0, by omega, rfl, by rw [HS0.out]⟩
   case round =>
    obtain ⟨n, hn, rfl, rfl⟩ := hrel
    by_cases hlt2 : n < 3
    ·have hnl : n < l.length := by have := HL.out; omega
     have hnr : n < (mrow m k).length := by omega
     have hix2 := run_index66 cl n (.int .i64 l[n]) hlt2 (by rw [← HCL.out]; exact bv_at l n hnl)
     have hrn : w5.cell? ⟨gr, n, none⟩ = some (.int .i64 (mrow m k)[n]) := (hbr5.cell n).trans (HRK.out n hnr)
     obtain ⟨l1, l2⟩ := HLB.out _ (List.getElem_mem hnl)
     obtain ⟨r1, r2⟩ := HRB.out k _ (List.getElem_mem hnr)
     obtain ⟨s1, s2⟩ := HSB.out k hlt n hn
     have HN := hid_ (msum_succ m l k n hnr hnl)
     generalize (mrow m k)[n] = x at *
     generalize l[n] = y at *
     have e1 : x * y ≤ 20000000 * y := Int.mul_le_mul_of_nonneg_right r2 l1
     have e3 : -20000000 * y ≤ x * y := Int.mul_le_mul_of_nonneg_right r1 l1
     generalize msum m l k n = s at *
     go_wp2_with fail
     go_round
     case rel => exact ⟨n + 1, by omega, by go_num, by rw [HN.out]⟩
     case measure => simp [intOf]; omega
    ·obtain rfl : n = 3 := by omega
     obtain ⟨s1, s2⟩ := HSB.out k hlt 3 hn
     obtain ⟨q1, q2⟩ := rnd_bounds (msum m l k 3) 65536 (by omega)
     have HR := hid_ (fun W => round_any (msum m l k 3) 65536 W (by omega) (by omega) (by omega) (by omega))
     have HM2 : Hid (min (max (rnd (msum m l k 3) 65536) 0) 255 = mval m l k) := hid_ (by unfold mval clampZ; (repeat' split) <;> omega)
     have HM : Hid ((if 255 < (if rnd (msum m l k 3) 65536 < 0 then 0 else rnd (msum m l k 3) 65536) then 255 else (if rnd (msum m l k 3) 65536 < 0 then 0 else rnd (msum m l k 3) 65536)) = mval m l k) := hid_ (by unfold mval clampZ; (repeat' split) <;> omega)
     obtain ⟨old, hold⟩ : ∃ u, w5.cell? ⟨go, k, none⟩ = some u := by
      rw [hbo5.cell k]
      have hl : ((List.range k).map (mval m l) ++ List.replicate (3 - k) 0).length = 3 := by simp; omega
      exact ⟨_, bv_at _ k (by omega)⟩
     have hfr := hbo5.frozen k
     generalize rnd (msum m l k 3) 65536 = r at *
     generalize msum m l k 3 = s at *
     go_wp2_with (go_at_call 97; (with_reducible refine (HR.out _).mono ?_); rintro e w' ⟨rfl, rfl⟩)
     first
      | rw [HM.out]
      | rw [HM2.out]
     go_roundw
     case rel =>
      refine ⟨k + 1, by omega, by go_num, hbl5.far (p := ⟨go, k, none⟩) (by simpa using hne.symm) _, ?_, hx5.setCell (by omega) _⟩
      have := hbo5.set_ k (.int .i64 (mval m l k))
      rw [bv_set, mvals_set m l k hlt] at this
      exact this
     case measure => simp [intOf]; omega
  ·have ek : k = 3 := by omega
   rw [ek] at hb2
   have hc0 : wr.cell? ⟨go, 0, none⟩ = some (.int .i64 (mval m l 0)) := (hb2.cell 0).trans (by rfl)
   have hc1 : wr.cell? ⟨go, 1, none⟩ = some (.int .i64 (mval m l 1)) := (hb2.cell 1).trans (by rfl)
   have hc2 : wr.cell? ⟨go, 2, none⟩ = some (.int .i64 (mval m l 2)) := (hb2.cell 2).trans (by rfl)
   go_wp2_with fail
   go_quiet (fail)
   go_wp2_with fail
   (try simp only [Exit.inBlock, Exit.then]); refine bodyPost_ret (results_tmp4 rfl _ _ _) rfl ?_; exact ⟨rfl, hx.trans (below_drewN (Ext.refl wr) nq)⟩
set_option maxHeartbeats 800000 in
theorem three_out (m l : List Int) (w : World) (hm : m.length = 12) (hl : l.length = 3) (hmb : ∀ z ∈ m, -20000000 ≤ z ∧ z ≤ 20000000) (hlb : allIn l 0 255 = false) :
 Calls Tryz.prog 86 #[.agg (bv m), .agg (bv l)] w fun e w' => e = .returned (.tuple #[.int .i64 0, .int .i64 0, .int .i64 0, .int .i64 1]) ∧ Ext w w' := by
 have HL := hid_ hl
 have HLB := hid_ hlb
 have hsm := hid_ ((bv_size m).trans hm)
 have hsl := hid_ ((bv_size l).trans hl)
 have hrl := mrow_len m hm 0 (by omega)
 have HRB := hid_ (mrow_bd m 20000000 hmb 0)
 have HIR := fun W => run_index_row m 0 (by omega) W
 generalize hcm : bv m = cm at *
 generalize hcl : bv l = cl at *
 have HCL := hid_ hcl
 clear hcm hcl hm hl hmb hlb
 have hrs := hid_ ((bv_size (mrow m 0)).trans hrl)
 have hro := hid_ (bv_one (mrow m 0))
 have hz4 : Hid ((Value.agg (bv [0, 0, 0, 0])).cells.size = 4) := hid_ rfl
 have hrz := zero64_
 have HRZ := hid_ hrz
 have h3 : 3 < (mrow m 0).length := by omega
 have hr3 := hid_ (bv_at (mrow m 0) 3 h3)
 have HRK := hid_ (fun j (hj : j < (mrow m 0).length) => bv_at (mrow m 0) j hj)
 clear hrz
 generalize bv (mrow m 0) = cr at *
 go_enter Tryz.func86, Tryz.ntmps86
 go_wp2_with (first
  | (refine wBox rfl 125 (.tmp 0) rfl cm rfl ?_; intro w1 gm hbm1 hx1 hgm)
  | (refine wBox rfl 126 (.tmp 1) rfl cl rfl ?_; intro w2 gl hbl2 hx2 hgl; have hbm2 := hbm1.ext hx2)
  | (refine wAlo' rfl (some 8) rfl 126 rfl _ zero66 ?_; intro w3 go hbo3 hx3 hgo; have hbm3 := hbm2.ext hx3; have hbl3 := hbl2.ext hx3)
  | (refine wLdB rfl 125 (.tmp 2) rfl _ rfl hbm3 _ Tryz.underlying125 rfl 12 size65 hsm.out ?_))
 have hxx := (hx1.trans hx2).trans hx3
 clear hbm1 hbm2 hbm3 hbl2 hx1 hx2 hx3
 go_loopw [15] (fun i wr => i = .int .i64 0 ∧ Blk wr gl 126 cl ∧ Ext w wr) (fun i _ => 3 - (intOf i).toNat)
 case atStart => exact ⟨rfl, hbl3, hxx⟩
 case round =>
  obtain ⟨rfl, hb1, hx⟩ := hrel
  have hix : ∀ W, (Instr.index 125 (.agg cm) (.int .i64 0)).run Tryz.prog W = .ok (.agg cr) W := HIR
  go_wp2_with (first
   | (refine wAlo' rfl (some 10) rfl 124 rfl _ HRZ.out ?_; intro w4 gr hbr4 hx4 hgr)
   | (refine wStB rfl 124 (.tmp 10) (.tmp 18) rfl _ _ rfl rfl hbr4 4 size64_ hrs.out hz4.out hro.out ?_; intro w5 hbr5 hg5; have hl3 : w5.cell? ⟨gr, 3, none⟩ = some (.int .i64 (mrow m 0)[3]) := (hbr5.cell 3).trans hr3.out; have hbl5 := (hb1.ext hx4).grown hg5 (by have := hb1.lt; simp; omega))
   | (refine wLdB rfl 126 (.tmp 3) rfl _ rfl hbl5 _ Tryz.underlying126 rfl 3 size66 hsl.out ?_))
  have hgr' : w.heap.size ≤ gr := by have := hx.size; omega
  have hx5 := (hx.trans hx4).grown hg5 hgr'
  clear hb1 hx hx4 hg5 hbr4
  obtain ⟨b1, b2⟩ := HRB.out _ (List.getElem_mem h3)
  go_loop [11, 22] (fun s j => ∃ n : Nat, n ≤ 3 ∧ j = .int .i64 n ∧ (∃ z : Int, s = .int .i64 z ∧ -(20000000 + n * (20000000 * 255)) ≤ z ∧ z ≤ 20000000 + n * (20000000 * 255)) ∧ ∀ z ∈ l.take n, 0 ≤ z ∧ z ≤ 255) (fun _ j => 3 - (intOf j).toNat)
  case atStart => exact ⟨0, by omega, rfl, ⟨_, rfl, by omega, by omega⟩, by simp⟩
  case round =>
   obtain ⟨n, hn, rfl, ⟨s, rfl, s1, s2⟩, hin⟩ := hrel
   by_cases hlt2 : n < 3
   ·have hnl : n < l.length := by have := HL.out; omega
    have hnr : n < (mrow m 0).length := by omega
    have hix2 := run_index66 cl n (.int .i64 l[n]) hlt2 (by rw [← HCL.out]; exact bv_at l n hnl)
    have hrn : w5.cell? ⟨gr, n, none⟩ = some (.int .i64 (mrow m 0)[n]) := (hbr5.cell n).trans (HRK.out n hnr)
    obtain ⟨r1, r2⟩ := HRB.out _ (List.getElem_mem hnr)
    have HIN := hid_ hin
    clear hin
    by_cases h0 : l[n] < 0
    ·clear s1 s2
     go_wp2_with fail
     (try simp only [Exit.inBlock, Exit.then]); refine bodyPost_ret (results_tmp4 rfl _ _ _) rfl ?_; exact ⟨rfl, hx5⟩
    ·by_cases h1 : 255 < l[n]
     ·clear s1 s2
      go_wp2_with fail
      (try simp only [Exit.inBlock, Exit.then]); refine bodyPost_ret (results_tmp4 rfl _ _ _) rfl ?_; exact ⟨rfl, hx5⟩
     ·have HN := hid_ (allIn_take HIN.out hnl (lo := 0) (hi := 255) ⟨by omega, by omega⟩)
      generalize (mrow m 0)[n] = x at *
      generalize l[n] = y at *
      have e1 : x * y ≤ 20000000 * y := Int.mul_le_mul_of_nonneg_right r2 (by omega)
      have e3 : -20000000 * y ≤ x * y := Int.mul_le_mul_of_nonneg_right r1 (by omega)
      go_wp2_with fail
      go_round
      case rel => exact ⟨n + 1, by omega, by go_num, ⟨_, rfl, by omega, by omega⟩, HN.out⟩
      case measure => simp [intOf]; omega
   ·exfalso
    have := HLB.out
    rw [← Bool.not_eq_true, allIn_iff] at this
    refine this fun z hz => hin z ?_
    rwa [List.take_of_length_le (by have := HL.out; omega)]
def threeZ (m l : List Int) : Int × Int × Int × Int := if allIn l 0 255 then (mval m l 0, mval m l 1, mval m l 2, 0) else (0, 0, 0, 1)
theorem three_any (m l : List Int) (w : World) (hm : m.length = 12) (hl : l.length = 3) (hmb : ∀ z ∈ m, -20000000 ≤ z ∧ z ≤ 20000000) :
 Calls Tryz.prog 86 #[.agg (bv m), .agg (bv l)] w fun e w' => e = .returned (.tuple #[.int .i64 (threeZ m l).1, .int .i64 (threeZ m l).2.1, .int .i64 (threeZ m l).2.2.1, .int .i64 (threeZ m l).2.2.2]) ∧ Ext w w' := by
 unfold threeZ
 cases h1 : allIn l 0 255 with
 | false => simpa using three_out m l w hm hl hmb h1
 | true => simpa using three_in m l w hm hl hmb h1
set_option maxRecDepth 20000
set_option maxHeartbeats 400000 in
theorem tsamples_any (l : List Int) (A : Option Addr) (c : Nat) (w : World) (n : Nat) (hn : l.length = n) (hl : SL w 1 (.slice A n c) n (ints l)) (hb : n ≤ 1000) :
 Calls Tryz.prog 124 #[.slice A n c] w fun e w' => e = .returned (.bool (allIn l 0 255)) ∧ w = w' := by
 subst hn
 go_enter Tryz.func124, Tryz.ntmps124
 go_wp2_with fail
 go_loop [7] (fun i => ∃ k : Nat, k ≤ l.length ∧ i = .int .i64 k ∧ ∀ z ∈ l.take k, 0 ≤ z ∧ z ≤ 255) (fun i => l.length - (intOf i).toNat)
 case atStart => exact ⟨0, by omega, rfl, by simp⟩
 case round =>
  obtain ⟨k, hk, rfl, hin⟩ := hrel
  by_cases hlt : k < l.length
  ·obtain ⟨ad, u, rfl, -, hxo, hco⟩ := hl.at1 hlt
   obtain ⟨hko, rfl⟩ := ints_at _ _ _ hxo
   cases hq : inB l[k] 0 255 with
   | true =>
     have HN := hid_ (allIn_take hin hlt (inB_iff.1 hq))
     clear hin hxo
     go_wp2_with (go_at_call 54; refine (outside_any _ _ _ _).mono ?_; rintro e w' ⟨rfl, rfl⟩)
     go_round
     case rel => exact ⟨k + 1, by omega, by go_num, HN.out⟩
     case measure => simp [intOf]; omega
   | false =>
     have HF := hid_ (allIn_no hlt hq)
     clear hin hxo
     go_wp2_with (go_at_call 54; refine (outside_any _ _ _ _).mono ?_; rintro e w' ⟨rfl, rfl⟩)
     go_ret
     exact ⟨by rw [HF.out]; rfl, rfl⟩
  ·have HF : Hid (allIn l 0 255 = true) := hid_ (allIn_iff.2 fun z hz => hin z (by rwa [List.take_of_length_le (by omega)]))
   clear hin
   go_wp2_with fail
   go_ret
   exact ⟨by rw [HF.out]; rfl, rfl⟩
theorem sample_any (n : Int) (w : World) (h1 : -1000000000000 ≤ n) (h2 : n ≤ 1000000000000) :
 Calls Tryz.prog 125 #[.int .i64 n] w fun e w' => e = .returned (.int .i64 (clampZ (rnd n 65536) 0 255)) ∧ w = w' := by
 have HR := hid_ (fun W => rround_any n 65536 W (by omega) (by omega) (by omega) (by omega))
 generalize rnd n 65536 = r at *
 go_enter Tryz.func125, Tryz.ntmps125
 go_wp2_with (first
  | (go_at_call 127; (with_reducible refine (HR.out _).mono ?_); rintro e w' ⟨rfl, rfl⟩)
  | (go_at_call 119; refine (clamp_any _ _ _ _).mono ?_; rintro e w' ⟨rfl, rfl⟩))
 go_ret
 exact ⟨rfl, rfl⟩
def frM : List Int := [65536, 0, 91881, -11760768, 65536, -22554, -46802, 8877568, 65536, 116130, 0, -14864640]
theorem tintFrom_any (y u v : Int) (w : World) : Calls Tryz.prog 115 #[.int .i64 y, .int .i64 u, .int .i64 v] w fun e w' => e = .returned (.tuple #[.int .i64 (threeZ frM [y, u, v]).1, .int .i64 (threeZ frM [y, u, v]).2.1, .int .i64 (threeZ frM [y, u, v]).2.2.1, .int .i64 (threeZ frM [y, u, v]).2.2.2]) ∧ Ext w w' := by
 have HT := hid_ (fun W => three_any frM [y, u, v] W rfl rfl (by decide))
 have e1 : bv frM = #[.int .i64 65536, .int .i64 0, .int .i64 91881, .int .i64 (-11760768), .int .i64 65536, .int .i64 (-22554), .int .i64 (-46802), .int .i64 8877568, .int .i64 65536, .int .i64 116130, .int .i64 0, .int .i64 (-14864640)] := rfl
 have e2 : bv [y, u, v] = #[.int .i64 y, .int .i64 u, .int .i64 v] := rfl
 rw [e1, e2] at HT
 clear e1 e2
 generalize threeZ frM [y, u, v] = t at *
 go_enter Tryz.func115, Tryz.ntmps115
 go_wp2_with (first
  | (go_at_call 86; (with_reducible refine (HT.out _).mono ?_); rintro e w1 ⟨rfl, hx1⟩))
 (try simp only [Exit.inBlock, Exit.then]); refine bodyPost_ret (results_tmp4 rfl _ _ _) rfl ?_; exact ⟨rfl, hx1⟩
theorem rtintFrom_any (y u v : Int) (w : World) : Calls Tryz.prog 121 #[.int .i64 y, .int .i64 u, .int .i64 v] w fun e w' => e = .returned (.tuple #[.int .i64 (threeZ frM [y, u, v]).1, .int .i64 (threeZ frM [y, u, v]).2.1, .int .i64 (threeZ frM [y, u, v]).2.2.1, .int .i64 (threeZ frM [y, u, v]).2.2.2]) ∧ Ext w w' := by
 have HS := hid_ (fun W A c (h : SL W 1 (.slice A 3 c) 3 (ints [y, u, v])) => tsamples_any [y, u, v] A c W 3 rfl h (by omega))
 have HSL := hid_ (fun (W : World) => (Blk.new W 3 #[.int .i64 y, .int .i64 u, .int .i64 v]).sl (size := 1) (n := 3) (c := 3) rfl (by omega) (by omega))
 cases hq : allIn [y, u, v] 0 255 with
 | true =>
   rw [hq] at HS
   have hb := allIn_iff.1 hq
   obtain ⟨r1, r2⟩ := hb y (by simp)
   obtain ⟨g1, g2⟩ := hb u (by simp)
   obtain ⟨b1, b2⟩ := hb v (by simp)
   have e0 : mval frM [y, u, v] 0 = clampZ (rnd (65536 * y + 91881 * (v - 128)) 65536) 0 255 := by
    unfold mval msum mrow frM; simp; congr 2; omega
   have e1 : mval frM [y, u, v] 1 = clampZ (rnd (65536 * y - 22554 * (u - 128) - 46802 * (v - 128)) 65536) 0 255 := by
    unfold mval msum mrow frM; simp; congr 2; omega
   have e2 : mval frM [y, u, v] 2 = clampZ (rnd (65536 * y + 116130 * (u - 128)) 65536) 0 255 := by
    unfold mval msum mrow frM; simp; congr 2; omega
   have HF := hid_ (show threeZ frM [y, u, v] = (clampZ (rnd (65536 * y + 91881 * (v - 128)) 65536) 0 255, clampZ (rnd (65536 * y - 22554 * (u - 128) - 46802 * (v - 128)) 65536) 0 255, clampZ (rnd (65536 * y + 116130 * (u - 128)) 65536) 0 255, 0) by unfold threeZ; rw [if_pos hq, e0, e1, e2])
   clear e0 e1 e2 hb hq
   rw [HF.out]
   have H0 := hid_ (fun W => sample_any (65536 * y + 91881 * (v - 128)) W (by omega) (by omega))
   have H1 := hid_ (fun W => sample_any (65536 * y - 22554 * (u - 128) - 46802 * (v - 128)) W (by omega) (by omega))
   have H2 := hid_ (fun W => sample_any (65536 * y + 116130 * (u - 128)) W (by omega) (by omega))
   generalize clampZ (rnd (65536 * y + 91881 * (v - 128)) 65536) 0 255 = z0 at *
   generalize clampZ (rnd (65536 * y - 22554 * (u - 128) - 46802 * (v - 128)) 65536) 0 255 = z1 at *
   generalize clampZ (rnd (65536 * y + 116130 * (u - 128)) 65536) 0 255 = z2 at *
   go_enter Tryz.func121, Tryz.ntmps121
   go_wp2_with (first
    | (go_at_call 124; (with_reducible refine (HS.out _ _ _ (HSL.out _)).mono ?_); rintro e w1 ⟨rfl, rfl⟩)
    | (go_at_call 125; (with_reducible refine (H0.out _).mono ?_); rintro e w1 ⟨rfl, rfl⟩)
    | (go_at_call 125; (with_reducible refine (H1.out _).mono ?_); rintro e w1 ⟨rfl, rfl⟩)
    | (go_at_call 125; (with_reducible refine (H2.out _).mono ?_); rintro e w1 ⟨rfl, rfl⟩))
   (try simp only [Exit.inBlock, Exit.then]); refine bodyPost_ret (results_tmp4 rfl _ _ _) rfl ?_; exact ⟨rfl, (Ext.refl w).alloc _⟩
 | false =>
   rw [hq] at HS
   have HF := hid_ (show threeZ frM [y, u, v] = (0, 0, 0, 1) by unfold threeZ; rw [hq]; rfl)
   rw [HF.out]
   clear hq
   go_enter Tryz.func121, Tryz.ntmps121
   go_wp2_with (go_at_call 124; (with_reducible refine (HS.out _ _ _ (HSL.out _)).mono ?_); rintro e w1 ⟨rfl, rfl⟩)
   (try simp only [Exit.inBlock, Exit.then]); refine bodyPost_ret (results_tmp4 rfl _ _ _) rfl ?_; exact ⟨rfl, (Ext.refl w).alloc _⟩
section
variable {P : Program} {ops : Array Oper} {C : World → Prop} {Q : Act → Prop} {a : Act} {o : Oper} {rest : List Oper}
theorem q_at (hw : Region.wanted o (yielded ops a.tmps) = true) (v : Value) (hq : ∀ w, C w → o.quietAt P a C w v) (h : wpQuiet P ops C Q rest (a.put o.dst v)) : wpQuiet P ops C Q (o :: rest) a := by
 refine wpQuiet_step fun K hK => ?_
 rw [if_pos hw]
 exact ⟨v, hq, hK _ h⟩
theorem q_run (hw : Region.wanted o (yielded ops a.tmps) = true) (v : Value) (hq : ∀ w, (execOp a.eval o).run P w = .ok (.value v) w) (h : wpQuiet P ops C Q rest (a.put o.dst v)) : wpQuiet P ops C Q (o :: rest) a :=
 q_at hw v (fun w _ => by unfold Oper.quietAt; rw [hq]; exact ⟨rfl, rfl⟩) h
theorem q_move (hw : Region.wanted o (yielded ops a.tmps) = true) (x : Operand) (ho : o.op = .move x) (v : Value) (hx : a.eval x = v) (h : wpQuiet P ops C Q rest (a.put o.dst v)) : wpQuiet P ops C Q (o :: rest) a :=
 q_run hw _ (fun w => by simp [execOp, ho, hx]) h
theorem q_assign (hw : Region.wanted o (yielded ops a.tmps) = true) (x : Operand) (ho : o.op = .assign x) (v : Value) (hx : a.eval x = v) (h : wpQuiet P ops C Q rest (a.put o.dst v)) : wpQuiet P ops C Q (o :: rest) a :=
 q_run hw _ (fun w => by simp [execOp, ho, hx]) h
theorem q_call (hw : Region.wanted o (yielded ops a.tmps) = true) (f : FuncId) (args : Array Value) (he : ∀ w, (execOp a.eval o).run P w = .ok (.enter f args) w) (v : Value)
 (hc : ∀ w, C w → Calls P f args w fun e w' => e = .returned v ∧ C w') (h : wpQuiet P ops C Q rest (a.put o.dst v)) : wpQuiet P ops C Q (o :: rest) a := by
 refine q_at hw v (fun w hC => ?_) h
 unfold Oper.quietAt
 rw [he]
 exact ⟨rfl, hc w hC⟩
theorem q_callF (hw : Region.wanted o (yielded ops a.tmps) = true) (f : FuncId) {fn : Func} (hf : P.funcs[f]? = some fn) (hname : (fn.name == "runtime.NumGoroutine") = false) (hb : fn.body.isSome = true) (xs : Array Operand) (ts : Array TypeId)
 (ho : o.op = .call { callee := .value (.func f), args := xs, argTypes := ts }) (args : Array Value) (hx : xs.map a.eval = args) (v : Value)
 (hc : ∀ w, C w → Calls P f args w fun e w' => e = .returned v ∧ C w') (h : wpQuiet P ops C Q rest (a.put o.dst v)) : wpQuiet P ops C Q (o :: rest) a := by
 obtain ⟨c, hb⟩ := Option.isSome_iff_exists.1 hb
 have hn : ¬ fn.name = "runtime.NumGoroutine" := by simpa using hname
 refine q_call hw f args (fun w => ?_) v hc h
 have he : a.eval (.func f) = .func (.func f) #[] #[] := rfl
 simp [execOp, ho, resolve, hx, he, Deferred.ofValue, invoke, callFunc, hf, hb, hn]
theorem q_binOp (hw : Region.wanted o (yielded ops a.tmps) = true) (op : BinOp) (t : TypeId) (x y : Operand) (t2 : TypeId) (ho : o.op = .binOp op t x y t2) (vx vy : Value) (hx : a.eval x = vx) (hy : a.eval y = vy) (v : Value)
 (hg : ∀ w, (eqGuard op t x y vx vy).run P w = .ok () w) (hr : ∀ w, (binOp op t vx vy).run P w = .ok v w) (h : wpQuiet P ops C Q rest (a.put o.dst v)) : wpQuiet P ops C Q (o :: rest) a :=
 q_run hw v (fun w => by simp [execOp, ho, hx, hy, hg, hr]) h
end
end Go.Proofs.YtkggcjdlpendfaaGreatDoor
