/- quant.Scale, QuantScale of the reference. -/
import Derived.StillTailTactics
import Derived.Test.YtceplnjngbkjhaaQuantBoth
import Derived.Test.YtceplnjngbkjhaaQuantRound
import Derived.Test.YtceplnjngbkjhaaRefRound
namespace Go.Proofs.Ytceplnjngbkjhaa
open Go.RowKit
def scF (p z : Int) : Int := clampZ (rnd (z * p) 100) 1 255
def scaleZ (zs : List Int) (p : Int) : List Int × Int := if allIn zs 1 255 then (if inB p 1 1000 then (zs.map (scF p), 0) else (zeros64, 1)) else (zeros64, 1)
theorem scaleZ_len (zs : List Int) (p : Int) (hz : zs.length = 64) : (scaleZ zs p).1.length = 64 := by
  unfold scaleZ
  split <;> (try split) <;> simp [hz, zeros64]
theorem mid_set (F : Int → Int) (zs : List Int) (k : Nat) (hz : k < zs.length) : ((zs.take k).map F ++ zs.drop k).set k (F zs[k]) = (zs.take (k + 1)).map F ++ zs.drop (k + 1) := by
  have hl : ((zs.take k).map F).length = k := by simp; omega
  rw [List.set_append_right _ _ (by omega), hl, Nat.sub_self, List.drop_eq_getElem_cons hz, List.set_cons_zero, List.take_succ_eq_append_getElem hz, List.map_append]
  simp
theorem mid_len (F : Int → Int) (zs : List Int) (k : Nat) (hk : k ≤ zs.length) : ((zs.take k).map F ++ zs.drop k).length = zs.length := by
  simp; omega
theorem mid_at (F : Int → Int) (zs : List Int) (k : Nat) (hzl : k < zs.length) : (bv ((zs.take k).map F ++ zs.drop k))[k]? = some (.int .i64 zs[k]) := by
  have hl : ((zs.take k).map F).length = k := by simp; omega
  have e : ((zs.take k).map F ++ zs.drop k)[k]? = some zs[k] := by
    rw [List.getElem?_append_right (by omega), hl, Nat.sub_self, List.getElem?_drop]
    simp
  unfold bv ints
  rw [List.getElem?_toArray, List.getElem?_map, e]
  rfl
theorem mul_bd2 (n d : Int) (hn1 : 1 ≤ n) (hn2 : n ≤ 255) (hd1 : 1 ≤ d) (hd2 : d ≤ 1000) : 0 ≤ n * d ∧ n * d ≤ 255000 := by
  have h1 : n * d ≤ 255 * d := Int.mul_le_mul_of_nonneg_right hn2 (by omega)
  have h2 : 0 ≤ n * d := Int.mul_nonneg (by omega) (by omega)
  omega
set_option maxHeartbeats 400000 in
theorem scale_in (zs : List Int) (p : Int) (w : World) (hz : zs.length = 64) (h1 : allIn zs 1 255 = true) (hp1 : 1 ≤ p) (hp2 : p ≤ 1000) :
    Calls Try.prog 37 #[.agg (bv zs), .int .i64 p] w fun e w' => e = .returned (.tuple #[.agg (bv (zs.map (scF p))), .int .i64 0]) ∧ Ext w w' := by
  have HC := hid_ (fun W => qcheck_any zs W hz)
  rw [h1] at HC
  have HZ := hid_ hz
  have hsz := hid_ ((bv_size zs).trans hz)
  have H1 := hid_ h1
  clear hz h1
  generalize hzc : bv zs = cz at *
  have HZC := hid_ hzc
  clear hzc
  go_enter Try.func37, Try.ntmps37
  go_wp2_with (first
    | (refine wpList_box_abs rfl 48 (.tmp 0) rfl cz rfl ?_; intro w1 gz hbz1 hx1 hgz)
    | (refine wpList_alloc_abs rfl 48 rfl _ zero48 ?_; intro w3 gr hbr3 hx3 hgr; have hbz3 := hbz1.ext hx3)
    | (refine wpList_load_blk rfl 48 (.tmp 2) rfl _ rfl hbz3 _ Try.underlying48 rfl 64 size48 hsz.out ?_)
    | (go_at_call 36; (with_reducible refine (HC.out _).mono ?_); rintro e w4 ⟨rfl, hx4⟩; have hbz4 := hbz3.ext hx4; have hbr4 := hbr3.ext hx4)
    | (refine wpList_load_blk rfl 48 (.tmp 2) rfl _ rfl hbz4 _ Try.underlying48 rfl 64 size48 hsz.out ?_))
  have hne1 : gz ≠ gr := by have := hbz1.lt; omega
  have hxx : Ext w w4 := (hx1.trans hx3).trans hx4
  have hw02 : w.heap.size ≤ gr := by have := hx1.size; omega
  clear hbz1 hbz3 hbr3 hx1 hx3 hx4
  go_loopw [23] (fun i wr => ∃ k : Nat, k ≤ 64 ∧ i = .int .i64 k ∧ Blk wr gz 48 (bv ((zs.take k).map (scF p) ++ zs.drop k)) ∧ Blk wr gr 48 (bv zeros64) ∧ Ext w wr) (fun i _ => 64 - (intOf i).toNat)
  case atStart => exact ⟨0, by omega, rfl, by rw [← HZC.out] at hbz4; simpa using hbz4, hbr4, hxx⟩
  case round =>
    obtain ⟨k, hk, rfl, hb1, hb3, hxr⟩ := hrel
    by_cases hlt : k < 64
    · have hzl : k < zs.length := by have := HZ.out; omega
      have hix := fun W => run_index48 cz k (.int .i64 zs[k]) hlt (by rw [← HZC.out]; exact bv_at zs k hzl) W
      obtain ⟨z1, z2⟩ := allIn_iff.1 H1.out zs[k] (List.getElem_mem hzl)
      obtain ⟨m1, m2⟩ := mul_bd2 zs[k] p z1 z2 hp1 hp2
      have hwr : IntKind.i64.wrap (zs[k] * p) = zs[k] * p := IntWalk.i64_in _ (by omega)
      obtain ⟨r1, r2⟩ := rnd_bounds (zs[k] * p) 100 (by omega)
      have HR := hid_ (fun W => round_any (zs[k] * p) 100 W (by omega) (by omega) (by omega) (by omega))
      have HM : Hid ((if 255 < (if rnd (zs[k] * p) 100 < 1 then 1 else rnd (zs[k] * p) 100) then 255 else (if rnd (zs[k] * p) 100 < 1 then 1 else rnd (zs[k] * p) 100)) = clampZ (rnd (zs[k] * p) 100) 1 255) := hid_ (by unfold clampZ; (repeat' split) <;> omega)
      have HS := hid_ (show clampZ (rnd (zs[k] * p) 100) 1 255 = scF p zs[k] from rfl)
      obtain ⟨old, hold⟩ : ∃ u, wr.cell? ⟨gz, k, none⟩ = some u := by
        rw [hb1.cell k]
        have hl := mid_len (scF p) zs k (by omega)
        exact ⟨_, bv_at _ k (by omega)⟩
      have hfr := hb1.frozen k
      generalize rnd (zs[k] * p) 100 = r at *
      clear hwr r1 r2
      go_wp2_with (go_at_call 60; (with_reducible refine (HR.out _).mono ?_); rintro e w' ⟨rfl, rfl⟩)
      rw [HM.out]
      go_wp2_with fail
      go_roundw
      case rel =>
        refine ⟨k + 1, by omega, by go_num, ?_, hb3.far (p := ⟨gz, k, none⟩) (by simpa using hne1.symm) _, hxr.setCell (by omega) _⟩
        have := hb1.set_ k (.int .i64 (scF p zs[k]))
        rw [bv_set, mid_set (scF p) zs k hzl, ← HS.out] at this
        exact this
      case measure => simp [intOf]; omega
    · obtain rfl : k = 64 := by omega
      have hfin : (zs.take 64).map (scF p) ++ zs.drop 64 = zs.map (scF p) := by
        rw [List.take_of_length_le (by have := HZ.out; omega), List.drop_eq_nil_of_le (by have := HZ.out; omega), List.append_nil]
      have hlz : (bv (zs.map (scF p))).size = 64 := by have := HZ.out; rw [bv_size]; simp; omega
      rw [hfin] at hb1
      have hone := bv_one (zs.map (scF p))
      generalize hcr : bv (zs.map (scF p)) = cr at *
      have HCR := hid_ hcr
      have hlz' := hid_ hlz
      have hone' := hid_ hone
      clear hfin hlz hone hcr
      go_wp2_with (first
        | (refine wpList_load_blk rfl 48 (.tmp 2) rfl _ rfl hb1 _ Try.underlying48 rfl 64 size48 hlz'.out ?_)
        | (refine wpList_store_blk rfl 48 (.tmp 4) (.tmp 36) rfl _ _ rfl rfl hb3 64 size48 hlz'.out (by rw [bv_size]; rfl) hone'.out ?_; intro w7 hb7 hg7))
      refine ret_cell_tmp rfl rfl _ rfl hb7 _ Try.underlying48 rfl 64 size48 hlz'.out ⟨by rw [HCR.out]; rfl, hxr.grown hg7 hw02⟩
set_option maxHeartbeats 400000 in
theorem scale_out (zs : List Int) (p : Int) (w : World) (hz : zs.length = 64) (h : allIn zs 1 255 = false ∨ (allIn zs 1 255 = true ∧ (p < 1 ∨ (¬ p < 1 ∧ 1000 < p)))) :
    Calls Try.prog 37 #[.agg (bv zs), .int .i64 p] w fun e w' => e = .returned (.tuple #[.agg (bv zeros64), .int .i64 1]) ∧ Ext w w' := by
  have HC := hid_ (fun W => qcheck_any zs W hz)
  have hsz := hid_ ((bv_size zs).trans hz)
  have hs0 : Hid ((bv zeros64).size = 64) := hid_ (by rw [bv_size]; rfl)
  have ho0 := hid_ (bv_one zeros64)
  have hbt := hid_ built48
  generalize bv zs = cz at *
  generalize hc0 : bv zeros64 = c0 at *
  have HC0 := hid_ hc0
  clear hz hc0
  have hcase : (allIn zs 1 255 = false) ∨ (allIn zs 1 255 = true ∧ p < 1) ∨ (allIn zs 1 255 = true ∧ ¬ p < 1 ∧ 1000 < p) := by
    rcases h with h | ⟨h, h2 | h2⟩
    · exact .inl h
    · exact .inr (.inl ⟨h, h2⟩)
    · exact .inr (.inr ⟨h, h2⟩)
  clear h
  rcases hcase with h | ⟨h, h2⟩ | ⟨h, h2, h3⟩
  · rw [h] at HC
    clear h
    go_enter Try.func37, Try.ntmps37
    go_wp2_with (first
      | (refine wpList_box_abs rfl 48 (.tmp 0) rfl cz rfl ?_; intro w1 gz hbz1 hx1 hgz)
      | (refine wpList_alloc_abs rfl 48 rfl _ zero48 ?_; intro w3 gr hbr3 hx3 hgr; have hbz3 := hbz1.ext hx3)
      | (refine wpList_load_blk rfl 48 (.tmp 2) rfl _ rfl hbz3 _ Try.underlying48 rfl 64 size48 hsz.out ?_)
      | (go_at_call 36; (with_reducible refine (HC.out _).mono ?_); rintro e w4 ⟨rfl, hx4⟩; have hbr4 := hbr3.ext hx4)
      | (refine wpList_build0 rfl 48 rfl _ hbt.out ?_)
      | (refine wpList_store_blk rfl 48 (.tmp 4) (.tmp 13) rfl _ _ rfl rfl hbr4 64 size48 hs0.out (by rw [show (Value.agg (bv zeros64)).cells = bv zeros64 from rfl, HC0.out]; exact hs0.out) ho0.out ?_; intro w7 hb7 hg7))
    exact ret_cell_tmp rfl rfl _ rfl hb7 _ Try.underlying48 rfl 64 size48 hs0.out ⟨rfl, ((hx1.trans hx3).trans hx4).grown hg7 (by have := hx1.size; omega)⟩
  all_goals
    rw [h] at HC
    clear h
    go_enter Try.func37, Try.ntmps37
    go_wp2_with (first
      | (refine wpList_box_abs rfl 48 (.tmp 0) rfl cz rfl ?_; intro w1 gz hbz1 hx1 hgz)
      | (refine wpList_alloc_abs rfl 48 rfl _ zero48 ?_; intro w3 gr hbr3 hx3 hgr; have hbz3 := hbz1.ext hx3)
      | (refine wpList_load_blk rfl 48 (.tmp 2) rfl _ rfl hbz3 _ Try.underlying48 rfl 64 size48 hsz.out ?_)
      | (go_at_call 36; (with_reducible refine (HC.out _).mono ?_); rintro e w4 ⟨rfl, hx4⟩; have hbr4 := hbr3.ext hx4)
      | (refine wpList_build0 rfl 48 rfl _ hbt.out ?_)
      | (refine wpList_store_blk rfl 48 (.tmp 4) (.tmp 21) rfl _ _ rfl rfl hbr4 64 size48 hs0.out (by rw [show (Value.agg (bv zeros64)).cells = bv zeros64 from rfl, HC0.out]; exact hs0.out) ho0.out ?_; intro w7 hb7 hg7))
    exact ret_cell_tmp rfl rfl _ rfl hb7 _ Try.underlying48 rfl 64 size48 hs0.out ⟨rfl, ((hx1.trans hx3).trans hx4).grown hg7 (by have := hx1.size; omega)⟩
theorem scale_any (zs : List Int) (p : Int) (w : World) (hz : zs.length = 64) :
    Calls Try.prog 37 #[.agg (bv zs), .int .i64 p] w fun e w' => e = .returned (.tuple #[.agg (bv (scaleZ zs p).1), .int .i64 (scaleZ zs p).2]) ∧ Ext w w' := by
  unfold scaleZ
  cases h1 : allIn zs 1 255 with
  | false => simpa using scale_out zs p w hz (Or.inl h1)
  | true =>
    cases h2 : inB p 1 1000 with
    | false => simpa using scale_out zs p w hz (Or.inr ⟨h1, by have := inB_not.1 h2; omega⟩)
    | true => have := inB_iff.1 h2; simpa using scale_in zs p w hz h1 this.1 this.2
set_option maxHeartbeats 400000 in
theorem rscale_in (zs : List Int) (p : Int) (w : World) (hz : zs.length = 64) (h1 : allIn zs 1 255 = true) (hp : inB p 1 1000 = true) :
    Calls Try.prog 38 #[.agg (bv zs), .int .i64 p] w fun e w' => e = .returned (.tuple #[.agg (bv (zs.map (scF p))), .int .i64 0]) ∧ Ext w w' := by
  have HC := hid_ (fun W => blockWithin_any zs 1 255 W hz)
  rw [h1] at HC
  have HO := hid_ (fun W => outside_any p 1 1000 W)
  rw [hp] at HO
  have HP := hid_ (inB_iff.1 hp)
  have HZ := hid_ hz
  have hsz := hid_ ((bv_size zs).trans hz)
  have H1 := hid_ h1
  clear hz h1 hp
  generalize hzc : bv zs = cz at *
  have HZC := hid_ hzc
  clear hzc
  go_enter Try.func38, Try.ntmps38
  go_wp2_with (first
    | (refine wpList_box_abs rfl 48 (.tmp 0) rfl cz rfl ?_; intro w1 gz hbz1 hx1 hgz)
    | (refine wpList_alloc_abs rfl 48 rfl _ zero48 ?_; intro w3 gr hbr3 hx3 hgr; have hbz3 := hbz1.ext hx3)
    | (refine wpList_load_blk rfl 48 (.tmp 2) rfl _ rfl hbz3 _ Try.underlying48 rfl 64 size48 hsz.out ?_)
    | (go_at_call 41; (with_reducible refine (HC.out _).mono ?_); rintro e w4 ⟨rfl, hx4⟩; have hbz4 := hbz3.ext hx4; have hbr4 := hbr3.ext hx4)
    | (go_at_call 51; (with_reducible refine (HO.out _).mono ?_); rintro e w5 ⟨rfl, rfl⟩))
  have hne1 : gz ≠ gr := by have := hbz1.lt; omega
  have hxx : Ext w w4 := (hx1.trans hx3).trans hx4
  have hw02 : w.heap.size ≤ gr := by have := hx1.size; omega
  clear hbz1 hbz3 hbr3 hx1 hx3 hx4
  go_loopw [15] (fun i wr => ∃ k : Nat, k ≤ 64 ∧ i = .int .i64 k ∧ Blk wr gz 48 (bv ((zs.take k).map (scF p) ++ zs.drop k)) ∧ Blk wr gr 48 (bv zeros64) ∧ Ext w wr) (fun i _ => 64 - (intOf i).toNat)
  case atStart => exact ⟨0, by omega, rfl, by rw [← HZC.out] at hbz4; simpa using hbz4, hbr4, hxx⟩
  case round =>
    obtain ⟨k, hk, rfl, hb1, hb3, hxr⟩ := hrel
    by_cases hlt : k < 64
    · have hzl : k < zs.length := by have := HZ.out; omega
      have hlz : wr.cell? ⟨gz, k, none⟩ = some (.int .i64 zs[k]) := (hb1.cell k).trans (mid_at (scF p) zs k hzl)
      obtain ⟨z1, z2⟩ := allIn_iff.1 H1.out zs[k] (List.getElem_mem hzl)
      obtain ⟨m1, m2⟩ := mul_bd2 zs[k] p z1 z2 HP.out.1 HP.out.2
      have hwr : IntKind.i64.wrap (zs[k] * p) = zs[k] * p := IntWalk.i64_in _ (by omega)
      have HR := hid_ (fun W => rround_any (zs[k] * p) 100 W (by omega) (by omega) (by omega) (by omega))
      have HS := hid_ (show clampZ (rnd (zs[k] * p) 100) 1 255 = scF p zs[k] from rfl)
      have hfr := hb1.frozen k
      generalize rnd (zs[k] * p) 100 = r at *
      have HW := hid_ hwr
      clear hwr
      go_wp2_with (first
        | (go_at_call 61; (with_reducible refine (HR.out _).mono ?_); rintro e w' ⟨rfl, rfl⟩)
        | (go_at_call 58; refine (clamp_any _ _ _ _).mono ?_; rintro e w' ⟨rfl, rfl⟩))
      go_roundw
      case rel =>
        refine ⟨k + 1, by omega, by go_num, ?_, hb3.far (p := ⟨gz, k, none⟩) (by simpa using hne1.symm) _, hxr.setCell (by omega) _⟩
        have := hb1.set_ k (.int .i64 (scF p zs[k]))
        rw [bv_set, mid_set (scF p) zs k hzl, ← HS.out] at this
        exact this
      case measure => simp [intOf]; omega
    · obtain rfl : k = 64 := by omega
      have hfin : (zs.take 64).map (scF p) ++ zs.drop 64 = zs.map (scF p) := by
        rw [List.take_of_length_le (by have := HZ.out; omega), List.drop_eq_nil_of_le (by have := HZ.out; omega), List.append_nil]
      have hlz : (bv (zs.map (scF p))).size = 64 := by have := HZ.out; rw [bv_size]; simp; omega
      rw [hfin] at hb1
      have hone := bv_one (zs.map (scF p))
      generalize hcr : bv (zs.map (scF p)) = cr at *
      have HCR := hid_ hcr
      have hlz' := hid_ hlz
      have hone' := hid_ hone
      clear hfin hlz hone hcr
      go_wp2_with (first
        | (refine wpList_load_blk rfl 48 (.tmp 2) rfl _ rfl hb1 _ Try.underlying48 rfl 64 size48 hlz'.out ?_)
        | (refine wpList_store_blk rfl 48 (.tmp 4) (.tmp 28) rfl _ _ rfl rfl hb3 64 size48 hlz'.out (by rw [bv_size]; rfl) hone'.out ?_; intro w7 hb7 hg7))
      refine ret_cell_tmp rfl rfl _ rfl hb7 _ Try.underlying48 rfl 64 size48 hlz'.out ⟨by rw [HCR.out]; rfl, hxr.grown hg7 hw02⟩
set_option maxHeartbeats 400000 in
theorem rscale_out (zs : List Int) (p : Int) (w : World) (hz : zs.length = 64) (h : allIn zs 1 255 = false ∨ (allIn zs 1 255 = true ∧ inB p 1 1000 = false)) :
    Calls Try.prog 38 #[.agg (bv zs), .int .i64 p] w fun e w' => e = .returned (.tuple #[.agg (bv zeros64), .int .i64 1]) ∧ Ext w w' := by
  have HC := hid_ (fun W => blockWithin_any zs 1 255 W hz)
  have HO := hid_ (fun W => outside_any p 1 1000 W)
  have hsz := hid_ ((bv_size zs).trans hz)
  have hs0 : Hid ((bv zeros64).size = 64) := hid_ (by rw [bv_size]; rfl)
  have ho0 := hid_ (bv_one zeros64)
  have hbt := hid_ built48
  generalize bv zs = cz at *
  generalize hc0 : bv zeros64 = c0 at *
  have HC0 := hid_ hc0
  clear hz hc0
  rcases h with h | ⟨h, h2⟩
  · rw [h] at HC
    clear h
    go_enter Try.func38, Try.ntmps38
    go_wp2_with (first
      | (refine wpList_box_abs rfl 48 (.tmp 0) rfl cz rfl ?_; intro w1 gz hbz1 hx1 hgz)
      | (refine wpList_alloc_abs rfl 48 rfl _ zero48 ?_; intro w3 gr hbr3 hx3 hgr; have hbz3 := hbz1.ext hx3)
      | (refine wpList_load_blk rfl 48 (.tmp 2) rfl _ rfl hbz3 _ Try.underlying48 rfl 64 size48 hsz.out ?_)
      | (go_at_call 41; (with_reducible refine (HC.out _).mono ?_); rintro e w4 ⟨rfl, hx4⟩; have hbr4 := hbr3.ext hx4)
      | (refine wpList_build0 rfl 48 rfl _ hbt.out ?_)
      | (refine wpList_store_blk rfl 48 (.tmp 4) (.tmp 14) rfl _ _ rfl rfl hbr4 64 size48 hs0.out (by rw [show (Value.agg (bv zeros64)).cells = bv zeros64 from rfl, HC0.out]; exact hs0.out) ho0.out ?_; intro w7 hb7 hg7))
    exact ret_cell_tmp rfl rfl _ rfl hb7 _ Try.underlying48 rfl 64 size48 hs0.out ⟨rfl, ((hx1.trans hx3).trans hx4).grown hg7 (by have := hx1.size; omega)⟩
  · rw [h] at HC
    rw [h2] at HO
    clear h h2
    go_enter Try.func38, Try.ntmps38
    go_wp2_with (first
      | (refine wpList_box_abs rfl 48 (.tmp 0) rfl cz rfl ?_; intro w1 gz hbz1 hx1 hgz)
      | (refine wpList_alloc_abs rfl 48 rfl _ zero48 ?_; intro w3 gr hbr3 hx3 hgr; have hbz3 := hbz1.ext hx3)
      | (refine wpList_load_blk rfl 48 (.tmp 2) rfl _ rfl hbz3 _ Try.underlying48 rfl 64 size48 hsz.out ?_)
      | (go_at_call 41; (with_reducible refine (HC.out _).mono ?_); rintro e w4 ⟨rfl, hx4⟩; have hbr4 := hbr3.ext hx4)
      | (go_at_call 51; (with_reducible refine (HO.out _).mono ?_); rintro e w5 ⟨rfl, rfl⟩)
      | (refine wpList_build0 rfl 48 rfl _ hbt.out ?_)
      | (refine wpList_store_blk rfl 48 (.tmp 4) (.tmp 14) rfl _ _ rfl rfl hbr4 64 size48 hs0.out (by rw [show (Value.agg (bv zeros64)).cells = bv zeros64 from rfl, HC0.out]; exact hs0.out) ho0.out ?_; intro w7 hb7 hg7))
    exact ret_cell_tmp rfl rfl _ rfl hb7 _ Try.underlying48 rfl 64 size48 hs0.out ⟨rfl, ((hx1.trans hx3).trans hx4).grown hg7 (by have := hx1.size; omega)⟩
theorem rscale_any (zs : List Int) (p : Int) (w : World) (hz : zs.length = 64) :
    Calls Try.prog 38 #[.agg (bv zs), .int .i64 p] w fun e w' => e = .returned (.tuple #[.agg (bv (scaleZ zs p).1), .int .i64 (scaleZ zs p).2]) ∧ Ext w w' := by
  unfold scaleZ
  cases h1 : allIn zs 1 255 with
  | false => simpa using rscale_out zs p w hz (Or.inl h1)
  | true =>
    cases h2 : inB p 1 1000 with
    | false => simpa using rscale_out zs p w hz (Or.inr ⟨h1, h2⟩)
    | true => simpa using rscale_in zs p w hz h1 h2
end Go.Proofs.Ytceplnjngbkjhaa
