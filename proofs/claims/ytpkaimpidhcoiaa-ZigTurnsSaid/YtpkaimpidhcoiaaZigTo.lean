/- zig.To, zig.From, and the reference's. -/
import Derived.Test.YtpkaimpidhcoiaaZigOrder
import Derived.Test.YtpkaimpidhcoiaaZeros
namespace Go.Proofs.Ytpkaimpidhcoiaa
set_option linter.unusedVariables false
set_option linter.unusedSimpArgs false
open Go.RowKit
set_option maxHeartbeats 400000 in
theorem zto_any (zs : List Int) (w : World) (hz : zs.length = 64) : Calls Try.prog 12 #[.agg (bv zs)] w fun e w' => e = .returned (.agg (bv (zto zs))) ∧ Ext w w' := by
  have HO := hid_ (fun W => order_any W)
  have HIX := hid_ (fun W (k n : Nat) (hk : k < 64) (hn : zigAt k = (n : Int)) => run_index47 (bv zigL) k (.int .i64 (n : Int)) hk (by rw [← hn, bv_at zigL k (by rw [zigL_len]; exact hk), zigL_get]) W)
  have HZ := hid_ hz
  generalize bv zigL = co at *
  generalize hc0 : bv zs = cz at *
  have HC0 := hid_ hc0
  clear hz hc0
  go_enter Try.func12, Try.ntmps12
  go_wp2_with (first
    | (refine wpList_box_abs rfl 27 (.tmp 0) rfl cz rfl ?_; intro w1 gz hbz1 hx1 hgz)
    | (refine wpList_alloc_abs' rfl (some 2) rfl 27 rfl _ zero48 ?_; intro w2 go hbo2 hx2 hgo; have hbz2 := hbz1.ext hx2)
    | (go_at_call 23; refine (HO.out _).mono ?_; rintro e w3 ⟨rfl, hx3⟩; have hbz := hbz2.ext hx3; have hbo := hbo2.ext hx3))
  have hne : go ≠ gz := by have := hbz1.lt; omega
  have hgo' : w.heap.size ≤ go := by have := hx1.size; omega
  have hxx := (hx1.trans hx2).trans hx3
  clear hbz1 hbz2 hbo2 hx1 hx2 hx3
  go_loopw [6] (fun i wr => ∃ k : Nat, k ≤ 64 ∧ i = .int .i64 k ∧ Blk wr gz 27 cz ∧ Blk wr go 27 (bv ((zto zs).take k ++ List.replicate (64 - k) 0)) ∧ Ext w wr) (fun i _ => 64 - (intOf i).toNat)
  case atStart => exact ⟨0, by omega, rfl, hbz, by rw [show (zto zs).take 0 ++ List.replicate (64 - 0) 0 = zeros64 from rfl]; exact hbo, hxx⟩
  case round =>
    obtain ⟨k, hk, rfl, hb1, hb2, hx⟩ := hrel
    by_cases hlt : k < 64
    · obtain ⟨n, hn, hn64⟩ := zigN k hlt
      have HN := hid_ hn
      have hzl : n < zs.length := by have := HZ.out; omega
      have HD : Hid (zs.getD n 0 = zs[n]) := hid_ (by simp [hzl])
      have hlz : wr.cell? ⟨gz, n, none⟩ = some (.int .i64 zs[n]) := (hb1.cell n).trans (by rw [← HC0.out]; exact bv_at zs n hzl)
      obtain ⟨old, hold⟩ : ∃ u, wr.cell? ⟨go, k, none⟩ = some u := by
        rw [hb2.cell k]
        have hl : ((zto zs).take k ++ List.replicate (64 - k) 0).length = 64 := by simp [zto_len]; omega
        exact ⟨_, bv_at _ k (by omega)⟩
      have hfr := hb2.frozen k
      have hix := fun W => HIX.out W k n hlt HN.out
      clear hn
      go_wp2_with fail
      go_roundw
      case rel =>
        refine ⟨k + 1, by omega, by go_num, hb1.far (p := ⟨go, k, none⟩) (by simpa using hne.symm) _, ?_, hx.setCell hgo' _⟩
        have := hb2.set_ k (.int .i64 zs[n])
        rw [bv_set] at this
        have e := zto_set zs k hlt
        rw [HN.out, Int.toNat_natCast, HD.out] at e
        rw [← e]
        exact this
      case measure => simp [intOf]; omega
    · obtain rfl : k = 64 := by omega
      have e : (zto zs).take 64 ++ List.replicate (64 - 64) 0 = zto zs := by rw [List.take_of_length_le (by rw [zto_len]; omega)]; simp
      rw [e] at hb2
      clear e
      have hs : Hid ((bv (zto zs)).size = 64) := hid_ (by rw [bv_size, zto_len])
      have ho := hid_ (bv_one (zto zs))
      generalize hcr : bv (zto zs) = cr at *
      have HC := hid_ hcr
      clear hcr
      go_wp2_with (first
        | (refine wpList_load_blk rfl 27 (.tmp 2) rfl _ rfl hb2 _ Try.underlying27 rfl 64 size48 hs.out ?_)
        | (refine wpList_store_blk rfl 27 (.tmp 2) (.tmp 16) rfl _ _ rfl rfl hb2 64 size48 hs.out hs.out ho.out ?_; intro w7 hb7 hg7))
      exact ret_cell rfl rfl _ rfl hb7 _ Try.underlying27 rfl 64 size48 hs.out ⟨by rw [HC.out], hx.grown hg7 hgo'⟩
set_option maxHeartbeats 400000 in
theorem rzto_any (zs : List Int) (w : World) (hz : zs.length = 64) : Calls Try.prog 13 #[.agg (bv zs)] w fun e w' => e = .returned (.agg (bv (zto zs))) ∧ Ext w w' := by
  have HZ := hid_ hz
  generalize hc0 : bv zs = cz at *
  have HC0 := hid_ hc0
  clear hz hc0
  go_enter Try.func13, Try.ntmps13
  go_wp2_with (first
    | (refine wpList_box_abs rfl 27 (.tmp 0) rfl cz rfl ?_; intro w1 gz hbz1 hx1 hgz)
    | (refine wpList_alloc_abs' rfl (some 2) rfl 27 rfl _ zero48 ?_; intro w2 gr hbr2 hx2 hgr; have hbz2 := hbz1.ext hx2)
    | (refine wpList_alloc_abs' rfl (some 3) rfl 27 rfl _ zero48 ?_; intro w3 go hbo3 hx3 hgo; have hbz3 := hbz2.ext hx3; have hbr3 := hbr2.ext hx3)
    | (go_at_call 24; refine (rzigOrder_sl _).mono ?_; rintro e w4 ⟨A, c, rfl, hsl, hfs, hx4⟩; have hbz := hbz3.ext hx4; have hbo := hbo3.ext hx4; have hbr := hbr3.ext hx4))
  have hne : go ≠ gz := by have := hbz2.lt; omega
  have hne2 : go ≠ gr := by have := hbr2.lt; omega
  have hgo' : w.heap.size ≤ go := by have := hx1.size; have := hx2.size; omega
  have hgr' : w.heap.size ≤ gr := by have := hx1.size; omega
  have hxx := ((hx1.trans hx2).trans hx3).trans hx4
  have hnsl := hid_ (fun ad h => (show (ad : Addr).block ≠ go by have := hfs ad h; have := hbo3.lt; omega))
  clear hbz1 hbz2 hbz3 hbo3 hbr2 hbr3 hx1 hx2 hx3 hx4 hfs
  go_loopw [8] (fun i wr => ∃ k : Nat, k ≤ 64 ∧ i = .int .i64 k ∧ Blk wr gz 27 cz ∧ Blk wr go 27 (bv ((zto zs).take k ++ List.replicate (64 - k) 0)) ∧ Blk wr gr 27 (bv zeros64) ∧ SL wr 1 (.slice A 64 c) 64 (ints zigL) ∧ Ext w wr) (fun i _ => 64 - (intOf i).toNat)
  case atStart => exact ⟨0, by omega, rfl, hbz, by rw [show (zto zs).take 0 ++ List.replicate (64 - 0) 0 = zeros64 from rfl]; exact hbo, hbr, hsl, hxx⟩
  case round =>
    obtain ⟨k, hk, rfl, hb1, hb2, hbr, hsl, hx⟩ := hrel
    by_cases hlt : k < 64
    · obtain ⟨n, hn, hn64⟩ := zigN k hlt
      have HN := hid_ hn
      have hzl : n < zs.length := by have := HZ.out; omega
      have HD : Hid (zs.getD n 0 = zs[n]) := hid_ (by simp [hzl])
      have hlz : wr.cell? ⟨gz, n, none⟩ = some (.int .i64 zs[n]) := (hb1.cell n).trans (by rw [← HC0.out]; exact bv_at zs n hzl)
      obtain ⟨old, hold⟩ : ∃ u, wr.cell? ⟨go, k, none⟩ = some u := by
        rw [hb2.cell k]
        have hl : ((zto zs).take k ++ List.replicate (64 - k) 0).length = 64 := by simp [zto_len]; omega
        exact ⟨_, bv_at _ k (by omega)⟩
      have hfr := hb2.frozen k
      obtain ⟨ad, u, rfl, -, hxo, hco⟩ := hsl.at1 hlt
      obtain ⟨hko, rfl⟩ := ints_at _ _ _ hxo
      have e0 : zigL[k] = (n : Int) := by rw [zigL_get, HN.out]
      rw [e0] at hco
      clear e0 hxo
      clear hn
      go_wp2_with fail
      go_roundw
      case rel =>
        refine ⟨k + 1, by omega, by go_num, hb1.far (p := ⟨go, k, none⟩) (by simpa using hne.symm) _, ?_, hbr.far (p := ⟨go, k, none⟩) (by simpa using hne2.symm) _, hsl.far (by intro ad' h; exact hnsl.out ad' h) _, hx.setCell hgo' _⟩
        have := hb2.set_ k (.int .i64 zs[n])
        rw [bv_set] at this
        have e := zto_set zs k hlt
        rw [HN.out, Int.toNat_natCast, HD.out] at e
        rw [← e]
        exact this
      case measure => simp [intOf]; omega
    · obtain rfl : k = 64 := by omega
      have e : (zto zs).take 64 ++ List.replicate (64 - 64) 0 = zto zs := by rw [List.take_of_length_le (by rw [zto_len]; omega)]; simp
      rw [e] at hb2
      clear e
      have hs : Hid ((bv (zto zs)).size = 64) := hid_ (by rw [bv_size, zto_len])
      have ho := hid_ (bv_one (zto zs))
      generalize hcr : bv (zto zs) = cr at *
      have HC := hid_ hcr
      clear hcr
      go_wp2_with (first
        | (refine wpList_load_blk rfl 27 (.tmp 3) rfl _ rfl hb2 _ Try.underlying27 rfl 64 size48 hs.out ?_)
        | (refine wpList_store_blk rfl 27 (.tmp 2) (.tmp 19) rfl _ _ rfl rfl hbr 64 size48 hs.out (by rw [bv_size]; rfl) ho.out ?_; intro w7 hb7 hg7))
      exact ret_cell rfl rfl _ rfl hb7 _ Try.underlying27 rfl 64 size48 hs.out ⟨by rw [HC.out], hx.grown hg7 hgr'⟩
set_option maxHeartbeats 400000 in
theorem zfrom_any (zs : List Int) (w : World) (hz : zs.length = 64) : Calls Try.prog 14 #[.agg (bv zs)] w fun e w' => e = .returned (.agg (bv (zfrom zs 64))) ∧ Ext w w' := by
  have HO := hid_ (fun W => order_any W)
  have HIX := hid_ (fun W (k n : Nat) (hk : k < 64) (hn : zigAt k = (n : Int)) => run_index47 (bv zigL) k (.int .i64 (n : Int)) hk (by rw [← hn, bv_at zigL k (by rw [zigL_len]; exact hk), zigL_get]) W)
  have HZ := hid_ hz
  generalize bv zigL = co at *
  generalize hc0 : bv zs = cz at *
  have HC0 := hid_ hc0
  clear hz hc0
  go_enter Try.func14, Try.ntmps14
  go_wp2_with (first
    | (refine wpList_box_abs rfl 27 (.tmp 0) rfl cz rfl ?_; intro w1 gz hbz1 hx1 hgz)
    | (refine wpList_alloc_abs' rfl (some 2) rfl 27 rfl _ zero48 ?_; intro w2 go hbo2 hx2 hgo; have hbz2 := hbz1.ext hx2)
    | (go_at_call 23; refine (HO.out _).mono ?_; rintro e w3 ⟨rfl, hx3⟩; have hbz := hbz2.ext hx3; have hbo := hbo2.ext hx3))
  have hne : go ≠ gz := by have := hbz1.lt; omega
  have hgo' : w.heap.size ≤ go := by have := hx1.size; omega
  have hxx := (hx1.trans hx2).trans hx3
  clear hbz1 hbz2 hbo2 hx1 hx2 hx3
  go_loopw [6] (fun i wr => ∃ k : Nat, k ≤ 64 ∧ i = .int .i64 k ∧ Blk wr gz 27 cz ∧ Blk wr go 27 (bv (zfrom zs k)) ∧ Ext w wr) (fun i _ => 64 - (intOf i).toNat)
  case atStart => exact ⟨0, by omega, rfl, hbz, hbo, hxx⟩
  case round =>
    obtain ⟨k, hk, rfl, hb1, hb2, hx⟩ := hrel
    by_cases hlt : k < 64
    · obtain ⟨n, hn, hn64⟩ := zigN k hlt
      have HN := hid_ hn
      have hzl : k < zs.length := by have := HZ.out; omega
      have HD : Hid (zs.getD k 0 = zs[k]) := hid_ (by simp [hzl])
      have hlz : wr.cell? ⟨gz, k, none⟩ = some (.int .i64 zs[k]) := (hb1.cell k).trans (by rw [← HC0.out]; exact bv_at zs k hzl)
      obtain ⟨old, hold⟩ : ∃ u, wr.cell? ⟨go, n, none⟩ = some u := by
        rw [hb2.cell n]
        have hl : (zfrom zs k).length = 64 := zfrom_len zs k
        exact ⟨_, bv_at _ n (by omega)⟩
      have hfr := hb2.frozen n
      have hix := fun W => HIX.out W k n hlt HN.out
      clear hn
      go_wp2_with fail
      go_roundw
      case rel =>
        refine ⟨k + 1, by omega, by go_num, hb1.far (p := ⟨go, n, none⟩) (by simpa using hne.symm) _, ?_, hx.setCell hgo' _⟩
        have := hb2.set_ n (.int .i64 zs[k])
        rw [bv_set] at this
        rw [zfrom_succ, HN.out, Int.toNat_natCast, HD.out]
        exact this
      case measure => simp [intOf]; omega
    · obtain rfl : k = 64 := by omega
      have hs : Hid ((bv (zfrom zs 64)).size = 64) := hid_ (by rw [bv_size, zfrom_len])
      have ho := hid_ (bv_one (zfrom zs 64))
      generalize hcr : bv (zfrom zs 64) = cr at *
      have HC := hid_ hcr
      clear hcr
      go_wp2_with (first
        | (refine wpList_load_blk rfl 27 (.tmp 2) rfl _ rfl hb2 _ Try.underlying27 rfl 64 size48 hs.out ?_)
        | (refine wpList_store_blk rfl 27 (.tmp 2) (.tmp 16) rfl _ _ rfl rfl hb2 64 size48 hs.out hs.out ho.out ?_; intro w7 hb7 hg7))
      exact ret_cell rfl rfl _ rfl hb7 _ Try.underlying27 rfl 64 size48 hs.out ⟨by rw [HC.out], hx.grown hg7 hgo'⟩
set_option maxHeartbeats 400000 in
theorem rzfrom_any (zs : List Int) (w : World) (hz : zs.length = 64) : Calls Try.prog 15 #[.agg (bv zs)] w fun e w' => e = .returned (.agg (bv (zfrom zs 64))) ∧ Ext w w' := by
  have HZ := hid_ hz
  generalize hc0 : bv zs = cz at *
  have HC0 := hid_ hc0
  clear hz hc0
  go_enter Try.func15, Try.ntmps15
  go_wp2_with (first
    | (refine wpList_box_abs rfl 27 (.tmp 0) rfl cz rfl ?_; intro w1 gz hbz1 hx1 hgz)
    | (refine wpList_alloc_abs' rfl (some 2) rfl 27 rfl _ zero48 ?_; intro w2 gr hbr2 hx2 hgr; have hbz2 := hbz1.ext hx2)
    | (refine wpList_alloc_abs' rfl (some 3) rfl 27 rfl _ zero48 ?_; intro w3 go hbo3 hx3 hgo; have hbz3 := hbz2.ext hx3; have hbr3 := hbr2.ext hx3)
    | (go_at_call 24; refine (rzigOrder_sl _).mono ?_; rintro e w4 ⟨A, c, rfl, hsl, hfs, hx4⟩; have hbz := hbz3.ext hx4; have hbo := hbo3.ext hx4; have hbr := hbr3.ext hx4))
  have hne : go ≠ gz := by have := hbz2.lt; omega
  have hne2 : go ≠ gr := by have := hbr2.lt; omega
  have hgo' : w.heap.size ≤ go := by have := hx1.size; have := hx2.size; omega
  have hgr' : w.heap.size ≤ gr := by have := hx1.size; omega
  have hxx := ((hx1.trans hx2).trans hx3).trans hx4
  have hnsl := hid_ (fun ad h => (show (ad : Addr).block ≠ go by have := hfs ad h; have := hbo3.lt; omega))
  clear hbz1 hbz2 hbz3 hbo3 hbr2 hbr3 hx1 hx2 hx3 hx4 hfs
  go_loopw [8] (fun i wr => ∃ k : Nat, k ≤ 64 ∧ i = .int .i64 k ∧ Blk wr gz 27 cz ∧ Blk wr go 27 (bv (zfrom zs k)) ∧ Blk wr gr 27 (bv zeros64) ∧ SL wr 1 (.slice A 64 c) 64 (ints zigL) ∧ Ext w wr) (fun i _ => 64 - (intOf i).toNat)
  case atStart => exact ⟨0, by omega, rfl, hbz, hbo, hbr, hsl, hxx⟩
  case round =>
    obtain ⟨k, hk, rfl, hb1, hb2, hbr, hsl, hx⟩ := hrel
    by_cases hlt : k < 64
    · obtain ⟨n, hn, hn64⟩ := zigN k hlt
      have HN := hid_ hn
      have hzl : k < zs.length := by have := HZ.out; omega
      have HD : Hid (zs.getD k 0 = zs[k]) := hid_ (by simp [hzl])
      have hlz : wr.cell? ⟨gz, k, none⟩ = some (.int .i64 zs[k]) := (hb1.cell k).trans (by rw [← HC0.out]; exact bv_at zs k hzl)
      obtain ⟨old, hold⟩ : ∃ u, wr.cell? ⟨go, n, none⟩ = some u := by
        rw [hb2.cell n]
        have hl : (zfrom zs k).length = 64 := zfrom_len zs k
        exact ⟨_, bv_at _ n (by omega)⟩
      have hfr := hb2.frozen n
      obtain ⟨ad, u, rfl, -, hxo, hco⟩ := hsl.at1 hlt
      obtain ⟨hko, rfl⟩ := ints_at _ _ _ hxo
      have e0 : zigL[k] = (n : Int) := by rw [zigL_get, HN.out]
      rw [e0] at hco
      clear e0 hxo
      clear hn
      go_wp2_with fail
      go_roundw
      case rel =>
        refine ⟨k + 1, by omega, by go_num, hb1.far (p := ⟨go, n, none⟩) (by simpa using hne.symm) _, ?_, hbr.far (p := ⟨go, n, none⟩) (by simpa using hne2.symm) _, hsl.far (by intro ad' h; exact hnsl.out ad' h) _, hx.setCell hgo' _⟩
        have := hb2.set_ n (.int .i64 zs[k])
        rw [bv_set] at this
        rw [zfrom_succ, HN.out, Int.toNat_natCast, HD.out]
        exact this
      case measure => simp [intOf]; omega
    · obtain rfl : k = 64 := by omega
      have hs : Hid ((bv (zfrom zs 64)).size = 64) := hid_ (by rw [bv_size, zfrom_len])
      have ho := hid_ (bv_one (zfrom zs 64))
      generalize hcr : bv (zfrom zs 64) = cr at *
      have HC := hid_ hcr
      clear hcr
      go_wp2_with (first
        | (refine wpList_load_blk rfl 27 (.tmp 3) rfl _ rfl hb2 _ Try.underlying27 rfl 64 size48 hs.out ?_)
        | (refine wpList_store_blk rfl 27 (.tmp 2) (.tmp 19) rfl _ _ rfl rfl hbr 64 size48 hs.out (by rw [bv_size]; rfl) ho.out ?_; intro w7 hb7 hg7))
      exact ret_cell rfl rfl _ rfl hb7 _ Try.underlying27 rfl 64 size48 hs.out ⟨by rw [HC.out], hx.grown hg7 hgr'⟩
end Go.Proofs.Ytpkaimpidhcoiaa
