/- frame.Check. -/
import Derived.Test.YtlepchdlkhogiaaPicture
namespace Go.Proofs.Ytlepchdlkhogiaa
set_option linter.unusedVariables false
set_option linter.unusedSimpArgs false
open Go.RowKit
set_option maxRecDepth 20000 in
set_option maxHeartbeats 1000000 in
theorem fchk_sides (wd hi : Int) (L : List (List Int)) (A : Option Addr) (n c : Nat) (w : World) (hr : RowsS w A n c L) (h : sidesZ wd hi ≠ 0) :
    Calls Try.prog 18 #[.agg (picV wd hi (.slice A n c))] w fun e w' => e = .returned (.int .i64 1) ∧ Ext w w' := by
  have HM := hid_ (fun W => Many_any wd hi W)
  rw [sides_no h] at HM
  clear h
  have HC := hid_ (fun W g (h : Blk W g 40 (picV wd hi (.slice A n c))) => pic_cells h)
  generalize picV wd hi (.slice A n c) = pv at *
  generalize manyZ wd hi = mz at *
  go_enter Try.func18, Try.ntmps18
  go_wp2_with (first
    | (refine wpList_box_abs rfl 40 (.tmp 0) rfl pv rfl ?_; intro w1 g hb1 hx1 hg; obtain ⟨c0, c1, c2⟩ := HC.out _ _ hb1)
    | (go_at_call 12; (with_reducible refine (HM.out _).mono ?_); rintro e w2 ⟨rfl, hx2⟩; have hb2 := hb1.ext hx2; have hx12 := hx1.trans hx2; clear c0 c1 c2; obtain ⟨d0, d1, d2⟩ := HC.out _ _ hb2))
  go_ret
  exact ⟨rfl, hx12⟩
set_option maxRecDepth 20000 in
set_option maxHeartbeats 1000000 in
theorem fchk_parts (wd hi : Int) (L : List (List Int)) (A : Option Addr) (n c : Nat) (w : World) (hr : RowsS w A n c L) (h0 : sidesZ wd hi = 0) (h : ¬ (L.length = 1 ∨ L.length = 3)) :
    Calls Try.prog 18 #[.agg (picV wd hi (.slice A n c))] w fun e w' => e = .returned (.int .i64 1) ∧ Ext w w' := by
  have HM := hid_ (fun W => Many_any wd hi W)
  rw [h0] at HM
  clear h0
  have HC := hid_ (fun W g (h : Blk W g 40 (picV wd hi (.slice A n c))) => pic_cells h)
  rw [hr.len] at h
  have hn1 : ((n : Int) != 1) = true := by simp; omega
  have hn3 : ((n : Int) != 3) = true := by simp; omega
  clear h
  generalize picV wd hi (.slice A n c) = pv at *
  generalize manyZ wd hi = mz at *
  go_enter Try.func18, Try.ntmps18
  go_wp2_with (first
    | (refine wpList_box_abs rfl 40 (.tmp 0) rfl pv rfl ?_; intro w1 g hb1 hx1 hg; obtain ⟨c0, c1, c2⟩ := HC.out _ _ hb1)
    | (go_at_call 12; (with_reducible refine (HM.out _).mono ?_); rintro e w2 ⟨rfl, hx2⟩; have hb2 := hb1.ext hx2; have hx12 := hx1.trans hx2; clear c0 c1 c2; obtain ⟨d0, d1, d2⟩ := HC.out _ _ hb2))
  go_ret
  exact ⟨rfl, hx12⟩
set_option maxRecDepth 20000 in
set_option maxHeartbeats 2000000 in
theorem fchk_in1 (wd hi : Int) (L : List (List Int)) (A : Option Addr) (n c : Nat) (w : World) (hr : RowsS w A n c L) (h0 : sidesZ wd hi = 0) (h : n = 1) :
    Calls Try.prog 18 #[.agg (picV wd hi (.slice A n c))] w fun e w' => e = .returned (.int .i64 (firstE (L.map fun l => cutE l wd hi))) ∧ Ext w w' := by
  have HM := hid_ (fun W => Many_any wd hi W)
  rw [h0] at HM
  clear h0
  have HC := hid_ (fun W g (h : Blk W g 40 (picV wd hi (.slice A n c))) => pic_cells h)
  have hn1 : ((n : Int) != 1) = false := by simp; omega
  have hn9 : n ≤ 3 := by omega
  have HL := hid_ hr.len
  clear h
  have HCUT := hid_ (fun W v l (hv : SL W 1 v l.length (ints l)) => cut_any l v wd hi W hv)
  unfold CutIs at HCUT
  generalize manyZ wd hi = mz at *
  generalize picV wd hi (.slice A n c) = pv at *
  go_enter Try.func18, Try.ntmps18
  go_wp2_with (first
    | (refine wpList_box_abs rfl 40 (.tmp 0) rfl pv rfl ?_; intro w1 g hb1 hx1 hg; obtain ⟨c0, c1, c2⟩ := HC.out _ _ hb1)
    | (go_at_call 12; (with_reducible refine (HM.out _).mono ?_); rintro e w2 ⟨rfl, hx2⟩; have hb2 := hb1.ext hx2; have hx12 := hx1.trans hx2; clear c0 c1 c2; obtain ⟨d0, d1, d2⟩ := HC.out _ _ hb2))
  clear d0 d1 d2
  go_loopw [33] (fun i wr => ∃ (k : Nat), k ≤ n ∧ i = .int .i64 (k : Int) ∧ Hid (∀ x ∈ L.take k, cutE x wd hi = 0) ∧ Blk wr g 40 pv ∧ Ext w wr) (fun i _ => n - (intOf i).toNat)
  case atStart => exact ⟨0, by omega, rfl, hid_ (by simp), hb2, hx12⟩
  case round =>
    clear hb2 hx12
    obtain ⟨k, hk, rfl, HT, hb, hx⟩ := hrel
    by_cases hlt : k < n
    · obtain ⟨ad, l, B, d, rfl, hl, hab, hcell, hsl⟩ := (hr.ext hx).get hlt
      have HLK := hid_ hl
      obtain ⟨d0, d1, d2⟩ := HC.out _ _ hb
      clear hl
      have HCU := hid_ (HCUT.out wr _ l hsl)
      by_cases hz : cutE l wd hi = 0
      · have HZ := hid_ hz
        rw [hz] at HCU
        clear hz
        generalize cutRN l wd hi = rn at *
        go_wp2_with (go_at_call 10; (with_reducible refine (HCU.out).mono ?_); rintro e w4 ⟨A4, c4, rfl, hs4, hx4⟩)
        go_roundw
        case rel => exact ⟨k + 1, by omega, by go_num, hid_ (take_all0 HT.out HLK.out HZ.out), hb.ext hx4, hx.trans hx4⟩
        case measure => simp [intOf]; omega
      · have hz2 : (cutE l wd hi != 0) = true := by simpa using hz
        have HF := hid_ (pic_first HT.out HLK.out rfl hz)
        generalize cutE l wd hi = ce at *
        generalize cutRN l wd hi = rn at *
        clear hz
        go_wp2_with (go_at_call 10; (with_reducible refine (HCU.out).mono ?_); rintro e w4 ⟨A4, c4, rfl, hs4, hx4⟩)
        go_ret
        rw [HF.out]
        exact ⟨rfl, hx.trans hx4⟩
    · have ek : k = n := by omega
      have HF : Hid (firstE (L.map fun l => cutE l wd hi) = 0) := hid_ (firstE_all _ (fun y hy => by
        obtain ⟨x, hx, rfl⟩ := List.mem_map.1 hy
        exact HT.out x (by rw [ek, ← HL.out, List.take_length]; exact hx)))
      go_wp2_with fail
      go_ret
      rw [HF.out]
      exact ⟨rfl, hx⟩
set_option maxRecDepth 20000 in
set_option maxHeartbeats 2000000 in
theorem fchk_in3 (wd hi : Int) (L : List (List Int)) (A : Option Addr) (n c : Nat) (w : World) (hr : RowsS w A n c L) (h0 : sidesZ wd hi = 0) (h : n = 3) :
    Calls Try.prog 18 #[.agg (picV wd hi (.slice A n c))] w fun e w' => e = .returned (.int .i64 (firstE (L.map fun l => cutE l wd hi))) ∧ Ext w w' := by
  have HM := hid_ (fun W => Many_any wd hi W)
  rw [h0] at HM
  clear h0
  have HC := hid_ (fun W g (h : Blk W g 40 (picV wd hi (.slice A n c))) => pic_cells h)
  have hn1 : ((n : Int) != 1) = true := by simp; omega
  have hn3 : ((n : Int) != 3) = false := by simp; omega
  have hn9 : n ≤ 3 := by omega
  have HL := hid_ hr.len
  clear h
  have HCUT := hid_ (fun W v l (hv : SL W 1 v l.length (ints l)) => cut_any l v wd hi W hv)
  unfold CutIs at HCUT
  generalize manyZ wd hi = mz at *
  generalize picV wd hi (.slice A n c) = pv at *
  go_enter Try.func18, Try.ntmps18
  go_wp2_with (first
    | (refine wpList_box_abs rfl 40 (.tmp 0) rfl pv rfl ?_; intro w1 g hb1 hx1 hg; obtain ⟨c0, c1, c2⟩ := HC.out _ _ hb1)
    | (go_at_call 12; (with_reducible refine (HM.out _).mono ?_); rintro e w2 ⟨rfl, hx2⟩; have hb2 := hb1.ext hx2; have hx12 := hx1.trans hx2; clear c0 c1 c2; obtain ⟨d0, d1, d2⟩ := HC.out _ _ hb2))
  clear d0 d1 d2
  go_loopw [33] (fun i wr => ∃ (k : Nat), k ≤ n ∧ i = .int .i64 (k : Int) ∧ Hid (∀ x ∈ L.take k, cutE x wd hi = 0) ∧ Blk wr g 40 pv ∧ Ext w wr) (fun i _ => n - (intOf i).toNat)
  case atStart => exact ⟨0, by omega, rfl, hid_ (by simp), hb2, hx12⟩
  case round =>
    clear hb2 hx12
    obtain ⟨k, hk, rfl, HT, hb, hx⟩ := hrel
    by_cases hlt : k < n
    · obtain ⟨ad, l, B, d, rfl, hl, hab, hcell, hsl⟩ := (hr.ext hx).get hlt
      have HLK := hid_ hl
      obtain ⟨d0, d1, d2⟩ := HC.out _ _ hb
      clear hl
      have HCU := hid_ (HCUT.out wr _ l hsl)
      by_cases hz : cutE l wd hi = 0
      · have HZ := hid_ hz
        rw [hz] at HCU
        clear hz
        generalize cutRN l wd hi = rn at *
        go_wp2_with (go_at_call 10; (with_reducible refine (HCU.out).mono ?_); rintro e w4 ⟨A4, c4, rfl, hs4, hx4⟩)
        go_roundw
        case rel => exact ⟨k + 1, by omega, by go_num, hid_ (take_all0 HT.out HLK.out HZ.out), hb.ext hx4, hx.trans hx4⟩
        case measure => simp [intOf]; omega
      · have hz2 : (cutE l wd hi != 0) = true := by simpa using hz
        have HF := hid_ (pic_first HT.out HLK.out rfl hz)
        generalize cutE l wd hi = ce at *
        generalize cutRN l wd hi = rn at *
        clear hz
        go_wp2_with (go_at_call 10; (with_reducible refine (HCU.out).mono ?_); rintro e w4 ⟨A4, c4, rfl, hs4, hx4⟩)
        go_ret
        rw [HF.out]
        exact ⟨rfl, hx.trans hx4⟩
    · have ek : k = n := by omega
      have HF : Hid (firstE (L.map fun l => cutE l wd hi) = 0) := hid_ (firstE_all _ (fun y hy => by
        obtain ⟨x, hx, rfl⟩ := List.mem_map.1 hy
        exact HT.out x (by rw [ek, ← HL.out, List.take_length]; exact hx)))
      go_wp2_with fail
      go_ret
      rw [HF.out]
      exact ⟨rfl, hx⟩
theorem fchk_any (wd hi : Int) (L : List (List Int)) (A : Option Addr) (n c : Nat) (w : World) (hr : RowsS w A n c L) :
    Calls Try.prog 18 #[.agg (picV wd hi (.slice A n c))] w fun e w' => e = .returned (.int .i64 (picE wd hi L)) ∧ Ext w w' := by
  unfold picE
  by_cases h0 : sidesZ wd hi = 0
  · rw [if_pos h0]
    by_cases h : L.length = 1 ∨ L.length = 3
    · rw [if_pos h]
      rw [hr.len] at h
      rcases h with h | h
      · exact fchk_in1 wd hi L A n c w hr h0 h
      · exact fchk_in3 wd hi L A n c w hr h0 h
    · rw [if_neg h]
      exact fchk_parts wd hi L A n c w hr h0 h
  · rw [if_neg h0]
    exact fchk_sides wd hi L A n c w hr h0
end Go.Proofs.Ytlepchdlkhogiaa
