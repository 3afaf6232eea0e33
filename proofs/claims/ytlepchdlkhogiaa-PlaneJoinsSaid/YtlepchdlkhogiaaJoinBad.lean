/- plane.Join: the cases that answer an error at once. -/
import Derived.Test.YtlepchdlkhogiaaCutBad
import Derived.Test.YtlepchdlkhogiaaJoinMath
import Derived.Test.YtlepchdlkhogiaaMakeInts
import Derived.Test.YtlepchdlkhogiaaLoadAny
import Derived.Test.YtlepchdlkhogiaaDraw
import Derived.Deep.Cut
namespace Go.Proofs.Ytlepchdlkhogiaa
set_option linter.unusedVariables false
set_option linter.unusedSimpArgs false
open Go.RowKit

theorem join1_any (z : Int) (w : World) : Calls Try.prog 37 (#[.int .i64 z] ++ #[]) w fun e w' => e = .returned (.bool (!inB z (-40000) 40000)) ∧ w = w' := by
  by_cases h : z < -40000
  · have h' : decide (z < -40000) = true := by simpa using h
    have e : inB z (-40000) 40000 = false := inB_not.2 (by omega)
    rw [e]; clear e
    go_enter Try.func37, Try.ntmps37
    go_wp2_with fail
    go_ret
    exact ⟨rfl, rfl⟩
  · have h' : decide (z < -40000) = false := by simpa using h
    have e : (!inB z (-40000) 40000) = decide (40000 < z) := by rw [Bool.eq_iff_iff]; simp [inB]; omega
    rw [e]; clear e
    go_enter Try.func37, Try.ntmps37
    go_wp2_with fail
    go_ret
    exact ⟨rfl, rfl⟩
theorem enters_join1 : Enters Try.prog 37 := enters_of Try.func37 (by kernel_rfl) rfl
/-- the k-th block of a flat list -/
theorem blk_part {w : World} {A : Option Addr} {n c k : Nat} {Z : List Int} (hv : SL w 64 (.slice A n c) n (ints Z)) (hz : Z.length = n * 64) (hk : k < n) :
    ∃ ad zs, A = some ad ∧ ad.block < w.heap.size ∧ CellsAt w (ad.add (k * 64)) (ints zs) ∧ zs = (Z.drop (k * 64)).take 64 ∧ zs.length = 64 := by
  obtain ⟨ad, rfl, hab, hca⟩ := hv.part hk
  have e : ((ints Z).drop (k * 64)).take 64 = ints ((Z.drop (k * 64)).take 64) := by simp [ints, List.map_drop, List.map_take]
  exact ⟨ad, _, rfl, hab, by rw [← e]; exact hca, rfl, by rw [List.length_take, List.length_drop, hz]; omega⟩
theorem bv_sz {zs : List Int} (h : zs.length = 64) : (ints zs).toArray.size = 64 := by simp [ints_len, h]
theorem zero48s : (Value.agg (bv zeros64)).cells.size = 64 := by rw [show (Value.agg (bv zeros64)).cells = bv zeros64 from rfl, bv_size]; rfl
/-- what Join answers -/
def JoinIs (n : Nat) (Z : List Int) (wd hi : Int) (w : World) (e : Ending) (w' : World) : Prop :=
  ∃ A m c, e = .returned (.tuple #[.slice A m c, .int .i64 (joinE n Z wd hi (sidesZ wd hi))]) ∧ m = (if joinE n Z wd hi (sidesZ wd hi) = 0 then wd.toNat * hi.toNat else 0) ∧ SL w' 1 (.slice A m c) m (ints (if joinE n Z wd hi (sidesZ wd hi) = 0 then joinZ Z wd.toNat hi.toNat else [])) ∧ Ext w w'
theorem join_err {n : Nat} {Z : List Int} {wd hi : Int} {w w' : World} {e : Ending} {k : Int} (hk : joinE n Z wd hi (sidesZ wd hi) = k) (h0 : k ≠ 0) (he : e = .returned (.tuple #[.slice none 0 0, .int .i64 k])) (hx : Ext w w') : JoinIs n Z wd hi w e w' := by
  unfold JoinIs
  rw [hk]
  refine ⟨none, 0, 0, he, by rw [if_neg h0], ?_, hx⟩
  rw [if_neg h0]
  exact SL.nil _ _
set_option maxRecDepth 20000 in
set_option maxHeartbeats 1000000 in
theorem join_sides (n : Nat) (Z : List Int) (v : Value) (wd hi : Int) (w : World) (hv : SL w 64 v n (ints Z)) (hz : Z.length = n * 64) (h : sidesZ wd hi ≠ 0) :
    Calls Try.prog 14 #[v, .int .i64 wd, .int .i64 hi] w fun e w' => e = .returned (.tuple #[.slice none 0 0, .int .i64 1]) ∧ Ext w w' := by
  have HK := hid_ (fun W => areaCheck_any wd hi W)
  rw [sides_no h] at HK
  clear h
  have hbv : #[Value.int .i64 wd, Value.int .i64 hi] = areaV wd hi := rfl
  have hts := hid_ (areaV_size wd hi)
  have ho := hid_ (areaV_one wd hi)
  have HZ0 := hid_ zero48
  generalize areaV wd hi = av at *
  have HZ := hid_ hz
  clear hz
  have hv' := hv
  obtain ⟨A, c, rfl, hc1, hc2, -, -⟩ := hv'
  go_enter Try.func14, Try.ntmps14
  go_wp2_with (first
                | (refine wpList_alloc_abs' rfl (some 8) rfl 69 rfl _ zeroArea ?_; intro w1 g hb1 hx1 hg)
                | (refine wpList_store_blk rfl 69 (.tmp 8) (.tmp 21) rfl _ _ rfl rfl hb1 2 sizeArea hts.out rfl ho.out ?_; intro w2 hb2 hg2; have hx2 := hx1.grown hg2 (by omega))
                | (refine wpList_load_blk rfl 69 (.tmp 8) rfl _ rfl hb2 _ Try.underlying69 rfl 2 sizeArea hts.out ?_)
                | (go_at_call 31; (with_reducible refine (HK.out _).mono ?_); rintro e w3 ⟨rfl, hx3⟩; have hx23 := hx2.trans hx3; have hb3 := hb2.ext hx3))
  go_loopw [9, 35] (fun s i wr => ∃ k : Nat, k ≤ n ∧ i = .int .i64 (k : Int) ∧ s = .int .i64 1 ∧ Ext w wr) (fun _ i _ => n - (intOf i).toNat)
  case atStart => exact ⟨0, by omega, rfl, rfl, hx23⟩
  case round =>
    obtain ⟨k, hk, rfl, rfl, hx⟩ := hrel
    by_cases hlt : k < n
    · obtain ⟨ad, zs, rfl, hab, hca, -, hl⟩ := blk_part (hv.ext hx) HZ.out hlt
      have HCA := hid_ hca
      have HL := hid_ hl
      clear hca hl
      go_wp2_with (first
                | (refine wpList_load_any (by rfl) 31 (.tmp 37) rfl (ad.add (k * 64)) rfl (ints zs) _ HCA.out Try.underlying31 rfl (by rw [ints_len, HL.out]; exact size48) ?_)
                | (refine wpList_alloc_abs' rfl (some 11) rfl 31 rfl _ HZ0.out ?_; intro w7 g7 hb7 hx7 hg7)
                | (refine wpList_store_blk rfl 31 (.tmp 11) (.tmp 38) rfl _ _ rfl rfl hb7 64 size48 (bv_sz HL.out) zero48s (bv_one zs) ?_; intro w8 hb8 hg8; have hx8 := hx7.grown hg8 (by omega)))
      go_roundw
      case rel => exact ⟨k + 1, by omega, by go_num, rfl, hx.trans hx8⟩
      case measure => simp [intOf]; omega
    · go_wp2_with fail
      go_ret2
      exact ⟨rfl, hx⟩
set_option maxRecDepth 20000 in
set_option maxHeartbeats 1000000 in
theorem join_many (n : Nat) (Z : List Int) (v : Value) (wd hi : Nat) (w : World) (hv : SL w 64 v n (ints Z)) (hz : Z.length = n * 64) (h0 : sidesZ wd hi = 0) (a1 : 1 ≤ wd) (a2 : wd ≤ 64) (b1 : 1 ≤ hi) (b2 : hi ≤ 64) (h : n ≠ cutN wd hi) :
    Calls Try.prog 14 #[v, .int .i64 wd, .int .i64 hi] w fun e w' => e = .returned (.tuple #[.slice none 0 0, .int .i64 4]) ∧ Ext w w' := by
  have HK := hid_ (fun W => areaCheck_any wd hi W)
  rw [h0] at HK
  clear h0
  have HM := hid_ (fun W => many_any wd hi W a1 a2 b1 b2)
  have hcn : (wd + 7) / 8 * ((hi + 7) / 8) = cutN wd hi := rfl
  rw [hcn] at HM
  clear hcn
  generalize cutN wd hi = N at *
  have hne : ((n : Int) != (N : Int)) = true := by simp; omega
  have hneq : (n == N) = false := by simpa using h
  clear h
  have hbv : #[Value.int .i64 wd, Value.int .i64 hi] = areaV wd hi := rfl
  have hts := hid_ (areaV_size wd hi)
  have ho := hid_ (areaV_one wd hi)
  have HZ0 := hid_ zero48
  generalize areaV wd hi = av at *
  have HZ := hid_ hz
  clear hz
  have hv' := hv
  obtain ⟨A, c, rfl, hc1, hc2, -, -⟩ := hv'
  go_enter Try.func14, Try.ntmps14
  go_wp2_with (first
                | (refine wpList_alloc_abs' rfl (some 8) rfl 69 rfl _ zeroArea ?_; intro w1 g hb1 hx1 hg)
                | (refine wpList_store_blk rfl 69 (.tmp 8) (.tmp 21) rfl _ _ rfl rfl hb1 2 sizeArea hts.out rfl ho.out ?_; intro w2 hb2 hg2; have hx2 := hx1.grown hg2 (by omega))
                | (refine wpList_load_blk rfl 69 (.tmp 8) rfl _ rfl hb2 _ Try.underlying69 rfl 2 sizeArea hts.out ?_)
                | (go_at_call 31; (with_reducible refine (HK.out _).mono ?_); rintro e w3 ⟨rfl, hx3⟩; have hx23 := hx2.trans hx3; have hb3 := hb2.ext hx3)
                | (refine wpList_load_blk_g (by rfl) 69 (.tmp 8) rfl _ rfl hb3 _ Try.underlying69 rfl 2 sizeArea hts.out ?_)
                | (go_at_call 34; (with_reducible refine (HM.out _).mono ?_); rintro e w5 ⟨rfl, hx5⟩; have hb5 := hb3.ext hx5; have hx35 := hx23.trans hx5))
  go_loopw [9, 35] (fun s i wr => ∃ k : Nat, k ≤ n ∧ i = .int .i64 (k : Int) ∧ s = .int .i64 4 ∧ Ext w wr) (fun _ i _ => n - (intOf i).toNat)
  case atStart => exact ⟨0, by omega, rfl, rfl, hx35⟩
  case round =>
    obtain ⟨k, hk, rfl, rfl, hx⟩ := hrel
    by_cases hlt : k < n
    · obtain ⟨ad, zs, rfl, hab, hca, -, hl⟩ := blk_part (hv.ext hx) HZ.out hlt
      have HCA := hid_ hca
      have HL := hid_ hl
      clear hca hl
      go_wp2_with (first
                | (refine wpList_load_any (by rfl) 31 (.tmp 37) rfl (ad.add (k * 64)) rfl (ints zs) _ HCA.out Try.underlying31 rfl (by rw [ints_len, HL.out]; exact size48) ?_)
                | (refine wpList_alloc_abs' rfl (some 11) rfl 31 rfl _ HZ0.out ?_; intro w7 g7 hb7 hx7 hg7)
                | (refine wpList_store_blk rfl 31 (.tmp 11) (.tmp 38) rfl _ _ rfl rfl hb7 64 size48 (bv_sz HL.out) zero48s (bv_one zs) ?_; intro w8 hb8 hg8; have hx8 := hx7.grown hg8 (by omega)))
      go_roundw
      case rel => exact ⟨k + 1, by omega, by go_num, rfl, hx.trans hx8⟩
      case measure => simp [intOf]; omega
    · go_wp2_with fail
      go_ret2
      exact ⟨rfl, hx⟩
end Go.Proofs.Ytlepchdlkhogiaa
