/- plane.Cut: the cases that answer an error. -/
import Derived.Test.YtlepchdlkhogiaaPlane3
import Derived.Test.YtlepchdlkhogiaaIdxFunc
import Derived.Test.YtlepchdlkhogiaaInts
namespace Go.Proofs.Ytlepchdlkhogiaa
set_option linter.unusedVariables false
set_option linter.unusedSimpArgs false
open Go.RowKit
theorem cut1_any (z : Int) (w : World) : Calls Try.prog 33 (#[.int .i64 z] ++ #[]) w fun e w' => e = .returned (.bool (!inB z 0 255)) ∧ w = w' := by
  by_cases h : z < 0
  · have h' : decide (z < 0) = true := by simpa using h
    have e : inB z 0 255 = false := inB_not.2 (by omega)
    rw [e]; clear e
    go_enter Try.func33, Try.ntmps33
    go_wp2_with fail
    go_ret
    exact ⟨rfl, rfl⟩
  · have h' : decide (z < 0) = false := by simpa using h
    have e : (!inB z 0 255) = decide (255 < z) := by rw [Bool.eq_iff_iff]; simp [inB]; omega
    rw [e]; clear e
    go_enter Try.func33, Try.ntmps33
    go_wp2_with fail
    go_ret
    exact ⟨rfl, rfl⟩
theorem enters_cut1 : Enters Try.prog 33 := enters_of Try.func33 (by kernel_rfl) rfl
/-- the errno of Cut -/
def cutE (xs : List Int) (wd hi : Int) : Int := if sidesZ wd hi = 0 then (if (xs.length : Int) = wd * hi then (if allIn xs 0 255 then 0 else 1) else 4) else 1
set_option maxRecDepth 20000 in
set_option maxHeartbeats 1000000 in
theorem cut_sides (xs : List Int) (v : Value) (wd hi : Int) (w : World) (hv : SL w 1 v xs.length (ints xs)) (h : sidesZ wd hi ≠ 0) :
    Calls Try.prog 10 #[v, .int .i64 wd, .int .i64 hi] w fun e w' => e = .returned (.tuple #[.slice none 0 0, .int .i64 1]) ∧ Ext w w' := by
  have HK := hid_ (fun W => areaCheck_any wd hi W)
  rw [sides_no h] at HK
  clear h
  have hbv : #[Value.int .i64 wd, Value.int .i64 hi] = areaV wd hi := rfl
  have hts := hid_ (areaV_size wd hi)
  have ho := hid_ (areaV_one wd hi)
  generalize areaV wd hi = av at *
  obtain ⟨A, c, rfl, hc1, hc2, -, -⟩ := hv
  go_enter Try.func10, Try.ntmps10
  go_wp2_with (first
    | (refine wpList_alloc_abs' rfl (some 8) rfl 69 rfl _ zeroArea ?_; intro w1 g hb1 hx1 hg)
    | (refine wpList_store_blk rfl 69 (.tmp 8) (.tmp 17) rfl _ _ rfl rfl hb1 2 sizeArea hts.out rfl ho.out ?_; intro w2 hb2 hg2; have hx2 := hx1.grown hg2 (by omega))
    | (refine wpList_load_blk rfl 69 (.tmp 8) rfl _ rfl hb2 _ Try.underlying69 rfl 2 sizeArea hts.out ?_)
    | (go_at_call 31; (with_reducible refine (HK.out _).mono ?_); rintro e w3 ⟨rfl, hx3⟩))
  go_ret2
  exact ⟨rfl, hx2.trans hx3⟩
set_option maxRecDepth 20000 in
set_option maxHeartbeats 1000000 in
theorem cut_long (xs : List Int) (v : Value) (wd hi : Nat) (w : World) (hv : SL w 1 v xs.length (ints xs)) (h0 : sidesZ wd hi = 0) (a2 : wd ≤ 64) (b2 : hi ≤ 64) (h : xs.length ≠ wd * hi) :
    Calls Try.prog 10 #[v, .int .i64 wd, .int .i64 hi] w fun e w' => e = .returned (.tuple #[.slice none 0 0, .int .i64 4]) ∧ Ext w w' := by
  have HK := hid_ (fun W => areaCheck_any wd hi W)
  rw [h0] at HK
  clear h0
  have hm : wd * hi ≤ 64 * 64 := Nat.mul_le_mul a2 b2
  have hw1 : IntKind.i64.wrap ((wd : Int) * (hi : Int)) = (wd : Int) * (hi : Int) := by rw [← Int.natCast_mul]; exact IntWalk.i64_in _ (by omega)
  have hne : ((xs.length : Int) != (wd : Int) * (hi : Int)) = true := by rw [← Int.natCast_mul]; simp; omega
  have hbv : #[Value.int .i64 wd, Value.int .i64 hi] = areaV wd hi := rfl
  have hts := hid_ (areaV_size wd hi)
  have ho := hid_ (areaV_one wd hi)
  generalize areaV wd hi = av at *
  obtain ⟨A, c, rfl, hc1, hc2, -, -⟩ := hv
  clear h hm
  go_enter Try.func10, Try.ntmps10
  go_wp2_with (first
    | (refine wpList_alloc_abs' rfl (some 8) rfl 69 rfl _ zeroArea ?_; intro w1 g hb1 hx1 hg)
    | (refine wpList_store_blk rfl 69 (.tmp 8) (.tmp 17) rfl _ _ rfl rfl hb1 2 sizeArea hts.out rfl ho.out ?_; intro w2 hb2 hg2; have hx2 := hx1.grown hg2 (by omega))
    | (refine wpList_load_blk rfl 69 (.tmp 8) rfl _ rfl hb2 _ Try.underlying69 rfl 2 sizeArea hts.out ?_)
    | (go_at_call 31; (with_reducible refine (HK.out _).mono ?_); rintro e w3 ⟨rfl, hx3⟩))
  go_ret2
  exact ⟨rfl, hx2.trans hx3⟩
set_option maxRecDepth 20000 in
set_option maxHeartbeats 1000000 in
theorem cut_out (xs : List Int) (v : Value) (wd hi : Nat) (w : World) (hv : SL w 1 v xs.length (ints xs)) (h0 : sidesZ wd hi = 0) (a2 : wd ≤ 64) (b2 : hi ≤ 64) (h : xs.length = wd * hi) (hq : allIn xs 0 255 = false) :
    Calls Try.prog 10 #[v, .int .i64 wd, .int .i64 hi] w fun e w' => e = .returned (.tuple #[.slice none 0 0, .int .i64 1]) ∧ Ext w w' := by
  have HK := hid_ (fun W => areaCheck_any wd hi W)
  rw [h0] at HK
  clear h0
  have HCF := hid_ (fun W (hs : SL W 1 v xs.length (ints xs)) => containsFunc_any 33 #[] (fun z => !inB z 0 255) enters_cut1 v xs W hs (fun z _ => cut1_any z W))
  simp only [inB_any, hq] at HCF
  clear hq
  have hm : wd * hi ≤ 64 * 64 := Nat.mul_le_mul a2 b2
  have hw1 : IntKind.i64.wrap ((wd : Int) * (hi : Int)) = (wd : Int) * (hi : Int) := by rw [← Int.natCast_mul]; exact IntWalk.i64_in _ (by omega)
  have hne : ((xs.length : Int) != (wd : Int) * (hi : Int)) = false := by rw [← Int.natCast_mul]; simp; omega
  have hbv : #[Value.int .i64 wd, Value.int .i64 hi] = areaV wd hi := rfl
  have hts := hid_ (areaV_size wd hi)
  have ho := hid_ (areaV_one wd hi)
  generalize areaV wd hi = av at *
  have hv' := hv
  obtain ⟨A, c, rfl, hc1, hc2, -, -⟩ := hv'
  clear h hm
  go_enter Try.func10, Try.ntmps10
  go_wp2_with (first
    | (refine wpList_alloc_abs' rfl (some 8) rfl 69 rfl _ zeroArea ?_; intro w1 g hb1 hx1 hg)
    | (refine wpList_store_blk rfl 69 (.tmp 8) (.tmp 17) rfl _ _ rfl rfl hb1 2 sizeArea hts.out rfl ho.out ?_; intro w2 hb2 hg2; have hx2 := hx1.grown hg2 (by omega))
    | (refine wpList_load_blk rfl 69 (.tmp 8) rfl _ rfl hb2 _ Try.underlying69 rfl 2 sizeArea hts.out ?_)
    | (go_at_call 31; (with_reducible refine (HK.out _).mono ?_); rintro e w3 ⟨rfl, hx3⟩; have hx23 := hx2.trans hx3)
    | (go_at_call 32; (with_reducible refine (HCF.out _ (hv.ext hx23)).mono ?_); rintro e w4 ⟨rfl, rfl⟩))
  go_ret2
  exact ⟨rfl, hx23⟩
end Go.Proofs.Ytlepchdlkhogiaa
