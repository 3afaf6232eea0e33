/- plane.area: check, across. -/
import Derived.Test.YtlepchdlkhogiaaMono
import Derived.Test.YtlepchdlkhogiaaMath1
import Derived.Test.YtlepchdlkhogiaaRefRound
namespace Go.Proofs.Ytlepchdlkhogiaa
set_option linter.unusedVariables false
set_option linter.unusedSimpArgs false
open Go.RowKit
theorem sizeArea : (Try.prog.info? 69).map (·.size) = some 2 := by kernel_rfl
def areaV (wd hi : Int) : Array Value := #[.int .i64 wd, .int .i64 hi]
def sidesZ (wd hi : Int) : Int := if inB wd 1 64 && inB hi 1 64 then 0 else 1
theorem inB_val (n lo hi : Int) : inB n lo hi = (!decide (n < lo) && !decide (hi < n)) := by
  rw [Bool.eq_iff_iff, inB_iff]
  simp
theorem area_cells {w : World} {g : Nat} {T : TypeId} {wd hi : Int} (h : Blk w g T (areaV wd hi)) : w.cell? ⟨g, 0, none⟩ = some (.int .i64 wd) ∧ w.cell? ⟨g, 1, none⟩ = some (.int .i64 hi) := by
  rw [h.cell, h.cell]
  exact ⟨rfl, rfl⟩
set_option maxRecDepth 20000 in
set_option maxHeartbeats 1000000 in
theorem areaCheck_any (wd hi : Int) (w : World) :
    Calls Try.prog 31 #[.agg (areaV wd hi)] w fun e w' => e = .returned (.int .i64 (sidesZ wd hi)) ∧ Ext w w' := by
  have HC := hid_ (fun W g (h : Blk W g 69 (areaV wd hi)) => area_cells h)
  have e : sidesZ wd hi = if wd < 1 then 1 else if 64 < wd then 1 else if hi < 1 then 1 else if 64 < hi then 1 else 0 := by
    unfold sidesZ
    rw [inB_val, inB_val]
    by_cases h1 : wd < 1 <;> by_cases h2 : 64 < wd <;> by_cases h3 : hi < 1 <;> by_cases h4 : 64 < hi <;> simp [h1, h2, h3, h4]
  rw [e]
  clear e
  generalize areaV wd hi = av at *
  by_cases h1 : wd < 1
  · rw [if_pos h1]
    go_enter Try.func31, Try.ntmps31
    go_wp2_with (refine wpList_box_abs rfl 69 (.tmp 0) rfl av rfl ?_; intro w1 g hb1 hx1 hg; obtain ⟨c0, c1⟩ := HC.out _ _ hb1)
    go_ret
    exact ⟨rfl, hx1⟩
  · rw [if_neg h1]
    by_cases h2 : 64 < wd
    · rw [if_pos h2]
      go_enter Try.func31, Try.ntmps31
      go_wp2_with (refine wpList_box_abs rfl 69 (.tmp 0) rfl av rfl ?_; intro w1 g hb1 hx1 hg; obtain ⟨c0, c1⟩ := HC.out _ _ hb1)
      go_ret
      exact ⟨rfl, hx1⟩
    · rw [if_neg h2]
      by_cases h3 : hi < 1
      · rw [if_pos h3]
        go_enter Try.func31, Try.ntmps31
        go_wp2_with (refine wpList_box_abs rfl 69 (.tmp 0) rfl av rfl ?_; intro w1 g hb1 hx1 hg; obtain ⟨c0, c1⟩ := HC.out _ _ hb1)
        go_ret
        exact ⟨rfl, hx1⟩
      · rw [if_neg h3]
        by_cases h4 : 64 < hi
        · rw [if_pos h4]
          go_enter Try.func31, Try.ntmps31
          go_wp2_with (refine wpList_box_abs rfl 69 (.tmp 0) rfl av rfl ?_; intro w1 g hb1 hx1 hg; obtain ⟨c0, c1⟩ := HC.out _ _ hb1)
          go_ret
          exact ⟨rfl, hx1⟩
        · rw [if_neg h4]
          go_enter Try.func31, Try.ntmps31
          go_wp2_with (refine wpList_box_abs rfl 69 (.tmp 0) rfl av rfl ?_; intro w1 g hb1 hx1 hg; obtain ⟨c0, c1⟩ := HC.out _ _ hb1)
          go_ret
          exact ⟨rfl, hx1⟩
theorem across_any (wd : Nat) (hi : Int) (w : World) (h1 : 1 ≤ wd) (h2 : wd ≤ 64) :
    Calls Try.prog 64 #[.agg (areaV wd hi)] w fun e w' => e = .returned (.int .i64 (((wd + 7) / 8 : Nat) : Int)) ∧ Ext w w' := by
  have HC := hid_ (fun W g (h : Blk W g 69 (areaV wd hi)) => area_cells h)
  generalize areaV wd hi = av at *
  go_enter Try.func64, Try.ntmps64
  go_wp2_with (refine wpList_box_abs rfl 69 (.tmp 0) rfl av rfl ?_; intro w1 g hb1 hx1 hg; obtain ⟨c0, c1⟩ := HC.out _ _ hb1)
  go_ret
  refine ⟨?_, hx1⟩
  congr 2
  go_num
theorem sidesCheck_any (wd hi : Int) (w : World) :
    Calls Try.prog 16 #[.int .i64 wd, .int .i64 hi] w fun e w' => e = .returned (.int .i64 (sidesZ wd hi)) ∧ w = w' := by
  have W1 := hid_ (fun W => outside_any wd 1 64 W)
  have W2 := hid_ (fun W => outside_any hi 1 64 W)
  unfold sidesZ
  generalize inB wd 1 64 = b1 at *
  generalize inB hi 1 64 = b2 at *
  cases b1 with
  | false =>
    go_enter Try.func16, Try.ntmps16
    go_wp2_with (first
      | (go_at_call 36; (with_reducible refine (W1.out _).mono ?_); rintro e w2 ⟨rfl, rfl⟩)
      | (go_at_call 36; (with_reducible refine (W2.out _).mono ?_); rintro e w2 ⟨rfl, rfl⟩))
    go_ret
    exact ⟨rfl, rfl⟩
  | true =>
    cases b2 with
    | false =>
      go_enter Try.func16, Try.ntmps16
      go_wp2_with (first
        | (go_at_call 36; (with_reducible refine (W1.out _).mono ?_); rintro e w2 ⟨rfl, rfl⟩)
        | (go_at_call 36; (with_reducible refine (W2.out _).mono ?_); rintro e w2 ⟨rfl, rfl⟩))
      go_ret
      exact ⟨rfl, rfl⟩
    | true =>
      go_enter Try.func16, Try.ntmps16
      go_wp2_with (first
        | (go_at_call 36; (with_reducible refine (W1.out _).mono ?_); rintro e w2 ⟨rfl, rfl⟩)
        | (go_at_call 36; (with_reducible refine (W2.out _).mono ?_); rintro e w2 ⟨rfl, rfl⟩))
      go_ret
      exact ⟨rfl, rfl⟩
end Go.Proofs.Ytlepchdlkhogiaa
