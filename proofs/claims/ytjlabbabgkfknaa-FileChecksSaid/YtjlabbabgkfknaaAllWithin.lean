/- quant.allWithin, quant.Check. -/
import Derived.Test.YtjlabbabgkfknaaBlocks
namespace Go.Proofs.Ytjlabbabgkfknaa
set_option linter.unusedVariables false
set_option linter.unusedSimpArgs false
open Go.RowKit
theorem allWithin1_any (g1 g2 : Nat) (z lo hi : Int) (w : World) (h1 : w.cell? ⟨g1, 0, none⟩ = some (.int .i64 lo)) (h2 : w.cell? ⟨g2, 0, none⟩ = some (.int .i64 hi)) :
    Calls Try.prog 39 (#[.int .i64 z] ++ #[.pointer (some ⟨g1, 0, none⟩), .pointer (some ⟨g2, 0, none⟩)]) w fun e w' => e = .returned (.bool (decide (z < lo) || decide (hi < z))) ∧ w = w' := by
  by_cases h : z < lo
  · have h' : decide (z < lo) = true := by simpa using h
    go_enter Try.func39, Try.ntmps39
    go_wp2
    go_ret
    exact ⟨by rw [h']; rfl, rfl⟩
  · have h' : decide (z < lo) = false := by simpa using h
    go_enter Try.func39, Try.ntmps39
    go_wp2
    go_ret
    exact ⟨by simp, rfl⟩
theorem enters_aw1 : Enters Try.prog 39 := enters_of Try.func39 (by kernel_rfl) rfl
set_option maxHeartbeats 400000 in
theorem allWithin_any (zs : List Int) (lo hi : Int) (w : World) (hz : zs.length = 64) :
    Calls Try.prog 36 #[.agg (bv zs), .int .i64 lo, .int .i64 hi] w fun e w' => e = .returned (.bool (allIn zs lo hi)) ∧ Ext w w' := by
  have HZ : Hid (zs.length = 64) := hz
  have hs := (bv_size zs).trans hz
  have HS : Hid ((bv zs).size = 64) := hs
  have hmf : ∀ (fn : Fn) (first cap : Array Value) (w : World), (Instr.makeFunc fn first cap).run Try.prog w = .ok (.func fn first cap) w := fun _ _ _ _ => rfl
  have hcont := containsFunc_any 39 #[.pointer (some ⟨w.heap.size + 1, 0, none⟩), .pointer (some ⟨w.heap.size + 1 + 1, 0, none⟩)] (fun z => decide (z < lo) || decide (hi < z)) enters_aw1
    (.slice (some ⟨w.heap.size, 0, none⟩) 64 64) zs (((w.alloc (.cells (bv zs) 31)).alloc (.cells #[.int .i64 lo] 3)).alloc (.cells #[.int .i64 hi] 3))
    (by
      have h := (((Blk.new w 31 (bv zs)).alloc (.cells #[.int .i64 lo] 3)).alloc (.cells #[.int .i64 hi] 3)).bsl (c := 64) (by omega) (by omega)
      rwa [hz] at h ⊢)
    (fun z _ => allWithin1_any (w.heap.size + 1) (w.heap.size + 1 + 1) z lo hi _ (by
        have h := ((Blk.new (w.alloc (.cells (bv zs) 31)) 3 #[.int .i64 lo]).alloc (.cells #[.int .i64 hi] 3)).cell 0
        rwa [World.size_alloc] at h) (by
        have h := (Blk.new ((w.alloc (.cells (bv zs) 31)).alloc (.cells #[.int .i64 lo] 3)) 3 #[.int .i64 hi]).cell 0
        rwa [World.size_alloc, World.size_alloc] at h))
  have HC := hid_ hcont
  generalize hcs : bv zs = cs at *
  clear hs hz hcs hcont
  go_enter Try.func36, Try.ntmps36
  go_wp2_with fail
  refine HC.out.mono ?_
  rintro e w' ⟨rfl, rfl⟩
  go_wp2_with fail
  go_ret
  refine ⟨?_, ((Ext.refl w).alloc _).alloc _ |>.alloc _⟩
  rw [← allIn_not]
  rfl
set_option maxHeartbeats 400000 in
theorem qcheck_any (zs : List Int) (w : World) (hz : zs.length = 64) :
    Calls Try.prog 31 #[.agg (bv zs)] w fun e w' => e = .returned (.int .i64 (if allIn zs 1 255 then 0 else 1)) ∧ Ext w w' := by
  have hs := (bv_size zs).trans hz
  have HS : Hid ((bv zs).size = 64) := hs
  have hc := hid_ (fun W => allWithin_any zs 1 255 W hz)
  generalize hcs : bv zs = cs at *
  clear hs hz hcs
  cases hb : allIn zs 1 255 with
  | true =>
    rw [hb] at hc
    go_enter Try.func31, Try.ntmps31
    go_wp2_with (first | (refine wpList_load_blk rfl 31 _ rfl _ rfl (Blk.new w 31 cs) _ Try.underlying31 rfl 64 size48 HS.out ?_) | (go_at_call 36; refine (hc.out _).mono ?_; rintro e w' ⟨rfl, hx⟩))
    go_ret
    exact ⟨rfl, ((Ext.refl w).alloc _).trans hx⟩
  | false =>
    rw [hb] at hc
    go_enter Try.func31, Try.ntmps31
    go_wp2_with (first | (refine wpList_load_blk rfl 31 _ rfl _ rfl (Blk.new w 31 cs) _ Try.underlying31 rfl 64 size48 HS.out ?_) | (go_at_call 36; refine (hc.out _).mono ?_; rintro e w' ⟨rfl, hx⟩))
    go_ret
    exact ⟨rfl, ((Ext.refl w).alloc _).trans hx⟩
end Go.Proofs.Ytjlabbabgkfknaa
