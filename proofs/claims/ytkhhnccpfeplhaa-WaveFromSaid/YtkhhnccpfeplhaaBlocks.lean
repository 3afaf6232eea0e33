/- api.Block by value: the facts of its type, and the contracts on whether all its numbers lie within bounds. -/
import Derived.Test.YtkhhnccpfeplhaaBase
import Derived.Test.YtkhhnccpfeplhaaEqInt
import Derived.Test.YtkhhnccpfeplhaaMath1
import Derived.Test.YtkhhnccpfeplhaaRefRound
import Derived.Test.YtkhhnccpfeplhaaIdxFunc
namespace Go.Proofs.Ytkhhnccpfeplhaa
open Go.RowKit
theorem sizeInt : (Try.prog.info? 3).map (·.size) = some 1 := by kernel_rfl
theorem run_index48 (cs : Array Value) (i : Nat) (u : Value) (hi : i < 64) (hu : cs[i]? = some u) (w : World) : (Instr.index 31 (.agg cs) (.int .i64 (i : Int))).run Try.prog w = .ok u w :=
  run_index_agg _ _ 64 cs i u Try.underlying31 _ Try.underlying3 sizeInt hi hu w
theorem size48 : (Try.prog.info? 31).map (·.size) = some 64 := by kernel_rfl
/-- a block of 64 numbers, as a value -/
def bv (zs : List Int) : Array Value := (ints zs).toArray
theorem bv_size (zs : List Int) : (bv zs).size = zs.length := by simp [bv, ints_len]
theorem bv_at (zs : List Int) (k : Nat) (h : k < zs.length) : (bv zs)[k]? = some (.int .i64 zs[k]) := by simp [bv, ints, h]
theorem bv_one (zs : List Int) : (bv zs).all (·.oneCell') = true := by
  simp only [bv, Array.all_eq_true_iff_forall_mem]
  intro v hv
  simp only [List.mem_toArray, ints, List.mem_map] at hv
  obtain ⟨z, -, rfl⟩ := hv
  rfl
theorem bv_set (zs : List Int) (k : Nat) (z : Int) : (bv zs).setIfInBounds k (.int .i64 z) = bv (zs.set k z) := by
  simp [bv, ints, List.map_set]
theorem Blk.bsl {w : World} {g : Nat} {T : TypeId} {zs : List Int} {c : Nat} (h : Blk w g T (bv zs)) (hc : zs.length ≤ c) (hc2 : c ≤ 9223372036854775807) :
    SL w 1 (.slice (some ⟨g, 0, none⟩) zs.length c) zs.length (Go.Proofs.Ytkhhnccpfeplhaa.ints zs) := by
  have := h.sl (size := 1) (n := zs.length) (c := c) (by simp [bv_size]) hc hc2
  simpa [bv] using this
theorem allIn_take {zs : List Int} {lo hi : Int} {k : Nat} (h : ∀ z ∈ zs.take k, lo ≤ z ∧ z ≤ hi) (hk : k < zs.length) (hz : lo ≤ zs[k] ∧ zs[k] ≤ hi) : ∀ z ∈ zs.take (k + 1), lo ≤ z ∧ z ≤ hi := by
  rw [List.take_succ_eq_append_getElem hk]
  intro z hz'
  rcases List.mem_append.1 hz' with h1 | h1
  · exact h z h1
  · simp at h1; subst h1; exact hz
set_option maxHeartbeats 400000 in
theorem blockWithin_any (zs : List Int) (lo hi : Int) (w : World) (hz : zs.length = 64) :
    Calls Try.prog 27 #[.agg (bv zs), .int .i64 lo, .int .i64 hi] w fun e w' => e = .returned (.bool (allIn zs lo hi)) ∧ Ext w w' := by
  have HZ : Hid (zs.length = 64) := hz
  have hs := (bv_size zs).trans hz
  have HS : Hid ((bv zs).size = 64) := hs
  have hat := bv_at zs
  generalize hcs : bv zs = cs at *
  have HA : Hid (∀ (k : Nat) (h : k < zs.length), cs[k]? = some (.int .i64 zs[k])) := hat
  clear hat hs hz hcs
  go_enter Try.func27, Try.ntmps27
  go_wp2_with (refine wpList_load_blk rfl 31 _ rfl _ rfl (Blk.new w 31 cs) _ Try.underlying31 rfl 64 size48 HS.out ?_)
  go_loop [10] (fun i => ∃ k : Nat, k ≤ 64 ∧ i = .int .i64 k ∧ ∀ z ∈ zs.take k, lo ≤ z ∧ z ≤ hi) (fun i => 64 - (intOf i).toNat)
  case atStart => exact ⟨0, by omega, rfl, by simp⟩
  case round =>
    obtain ⟨k, hk, rfl, ht⟩ := hrel
    have HT : Hid (∀ z ∈ zs.take k, lo ≤ z ∧ z ≤ hi) := ht
    clear ht
    by_cases hlt : k < 64
    · have hlt2 : k < zs.length := by have := HZ.out; omega
      have hat := fun W => run_index48 cs k _ hlt (HA.out k hlt2) W
      cases hd : inB zs[k] lo hi with
      | true =>
        have HI := hid_ (inB_iff.1 hd)
        go_wp2_with (go_at_call 24; refine (outside_any _ _ _ _).mono ?_; rintro e w' ⟨rfl, rfl⟩)
        go_round
        case rel => exact ⟨k + 1, by omega, by go_num, allIn_take HT.out hlt2 HI.out⟩
        case measure => simp [intOf]; omega
      | false =>
        have HF := hid_ (allIn_no hlt2 hd)
        go_wp2_with (go_at_call 24; refine (outside_any _ _ _ _).mono ?_; rintro e w' ⟨rfl, rfl⟩)
        go_ret
        exact ⟨by rw [HF.out]; rfl, (Ext.refl w).alloc _⟩
    · have hfin : allIn zs lo hi = true := allIn_iff.2 (by have := HT.out; rwa [List.take_of_length_le (by have := HZ.out; omega)] at this)
      have HF : Hid (allIn zs lo hi = true) := hfin
      clear hfin
      go_wp2
      go_ret
      exact ⟨by rw [HF.out]; rfl, (Ext.refl w).alloc _⟩
end Go.Proofs.Ytkhhnccpfeplhaa
