/- Contracts for the law FrameBlocks, part 9: what the functions that it reaches answer, for all arguments that the theorems name. -/
import Derived.Test.YtkfdkkhhkciocaaMFrameBlocks8
import Derived.Test.YtkfdkkhhkciocaaMFrameBlocks3
import Derived.Test.YtkfdkkhhkciocaaMFrameBlocks1
/- Basis of the reference, the walk of WaveBasis. -/
namespace Go.Proofs.Ytkfdkkhhkciocaa
set_option linter.unusedVariables false
set_option linter.unusedSimpArgs false
open Go.RowKit
theorem elt_intB : Elt Try.prog 30 3 1 8 := ⟨Try.underlying30, by kernel_rfl, by omega⟩
theorem own_built {w : World} {base : Nat} (e : TypeId) (cs : Array Value) (n : Nat) (hn : cs.size = n) (hb : base ≤ w.heap.size) (h63 : n ≤ 9223372036854775807) :
    (w.alloc (.cells cs e)).ownsRow base e 1 (.slice (some ⟨w.heap.size, 0, none⟩) n n) n cs.toList := by
  subst hn
  refine ⟨by simp, .inr ⟨w.heap.size, cs.size, cs, rfl, hb, heap_alloc_new w _, by omega, by unfold maxLen; omega, by omega, by simp [List.take_of_length_le]⟩⟩
theorem wl_take (k : Nat) (h : k < 32) : wl.take (k + 1) = wl.take k ++ [wv k] := by
  have hl : k < wl.length := h
  rw [List.take_succ_eq_append_getElem hl]
  simp [wv, List.getD_eq_getElem?_getD, hl]
theorem wl_len (k : Nat) (h : k ≤ 32) : (wl.take k).length = k := by rw [List.length_take]; exact Nat.min_eq_left h
theorem wl_at (k n : Nat) (h : n ≤ 32) (hk : k < n) : (ints (wl.take n))[k]? = some (.int .i64 (wv k)) := by
  have hl : k < wl.length := by show k < 32; omega
  simp [ints, List.getElem?_take_of_lt hk, wv, List.getD_eq_getElem?_getD, hl]
theorem wl9 : ints (wl.take 9) = [.int .i64 4096, .int .i64 4017, .int .i64 3784, .int .i64 3406, .int .i64 2896, .int .i64 2276, .int .i64 1567, .int .i64 799, .int .i64 0] := by rfl
set_option maxHeartbeats 800000 in
theorem rbasis_any (u x : Nat) (w : World) (hu : u ≤ 7) (hx : x ≤ 7) : Calls Try.prog 98 #[.int .i64 u, .int .i64 x] w fun e w' => e = .returned (.int .i64 (basisZ u x)) ∧ Ext w w' := by
  by_cases h0 : u = 0
  · subst h0
    go_enter Try.func98, Try.ntmps98
    go_wp2_with fail
    go_ret
    exact ⟨rfl, Ext.refl w⟩
  · have hp : (u : Int) * (2 * x + 1) ≤ 7 * (2 * x + 1) := Int.mul_le_mul_of_nonneg_right (by omega) (by omega)
    have hp2 : 0 ≤ (u : Int) * (2 * x + 1) := Int.mul_nonneg (by omega) (by omega)
    obtain ⟨m, hm, hm32⟩ : ∃ m : Nat, (u : Int) * (2 * x + 1) % 32 = (m : Int) ∧ m < 32 := ⟨u * (2 * x + 1) % 32, by simp, Nat.mod_lt _ (by omega)⟩
    have hf : basisZ u x = wv m := by
      unfold basisZ; rw [if_neg h0]
      have : ((u * (2 * x + 1) % 32 : Nat) : Int) = (m : Int) := by rw [← hm]; simp
      have e : u * (2 * x + 1) % 32 = m := by exact_mod_cast this
      rw [e]
    have HF := hid_ hf
    have hne : ((u : Int) == 0) = false := by simpa using h0
    have HM := hid_ hm
    have HP := hid_ (And.intro hp hp2)
    clear hm hf h0 hp hp2
    go_enter Try.func98, Try.ntmps98
    go_wp2_with fail
    have hown0 := own_built (w := w) 3 #[.int .i64 4096, .int .i64 4017, .int .i64 3784, .int .i64 3406, .int .i64 2896, .int .i64 2276, .int .i64 1567, .int .i64 799, .int .i64 0] 9 rfl (Nat.le_refl _) (by omega)
    rw [show (#[Value.int .i64 4096, .int .i64 4017, .int .i64 3784, .int .i64 3406, .int .i64 2896, .int .i64 2276, .int .i64 1567, .int .i64 799, .int .i64 0] : Array Value).toList = ints (wl.take 9) from wl9.symm] at hown0
    have hx0 := (Ext.refl w).alloc (.cells #[.int .i64 4096, .int .i64 4017, .int .i64 3784, .int .i64 3406, .int .i64 2896, .int .i64 2276, .int .i64 1567, .int .i64 799, .int .i64 0] 3)
    generalize (w.alloc (.cells #[.int .i64 4096, .int .i64 4017, .int .i64 3784, .int .i64 3406, .int .i64 2896, .int .i64 2276, .int .i64 1567, .int .i64 799, .int .i64 0] 3)) = w0 at *
    go_loopw [5, 6] (fun v i wr => ∃ k : Nat, 9 ≤ k ∧ k ≤ 17 ∧ i = .int .i64 k ∧ wr.ownsRow w.heap.size 3 1 v k (ints (wl.take k)) ∧ Ext w wr) (fun _ i _ => 17 - (intOf i).toNat)
    case atStart => exact ⟨9, by omega, by omega, rfl, hown0, hx0⟩
    case round =>
      obtain ⟨k, hk9, hk, rfl, hown, hx⟩ := hrel
      by_cases hlt : k ≤ 16
      · obtain ⟨A, c, rfl, hsl, hfs⟩ := own_form hown
        have hk16 : 16 - k < k := by omega
        obtain ⟨ad, u, rfl, -, hxo, hco⟩ := hsl.at1 hk16
        rw [wl_at (16 - k) k (by omega) hk16] at hxo
        injection hxo with hxo
        subst hxo
        obtain ⟨hb1, hb2⟩ := wv_bounds (16 - k) (by omega)
        have HN := hid_ (wv_mid k (by omega) hlt)
        generalize wv (16 - k) = z at *
        go_wp2_with (at_builtin; go_must (refine wpList_append_sl elt_intB rfl _ _ rfl w.heap.size _ _ _ rfl (hown.alloc _) _ 1 [.int .i64 _] rfl (one_sl _ _ _) (int_one _) (by omega) (by omega) (by have := hx.size; simp; omega) ?_); intro v' w7 hown7 hb7)
        go_roundw
        case rel =>
          refine ⟨k + 1, by omega, by omega, by go_num, ?_, (hx.alloc _).trans' hb7⟩
          rw [wl_take k (by omega), ← HN.out]
          simpa [ints] using hown7
        case measure => simp [intOf]; omega
      · have e17 : (k : Int) = 17 := by omega
        have e17' : k = 17 := by omega
        rw [e17'] at hown
        rw [e17]
        clear e17 e17' hk9 hk hlt
        go_wp2_with fail
        go_loopw [5, 7] (fun v i wr => ∃ k : Nat, 17 ≤ k ∧ k ≤ 32 ∧ i = .int .i64 k ∧ wr.ownsRow w.heap.size 3 1 v k (ints (wl.take k)) ∧ Ext w wr) (fun _ i _ => 32 - (intOf i).toNat)
        case atStart => exact ⟨17, by omega, by omega, rfl, hown, hx⟩
        case round =>
          clear hown hx
          obtain ⟨k, hk17, hk, rfl, hown, hx⟩ := hrel
          by_cases hlt : k < 32
          · obtain ⟨A, c, rfl, hsl, hfs⟩ := own_form hown
            have hk16 : 32 - k < k := by omega
            obtain ⟨ad, u, rfl, -, hxo, hco⟩ := hsl.at1 hk16
            rw [wl_at (32 - k) k (by omega) hk16] at hxo
            injection hxo with hxo
            subst hxo
            have HN := hid_ (wv_hi k (by omega) hlt)
            generalize wv (32 - k) = z at *
            go_wp2_with (at_builtin; go_must (refine wpList_append_sl elt_intB rfl _ _ rfl w.heap.size _ _ _ rfl (hown.alloc _) _ 1 [.int .i64 _] rfl (one_sl _ _ _) (int_one _) (by omega) (by omega) (by have := hx.size; simp; omega) ?_); intro v' w7 hown7 hb7)
            go_roundw
            case rel =>
              refine ⟨k + 1, by omega, by omega, by go_num, ?_, (hx.alloc _).trans' hb7⟩
              rw [wl_take k (by omega), ← HN.out]
              simpa [ints] using hown7
            case measure => simp [intOf]; omega
          · obtain rfl : k = 32 := by omega
            obtain ⟨A, c, rfl, hsl, hfs⟩ := own_form hown
            obtain ⟨ad, u', rfl, -, hxo, hco⟩ := hsl.at1 hm32
            rw [wl_at m 32 (by omega) hm32] at hxo
            injection hxo with hxo
            subst hxo
            have hm := HM.out
            obtain ⟨hp, hp2⟩ := HP.out
            generalize wv m = z at *
            go_wp2_with fail
            go_ret
            exact ⟨by rw [HF.out]; rfl, hx⟩
end Go.Proofs.Ytkfdkkhhkciocaa
/- power of the reference: 1 << k. -/
namespace Go.Proofs.Ytkfdkkhhkciocaa
set_option linter.unusedVariables false
set_option linter.unusedSimpArgs false
open Go.RowKit
theorem pow_le (k m : Nat) (h : k ≤ m) : (2 : Int) ^ k ≤ 2 ^ m := by
  have := Nat.pow_le_pow_right (n := 2) (by omega) h
  exact_mod_cast this
theorem pow_pos' (k : Nat) : (1 : Int) ≤ 2 ^ k := by
  have := Nat.two_pow_pos k
  exact_mod_cast this
theorem power_any (k : Nat) (w : World) (hk : k ≤ 62) : Calls Try.prog 100 #[.int .i64 k] w fun e w' => e = .returned (.int .i64 (2 ^ k)) ∧ w = w' := by
  have h1 := pow_le k 62 hk
  have h2 := pow_pos' k
  have h3 : (2 : Int) ^ 62 = 4611686018427387904 := by decide
  rw [h3] at h1
  clear h3
  go_enter Try.func100, Try.ntmps100
  go_wp2
  go_ret
  exact ⟨rfl, rfl⟩
end Go.Proofs.Ytkfdkkhhkciocaa
