/- Contracts for the law RescueDecodesCard, part 11: what the functions that it reaches answer, for all arguments that the theorems name. -/
import Derived.Test.YtkggcjdlpendfaaGreatDoorMRescueDecodesCard9
import Derived.Test.YtkggcjdlpendfaaGreatDoorMRescueDecodesCard10
import Derived.Test.YtkggcjdlpendfaaGreatDoorMRescueDecodesCard8
import Derived.Test.YtkggcjdlpendfaaGreatDoorMRescueDecodesCard2
import Derived.Maps.OwnSet
import Derived.Test.YtkggcjdlpendfaaGreatDoorMRescueDecodesCard1
import Derived.Outline
namespace Go.Proofs.YtkggcjdlpendfaaGreatDoor
set_option linter.unusedVariables false
set_option linter.unusedSimpArgs false
open Go.RowKit
def strs (L : List ByteArray) : List Value := L.map Value.string
def nextW (cs : List Int) : Nat → Nat
 | 0 => 0
 | k + 1 => 2 * nextW cs k + (cs.getD k 0).toNat
def rowW (cs : List Int) (k j : Nat) : List ByteArray := (List.range j).map fun i => binS (2 * nextW cs k + i) (k + 1)
def outW (cs : List Int) : Nat → List ByteArray
 | 0 => []
 | k + 1 => outW cs k ++ rowW cs k (cs.getD k 0).toNat
def okW (cs : List Int) : Bool := (List.range 16).all fun k => decide (nextW cs (k + 1) + 1 ≤ 2 ^ (k + 1))
theorem okW_no {cs : List Int} {k : Nat} (hk : k < 16) (h : 2 ^ (k + 1) < nextW cs (k + 1) + 1) : okW cs = false := by
 rw [← Bool.not_eq_true]
 intro h2
 have := List.all_eq_true.1 h2 k (List.mem_range.2 hk)
 simp only [decide_eq_true_eq] at this
 omega
theorem rowW_succ (cs : List Int) (k j : Nat) : rowW cs k (j + 1) = rowW cs k j ++ [binS (2 * nextW cs k + j) (k + 1)] := by
 unfold rowW
 rw [List.range_succ, List.map_append]
 rfl
theorem elt_str : Elt Tryz.prog 166 9 1 16 := ⟨Tryz.underlying166, by kernel_rfl, by omega⟩
theorem own_str {w : World} {base : Nat} {e : TypeId} {v : Value} {L : List ByteArray} {b : ByteArray} (h : w.ownsRow base e 1 v (L.length + 1) (strs L ++ [.string b])) : w.ownsRow base e 1 v (L ++ [b]).length (strs (L ++ [b])) := by
 simpa [strs] using h
theorem str_one (b : ByteArray) : ∀ u ∈ [Value.string b], u.oneCell' = true := by
 intro u hu
 simp at hu
 subst hu
 rfl
set_option maxRecDepth 20000 in
set_option maxHeartbeats 1000000 in
theorem wordsOf_yes (cs : List Int) (sl : Value) (w : World) (hl : cs.length = 16) (hal : allIn cs 0 256 = true) (hok : okW cs = true) :
 Calls Tryz.prog 130 #[.agg (tblv cs sl)] w fun e w' => ∃ A c, e = .returned (.tuple #[.slice A (outW cs 16).length c, .bool true]) ∧ SL w' 1 (.slice A (outW cs 16).length c) (outW cs 16).length (strs (outW cs 16)) ∧ Ext w w' := by
 have HOKT := hid_ hok
 clear hok
 have HL := hid_ hl
 have HAL := hid_ (allIn_iff.1 hal)
 have HRG := hid_ (fun W g (h : Blk W g 42 (tblv cs sl)) => tblv_range h)
 have hcl := hid_ ((ints_len cs).trans hl)
 have HIX := hid_ (fun k (hk : k < cs.length) (h16 : k < 16) => fun W => run_index16 (ints cs).toArray k (.int .i64 cs[k]) h16 (bv_at cs k hk) W)
 clear hal
 generalize tblv cs sl = tv at *
 go_enter Tryz.func130, Tryz.ntmps130
 go_wp2_with (first
  | (refine wBox rfl 42 (.tmp 0) rfl tv rfl ?_; intro w1 g hb1 hx1 hg)
  | (refine wpList_load_mid rfl 40 (.tmp 8) rfl g 0 rfl (ints cs) _ (HRG.out _ _ hb1) Tryz.underlying40 rfl (by rw [hcl.out]; exact size16) ?_))
 go_loopw [4, 5, 10] (fun v nx i wr => ∃ k : Nat, k ≤ 16 ∧ i = .int .i64 (k : Int) ∧ nx = .int .i64 (nextW cs k : Nat) ∧ nextW cs k + 1 ≤ 2 ^ k ∧ (outW cs k).length ≤ 256 * k ∧ (∀ j, j < k → nextW cs (j + 1) + 1 ≤ 2 ^ (j + 1)) ∧ wr.ownsRow w.heap.size 9 1 v (outW cs k).length (strs (outW cs k)) ∧ Ext w wr) (fun _ _ i _ => 16 - (intOf i).toNat)
 case atStart => exact ⟨0, by omega, rfl, rfl, by simp [nextW], by simp [outW], by intro j hj; omega, World.ownsRow_nil _ _ _ _, hx1⟩
 case round =>
  clear hx1
  obtain ⟨k, hk, rfl, rfl, hnx, hol, hall, hown, hx⟩ := hrel
  by_cases hlt : k < 16
  ·have hsd : decide ((k : Int) < 16) = true := by simp; omega
   have hkl : k < cs.length := by have := HL.out; omega
   have hix := HIX.out k hkl hlt
   obtain ⟨q1, q2⟩ := HAL.out _ (List.getElem_mem hkl)
   have HG : Hid (cs.getD k 0 = cs[k]) := hid_ (by simp [hkl])
   obtain ⟨n, hn⟩ : ∃ n : Nat, cs[k] = (n : Int) := ⟨cs[k].toNat, by omega⟩
   rw [hn] at hix q1 q2 HG
   have HNW : Hid (nextW cs (k + 1) = 2 * nextW cs k + n) := hid_ (by show 2 * nextW cs k + (cs.getD k 0).toNat = _; rw [HG.out]; simp)
   have HOW : Hid (outW cs (k + 1) = outW cs k ++ rowW cs k n) := hid_ (by show outW cs k ++ rowW cs k (cs.getD k 0).toNat = _; rw [HG.out]; simp)
   have HRS := hid_ (rowW_succ cs k)
   have HR0 : Hid (rowW cs k 0 = []) := hid_ rfl
   have HRL : Hid (∀ j, (rowW cs k j).length = j) := hid_ (fun j => by simp [rowW])
   have HALL := hid_ hall
   have hp : (2 : Nat) ^ k ≤ 65536 := by have := Nat.pow_le_pow_right (n := 2) (by omega) hk; simpa using this
   have HP : Hid (2 ^ (k + 1) = 2 * 2 ^ k) := hid_ (by rw [Nat.pow_succ]; omega)
   have HOK := hid_ (fun (h : 2 ^ (k + 1) < nextW cs (k + 1) + 1) => okW_no hlt h)
   have HPA : Hid (∀ W, Calls Tryz.prog 128 #[.int .i64 ((k : Int) + 1)] W fun e w' => e = .returned (.int .i64 (((2 ^ (k + 1) : Nat)) : Int)) ∧ W = w') := hid_ (fun W => by
    have := power_any (k + 1) W (by omega)
    simpa using this)
   rw [HP.out] at HPA HOK
   rw [HNW.out] at HOK
   have HBA := hid_ (fun m W (hm : m ≤ 1000000000) => binary_any (k + 1) m W (by omega) hm)
   generalize hN : nextW cs k = N at *
   generalize hPw : (2 : Nat) ^ k = Pw at *
   clear hn hN hall hkl
   go_wp2_with fail
   go_loopw [4, 5, 17] (fun v nx i wr => ∃ j : Nat, j ≤ n ∧ i = .int .i64 (j : Int) ∧ nx = .int .i64 ((2 * N + j : Nat) : Int) ∧ 2 * N + j + 1 ≤ 2 * Pw ∧ wr.ownsRow w.heap.size 9 1 v (outW cs k ++ rowW cs k j).length (strs (outW cs k ++ rowW cs k j)) ∧ Ext w wr) (fun _ _ i _ => n - (intOf i).toNat)
   case atStart => exact ⟨0, by omega, rfl, by congr 1; omega, by omega, by rw [HR0.out, List.append_nil]; exact hown, hx⟩
   case round =>
    clear hown hx
    obtain ⟨j, hj, rfl, rfl, hnj, hown, hx⟩ := hrel
    have hlen : (outW cs k ++ rowW cs k j).length = (outW cs k).length + j := by rw [List.length_append, HRL.out]
    by_cases hlj : j < n
    ·by_cases hbad : 2 * N + j + 1 < 2 * Pw
     ·have hbad' : decide (2 * (Pw : Int) - 1 ≤ 2 * (N : Int) + (j : Int)) = false := by simp; omega
      have HBJ : Hid (∀ W, Calls Tryz.prog 134 #[.int .i64 ((k : Int) + 1), .int .i64 (2 * (N : Int) + (j : Int))] W fun e w' => e = .returned (.string (binS (2 * N + j) (k + 1))) ∧ W = w') := hid_ (fun W => by
       have := HBA.out (2 * N + j) W (by omega)
       simpa using this)
      have HRJ := hid_ (HRS.out j)
      generalize binS (2 * N + j) (k + 1) = bs at *
      go_wp2_with (first
       | (go_at_call 128; (with_reducible refine (HPA.out _).mono ?_); rintro e w' ⟨rfl, rfl⟩)
       | (go_at_call 134; (with_reducible refine (HBJ.out _).mono ?_); rintro e w' ⟨rfl, rfl⟩)
       | (at_builtin; go_must (refine wpList_append_sl elt_str rfl _ _ rfl w.heap.size _ _ _ rfl (hown.alloc _) _ 1 [.string _] rfl (one_sl _ _ _) (str_one _) (by omega) (by omega) (by have := hx.size; simp; omega) ?_); intro v' w7 hown7 hb7))
      go_roundw
      case rel =>
       refine ⟨j + 1, by omega, by go_num, by congr 1, by omega, ?_, (hx.alloc _).trans' hb7⟩
       rw [HRJ.out, ← List.append_assoc]
       exact own_str hown7
      case measure => simp [intOf]; omega
     ·exfalso
      have := HOK.out (by omega)
      rw [HOKT.out] at this
      cases this
    ·obtain rfl : j = n := by omega
     go_wp2_with fail
     go_roundw
     case rel =>
      refine ⟨k + 1, by omega, by go_num, by rw [HNW.out], by rw [HNW.out, HP.out]; omega, by rw [HOW.out, hlen]; omega, ?_, by rw [HOW.out]; exact hown, hx⟩
      intro i hi
      by_cases hik : i = k
      ·subst hik; rw [HNW.out, HP.out]; omega
      ·exact HALL.out i (by omega)
     case measure => simp [intOf]; omega
  ·have ek : k = 16 := by omega
   rw [ek] at hown
   clear hall
   go_wp2_with fail
   go_ret2
   obtain ⟨A, c, rfl, hsl, hfs⟩ := own_form hown
   exact ⟨A, c, rfl, hsl, hx⟩
set_option maxRecDepth 20000 in
set_option maxHeartbeats 1000000 in
theorem wordsOf_no (cs : List Int) (sl : Value) (w : World) (hl : cs.length = 16) (hal : allIn cs 0 256 = true) (hok : okW cs = false) :
 Calls Tryz.prog 130 #[.agg (tblv cs sl)] w fun e w' => e = .returned (.tuple #[.slice none 0 0, .bool false]) ∧ Ext w w' := by
 have HOKT := hid_ hok
 clear hok
 have HL := hid_ hl
 have HAL := hid_ (allIn_iff.1 hal)
 have HRG := hid_ (fun W g (h : Blk W g 42 (tblv cs sl)) => tblv_range h)
 have hcl := hid_ ((ints_len cs).trans hl)
 have HIX := hid_ (fun k (hk : k < cs.length) (h16 : k < 16) => fun W => run_index16 (ints cs).toArray k (.int .i64 cs[k]) h16 (bv_at cs k hk) W)
 clear hal
 generalize tblv cs sl = tv at *
 go_enter Tryz.func130, Tryz.ntmps130
 go_wp2_with (first
  | (refine wBox rfl 42 (.tmp 0) rfl tv rfl ?_; intro w1 g hb1 hx1 hg)
  | (refine wpList_load_mid rfl 40 (.tmp 8) rfl g 0 rfl (ints cs) _ (HRG.out _ _ hb1) Tryz.underlying40 rfl (by rw [hcl.out]; exact size16) ?_))
 go_loopw [4, 5, 10] (fun v nx i wr => ∃ k : Nat, k ≤ 16 ∧ i = .int .i64 (k : Int) ∧ nx = .int .i64 (nextW cs k : Nat) ∧ nextW cs k + 1 ≤ 2 ^ k ∧ (outW cs k).length ≤ 256 * k ∧ (∀ j, j < k → nextW cs (j + 1) + 1 ≤ 2 ^ (j + 1)) ∧ wr.ownsRow w.heap.size 9 1 v (outW cs k).length (strs (outW cs k)) ∧ Ext w wr) (fun _ _ i _ => 16 - (intOf i).toNat)
 case atStart => exact ⟨0, by omega, rfl, rfl, by simp [nextW], by simp [outW], by intro j hj; omega, World.ownsRow_nil _ _ _ _, hx1⟩
 case round =>
  clear hx1
  obtain ⟨k, hk, rfl, rfl, hnx, hol, hall, hown, hx⟩ := hrel
  by_cases hlt : k < 16
  ·have hsd : decide ((k : Int) < 16) = true := by simp; omega
   have hkl : k < cs.length := by have := HL.out; omega
   have hix := HIX.out k hkl hlt
   obtain ⟨q1, q2⟩ := HAL.out _ (List.getElem_mem hkl)
   have HG : Hid (cs.getD k 0 = cs[k]) := hid_ (by simp [hkl])
   obtain ⟨n, hn⟩ : ∃ n : Nat, cs[k] = (n : Int) := ⟨cs[k].toNat, by omega⟩
   rw [hn] at hix q1 q2 HG
   have HNW : Hid (nextW cs (k + 1) = 2 * nextW cs k + n) := hid_ (by show 2 * nextW cs k + (cs.getD k 0).toNat = _; rw [HG.out]; simp)
   have HOW : Hid (outW cs (k + 1) = outW cs k ++ rowW cs k n) := hid_ (by show outW cs k ++ rowW cs k (cs.getD k 0).toNat = _; rw [HG.out]; simp)
   have HRS := hid_ (rowW_succ cs k)
   have HR0 : Hid (rowW cs k 0 = []) := hid_ rfl
   have HRL : Hid (∀ j, (rowW cs k j).length = j) := hid_ (fun j => by simp [rowW])
   have HALL := hid_ hall
   have hp : (2 : Nat) ^ k ≤ 65536 := by have := Nat.pow_le_pow_right (n := 2) (by omega) hk; simpa using this
   have HP : Hid (2 ^ (k + 1) = 2 * 2 ^ k) := hid_ (by rw [Nat.pow_succ]; omega)
   have HOK := hid_ (fun (h : 2 ^ (k + 1) < nextW cs (k + 1) + 1) => okW_no hlt h)
   have HPA : Hid (∀ W, Calls Tryz.prog 128 #[.int .i64 ((k : Int) + 1)] W fun e w' => e = .returned (.int .i64 (((2 ^ (k + 1) : Nat)) : Int)) ∧ W = w') := hid_ (fun W => by
    have := power_any (k + 1) W (by omega)
    simpa using this)
   rw [HP.out] at HPA HOK
   rw [HNW.out] at HOK
   have HBA := hid_ (fun m W (hm : m ≤ 1000000000) => binary_any (k + 1) m W (by omega) hm)
   generalize hN : nextW cs k = N at *
   generalize hPw : (2 : Nat) ^ k = Pw at *
   clear hn hN hall hkl
   go_wp2_with fail
   go_loopw [4, 5, 17] (fun v nx i wr => ∃ j : Nat, j ≤ n ∧ i = .int .i64 (j : Int) ∧ nx = .int .i64 ((2 * N + j : Nat) : Int) ∧ 2 * N + j + 1 ≤ 2 * Pw ∧ wr.ownsRow w.heap.size 9 1 v (outW cs k ++ rowW cs k j).length (strs (outW cs k ++ rowW cs k j)) ∧ Ext w wr) (fun _ _ i _ => n - (intOf i).toNat)
   case atStart => exact ⟨0, by omega, rfl, by congr 1; omega, by omega, by rw [HR0.out, List.append_nil]; exact hown, hx⟩
   case round =>
    clear hown hx
    obtain ⟨j, hj, rfl, rfl, hnj, hown, hx⟩ := hrel
    have hlen : (outW cs k ++ rowW cs k j).length = (outW cs k).length + j := by rw [List.length_append, HRL.out]
    by_cases hlj : j < n
    ·by_cases hbad : 2 * N + j + 1 < 2 * Pw
     ·have hbad' : decide (2 * (Pw : Int) - 1 ≤ 2 * (N : Int) + (j : Int)) = false := by simp; omega
      have HBJ : Hid (∀ W, Calls Tryz.prog 134 #[.int .i64 ((k : Int) + 1), .int .i64 (2 * (N : Int) + (j : Int))] W fun e w' => e = .returned (.string (binS (2 * N + j) (k + 1))) ∧ W = w') := hid_ (fun W => by
       have := HBA.out (2 * N + j) W (by omega)
       simpa using this)
      have HRJ := hid_ (HRS.out j)
      generalize binS (2 * N + j) (k + 1) = bs at *
      go_wp2_with (first
       | (go_at_call 128; (with_reducible refine (HPA.out _).mono ?_); rintro e w' ⟨rfl, rfl⟩)
       | (go_at_call 134; (with_reducible refine (HBJ.out _).mono ?_); rintro e w' ⟨rfl, rfl⟩)
       | (at_builtin; go_must (refine wpList_append_sl elt_str rfl _ _ rfl w.heap.size _ _ _ rfl (hown.alloc _) _ 1 [.string _] rfl (one_sl _ _ _) (str_one _) (by omega) (by omega) (by have := hx.size; simp; omega) ?_); intro v' w7 hown7 hb7))
      go_roundw
      case rel =>
       refine ⟨j + 1, by omega, by go_num, by congr 1, by omega, ?_, (hx.alloc _).trans' hb7⟩
       rw [HRJ.out, ← List.append_assoc]
       exact own_str hown7
      case measure => simp [intOf]; omega
     ·have hbad' : decide (2 * (Pw : Int) - 1 ≤ 2 * (N : Int) + (j : Int)) = true := by simp; omega
      go_wp2_with (go_at_call 128; (with_reducible refine (HPA.out _).mono ?_); rintro e w' ⟨rfl, rfl⟩)
      go_ret2
      exact ⟨rfl, hx⟩
    ·obtain rfl : j = n := by omega
     go_wp2_with fail
     go_roundw
     case rel =>
      refine ⟨k + 1, by omega, by go_num, by rw [HNW.out], by rw [HNW.out, HP.out]; omega, by rw [HOW.out, hlen]; omega, ?_, by rw [HOW.out]; exact hown, hx⟩
      intro i hi
      by_cases hik : i = k
      ·subst hik; rw [HNW.out, HP.out]; omega
      ·exact HALL.out i (by omega)
     case measure => simp [intOf]; omega
  ·exfalso
   have ek : k = 16 := by omega
   subst ek
   have : okW cs = true := List.all_eq_true.2 fun i hi => by
    have := hall i (by have := List.mem_range.1 hi; omega)
    simpa using this
   rw [HOKT.out] at this
   cases this
def totOK (cs xs : List Int) : Bool := allIn cs 0 256 && decide (sumL cs 16 ≤ 256) && decide (sumL cs 16 = xs.length)
def checkZ (cs xs : List Int) : Int := if totOK cs xs then (if allIn xs 0 255 then (if decide xs.Nodup && okW cs then 0 else 4) else 1) else 4
theorem checkZ_tot {cs xs : List Int} (h : totOK cs xs = false) : checkZ cs xs = 4 := by simp [checkZ, h]
theorem checkZ_arg {cs xs : List Int} (h : totOK cs xs = true) (h2 : allIn xs 0 255 = false) : checkZ cs xs = 1 := by simp [checkZ, h, h2]
theorem checkZ_dup {cs xs : List Int} (h : totOK cs xs = true) (h2 : allIn xs 0 255 = true) (h3 : ¬ xs.Nodup) : checkZ cs xs = 4 := by simp [checkZ, h, h2, h3]
theorem checkZ_words {cs xs : List Int} (h : totOK cs xs = true) (h2 : allIn xs 0 255 = true) (h3 : xs.Nodup) : checkZ cs xs = if okW cs then 0 else 4 := by simp [checkZ, h, h2, h3]
theorem totOK_iff {cs xs : List Int} : totOK cs xs = true ↔ allIn cs 0 256 = true ∧ sumL cs 16 ≤ 256 ∧ sumL cs 16 = xs.length := by simp [totOK, and_assoc]
theorem nodup_take_succ {xs : List Int} {k : Nat} (hk : k < xs.length) : (xs.take (k + 1)).Nodup ↔ (xs.take k).Nodup ∧ xs[k] ∉ xs.take k := by
 rw [List.take_succ_eq_append_getElem hk, List.nodup_append]
 constructor
 ·rintro ⟨a, -, c⟩
  exact ⟨a, fun h => c _ h _ (by simp) rfl⟩
 ·rintro ⟨a, b⟩
  refine ⟨a, by simp, fun x hx y hy => ?_⟩
  simp at hy
  subst hy
  rintro rfl
  exact b hx
theorem okW_yes {cs : List Int} (h : ∀ j, j < 16 → nextW cs (j + 1) + 1 ≤ 2 ^ (j + 1)) : okW cs = true :=
 List.all_eq_true.2 fun i hi => by
  have := h i (List.mem_range.1 hi)
  simpa using this
theorem nextW_succ (cs : List Int) (k n : Nat) (hk : k < cs.length) (h : cs[k] = (n : Int)) : nextW cs (k + 1) = 2 * nextW cs k + n := by
 show 2 * nextW cs k + (cs.getD k 0).toNat = _
 simp [hk, h]
theorem sumL_bd {cs : List Int} (h : allIn cs 0 256 = true) : ∀ k, 0 ≤ sumL cs k ∧ sumL cs k ≤ sumL cs (k + 1) := by
 have key : ∀ l : List Int, (∀ z ∈ l, 0 ≤ z) → 0 ≤ l.sum := by
  intro l
  induction l with
  | nil => simp
  | cons a l ih =>
    intro h
    have := h a (by simp)
    have := ih (fun z hz => h z (by simp [hz]))
    simp; omega
 have h' := allIn_iff.1 h
 intro k
 constructor
 ·exact key _ fun z hz => (h' z (List.mem_of_mem_take hz)).1
 ·rcases Nat.lt_or_ge k cs.length with hk | hk
  ·rw [sumL_succ cs k hk]
   have := h' _ (List.getElem_mem hk)
   omega
  ·unfold sumL
   rw [List.take_of_length_le hk, List.take_of_length_le (by omega)]
   omega
section
open Go.RowKit Go.Maps
def VR (v : Value) : Option (DataW Value × List MemPlace) := some (.held v, [])
def MapG {ι : Type} (P : Program) (k : TypeId) (kl : ι → Lit) (ok : ι → Prop) (w : World) (b n : Nat) (g : ι → Option Value) : Prop :=
 ∃ D : DataW Value, w.ownsMap P k VR b n D ∧ IsMap D ∧ ∀ i, ok i → Maps.has D (kl i) = (g i).isSome ∧ ∀ z, D.atKey (kl i) (.held z) = .held ((g i).getD z)
section
variable {ι : Type} {P : Program} {k : TypeId} {kl : ι → Lit} {ok : ι → Prop} {w w' : World} {b n : Nat} {g : ι → Option Value}
theorem MapG.made (w : World) : MapG P k kl ok (w.alloc (.map #[] 0)) w.heap.size 0 (fun _ => none) :=
 ⟨.map [], World.ownsMap_made _ _ _ _, isMap_empty, fun _ _ => ⟨rfl, fun _ => rfl⟩⟩
theorem MapG.lt (h : MapG P k kl ok w b n g) : b < w.heap.size := by obtain ⟨D, h1, -⟩ := h; exact h1.lt
theorem MapG.alloc (h : MapG P k kl ok w b n g) (o : Obj) : MapG P k kl ok (w.alloc o) b n g := by
 obtain ⟨D, h1, h2⟩ := h; exact ⟨D, h1.alloc o, h2⟩
theorem MapG.ext (h : MapG P k kl ok w b n g) (hx : Ext w w') : MapG P k kl ok w' b n g := by
 obtain ⟨D, ⟨es, clock, hb, r⟩, h2⟩ := h
 refine ⟨D, ⟨es, clock, (hx.block b ?_).trans hb, r⟩, h2⟩
 exact World.ownsMap.lt (R := VR) ⟨es, clock, hb, r⟩
theorem MapG.grown {row : Option Nat} (h : MapG P k kl ok w b n g) (hg : w.grownBy w' row) (hne : some b ≠ row) : MapG P k kl ok w' b n g := by
 obtain ⟨D, h1, h2⟩ := h; exact ⟨D, h1.kept hg hne, h2⟩
theorem MapG.below {B : Nat} (h : MapG P k kl ok w b n g) (hx : Below B w w') (hb : b < B) : MapG P k kl ok w' b n g := by
 obtain ⟨D, ⟨es, clock, h3, r⟩, h2⟩ := h
 exact ⟨D, ⟨es, clock, (hx.block b hb).trans h3, r⟩, h2⟩
variable {ops : Array Oper} {rest : List Oper} {o : Oper} {a : Act} {Q : Exit → Act → World → Prop}
theorem wpList_look_g (hw : Region.wanted o (yielded ops a.tmps) = true) (m x : Operand) (t e : TypeId) (hop : o.op = Op.lookup t m x false) (K : Keyed P k) (ht : P.underlying t = some (.map k e))
 (z : Value) (hz : (zeroValue e).run P w = .ok z w) (hm : a.eval m = .map (some b)) (h : MapG P k kl ok w b n g) (key : Value) (hx : a.eval x = key)
 (i : ι) (hi : ok i) (hk : keyOf P k key = some (kl i)) (u : Value) (hu : (g i).getD z = u) (hK : wpList P ops Q rest (a.put o.dst u) w) : wpList P ops Q (o :: rest) a w := by
 refine wpList_wanted hw fun K' hK' => ?_
 obtain ⟨D, h1, -, h2⟩ := h
 obtain ⟨v, ps, hrun, hv⟩ := h1.lookup K ht hz (zd := .held z) (zp := []) rfl hk
 rw [(h2 i hi).2 z, hu] at hv
 have : v = u := by unfold VR at hv; injection hv with hv; injection hv with hv _; injection hv
 subst this
 unfold Oper.wp
 simp [execOp, hop, hm, hx, hrun, Result.andThen]
 exact hK' _ _ hK
theorem wpList_look_ok_g (hw : Region.wanted o (yielded ops a.tmps) = true) (m x : Operand) (t e : TypeId) (hop : o.op = Op.lookup t m x true) (K : Keyed P k) (ht : P.underlying t = some (.map k e))
 (z : Value) (hz : (zeroValue e).run P w = .ok z w) (hm : a.eval m = .map (some b)) (h : MapG P k kl ok w b n g) (key : Value) (hx : a.eval x = key)
 (i : ι) (hi : ok i) (hk : keyOf P k key = some (kl i)) (u : Value) (hu : (g i).getD z = u) (c : Bool) (hc : (g i).isSome = c) (hK : wpList P ops Q rest (a.put o.dst (.tuple #[u, .bool c])) w) : wpList P ops Q (o :: rest) a w := by
 refine wpList_wanted hw fun K' hK' => ?_
 obtain ⟨D, h1, -, h2⟩ := h
 obtain ⟨v, ps, hrun, hv⟩ := h1.look_ok K ht hz (zd := .held z) (zp := []) rfl hk
 rw [(h2 i hi).2 z, hu] at hv
 rw [(h2 i hi).1, hc] at hrun
 have : v = u := by unfold VR at hv; injection hv with hv; injection hv with hv _; injection hv
 subst this
 unfold Oper.wp
 simp [execOp, hop, hm, hx, hrun, Result.andThen]
 exact hK' _ _ hK
theorem wpList_upd_g (hw : Region.wanted o (yielded ops a.tmps) = true) (m x y : Operand) (t e : TypeId) (hop : o.op = Op.mapUpdate t m x y) (K : Keyed P k) (ht : P.underlying t = some (.map k e))
 (hm : a.eval m = .map (some b)) (h : MapG P k kl ok w b n g) (hn : n < 9223372036854775807) (key : Value) (hx : a.eval x = key) (v : Value) (hy : a.eval y = v)
 (i : ι) (hk : keyOf P k key = some (kl i)) (g' : ι → Option Value) (h1 : g' i = some v) (h2 : ∀ j, ok j → kl j ≠ kl i → g' j = g j) (h3 : ∀ j, ok j → kl j = kl i → j = i)
 (hK : ∀ w', MapG P k kl ok w' b (n + 1) g' → w.grownBy w' (some b) → wpList P ops Q rest (a.put o.dst undef) w') : wpList P ops Q (o :: rest) a w := by
 refine wpList_wanted hw fun K' hK' => ?_
 obtain ⟨D, d1, d3, d2⟩ := h
 obtain ⟨w', hrun, r1, r2⟩ := d1.update K ht (by unfold maxLen; omega) hk (val := v) (d := .held v) (ps := []) rfl
 unfold Oper.wp
 simp [execOp, hop, hm, hx, hy, hrun, Result.andThen]
 refine hK' _ _ (hK w' ⟨_, r1, d3.put _ _, fun j hj => ?_⟩ r2)
 by_cases e1 : kl j = kl i
 ·obtain rfl := h3 j hj e1
  rw [has_put_same d3 (K.key hk), h1]
  exact ⟨rfl, fun z => atKey_put_same d3 (K.key hk) _ _⟩
 ·rw [has_put_other e1, h2 j hj e1]
  exact ⟨(d2 j hj).1, fun z => by rw [atKey_put_other e1]; exact (d2 j hj).2 z⟩
end
abbrev MapI (P : Program) (k : TypeId) (w : World) (b n : Nat) (g : Int → Option Value) : Prop := MapG P k (fun x : Int => Lit.int .i64 x) (fun _ => True) w b n g
theorem keyOf_i64 {P : Program} {k : TypeId} (hk : P.underlying k = some (.int .i64)) {a : Int} (h0 : -9223372036854775808 ≤ a) (h1 : a ≤ 9223372036854775807) : keyOf P k (.int .i64 a) = some (.int .i64 a) :=
 keyOf_int_mk hk (WalkArith.wf_i64 ⟨by omega, by omega⟩)
theorem ext_grown_new {a w w' : World} (h : Ext a w) {g : Nat} (hg : w.grownBy w' (some g)) (hB : a.heap.size ≤ g) : Ext a w' := h.grown hg hB
end
section
open Go.RowKit Go.Maps
theorem keyed_int : Keyed Tryz.prog 3 := int_keyed Tryz.underlying3
theorem zero_bool (w : World) : (zeroValue 4).run Tryz.prog w = .ok (.bool false) w := by kernel_rfl
def seenF (l : List Int) (x : Int) : Option Value := if x ∈ l then some (.bool true) else none
theorem seenF_look (l : List Int) (x : Int) : (seenF l x).getD (.bool false) = .bool (decide (x ∈ l)) := by
 unfold seenF; by_cases h : x ∈ l <;> simp [h]
theorem check_tot (cs xs : List Int) (sl : Value) (w : World) (hl : cs.length = 16) (hs : SL w 1 sl xs.length (ints xs)) (h : totOK cs xs = false) :
 Calls Tryz.prog 102 #[.agg (tblv cs sl)] w fun e w' => e = .returned (.int .i64 4) ∧ Ext w w' := by
 have HT := hid_ (fun W => total_any cs sl W hl)
 have hlast := hid_ (fun W g (h : Blk W g 42 (tblv cs sl)) => tblv_last h hl)
 have hts := hid_ (tblv_size cs sl hl)
 have hq : (totalZ cs).2 = false ∨ ((totalZ cs).2 = true ∧ ((totalZ cs).1 != (xs.length : Int)) = true) := by
  unfold totOK at h
  unfold totalZ
  cases h1 : allIn cs 0 256 with
  | false => left; simp
  | true =>
    rw [h1] at h
    simp only [if_true]
    by_cases h2 : sumL cs 16 ≤ 256
    ·right
     simp [h2] at h ⊢
     exact h
    ·left; simpa using h2
 generalize totalZ cs = tz at *
 obtain ⟨all, is⟩ := tz
 generalize tblv cs sl = tv at *
 obtain ⟨A, c, rfl, hc1, hc2, -, -⟩ := hs
 rcases hq with hq | ⟨hq, hq2⟩
 ·simp only at hq
  subst hq
  go_enter Tryz.func102, Tryz.ntmps102
  go_wp2_with (first
   | (refine wBox rfl 42 (.tmp 0) rfl tv rfl ?_; intro w1 g hb1 hx1 hg)
   | (refine wLdB rfl 42 (.tmp 1) rfl _ rfl hb1 _ Tryz.underlying42 rfl 17 sizeTbl hts.out ?_)
   | (go_at_call 151; (with_reducible refine (HT.out _).mono ?_); rintro e w2 ⟨rfl, hx2⟩))
  go_ret
  exact ⟨rfl, hx1.trans hx2⟩
 ·simp only at hq hq2
  subst hq
  go_enter Tryz.func102, Tryz.ntmps102
  go_wp2_with (first
   | (refine wBox rfl 42 (.tmp 0) rfl tv rfl ?_; intro w1 g hb1 hx1 hg)
   | (refine wLdB rfl 42 (.tmp 1) rfl _ rfl hb1 _ Tryz.underlying42 rfl 17 sizeTbl hts.out ?_)
   | (go_at_call 151; (with_reducible refine (HT.out _).mono ?_); rintro e w2 ⟨rfl, hx2⟩; have hc16 := hlast.out _ _ (hb1.ext hx2)))
  go_ret
  exact ⟨rfl, hx1.trans hx2⟩
theorem seenF_upd (xs : List Int) (k : Nat) (hk : k < xs.length) : seenF (xs.take (k + 1)) xs[k] = some (.bool true) := by
 unfold seenF
 rw [if_pos (by rw [List.take_succ_eq_append_getElem hk]; exact List.mem_append_right _ (by simp))]
theorem seenF_other (xs : List Int) (k : Nat) (hk : k < xs.length) (j : Int) (hj : j ≠ xs[k]) : seenF (xs.take (k + 1)) j = seenF (xs.take k) j := by
 unfold seenF
 have : j ∈ xs.take (k + 1) ↔ j ∈ xs.take k := by rw [List.take_succ_eq_append_getElem hk, List.mem_append]; simp [hj]
 by_cases h : j ∈ xs.take k
 ·rw [if_pos h, if_pos (this.2 h)]
 ·rw [if_neg h, if_neg (fun h2 => h (this.1 h2))]
set_option maxRecDepth 20000 in
set_option maxHeartbeats 1000000 in
theorem check_in (cs xs : List Int) (sl : Value) (w : World) (hl : cs.length = 16) (hs : SL w 1 sl xs.length (ints xs)) (h : totOK cs xs = true) :
 Calls Tryz.prog 102 #[.agg (tblv cs sl)] w fun e w' => e = .returned (.int .i64 (checkZ cs xs)) ∧ Ext w w' := by
 have HT := hid_ (fun W => total_any cs sl W hl)
 have hlast := hid_ (fun W g (h : Blk W g 42 (tblv cs sl)) => tblv_last h hl)
 have hts := hid_ (tblv_size cs sl hl)
 have HRG := hid_ (fun W g (h : Blk W g 42 (tblv cs sl)) => tblv_range h)
 have hcl := hid_ ((ints_len cs).trans hl)
 have HIX := hid_ (fun k (hk : k < cs.length) (h16 : k < 16) => fun W => run_index16 (ints cs).toArray k (.int .i64 cs[k]) h16 (bv_at cs k hk) W)
 obtain ⟨q1, q2, q3⟩ := totOK_iff.1 h
 have HZ1 := hid_ (fun h2 => checkZ_arg h h2)
 have HZ2 := hid_ (fun h2 h3 => checkZ_dup h h2 h3)
 have HZ3 := hid_ (fun h2 h3 => checkZ_words h h2 h3)
 have HT1 : Hid (totalZ cs = ((xs.length : Int), true)) := hid_ (by unfold totalZ; rw [q1, q3]; simp; omega)
 rw [HT1.out] at HT
 have hlen : xs.length ≤ 256 := by omega
 have HAL := hid_ (allIn_iff.1 q1)
 have HL := hid_ hl
 have hneq : ((xs.length : Int) != (xs.length : Int)) = false := by simp
 have hmm := @run_makeMap Tryz.prog
 have hs' := hs
 obtain ⟨A, c, rfl, hc1, hc2, -, -⟩ := hs'
 generalize tblv cs (.slice A xs.length c) = tv at *
 clear h q1 q2 q3
 go_enter Tryz.func102, Tryz.ntmps102
 go_wp2_with (first
  | (refine wBox rfl 42 (.tmp 0) rfl tv rfl ?_; intro w1 g hb1 hx1 hg)
  | (refine wLdB rfl 42 (.tmp 1) rfl _ rfl hb1 _ Tryz.underlying42 rfl 17 sizeTbl hts.out ?_)
  | (go_at_call 151; (with_reducible refine (HT.out _).mono ?_); rintro e w2 ⟨rfl, hx2⟩; have hc16 := hlast.out _ _ (hb1.ext hx2); have hc16b := hlast.out _ _ ((hb1.ext hx2).alloc (.map #[] 0))))
 have hb2 := hb1.ext hx2
 have hxm := hx1.trans hx2
 have hgm := hxm.size
 have hne := hb2.lt
 clear hmm hb1 hx1 hx2 hc16 hc16b
 go_loopw [6, 30] (fun tw i wr => ∃ (k : Nat) (tb : Bool), k ≤ xs.length ∧ i = .int .i64 (k : Int) ∧ tw = .bool tb ∧ tb = (!decide (xs.take k).Nodup) ∧ (∀ z ∈ xs.take k, 0 ≤ z ∧ z ≤ 255) ∧ MapI Tryz.prog 3 wr w2.heap.size k (seenF (xs.take k)) ∧ Blk wr g 42 tv ∧ Ext w wr) (fun _ i _ => xs.length - (intOf i).toNat)
 case atStart => exact ⟨0, false, by omega, rfl, rfl, by simp, by simp, MapG.made _, hb2.alloc _, hxm.alloc _⟩
 case round =>
  clear hb2 hxm
  obtain ⟨k, tb, hk, rfl, rfl, htb, hin, hm, hb, hx⟩ := hrel
  have HTB := hid_ htb
  have HIN := hid_ hin
  clear htb hin
  by_cases hlt : k < xs.length
  ·obtain ⟨ad, u, rfl, -, hxk, hcell⟩ := (hs.ext hx).at1 hlt
   obtain ⟨hkl, rfl⟩ := ints_at _ _ _ hxk
   clear hxk
   cases hq : inB xs[k] 0 255 with
   | true =>
     obtain ⟨q1, q2⟩ := inB_iff.1 hq
     have h0' : decide (xs[k] < 0) = false := by simpa using q1
     have h1' : decide (256 ≤ xs[k]) = false := by simp; omega
     have HN := hid_ (allIn_take HIN.out hkl ⟨q1, q2⟩)
     have HND := hid_ (nodup_take_succ hkl)
     have HU := hid_ (seenF_upd xs k hkl)
     have HO := hid_ (seenF_other xs k hkl)
     have HLK := hid_ (seenF_look (xs.take k) xs[k])
     have hkey := hid_ (keyOf_i64 (P := Tryz.prog) Tryz.underlying3 (a := xs[k]) (by omega) (by omega))
     generalize xs[k] = x at *
     clear hq
     cases tb with
     | true =>
       go_wp2_with (at_mapUpdate; refine wpList_upd_g (by rfl) _ _ _ 196 4 rfl keyed_int Tryz.underlying196 rfl hm (by omega) _ rfl _ rfl x hkey.out (seenF (xs.take (k + 1))) HU.out (fun j _ hj => HO.out j (fun e => hj (by rw [e]))) (fun j _ hj => by injection hj) ?_; intro w7 hm7 hg7)
       go_roundw
       case rel =>
        exact ⟨k + 1, true, by omega, by go_num, rfl, by have h1 := HTB.out; have h2 := HND.out; simp at h1 ⊢; rw [h2]; simp [h1], HN.out, hm7, hb.grown hg7 (by simp; omega), ext_grown_new hx hg7 (by omega)⟩
       case measure => simp [intOf]; omega
     | false =>
       go_wp2_with (first
        | (at_lookup; refine wpList_look_g (by rfl) _ _ 196 4 rfl keyed_int Tryz.underlying196 _ (zero_bool _) rfl hm _ rfl x trivial hkey.out _ HLK.out ?_)
        | (at_mapUpdate; refine wpList_upd_g (by rfl) _ _ _ 196 4 rfl keyed_int Tryz.underlying196 rfl hm (by omega) _ rfl _ rfl x hkey.out (seenF (xs.take (k + 1))) HU.out (fun j _ hj => HO.out j (fun e => hj (by rw [e]))) (fun j _ hj => by injection hj) ?_; intro w7 hm7 hg7))
       go_roundw
       case rel =>
        exact ⟨k + 1, decide (x ∈ xs.take k), by omega, by go_num, rfl, by have h1 := HTB.out; have h2 := HND.out; simp at h1; by_cases hm : x ∈ xs.take k <;> simp [h2, h1, hm], HN.out, hm7, hb.grown hg7 (by simp; omega), ext_grown_new hx hg7 (by omega)⟩
       case measure => simp [intOf]; omega
   | false =>
     have HF := hid_ (HZ1.out (allIn_no hkl hq))
     rcases Int.lt_or_le xs[k] 0 with h0 | h0
     ·have h0' : decide (xs[k] < 0) = true := by simpa using h0
      clear hq
      go_wp2_with fail
      go_ret
      exact ⟨by rw [HF.out]; rfl, hx⟩
     ·have h0' : decide (xs[k] < 0) = false := by simpa using h0
      have h1' : decide (256 ≤ xs[k]) = true := by have := inB_not.1 hq; simp; omega
      clear hq
      go_wp2_with fail
      go_ret
      exact ⟨by rw [HF.out]; rfl, hx⟩
  ·have hkx : k = xs.length := by omega
   have e1 : xs.take k = xs := List.take_of_length_le (by omega)
   rw [e1] at HTB HIN
   have HA := hid_ (allIn_iff.2 HIN.out)
   clear e1 hm
   go_wp2_with (refine wpList_load_mid rfl 40 (.tmp 49) rfl g 0 rfl (ints cs) _ (HRG.out _ _ hb) Tryz.underlying40 rfl (by rw [hcl.out]; exact size16) ?_)
   go_loop [9, 51] (fun nx i => ∃ k : Nat, k ≤ 16 ∧ i = .int .i64 (k : Int) ∧ nx = .int .i64 (nextW cs k : Nat) ∧ nextW cs k + 1 ≤ 2 ^ k ∧ (∀ j, j < k → nextW cs (j + 1) + 1 ≤ 2 ^ (j + 1)) ∧ (0 < k → tb = false)) (fun _ i => 16 - (intOf i).toNat)
   case atStart => exact ⟨0, by omega, rfl, rfl, by simp [nextW], by intro j hj; omega, by omega⟩
   case round =>
    obtain ⟨k, hk, rfl, rfl, hnx, hall, htw⟩ := hrel
    have HALL := hid_ hall
    have HTW := hid_ htw
    clear hall htw
    by_cases hlt2 : k < 16
    ·have hkl : k < cs.length := by have := HL.out; omega
     have hix := HIX.out k hkl hlt2
     obtain ⟨q1, q2⟩ := HAL.out _ (List.getElem_mem hkl)
     obtain ⟨n, hn⟩ : ∃ n : Nat, cs[k] = (n : Int) := ⟨cs[k].toNat, by omega⟩
     have HNW := hid_ (nextW_succ cs k n hkl hn)
     have HNO := hid_ (fun h => okW_no (cs := cs) hlt2 h)
     rw [hn] at hix q1 q2
     have hp : (2 : Nat) ^ k ≤ 65536 := by have := Nat.pow_le_pow_right (n := 2) (by omega) (show k ≤ 16 by omega); simpa using this
     have HP : Hid (2 ^ (k + 1) = 2 * 2 ^ k) := hid_ (by rw [Nat.pow_succ]; omega)
     rw [HNW.out, HP.out] at HNO
     have hp1 : (1 : Int) ≤ 2 ^ (k + 1) := pow_pos' (k + 1)
     have hp2 : (2 : Int) ^ (k + 1) ≤ 131072 := by have := pow_le (k + 1) 17 (by omega); simpa using this
     have HPI : Hid ((2 : Int) ^ (k + 1) = ((2 * 2 ^ k : Nat) : Int)) := hid_ (by rw [← HP.out]; simp)
     clear hn
     cases tb with
     | true =>
       have HF := hid_ (HZ2.out HA.out (by have := HTB.out; simpa using this))
       go_wp2_with fail
       go_ret
       exact ⟨by rw [HF.out]; rfl, hx⟩
     | false =>
       generalize nextW cs k = N at *
       by_cases hbad : 2 * N + n + 1 ≤ 2 * 2 ^ k
       ·have hd : decide ((2 : Int) ^ (k + 1) - 1 < (N : Int) * 2 + (n : Int)) = false := by have := HPI.out; simp; omega
        go_wp2_with fail
        go_round
        case rel =>
         refine ⟨k + 1, by omega, by go_num, by rw [HNW.out]; congr 1; omega, by rw [HNW.out, HP.out]; omega, ?_, by simp⟩
         intro i hi
         by_cases hik : i = k
         ·subst hik; rw [HNW.out, HP.out]; omega
         ·exact HALL.out i (by omega)
        case measure => simp [intOf]; omega
       ·have hd : decide ((2 : Int) ^ (k + 1) - 1 < (N : Int) * 2 + (n : Int)) = true := by have := HPI.out; simp; omega
        have HF := hid_ (HZ3.out HA.out (by have := HTB.out; simpa using this))
        have HNO' := hid_ (HNO.out (by omega))
        go_wp2_with fail
        go_ret
        exact ⟨by rw [HF.out, HNO'.out]; rfl, hx⟩
    ·obtain rfl : k = 16 := by omega
     obtain rfl := HTW.out (by omega)
     have HF := hid_ (HZ3.out HA.out (by have := HTB.out; simpa using this))
     have HOK := hid_ (okW_yes HALL.out)
     go_wp2_with fail
     go_ret
     exact ⟨by rw [HF.out, HOK.out]; rfl, hx⟩
theorem check_any (cs xs : List Int) (sl : Value) (w : World) (hl : cs.length = 16) (hs : SL w 1 sl xs.length (ints xs)) :
 Calls Tryz.prog 102 #[.agg (tblv cs sl)] w fun e w' => e = .returned (.int .i64 (checkZ cs xs)) ∧ Ext w w' := by
 cases h : totOK cs xs with
 | true => exact check_in cs xs sl w hl hs h
 | false => rw [checkZ_tot h]; exact check_tot cs xs sl w hl hs h
end
set_option maxRecDepth 20000 in
set_option maxHeartbeats 4000000 in
theorem fcheck_yf (pt : Int) (hpt : pt = 1 ∨ pt = 3) (wd hi ev : Int) (qs : List Int) (t1 t2 : List Value) (A : Option Addr) (n c : Nat) (z1 z2 : Int) (w : World) (hq : qs.length = 64) (h1 : t1.length = 17) (h2 : t2.length = 17)
 (k1 : inB wd 1 64 = true) (k2 : inB hi 1 64 = true) (k3 : inB ev 0 100 = true) (kq : allIn qs 1 255 = false) :
 Calls Tryz.prog 50 #[.agg (fileL wd hi pt qs t1 t2 ev (.slice A n c)).toArray] w fun e w' => e = .returned (.int .i64 (1)) ∧ Ext w w' := by
 have HF := hid_ (fun W g (hb : Blk W g 47 (fileL wd hi pt qs t1 t2 ev (.slice A n c)).toArray) => fileB hb hq h1 h2)
 have W1 := hid_ (fun W => fwithin_any wd 1 64 W)
 have W2 := hid_ (fun W => fwithin_any hi 1 64 W)
 have W3 := hid_ (fun W => fwithin_any ev 0 100 W)
 have HQ : Hid (∀ W, Calls Tryz.prog 15 #[.agg (ints qs).toArray] W fun e w' => e = .returned (.int .i64 1) ∧ Ext W w') := hid_ (fun W => by have h := qcheck_any qs W hq; rw [kq] at h; exact h)
 clear kq
 have hql := hid_ ((ints_len qs).trans hq)
 have hl1 := hid_ h1
 have hl2 := hid_ h2
 clear hq h1 h2
 generalize (fileL wd hi pt qs t1 t2 ev (.slice A n c)).toArray = fv at *
 generalize inB wd 1 64 = b1 at *
 generalize inB hi 1 64 = b2 at *
 generalize inB ev 0 100 = b3 at *
 subst k1 k2 k3
 rcases hpt with rfl | rfl
 all_goals
  go_enter Tryz.func50, Tryz.ntmps50
  go_wp2_with (first
   | (refine wBox rfl 47 (.tmp 0) rfl fv rfl ?_; intro w1 g hb1 hx1 hg; have hf1 := HF.out _ _ hb1; have c0 := hf1.c0; have c1 := hf1.c1; have c2 := hf1.c2; have c101 := hf1.c101)
   | (go_at_call 108; (with_reducible refine (W1.out _).mono ?_); rintro e w2 ⟨rfl, rfl⟩)
   | (go_at_call 108; (with_reducible refine (W2.out _).mono ?_); rintro e w2 ⟨rfl, rfl⟩)
   | (go_at_call 108; (with_reducible refine (W3.out _).mono ?_); rintro e w2 ⟨rfl, rfl⟩)
   | (refine wpList_load_mid rfl 33 (.tmp 33) rfl g 3 rfl (ints qs) _ hf1.q Tryz.underlying33 rfl (by rw [hql.out]; exact size48) ?_)
   | (go_at_call 15; (with_reducible refine (HQ.out _).mono ?_); rintro e w2 ⟨rfl, hx2⟩; have hb2 := hb1.ext hx2; have hf2 := HF.out _ _ hb2))
  go_ret
  exact ⟨rfl, hx1.trans hx2⟩
set_option maxRecDepth 20000 in
set_option maxHeartbeats 4000000 in
theorem fcheck_yt (pt : Int) (hpt : pt = 1 ∨ pt = 3) (wd hi ev : Int) (qs : List Int) (t1 t2 : List Value) (A : Option Addr) (n c : Nat) (z1 z2 : Int) (w : World) (hq : qs.length = 64) (h1 : t1.length = 17) (h2 : t2.length = 17)
 (k1 : inB wd 1 64 = true) (k2 : inB hi 1 64 = true) (k3 : inB ev 0 100 = true) (kq : allIn qs 1 255 = true) (o1 : t1.toArray.all (·.oneCell') = true) (o2 : t2.toArray.all (·.oneCell') = true)
 (C1 : ∀ W, Ext w W → Calls Tryz.prog 102 #[.agg t1.toArray] W fun e W' => e = .returned (.int .i64 z1) ∧ Ext W W')
 (C2 : ∀ W, Ext w W → Calls Tryz.prog 102 #[.agg t2.toArray] W fun e W' => e = .returned (.int .i64 z2) ∧ Ext W W') :
 Calls Tryz.prog 50 #[.agg (fileL wd hi pt qs t1 t2 ev (.slice A n c)).toArray] w fun e w' => e = .returned (.int .i64 (if z1 = 0 then (if z2 = 0 then (if 90000 < n then 2 else 0) else z2) else z1)) ∧ Ext w w' := by
 have HF := hid_ (fun W g (hb : Blk W g 47 (fileL wd hi pt qs t1 t2 ev (.slice A n c)).toArray) => fileB hb hq h1 h2)
 have W1 := hid_ (fun W => fwithin_any wd 1 64 W)
 have W2 := hid_ (fun W => fwithin_any hi 1 64 W)
 have W3 := hid_ (fun W => fwithin_any ev 0 100 W)
 have HQ : Hid (∀ W, Calls Tryz.prog 15 #[.agg (ints qs).toArray] W fun e w' => e = .returned (.int .i64 0) ∧ Ext W w') := hid_ (fun W => by have h := qcheck_any qs W hq; rw [kq] at h; exact h)
 clear kq
 have hql := hid_ ((ints_len qs).trans hq)
 have hl1 := hid_ h1
 have hl2 := hid_ h2
 have HB2 := hid_ (built2 t1 t2 h1 h2)
 have HRT := hid_ (fun W g (hb : Blk W g 42 (t1 ++ t2).toArray) => range_two h1 hb)
 have hs1 : Hid (t1.toArray.size = 17) := hid_ (by simpa using h1)
 have hs2 : Hid (t2.toArray.size = 17) := hid_ (by simpa using h2)
 have hz17 : Hid ((ints (List.replicate 16 0) ++ [Value.slice none 0 0]).toArray.size = 17) := hid_ (by simp [ints])
 have hl3 : Hid ((t1 ++ t2).length = 34) := hid_ (by simp [h1, h2])
 have HO1 := hid_ o1
 have HO2 := hid_ o2
 have HC1 := hid_ C1
 have HC2 := hid_ C2
 clear o1 o2 C1 C2
 generalize hR : (if z1 = 0 then (if z2 = 0 then (if 90000 < n then (2 : Int) else 0) else z2) else z1) = R
 have HR := hid_ hR
 clear hR
 clear hq h1 h2
 generalize (fileL wd hi pt qs t1 t2 ev (.slice A n c)).toArray = fv at *
 generalize inB wd 1 64 = b1 at *
 generalize inB hi 1 64 = b2 at *
 generalize inB ev 0 100 = b3 at *
 subst k1 k2 k3
 rcases hpt with rfl | rfl
 all_goals
  go_enter Tryz.func50, Tryz.ntmps50
  go_wp2_with (first
   | (refine wBox rfl 47 (.tmp 0) rfl fv rfl ?_; intro w1 g hb1 hx1 hg; have hf1 := HF.out _ _ hb1; have c0 := hf1.c0; have c1 := hf1.c1; have c2 := hf1.c2; have c101 := hf1.c101)
   | (go_at_call 108; (with_reducible refine (W1.out _).mono ?_); rintro e w2 ⟨rfl, rfl⟩)
   | (go_at_call 108; (with_reducible refine (W2.out _).mono ?_); rintro e w2 ⟨rfl, rfl⟩)
   | (go_at_call 108; (with_reducible refine (W3.out _).mono ?_); rintro e w2 ⟨rfl, rfl⟩)
   | (refine wpList_load_mid rfl 33 (.tmp 33) rfl g 3 rfl (ints qs) _ hf1.q Tryz.underlying33 rfl (by rw [hql.out]; exact size48) ?_)
   | (go_at_call 15; (with_reducible refine (HQ.out _).mono ?_); rintro e w2 ⟨rfl, hx2⟩; have hb2 := hb1.ext hx2; have hf2 := HF.out _ _ hb2)
   | (refine wpList_load_mid rfl 42 (.tmp 40) rfl g 67 rfl t1 _ hf2.ta Tryz.underlying42 rfl (by rw [hl1.out]; exact sizeTbl) ?_)
   | (refine wpList_load_mid rfl 42 (.tmp 43) rfl g 84 rfl t2 _ hf2.tb Tryz.underlying42 rfl (by rw [hl2.out]; exact sizeTbl) ?_)
   | (refine Go.Great.wpList_buildSliceTo rfl 115 42 2 _ rfl _ rfl (some 45) rfl Tryz.underlying115 _ (by simp [Act.eval]; exact HB2.out) ?_))
  have hbn0 := Blk.new w2 42 (t1 ++ t2).toArray
  have hb3 := hb2.alloc (.cells (t1 ++ t2).toArray 42)
  have hx3 := (hx1.trans hx2).alloc (.cells (t1 ++ t2).toArray 42)
  clear hb1 hb2 hf1 hf2 hx1 hx2 c0 c1 c2 c101
  go_loopw [47] (fun i wr => ∃ k : Nat, k ≤ 2 ∧ i = .int .i64 (k : Int) ∧ (1 ≤ k → z1 = 0) ∧ (2 ≤ k → z2 = 0) ∧ Blk wr g 47 fv ∧ Blk wr w2.heap.size 42 (t1 ++ t2).toArray ∧ Ext w wr) (fun i _ => 2 - (intOf i).toNat)
  case atStart => exact ⟨0, by omega, rfl, fun h => absurd h (by omega), fun h => absurd h (by omega), hb3, hbn0, hx3⟩
  case round =>
   clear hb3 hbn0 hx3
   obtain ⟨k, hk, rfl, e1, e2, hb, hbn, hx⟩ := hrel
   rcases (by omega : k = 0 ∨ k = 1 ∨ k = 2) with rfl | rfl | rfl
   ·have hr := (HRT.out _ _ hbn).1
    by_cases hz : z1 = 0
    ·subst hz
     go_wp2_with (first
      | (refine wpList_load_mid rfl 42 (.tmp 49) rfl _ 0 rfl t1 _ hr Tryz.underlying42 rfl (by rw [hl1.out]; exact sizeTbl) ?_)
      | (refine wAlo' rfl (some 5) rfl 42 rfl _ zeroTbl ?_; intro w4 ga hba4 hx4 hga)
      | (refine wStB rfl 42 (.tmp 5) (.tmp 50) rfl _ _ rfl rfl hba4 17 sizeTbl hs1.out hz17.out HO1.out ?_; intro w5 hba5 hg5; have hx5 := (hx.trans hx4).grown hg5 (by have := hx.size; omega))
      | (refine wLdB rfl 42 (.tmp 5) rfl _ rfl hba5 _ Tryz.underlying42 rfl 17 sizeTbl hs1.out ?_)
      | (go_at_call 102; (with_reducible refine (HC1.out _ hx5).mono ?_); rintro e w6 ⟨rfl, hx6⟩))
     go_roundw
     case rel => exact ⟨1, by omega, by go_num, by simp, fun h => absurd h (by omega), ((hb.ext hx4).grown hg5 (by have := hb.lt; simp; omega)).ext hx6, ((hbn.ext hx4).grown hg5 (by have := hbn.lt; simp; omega)).ext hx6, hx5.trans hx6⟩
     case measure => simp [intOf]
    ·have hz1 : (z1 != 0) = true := by simpa using hz
     have HZ := hid_ hz
     clear hz
     go_wp2_with (first
      | (refine wpList_load_mid rfl 42 (.tmp 49) rfl _ 0 rfl t1 _ hr Tryz.underlying42 rfl (by rw [hl1.out]; exact sizeTbl) ?_)
      | (refine wAlo' rfl (some 5) rfl 42 rfl _ zeroTbl ?_; intro w4 ga hba4 hx4 hga)
      | (refine wStB rfl 42 (.tmp 5) (.tmp 50) rfl _ _ rfl rfl hba4 17 sizeTbl hs1.out hz17.out HO1.out ?_; intro w5 hba5 hg5; have hx5 := (hx.trans hx4).grown hg5 (by have := hx.size; omega))
      | (refine wLdB rfl 42 (.tmp 5) rfl _ rfl hba5 _ Tryz.underlying42 rfl 17 sizeTbl hs1.out ?_)
      | (go_at_call 102; (with_reducible refine (HC1.out _ hx5).mono ?_); rintro e w6 ⟨rfl, hx6⟩))
     go_ret
     exact ⟨by rw [← HR.out]; simp [HZ.out], hx5.trans hx6⟩
   ·have hr := (HRT.out _ _ hbn).2
    by_cases hz : z2 = 0
    ·subst hz
     go_wp2_with (first
      | (refine wpList_load_mid rfl 42 (.tmp 49) rfl _ 17 rfl t2 _ hr Tryz.underlying42 rfl (by rw [hl2.out]; exact sizeTbl) ?_)
      | (refine wAlo' rfl (some 5) rfl 42 rfl _ zeroTbl ?_; intro w4 ga hba4 hx4 hga)
      | (refine wStB rfl 42 (.tmp 5) (.tmp 50) rfl _ _ rfl rfl hba4 17 sizeTbl hs2.out hz17.out HO2.out ?_; intro w5 hba5 hg5; have hx5 := (hx.trans hx4).grown hg5 (by have := hx.size; omega))
      | (refine wLdB rfl 42 (.tmp 5) rfl _ rfl hba5 _ Tryz.underlying42 rfl 17 sizeTbl hs2.out ?_)
      | (go_at_call 102; (with_reducible refine (HC2.out _ hx5).mono ?_); rintro e w6 ⟨rfl, hx6⟩))
     go_roundw
     case rel => exact ⟨2, by omega, by go_num, fun _ => e1 (by omega), by simp, ((hb.ext hx4).grown hg5 (by have := hb.lt; simp; omega)).ext hx6, ((hbn.ext hx4).grown hg5 (by have := hbn.lt; simp; omega)).ext hx6, hx5.trans hx6⟩
     case measure => simp [intOf]
    ·have hz1 : (z2 != 0) = true := by simpa using hz
     have HZ := hid_ hz
     clear hz
     go_wp2_with (first
      | (refine wpList_load_mid rfl 42 (.tmp 49) rfl _ 17 rfl t2 _ hr Tryz.underlying42 rfl (by rw [hl2.out]; exact sizeTbl) ?_)
      | (refine wAlo' rfl (some 5) rfl 42 rfl _ zeroTbl ?_; intro w4 ga hba4 hx4 hga)
      | (refine wStB rfl 42 (.tmp 5) (.tmp 50) rfl _ _ rfl rfl hba4 17 sizeTbl hs2.out hz17.out HO2.out ?_; intro w5 hba5 hg5; have hx5 := (hx.trans hx4).grown hg5 (by have := hx.size; omega))
      | (refine wLdB rfl 42 (.tmp 5) rfl _ rfl hba5 _ Tryz.underlying42 rfl 17 sizeTbl hs2.out ?_)
      | (go_at_call 102; (with_reducible refine (HC2.out _ hx5).mono ?_); rintro e w6 ⟨rfl, hx6⟩))
     go_ret
     exact ⟨by rw [← HR.out]; simp [HZ.out, e1 (by omega)], hx5.trans hx6⟩
   ·have c102 := (HF.out _ _ hb).c102
    have Z1 := hid_ (e1 (by omega))
    have Z2 := hid_ (e2 (by omega))
    clear e1 e2
    by_cases hn : 90000 < n
    ·have hn' : decide ((90000 : Int) < (n : Int)) = true := by simp; omega
     go_wp2_with fail
     go_ret
     have h2 : R = 2 := by rw [← HR.out, if_pos Z1.out, if_pos Z2.out, if_pos hn]
     subst h2
     exact ⟨rfl, hx⟩
    ·have hn' : decide ((90000 : Int) < (n : Int)) = false := by simp; omega
     go_wp2_with fail
     go_ret
     have h2 : R = 0 := by rw [← HR.out, if_pos Z1.out, if_pos Z2.out, if_neg hn]
     subst h2
     exact ⟨rfl, hx⟩
set_option maxRecDepth 20000 in
set_option maxHeartbeats 4000000 in
theorem rfcheck_na (wd hi pt ev : Int) (qs : List Int) (t1 t2 : List Value) (sd : Value) (w : World) (hq : qs.length = 64) (h1 : t1.length = 17) (h2 : t2.length = 17) (k1 : inB wd 1 64 = false) :
 Calls Tryz.prog 52 #[.agg (fileL wd hi pt qs t1 t2 ev sd).toArray] w fun e w' => e = .returned (.int .i64 1) ∧ Ext w w' := by
 have HF := hid_ (fun W g (hb : Blk W g 47 (fileL wd hi pt qs t1 t2 ev sd).toArray) => fileB hb hq h1 h2)
 have W1 := hid_ (fun W => outside_any wd 1 64 W)
 have W2 := hid_ (fun W => outside_any hi 1 64 W)
 have W3 := hid_ (fun W => outside_any ev 0 100 W)
 generalize (fileL wd hi pt qs t1 t2 ev sd).toArray = fv at *
 generalize inB wd 1 64 = b1 at *
 generalize inB hi 1 64 = b2 at *
 generalize inB ev 0 100 = b3 at *
 subst k1
 go_enter Tryz.func52, Tryz.ntmps52
 go_wp2_with (first
  | (refine wBox rfl 47 (.tmp 0) rfl fv rfl ?_; intro w1 g hb1 hx1 hg; obtain ⟨c0, c1, c2, -, -, -, -, c101, -⟩ := HF.out _ _ hb1)
  | (go_at_call 54; (with_reducible refine (W1.out _).mono ?_); rintro e w2 ⟨rfl, rfl⟩)
  | (go_at_call 54; (with_reducible refine (W2.out _).mono ?_); rintro e w2 ⟨rfl, rfl⟩)
  | (go_at_call 54; (with_reducible refine (W3.out _).mono ?_); rintro e w2 ⟨rfl, rfl⟩))
 go_ret
 exact ⟨rfl, hx1⟩
set_option maxRecDepth 20000 in
set_option maxHeartbeats 4000000 in
theorem rfcheck_nb (wd hi pt ev : Int) (qs : List Int) (t1 t2 : List Value) (sd : Value) (w : World) (hq : qs.length = 64) (h1 : t1.length = 17) (h2 : t2.length = 17) (k1 : inB wd 1 64 = true) (k2 : inB hi 1 64 = false) :
 Calls Tryz.prog 52 #[.agg (fileL wd hi pt qs t1 t2 ev sd).toArray] w fun e w' => e = .returned (.int .i64 1) ∧ Ext w w' := by
 have HF := hid_ (fun W g (hb : Blk W g 47 (fileL wd hi pt qs t1 t2 ev sd).toArray) => fileB hb hq h1 h2)
 have W1 := hid_ (fun W => outside_any wd 1 64 W)
 have W2 := hid_ (fun W => outside_any hi 1 64 W)
 have W3 := hid_ (fun W => outside_any ev 0 100 W)
 generalize (fileL wd hi pt qs t1 t2 ev sd).toArray = fv at *
 generalize inB wd 1 64 = b1 at *
 generalize inB hi 1 64 = b2 at *
 generalize inB ev 0 100 = b3 at *
 subst k1 k2
 go_enter Tryz.func52, Tryz.ntmps52
 go_wp2_with (first
  | (refine wBox rfl 47 (.tmp 0) rfl fv rfl ?_; intro w1 g hb1 hx1 hg; obtain ⟨c0, c1, c2, -, -, -, -, c101, -⟩ := HF.out _ _ hb1)
  | (go_at_call 54; (with_reducible refine (W1.out _).mono ?_); rintro e w2 ⟨rfl, rfl⟩)
  | (go_at_call 54; (with_reducible refine (W2.out _).mono ?_); rintro e w2 ⟨rfl, rfl⟩)
  | (go_at_call 54; (with_reducible refine (W3.out _).mono ?_); rintro e w2 ⟨rfl, rfl⟩))
 go_ret
 exact ⟨rfl, hx1⟩
set_option maxRecDepth 20000 in
set_option maxHeartbeats 4000000 in
theorem rfcheck_nc (wd hi pt ev : Int) (qs : List Int) (t1 t2 : List Value) (sd : Value) (w : World) (hq : qs.length = 64) (h1 : t1.length = 17) (h2 : t2.length = 17) (k1 : inB wd 1 64 = true) (k2 : inB hi 1 64 = true) (p1 : (pt != 1) = true) (p2 : (pt != 3) = true) :
 Calls Tryz.prog 52 #[.agg (fileL wd hi pt qs t1 t2 ev sd).toArray] w fun e w' => e = .returned (.int .i64 1) ∧ Ext w w' := by
 have HF := hid_ (fun W g (hb : Blk W g 47 (fileL wd hi pt qs t1 t2 ev sd).toArray) => fileB hb hq h1 h2)
 have W1 := hid_ (fun W => outside_any wd 1 64 W)
 have W2 := hid_ (fun W => outside_any hi 1 64 W)
 have W3 := hid_ (fun W => outside_any ev 0 100 W)
 generalize (fileL wd hi pt qs t1 t2 ev sd).toArray = fv at *
 generalize inB wd 1 64 = b1 at *
 generalize inB hi 1 64 = b2 at *
 generalize inB ev 0 100 = b3 at *
 subst k1 k2
 go_enter Tryz.func52, Tryz.ntmps52
 go_wp2_with (first
  | (refine wBox rfl 47 (.tmp 0) rfl fv rfl ?_; intro w1 g hb1 hx1 hg; obtain ⟨c0, c1, c2, -, -, -, -, c101, -⟩ := HF.out _ _ hb1)
  | (go_at_call 54; (with_reducible refine (W1.out _).mono ?_); rintro e w2 ⟨rfl, rfl⟩)
  | (go_at_call 54; (with_reducible refine (W2.out _).mono ?_); rintro e w2 ⟨rfl, rfl⟩)
  | (go_at_call 54; (with_reducible refine (W3.out _).mono ?_); rintro e w2 ⟨rfl, rfl⟩))
 go_ret
 exact ⟨rfl, hx1⟩
set_option maxRecDepth 20000 in
set_option maxHeartbeats 4000000 in
theorem rfcheck_nd (wd hi ev : Int) (qs : List Int) (t1 t2 : List Value) (sd : Value) (w : World) (hq : qs.length = 64) (h1 : t1.length = 17) (h2 : t2.length = 17) (k1 : inB wd 1 64 = true) (k2 : inB hi 1 64 = true) (k3 : inB ev 0 100 = false) :
 Calls Tryz.prog 52 #[.agg (fileL wd hi 1 qs t1 t2 ev sd).toArray] w fun e w' => e = .returned (.int .i64 1) ∧ Ext w w' := by
 have HF := hid_ (fun W g (hb : Blk W g 47 (fileL wd hi 1 qs t1 t2 ev sd).toArray) => fileB hb hq h1 h2)
 have W1 := hid_ (fun W => outside_any wd 1 64 W)
 have W2 := hid_ (fun W => outside_any hi 1 64 W)
 have W3 := hid_ (fun W => outside_any ev 0 100 W)
 generalize (fileL wd hi 1 qs t1 t2 ev sd).toArray = fv at *
 generalize inB wd 1 64 = b1 at *
 generalize inB hi 1 64 = b2 at *
 generalize inB ev 0 100 = b3 at *
 subst k1 k2 k3
 go_enter Tryz.func52, Tryz.ntmps52
 go_wp2_with (first
  | (refine wBox rfl 47 (.tmp 0) rfl fv rfl ?_; intro w1 g hb1 hx1 hg; obtain ⟨c0, c1, c2, -, -, -, -, c101, -⟩ := HF.out _ _ hb1)
  | (go_at_call 54; (with_reducible refine (W1.out _).mono ?_); rintro e w2 ⟨rfl, rfl⟩)
  | (go_at_call 54; (with_reducible refine (W2.out _).mono ?_); rintro e w2 ⟨rfl, rfl⟩)
  | (go_at_call 54; (with_reducible refine (W3.out _).mono ?_); rintro e w2 ⟨rfl, rfl⟩))
 go_ret
 exact ⟨rfl, hx1⟩
set_option maxRecDepth 20000 in
set_option maxHeartbeats 4000000 in
theorem rfcheck_ne (wd hi ev : Int) (qs : List Int) (t1 t2 : List Value) (sd : Value) (w : World) (hq : qs.length = 64) (h1 : t1.length = 17) (h2 : t2.length = 17) (k1 : inB wd 1 64 = true) (k2 : inB hi 1 64 = true) (k3 : inB ev 0 100 = false) :
 Calls Tryz.prog 52 #[.agg (fileL wd hi 3 qs t1 t2 ev sd).toArray] w fun e w' => e = .returned (.int .i64 1) ∧ Ext w w' := by
 have HF := hid_ (fun W g (hb : Blk W g 47 (fileL wd hi 3 qs t1 t2 ev sd).toArray) => fileB hb hq h1 h2)
 have W1 := hid_ (fun W => outside_any wd 1 64 W)
 have W2 := hid_ (fun W => outside_any hi 1 64 W)
 have W3 := hid_ (fun W => outside_any ev 0 100 W)
 generalize (fileL wd hi 3 qs t1 t2 ev sd).toArray = fv at *
 generalize inB wd 1 64 = b1 at *
 generalize inB hi 1 64 = b2 at *
 generalize inB ev 0 100 = b3 at *
 subst k1 k2 k3
 go_enter Tryz.func52, Tryz.ntmps52
 go_wp2_with (first
  | (refine wBox rfl 47 (.tmp 0) rfl fv rfl ?_; intro w1 g hb1 hx1 hg; obtain ⟨c0, c1, c2, -, -, -, -, c101, -⟩ := HF.out _ _ hb1)
  | (go_at_call 54; (with_reducible refine (W1.out _).mono ?_); rintro e w2 ⟨rfl, rfl⟩)
  | (go_at_call 54; (with_reducible refine (W2.out _).mono ?_); rintro e w2 ⟨rfl, rfl⟩)
  | (go_at_call 54; (with_reducible refine (W3.out _).mono ?_); rintro e w2 ⟨rfl, rfl⟩))
 go_ret
 exact ⟨rfl, hx1⟩
theorem rfcheck_no (wd hi pt ev : Int) (qs : List Int) (t1 t2 : List Value) (sd : Value) (w : World) (hq : qs.length = 64) (h1 : t1.length = 17) (h2 : t2.length = 17) (h : argsOK wd hi pt ev = false) :
 Calls Tryz.prog 52 #[.agg (fileL wd hi pt qs t1 t2 ev sd).toArray] w fun e w' => e = .returned (.int .i64 1) ∧ Ext w w' := by
 unfold argsOK at h
 cases k1 : inB wd 1 64 with
 | false => exact rfcheck_na wd hi pt ev qs t1 t2 sd w hq h1 h2 k1
 | true =>
   cases k2 : inB hi 1 64 with
   | false => exact rfcheck_nb wd hi pt ev qs t1 t2 sd w hq h1 h2 k1 k2
   | true =>
     by_cases p1 : pt = 1
     ·subst p1
      cases k3 : inB ev 0 100 with
      | false => exact rfcheck_nd wd hi ev qs t1 t2 sd w hq h1 h2 k1 k2 k3
      | true => rw [k1, k2, k3] at h; cases h
     ·by_cases p3 : pt = 3
      ·subst p3
       cases k3 : inB ev 0 100 with
       | false => exact rfcheck_ne wd hi ev qs t1 t2 sd w hq h1 h2 k1 k2 k3
       | true => rw [k1, k2, k3] at h; cases h
      ·exact rfcheck_nc wd hi pt ev qs t1 t2 sd w hq h1 h2 k1 k2 (by simpa using p1) (by simpa using p3)
end Go.Proofs.YtkggcjdlpendfaaGreatDoor
