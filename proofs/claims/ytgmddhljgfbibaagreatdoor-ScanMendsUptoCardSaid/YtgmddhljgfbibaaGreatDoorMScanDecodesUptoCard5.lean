/- Contracts for the law ScanDecodesUptoCard, part 5: what the functions that it reaches answer, for all arguments that the theorems name. -/
import Derived.Test.YtgmddhljgfbibaaGreatDoorMScanDecodesUptoCard3
import Derived.Test.YtgmddhljgfbibaaGreatDoorMScanDecodesUptoCard4
import Derived.Outline
/- wordsOf of the reference. -/
namespace Go.Proofs.YtgmddhljgfbibaaGreatDoor
set_option linter.unusedVariables false
set_option linter.unusedSimpArgs false
open Go.RowKit
def strs (L : List ByteArray) : List Value := L.map Value.string
def nextW (cs : List Int) : Nat → Nat
  | 0 => 0
  | k + 1 => 2 * nextW cs k + (cs.getD k 0).toNat
def rowW (cs : List Int) (k j : Nat) : List ByteArray := (List.range j).map fun i => binS (2 * nextW cs k + i) (k + 1)
def outW (cs : List Int) : Nat → List ByteArray
  | 0 => []
  | k + 1 => outW cs k ++ rowW cs k (cs.getD k 0).toNat
def okW (cs : List Int) : Bool := (List.range 16).all fun k => decide (nextW cs (k + 1) + 1 ≤ 2 ^ (k + 1))
theorem okW_no {cs : List Int} {k : Nat} (hk : k < 16) (h : 2 ^ (k + 1) < nextW cs (k + 1) + 1) : okW cs = false := by
  rw [← Bool.not_eq_true]
  intro h2
  have := List.all_eq_true.1 h2 k (List.mem_range.2 hk)
  simp only [decide_eq_true_eq] at this
  omega
theorem rowW_succ (cs : List Int) (k j : Nat) : rowW cs k (j + 1) = rowW cs k j ++ [binS (2 * nextW cs k + j) (k + 1)] := by
  unfold rowW
  rw [List.range_succ, List.map_append]
  rfl
theorem elt_str : Elt Tryz.prog 128 9 1 16 := ⟨Tryz.underlying128, by kernel_rfl, by omega⟩
theorem own_str {w : World} {base : Nat} {e : TypeId} {v : Value} {L : List ByteArray} {b : ByteArray} (h : w.ownsRow base e 1 v (L.length + 1) (strs L ++ [.string b])) : w.ownsRow base e 1 v (L ++ [b]).length (strs (L ++ [b])) := by
  simpa [strs] using h
theorem str_one (b : ByteArray) : ∀ u ∈ [Value.string b], u.oneCell' = true := by
  intro u hu
  simp at hu
  subst hu
  rfl
set_option maxRecDepth 20000 in
set_option maxHeartbeats 1000000 in
theorem wordsOf_yes (cs : List Int) (sl : Value) (w : World) (hl : cs.length = 16) (hal : allIn cs 0 256 = true) (hok : okW cs = true) :
    Calls Tryz.prog 65 #[.agg (tblv cs sl)] w fun e w' => ∃ A c, e = .returned (.tuple #[.slice A (outW cs 16).length c, .bool true]) ∧ SL w' 1 (.slice A (outW cs 16).length c) (outW cs 16).length (strs (outW cs 16)) ∧ Ext w w' := by
  have HOKT := hid_ hok
  clear hok
  have HL := hid_ hl
  have HAL := hid_ (allIn_iff.1 hal)
  have HRG := hid_ (fun W g (h : Blk W g 25 (tblv cs sl)) => tblv_range h)
  have hcl := hid_ ((ints_len cs).trans hl)
  have HIX := hid_ (fun k (hk : k < cs.length) (h16 : k < 16) => fun W => run_index16 (ints cs).toArray k (.int .i64 cs[k]) h16 (bv_at cs k hk) W)
  clear hal
  generalize tblv cs sl = tv at *
  go_enter Tryz.func65, Tryz.ntmps65
  go_wp2_with (first
    | (refine wpList_box_abs rfl 25 (.tmp 0) rfl tv rfl ?_; intro w1 g hb1 hx1 hg)
    | (refine wpList_load_mid rfl 22 (.tmp 8) rfl g 0 rfl (ints cs) _ (HRG.out _ _ hb1) Tryz.underlying22 rfl (by rw [hcl.out]; exact size16) ?_))
  go_loopw [4, 5, 10] (fun v nx i wr => ∃ k : Nat, k ≤ 16 ∧ i = .int .i64 (k : Int) ∧ nx = .int .i64 (nextW cs k : Nat) ∧ nextW cs k + 1 ≤ 2 ^ k ∧ (outW cs k).length ≤ 256 * k ∧ (∀ j, j < k → nextW cs (j + 1) + 1 ≤ 2 ^ (j + 1)) ∧ wr.ownsRow w.heap.size 9 1 v (outW cs k).length (strs (outW cs k)) ∧ Ext w wr) (fun _ _ i _ => 16 - (intOf i).toNat)
  case atStart => exact ⟨0, by omega, rfl, rfl, by simp [nextW], by simp [outW], by intro j hj; omega, World.ownsRow_nil _ _ _ _, hx1⟩
  case round =>
    clear hx1
    obtain ⟨k, hk, rfl, rfl, hnx, hol, hall, hown, hx⟩ := hrel
    by_cases hlt : k < 16
    · have hsd : decide ((k : Int) < 16) = true := by simp; omega
      have hkl : k < cs.length := by have := HL.out; omega
      have hix := HIX.out k hkl hlt
      obtain ⟨q1, q2⟩ := HAL.out _ (List.getElem_mem hkl)
      have HG : Hid (cs.getD k 0 = cs[k]) := hid_ (by simp [hkl])
      obtain ⟨n, hn⟩ : ∃ n : Nat, cs[k] = (n : Int) := ⟨cs[k].toNat, by omega⟩
      rw [hn] at hix q1 q2 HG
      have HNW : Hid (nextW cs (k + 1) = 2 * nextW cs k + n) := hid_ (by show 2 * nextW cs k + (cs.getD k 0).toNat = _; rw [HG.out]; simp)
      have HOW : Hid (outW cs (k + 1) = outW cs k ++ rowW cs k n) := hid_ (by show outW cs k ++ rowW cs k (cs.getD k 0).toNat = _; rw [HG.out]; simp)
      have HRS := hid_ (rowW_succ cs k)
      have HR0 : Hid (rowW cs k 0 = []) := hid_ rfl
      have HRL : Hid (∀ j, (rowW cs k j).length = j) := hid_ (fun j => by simp [rowW])
      have HALL := hid_ hall
      have hp : (2 : Nat) ^ k ≤ 65536 := by have := Nat.pow_le_pow_right (n := 2) (by omega) hk; simpa using this
      have HP : Hid (2 ^ (k + 1) = 2 * 2 ^ k) := hid_ (by rw [Nat.pow_succ]; omega)
      have HOK := hid_ (fun (h : 2 ^ (k + 1) < nextW cs (k + 1) + 1) => okW_no hlt h)
      have HPA : Hid (∀ W, Calls Tryz.prog 76 #[.int .i64 ((k : Int) + 1)] W fun e w' => e = .returned (.int .i64 (((2 ^ (k + 1) : Nat)) : Int)) ∧ W = w') := hid_ (fun W => by
        have := power_any (k + 1) W (by omega)
        simpa using this)
      rw [HP.out] at HPA HOK
      rw [HNW.out] at HOK
      have HBA := hid_ (fun m W (hm : m ≤ 1000000000) => binary_any (k + 1) m W (by omega) hm)
      generalize hN : nextW cs k = N at *
      generalize hPw : (2 : Nat) ^ k = Pw at *
      clear hn hN hall hkl
      go_wp2_with fail
      go_loopw [4, 5, 17] (fun v nx i wr => ∃ j : Nat, j ≤ n ∧ i = .int .i64 (j : Int) ∧ nx = .int .i64 ((2 * N + j : Nat) : Int) ∧ 2 * N + j + 1 ≤ 2 * Pw ∧ wr.ownsRow w.heap.size 9 1 v (outW cs k ++ rowW cs k j).length (strs (outW cs k ++ rowW cs k j)) ∧ Ext w wr) (fun _ _ i _ => n - (intOf i).toNat)
      case atStart => exact ⟨0, by omega, rfl, by congr 1; omega, by omega, by rw [HR0.out, List.append_nil]; exact hown, hx⟩
      case round =>
        clear hown hx
        obtain ⟨j, hj, rfl, rfl, hnj, hown, hx⟩ := hrel
        have hlen : (outW cs k ++ rowW cs k j).length = (outW cs k).length + j := by rw [List.length_append, HRL.out]
        by_cases hlj : j < n
        · by_cases hbad : 2 * N + j + 1 < 2 * Pw
          · have hbad' : decide (2 * (Pw : Int) - 1 ≤ 2 * (N : Int) + (j : Int)) = false := by simp; omega
            have HBJ : Hid (∀ W, Calls Tryz.prog 59 #[.int .i64 ((k : Int) + 1), .int .i64 (2 * (N : Int) + (j : Int))] W fun e w' => e = .returned (.string (binS (2 * N + j) (k + 1))) ∧ W = w') := hid_ (fun W => by
              have := HBA.out (2 * N + j) W (by omega)
              simpa using this)
            have HRJ := hid_ (HRS.out j)
            generalize binS (2 * N + j) (k + 1) = bs at *
            go_wp2_with (first
              | (go_at_call 76; (with_reducible refine (HPA.out _).mono ?_); rintro e w' ⟨rfl, rfl⟩)
              | (go_at_call 59; (with_reducible refine (HBJ.out _).mono ?_); rintro e w' ⟨rfl, rfl⟩)
              | (at_builtin; go_must (refine wpList_append_sl elt_str rfl _ _ rfl w.heap.size _ _ _ rfl (hown.alloc _) _ 1 [.string _] rfl (one_sl _ _ _) (str_one _) (by omega) (by omega) (by have := hx.size; simp; omega) ?_); intro v' w7 hown7 hb7))
            go_roundw
            case rel =>
              refine ⟨j + 1, by omega, by go_num, by congr 1, by omega, ?_, (hx.alloc _).trans' hb7⟩
              rw [HRJ.out, ← List.append_assoc]
              exact own_str hown7
            case measure => simp [intOf]; omega
          · exfalso
            have := HOK.out (by omega)
            rw [HOKT.out] at this
            cases this
        · obtain rfl : j = n := by omega
          go_wp2_with fail
          go_roundw
          case rel =>
            refine ⟨k + 1, by omega, by go_num, by rw [HNW.out], by rw [HNW.out, HP.out]; omega, by rw [HOW.out, hlen]; omega, ?_, by rw [HOW.out]; exact hown, hx⟩
            intro i hi
            by_cases hik : i = k
            · subst hik; rw [HNW.out, HP.out]; omega
            · exact HALL.out i (by omega)
          case measure => simp [intOf]; omega
    · have ek : k = 16 := by omega
      rw [ek] at hown
      clear hall
      go_wp2_with fail
      go_ret2
      obtain ⟨A, c, rfl, hsl, hfs⟩ := own_form hown
      exact ⟨A, c, rfl, hsl, hx⟩
set_option maxRecDepth 20000 in
set_option maxHeartbeats 1000000 in
theorem wordsOf_no (cs : List Int) (sl : Value) (w : World) (hl : cs.length = 16) (hal : allIn cs 0 256 = true) (hok : okW cs = false) :
    Calls Tryz.prog 65 #[.agg (tblv cs sl)] w fun e w' => e = .returned (.tuple #[.slice none 0 0, .bool false]) ∧ Ext w w' := by
  have HOKT := hid_ hok
  clear hok
  have HL := hid_ hl
  have HAL := hid_ (allIn_iff.1 hal)
  have HRG := hid_ (fun W g (h : Blk W g 25 (tblv cs sl)) => tblv_range h)
  have hcl := hid_ ((ints_len cs).trans hl)
  have HIX := hid_ (fun k (hk : k < cs.length) (h16 : k < 16) => fun W => run_index16 (ints cs).toArray k (.int .i64 cs[k]) h16 (bv_at cs k hk) W)
  clear hal
  generalize tblv cs sl = tv at *
  go_enter Tryz.func65, Tryz.ntmps65
  go_wp2_with (first
    | (refine wpList_box_abs rfl 25 (.tmp 0) rfl tv rfl ?_; intro w1 g hb1 hx1 hg)
    | (refine wpList_load_mid rfl 22 (.tmp 8) rfl g 0 rfl (ints cs) _ (HRG.out _ _ hb1) Tryz.underlying22 rfl (by rw [hcl.out]; exact size16) ?_))
  go_loopw [4, 5, 10] (fun v nx i wr => ∃ k : Nat, k ≤ 16 ∧ i = .int .i64 (k : Int) ∧ nx = .int .i64 (nextW cs k : Nat) ∧ nextW cs k + 1 ≤ 2 ^ k ∧ (outW cs k).length ≤ 256 * k ∧ (∀ j, j < k → nextW cs (j + 1) + 1 ≤ 2 ^ (j + 1)) ∧ wr.ownsRow w.heap.size 9 1 v (outW cs k).length (strs (outW cs k)) ∧ Ext w wr) (fun _ _ i _ => 16 - (intOf i).toNat)
  case atStart => exact ⟨0, by omega, rfl, rfl, by simp [nextW], by simp [outW], by intro j hj; omega, World.ownsRow_nil _ _ _ _, hx1⟩
  case round =>
    clear hx1
    obtain ⟨k, hk, rfl, rfl, hnx, hol, hall, hown, hx⟩ := hrel
    by_cases hlt : k < 16
    · have hsd : decide ((k : Int) < 16) = true := by simp; omega
      have hkl : k < cs.length := by have := HL.out; omega
      have hix := HIX.out k hkl hlt
      obtain ⟨q1, q2⟩ := HAL.out _ (List.getElem_mem hkl)
      have HG : Hid (cs.getD k 0 = cs[k]) := hid_ (by simp [hkl])
      obtain ⟨n, hn⟩ : ∃ n : Nat, cs[k] = (n : Int) := ⟨cs[k].toNat, by omega⟩
      rw [hn] at hix q1 q2 HG
      have HNW : Hid (nextW cs (k + 1) = 2 * nextW cs k + n) := hid_ (by show 2 * nextW cs k + (cs.getD k 0).toNat = _; rw [HG.out]; simp)
      have HOW : Hid (outW cs (k + 1) = outW cs k ++ rowW cs k n) := hid_ (by show outW cs k ++ rowW cs k (cs.getD k 0).toNat = _; rw [HG.out]; simp)
      have HRS := hid_ (rowW_succ cs k)
      have HR0 : Hid (rowW cs k 0 = []) := hid_ rfl
      have HRL : Hid (∀ j, (rowW cs k j).length = j) := hid_ (fun j => by simp [rowW])
      have HALL := hid_ hall
      have hp : (2 : Nat) ^ k ≤ 65536 := by have := Nat.pow_le_pow_right (n := 2) (by omega) hk; simpa using this
      have HP : Hid (2 ^ (k + 1) = 2 * 2 ^ k) := hid_ (by rw [Nat.pow_succ]; omega)
      have HOK := hid_ (fun (h : 2 ^ (k + 1) < nextW cs (k + 1) + 1) => okW_no hlt h)
      have HPA : Hid (∀ W, Calls Tryz.prog 76 #[.int .i64 ((k : Int) + 1)] W fun e w' => e = .returned (.int .i64 (((2 ^ (k + 1) : Nat)) : Int)) ∧ W = w') := hid_ (fun W => by
        have := power_any (k + 1) W (by omega)
        simpa using this)
      rw [HP.out] at HPA HOK
      rw [HNW.out] at HOK
      have HBA := hid_ (fun m W (hm : m ≤ 1000000000) => binary_any (k + 1) m W (by omega) hm)
      generalize hN : nextW cs k = N at *
      generalize hPw : (2 : Nat) ^ k = Pw at *
      clear hn hN hall hkl
      go_wp2_with fail
      go_loopw [4, 5, 17] (fun v nx i wr => ∃ j : Nat, j ≤ n ∧ i = .int .i64 (j : Int) ∧ nx = .int .i64 ((2 * N + j : Nat) : Int) ∧ 2 * N + j + 1 ≤ 2 * Pw ∧ wr.ownsRow w.heap.size 9 1 v (outW cs k ++ rowW cs k j).length (strs (outW cs k ++ rowW cs k j)) ∧ Ext w wr) (fun _ _ i _ => n - (intOf i).toNat)
      case atStart => exact ⟨0, by omega, rfl, by congr 1; omega, by omega, by rw [HR0.out, List.append_nil]; exact hown, hx⟩
      case round =>
        clear hown hx
        obtain ⟨j, hj, rfl, rfl, hnj, hown, hx⟩ := hrel
        have hlen : (outW cs k ++ rowW cs k j).length = (outW cs k).length + j := by rw [List.length_append, HRL.out]
        by_cases hlj : j < n
        · by_cases hbad : 2 * N + j + 1 < 2 * Pw
          · have hbad' : decide (2 * (Pw : Int) - 1 ≤ 2 * (N : Int) + (j : Int)) = false := by simp; omega
            have HBJ : Hid (∀ W, Calls Tryz.prog 59 #[.int .i64 ((k : Int) + 1), .int .i64 (2 * (N : Int) + (j : Int))] W fun e w' => e = .returned (.string (binS (2 * N + j) (k + 1))) ∧ W = w') := hid_ (fun W => by
              have := HBA.out (2 * N + j) W (by omega)
              simpa using this)
            have HRJ := hid_ (HRS.out j)
            generalize binS (2 * N + j) (k + 1) = bs at *
            go_wp2_with (first
              | (go_at_call 76; (with_reducible refine (HPA.out _).mono ?_); rintro e w' ⟨rfl, rfl⟩)
              | (go_at_call 59; (with_reducible refine (HBJ.out _).mono ?_); rintro e w' ⟨rfl, rfl⟩)
              | (at_builtin; go_must (refine wpList_append_sl elt_str rfl _ _ rfl w.heap.size _ _ _ rfl (hown.alloc _) _ 1 [.string _] rfl (one_sl _ _ _) (str_one _) (by omega) (by omega) (by have := hx.size; simp; omega) ?_); intro v' w7 hown7 hb7))
            go_roundw
            case rel =>
              refine ⟨j + 1, by omega, by go_num, by congr 1, by omega, ?_, (hx.alloc _).trans' hb7⟩
              rw [HRJ.out, ← List.append_assoc]
              exact own_str hown7
            case measure => simp [intOf]; omega
          · have hbad' : decide (2 * (Pw : Int) - 1 ≤ 2 * (N : Int) + (j : Int)) = true := by simp; omega
            go_wp2_with (go_at_call 76; (with_reducible refine (HPA.out _).mono ?_); rintro e w' ⟨rfl, rfl⟩)
            go_ret2
            exact ⟨rfl, hx⟩
        · obtain rfl : j = n := by omega
          go_wp2_with fail
          go_roundw
          case rel =>
            refine ⟨k + 1, by omega, by go_num, by rw [HNW.out], by rw [HNW.out, HP.out]; omega, by rw [HOW.out, hlen]; omega, ?_, by rw [HOW.out]; exact hown, hx⟩
            intro i hi
            by_cases hik : i = k
            · subst hik; rw [HNW.out, HP.out]; omega
            · exact HALL.out i (by omega)
          case measure => simp [intOf]; omega
    · exfalso
      have ek : k = 16 := by omega
      subst ek
      have : okW cs = true := List.all_eq_true.2 fun i hi => by
        have := hall i (by have := List.mem_range.1 hi; omega)
        simpa using this
      rw [HOKT.out] at this
      cases this
end Go.Proofs.YtgmddhljgfbibaaGreatDoor
/- Whether a table may be, in plain words. -/
namespace Go.Proofs.YtgmddhljgfbibaaGreatDoor
set_option linter.unusedVariables false
set_option linter.unusedSimpArgs false
open Go.RowKit
/-- counts within bounds, as many as symbols -/
def totOK (cs xs : List Int) : Bool := allIn cs 0 256 && decide (sumL cs 16 ≤ 256) && decide (sumL cs 16 = xs.length)
/-- what Check answers -/
def checkZ (cs xs : List Int) : Int := if totOK cs xs then (if allIn xs 0 255 then (if decide xs.Nodup && okW cs then 0 else 4) else 1) else 4
theorem checkZ_tot {cs xs : List Int} (h : totOK cs xs = false) : checkZ cs xs = 4 := by simp [checkZ, h]
theorem checkZ_arg {cs xs : List Int} (h : totOK cs xs = true) (h2 : allIn xs 0 255 = false) : checkZ cs xs = 1 := by simp [checkZ, h, h2]
theorem checkZ_dup {cs xs : List Int} (h : totOK cs xs = true) (h2 : allIn xs 0 255 = true) (h3 : ¬ xs.Nodup) : checkZ cs xs = 4 := by simp [checkZ, h, h2, h3]
theorem checkZ_words {cs xs : List Int} (h : totOK cs xs = true) (h2 : allIn xs 0 255 = true) (h3 : xs.Nodup) : checkZ cs xs = if okW cs then 0 else 4 := by simp [checkZ, h, h2, h3]
theorem totOK_iff {cs xs : List Int} : totOK cs xs = true ↔ allIn cs 0 256 = true ∧ sumL cs 16 ≤ 256 ∧ sumL cs 16 = xs.length := by simp [totOK, and_assoc]
theorem nodup_take_succ {xs : List Int} {k : Nat} (hk : k < xs.length) : (xs.take (k + 1)).Nodup ↔ (xs.take k).Nodup ∧ xs[k] ∉ xs.take k := by
  rw [List.take_succ_eq_append_getElem hk, List.nodup_append]
  constructor
  · rintro ⟨a, -, c⟩
    exact ⟨a, fun h => c _ h _ (by simp) rfl⟩
  · rintro ⟨a, b⟩
    refine ⟨a, by simp, fun x hx y hy => ?_⟩
    simp at hy
    subst hy
    rintro rfl
    exact b hx
theorem okW_yes {cs : List Int} (h : ∀ j, j < 16 → nextW cs (j + 1) + 1 ≤ 2 ^ (j + 1)) : okW cs = true :=
  List.all_eq_true.2 fun i hi => by
    have := h i (List.mem_range.1 hi)
    simpa using this
theorem nextW_succ (cs : List Int) (k n : Nat) (hk : k < cs.length) (h : cs[k] = (n : Int)) : nextW cs (k + 1) = 2 * nextW cs k + n := by
  show 2 * nextW cs k + (cs.getD k 0).toNat = _
  simp [hk, h]
theorem sumL_bd {cs : List Int} (h : allIn cs 0 256 = true) : ∀ k, 0 ≤ sumL cs k ∧ sumL cs k ≤ sumL cs (k + 1) := by
  have key : ∀ l : List Int, (∀ z ∈ l, 0 ≤ z) → 0 ≤ l.sum := by
    intro l
    induction l with
    | nil => simp
    | cons a l ih =>
      intro h
      have := h a (by simp)
      have := ih (fun z hz => h z (by simp [hz]))
      simp; omega
  have h' := allIn_iff.1 h
  intro k
  constructor
  · exact key _ fun z hz => (h' z (List.mem_of_mem_take hz)).1
  · rcases Nat.lt_or_ge k cs.length with hk | hk
    · rw [sumL_succ cs k hk]
      have := h' _ (List.getElem_mem hk)
      omega
    · unfold sumL
      rw [List.take_of_length_le hk, List.take_of_length_le (by omega)]
      omega
end Go.Proofs.YtgmddhljgfbibaaGreatDoor
/- Words of a table: rows of three integers. -/
namespace Go.Proofs.YtgmddhljgfbibaaGreatDoor
set_option linter.unusedVariables false
set_option linter.unusedSimpArgs false
open Go.RowKit
theorem elt_word : Elt Tryz.prog 139 133 3 24 := ⟨Tryz.underlying139, by kernel_rfl, by omega⟩
theorem one_sl3' (w : World) (T : TypeId) (a b c : Value) : SL (w.alloc (.cells #[a, b, c] T)) 3 (.slice (some ⟨w.heap.size, 0, none⟩) 1 1) 1 [a, b, c] := by
  have := (Blk.new w T #[a, b, c]).sl (size := 3) (n := 1) (c := 1) rfl (by omega) (by omega)
  simpa using this
theorem int3_one (a b c : Int) : ∀ u ∈ [Value.int .i64 a, .int .i64 b, .int .i64 c], u.oneCell' = true := by
  intro u hu
  simp at hu
  rcases hu with rfl | rfl | rfl <;> rfl
theorem own_tok3 {w : World} {base : Nat} {e : TypeId} {v : Value} {T : List Tok} {a b c : Int} (h : w.ownsRow base e 3 v (T.length + 1) (toks T ++ [.int .i64 a, .int .i64 b, .int .i64 c])) : w.ownsRow base e 3 v (T ++ [(a, b, c)]).length (toks (T ++ [(a, b, c)])) := by
  simpa [toks, tokv] using h
/-- the words of a table in order: how many digits, and which number -/
def rowC (cs : List Int) (k j : Nat) : List (Nat × Nat) := (List.range j).map fun i => (k + 1, 2 * nextW cs k + i)
def codesW (cs : List Int) : Nat → List (Nat × Nat)
  | 0 => []
  | k + 1 => codesW cs k ++ rowC cs k (cs.getD k 0).toNat
theorem rowC_succ (cs : List Int) (k j : Nat) : rowC cs k (j + 1) = rowC cs k j ++ [(k + 1, 2 * nextW cs k + j)] := by
  unfold rowC
  rw [List.range_succ, List.map_append]
  rfl
theorem rowC_len (cs : List Int) (k j : Nat) : (rowC cs k j).length = j := by simp [rowC]
theorem codesW_step (cs : List Int) (k n : Nat) (hk : k < cs.length) (h : cs[k] = (n : Int)) : codesW cs (k + 1) = codesW cs k ++ rowC cs k n := by
  show codesW cs k ++ rowC cs k (cs.getD k 0).toNat = _
  simp [hk, h]
theorem codesW_len (cs : List Int) (h : ∀ z ∈ cs, 0 ≤ z) : ∀ k, k ≤ cs.length → ((codesW cs k).length : Int) = sumL cs k := by
  intro k
  induction k with
  | zero => intro _; simp [codesW, sumL]
  | succ k ih =>
    intro hk
    have h0 := h _ (List.getElem_mem (show k < cs.length by omega))
    rw [codesW_step cs k cs[k].toNat (by omega) (by omega), List.length_append, rowC_len, sumL_succ cs k (by omega), ← ih (by omega)]
    omega
theorem codesW_mono (cs : List Int) (j k : Nat) (h : j ≤ k) : (codesW cs j).length ≤ (codesW cs k).length := by
  induction k with
  | zero => obtain rfl : j = 0 := by omega
            exact Nat.le_refl _
  | succ k ih =>
    rcases Nat.lt_or_ge k j with h2 | h2
    · obtain rfl : j = k + 1 := by omega
      exact Nat.le_refl _
    · have := ih h2
      show _ ≤ (codesW cs k ++ _).length
      rw [List.length_append]
      omega
theorem outW_codes (cs : List Int) (k : Nat) : outW cs k = (codesW cs k).map fun p => binS p.2 p.1 := by
  induction k with
  | zero => rfl
  | succ k ih =>
    show outW cs k ++ rowW cs k _ = _
    rw [ih]
    simp [codesW, rowC, rowW, Function.comp_def]
/-- symbols beside their words -/
def zipC (l : List (Nat × Nat)) (xs : List Int) : List Tok := List.zipWith (fun p x => ((x, (p.1 : Int), (p.2 : Int)) : Tok)) l xs
theorem zipC_len (l : List (Nat × Nat)) (xs : List Int) (h : l.length ≤ xs.length) : (zipC l xs).length = l.length := by simp [zipC]; omega
theorem zipC_snoc (l : List (Nat × Nat)) (p : Nat × Nat) (xs : List Int) (h : l.length < xs.length) : zipC (l ++ [p]) xs = zipC l xs ++ [(xs[l.length], (p.1 : Int), (p.2 : Int))] := by
  induction l generalizing xs with
  | nil =>
    cases xs with
    | nil => simp at h
    | cons x xs => simp [zipC]
  | cons q l ih =>
    cases xs with
    | nil => simp at h
    | cons x xs =>
      have h' : l.length < xs.length := by simpa using h
      have := ih xs h'
      simp only [zipC, List.cons_append, List.zipWith_cons_cons] at this ⊢
      rw [this]
      simp
/-- each word fits its length -/
theorem codesW_fit (cs : List Int) (hok : okW cs = true) (hl : cs.length = 16) : ∀ k, k ≤ 16 → ∀ p ∈ codesW cs k, 1 ≤ p.1 ∧ p.1 ≤ k ∧ p.2 + 1 < 2 ^ p.1 + 1 := by
  intro k
  induction k with
  | zero => intro _ p hp; simp [codesW] at hp
  | succ k ih =>
    intro hk p hp
    rcases List.mem_append.1 (show p ∈ codesW cs k ++ rowC cs k (cs.getD k 0).toNat from hp) with h | h
    · have := ih (by omega) p h
      omega
    · simp only [rowC, List.mem_map, List.mem_range] at h
      obtain ⟨i, hi, rfl⟩ := h
      have h1 := List.all_eq_true.1 hok k (List.mem_range.2 (by omega))
      simp only [decide_eq_true_eq] at h1
      have h2 : nextW cs (k + 1) = 2 * nextW cs k + (cs.getD k 0).toNat := rfl
      refine ⟨by simp, by simp, ?_⟩
      simp only
      omega
theorem codesW_zero (cs : List Int) : codesW cs 0 = [] := rfl
theorem codesW_succ (cs : List Int) (k : Nat) : codesW cs (k + 1) = codesW cs k ++ rowC cs k (cs.getD k 0).toNat := rfl
attribute [irreducible] codesW
end Go.Proofs.YtgmddhljgfbibaaGreatDoor
/- Slices that are owned, out of words. -/
namespace Go.Proofs.YtgmddhljgfbibaaGreatDoor
set_option linter.unusedVariables false
set_option linter.unusedSimpArgs false
open Go.RowKit
/-- an owned row, its value written out -/
def OwnV (w : World) (base : Nat) (e : TypeId) (size : Nat) (v : Value) (n : Nat) (xs : List Value) : Prop := ∃ A c, v = .slice A n c ∧ w.ownsRow base e size (.slice A n c) n xs
theorem OwnV.mk {w : World} {base : Nat} {e : TypeId} {size n : Nat} {v : Value} {xs : List Value} (h : w.ownsRow base e size v n xs) : OwnV w base e size v n xs := by
  obtain ⟨A, c, rfl, -, -⟩ := own_form h
  exact ⟨A, c, rfl, h⟩
theorem OwnV.nil (w : World) (base : Nat) (e : TypeId) (size : Nat) : OwnV w base e size (.slice none 0 0) 0 [] := ⟨none, 0, rfl, World.ownsRow_nil _ _ _ _⟩
theorem own_out {w : World} {base : Nat} {e : TypeId} {size n c : Nat} {A : Option Addr} {xs : List Value} (h : w.ownsRow base e size (.slice A n c) n xs) : SL w size (.slice A n c) n xs ∧ ∀ ad, A = some ad → base ≤ ad.block := by
  obtain ⟨B, d, e1, h1, h2⟩ := own_form h
  injection e1 with e1 e2 e3
  subst e1 e3
  exact ⟨h1, h2⟩
theorem own_ext0 {w w' : World} {base : Nat} {e : TypeId} {size n : Nat} {v : Value} {xs : List Value} (h : w.ownsRow base e size v n xs) (hb : Ext w w') : w'.ownsRow base e size v n xs := by
  obtain ⟨hl, hh⟩ := h
  refine ⟨hl, ?_⟩
  rcases hh with ⟨rfl, rfl⟩ | ⟨g, cap, cur, rfl, h1, hg, h2⟩
  · exact .inl ⟨rfl, rfl⟩
  · exact .inr ⟨g, cap, cur, rfl, h1, (hb.block g (Blk.lt (w := w) (t := e) (cs := cur) hg)).trans hg, h2⟩
end Go.Proofs.YtgmddhljgfbibaaGreatDoor
/- table.Check. -/
namespace Go.Proofs.YtgmddhljgfbibaaGreatDoor
set_option linter.unusedVariables false
set_option linter.unusedSimpArgs false
open Go.RowKit Go.Maps
theorem keyed_int : Keyed Tryz.prog 3 := int_keyed Tryz.underlying3
theorem zero_bool (w : World) : (zeroValue 4).run Tryz.prog w = .ok (.bool false) w := by kernel_rfl
/-- the set of the first numbers of a list -/
def seenF (l : List Int) (x : Int) : Option Value := if x ∈ l then some (.bool true) else none
theorem seenF_look (l : List Int) (x : Int) : (seenF l x).getD (.bool false) = .bool (decide (x ∈ l)) := by
  unfold seenF; by_cases h : x ∈ l <;> simp [h]
/-- what Check needs of its table -/
theorem check_tot (cs xs : List Int) (sl : Value) (w : World) (hl : cs.length = 16) (hs : SL w 1 sl xs.length (ints xs)) (h : totOK cs xs = false) :
    Calls Tryz.prog 18 #[.agg (tblv cs sl)] w fun e w' => e = .returned (.int .i64 4) ∧ Ext w w' := by
  have HT := hid_ (fun W => total_any cs sl W hl)
  have hlast := hid_ (fun W g (h : Blk W g 25 (tblv cs sl)) => tblv_last h hl)
  have hts := hid_ (tblv_size cs sl hl)
  have hq : (totalZ cs).2 = false ∨ ((totalZ cs).2 = true ∧ ((totalZ cs).1 != (xs.length : Int)) = true) := by
    unfold totOK at h
    unfold totalZ
    cases h1 : allIn cs 0 256 with
    | false => left; simp
    | true =>
      rw [h1] at h
      simp only [if_true]
      by_cases h2 : sumL cs 16 ≤ 256
      · right
        simp [h2] at h ⊢
        exact h
      · left; simpa using h2
  generalize totalZ cs = tz at *
  obtain ⟨all, is⟩ := tz
  generalize tblv cs sl = tv at *
  obtain ⟨A, c, rfl, hc1, hc2, -, -⟩ := hs
  rcases hq with hq | ⟨hq, hq2⟩
  · simp only at hq
    subst hq
    go_enter Tryz.func18, Tryz.ntmps18
    go_wp2_with (first
      | (refine wpList_box_abs rfl 25 (.tmp 0) rfl tv rfl ?_; intro w1 g hb1 hx1 hg)
      | (refine wpList_load_blk rfl 25 (.tmp 1) rfl _ rfl hb1 _ Tryz.underlying25 rfl 17 sizeTbl hts.out ?_)
      | (go_at_call 39; (with_reducible refine (HT.out _).mono ?_); rintro e w2 ⟨rfl, hx2⟩))
    go_ret
    exact ⟨rfl, hx1.trans hx2⟩
  · simp only at hq hq2
    subst hq
    go_enter Tryz.func18, Tryz.ntmps18
    go_wp2_with (first
      | (refine wpList_box_abs rfl 25 (.tmp 0) rfl tv rfl ?_; intro w1 g hb1 hx1 hg)
      | (refine wpList_load_blk rfl 25 (.tmp 1) rfl _ rfl hb1 _ Tryz.underlying25 rfl 17 sizeTbl hts.out ?_)
      | (go_at_call 39; (with_reducible refine (HT.out _).mono ?_); rintro e w2 ⟨rfl, hx2⟩; have hc16 := hlast.out _ _ (hb1.ext hx2)))
    go_ret
    exact ⟨rfl, hx1.trans hx2⟩
theorem seenF_upd (xs : List Int) (k : Nat) (hk : k < xs.length) : seenF (xs.take (k + 1)) xs[k] = some (.bool true) := by
  unfold seenF
  rw [if_pos (by rw [List.take_succ_eq_append_getElem hk]; exact List.mem_append_right _ (by simp))]
theorem seenF_other (xs : List Int) (k : Nat) (hk : k < xs.length) (j : Int) (hj : j ≠ xs[k]) : seenF (xs.take (k + 1)) j = seenF (xs.take k) j := by
  unfold seenF
  have : j ∈ xs.take (k + 1) ↔ j ∈ xs.take k := by rw [List.take_succ_eq_append_getElem hk, List.mem_append]; simp [hj]
  by_cases h : j ∈ xs.take k
  · rw [if_pos h, if_pos (this.2 h)]
  · rw [if_neg h, if_neg (fun h2 => h (this.1 h2))]
set_option maxRecDepth 20000 in
set_option maxHeartbeats 1000000 in
theorem check_in (cs xs : List Int) (sl : Value) (w : World) (hl : cs.length = 16) (hs : SL w 1 sl xs.length (ints xs)) (h : totOK cs xs = true) :
    Calls Tryz.prog 18 #[.agg (tblv cs sl)] w fun e w' => e = .returned (.int .i64 (checkZ cs xs)) ∧ Ext w w' := by
  have HT := hid_ (fun W => total_any cs sl W hl)
  have hlast := hid_ (fun W g (h : Blk W g 25 (tblv cs sl)) => tblv_last h hl)
  have hts := hid_ (tblv_size cs sl hl)
  have HRG := hid_ (fun W g (h : Blk W g 25 (tblv cs sl)) => tblv_range h)
  have hcl := hid_ ((ints_len cs).trans hl)
  have HIX := hid_ (fun k (hk : k < cs.length) (h16 : k < 16) => fun W => run_index16 (ints cs).toArray k (.int .i64 cs[k]) h16 (bv_at cs k hk) W)
  obtain ⟨q1, q2, q3⟩ := totOK_iff.1 h
  have HZ1 := hid_ (fun h2 => checkZ_arg h h2)
  have HZ2 := hid_ (fun h2 h3 => checkZ_dup h h2 h3)
  have HZ3 := hid_ (fun h2 h3 => checkZ_words h h2 h3)
  have HT1 : Hid (totalZ cs = ((xs.length : Int), true)) := hid_ (by unfold totalZ; rw [q1, q3]; simp; omega)
  rw [HT1.out] at HT
  have hlen : xs.length ≤ 256 := by omega
  have HAL := hid_ (allIn_iff.1 q1)
  have HL := hid_ hl
  have hneq : ((xs.length : Int) != (xs.length : Int)) = false := by simp
  have hmm := @run_makeMap Tryz.prog
  have hs' := hs
  obtain ⟨A, c, rfl, hc1, hc2, -, -⟩ := hs'
  generalize tblv cs (.slice A xs.length c) = tv at *
  clear h q1 q2 q3
  go_enter Tryz.func18, Tryz.ntmps18
  go_wp2_with (first
    | (refine wpList_box_abs rfl 25 (.tmp 0) rfl tv rfl ?_; intro w1 g hb1 hx1 hg)
    | (refine wpList_load_blk rfl 25 (.tmp 1) rfl _ rfl hb1 _ Tryz.underlying25 rfl 17 sizeTbl hts.out ?_)
    | (go_at_call 39; (with_reducible refine (HT.out _).mono ?_); rintro e w2 ⟨rfl, hx2⟩; have hc16 := hlast.out _ _ (hb1.ext hx2); have hc16b := hlast.out _ _ ((hb1.ext hx2).alloc (.map #[] 0))))
  have hb2 := hb1.ext hx2
  have hxm := hx1.trans hx2
  have hgm := hxm.size
  have hne := hb2.lt
  clear hmm hb1 hx1 hx2 hc16 hc16b
  go_loopw [6, 30] (fun tw i wr => ∃ (k : Nat) (tb : Bool), k ≤ xs.length ∧ i = .int .i64 (k : Int) ∧ tw = .bool tb ∧ tb = (!decide (xs.take k).Nodup) ∧ (∀ z ∈ xs.take k, 0 ≤ z ∧ z ≤ 255) ∧ MapI Tryz.prog 3 wr w2.heap.size k (seenF (xs.take k)) ∧ Blk wr g 25 tv ∧ Ext w wr) (fun _ i _ => xs.length - (intOf i).toNat)
  case atStart => exact ⟨0, false, by omega, rfl, rfl, by simp, by simp, MapG.made _, hb2.alloc _, hxm.alloc _⟩
  case round =>
    clear hb2 hxm
    obtain ⟨k, tb, hk, rfl, rfl, htb, hin, hm, hb, hx⟩ := hrel
    have HTB := hid_ htb
    have HIN := hid_ hin
    clear htb hin
    by_cases hlt : k < xs.length
    · obtain ⟨ad, u, rfl, -, hxk, hcell⟩ := (hs.ext hx).at1 hlt
      obtain ⟨hkl, rfl⟩ := ints_at _ _ _ hxk
      clear hxk
      cases hq : inB xs[k] 0 255 with
      | true =>
        obtain ⟨q1, q2⟩ := inB_iff.1 hq
        have h0' : decide (xs[k] < 0) = false := by simpa using q1
        have h1' : decide (256 ≤ xs[k]) = false := by simp; omega
        have HN := hid_ (allIn_take HIN.out hkl ⟨q1, q2⟩)
        have HND := hid_ (nodup_take_succ hkl)
        have HU := hid_ (seenF_upd xs k hkl)
        have HO := hid_ (seenF_other xs k hkl)
        have HLK := hid_ (seenF_look (xs.take k) xs[k])
        have hkey := hid_ (keyOf_i64 (P := Tryz.prog) Tryz.underlying3 (a := xs[k]) (by omega) (by omega))
        generalize xs[k] = x at *
        clear hq
        cases tb with
        | true =>
          go_wp2_with (at_mapUpdate; refine wpList_upd_g (by rfl) _ _ _ 87 4 rfl keyed_int Tryz.underlying87 rfl hm (by omega) _ rfl _ rfl x hkey.out (seenF (xs.take (k + 1))) HU.out (fun j _ hj => HO.out j (fun e => hj (by rw [e]))) (fun j _ hj => by injection hj) ?_; intro w7 hm7 hg7)
          go_roundw
          case rel =>
            exact ⟨k + 1, true, by omega, by go_num, rfl, by have h1 := HTB.out; have h2 := HND.out; simp at h1 ⊢; rw [h2]; simp [h1], HN.out, hm7, hb.grown hg7 (by simp; omega), ext_grown_new hx hg7 (by omega)⟩
          case measure => simp [intOf]; omega
        | false =>
          go_wp2_with (first
            | (at_lookup; refine wpList_look_g (by rfl) _ _ 87 4 rfl keyed_int Tryz.underlying87 _ (zero_bool _) rfl hm _ rfl x trivial hkey.out _ HLK.out ?_)
            | (at_mapUpdate; refine wpList_upd_g (by rfl) _ _ _ 87 4 rfl keyed_int Tryz.underlying87 rfl hm (by omega) _ rfl _ rfl x hkey.out (seenF (xs.take (k + 1))) HU.out (fun j _ hj => HO.out j (fun e => hj (by rw [e]))) (fun j _ hj => by injection hj) ?_; intro w7 hm7 hg7))
          go_roundw
          case rel =>
            exact ⟨k + 1, decide (x ∈ xs.take k), by omega, by go_num, rfl, by have h1 := HTB.out; have h2 := HND.out; simp at h1; by_cases hm : x ∈ xs.take k <;> simp [h2, h1, hm], HN.out, hm7, hb.grown hg7 (by simp; omega), ext_grown_new hx hg7 (by omega)⟩
          case measure => simp [intOf]; omega
      | false =>
        have HF := hid_ (HZ1.out (allIn_no hkl hq))
        rcases Int.lt_or_le xs[k] 0 with h0 | h0
        · have h0' : decide (xs[k] < 0) = true := by simpa using h0
          clear hq
          go_wp2_with fail
          go_ret
          exact ⟨by rw [HF.out]; rfl, hx⟩
        · have h0' : decide (xs[k] < 0) = false := by simpa using h0
          have h1' : decide (256 ≤ xs[k]) = true := by have := inB_not.1 hq; simp; omega
          clear hq
          go_wp2_with fail
          go_ret
          exact ⟨by rw [HF.out]; rfl, hx⟩
    · have hkx : k = xs.length := by omega
      have e1 : xs.take k = xs := List.take_of_length_le (by omega)
      rw [e1] at HTB HIN
      have HA := hid_ (allIn_iff.2 HIN.out)
      clear e1 hm
      go_wp2_with (refine wpList_load_mid rfl 22 (.tmp 49) rfl g 0 rfl (ints cs) _ (HRG.out _ _ hb) Tryz.underlying22 rfl (by rw [hcl.out]; exact size16) ?_)
      go_loop [9, 51] (fun nx i => ∃ k : Nat, k ≤ 16 ∧ i = .int .i64 (k : Int) ∧ nx = .int .i64 (nextW cs k : Nat) ∧ nextW cs k + 1 ≤ 2 ^ k ∧ (∀ j, j < k → nextW cs (j + 1) + 1 ≤ 2 ^ (j + 1)) ∧ (0 < k → tb = false)) (fun _ i => 16 - (intOf i).toNat)
      case atStart => exact ⟨0, by omega, rfl, rfl, by simp [nextW], by intro j hj; omega, by omega⟩
      case round =>
        obtain ⟨k, hk, rfl, rfl, hnx, hall, htw⟩ := hrel
        have HALL := hid_ hall
        have HTW := hid_ htw
        clear hall htw
        by_cases hlt2 : k < 16
        · have hkl : k < cs.length := by have := HL.out; omega
          have hix := HIX.out k hkl hlt2
          obtain ⟨q1, q2⟩ := HAL.out _ (List.getElem_mem hkl)
          obtain ⟨n, hn⟩ : ∃ n : Nat, cs[k] = (n : Int) := ⟨cs[k].toNat, by omega⟩
          have HNW := hid_ (nextW_succ cs k n hkl hn)
          have HNO := hid_ (fun h => okW_no (cs := cs) hlt2 h)
          rw [hn] at hix q1 q2
          have hp : (2 : Nat) ^ k ≤ 65536 := by have := Nat.pow_le_pow_right (n := 2) (by omega) (show k ≤ 16 by omega); simpa using this
          have HP : Hid (2 ^ (k + 1) = 2 * 2 ^ k) := hid_ (by rw [Nat.pow_succ]; omega)
          rw [HNW.out, HP.out] at HNO
          have hp1 : (1 : Int) ≤ 2 ^ (k + 1) := pow_pos' (k + 1)
          have hp2 : (2 : Int) ^ (k + 1) ≤ 131072 := by have := pow_le (k + 1) 17 (by omega); simpa using this
          have HPI : Hid ((2 : Int) ^ (k + 1) = ((2 * 2 ^ k : Nat) : Int)) := hid_ (by rw [← HP.out]; simp)
          clear hn
          cases tb with
          | true =>
            have HF := hid_ (HZ2.out HA.out (by have := HTB.out; simpa using this))
            go_wp2_with fail
            go_ret
            exact ⟨by rw [HF.out]; rfl, hx⟩
          | false =>
            generalize nextW cs k = N at *
            by_cases hbad : 2 * N + n + 1 ≤ 2 * 2 ^ k
            · have hd : decide ((2 : Int) ^ (k + 1) - 1 < (N : Int) * 2 + (n : Int)) = false := by have := HPI.out; simp; omega
              go_wp2_with fail
              go_round
              case rel =>
                refine ⟨k + 1, by omega, by go_num, by rw [HNW.out]; congr 1; omega, by rw [HNW.out, HP.out]; omega, ?_, by simp⟩
                intro i hi
                by_cases hik : i = k
                · subst hik; rw [HNW.out, HP.out]; omega
                · exact HALL.out i (by omega)
              case measure => simp [intOf]; omega
            · have hd : decide ((2 : Int) ^ (k + 1) - 1 < (N : Int) * 2 + (n : Int)) = true := by have := HPI.out; simp; omega
              have HF := hid_ (HZ3.out HA.out (by have := HTB.out; simpa using this))
              have HNO' := hid_ (HNO.out (by omega))
              go_wp2_with fail
              go_ret
              exact ⟨by rw [HF.out, HNO'.out]; rfl, hx⟩
        · obtain rfl : k = 16 := by omega
          obtain rfl := HTW.out (by omega)
          have HF := hid_ (HZ3.out HA.out (by have := HTB.out; simpa using this))
          have HOK := hid_ (okW_yes HALL.out)
          go_wp2_with fail
          go_ret
          exact ⟨by rw [HF.out, HOK.out]; rfl, hx⟩
theorem check_any (cs xs : List Int) (sl : Value) (w : World) (hl : cs.length = 16) (hs : SL w 1 sl xs.length (ints xs)) :
    Calls Tryz.prog 18 #[.agg (tblv cs sl)] w fun e w' => e = .returned (.int .i64 (checkZ cs xs)) ∧ Ext w w' := by
  cases h : totOK cs xs with
  | true => exact check_in cs xs sl w hl hs h
  | false => rw [checkZ_tot h]; exact check_tot cs xs sl w hl hs h
end Go.Proofs.YtgmddhljgfbibaaGreatDoor
/- table.words, table.Words. -/
namespace Go.Proofs.YtgmddhljgfbibaaGreatDoor
set_option linter.unusedVariables false
set_option linter.unusedSimpArgs false
open Go.RowKit
set_option maxRecDepth 20000 in
set_option maxHeartbeats 1000000 in
theorem words_any (cs xs : List Int) (sl : Value) (w : World) (hl : cs.length = 16) (hs : SL w 1 sl xs.length (ints xs)) (hal : allIn cs 0 256 = true) (hok : okW cs = true) (hsum : sumL cs 16 = xs.length) (hx256 : xs.length ≤ 256) :
    Calls Tryz.prog 69 #[.agg (tblv cs sl)] w fun e w' => ∃ A c, e = .returned (.slice A xs.length c) ∧ SL w' 3 (.slice A xs.length c) xs.length (toks (zipC (codesW cs 16) xs)) ∧ (∀ ad, A = some ad → w.heap.size ≤ ad.block) ∧ Ext w w' := by
  have hlast := hid_ (fun W g (h : Blk W g 25 (tblv cs sl)) => tblv_last h hl)
  have HRG := hid_ (fun W g (h : Blk W g 25 (tblv cs sl)) => tblv_range h)
  have hcl := hid_ ((ints_len cs).trans hl)
  have HIX := hid_ (fun k (hk : k < cs.length) (h16 : k < 16) => fun W => run_index16 (ints cs).toArray k (.int .i64 cs[k]) h16 (bv_at cs k hk) W)
  have HAL := hid_ (allIn_iff.1 hal)
  have HL := hid_ hl
  have HLEN : Hid ((codesW cs 16).length = xs.length) := hid_ (by have := codesW_len cs (fun z hz => (HAL.out z hz).1) 16 (by omega); omega)
  have HOKS := hid_ (fun k (hk : k < 16) => by simpa using List.all_eq_true.1 hok k (List.mem_range.2 hk))
  have hs' := hs
  obtain ⟨A, c, rfl, hc1, hc2, -, -⟩ := hs'
  generalize tblv cs (.slice A xs.length c) = tv at *
  clear hal hok hsum
  go_enter Tryz.func69, Tryz.ntmps69
  go_wp2_with (first
    | (refine wpList_box_abs rfl 25 (.tmp 0) rfl tv rfl ?_; intro w1 g hb1 hx1 hg)
    | (refine wpList_load_mid rfl 22 (.tmp 7) rfl g 0 rfl (ints cs) _ (HRG.out _ _ hb1) Tryz.underlying22 rfl (by rw [hcl.out]; exact size16) ?_))
  have hs1 := hs.ext hx1
  have hgw := hb1.lt
  have hsz1 := hx1.size
  go_loopw [3, 4, 9] (fun v nx i wr => ∃ k : Nat, k ≤ 16 ∧ i = .int .i64 (k : Int) ∧ nx = .int .i64 (nextW cs k : Nat) ∧ nextW cs k + 1 ≤ 2 ^ k ∧ OwnV wr w1.heap.size 133 3 v (codesW cs k).length (toks (zipC (codesW cs k) xs)) ∧ Ext w1 wr) (fun _ _ i _ => 16 - (intOf i).toNat)
  case atStart => exact ⟨0, by omega, rfl, rfl, by simp [nextW], by rw [codesW_zero]; exact OwnV.nil _ _ _ _, Ext.refl _⟩
  case round =>
    obtain ⟨k, hk, rfl, rfl, hnx, ⟨B0, d0, rfl, hown⟩, hx⟩ := hrel
    by_cases hlt : k < 16
    · have hsd : decide ((k : Int) < 16) = true := by simp; omega
      have hkl : k < cs.length := by have := HL.out; omega
      have hix := HIX.out k hkl hlt
      obtain ⟨q1, q2⟩ := HAL.out _ (List.getElem_mem hkl)
      obtain ⟨n, hn⟩ : ∃ n : Nat, cs[k] = (n : Int) := ⟨cs[k].toNat, by omega⟩
      have HNW := hid_ (nextW_succ cs k n hkl hn)
      have HCW := hid_ (codesW_step cs k n hkl hn)
      have HOK := hid_ (HOKS.out k hlt)
      have HMO := hid_ (codesW_mono cs (k + 1) 16 (by omega))
      rw [hn] at hix q1 q2
      have hp : (2 : Nat) ^ k ≤ 65536 := by have := Nat.pow_le_pow_right (n := 2) (by omega) hk; simpa using this
      have HP : Hid (2 ^ (k + 1) = 2 * 2 ^ k) := hid_ (by rw [Nat.pow_succ]; omega)
      have HRS := hid_ (rowC_succ cs k)
      have HR0 : Hid (rowC cs k 0 = []) := hid_ rfl
      have HRL := hid_ (rowC_len cs k)
      have hbound : (codesW cs k).length + n ≤ xs.length := by have h1 := HMO.out; have h2 := HLEN.out; rw [HCW.out, List.length_append, HRL.out] at h1; omega
      generalize nextW cs k = N at *
      generalize (2 : Nat) ^ k = Pw at *
      clear hn hkl
      generalize codesW cs k = C at *
      have HC0 : Hid (zipC (C ++ rowC cs k 0) xs = zipC C xs) := hid_ (by rw [HR0.out, List.append_nil])
      go_wp2_with fail
      go_loopw [3, 4, 16] (fun v nx i wr => ∃ j : Nat, j ≤ n ∧ i = .int .i64 (j : Int) ∧ nx = .int .i64 ((2 * N + j : Nat) : Int) ∧ OwnV wr w1.heap.size 133 3 v (C.length + j) (toks (zipC (C ++ rowC cs k j) xs)) ∧ Ext w1 wr) (fun _ _ i _ => n - (intOf i).toNat)
      case atStart => exact ⟨0, by omega, rfl, vint (by omega), by rw [HC0.out]; exact OwnV.mk hown, hx⟩
      case round =>
        clear hown hx
        obtain ⟨j, hj, rfl, rfl, ⟨B, d, rfl, hown⟩, hx⟩ := hrel
        have hclen : (C ++ rowC cs k j).length = C.length + j := by rw [List.length_append, HRL.out]
        have hzl : (zipC (C ++ rowC cs k j) xs).length = C.length + j := by rw [zipC_len _ _ (by omega), hclen]
        have hcz := hid_ hclen
        have HZL := hid_ hzl
        clear hclen
        by_cases hlj : j < n
        · have hix2 : C.length + j < xs.length := by omega
          have HZS : Hid (zipC (C ++ rowC cs k (j + 1)) xs = zipC (C ++ rowC cs k j) xs ++ [(xs[C.length + j], ((k + 1 : Nat) : Int), ((2 * N + j : Nat) : Int))]) := hid_ (by
            rw [HRS.out j, ← List.append_assoc, zipC_snoc _ _ _ (by rw [hcz.out]; exact hix2)]
            simp only [hcz.out])
          obtain ⟨ad, u, hA, -, hxk, hcell⟩ := (hs1.ext hx).at1 hix2
          obtain ⟨hkl2, rfl⟩ := ints_at _ _ _ hxk
          subst hA
          have hc16 := hlast.out _ _ (hb1.ext hx)
          generalize xs[C.length + j] = x at *
          generalize zipC (C ++ rowC cs k j) xs = T at *
          generalize hM : C.length + j = M at *
          have hM256 : M < 256 := by omega
          have HM := hid_ hM
          clear hxk hM hzl
          go_wp2_with (at_builtin; go_must (refine wpList_append_sl elt_word rfl _ _ rfl w1.heap.size _ _ _ rfl (hown.alloc _) _ 1 [.int .i64 _, .int .i64 _, .int .i64 _] rfl (one_sl3' _ _ _ _ _) (int3_one _ _ _) (by omega) (by omega) (by have := hx.size; simp; omega) ?_); intro v' w7 hown7 hb7)
          go_roundw
          case rel =>
            refine ⟨j + 1, by omega, by go_num, vint (by omega), ?_, (hx.alloc _).trans' hb7⟩
            rw [HZS.out]
            have := own_tok3 (T := T) (by rw [HZL.out]; exact hown7)
            rw [List.length_append, HZL.out, ← HM.out] at this
            simpa [Nat.add_assoc] using OwnV.mk this
          case measure => simp [intOf]; omega
        · obtain rfl : j = n := by omega
          clear hzl
          go_wp2_with fail
          go_roundw
          case rel => exact ⟨k + 1, by omega, by go_num, by rw [HNW.out], by rw [HNW.out, HP.out]; have := HOK.out; rw [HNW.out, HP.out] at this; omega, by rw [HCW.out, hcz.out]; exact OwnV.mk hown, hx⟩
          case measure => simp [intOf]; omega
    · have ek : k = 16 := by omega
      rw [ek] at hown ⊢
      rw [HLEN.out] at hown ⊢
      go_wp2_with fail
      go_ret
      obtain ⟨hsl, hfs⟩ := own_out hown
      exact ⟨B0, d0, rfl, hsl, fun ad h => by have := hfs ad h; omega, hx1.trans hx⟩
theorem checkZ_zero {cs xs : List Int} (h : checkZ cs xs = 0) : allIn cs 0 256 = true ∧ sumL cs 16 = xs.length ∧ xs.length ≤ 256 ∧ okW cs = true ∧ allIn xs 0 255 = true ∧ xs.Nodup := by
  unfold checkZ at h
  split at h
  · next h1 =>
    obtain ⟨q1, q2, q3⟩ := totOK_iff.1 h1
    split at h
    · next h2 =>
      split at h
      · next h3 =>
        simp only [Bool.and_eq_true, decide_eq_true_eq] at h3
        exact ⟨q1, q3, by omega, h3.2, h2, h3.1⟩
      · cases h
    · cases h
  · cases h
end Go.Proofs.YtgmddhljgfbibaaGreatDoor
