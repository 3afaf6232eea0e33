/- Contracts for the law ScanEncodesCard, part 11: what the functions that it reaches answer, for all arguments that the theorems name. -/
import Derived.Test.YtgmddhljgfbibaaDoorMScanEncodesCard10
import Derived.Test.YtgmddhljgfbibaaDoorMScanEncodesCard9
import Derived.Outline
import Derived.Test.YtgmddhljgfbibaaDoorMScanEncodesCard1
import Derived.Test.YtgmddhljgfbibaaDoorMScanEncodesCard5
/- table.Check. -/
namespace Go.Proofs.YtgmddhljgfbibaaDoor
set_option linter.unusedVariables false
set_option linter.unusedSimpArgs false
open Go.RowKit Go.Maps
theorem keyed_int : Keyed Tryd.prog 3 := int_keyed Tryd.underlying3
theorem zero_bool (w : World) : (zeroValue 4).run Tryd.prog w = .ok (.bool false) w := by kernel_rfl
/-- the set of the first numbers of a list -/
def seenF (l : List Int) (x : Int) : Option Value := if x ∈ l then some (.bool true) else none
theorem seenF_look (l : List Int) (x : Int) : (seenF l x).getD (.bool false) = .bool (decide (x ∈ l)) := by
  unfold seenF; by_cases h : x ∈ l <;> simp [h]
/-- what Check needs of its table -/
theorem check_tot (cs xs : List Int) (sl : Value) (w : World) (hl : cs.length = 16) (hs : SL w 1 sl xs.length (ints xs)) (h : totOK cs xs = false) :
    Calls Tryd.prog 48 #[.agg (tblv cs sl)] w fun e w' => e = .returned (.int .i64 4) ∧ Ext w w' := by
  have HT := hid_ (fun W => total_any cs sl W hl)
  have hlast := hid_ (fun W g (h : Blk W g 32 (tblv cs sl)) => tblv_last h hl)
  have hts := hid_ (tblv_size cs sl hl)
  have hq : (totalZ cs).2 = false ∨ ((totalZ cs).2 = true ∧ ((totalZ cs).1 != (xs.length : Int)) = true) := by
    unfold totOK at h
    unfold totalZ
    cases h1 : allIn cs 0 256 with
    | false => left; simp
    | true =>
      rw [h1] at h
      simp only [if_true]
      by_cases h2 : sumL cs 16 ≤ 256
      · right
        simp [h2] at h ⊢
        exact h
      · left; simpa using h2
  generalize totalZ cs = tz at *
  obtain ⟨all, is⟩ := tz
  generalize tblv cs sl = tv at *
  obtain ⟨A, c, rfl, hc1, hc2, -, -⟩ := hs
  rcases hq with hq | ⟨hq, hq2⟩
  · simp only at hq
    subst hq
    go_enter Tryd.func48, Tryd.ntmps48
    go_wp2_with (first
      | (refine wpList_box_abs rfl 32 (.tmp 0) rfl tv rfl ?_; intro w1 g hb1 hx1 hg)
      | (refine wpList_load_blk rfl 32 (.tmp 1) rfl _ rfl hb1 _ Tryd.underlying32 rfl 17 sizeTbl hts.out ?_)
      | (go_at_call 73; (with_reducible refine (HT.out _).mono ?_); rintro e w2 ⟨rfl, hx2⟩))
    go_ret
    exact ⟨rfl, hx1.trans hx2⟩
  · simp only at hq hq2
    subst hq
    go_enter Tryd.func48, Tryd.ntmps48
    go_wp2_with (first
      | (refine wpList_box_abs rfl 32 (.tmp 0) rfl tv rfl ?_; intro w1 g hb1 hx1 hg)
      | (refine wpList_load_blk rfl 32 (.tmp 1) rfl _ rfl hb1 _ Tryd.underlying32 rfl 17 sizeTbl hts.out ?_)
      | (go_at_call 73; (with_reducible refine (HT.out _).mono ?_); rintro e w2 ⟨rfl, hx2⟩; have hc16 := hlast.out _ _ (hb1.ext hx2)))
    go_ret
    exact ⟨rfl, hx1.trans hx2⟩
theorem seenF_upd (xs : List Int) (k : Nat) (hk : k < xs.length) : seenF (xs.take (k + 1)) xs[k] = some (.bool true) := by
  unfold seenF
  rw [if_pos (by rw [List.take_succ_eq_append_getElem hk]; exact List.mem_append_right _ (by simp))]
theorem seenF_other (xs : List Int) (k : Nat) (hk : k < xs.length) (j : Int) (hj : j ≠ xs[k]) : seenF (xs.take (k + 1)) j = seenF (xs.take k) j := by
  unfold seenF
  have : j ∈ xs.take (k + 1) ↔ j ∈ xs.take k := by rw [List.take_succ_eq_append_getElem hk, List.mem_append]; simp [hj]
  by_cases h : j ∈ xs.take k
  · rw [if_pos h, if_pos (this.2 h)]
  · rw [if_neg h, if_neg (fun h2 => h (this.1 h2))]
set_option maxRecDepth 20000 in
set_option maxHeartbeats 1000000 in
theorem check_in (cs xs : List Int) (sl : Value) (w : World) (hl : cs.length = 16) (hs : SL w 1 sl xs.length (ints xs)) (h : totOK cs xs = true) :
    Calls Tryd.prog 48 #[.agg (tblv cs sl)] w fun e w' => e = .returned (.int .i64 (checkZ cs xs)) ∧ Ext w w' := by
  have HT := hid_ (fun W => total_any cs sl W hl)
  have hlast := hid_ (fun W g (h : Blk W g 32 (tblv cs sl)) => tblv_last h hl)
  have hts := hid_ (tblv_size cs sl hl)
  have HRG := hid_ (fun W g (h : Blk W g 32 (tblv cs sl)) => tblv_range h)
  have hcl := hid_ ((ints_len cs).trans hl)
  have HIX := hid_ (fun k (hk : k < cs.length) (h16 : k < 16) => fun W => run_index16 (ints cs).toArray k (.int .i64 cs[k]) h16 (bv_at cs k hk) W)
  obtain ⟨q1, q2, q3⟩ := totOK_iff.1 h
  have HZ1 := hid_ (fun h2 => checkZ_arg h h2)
  have HZ2 := hid_ (fun h2 h3 => checkZ_dup h h2 h3)
  have HZ3 := hid_ (fun h2 h3 => checkZ_words h h2 h3)
  have HT1 : Hid (totalZ cs = ((xs.length : Int), true)) := hid_ (by unfold totalZ; rw [q1, q3]; simp; omega)
  rw [HT1.out] at HT
  have hlen : xs.length ≤ 256 := by omega
  have HAL := hid_ (allIn_iff.1 q1)
  have HL := hid_ hl
  have hneq : ((xs.length : Int) != (xs.length : Int)) = false := by simp
  have hmm := @run_makeMap Tryd.prog
  have hs' := hs
  obtain ⟨A, c, rfl, hc1, hc2, -, -⟩ := hs'
  generalize tblv cs (.slice A xs.length c) = tv at *
  clear h q1 q2 q3
  go_enter Tryd.func48, Tryd.ntmps48
  go_wp2_with (first
    | (refine wpList_box_abs rfl 32 (.tmp 0) rfl tv rfl ?_; intro w1 g hb1 hx1 hg)
    | (refine wpList_load_blk rfl 32 (.tmp 1) rfl _ rfl hb1 _ Tryd.underlying32 rfl 17 sizeTbl hts.out ?_)
    | (go_at_call 73; (with_reducible refine (HT.out _).mono ?_); rintro e w2 ⟨rfl, hx2⟩; have hc16 := hlast.out _ _ (hb1.ext hx2); have hc16b := hlast.out _ _ ((hb1.ext hx2).alloc (.map #[] 0))))
  have hb2 := hb1.ext hx2
  have hxm := hx1.trans hx2
  have hgm := hxm.size
  have hne := hb2.lt
  clear hmm hb1 hx1 hx2 hc16 hc16b
  go_loopw [6, 30] (fun tw i wr => ∃ (k : Nat) (tb : Bool), k ≤ xs.length ∧ i = .int .i64 (k : Int) ∧ tw = .bool tb ∧ tb = (!decide (xs.take k).Nodup) ∧ (∀ z ∈ xs.take k, 0 ≤ z ∧ z ≤ 255) ∧ MapI Tryd.prog 3 wr w2.heap.size k (seenF (xs.take k)) ∧ Blk wr g 32 tv ∧ Ext w wr) (fun _ i _ => xs.length - (intOf i).toNat)
  case atStart => exact ⟨0, false, by omega, rfl, rfl, by simp, by simp, MapG.made _, hb2.alloc _, hxm.alloc _⟩
  case round =>
    clear hb2 hxm
    obtain ⟨k, tb, hk, rfl, rfl, htb, hin, hm, hb, hx⟩ := hrel
    have HTB := hid_ htb
    have HIN := hid_ hin
    clear htb hin
    by_cases hlt : k < xs.length
    · obtain ⟨ad, u, rfl, -, hxk, hcell⟩ := (hs.ext hx).at1 hlt
      obtain ⟨hkl, rfl⟩ := ints_at _ _ _ hxk
      clear hxk
      cases hq : inB xs[k] 0 255 with
      | true =>
        obtain ⟨q1, q2⟩ := inB_iff.1 hq
        have h0' : decide (xs[k] < 0) = false := by simpa using q1
        have h1' : decide (256 ≤ xs[k]) = false := by simp; omega
        have HN := hid_ (allIn_take HIN.out hkl ⟨q1, q2⟩)
        have HND := hid_ (nodup_take_succ hkl)
        have HU := hid_ (seenF_upd xs k hkl)
        have HO := hid_ (seenF_other xs k hkl)
        have HLK := hid_ (seenF_look (xs.take k) xs[k])
        have hkey := hid_ (keyOf_i64 (P := Tryd.prog) Tryd.underlying3 (a := xs[k]) (by omega) (by omega))
        generalize xs[k] = x at *
        clear hq
        cases tb with
        | true =>
          go_wp2_with (at_mapUpdate; refine wpList_upd_g (by rfl) _ _ _ 144 4 rfl keyed_int Tryd.underlying144 rfl hm (by omega) _ rfl _ rfl x hkey.out (seenF (xs.take (k + 1))) HU.out (fun j _ hj => HO.out j (fun e => hj (by rw [e]))) (fun j _ hj => by injection hj) ?_; intro w7 hm7 hg7)
          go_roundw
          case rel =>
            exact ⟨k + 1, true, by omega, by go_num, rfl, by have h1 := HTB.out; have h2 := HND.out; simp at h1 ⊢; rw [h2]; simp [h1], HN.out, hm7, hb.grown hg7 (by simp; omega), ext_grown_new hx hg7 (by omega)⟩
          case measure => simp [intOf]; omega
        | false =>
          go_wp2_with (first
            | (at_lookup; refine wpList_look_g (by rfl) _ _ 144 4 rfl keyed_int Tryd.underlying144 _ (zero_bool _) rfl hm _ rfl x trivial hkey.out _ HLK.out ?_)
            | (at_mapUpdate; refine wpList_upd_g (by rfl) _ _ _ 144 4 rfl keyed_int Tryd.underlying144 rfl hm (by omega) _ rfl _ rfl x hkey.out (seenF (xs.take (k + 1))) HU.out (fun j _ hj => HO.out j (fun e => hj (by rw [e]))) (fun j _ hj => by injection hj) ?_; intro w7 hm7 hg7))
          go_roundw
          case rel =>
            exact ⟨k + 1, decide (x ∈ xs.take k), by omega, by go_num, rfl, by have h1 := HTB.out; have h2 := HND.out; simp at h1; by_cases hm : x ∈ xs.take k <;> simp [h2, h1, hm], HN.out, hm7, hb.grown hg7 (by simp; omega), ext_grown_new hx hg7 (by omega)⟩
          case measure => simp [intOf]; omega
      | false =>
        have HF := hid_ (HZ1.out (allIn_no hkl hq))
        rcases Int.lt_or_le xs[k] 0 with h0 | h0
        · have h0' : decide (xs[k] < 0) = true := by simpa using h0
          clear hq
          go_wp2_with fail
          go_ret
          exact ⟨by rw [HF.out]; rfl, hx⟩
        · have h0' : decide (xs[k] < 0) = false := by simpa using h0
          have h1' : decide (256 ≤ xs[k]) = true := by have := inB_not.1 hq; simp; omega
          clear hq
          go_wp2_with fail
          go_ret
          exact ⟨by rw [HF.out]; rfl, hx⟩
    · have hkx : k = xs.length := by omega
      have e1 : xs.take k = xs := List.take_of_length_le (by omega)
      rw [e1] at HTB HIN
      have HA := hid_ (allIn_iff.2 HIN.out)
      clear e1 hm
      go_wp2_with (refine wpList_load_mid rfl 29 (.tmp 49) rfl g 0 rfl (ints cs) _ (HRG.out _ _ hb) Tryd.underlying29 rfl (by rw [hcl.out]; exact size16) ?_)
      go_loop [9, 51] (fun nx i => ∃ k : Nat, k ≤ 16 ∧ i = .int .i64 (k : Int) ∧ nx = .int .i64 (nextW cs k : Nat) ∧ nextW cs k + 1 ≤ 2 ^ k ∧ (∀ j, j < k → nextW cs (j + 1) + 1 ≤ 2 ^ (j + 1)) ∧ (0 < k → tb = false)) (fun _ i => 16 - (intOf i).toNat)
      case atStart => exact ⟨0, by omega, rfl, rfl, by simp [nextW], by intro j hj; omega, by omega⟩
      case round =>
        obtain ⟨k, hk, rfl, rfl, hnx, hall, htw⟩ := hrel
        have HALL := hid_ hall
        have HTW := hid_ htw
        clear hall htw
        by_cases hlt2 : k < 16
        · have hkl : k < cs.length := by have := HL.out; omega
          have hix := HIX.out k hkl hlt2
          obtain ⟨q1, q2⟩ := HAL.out _ (List.getElem_mem hkl)
          obtain ⟨n, hn⟩ : ∃ n : Nat, cs[k] = (n : Int) := ⟨cs[k].toNat, by omega⟩
          have HNW := hid_ (nextW_succ cs k n hkl hn)
          have HNO := hid_ (fun h => okW_no (cs := cs) hlt2 h)
          rw [hn] at hix q1 q2
          have hp : (2 : Nat) ^ k ≤ 65536 := by have := Nat.pow_le_pow_right (n := 2) (by omega) (show k ≤ 16 by omega); simpa using this
          have HP : Hid (2 ^ (k + 1) = 2 * 2 ^ k) := hid_ (by rw [Nat.pow_succ]; omega)
          rw [HNW.out, HP.out] at HNO
          have hp1 : (1 : Int) ≤ 2 ^ (k + 1) := pow_pos' (k + 1)
          have hp2 : (2 : Int) ^ (k + 1) ≤ 131072 := by have := pow_le (k + 1) 17 (by omega); simpa using this
          have HPI : Hid ((2 : Int) ^ (k + 1) = ((2 * 2 ^ k : Nat) : Int)) := hid_ (by rw [← HP.out]; simp)
          clear hn
          cases tb with
          | true =>
            have HF := hid_ (HZ2.out HA.out (by have := HTB.out; simpa using this))
            go_wp2_with fail
            go_ret
            exact ⟨by rw [HF.out]; rfl, hx⟩
          | false =>
            generalize nextW cs k = N at *
            by_cases hbad : 2 * N + n + 1 ≤ 2 * 2 ^ k
            · have hd : decide ((2 : Int) ^ (k + 1) - 1 < (N : Int) * 2 + (n : Int)) = false := by have := HPI.out; simp; omega
              go_wp2_with fail
              go_round
              case rel =>
                refine ⟨k + 1, by omega, by go_num, by rw [HNW.out]; congr 1; omega, by rw [HNW.out, HP.out]; omega, ?_, by simp⟩
                intro i hi
                by_cases hik : i = k
                · subst hik; rw [HNW.out, HP.out]; omega
                · exact HALL.out i (by omega)
              case measure => simp [intOf]; omega
            · have hd : decide ((2 : Int) ^ (k + 1) - 1 < (N : Int) * 2 + (n : Int)) = true := by have := HPI.out; simp; omega
              have HF := hid_ (HZ3.out HA.out (by have := HTB.out; simpa using this))
              have HNO' := hid_ (HNO.out (by omega))
              go_wp2_with fail
              go_ret
              exact ⟨by rw [HF.out, HNO'.out]; rfl, hx⟩
        · obtain rfl : k = 16 := by omega
          obtain rfl := HTW.out (by omega)
          have HF := hid_ (HZ3.out HA.out (by have := HTB.out; simpa using this))
          have HOK := hid_ (okW_yes HALL.out)
          go_wp2_with fail
          go_ret
          exact ⟨by rw [HF.out, HOK.out]; rfl, hx⟩
theorem check_any (cs xs : List Int) (sl : Value) (w : World) (hl : cs.length = 16) (hs : SL w 1 sl xs.length (ints xs)) :
    Calls Tryd.prog 48 #[.agg (tblv cs sl)] w fun e w' => e = .returned (.int .i64 (checkZ cs xs)) ∧ Ext w w' := by
  cases h : totOK cs xs with
  | true => exact check_in cs xs sl w hl hs h
  | false => rw [checkZ_tot h]; exact check_tot cs xs sl w hl hs h
end Go.Proofs.YtgmddhljgfbibaaDoor
/- table.words, table.Words. -/
namespace Go.Proofs.YtgmddhljgfbibaaDoor
set_option linter.unusedVariables false
set_option linter.unusedSimpArgs false
open Go.RowKit
set_option maxRecDepth 20000 in
set_option maxHeartbeats 1000000 in
theorem words_any (cs xs : List Int) (sl : Value) (w : World) (hl : cs.length = 16) (hs : SL w 1 sl xs.length (ints xs)) (hal : allIn cs 0 256 = true) (hok : okW cs = true) (hsum : sumL cs 16 = xs.length) (hx256 : xs.length ≤ 256) :
    Calls Tryd.prog 78 #[.agg (tblv cs sl)] w fun e w' => ∃ A c, e = .returned (.slice A xs.length c) ∧ SL w' 3 (.slice A xs.length c) xs.length (toks (zipC (codesW cs 16) xs)) ∧ (∀ ad, A = some ad → w.heap.size ≤ ad.block) ∧ Ext w w' := by
  have hlast := hid_ (fun W g (h : Blk W g 32 (tblv cs sl)) => tblv_last h hl)
  have HRG := hid_ (fun W g (h : Blk W g 32 (tblv cs sl)) => tblv_range h)
  have hcl := hid_ ((ints_len cs).trans hl)
  have HIX := hid_ (fun k (hk : k < cs.length) (h16 : k < 16) => fun W => run_index16 (ints cs).toArray k (.int .i64 cs[k]) h16 (bv_at cs k hk) W)
  have HAL := hid_ (allIn_iff.1 hal)
  have HL := hid_ hl
  have HLEN : Hid ((codesW cs 16).length = xs.length) := hid_ (by have := codesW_len cs (fun z hz => (HAL.out z hz).1) 16 (by omega); omega)
  have HOKS := hid_ (fun k (hk : k < 16) => by simpa using List.all_eq_true.1 hok k (List.mem_range.2 hk))
  have hs' := hs
  obtain ⟨A, c, rfl, hc1, hc2, -, -⟩ := hs'
  generalize tblv cs (.slice A xs.length c) = tv at *
  clear hal hok hsum
  go_enter Tryd.func78, Tryd.ntmps78
  go_wp2_with (first
    | (refine wpList_box_abs rfl 32 (.tmp 0) rfl tv rfl ?_; intro w1 g hb1 hx1 hg)
    | (refine wpList_load_mid rfl 29 (.tmp 7) rfl g 0 rfl (ints cs) _ (HRG.out _ _ hb1) Tryd.underlying29 rfl (by rw [hcl.out]; exact size16) ?_))
  have hs1 := hs.ext hx1
  have hgw := hb1.lt
  have hsz1 := hx1.size
  go_loopw [3, 4, 9] (fun v nx i wr => ∃ k : Nat, k ≤ 16 ∧ i = .int .i64 (k : Int) ∧ nx = .int .i64 (nextW cs k : Nat) ∧ nextW cs k + 1 ≤ 2 ^ k ∧ OwnV wr w1.heap.size 117 3 v (codesW cs k).length (toks (zipC (codesW cs k) xs)) ∧ Ext w1 wr) (fun _ _ i _ => 16 - (intOf i).toNat)
  case atStart => exact ⟨0, by omega, rfl, rfl, by simp [nextW], by rw [codesW_zero]; exact OwnV.nil _ _ _ _, Ext.refl _⟩
  case round =>
    obtain ⟨k, hk, rfl, rfl, hnx, ⟨B0, d0, rfl, hown⟩, hx⟩ := hrel
    by_cases hlt : k < 16
    · have hsd : decide ((k : Int) < 16) = true := by simp; omega
      have hkl : k < cs.length := by have := HL.out; omega
      have hix := HIX.out k hkl hlt
      obtain ⟨q1, q2⟩ := HAL.out _ (List.getElem_mem hkl)
      obtain ⟨n, hn⟩ : ∃ n : Nat, cs[k] = (n : Int) := ⟨cs[k].toNat, by omega⟩
      have HNW := hid_ (nextW_succ cs k n hkl hn)
      have HCW := hid_ (codesW_step cs k n hkl hn)
      have HOK := hid_ (HOKS.out k hlt)
      have HMO := hid_ (codesW_mono cs (k + 1) 16 (by omega))
      rw [hn] at hix q1 q2
      have hp : (2 : Nat) ^ k ≤ 65536 := by have := Nat.pow_le_pow_right (n := 2) (by omega) hk; simpa using this
      have HP : Hid (2 ^ (k + 1) = 2 * 2 ^ k) := hid_ (by rw [Nat.pow_succ]; omega)
      have HRS := hid_ (rowC_succ cs k)
      have HR0 : Hid (rowC cs k 0 = []) := hid_ rfl
      have HRL := hid_ (rowC_len cs k)
      have hbound : (codesW cs k).length + n ≤ xs.length := by have h1 := HMO.out; have h2 := HLEN.out; rw [HCW.out, List.length_append, HRL.out] at h1; omega
      generalize nextW cs k = N at *
      generalize (2 : Nat) ^ k = Pw at *
      clear hn hkl
      generalize codesW cs k = C at *
      have HC0 : Hid (zipC (C ++ rowC cs k 0) xs = zipC C xs) := hid_ (by rw [HR0.out, List.append_nil])
      go_wp2_with fail
      go_loopw [3, 4, 16] (fun v nx i wr => ∃ j : Nat, j ≤ n ∧ i = .int .i64 (j : Int) ∧ nx = .int .i64 ((2 * N + j : Nat) : Int) ∧ OwnV wr w1.heap.size 117 3 v (C.length + j) (toks (zipC (C ++ rowC cs k j) xs)) ∧ Ext w1 wr) (fun _ _ i _ => n - (intOf i).toNat)
      case atStart => exact ⟨0, by omega, rfl, vint (by omega), by rw [HC0.out]; exact OwnV.mk hown, hx⟩
      case round =>
        clear hown hx
        obtain ⟨j, hj, rfl, rfl, ⟨B, d, rfl, hown⟩, hx⟩ := hrel
        have hclen : (C ++ rowC cs k j).length = C.length + j := by rw [List.length_append, HRL.out]
        have hzl : (zipC (C ++ rowC cs k j) xs).length = C.length + j := by rw [zipC_len _ _ (by omega), hclen]
        have hcz := hid_ hclen
        have HZL := hid_ hzl
        clear hclen
        by_cases hlj : j < n
        · have hix2 : C.length + j < xs.length := by omega
          have HZS : Hid (zipC (C ++ rowC cs k (j + 1)) xs = zipC (C ++ rowC cs k j) xs ++ [(xs[C.length + j], ((k + 1 : Nat) : Int), ((2 * N + j : Nat) : Int))]) := hid_ (by
            rw [HRS.out j, ← List.append_assoc, zipC_snoc _ _ _ (by rw [hcz.out]; exact hix2)]
            simp only [hcz.out])
          obtain ⟨ad, u, hA, -, hxk, hcell⟩ := (hs1.ext hx).at1 hix2
          obtain ⟨hkl2, rfl⟩ := ints_at _ _ _ hxk
          subst hA
          have hc16 := hlast.out _ _ (hb1.ext hx)
          generalize xs[C.length + j] = x at *
          generalize zipC (C ++ rowC cs k j) xs = T at *
          generalize hM : C.length + j = M at *
          have hM256 : M < 256 := by omega
          have HM := hid_ hM
          clear hxk hM hzl
          go_wp2_with (at_builtin; go_must (refine wpList_append_sl elt_word rfl _ _ rfl w1.heap.size _ _ _ rfl (hown.alloc _) _ 1 [.int .i64 _, .int .i64 _, .int .i64 _] rfl (one_sl3' _ _ _ _ _) (int3_one _ _ _) (by omega) (by omega) (by have := hx.size; simp; omega) ?_); intro v' w7 hown7 hb7)
          go_roundw
          case rel =>
            refine ⟨j + 1, by omega, by go_num, vint (by omega), ?_, (hx.alloc _).trans' hb7⟩
            rw [HZS.out]
            have := own_tok3 (T := T) (by rw [HZL.out]; exact hown7)
            rw [List.length_append, HZL.out, ← HM.out] at this
            simpa [Nat.add_assoc] using OwnV.mk this
          case measure => simp [intOf]; omega
        · obtain rfl : j = n := by omega
          clear hzl
          go_wp2_with fail
          go_roundw
          case rel => exact ⟨k + 1, by omega, by go_num, by rw [HNW.out], by rw [HNW.out, HP.out]; have := HOK.out; rw [HNW.out, HP.out] at this; omega, by rw [HCW.out, hcz.out]; exact OwnV.mk hown, hx⟩
          case measure => simp [intOf]; omega
    · have ek : k = 16 := by omega
      rw [ek] at hown ⊢
      rw [HLEN.out] at hown ⊢
      go_wp2_with fail
      go_ret
      obtain ⟨hsl, hfs⟩ := own_out hown
      exact ⟨B0, d0, rfl, hsl, fun ad h => by have := hfs ad h; omega, hx1.trans hx⟩
theorem checkZ_zero {cs xs : List Int} (h : checkZ cs xs = 0) : allIn cs 0 256 = true ∧ sumL cs 16 = xs.length ∧ xs.length ≤ 256 ∧ okW cs = true ∧ allIn xs 0 255 = true ∧ xs.Nodup := by
  unfold checkZ at h
  split at h
  · next h1 =>
    obtain ⟨q1, q2, q3⟩ := totOK_iff.1 h1
    split at h
    · next h2 =>
      split at h
      · next h3 =>
        simp only [Bool.and_eq_true, decide_eq_true_eq] at h3
        exact ⟨q1, q3, by omega, h3.2, h2, h3.1⟩
      · cases h
    · cases h
  · cases h
end Go.Proofs.YtgmddhljgfbibaaDoor
/- A region that draws its order, walked in an order of one's own: a head of operations in later worlds, then a tail that waits for all of them. -/
namespace Go.Proofs.YtgmddhljgfbibaaDoor
set_option linter.unusedVariables false
set_option linter.unusedSimpArgs false
open Go.RowKit
section
variable {P : Program} {ops : Array Oper} {md : Region.Mode} {R : World → World → Prop} {Q : Exit → Act → World → Prop}
def wpLxO (P : Program) (md : Region.Mode) (ops : Array Oper) (R : World → World → Prop) (Q : Exit → Act → World → Prop) : List Nat → Array Bool → Act → World → Prop
  | [], _, a, wc => ∀ w, R wc w → Q .normal a w
  | k :: rest, listed, a, wc => ∃ o, ops[k]? = some o ∧
    ((∃ v, YieldsR P ops R o v a wc ∧ wpLxO P md ops R Q rest (listed.setIfInBounds k true) (a.put o.dst v) wc) ∨
    (Region.ready md ops listed = [k] ∧ ∀ w, R wc w → wpOp P ops Q k (fun a' w' => R w w' ∧ wpLxO P md ops R Q rest (listed.setIfInBounds k true) a' w') a w))
def ordB (md : Region.Mode) (ops : Array Oper) (fin : Array Bool → Bool) : List Nat → Array Bool → Bool
  | [], listed => fin listed
  | k :: rest, listed => (Region.ready md ops listed).contains k && Region.free md ops listed k && ordB md ops fin rest (listed.setIfInBounds k true)
def seqO (md : Region.Mode) (ops : Array Oper) : List Nat → Array Bool → Bool
  | [], listed => (Region.ready md ops listed).isEmpty
  | k :: rest, listed => decide (Region.ready md ops listed = [k]) && seqO md ops rest (listed.setIfInBounds k true)
def sinkO (md : Region.Mode) (ops : Array Oper) (t0 : Nat) : List Nat → Bool
  | [] => true
  | i :: rest => (rest ++ [t0]).any (fun j => Region.waitsFor md ops j i) && sinkO md ops t0 rest
def chainO (md : Region.Mode) (ops : Array Oper) : List Nat → Bool
  | [] => true
  | [_] => true
  | a :: b :: rest => Region.waitsFor md ops b a && chainO md ops (b :: rest)
def headOf (ops : Array Oper) (tail : List Nat) (i : Nat) : Prop := i < ops.size ∧ i ∉ tail
structure InvO (md : Region.Mode) (ops : Array Oper) (tail : List Nat) (listed : Array Bool) : Prop where
  size : listed.size = ops.size
  closed : ∀ j oj, ops[j]? = some oj → listed.getD j false = true → ∀ e ∈ oj.after, Region.binds md e = true → listed.getD e.on false = true
  tail : ∀ t ∈ tail, listed.getD t true = false
theorem waits_not_ready {j i : Nat} {listed : Array Bool} (h : Region.waitsFor md ops j i = true) (hi : listed.getD i false = false) : j ∉ Region.ready md ops listed := by
  intro hr
  obtain ⟨_, oj, hj, hall⟩ := mem_ready.1 hr
  obtain ⟨oj', hj', e, he, hb, hon⟩ := Region.waitsFor_spec h
  have : oj' = oj := Option.some.inj (hj'.symm.trans hj)
  subst this
  have := hall e he hb
  rw [hon, hi] at this
  cases this
theorem tail_not_ready {listed : Array Bool} : ∀ (tail : List Nat), chainO md ops tail = true → (∀ t ∈ tail, listed.getD t true = false) → (∀ t0, tail.head? = some t0 → t0 ∉ Region.ready md ops listed) → ∀ t ∈ tail, t ∉ Region.ready md ops listed
  | [], _, _, _, t, ht => by cases ht
  | [a], _, _, h0, t, ht => by
    have : t = a := by simpa using ht
    subst this
    exact h0 _ rfl
  | a :: b :: rest, hc, hu, h0, t, ht => by
    simp only [chainO, Bool.and_eq_true] at hc
    rcases List.mem_cons.1 ht with rfl | ht
    · exact h0 _ rfl
    · exact tail_not_ready (b :: rest) hc.2 (fun t ht => hu t (by simp [ht])) (fun t0 h => by
        have : b = t0 := by simpa using h
        subst this
        exact waits_not_ready hc.1 (getD_both (hu a (by simp)))) t ht
theorem tail_waitsO {t0 : Nat} {tail : List Nat} {listed : Array Bool} (hc : chainO md ops (t0 :: tail) = true) (inv : InvO md ops (t0 :: tail) listed) (his : ∀ i oi, ops[i]? = some oi → i < ops.size) :
    ∀ (is : List Nat), sinkO md ops t0 is = true → (∃ i ∈ is, listed.getD i true = false) → ∀ t ∈ t0 :: tail, t ∉ Region.ready md ops listed
  | [], _, h, _, _ => by obtain ⟨i, hi, _⟩ := h; cases hi
  | i :: rest, hs, h, t, ht => by
    simp only [sinkO, Bool.and_eq_true] at hs
    by_cases hr : ∃ j ∈ rest, listed.getD j true = false
    · exact tail_waitsO hc inv his rest hs.2 hr t ht
    · have hi : listed.getD i true = false := by
        obtain ⟨j, hj, hl⟩ := h
        rcases List.mem_cons.1 hj with rfl | hj
        · exact hl
        · exact absurd ⟨j, hj, hl⟩ hr
      obtain ⟨j, hj, hw⟩ := List.any_eq_true.1 hs.1
      have h0 : t0 ∉ Region.ready md ops listed := by
        rcases List.mem_append.1 hj with hj | hj
        · -- j is listed: then i would be
          obtain ⟨oj, hoj, e, he, hb, hon⟩ := Region.waitsFor_spec hw
          have hjl : listed.getD j false = true := by
            have h1 : ¬ listed.getD j true = false := fun h => hr ⟨j, hj, h⟩
            have hlt : j < listed.size := by rw [inv.size]; exact his j oj hoj
            simp [hlt] at h1 ⊢
            exact h1
          have := inv.closed j oj hoj hjl e he hb
          rw [hon, getD_both hi] at this
          cases this
        · have : j = t0 := by simpa using hj
          subst this
          exact waits_not_ready hw (getD_both hi)
      exact tail_not_ready (t0 :: tail) hc inv.tail (fun t1 h1 => by
        have : t0 = t1 := by simpa using h1
        subst this
        exact h0) t ht
theorem InvO.set {tail : List Nat} {i : Nat} {listed : Array Bool} (inv : InvO md ops tail listed) (hi : i ∈ Region.ready md ops listed) (hin : i ∉ tail) : InvO md ops tail (listed.setIfInBounds i true) := by
  obtain ⟨_, oi, hoi, hall⟩ := mem_ready.1 hi
  refine ⟨by simp [inv.size], fun j oj hj hl e he hb => ?_, fun t ht => ?_⟩
  · by_cases hij : i = j
    · subst hij
      have : oj = oi := Option.some.inj (hj.symm.trans hoi)
      subst this
      exact getD_set_true (hall e he hb)
    · rw [getD_set_ne false hij] at hl
      exact getD_set_true (inv.closed j oj hj hl e he hb)
  · have hne : i ≠ t := fun h => hin (by rw [h]; exact ht)
    rw [getD_set_ne true hne]
    exact inv.tail t ht
def wpAnyRO (P : Program) (md : Region.Mode) (ops : Array Oper) (R : World → World → Prop) (Q : Exit → Act → World → Prop) (tail : List Nat) (F : Array Bool → Act → World → Prop) : Nat → Array Bool → Act → World → Prop
  | 0, listed, a, wc => ∀ w, R wc w → F listed a w
  | f + 1, listed, a, wc => Region.ready md ops listed ≠ [] ∧ ∀ i ∈ Region.ready md ops listed, i ∉ tail ∧ ∀ w, R wc w → wpOp P ops Q i (fun a' w' => R w w' ∧ wpAnyRO P md ops R Q tail F f (listed.setIfInBounds i true) a' w') a w
variable {tail : List Nat} {F : Array Bool → Act → World → Prop}
theorem wpAnyRO_mono (L : Later R) : ∀ (f : Nat) (listed : Array Bool) (a : Act) (wc w : World), R wc w → wpAnyRO P md ops R Q tail F f listed a wc → wpAnyRO P md ops R Q tail F f listed a w
  | 0, _, _, _, _, hw, h => fun w' h' => h w' (L.trans hw h')
  | _ + 1, _, _, _, _, hw, h => ⟨h.1, fun i hi => ⟨(h.2 i hi).1, fun w' h' => (h.2 i hi).2 w' (L.trans hw h')⟩⟩
theorem wpAny_of_RO (L : Later R) {QN : Act → World → Prop} {Q' : Exit → Act → World → Prop} {g : Nat} (hF : ∀ listed a w, F listed a w → wpAny P md ops Q' g listed a w) :
    ∀ (f : Nat) (listed : Array Bool) (a : Act) (wc : World), wpAnyRO P md ops R (onlyN QN) tail F f listed a wc → ∀ w, R wc w → wpAny P md ops Q' (f + g) listed a w
  | 0, listed, a, wc, h, w, hw => by rw [Nat.zero_add]; exact hF _ _ _ (h w hw)
  | f + 1, listed, a, wc, h, w, hw => by
    rw [show f + 1 + g = (f + g) + 1 by omega]
    exact ⟨fun h0 => absurd h0 h.1, fun i hi => wpOp_exit (QN := QN) (wpOp_mono (fun a' w' h' => wpAny_of_RO L hF f _ a' w' h'.2 w' (L.refl _)) ((h.2 i hi).2 w hw))⟩
theorem wpAnyRO_first (L : Later R) {QN : Act → World → Prop} {i : Nat} {oi : Oper} {v : Value} (hi : ops[i]? = some oi) (hsel : ∀ (j : Nat) (o : Oper) cs b, ops[j]? = some o → o.op ≠ .select cs b)
    (hin : i ∉ tail) (hw8 : ∀ listed, InvO md ops tail listed → listed.getD i true = false → ∀ t ∈ tail, t ∉ Region.ready md ops listed)
    (hdone : ∀ listed a w, F listed a w → ∀ j ∈ Region.ready md ops listed, j ∈ tail) :
    ∀ (f : Nat) (listed : Array Bool) (a : Act) (wc : World), InvO md ops tail listed →
      (∀ j oj, ops[j]? = some oj → j ≠ i → listed.getD j true = false → (∀ e ∈ oj.after, Region.binds md e = true → e.on ≠ i) → oi.apart ops oj = true) →
      i ∈ Region.ready md ops listed → YieldsR P ops R oi v a wc →
      wpAnyRO P md ops R (onlyN QN) tail F f (listed.setIfInBounds i true) (a.put oi.dst v) wc → wpAnyRO P md ops R (onlyN QN) tail F (f + 1) listed a wc := by
  intro f
  induction f with
  | zero =>
    intro listed a wc inv _ hr hy H
    have hun := (mem_ready.1 hr).1
    refine ⟨fun h => (by rw [h] at hr; cases hr), fun j hj => ?_⟩
    have hjn : j ∉ tail := fun h => hw8 listed inv hun j h hj
    refine ⟨hjn, fun w hw => ?_⟩
    by_cases hji : j = i
    · subst hji; exact hy.wpOp L hi hw fun w' h' => ⟨h', wpAnyRO_mono L _ _ _ _ _ (L.trans hw h') H⟩
    · exact absurd (hdone _ _ _ (H w hw) j (ready_mono hj hji)) hjn
  | succ f ih =>
    intro listed a wc inv hfree hr hy H
    have hun := (mem_ready.1 hr).1
    refine ⟨fun h => (by rw [h] at hr; cases hr), fun j hj => ?_⟩
    have hjn : j ∉ tail := fun h => hw8 listed inv hun j h hj
    refine ⟨hjn, fun w hw => ?_⟩
    by_cases hji : j = i
    · subst hji; exact hy.wpOp L hi hw fun w' h' => ⟨h', wpAnyRO_mono L _ _ _ _ _ (L.trans hw h') H⟩
    · have h1 := (H.2 j (ready_mono hj hji)).2 w hw
      obtain ⟨hjun, oj, hoj, hall⟩ := mem_ready.1 hj
      have hnot : ∀ e ∈ oj.after, Region.binds md e = true → e.on ≠ i := fun e he hb heq => by
        have h1 := hall e he hb
        rw [heq, getD_both hun] at h1
        cases h1
      have h2 := wpOp_putR hoj (hfree j oj hoj hji hjun hnot) (fun cs b => hsel i oi cs b hi) (fun cs b => hsel j oj cs b hoj) (fun _ _ _ h => h) hy h1
      have hfree' : ∀ k ok, ops[k]? = some ok → k ≠ i → (listed.setIfInBounds j true).getD k true = false →
          (∀ e ∈ ok.after, Region.binds md e = true → e.on ≠ i) → oi.apart ops ok = true := fun k ok hk hki hun hno => by
        refine hfree k ok hk hki ?_ hno
        by_cases hjk : j = k
        · subst hjk; exact hjun
        · rw [getD_set_ne true hjk] at hun; exact hun
      refine wpOp_mono (fun a' w' h3 => ⟨h3.2.1, ih (listed.setIfInBounds j true) a' w' (inv.set hj hjn) hfree' (ready_mono hr (Ne.symm hji)) (h3.1.mono L (L.trans hw h3.2.1)) ?_⟩) h2
      rw [Array.setIfInBounds_comm _ _ hji]
      exact h3.2.2
theorem wpAnyRO_lex (L : Later R) {QN : Act → World → Prop} {t0 : Nat} {tl : List Nat} (htail : tail = t0 :: tl) (hsel : Region.noSelect ops = true) (hc : chainO md ops (t0 :: tl) = true) {fin : Array Bool → Bool}
    (hdone : ∀ listed, fin listed = true → ∀ j ∈ Region.ready md ops listed, j ∈ tail) :
    ∀ (is : List Nat) (listed : Array Bool) (a : Act) (wc : World), InvO md ops tail listed → sinkO md ops t0 is = true → (∀ i ∈ is, i ∉ tail) →
    ordB md ops fin is listed = true → wpLxO P md ops R (onlyN QN) is listed a wc →
    wpAnyRO P md ops R (onlyN QN) tail (fun listed' a' w' => fin listed' = true ∧ QN a' w') is.length listed a wc
  | [], listed, a, wc, _, _, _, hB, h => fun w hw => ⟨by simpa [ordB] using hB, h w hw⟩
  | k :: rest, listed, a, wc, inv, hs, hnt, hB, h => by
    have hs0 := hs
    simp only [ordB, Bool.and_eq_true] at hB
    obtain ⟨⟨hr, hf⟩, hB'⟩ := hB
    have hr' : k ∈ Region.ready md ops listed := by simpa using hr
    simp only [sinkO, Bool.and_eq_true] at hs
    have hkt := hnt k (by simp)
    obtain ⟨o, h0, h⟩ := h
    rcases h with ⟨v, hy, hK⟩ | ⟨hone, hK⟩
    · refine wpAnyRO_first L h0 (Region.noSelect_spec hsel) hkt (fun listed' inv' hun => ?_) (fun listed' a' w' hL => hdone listed' hL.1) rest.length listed a wc inv (Region.free_spec h0 hf) hr' hy
        (wpAnyRO_lex L htail hsel hc hdone rest _ _ _ (inv.set hr' hkt) hs.2 (fun i hi => hnt i (by simp [hi])) hB' hK)
      subst htail
      exact tail_waitsO hc inv' (fun i oi hoi => (Array.getElem?_eq_some_iff.1 hoi).1) (k :: rest) hs0 ⟨k, by simp, hun⟩
    · refine ⟨fun h0 => (by rw [h0] at hone; cases hone), fun i hi => ?_⟩
      rw [hone] at hi
      have hik : i = k := by simpa using hi
      subst hik
      exact ⟨hkt, fun w hw => wpOp_mono (fun a' w' h' => ⟨h'.1, wpAnyRO_lex L htail hsel hc hdone rest _ _ _ (inv.set hr' hkt) hs.2 (fun i hi => hnt i (by simp [hi])) hB' h'.2⟩) (hK w hw)⟩
theorem wpAny_of_seqO {Q' : Exit → Act → World → Prop} : ∀ (tl : List Nat) (l : List Oper) (listed : Array Bool) (a : Act) (w : World), tl.map (fun k => ops[k]?) = l.map some →
    seqO md ops tl listed = true → wpList P ops Q' l a w → wpAny P md ops Q' tl.length listed a w
  | [], l, _, _, _, hl, hB, h => by
    obtain rfl : l = [] := by simpa using hl.symm
    exact ⟨by simpa [seqO] using hB, h⟩
  | k :: tl, l, listed, a, w, hl, hB, h => by
    cases l with
    | nil => simp at hl
    | cons o l =>
      simp only [List.map_cons, List.cons.injEq] at hl
      simp only [seqO, Bool.and_eq_true, decide_eq_true_eq] at hB
      refine ⟨fun h1 => (by rw [hB.1] at h1; cases h1), fun i hi => ?_⟩
      rw [hB.1] at hi
      have hik : i = k := by simpa using hi
      subst hik
      have hw : wpOp P ops Q' i (wpList P ops Q' l) a w := by unfold wpOp; simp only [hl.1]; exact h
      exact wpOp_mono (fun a' w' h' => wpAny_of_seqO tl l _ a' w' hl.2 hB.2 h') hw
theorem seqO_ready : ∀ {tl : List Nat} {listed : Array Bool}, seqO md ops tl listed = true → ∀ j ∈ Region.ready md ops listed, j ∈ tl
  | [], listed, h, j, hj => by simp only [seqO, List.isEmpty_iff] at h; rw [h] at hj; cases hj
  | k :: tl, listed, h, j, hj => by
    simp only [seqO, Bool.and_eq_true, decide_eq_true_eq] at h
    rw [h.1] at hj
    have : j = k := by simpa using hj
    simp [this]
/-- all that the order must bear -/
def ordAll (md : Region.Mode) (ops : Array Oper) (is : List Nat) (t0 : Nat) (tl : List Nat) : Bool :=
  Region.noSelect ops && chainO md ops (t0 :: tl) && sinkO md ops t0 is && is.all (fun i => !(t0 :: tl).contains i) && (t0 :: tl).all (fun t => decide (t < ops.size)) && decide (is.length + (tl.length + 1) = ops.size) &&
    ordB md ops (seqO md ops (t0 :: tl)) is (Array.replicate ops.size false)
theorem wp_region_ord (L : Later R) (is : List Nat) (t0 : Nat) (tl : List Nat) (lt : List Oper) {id : Nat} {a : Act} {w : World} {l : List Oper} (hm : P.follows .mixedOrders = true) (hB : ordAll .any l.toArray is t0 tl = true)
    (hlt : (t0 :: tl).map (fun k => l.toArray[k]?) = lt.map some)
    (h : wpLxO P .any l.toArray R (onlyN (fun a w => wpList P l.toArray Q lt a w)) is (Array.replicate l.length false) a w.drew) : (Code.region id l.toArray true).wp P Q a w := by
  simp only [ordAll, Bool.and_eq_true, decide_eq_true_eq] at hB
  obtain ⟨⟨⟨⟨⟨⟨hsel, hc⟩, hs⟩, hnt⟩, hts⟩, hlen⟩, hord⟩ := hB
  have inv0 : InvO .any l.toArray (t0 :: tl) (Array.replicate l.toArray.size false) :=
    ⟨by simp, fun j oj _ hl => (by rw [getD_replicate_false] at hl; cases hl), fun t ht => getD_in (by have := List.all_eq_true.1 hts t ht; simpa using this) (getD_replicate_false _ _)⟩
  have H := wpAnyRO_lex (md := .any) L (tail := t0 :: tl) rfl hsel hc (fun listed hL => seqO_ready hL) is (Array.replicate l.toArray.size false) a w.drew inv0 hs
    (fun i hi => by have := List.all_eq_true.1 hnt i hi; simpa using this) hord (by simpa using h)
  refine wp_region_any hm ?_
  have := wpAny_of_RO (Q' := Q) (g := (t0 :: tl).length) L (fun listed a' w' hL => wpAny_of_seqO (t0 :: tl) lt listed a' w' hlt hL.1 hL.2) _ _ _ _ H _ (L.refl _)
  rw [show is.length + (t0 :: tl).length = l.toArray.size by simp at hlen ⊢; omega] at this
  exact this
/-- operations that yield whatever the world -/
def wpPre (P : Program) (ops : Array Oper) (K : Array Bool → Act → Prop) : List Nat → Array Bool → Act → Prop
  | [], listed, a => K listed a
  | k :: rest, listed, a => ∃ o v, ops[k]? = some o ∧ Yields P ops o v a ∧ wpPre P ops K rest (listed.setIfInBounds k true) (a.put o.dst v)
theorem wpAny_pre {QN : Act → World → Prop} {w : World} {K : Array Bool → Act → Prop} {fin : Array Bool → Bool} {f : Nat} (hsel : Region.noSelect ops = true) (hK : ∀ listed a, InvO md ops tail listed → fin listed = true → K listed a → wpAny P md ops (onlyN QN) f listed a w) :
    ∀ (pre : List Nat) (listed : Array Bool) (a : Act), InvO md ops tail listed → (∀ i ∈ pre, i ∉ tail) → ordB md ops fin pre listed = true → wpPre P ops K pre listed a → wpAny P md ops (onlyN QN) (pre.length + f) listed a w
  | [], listed, a, inv, _, hB, h => by rw [List.length_nil, Nat.zero_add]; exact hK _ _ inv (by simpa [ordB] using hB) h
  | k :: rest, listed, a, inv, hnt, hB, h => by
    simp only [ordB, Bool.and_eq_true] at hB
    obtain ⟨⟨hr, hf⟩, hB'⟩ := hB
    have hr' : k ∈ Region.ready md ops listed := by simpa using hr
    obtain ⟨o, v, h0, hy, h⟩ := h
    rw [show (k :: rest).length + f = (rest.length + f) + 1 by simp; omega]
    exact wpAny_take h0 hsel hf hr (fun _ _ _ h => h) hy (wpAny_pre hsel hK rest _ _ (inv.set hr' (hnt k (by simp))) (fun i hi => hnt i (by simp [hi])) hB' h)
def ordAllP (md : Region.Mode) (ops : Array Oper) (pre is : List Nat) (t0 : Nat) (tl : List Nat) : Bool :=
  Region.noSelect ops && chainO md ops (t0 :: tl) && sinkO md ops t0 is && is.all (fun i => !(t0 :: tl).contains i) && pre.all (fun i => !(t0 :: tl).contains i) && (t0 :: tl).all (fun t => decide (t < ops.size)) && decide (pre.length + (is.length + (tl.length + 1)) = ops.size) &&
    ordB md ops (fun listed => ordB md ops (seqO md ops (t0 :: tl)) is listed) pre (Array.replicate ops.size false)
theorem tail_ops (ops : Array Oper) : ∀ (tl : List Nat), (∀ t ∈ tl, t < ops.size) → tl.map (fun k => ops[k]?) = (tl.filterMap (fun k => ops[k]?)).map some
  | [], _ => rfl
  | k :: tl, h => by
    have hk : k < ops.size := h k (by simp)
    have e : ops[k]? = some ops[k] := by simp [hk]
    rw [List.map_cons, List.filterMap_cons_some e, List.map_cons, e, tail_ops ops tl (fun t ht => h t (by simp [ht]))]
theorem wp_region_ordp (L : Later R) (pre is : List Nat) (t0 : Nat) (tl : List Nat) {id : Nat} {a : Act} {w : World} {l : List Oper} (hm : P.follows .mixedOrders = true) (hB : ordAllP .any l.toArray pre is t0 tl = true)
    (h : wpPre P l.toArray (fun listed a => wpLxO P .any l.toArray R (onlyN (fun a w => wpList P l.toArray (onlyN (fun a w => Q .normal a w)) ((t0 :: tl).filterMap fun k => l.toArray[k]?) a w)) is listed a w.drew) pre (Array.replicate l.length false) a) : (Code.region id l.toArray true).wp P Q a w := by
  simp only [ordAllP, Bool.and_eq_true, decide_eq_true_eq] at hB
  obtain ⟨⟨⟨⟨⟨⟨⟨hsel, hc⟩, hs⟩, hnt⟩, hnp⟩, hts⟩, hlen⟩, hord⟩ := hB
  have inv0 : InvO .any l.toArray (t0 :: tl) (Array.replicate l.toArray.size false) :=
    ⟨by simp, fun j oj _ hl => (by rw [getD_replicate_false] at hl; cases hl), fun t ht => getD_in (by have := List.all_eq_true.1 hts t ht; simpa using this) (getD_replicate_false _ _)⟩
  refine Code.wp_mono (Q := onlyN (fun a w => Q .normal a w)) (fun e a w h => ?_) (wp_region_any hm ?_)
  · cases e <;> first | exact h | exact (h : False).elim
  have key := wpAny_pre (md := .any) (tail := t0 :: tl) (QN := fun a w => Q .normal a w) (w := w.drew) (f := is.length + (t0 :: tl).length) hsel
    (K := fun listed a => wpLxO P .any l.toArray R (onlyN (fun a w => wpList P l.toArray (onlyN (fun a w => Q .normal a w)) ((t0 :: tl).filterMap fun k => l.toArray[k]?) a w)) is listed a w.drew)
    (fin := fun listed => ordB .any l.toArray (seqO .any l.toArray (t0 :: tl)) is listed) (fun listed a inv hord h => by
      have H := wpAnyRO_lex (md := .any) L (tail := t0 :: tl) rfl hsel hc (fun listed hL => seqO_ready hL) is listed a w.drew inv hs
        (fun i hi => by have := List.all_eq_true.1 hnt i hi; simpa using this) hord h
      exact wpAny_of_RO (Q' := onlyN (fun a w => Q .normal a w)) (g := (t0 :: tl).length) L (fun listed a' w' hL => wpAny_of_seqO (t0 :: tl) _ listed a' w' (tail_ops _ _ (fun t ht => by have := List.all_eq_true.1 hts t ht; simpa using this)) hL.1 hL.2) _ _ _ _ H _ (L.refl _))
    pre (Array.replicate l.toArray.size false) a inv0 (fun i hi => by have := List.all_eq_true.1 hnp i hi; simpa using this) hord (by simpa using h)
  rw [show pre.length + (is.length + (t0 :: tl).length) = l.toArray.size by simp at hlen ⊢; omega] at key
  exact key
theorem lp_nil {K : Array Bool → Act → Prop} {listed : Array Bool} {a : Act} (h : K listed a) : wpPre P ops K [] listed a := h
theorem lp_ex {K : Array Bool → Act → Prop} {o : Oper} {k : Nat} {rest : List Nat} {listed : Array Bool} {a : Act} (ho : ops[k]? = some o) (hw : Region.wanted o (yielded ops a.tmps) = true)
    (h : ∃ v, (∀ w, (execOp a.eval o).run P w = .ok (.value v) w) ∧ wpPre P ops K rest (listed.setIfInBounds k true) (a.put o.dst v)) : wpPre P ops K (k :: rest) listed a :=
  let ⟨v, h1, h2⟩ := h; ⟨o, v, ho, .inl ⟨hw, h1⟩, h2⟩
variable {o : Oper} {rest : List Nat} {k : Nat} {listed : Array Bool} {a : Act} {wc : World}
theorem lo_nil {QN : Act → World → Prop} (h : ∀ w, R wc w → QN a w) : wpLxO P md ops R (onlyN QN) [] listed a wc := h
theorem lo_ex (ho : ops[k]? = some o) (hw : Region.wanted o (yielded ops a.tmps) = true) (h : ∃ v, (∀ w, R wc w → o.quietAt P a (R w) w v) ∧ wpLxO P md ops R Q rest (listed.setIfInBounds k true) (a.put o.dst v) wc) : wpLxO P md ops R Q (k :: rest) listed a wc :=
  ⟨o, ho, .inl (let ⟨v, h1, h2⟩ := h; ⟨v, .inl ⟨hw, h1⟩, h2⟩)⟩
theorem lo_skip (ho : ops[k]? = some o) (hw : Region.wanted o (yielded ops a.tmps) = false) (h : wpLxO P md ops R Q rest (listed.setIfInBounds k true) (a.put o.dst undef) wc) : wpLxO P md ops R Q (k :: rest) listed a wc :=
  ⟨o, ho, .inl ⟨undef, .inr ⟨hw, rfl⟩, h⟩⟩
theorem lo_alone (ho : ops[k]? = some o) (hone : Region.ready md ops listed = [k]) (hw : Region.wanted o (yielded ops a.tmps) = true)
    (h : ∀ w, R wc w → o.wp P a w (fun a' w' => R w w' ∧ wpLxO P md ops R Q rest (listed.setIfInBounds k true) a' w') Q) : wpLxO P md ops R Q (k :: rest) listed a wc :=
  ⟨o, ho, .inr ⟨hone, fun w hR => by unfold wpOp; simp only [ho, hw, if_true]; exact .inl (h w hR)⟩⟩
theorem lo_at (ho : ops[k]? = some o) (hw : Region.wanted o (yielded ops a.tmps) = true) (v : Value) (h1 : ∀ w, R wc w → o.quietAt P a (R w) w v) (h2 : wpLxO P md ops R Q rest (listed.setIfInBounds k true) (a.put o.dst v) wc) : wpLxO P md ops R Q (k :: rest) listed a wc :=
  ⟨o, ho, .inl ⟨v, .inl ⟨hw, h1⟩, h2⟩⟩
end
end Go.Proofs.YtgmddhljgfbibaaDoor
/- A row of bytes, as values. -/
namespace Go.Proofs.YtgmddhljgfbibaaDoor
set_option linter.unusedVariables false
set_option linter.unusedSimpArgs false
open Go.RowKit
def bytesV (l : List Nat) : List Value := l.map fun x : Nat => Value.int .u8 (x : Int)
theorem bytesV_len (l : List Nat) : (bytesV l).length = l.length := by simp [bytesV]
theorem bytesV_snoc (l : List Nat) (x : Nat) : bytesV (l ++ [x]) = bytesV l ++ [.int .u8 (x : Int)] := by simp [bytesV]
end Go.Proofs.YtgmddhljgfbibaaDoor
