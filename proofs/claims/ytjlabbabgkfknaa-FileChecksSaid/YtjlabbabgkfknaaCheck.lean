/- table.Check. -/
import Derived.Test.YtjlabbabgkfknaaCheckMath
import Derived.Test.YtjlabbabgkfknaaMaps
import Derived.Outline
import Derived.Test.YtjlabbabgkfknaaPower
namespace Go.Proofs.Ytjlabbabgkfknaa
set_option linter.unusedVariables false
set_option linter.unusedSimpArgs false
open Go.RowKit Go.Maps
theorem keyed_int : Keyed Try.prog 3 := int_keyed Try.underlying3
theorem zero_bool (w : World) : (zeroValue 4).run Try.prog w = .ok (.bool false) w := by kernel_rfl
/-- the set of the first numbers of a list -/
def seenF (l : List Int) (x : Int) : Option Value := if x ∈ l then some (.bool true) else none
theorem seenF_look (l : List Int) (x : Int) : (seenF l x).getD (.bool false) = .bool (decide (x ∈ l)) := by
  unfold seenF; by_cases h : x ∈ l <;> simp [h]
/-- what Check needs of its table -/
theorem check_tot (cs xs : List Int) (sl : Value) (w : World) (hl : cs.length = 16) (hs : SL w 1 sl xs.length (ints xs)) (h : totOK cs xs = false) :
    Calls Try.prog 32 #[.agg (tblv cs sl)] w fun e w' => e = .returned (.int .i64 4) ∧ Ext w w' := by
  have HT := hid_ (fun W => total_any cs sl W hl)
  have hlast := hid_ (fun W g (h : Blk W g 45 (tblv cs sl)) => tblv_last h hl)
  have hts := hid_ (tblv_size cs sl hl)
  have hq : (totalZ cs).2 = false ∨ ((totalZ cs).2 = true ∧ ((totalZ cs).1 != (xs.length : Int)) = true) := by
    unfold totOK at h
    unfold totalZ
    cases h1 : allIn cs 0 256 with
    | false => left; simp
    | true =>
      rw [h1] at h
      simp only [if_true]
      by_cases h2 : sumL cs 16 ≤ 256
      · right
        simp [h2] at h ⊢
        exact h
      · left; simpa using h2
  generalize totalZ cs = tz at *
  obtain ⟨all, is⟩ := tz
  generalize tblv cs sl = tv at *
  obtain ⟨A, c, rfl, hc1, hc2, -, -⟩ := hs
  rcases hq with hq | ⟨hq, hq2⟩
  · simp only at hq
    subst hq
    go_enter Try.func32, Try.ntmps32
    go_wp2_with (first
      | (refine wpList_box_abs rfl 45 (.tmp 0) rfl tv rfl ?_; intro w1 g hb1 hx1 hg)
      | (refine wpList_load_blk rfl 45 (.tmp 1) rfl _ rfl hb1 _ Try.underlying45 rfl 17 sizeTbl hts.out ?_)
      | (go_at_call 37; (with_reducible refine (HT.out _).mono ?_); rintro e w2 ⟨rfl, hx2⟩))
    go_ret
    exact ⟨rfl, hx1.trans hx2⟩
  · simp only at hq hq2
    subst hq
    go_enter Try.func32, Try.ntmps32
    go_wp2_with (first
      | (refine wpList_box_abs rfl 45 (.tmp 0) rfl tv rfl ?_; intro w1 g hb1 hx1 hg)
      | (refine wpList_load_blk rfl 45 (.tmp 1) rfl _ rfl hb1 _ Try.underlying45 rfl 17 sizeTbl hts.out ?_)
      | (go_at_call 37; (with_reducible refine (HT.out _).mono ?_); rintro e w2 ⟨rfl, hx2⟩; have hc16 := hlast.out _ _ (hb1.ext hx2)))
    go_ret
    exact ⟨rfl, hx1.trans hx2⟩
theorem seenF_upd (xs : List Int) (k : Nat) (hk : k < xs.length) : seenF (xs.take (k + 1)) xs[k] = some (.bool true) := by
  unfold seenF
  rw [if_pos (by rw [List.take_succ_eq_append_getElem hk]; exact List.mem_append_right _ (by simp))]
theorem seenF_other (xs : List Int) (k : Nat) (hk : k < xs.length) (j : Int) (hj : j ≠ xs[k]) : seenF (xs.take (k + 1)) j = seenF (xs.take k) j := by
  unfold seenF
  have : j ∈ xs.take (k + 1) ↔ j ∈ xs.take k := by rw [List.take_succ_eq_append_getElem hk, List.mem_append]; simp [hj]
  by_cases h : j ∈ xs.take k
  · rw [if_pos h, if_pos (this.2 h)]
  · rw [if_neg h, if_neg (fun h2 => h (this.1 h2))]
set_option maxRecDepth 20000 in
set_option maxHeartbeats 1000000 in
theorem check_in (cs xs : List Int) (sl : Value) (w : World) (hl : cs.length = 16) (hs : SL w 1 sl xs.length (ints xs)) (h : totOK cs xs = true) :
    Calls Try.prog 32 #[.agg (tblv cs sl)] w fun e w' => e = .returned (.int .i64 (checkZ cs xs)) ∧ Ext w w' := by
  have HT := hid_ (fun W => total_any cs sl W hl)
  have hlast := hid_ (fun W g (h : Blk W g 45 (tblv cs sl)) => tblv_last h hl)
  have hts := hid_ (tblv_size cs sl hl)
  have HRG := hid_ (fun W g (h : Blk W g 45 (tblv cs sl)) => tblv_range h)
  have hcl := hid_ ((ints_len cs).trans hl)
  have HIX := hid_ (fun k (hk : k < cs.length) (h16 : k < 16) => fun W => run_index16 (ints cs).toArray k (.int .i64 cs[k]) h16 (bv_at cs k hk) W)
  obtain ⟨q1, q2, q3⟩ := totOK_iff.1 h
  have HZ1 := hid_ (fun h2 => checkZ_arg h h2)
  have HZ2 := hid_ (fun h2 h3 => checkZ_dup h h2 h3)
  have HZ3 := hid_ (fun h2 h3 => checkZ_words h h2 h3)
  have HT1 : Hid (totalZ cs = ((xs.length : Int), true)) := hid_ (by unfold totalZ; rw [q1, q3]; simp; omega)
  rw [HT1.out] at HT
  have hlen : xs.length ≤ 256 := by omega
  have HAL := hid_ (allIn_iff.1 q1)
  have HL := hid_ hl
  have hneq : ((xs.length : Int) != (xs.length : Int)) = false := by simp
  have hmm := @run_makeMap Try.prog
  have hs' := hs
  obtain ⟨A, c, rfl, hc1, hc2, -, -⟩ := hs'
  generalize tblv cs (.slice A xs.length c) = tv at *
  clear h q1 q2 q3
  go_enter Try.func32, Try.ntmps32
  go_wp2_with (first
    | (refine wpList_box_abs rfl 45 (.tmp 0) rfl tv rfl ?_; intro w1 g hb1 hx1 hg)
    | (refine wpList_load_blk rfl 45 (.tmp 1) rfl _ rfl hb1 _ Try.underlying45 rfl 17 sizeTbl hts.out ?_)
    | (go_at_call 37; (with_reducible refine (HT.out _).mono ?_); rintro e w2 ⟨rfl, hx2⟩; have hc16 := hlast.out _ _ (hb1.ext hx2); have hc16b := hlast.out _ _ ((hb1.ext hx2).alloc (.map #[] 0))))
  have hb2 := hb1.ext hx2
  have hxm := hx1.trans hx2
  have hgm := hxm.size
  have hne := hb2.lt
  clear hmm hb1 hx1 hx2 hc16 hc16b
  go_loopw [6, 30] (fun tw i wr => ∃ (k : Nat) (tb : Bool), k ≤ xs.length ∧ i = .int .i64 (k : Int) ∧ tw = .bool tb ∧ tb = (!decide (xs.take k).Nodup) ∧ (∀ z ∈ xs.take k, 0 ≤ z ∧ z ≤ 255) ∧ MapI Try.prog 3 wr w2.heap.size k (seenF (xs.take k)) ∧ Blk wr g 45 tv ∧ Ext w wr) (fun _ i _ => xs.length - (intOf i).toNat)
  case atStart => exact ⟨0, false, by omega, rfl, rfl, by simp, by simp, MapG.made _, hb2.alloc _, hxm.alloc _⟩
  case round =>
    clear hb2 hxm
    obtain ⟨k, tb, hk, rfl, rfl, htb, hin, hm, hb, hx⟩ := hrel
    have HTB := hid_ htb
    have HIN := hid_ hin
    clear htb hin
    by_cases hlt : k < xs.length
    · obtain ⟨ad, u, rfl, -, hxk, hcell⟩ := (hs.ext hx).at1 hlt
      obtain ⟨hkl, rfl⟩ := ints_at _ _ _ hxk
      clear hxk
      cases hq : inB xs[k] 0 255 with
      | true =>
        obtain ⟨q1, q2⟩ := inB_iff.1 hq
        have h0' : decide (xs[k] < 0) = false := by simpa using q1
        have h1' : decide (256 ≤ xs[k]) = false := by simp; omega
        have HN := hid_ (allIn_take HIN.out hkl ⟨q1, q2⟩)
        have HND := hid_ (nodup_take_succ hkl)
        have HU := hid_ (seenF_upd xs k hkl)
        have HO := hid_ (seenF_other xs k hkl)
        have HLK := hid_ (seenF_look (xs.take k) xs[k])
        have hkey := hid_ (keyOf_i64 (P := Try.prog) Try.underlying3 (a := xs[k]) (by omega) (by omega))
        generalize xs[k] = x at *
        clear hq
        cases tb with
        | true =>
          go_wp2_with (at_mapUpdate; refine wpList_upd_g (by rfl) _ _ _ 73 4 rfl keyed_int Try.underlying73 rfl hm (by omega) _ rfl _ rfl x hkey.out (seenF (xs.take (k + 1))) HU.out (fun j _ hj => HO.out j (fun e => hj (by rw [e]))) (fun j _ hj => by injection hj) ?_; intro w7 hm7 hg7)
          go_roundw
          case rel =>
            exact ⟨k + 1, true, by omega, by go_num, rfl, by have h1 := HTB.out; have h2 := HND.out; simp at h1 ⊢; rw [h2]; simp [h1], HN.out, hm7, hb.grown hg7 (by simp; omega), ext_grown_new hx hg7 (by omega)⟩
          case measure => simp [intOf]; omega
        | false =>
          go_wp2_with (first
            | (at_lookup; refine wpList_look_g (by rfl) _ _ 73 4 rfl keyed_int Try.underlying73 _ (zero_bool _) rfl hm _ rfl x trivial hkey.out _ HLK.out ?_)
            | (at_mapUpdate; refine wpList_upd_g (by rfl) _ _ _ 73 4 rfl keyed_int Try.underlying73 rfl hm (by omega) _ rfl _ rfl x hkey.out (seenF (xs.take (k + 1))) HU.out (fun j _ hj => HO.out j (fun e => hj (by rw [e]))) (fun j _ hj => by injection hj) ?_; intro w7 hm7 hg7))
          go_roundw
          case rel =>
            exact ⟨k + 1, decide (x ∈ xs.take k), by omega, by go_num, rfl, by have h1 := HTB.out; have h2 := HND.out; simp at h1; by_cases hm : x ∈ xs.take k <;> simp [h2, h1, hm], HN.out, hm7, hb.grown hg7 (by simp; omega), ext_grown_new hx hg7 (by omega)⟩
          case measure => simp [intOf]; omega
      | false =>
        have HF := hid_ (HZ1.out (allIn_no hkl hq))
        rcases Int.lt_or_le xs[k] 0 with h0 | h0
        · have h0' : decide (xs[k] < 0) = true := by simpa using h0
          clear hq
          go_wp2_with fail
          go_ret
          exact ⟨by rw [HF.out]; rfl, hx⟩
        · have h0' : decide (xs[k] < 0) = false := by simpa using h0
          have h1' : decide (256 ≤ xs[k]) = true := by have := inB_not.1 hq; simp; omega
          clear hq
          go_wp2_with fail
          go_ret
          exact ⟨by rw [HF.out]; rfl, hx⟩
    · have hkx : k = xs.length := by omega
      have e1 : xs.take k = xs := List.take_of_length_le (by omega)
      rw [e1] at HTB HIN
      have HA := hid_ (allIn_iff.2 HIN.out)
      clear e1 hm
      go_wp2_with (refine wpList_load_mid rfl 43 (.tmp 49) rfl g 0 rfl (ints cs) _ (HRG.out _ _ hb) Try.underlying43 rfl (by rw [hcl.out]; exact size16) ?_)
      go_loop [9, 51] (fun nx i => ∃ k : Nat, k ≤ 16 ∧ i = .int .i64 (k : Int) ∧ nx = .int .i64 (nextW cs k : Nat) ∧ nextW cs k + 1 ≤ 2 ^ k ∧ (∀ j, j < k → nextW cs (j + 1) + 1 ≤ 2 ^ (j + 1)) ∧ (0 < k → tb = false)) (fun _ i => 16 - (intOf i).toNat)
      case atStart => exact ⟨0, by omega, rfl, rfl, by simp [nextW], by intro j hj; omega, by omega⟩
      case round =>
        obtain ⟨k, hk, rfl, rfl, hnx, hall, htw⟩ := hrel
        have HALL := hid_ hall
        have HTW := hid_ htw
        clear hall htw
        by_cases hlt2 : k < 16
        · have hkl : k < cs.length := by have := HL.out; omega
          have hix := HIX.out k hkl hlt2
          obtain ⟨q1, q2⟩ := HAL.out _ (List.getElem_mem hkl)
          obtain ⟨n, hn⟩ : ∃ n : Nat, cs[k] = (n : Int) := ⟨cs[k].toNat, by omega⟩
          have HNW := hid_ (nextW_succ cs k n hkl hn)
          have HNO := hid_ (fun h => okW_no (cs := cs) hlt2 h)
          rw [hn] at hix q1 q2
          have hp : (2 : Nat) ^ k ≤ 65536 := by have := Nat.pow_le_pow_right (n := 2) (by omega) (show k ≤ 16 by omega); simpa using this
          have HP : Hid (2 ^ (k + 1) = 2 * 2 ^ k) := hid_ (by rw [Nat.pow_succ]; omega)
          rw [HNW.out, HP.out] at HNO
          have hp1 : (1 : Int) ≤ 2 ^ (k + 1) := pow_pos' (k + 1)
          have hp2 : (2 : Int) ^ (k + 1) ≤ 131072 := by have := pow_le (k + 1) 17 (by omega); simpa using this
          have HPI : Hid ((2 : Int) ^ (k + 1) = ((2 * 2 ^ k : Nat) : Int)) := hid_ (by rw [← HP.out]; simp)
          clear hn
          cases tb with
          | true =>
            have HF := hid_ (HZ2.out HA.out (by have := HTB.out; simpa using this))
            go_wp2_with fail
            go_ret
            exact ⟨by rw [HF.out]; rfl, hx⟩
          | false =>
            generalize nextW cs k = N at *
            by_cases hbad : 2 * N + n + 1 ≤ 2 * 2 ^ k
            · have hd : decide ((2 : Int) ^ (k + 1) - 1 < (N : Int) * 2 + (n : Int)) = false := by have := HPI.out; simp; omega
              go_wp2_with fail
              go_round
              case rel =>
                refine ⟨k + 1, by omega, by go_num, by rw [HNW.out]; congr 1; omega, by rw [HNW.out, HP.out]; omega, ?_, by simp⟩
                intro i hi
                by_cases hik : i = k
                · subst hik; rw [HNW.out, HP.out]; omega
                · exact HALL.out i (by omega)
              case measure => simp [intOf]; omega
            · have hd : decide ((2 : Int) ^ (k + 1) - 1 < (N : Int) * 2 + (n : Int)) = true := by have := HPI.out; simp; omega
              have HF := hid_ (HZ3.out HA.out (by have := HTB.out; simpa using this))
              have HNO' := hid_ (HNO.out (by omega))
              go_wp2_with fail
              go_ret
              exact ⟨by rw [HF.out, HNO'.out]; rfl, hx⟩
        · obtain rfl : k = 16 := by omega
          obtain rfl := HTW.out (by omega)
          have HF := hid_ (HZ3.out HA.out (by have := HTB.out; simpa using this))
          have HOK := hid_ (okW_yes HALL.out)
          go_wp2_with fail
          go_ret
          exact ⟨by rw [HF.out, HOK.out]; rfl, hx⟩
theorem check_any (cs xs : List Int) (sl : Value) (w : World) (hl : cs.length = 16) (hs : SL w 1 sl xs.length (ints xs)) :
    Calls Try.prog 32 #[.agg (tblv cs sl)] w fun e w' => e = .returned (.int .i64 (checkZ cs xs)) ∧ Ext w w' := by
  cases h : totOK cs xs with
  | true => exact check_in cs xs sl w hl hs h
  | false => rw [checkZ_tot h]; exact check_tot cs xs sl w hl hs h
end Go.Proofs.Ytjlabbabgkfknaa
