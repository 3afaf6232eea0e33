/- BestCheck, Cost of the reference. -/
import Derived.Test.YtlcpkngbpjfnjaaCost
import Derived.Test.YtlcpkngbpjfnjaaWordOf
import Derived.Test.YtlcpkngbpjfnjaaRefCheck
namespace Go.Proofs.Ytlcpkngbpjfnjaa
set_option linter.unusedVariables false
set_option linter.unusedSimpArgs false
open Go.RowKit
set_option maxHeartbeats 400000 in
theorem rbcheck_any (counts : List Int) (v : Value) (w : World) (hv : SL w 1 v counts.length (ints counts)) :
    Calls Try.prog 18 #[v] w fun e w' => e = .returned (.int .i64 (bcheckZ counts)) ∧ w = w' := by
  have hv' := hv
  obtain ⟨A, c, rfl, hc1, hc2, -, -⟩ := hv'
  by_cases h : 256 < counts.length
  · have HE : Hid (bcheckZ counts = 2) := hid_ (by unfold bcheckZ; rw [if_pos h])
    go_enter Try.func18, Try.ntmps18
    go_wp2_with fail
    go_ret
    exact ⟨by rw [HE.out]; rfl, rfl⟩
  · have HE : Hid (bcheckZ counts = if allIn counts 0 9999 then 0 else 1) := hid_ (by unfold bcheckZ; rw [if_neg h])
    go_enter Try.func18, Try.ntmps18
    go_wp2_with fail
    go_loop [10] (fun i => ∃ k : Nat, k ≤ counts.length ∧ i = .int .i64 (k : Int) ∧ ∀ z ∈ counts.take k, 0 ≤ z ∧ z ≤ 9999) (fun i => counts.length - (intOf i).toNat)
    case atStart => exact ⟨0, by omega, rfl, by simp⟩
    case round =>
      obtain ⟨k, hk, rfl, hin⟩ := hrel
      have HIN := hid_ hin
      clear hin
      by_cases hlt : k < counts.length
      · obtain ⟨ad, u, rfl, -, hxk, hcell⟩ := hv.at1 hlt
        obtain ⟨hkl, rfl⟩ := ints_at _ _ _ hxk
        clear hxk
        have HO := hid_ (fun W => outside_any counts[k] 0 9999 W)
        cases hq : inB counts[k] 0 9999 with
        | true =>
          have HN := hid_ (allIn_take HIN.out hkl (inB_iff.1 hq))
          rw [hq] at HO
          clear hq
          go_wp2_with (go_at_call 26; (with_reducible refine (HO.out _).mono ?_); rintro e w' ⟨rfl, rfl⟩)
          go_round
          case rel => exact ⟨k + 1, by omega, by go_num, HN.out⟩
          case measure => simp [intOf]; omega
        | false =>
          have HF := hid_ (allIn_no hkl hq)
          rw [hq] at HO
          clear hq
          go_wp2_with (go_at_call 26; (with_reducible refine (HO.out _).mono ?_); rintro e w' ⟨rfl, rfl⟩)
          go_ret
          exact ⟨by rw [HE.out, HF.out]; rfl, rfl⟩
      · have HA : Hid (allIn counts 0 9999 = true) := hid_ (by have := HIN.out; rw [List.take_of_length_le (by omega)] at this; exact allIn_iff.2 this)
        go_wp2_with fail
        go_ret
        exact ⟨by rw [HE.out, HA.out]; rfl, rfl⟩
set_option maxRecDepth 20000 in
set_option maxHeartbeats 1000000 in
theorem rcost_bad (cs xs counts : List Int) (sl sv : Value) (w : World) (hl : cs.length = 16) (hs : SL w 1 sl xs.length (ints xs)) (hv : SL w 1 sv counts.length (ints counts)) (h : checkZ cs xs ≠ 0 ∨ (checkZ cs xs = 0 ∧ bcheckZ counts ≠ 0)) :
    Calls Try.prog 7 #[.agg (tblv cs sl), sv] w fun e w' => e = .returned (.tuple #[.int .i64 (costZ cs xs counts).1, .int .i64 (costZ cs xs counts).2]) ∧ Ext w w' := by
  have hts := hid_ (tblv_size cs sl hl)
  have HC := hid_ (fun W h => rcheck_any cs xs sl W hl h)
  rcases h with h | ⟨h, h2⟩
  · have HE : Hid (costZ cs xs counts = (0, checkZ cs xs)) := hid_ (by unfold costZ; rw [if_neg h])
    rw [HE.out]
    generalize tblv cs sl = tv at *
    generalize checkZ cs xs = z at *
    have hz2 : (z != 0) = true := by simpa using h
    clear h
    go_enter Try.func7, Try.ntmps7
    go_wp2_with (first
      | (refine wpList_box_abs rfl 25 (.tmp 0) rfl tv rfl ?_; intro w1 g hb1 hx1 hg; have hs1 := hs.ext hx1)
      | (refine wpList_load_blk rfl 25 (.tmp 2) rfl _ rfl hb1 _ Try.underlying25 rfl 17 sizeTbl hts.out ?_)
      | (go_at_call 17; (with_reducible refine (HC.out _ hs1).mono ?_); rintro e w2 ⟨rfl, hx2⟩))
    go_ret2
    exact ⟨rfl, hx1.trans hx2⟩
  · have HB := hid_ (fun W h' => rbcheck_any counts sv W h')
    have HE : Hid (costZ cs xs counts = (0, bcheckZ counts)) := hid_ (by unfold costZ; rw [if_pos h, if_neg h2])
    rw [HE.out]
    rw [h] at HC
    generalize tblv cs sl = tv at *
    generalize bcheckZ counts = z at *
    have hz2 : (z != 0) = true := by simpa using h2
    clear h h2
    go_enter Try.func7, Try.ntmps7
    go_wp2_with (first
      | (refine wpList_box_abs rfl 25 (.tmp 0) rfl tv rfl ?_; intro w1 g hb1 hx1 hg; have hs1 := hs.ext hx1)
      | (refine wpList_load_blk rfl 25 (.tmp 2) rfl _ rfl hb1 _ Try.underlying25 rfl 17 sizeTbl hts.out ?_)
      | (go_at_call 17; (with_reducible refine (HC.out _ hs1).mono ?_); rintro e w2 ⟨rfl, hx2⟩; have hv2 := (hv.ext hx1).ext hx2)
      | (go_at_call 18; (with_reducible refine (HB.out _ hv2).mono ?_); rintro e w3 ⟨rfl, rfl⟩))
    go_ret2
    exact ⟨rfl, hx1.trans hx2⟩
set_option maxRecDepth 20000 in
set_option maxHeartbeats 1000000 in
theorem rcost_good (cs xs counts : List Int) (sl sv : Value) (w : World) (hl : cs.length = 16) (hs : SL w 1 sl xs.length (ints xs)) (hv : SL w 1 sv counts.length (ints counts)) (h : checkZ cs xs = 0) (h2 : bcheckZ counts = 0) :
    Calls Try.prog 7 #[.agg (tblv cs sl), sv] w fun e w' => e = .returned (.tuple #[.int .i64 (costZ cs xs counts).1, .int .i64 (costZ cs xs counts).2]) ∧ Ext w w' := by
  have hts := hid_ (tblv_size cs sl hl)
  have HC := hid_ (fun W h => rcheck_any cs xs sl W hl h)
  have HB := hid_ (fun W h' => rbcheck_any counts sv W h')
  rw [h] at HC
  rw [h2] at HB
  have HWD := hid_ (fun s W h' => wordOf_any cs xs sl s W hl h' h)
  obtain ⟨b1, b2⟩ := bcheck_zero h2
  have HF := hid_ (fitT_of cs xs hl h)
  have HE : Hid (costZ cs xs counts = if hasAll (zipC (codesW cs 16) xs) counts then (costL (zipC (codesW cs 16) xs) counts counts.length, 0) else (0, 5)) := hid_ (by unfold costZ; rw [if_pos h, if_pos h2])
  have HCB := hid_ (costL_bd HF.out b2)
  have HALL := hid_ (allIn_iff.1 b2)
  generalize costZ cs xs counts = ez at *
  generalize tblv cs sl = tv at *
  generalize zipC (codesW cs 16) xs = T at *
  have HLB : Hid (∀ s, lenT T s ≤ 16) := hid_ (fun s => bitsT_len HF.out s)
  clear h h2 b2
  have hv' := hv
  obtain ⟨Av, cv, rfl, hcv1, hcv2, -, -⟩ := hv'
  go_enter Try.func7, Try.ntmps7
  go_wp2_with (first
    | (refine wpList_box_abs rfl 25 (.tmp 0) rfl tv rfl ?_; intro w1 g hb1 hx1 hg; have hs1 := hs.ext hx1)
    | (refine wpList_load_blk rfl 25 (.tmp 2) rfl _ rfl hb1 _ Try.underlying25 rfl 17 sizeTbl hts.out ?_)
    | (go_at_call 17; (with_reducible refine (HC.out _ hs1).mono ?_); rintro e w2 ⟨rfl, hx2⟩; have hv2 := (hv.ext hx1).ext hx2; have hb2 := hb1.ext hx2; have hs2 := hs1.ext hx2)
    | (go_at_call 18; (with_reducible refine (HB.out _ hv2).mono ?_); rintro e w3 ⟨rfl, rfl⟩))
  have hx := hx1.trans hx2
  clear hb1 hs1 hx1 hx2 hs hv
  go_loopw [8, 25] (fun v i wr => ∃ k : Nat, k ≤ counts.length ∧ i = .int .i64 (k : Int) ∧ v = .int .i64 (costL T counts k) ∧ (∀ j, (hj : j < counts.length) → j < k → counts[j] ≤ 0 ∨ (findT T (j : Int)).isSome = true) ∧ Ext w2 wr) (fun _ i _ => counts.length - (intOf i).toNat)
  case atStart => exact ⟨0, by omega, rfl, rfl, by intro j _ hj; omega, Ext.refl _⟩
  case round =>
    obtain ⟨m, hmk, rfl, rfl, hall, hxr⟩ := hrel
    have HALR := hid_ hall
    clear hall
    by_cases hlt2 : m < counts.length
    · obtain ⟨ad, u, hA, -, hxk, hcell⟩ := (hv2.ext hxr).at1 hlt2
      obtain ⟨hkl, rfl⟩ := ints_at _ _ _ hxk
      subst hA
      have hbr := hb2.ext hxr
      have hsr := hs2.ext hxr
      obtain ⟨n0, n1⟩ := HALL.out _ (List.getElem_mem hkl)
      obtain ⟨z0, z1⟩ := HCB.out m (by omega)
      have HCS := hid_ (costL_succ T counts m hkl)
      have hlb := HLB.out (m : Int)
      have HNO := hid_ (fun h h' => hasAll_no (T := T) hkl h h')
      have HP := hid_ (fun W h => HWD.out (m : Int) W h)
      have hsb : (strB (bitsT T (m : Int))).size = lenT T (m : Int) := strB_size _
      generalize hn : counts[m] = n at *
      have HN := hid_ hn
      clear hxk hn
      obtain ⟨nn, rfl⟩ : ∃ nn : Nat, n = (nn : Int) := ⟨n.toNat, by omega⟩
      have hprod : nn * lenT T (m : Int) ≤ 9999 * 16 := Nat.mul_le_mul (by omega) hlb
      generalize hsbs : strB (bitsT T (m : Int)) = sb at *
      generalize hl9 : lenT T (m : Int) = l at *
      have HSB := hid_ hsb
      have hp0 : (0 : Int) ≤ (nn : Int) * (sb.size : Int) := by rw [← Int.natCast_mul]; omega
      have hp1 : (nn : Int) * (sb.size : Int) ≤ 159984 := by rw [hsb, ← Int.natCast_mul]; omega
      have hsb16 : sb.size ≤ 16 := by omega
      clear hsbs hl9 hsb hprod
      cases hf : findT T (m : Int) with
      | none =>
        rw [hf] at HP
        by_cases hpos : 0 < nn
        · have HNO' := hid_ (HNO.out (by omega) hf)
          clear hf
          go_wp2_with (first
            | (refine wpList_load_blk rfl 25 (.tmp 2) rfl _ rfl hbr _ Try.underlying25 rfl 17 sizeTbl hts.out ?_)
            | (go_at_call 19; (with_reducible refine (HP.out _ hsr).mono ?_); rintro e w5 ⟨rfl, hx5⟩))
          go_ret2
          rw [HE.out, HNO'.out]
          exact ⟨rfl, (hx.trans hxr).trans hx5⟩
        · clear hf
          go_wp2_with (first
            | (refine wpList_load_blk rfl 25 (.tmp 2) rfl _ rfl hbr _ Try.underlying25 rfl 17 sizeTbl hts.out ?_)
            | (go_at_call 19; (with_reducible refine (HP.out _ hsr).mono ?_); rintro e w5 ⟨rfl, hx5⟩))
          go_roundw
          case rel =>
            refine ⟨m + 1, by omega, by go_num, vint (by rw [HCS.out, HSB.out]), fun j hj hjm => ?_, hxr.trans hx5⟩
            by_cases hjk : j = m
            · subst hjk; exact .inl (by have := HN.out; omega)
            · exact HALR.out j hj (by omega)
          case measure => simp [intOf]; omega
      | some t =>
        have HSM : Hid ((findT T (m : Int)).isSome = true) := hid_ (by rw [hf]; rfl)
        rw [hf] at HP
        clear hf
        by_cases hpos : 0 < nn
        all_goals
          go_wp2_with (first
            | (refine wpList_load_blk rfl 25 (.tmp 2) rfl _ rfl hbr _ Try.underlying25 rfl 17 sizeTbl hts.out ?_)
            | (go_at_call 19; (with_reducible refine (HP.out _ hsr).mono ?_); rintro e w5 ⟨rfl, hx5⟩))
          go_roundw
          case rel =>
            refine ⟨m + 1, by omega, by go_num, vint (by rw [HCS.out, HSB.out]), fun j hj hjm => ?_, hxr.trans hx5⟩
            by_cases hjk : j = m
            · subst hjk; exact .inr HSM.out
            · exact HALR.out j hj (by omega)
          case measure => simp [intOf]; omega
    · have emk : m = counts.length := by omega
      have HYES := hid_ (hasAll_yes (T := T) (counts := counts) (fun j hj => HALR.out j hj (by omega)))
      rw [emk]
      go_wp2_with fail
      go_ret2
      rw [HE.out, HYES.out]
      exact ⟨rfl, hx.trans hxr⟩
theorem rcost_any (cs xs counts : List Int) (sl sv : Value) (w : World) (hl : cs.length = 16) (hs : SL w 1 sl xs.length (ints xs)) (hv : SL w 1 sv counts.length (ints counts)) :
    Calls Try.prog 7 #[.agg (tblv cs sl), sv] w fun e w' => e = .returned (.tuple #[.int .i64 (costZ cs xs counts).1, .int .i64 (costZ cs xs counts).2]) ∧ Ext w w' := by
  by_cases h : checkZ cs xs = 0
  · by_cases h2 : bcheckZ counts = 0
    · exact rcost_good cs xs counts sl sv w hl hs hv h h2
    · exact rcost_bad cs xs counts sl sv w hl hs hv (.inr ⟨h, h2⟩)
  · exact rcost_bad cs xs counts sl sv w hl hs hv (.inl h)
end Go.Proofs.Ytlcpkngbpjfnjaa
