/- Contracts for the law BestMakes, part 18: what the functions that it reaches answer, for all arguments that the theorems name. -/
import Derived.Test.YtideigpabbhhkaaMBestMakes13
import Derived.Test.YtideigpabbhhkaaMBestMakes17
import Derived.Test.YtideigpabbhhkaaMBestMakes1
import Derived.ProofKit
import Derived.OpenShut
import Derived.ChangeSlices
import Derived.Test.YtideigpabbhhkaaMBestMakes10
import Derived.Deep.SlicePairs
import Derived.Test.YtideigpabbhhkaaMBestMakes15
import Derived.Test.YtideigpabbhhkaaMBestMakes16
import Derived.Test.YtideigpabbhhkaaRows
import Derived.JoinedCond
/- BestCheck, Cost of the reference. -/
namespace Go.Proofs.Ytideigpabbhhkaa
set_option linter.unusedVariables false
set_option linter.unusedSimpArgs false
open Go.RowKit
set_option maxHeartbeats 400000 in
theorem rbcheck_any (counts : List Int) (v : Value) (w : World) (hv : SL w 1 v counts.length (ints counts)) :
    Calls Try.prog 16 #[v] w fun e w' => e = .returned (.int .i64 (bcheckZ counts)) ∧ w = w' := by
  have hv' := hv
  obtain ⟨A, c, rfl, hc1, hc2, -, -⟩ := hv'
  by_cases h : 256 < counts.length
  · have HE : Hid (bcheckZ counts = 2) := hid_ (by unfold bcheckZ; rw [if_pos h])
    go_enter Try.func16, Try.ntmps16
    go_wp2_with fail
    go_ret
    exact ⟨by rw [HE.out]; rfl, rfl⟩
  · have HE : Hid (bcheckZ counts = if allIn counts 0 9999 then 0 else 1) := hid_ (by unfold bcheckZ; rw [if_neg h])
    go_enter Try.func16, Try.ntmps16
    go_wp2_with fail
    go_loop [10] (fun i => ∃ k : Nat, k ≤ counts.length ∧ i = .int .i64 (k : Int) ∧ ∀ z ∈ counts.take k, 0 ≤ z ∧ z ≤ 9999) (fun i => counts.length - (intOf i).toNat)
    case atStart => exact ⟨0, by omega, rfl, by simp⟩
    case round =>
      obtain ⟨k, hk, rfl, hin⟩ := hrel
      have HIN := hid_ hin
      clear hin
      by_cases hlt : k < counts.length
      · obtain ⟨ad, u, rfl, -, hxk, hcell⟩ := hv.at1 hlt
        obtain ⟨hkl, rfl⟩ := ints_at _ _ _ hxk
        clear hxk
        have HO := hid_ (fun W => outside_any counts[k] 0 9999 W)
        cases hq : inB counts[k] 0 9999 with
        | true =>
          have HN := hid_ (allIn_take HIN.out hkl (inB_iff.1 hq))
          rw [hq] at HO
          clear hq
          go_wp2_with (go_at_call 20; (with_reducible refine (HO.out _).mono ?_); rintro e w' ⟨rfl, rfl⟩)
          go_round
          case rel => exact ⟨k + 1, by omega, by go_num, HN.out⟩
          case measure => simp [intOf]; omega
        | false =>
          have HF := hid_ (allIn_no hkl hq)
          rw [hq] at HO
          clear hq
          go_wp2_with (go_at_call 20; (with_reducible refine (HO.out _).mono ?_); rintro e w' ⟨rfl, rfl⟩)
          go_ret
          exact ⟨by rw [HE.out, HF.out]; rfl, rfl⟩
      · have HA : Hid (allIn counts 0 9999 = true) := hid_ (by have := HIN.out; rw [List.take_of_length_le (by omega)] at this; exact allIn_iff.2 this)
        go_wp2_with fail
        go_ret
        exact ⟨by rw [HE.out, HA.out]; rfl, rfl⟩
set_option maxRecDepth 20000 in
set_option maxHeartbeats 1000000 in
theorem rcost_bad (cs xs counts : List Int) (sl sv : Value) (w : World) (hl : cs.length = 16) (hs : SL w 1 sl xs.length (ints xs)) (hv : SL w 1 sv counts.length (ints counts)) (h : checkZ cs xs ≠ 0 ∨ (checkZ cs xs = 0 ∧ bcheckZ counts ≠ 0)) :
    Calls Try.prog 14 #[.agg (tblv cs sl), sv] w fun e w' => e = .returned (.tuple #[.int .i64 (costZ cs xs counts).1, .int .i64 (costZ cs xs counts).2]) ∧ Ext w w' := by
  have hts := hid_ (tblv_size cs sl hl)
  have HC := hid_ (fun W h => rcheck_any cs xs sl W hl h)
  rcases h with h | ⟨h, h2⟩
  · have HE : Hid (costZ cs xs counts = (0, checkZ cs xs)) := hid_ (by unfold costZ; rw [if_neg h])
    rw [HE.out]
    generalize tblv cs sl = tv at *
    generalize checkZ cs xs = z at *
    have hz2 : (z != 0) = true := by simpa using h
    clear h
    go_enter Try.func14, Try.ntmps14
    go_wp2_with (first
      | (refine wpList_box_abs rfl 25 (.tmp 0) rfl tv rfl ?_; intro w1 g hb1 hx1 hg; have hs1 := hs.ext hx1)
      | (refine wpList_load_blk rfl 25 (.tmp 2) rfl _ rfl hb1 _ Try.underlying25 rfl 17 sizeTbl hts.out ?_)
      | (go_at_call 8; (with_reducible refine (HC.out _ hs1).mono ?_); rintro e w2 ⟨rfl, hx2⟩))
    go_ret2
    exact ⟨rfl, hx1.trans hx2⟩
  · have HB := hid_ (fun W h' => rbcheck_any counts sv W h')
    have HE : Hid (costZ cs xs counts = (0, bcheckZ counts)) := hid_ (by unfold costZ; rw [if_pos h, if_neg h2])
    rw [HE.out]
    rw [h] at HC
    generalize tblv cs sl = tv at *
    generalize bcheckZ counts = z at *
    have hz2 : (z != 0) = true := by simpa using h2
    clear h h2
    go_enter Try.func14, Try.ntmps14
    go_wp2_with (first
      | (refine wpList_box_abs rfl 25 (.tmp 0) rfl tv rfl ?_; intro w1 g hb1 hx1 hg; have hs1 := hs.ext hx1)
      | (refine wpList_load_blk rfl 25 (.tmp 2) rfl _ rfl hb1 _ Try.underlying25 rfl 17 sizeTbl hts.out ?_)
      | (go_at_call 8; (with_reducible refine (HC.out _ hs1).mono ?_); rintro e w2 ⟨rfl, hx2⟩; have hv2 := (hv.ext hx1).ext hx2)
      | (go_at_call 16; (with_reducible refine (HB.out _ hv2).mono ?_); rintro e w3 ⟨rfl, rfl⟩))
    go_ret2
    exact ⟨rfl, hx1.trans hx2⟩
set_option maxRecDepth 20000 in
set_option maxHeartbeats 1000000 in
theorem rcost_good (cs xs counts : List Int) (sl sv : Value) (w : World) (hl : cs.length = 16) (hs : SL w 1 sl xs.length (ints xs)) (hv : SL w 1 sv counts.length (ints counts)) (h : checkZ cs xs = 0) (h2 : bcheckZ counts = 0) :
    Calls Try.prog 14 #[.agg (tblv cs sl), sv] w fun e w' => e = .returned (.tuple #[.int .i64 (costZ cs xs counts).1, .int .i64 (costZ cs xs counts).2]) ∧ Ext w w' := by
  have hts := hid_ (tblv_size cs sl hl)
  have HC := hid_ (fun W h => rcheck_any cs xs sl W hl h)
  have HB := hid_ (fun W h' => rbcheck_any counts sv W h')
  rw [h] at HC
  rw [h2] at HB
  have HWD := hid_ (fun s W h' => wordOf_any cs xs sl s W hl h' h)
  obtain ⟨b1, b2⟩ := bcheck_zero h2
  have HF := hid_ (fitT_of cs xs hl h)
  have HE : Hid (costZ cs xs counts = if hasAll (zipC (codesW cs 16) xs) counts then (costL (zipC (codesW cs 16) xs) counts counts.length, 0) else (0, 5)) := hid_ (by unfold costZ; rw [if_pos h, if_pos h2])
  have HCB := hid_ (costL_bd HF.out b2)
  have HALL := hid_ (allIn_iff.1 b2)
  generalize costZ cs xs counts = ez at *
  generalize tblv cs sl = tv at *
  generalize zipC (codesW cs 16) xs = T at *
  have HLB : Hid (∀ s, lenT T s ≤ 16) := hid_ (fun s => bitsT_len HF.out s)
  clear h h2 b2
  have hv' := hv
  obtain ⟨Av, cv, rfl, hcv1, hcv2, -, -⟩ := hv'
  go_enter Try.func14, Try.ntmps14
  go_wp2_with (first
    | (refine wpList_box_abs rfl 25 (.tmp 0) rfl tv rfl ?_; intro w1 g hb1 hx1 hg; have hs1 := hs.ext hx1)
    | (refine wpList_load_blk rfl 25 (.tmp 2) rfl _ rfl hb1 _ Try.underlying25 rfl 17 sizeTbl hts.out ?_)
    | (go_at_call 8; (with_reducible refine (HC.out _ hs1).mono ?_); rintro e w2 ⟨rfl, hx2⟩; have hv2 := (hv.ext hx1).ext hx2; have hb2 := hb1.ext hx2; have hs2 := hs1.ext hx2)
    | (go_at_call 16; (with_reducible refine (HB.out _ hv2).mono ?_); rintro e w3 ⟨rfl, rfl⟩))
  have hx := hx1.trans hx2
  clear hb1 hs1 hx1 hx2 hs hv
  go_loopw [8, 25] (fun v i wr => ∃ k : Nat, k ≤ counts.length ∧ i = .int .i64 (k : Int) ∧ v = .int .i64 (costL T counts k) ∧ (∀ j, (hj : j < counts.length) → j < k → counts[j] ≤ 0 ∨ (findT T (j : Int)).isSome = true) ∧ Ext w2 wr) (fun _ i _ => counts.length - (intOf i).toNat)
  case atStart => exact ⟨0, by omega, rfl, rfl, by intro j _ hj; omega, Ext.refl _⟩
  case round =>
    obtain ⟨m, hmk, rfl, rfl, hall, hxr⟩ := hrel
    have HALR := hid_ hall
    clear hall
    by_cases hlt2 : m < counts.length
    · obtain ⟨ad, u, hA, -, hxk, hcell⟩ := (hv2.ext hxr).at1 hlt2
      obtain ⟨hkl, rfl⟩ := ints_at _ _ _ hxk
      subst hA
      have hbr := hb2.ext hxr
      have hsr := hs2.ext hxr
      obtain ⟨n0, n1⟩ := HALL.out _ (List.getElem_mem hkl)
      obtain ⟨z0, z1⟩ := HCB.out m (by omega)
      have HCS := hid_ (costL_succ T counts m hkl)
      have hlb := HLB.out (m : Int)
      have HNO := hid_ (fun h h' => hasAll_no (T := T) hkl h h')
      have HP := hid_ (fun W h => HWD.out (m : Int) W h)
      have hsb : (strB (bitsT T (m : Int))).size = lenT T (m : Int) := strB_size _
      generalize hn : counts[m] = n at *
      have HN := hid_ hn
      clear hxk hn
      obtain ⟨nn, rfl⟩ : ∃ nn : Nat, n = (nn : Int) := ⟨n.toNat, by omega⟩
      have hprod : nn * lenT T (m : Int) ≤ 9999 * 16 := Nat.mul_le_mul (by omega) hlb
      generalize hsbs : strB (bitsT T (m : Int)) = sb at *
      generalize hl9 : lenT T (m : Int) = l at *
      have HSB := hid_ hsb
      have hp0 : (0 : Int) ≤ (nn : Int) * (sb.size : Int) := by rw [← Int.natCast_mul]; omega
      have hp1 : (nn : Int) * (sb.size : Int) ≤ 159984 := by rw [hsb, ← Int.natCast_mul]; omega
      have hsb16 : sb.size ≤ 16 := by omega
      clear hsbs hl9 hsb hprod
      cases hf : findT T (m : Int) with
      | none =>
        rw [hf] at HP
        by_cases hpos : 0 < nn
        · have HNO' := hid_ (HNO.out (by omega) hf)
          clear hf
          go_wp2_with (first
            | (refine wpList_load_blk rfl 25 (.tmp 2) rfl _ rfl hbr _ Try.underlying25 rfl 17 sizeTbl hts.out ?_)
            | (go_at_call 26; (with_reducible refine (HP.out _ hsr).mono ?_); rintro e w5 ⟨rfl, hx5⟩))
          go_ret2
          rw [HE.out, HNO'.out]
          exact ⟨rfl, (hx.trans hxr).trans hx5⟩
        · clear hf
          go_wp2_with (first
            | (refine wpList_load_blk rfl 25 (.tmp 2) rfl _ rfl hbr _ Try.underlying25 rfl 17 sizeTbl hts.out ?_)
            | (go_at_call 26; (with_reducible refine (HP.out _ hsr).mono ?_); rintro e w5 ⟨rfl, hx5⟩))
          go_roundw
          case rel =>
            refine ⟨m + 1, by omega, by go_num, vint (by rw [HCS.out, HSB.out]), fun j hj hjm => ?_, hxr.trans hx5⟩
            by_cases hjk : j = m
            · subst hjk; exact .inl (by have := HN.out; omega)
            · exact HALR.out j hj (by omega)
          case measure => simp [intOf]; omega
      | some t =>
        have HSM : Hid ((findT T (m : Int)).isSome = true) := hid_ (by rw [hf]; rfl)
        rw [hf] at HP
        clear hf
        by_cases hpos : 0 < nn
        all_goals
          go_wp2_with (first
            | (refine wpList_load_blk rfl 25 (.tmp 2) rfl _ rfl hbr _ Try.underlying25 rfl 17 sizeTbl hts.out ?_)
            | (go_at_call 26; (with_reducible refine (HP.out _ hsr).mono ?_); rintro e w5 ⟨rfl, hx5⟩))
          go_roundw
          case rel =>
            refine ⟨m + 1, by omega, by go_num, vint (by rw [HCS.out, HSB.out]), fun j hj hjm => ?_, hxr.trans hx5⟩
            by_cases hjk : j = m
            · subst hjk; exact .inr HSM.out
            · exact HALR.out j hj (by omega)
          case measure => simp [intOf]; omega
    · have emk : m = counts.length := by omega
      have HYES := hid_ (hasAll_yes (T := T) (counts := counts) (fun j hj => HALR.out j hj (by omega)))
      rw [emk]
      go_wp2_with fail
      go_ret2
      rw [HE.out, HYES.out]
      exact ⟨rfl, hx.trans hxr⟩
theorem rcost_any (cs xs counts : List Int) (sl sv : Value) (w : World) (hl : cs.length = 16) (hs : SL w 1 sl xs.length (ints xs)) (hv : SL w 1 sv counts.length (ints counts)) :
    Calls Try.prog 14 #[.agg (tblv cs sl), sv] w fun e w' => e = .returned (.tuple #[.int .i64 (costZ cs xs counts).1, .int .i64 (costZ cs xs counts).2]) ∧ Ext w w' := by
  by_cases h : checkZ cs xs = 0
  · by_cases h2 : bcheckZ counts = 0
    · exact rcost_good cs xs counts sl sv w hl hs hv h h2
    · exact rcost_bad cs xs counts sl sv w hl hs hv (.inr ⟨h, h2⟩)
  · exact rcost_bad cs xs counts sl sv w hl hs hv (.inl h)
end Go.Proofs.Ytideigpabbhhkaa
/- Arguments opened: what their reading says of their cells. -/
namespace Go.Proofs.Ytideigpabbhhkaa
set_option linter.unusedVariables false
set_option linter.unusedSimpArgs false
open Go.RowKit Go.ChangeShapes Go.WideShapes Go.ChangeAt
def inI64 (z : Int) : Prop := -9223372036854775808 ≤ z ∧ z ≤ 9223372036854775807
theorem inI64_of_wf {z : Int} (h : (Lit.int .i64 z).wf = true) : inI64 z := by
  simp [Lit.wf, IntKind.min, IntKind.max, IntKind.signed, IntKind.bits] at h
  exact ⟨by omega, by omega⟩
theorem ints_of_cells {Q : Int → Prop} : ∀ (cs : List Value), (∀ i, i < cs.length → ∃ z, cs[i]? = some (.int .i64 z) ∧ Q z) → ∃ zs : List Int, cs = ints zs ∧ ∀ z ∈ zs, Q z
  | [], _ => ⟨[], rfl, by simp⟩
  | c :: cs, h => by
    obtain ⟨z, hz, hq⟩ := h 0 (by simp)
    obtain ⟨zs, rfl, hqs⟩ := ints_of_cells cs (fun i hi => by have := h (i + 1) (by simpa using hi); simpa using this)
    refine ⟨z :: zs, ?_, ?_⟩
    · simp at hz; subst hz; rfl
    · intro y hy
      cases hy with
      | head => exact hq
      | tail _ hy => exact hqs y hy
section
variable {H : Type} {enc : TypeId × Value → H} {P : Program} {w : World} {base : Nat} {spare : Nat → Bool} {held : Bool}
theorem trod_int_cell {t : TypeId} {fuel : Nat} {cs : List Value} {x : DataW H × List MemPlace} (ht : P.underlying t = some (.int .i64)) (h : DataW.trod enc P w base spare held fuel t cs = some x) :
    ∃ z, cs = [.int .i64 z] ∧ inI64 z := by
  obtain ⟨z, e, -, hw⟩ := DataW.trod_int ht h
  exact ⟨z, e, inI64_of_wf hw⟩
theorem trod_ints_arr {n : Nat} {t e : TypeId} {fuel : Nat} {cs : List Value} {x : DataW H × List MemPlace} (ht : P.underlying t = some (.array n e)) (he : P.underlying e = some (.int .i64)) (hce : P.cellsOf e = 1) (hct : P.cellsOf t = n)
    (h : DataW.trod enc P w base spare held fuel t cs = some x) : ∃ zs : List Int, zs.length = n ∧ cs = ints zs ∧ ∀ z ∈ zs, inI64 z := by
  obtain ⟨xs, m, -, -, hlen, hxl, hi⟩ := DataW.trod_array ht h
  rw [hct] at hlen
  have hcells : ∀ i, i < cs.length → ∃ z, cs[i]? = some (.int .i64 z) ∧ inI64 z := by
    intro i hlt
    have h1 := hi i (by omega)
    rw [hce, Nat.mul_one] at h1
    have hx : xs[i]? = some (xs[i]'(by omega)) := List.getElem?_eq_getElem (by omega)
    rw [hx] at h1
    obtain ⟨z, hz, hq⟩ := trod_int_cell he h1
    refine ⟨z, ?_, hq⟩
    rw [List.drop_eq_getElem_cons hlt] at hz
    simp only [List.take_succ_cons, List.take_zero, List.cons.injEq, and_true] at hz
    rw [List.getElem?_eq_getElem hlt, hz]
  obtain ⟨zs, rfl, hq⟩ := ints_of_cells cs hcells
  exact ⟨zs, by simpa [ints_len] using hlen, rfl, hq⟩
theorem okWide_array {P : Program} {w : World} {r : Reach} {base : Nat} {t e : TypeId} {n : Nat} {v : Value} (ht : P.underlying t = some (.array n e)) (h : Value.okWide P w r base t v) : ∃ cs, v = .agg cs ∧ cs.size = P.cellsOf t := by
  simp only [Value.okWide, ht] at h
  obtain ⟨cs, h1, h2, _⟩ := h
  exact ⟨cs, h1, h2⟩
theorem cellsInt : Try.prog.cellsOf 3 = 1 := by kernel_rfl
end
end Go.Proofs.Ytideigpabbhhkaa
/- Opening a parameter: a list of integers, a table. -/
namespace Go.Proofs.Ytideigpabbhhkaa
set_option linter.unusedVariables false
set_option linter.unusedSimpArgs false
open Go.RowKit Go.ChangeShapes Go.WideShapes Go.ChangeAt
section
variable {H : Type} {enc : TypeId × Value → H} {w : World} {base : Nat} {spare : Nat → Bool} {held : Bool}
theorem open_intsX {fuel : Nat} {cs : List Value} {x : DataW H × List MemPlace} (h : DataW.trod enc Try.prog w base spare held fuel 23 cs = some x) :
    ∃ (zs : List Int) (v : Value), cs = [v] ∧ SL w 1 v zs.length (ints zs) ∧ ∀ z ∈ zs, inI64 z := by
  rcases open_ints Try.underlying23 Try.underlying3 cellsInt h with ⟨rfl, -⟩ | ⟨a, len, cap, zs, rfl, -, hlc, hcm, hzl, -, hcell, hwf⟩
  · exact ⟨[], _, rfl, SL.nil w 1, by simp⟩
  · have hlen : len ≤ zs.length := by rw [hzl]; split <;> omega
    refine ⟨zs.take len, _, rfl, ?_, fun z hz => inI64_of_wf (hwf z (List.mem_of_mem_take hz))⟩
    have hl : (zs.take len).length = len := by rw [List.length_take]; omega
    rw [hl]
    refine ⟨some a, cap, rfl, hlc, by unfold maxLen at hcm; omega, by rw [ints_len, hl]; omega, fun h0 => ⟨a, rfl, ?_, fun j u hu => ?_⟩⟩
    · have := hcell 0 (by omega)
      have h2 := World.block_lt_of_cell? w _ this
      rwa [block_of_add] at h2
    · obtain ⟨hj, rfl⟩ := ints_at _ _ _ hu
      have hj2 : j < len := by omega
      rw [hcell j (by omega)]
      simp [List.getD_eq_getElem?_getD, show j < zs.length by omega]
theorem cells16 : Try.prog.cellsOf 22 = 16 := by kernel_rfl
theorem cellsSl : Try.prog.cellsOf 23 = 1 := by kernel_rfl
theorem cellsTbl : Try.prog.cellsOf 25 = 17 := by kernel_rfl
set_option maxRecDepth 20000 in
theorem open_table {b0 : Nat} {r : Reach} {v : Value} {d : DataW H} {p : List MemPlace} (hv : Value.okWide Try.prog w r b0 25 v) (h : DataW.Trod enc Try.prog w base spare held 25 v d p) :
    ∃ (zs xs : List Int) (sl : Value), v = .agg (tblv zs sl) ∧ zs.length = 16 ∧ (∀ z ∈ zs, inI64 z) ∧ SL w 1 sl xs.length (ints xs) ∧ ∀ z ∈ xs, inI64 z := by
  obtain ⟨cs, rfl, hsz⟩ := okWide_struct Try.underlying25 hv
  obtain ⟨fuel, hf⟩ := h
  obtain ⟨y0, y1, n, -, hlen, h0, h1⟩ := trod_struct2 Try.underlying25 hf
  have hL : cs.toList.length = 17 := by rw [show cs.toList.length = cs.size by simp, hsz, cellsTbl]
  have hcs : (Value.agg cs).cells.toList = cs.toList := rfl
  rw [hcs] at h0 h1
  dsimp only at h0 h1
  obtain ⟨zs, hz, hc, hq⟩ := trod_ints_arr Try.underlying22 Try.underlying3 cellsInt cells16 h0
  obtain ⟨xs, sl, hs, hsl, hxq⟩ := open_intsX h1
  rw [cells16, List.drop_zero] at hc
  rw [cellsSl] at hs
  refine ⟨zs, xs, sl, ?_, hz, hq, hsl, hxq⟩
  have e2 : cs.toList.drop 16 = [sl] := by
    rw [← hs]
    rw [List.take_of_length_le (by rw [List.length_drop, hL]; omega)]
  have e : cs.toList = ints zs ++ [sl] := by
    rw [← hc, ← e2, List.take_append_drop]
  congr 1
  apply Array.ext'
  rw [e]
  simp [tblv]
end
end Go.Proofs.Ytideigpabbhhkaa
/- A row of bytes, as values. -/
namespace Go.Proofs.Ytideigpabbhhkaa
set_option linter.unusedVariables false
set_option linter.unusedSimpArgs false
open Go.RowKit
def bytesV (l : List Nat) : List Value := l.map fun x : Nat => Value.int .u8 (x : Int)
theorem bytesV_len (l : List Nat) : (bytesV l).length = l.length := by simp [bytesV]
theorem bytesV_snoc (l : List Nat) (x : Nat) : bytesV (l ++ [x]) = bytesV l ++ [.int .u8 (x : Int)] := by simp [bytesV]
end Go.Proofs.Ytideigpabbhhkaa
/- Opening a parameter that is a slice. -/
namespace Go.Proofs.Ytideigpabbhhkaa
set_option linter.unusedVariables false
set_option linter.unusedSimpArgs false
open Go.RowKit Go.ChangeShapes Go.WideShapes Go.ChangeAt
section
variable {H : Type} {enc : TypeId × Value → H} {w : World} {base : Nat} {spare : Nat → Bool} {held : Bool}
theorem slice_value {P : Program} {r : Reach} {b0 : Nat} {t e : TypeId} {v : Value} {u : Value} (ht : P.underlying t = some (.slice e)) (hv : Value.okWide P w r b0 t v) (hc : v.cells.toList = [u]) (hu : ∀ cs, u ≠ .agg cs) : v = u := by
  cases v with
  | agg cs =>
    simp [Value.okWide, ht, Cell.okWide, Cell.ok] at hv
  | _ => simpa [Value.cells] using hc
set_option maxRecDepth 20000 in
theorem open_ints_v {b0 : Nat} {r : Reach} {v : Value} {d : DataW H} {p : List MemPlace} (hv : Value.okWide Try.prog w r b0 23 v) (h : DataW.Trod enc Try.prog w base spare held 23 v d p) :
    ∃ zs : List Int, SL w 1 v zs.length (ints zs) ∧ ∀ z ∈ zs, inI64 z := by
  obtain ⟨fuel, hf⟩ := h
  obtain ⟨zs, u, hcs, hs, hz⟩ := open_intsX hf
  have : v = u := slice_value Try.underlying23 hv hcs (by obtain ⟨A, c, rfl, -⟩ := hs; simp)
  subst this
  exact ⟨zs, hs, hz⟩
end
end Go.Proofs.Ytideigpabbhhkaa
/- The law BestMakes, walked. -/
namespace Go.Proofs.Ytideigpabbhhkaa.bestMakes
set_option linter.unusedVariables false
set_option linter.unusedSimpArgs false
open Go.RowKit
set_option maxRecDepth 20000 in
set_option maxHeartbeats 4000000 in
/-- the judgement of a table that just the symbols stand in, and that costs what BestCost says -/
theorem short (counts cs xs : List Int) (sl cv : Value) (w : World) (hl : cs.length = 16) (hs : SL w 1 sl xs.length (ints xs)) (hv : SL w 1 cv counts.length (ints counts)) (hM : BM.Made counts cs xs) (hb : bcheckZ counts = 0) :
    Calls Try.prog 18 #[.agg (tblv cs sl), cv] w fun e w' => e = .returned (.bool true) ∧ Ext w w' := by
  obtain ⟨m1, m2, m3⟩ := BM.made_good hM hb
  obtain ⟨b1, -⟩ := bcheck_zero hb
  have HC := hid_ (fun W (hx : Ext w W) => rcheck_any cs xs sl W hl (hs.ext hx))
  rw [m1] at HC
  have HCO := hid_ (fun W (hx : Ext w W) => rcost_any cs xs counts sl cv W hl (hs.ext hx) (hv.ext hx))
  have hv' := hv
  obtain ⟨A, c, rfl, hc1, hc2, -, -⟩ := hv'
  have hs' := hs
  obtain ⟨B, d, rfl, hd1, hd2, -, -⟩ := hs'
  have HBC := hid_ (fun W (hx : Ext w W) => bestCost_any counts A counts.length c rfl W (hv.ext hx) hb)
  have hts := hid_ (tblv_size cs (.slice B xs.length d) hl)
  have HR := hid_ (fun W g (h : Blk W g 25 (tblv cs (.slice B xs.length d))) => tblv_last h hl)
  have HX := hid_ m2
  obtain ⟨V, hV⟩ : ∃ V, costZ cs xs counts = V := ⟨_, rfl⟩
  have HV : Hid (∀ ws : List Nat, ws.Perm (0 :: BM.posN counts counts.length) → ws.Pairwise (· ≤ ·) → V = (((BM.bestZ ws : Nat) : Int), 0)) := hid_ (fun ws a b => by rw [← hV]; exact m3 ws a b)
  rw [hV] at HCO
  have hV2 : V.2 = 0 := by
    have h := HV.out ((0 :: BM.posN counts counts.length).mergeSort (fun a b => decide (a ≤ b))) (List.mergeSort_perm _ _) ((List.pairwise_mergeSort (le := fun a b : Nat => decide (a ≤ b)) (fun a b c h1 h2 => by simp at h1 h2 ⊢; omega) (fun a b => by simp; omega) _).imp (fun {a b} h => by simpa using h))
    rw [h]
  obtain ⟨V1, V2⟩ := V
  dsimp only at hV2 HCO
  subst hV2
  clear hV m1 m2 m3 hM
  obtain ⟨xn, hxn⟩ : ∃ n, xs.length = n := ⟨_, rfl⟩
  have HXN := hid_ hxn
  obtain ⟨n, hn⟩ : ∃ n, counts.length = n := ⟨_, rfl⟩
  have HN := hid_ hn
  rw [hn] at b1 hv HBC hc1 HCO ⊢
  rw [hxn] at hs HC HCO hts HR hd1 ⊢
  generalize tblv cs (.slice B xn d) = tv at *
  clear hn hxn
  go_enter Try.func18, Try.ntmps18
  go_upto_region 4 with (first
    | ((with_reducible show wpList _ _ _ (⟨some 2, _, _, _, _, _⟩ :: _) _ _); refine wpList_box_abs rfl 25 (.tmp 0) rfl tv rfl ?_; intro w1 g hb1 hx1 hg)
    | ((with_reducible show wpList _ _ _ (⟨some 9, _, _, _, _, _⟩ :: _) _ _); refine wpList_load_blk rfl 25 (.tmp 2) rfl g rfl hb1 _ Try.underlying25 rfl 17 sizeTbl hts.out ?_)
    | (go_at_call 8; (with_reducible refine (HC.out _ hx1).mono ?_); rintro e w2 ⟨rfl, hx2⟩; have hb2 := hb1.ext hx2; have hx02 := hx1.trans hx2; have hl2 := HR.out _ _ hb2)
    | ((with_reducible show wpList _ _ _ (⟨some 13, _, _, _, _, _⟩ :: _) _ _); refine wl_read rfl (.slice B xn d) (ex_loadL rfl rfl hl2) ?_))
  have hs2 := hs.ext hx02
  have hv2 := hv.ext hx02
  clear hx1 hx2 hb1
  go_loopw [15] (fun iv wr => ∃ (i : Nat), i ≤ xn ∧ iv = .int .i64 (i : Int) ∧ Ext w2 wr) (fun i _ => xn - (intOf i).toNat)
  case atStart => exact ⟨0, by omega, rfl, Ext.refl _⟩
  case round =>
    obtain ⟨i, hi, rfl, hx⟩ := hrel
    by_cases hlt : i < xn
    · obtain ⟨ad, u, rfl, hab, hxk, hcell⟩ := (hs2.ext hx).at1 hlt
      obtain ⟨hkl, rfl⟩ := ints_at _ _ _ hxk
      obtain ⟨s, hs8, hs9, hs0⟩ := HX.out _ (List.getElem_mem hkl)
      rw [hs8] at hcell
      rw [HN.out] at hs9
      obtain ⟨ad2, u2, rfl, hab2, hxk2, hcell2⟩ := (hv2.ext hx).at1 hs9
      obtain ⟨hkl2, rfl⟩ := ints_at _ _ _ hxk2
      rw [show counts.getD s 0 = counts[s] by simp [hkl2]] at hs0
      generalize counts[s] = cz at *
      clear hxk hxk2 hs8
      go_wp2_with (first
        | ((with_reducible show wpList _ _ _ (⟨some 22, _, _, _, _, _⟩ :: _) _ _); refine wl_run rfl (.bool false) (ex_geq rfl rfl rfl (by simp; omega)) ?_)
        | ((with_reducible show wpList _ _ _ (⟨some 28, _, _, _, _, _⟩ :: _) _ _); refine wl_run_g (by rfl) (.bool false) (ex_eql rfl rfl rfl (by simpa using hs0)) ?_))
      go_roundw
      case rel => exact ⟨i + 1, by omega, by go_num, hx⟩
      case measure => simp [intOf]; omega
    · have hb9 := hb2.ext hx
      have hx9 := hx02.trans hx
      go_wp2_with (first
        | ((with_reducible show wpList _ _ _ (⟨some 16, _, _, _, _, _⟩ :: _) _ _); refine wl_run rfl (.bool false) (ex_lss rfl rfl rfl (by simpa using hlt)) ?_)
        | ((with_reducible show wpList _ _ _ (⟨some 32, _, _, _, _, _⟩ :: _) _ _); refine wpList_load_blk rfl 25 (.tmp 2) rfl g rfl hb9 _ Try.underlying25 rfl 17 sizeTbl hts.out ?_)
        | (go_at_call 14; (with_reducible refine (HCO.out _ hx9).mono ?_); rintro e w5 ⟨rfl, hx5⟩; have hx05 := hx9.trans hx5)
        | (go_at_call 32; (with_reducible refine (HBC.out _ hx05).mono ?_); rintro e w6 ⟨⟨ws, hw1, hw2, rfl⟩, hx6⟩; have hz : V1 = ((BM.bestZ ws : Nat) : Int) := (congrArg Prod.fst (HV.out ws (by rw [HN.out]; exact hw1) hw2)))
        | ((with_reducible show wpList _ _ _ (⟨some 43, _, _, _, _, _⟩ :: _) _ _); refine wl_run_g (by rfl) (.bool true) (ex_eql rfl rfl rfl (by simp [hz])) ?_))
      go_ret
      exact ⟨rfl, hx05.trans hx6⟩
theorem one_bad : bcheckZ [-1] = 1 := by decide
set_option maxRecDepth 20000 in
set_option maxHeartbeats 4000000 in
theorem walk (cv : Value) (counts : List Int) (_ : ∀ z ∈ counts, inI64 z) (w : World) (hv : SL w 1 cv counts.length (ints counts)) :
    Calls Try.prog 6 #[cv] w fun e w' => e = .returned (.bool true) ∧ Ext w w' := by
  have hv' := hv
  obtain ⟨A, c, rfl, hc1, hc2, -, -⟩ := hv'
  have HM1 := hid_ (fun W g (h : Blk W g 3 #[.int .i64 (-1)]) => make_bad [-1] (some ⟨g, 0, none⟩) 1 1 rfl W (IntsAt.lit h).1 (by rw [one_bad]; decide))
  rw [one_bad] at HM1
  have HRB := hid_ (fun W (hx : Ext w W) => rbcheck_any counts (.slice A counts.length c) W (hv.ext hx))
  have HZ := zeroTblM
  have hzz := hid_ (tblv_size (List.replicate 16 0) (.slice none 0 0) (by simp))
  have hzs : Hid ((Value.agg (tblv (List.replicate 16 0) (.slice none 0 0))).cells.size = 17) := hid_ (tblv_size _ _ (by simp))
  have HZO := hid_ (tblM_one (List.replicate 16 0) none 0 0)
  by_cases hb : bcheckZ counts = 0
  · have HM := hid_ (fun W (hx : Ext w W) => make_good counts A counts.length c rfl W (hv.ext hx) hb)
    rw [hb] at HRB
    have HSH := hid_ (fun W cs xs sl (hx : Ext w W) (hl : cs.length = 16) (hs : SL W 1 sl xs.length (ints xs)) (hM : BM.Made counts cs xs) => short counts cs xs sl (.slice A counts.length c) W hl hs (hv.ext hx) hM hb)
    have HTS := hid_ (fun (cs : List Int) v (h : cs.length = 16) => tblv_size cs v h)
    have HTO := hid_ (fun (cs : List Int) => tblM_one cs)
    obtain ⟨n, hn⟩ : ∃ n, counts.length = n := ⟨_, rfl⟩
    rw [hn] at HM HRB HSH ⊢
    generalize tblv (List.replicate 16 0) (.slice none 0 0) = tz at *
    clear hn hv hb
    go_enter Try.func6, Try.ntmps6
    go_wp2_with (first
      | (go_at_call 15; first
        | ((with_reducible refine (HM.out _ (Ext.refl w)).mono ?_); rintro e w1 ⟨cs, xs, B, d, rfl, hM, hcl, ho, hx1⟩; have hs1 := (own_out ho).1; generalize hxl : xs.length = xn at *)
        | ((with_reducible refine (HM1.out _ _ hb5).mono ?_); rintro e w6 ⟨rfl, hx6⟩; have hx06 := hx05.trans hx6; have hb6 := hb35.ext hx6))
      | ((with_reducible show wpList _ _ _ (⟨some 3, _, _, _, _, _⟩ :: _) _ _); refine wpList_alloc_abs' rfl (some 3) rfl 25 rfl _ HZ ?_; intro w2 g2 hp2 hx2 hg2)
      | ((with_reducible show wpList _ _ _ (⟨none, .store _ (.tmp 3) (.tmp 11), _, _, _, _⟩ :: _) _ _); refine wpList_store_blk rfl 25 (.tmp 3) (.tmp 11) rfl g2 (tblv cs (.slice B xn d)) rfl rfl hp2 17 sizeTbl (HTS.out _ _ hcl) hzs.out (HTO.out _ _ _ _) ?_; intro w3 hb3 hg3; have hx13 := hx2.grown hg3 hg2; have hs3 := hs1.ext hx13; have hx03 := hx1.trans hx13)
      | ((with_reducible show wpList _ _ _ (⟨some 14, _, _, _, _, _⟩ :: _) _ _); refine wpList_lit1 rfl 23 3 _ rfl (some 14) rfl Try.underlying23 1 sizeI zeroI1 (.int .i64 (-1)) rfl rfl (by omega) (by omega) ?_; intro w5 g5 hb5 hx5 hg5; have hx05 := hx03.trans hx5; have hb35 := hb3.ext hx5)
      | ((with_reducible show wpList _ _ _ (⟨some 5, _, _, _, _, _⟩ :: _) _ _); refine wpList_alloc_abs' rfl (some 5) rfl 25 rfl _ HZ ?_; intro w7 g7 hp7 hx7 hg7)
      | ((with_reducible show wpList _ _ _ (⟨none, .store _ (.tmp 5) (.tmp 16), _, _, _, _⟩ :: _) _ _); refine wpList_store_blk rfl 25 (.tmp 5) (.tmp 16) rfl g7 tz rfl rfl hp7 17 sizeTbl hzz.out hzs.out HZO.out ?_; intro w8 hb8 hg8; have hx68 := hx7.grown hg8 hg7; have hx08 := hx06.trans hx68; have hb38 := hb6.ext hx68; have hs8 := hs3.ext ((hx5.trans hx6).trans hx68))
      | (go_at_call 16; (with_reducible refine (HRB.out _ hx08).mono ?_); rintro e w9 ⟨rfl, rfl⟩)
      | ((with_reducible show wpList _ _ _ (⟨some 38, _, _, _, _, _⟩ :: _) _ _); refine wpList_load_blk rfl 25 (.tmp 3) rfl g2 rfl hb38 _ Try.underlying25 rfl 17 sizeTbl (HTS.out _ _ hcl) ?_)
      | (go_at_call 18; (with_reducible refine (HSH.out _ cs xs _ hx08 hcl (by rw [hxl]; exact hs8) hM).mono ?_); rintro e w10 ⟨rfl, hx10⟩)
      | ((with_reducible show wpList _ _ _ (⟨some 43, _, _, _, _, _⟩ :: _) _ _); refine wl_run_g (by rfl) (.bool true) (ex_eql rfl rfl rfl (by simp)) ?_))
    go_ret
    exact ⟨rfl, hx08.trans hx10⟩
  · have HM := hid_ (fun W (hx : Ext w W) => make_bad counts A counts.length c rfl W (hv.ext hx) hb)
    have HTE := hid_ (fun W => tableEqM (List.replicate 16 0) [] (.slice none 0 0) (.slice none 0 0) W (by simp) (SL.nil _ _) (SL.nil _ _))
    have HBT := hid_ builtT0
    obtain ⟨n, hn⟩ : ∃ n, counts.length = n := ⟨_, rfl⟩
    rw [hn] at HM HRB ⊢
    have hz2 : (bcheckZ counts != 0) = true := by simpa using hb
    have hzz2 : (bcheckZ counts == bcheckZ counts) = true := by simp
    generalize bcheckZ counts = z at *
    generalize tblv (List.replicate 16 0) (.slice none 0 0) = tz at *
    clear hn hv hb
    go_enter Try.func6, Try.ntmps6
    go_wp2_with (first
      | (go_at_call 15; first
        | ((with_reducible refine (HM.out _ (Ext.refl w)).mono ?_); rintro e w1 ⟨rfl, hx1⟩)
        | ((with_reducible refine (HM1.out _ _ hb5).mono ?_); rintro e w6 ⟨rfl, hx6⟩; have hx06 := hx05.trans hx6; have hb6 := hb35.ext hx6))
      | ((with_reducible show wpList _ _ _ (⟨some 3, _, _, _, _, _⟩ :: _) _ _); refine wpList_alloc_abs' rfl (some 3) rfl 25 rfl _ HZ ?_; intro w2 g2 hp2 hx2 hg2)
      | ((with_reducible show wpList _ _ _ (⟨none, .store _ (.tmp 3) (.tmp 11), _, _, _, _⟩ :: _) _ _); refine wpList_store_blk rfl 25 (.tmp 3) (.tmp 11) rfl g2 tz rfl rfl hp2 17 sizeTbl hzz.out hzs.out HZO.out ?_; intro w3 hb3 hg3; have hx13 := hx2.grown hg3 hg2; have hx03 := hx1.trans hx13)
      | ((with_reducible show wpList _ _ _ (⟨some 14, _, _, _, _, _⟩ :: _) _ _); refine wpList_lit1 rfl 23 3 _ rfl (some 14) rfl Try.underlying23 1 sizeI zeroI1 (.int .i64 (-1)) rfl rfl (by omega) (by omega) ?_; intro w5 g5 hb5 hx5 hg5; have hx05 := hx03.trans hx5; have hb35 := hb3.ext hx5)
      | ((with_reducible show wpList _ _ _ (⟨some 5, _, _, _, _, _⟩ :: _) _ _); refine wpList_alloc_abs' rfl (some 5) rfl 25 rfl _ HZ ?_; intro w7 g7 hp7 hx7 hg7)
      | ((with_reducible show wpList _ _ _ (⟨none, .store _ (.tmp 5) (.tmp 16), _, _, _, _⟩ :: _) _ _); refine wpList_store_blk rfl 25 (.tmp 5) (.tmp 16) rfl g7 tz rfl rfl hp7 17 sizeTbl hzz.out hzs.out HZO.out ?_; intro w8 hb8 hg8; have hx68 := hx7.grown hg8 hg7; have hx08 := hx06.trans hx68; have hb38 := hb6.ext hx68)
      | (go_at_call 16; (with_reducible refine (HRB.out _ hx08).mono ?_); rintro e w9 ⟨rfl, rfl⟩)
      | ((with_reducible show wpList _ _ _ (⟨some 26, _, _, _, _, _⟩ :: _) _ _); refine wpList_load_blk rfl 25 (.tmp 3) rfl g2 rfl hb38 _ Try.underlying25 rfl 17 sizeTbl hzz.out ?_)
      | ((with_reducible show wpList _ _ _ (⟨some 27, _, _, _, _, _⟩ :: _) _ _); refine wpList_build0_g (by rfl) 25 rfl _ HBT.out ?_)
      | (go_at_call 17; (with_reducible refine (HTE.out _).mono ?_); rintro e w10 ⟨rfl, hx10⟩)
      | ((with_reducible show wpList _ _ _ (⟨some 32, _, _, _, _, _⟩ :: _) _ _); refine wl_run_g (by rfl) (.bool true) (ex_eql rfl rfl rfl (by simp)) ?_)
      | ((with_reducible show wpList _ _ _ (⟨some 36, _, _, _, _, _⟩ :: _) _ _); refine wl_run_g (by rfl) (.bool true) (ex_eql rfl rfl rfl (by simp)) ?_))
    go_ret
    exact ⟨rfl, hx08.trans hx10⟩
end Go.Proofs.Ytideigpabbhhkaa.bestMakes
namespace Go.Proofs.Ytideigpabbhhkaa
set_option linter.unusedVariables false
set_option linter.unusedSimpArgs false
open Go.RowKit Go.ChangeShapes Go.WideShapes Go.ChangeAt
theorem own : ownKnob Try.prog.godebug = none := by kernel_rfl
theorem laidOut : laidOutB Try.prog = true := by kernel_rfl
section
variable {H : Type} {enc : TypeId × Value → H} {P : Program}
theorem below_trodAll (hl : laidOutB P = true) {W W' : World} (hb : Below W.heap.size W W') : ∀ {ts : List TypeId} {vs : List Value} {ds : List (DataW H)} {ps : List MemPlace},
    (∀ t ∈ ts, P.readableRec t = true ∧ t < P.types.size) → DataW.TrodAll enc P W 0 (fun _ => true) true ts vs ds ps → (∀ x ∈ ps, x.block < W.heap.size) →
    DataW.TrodAll enc P W' 0 (fun b => decide (b < W.heap.size)) true ts vs ds ps
  | [], _, _, _, _, h, _ => by
    obtain ⟨rfl, rfl, rfl⟩ := trodAll_nil h
    exact trodAll_mk0
  | t :: ts, vs, ds, ps, hr, h, hlt => by
    obtain ⟨v, vs1, d, ds1, a, b, rfl, rfl, rfl, h1, h2⟩ := trodAll_cons h
    exact ⟨a, b, Below.trod hl (hr t (by simp)).1 (hr t (by simp)).2 h1 hb (fun x hx => hlt x (by simp [hx])),
      below_trodAll hl hb (fun t ht => hr t (by simp [ht])) h2 (fun x hx => hlt x (by simp [hx])), rfl⟩

/-- a law's row is met: true, and new blocks alone -/
theorem law_post {f : Func} {s : ChangeSpec} {W W' : World} {args : Array Value} {ds gs : List (DataW H)} {before : List MemPlace}
    (hl : laidOutB P = true) (tb : TypeId) (htb : P.underlying tb = some .bool) (hft : f.resultTypes = #[tb]) (hvars : s.vars = [])
    (hr : ∀ t ∈ f.params.toList, P.readableRec t = true ∧ t < P.types.size)
    (hW : DataW.Whole enc P f.params.toList s.vars false W args.toList ds gs before)
    (hfn : s.fn H (ds ++ gs) = { results := [.lit (.bool true)], args := ds })
    (hb : Ext W W') : s.post enc P f false true false false W args (.bool true) W' := by
  have hlt : ∀ p ∈ before, p.block < W.heap.size := fun p hp => by simpa using hW.lt p hp
  have hW' := hW
  obtain ⟨p, q, hA, hV, rfl, hfz, hnd⟩ := hW
  rw [hvars] at hV
  obtain ⟨rfl, rfl⟩ := trodVars_none hV
  simp only [List.append_nil] at hlt hW'
  refine ⟨ds, [], p, [], p, [], hW', ?_, ?_, ?_, ?_, fun h => by cases h⟩
  · rw [hft, hfn]
    exact trodAll_cons_mk (shut_bool htb _) trodAll_mk0
  · rw [hfn]
    exact below_trodAll hl hb hr hA hlt
  · rw [hfn, hvars]
    rfl
  · exact World.keptBut_mono (fun p hp => ⟨hp, Or.inr (Or.inl hp)⟩) (hb.frame (· ∈ p))
end
end Go.Proofs.Ytideigpabbhhkaa
