/- wordOf, TableEncode of the reference. -/
import Derived.Test.YtdldkmplgfhnkaaEncode
import Derived.Test.YtdldkmplgfhnkaaBytesOf
import Derived.Test.YtdldkmplgfhnkaaRefWords
namespace Go.Proofs.Ytdldkmplgfhnkaa
set_option linter.unusedVariables false
set_option linter.unusedSimpArgs false
open Go.RowKit
theorem zipC_syms (C : List (Nat × Nat)) (xs : List Int) (h : C.length = xs.length) : (zipC C xs).map (·.1) = xs := by
  induction C generalizing xs with
  | nil => cases xs with | nil => rfl | cons _ _ => simp at h
  | cons c C ih =>
    cases xs with
    | nil => simp at h
    | cons x xs =>
      have h' : C.length = xs.length := by simpa using h
      have := ih xs h'
      simp only [zipC, List.zipWith_cons_cons, List.map_cons] at this ⊢
      rw [this]
theorem findT_none {Z : List Tok} {s : Int} (h : s ∉ Z.map (·.1)) : findT Z s = none := by
  unfold findT
  rw [List.find?_eq_none]
  intro u hu
  simp only [beq_iff_eq]
  rintro rfl
  exact h (List.mem_map.2 ⟨u, hu, rfl⟩)
theorem findT_at {Z : List Tok} {s : Int} {k : Nat} (hk : k < Z.length) (h : s ∉ (Z.map (·.1)).take k) (h2 : (Z[k]).1 = s) : findT Z s = some Z[k] := by
  unfold findT
  rw [List.find?_eq_some_iff_getElem]
  refine ⟨by simpa using h2, k, hk, rfl, fun j hj => ?_⟩
  simp only [Bool.not_eq_true', beq_eq_false_iff_ne]
  intro h3
  apply h
  rw [← h3, List.mem_take_iff_getElem]
  exact ⟨j, by simp; omega, by simp⟩
set_option maxRecDepth 20000 in
set_option maxHeartbeats 1000000 in
theorem wordOf_any (cs xs : List Int) (sl : Value) (s : Int) (w : World) (hl : cs.length = 16) (hs : SL w 1 sl xs.length (ints xs)) (h : checkZ cs xs = 0) :
    Calls Try.prog 34 #[.agg (tblv cs sl), .int .i64 s] w fun e w' => e = .returned (.tuple #[.string (strB (bitsT (zipC (codesW cs 16) xs) s)), .bool (findT (zipC (codesW cs 16) xs) s).isSome]) ∧ Ext w w' := by
  obtain ⟨hal, hsum, hx256, hok, -, -⟩ := checkZ_zero h
  have hlast := hid_ (fun W g (h : Blk W g 25 (tblv cs sl)) => tblv_last h hl)
  have hts := hid_ (tblv_size cs sl hl)
  have HWO := hid_ (fun W => wordsOf_yes cs sl W hl hal hok)
  have hlen : (codesW cs 16).length = xs.length := by have := codesW_len cs (fun z hz => (allIn_iff.1 hal z hz).1) 16 (by omega); omega
  have hol := outW_len cs
  rw [hlen] at hol
  rw [hol] at HWO
  have HAT := hid_ (outW_at cs)
  have HZ := hid_ (zipC_syms (codesW cs 16) xs hlen)
  have HZA := hid_ (zipC_at (codesW cs 16) xs)
  have HZL : Hid ((zipC (codesW cs 16) xs).length = xs.length) := hid_ (by rw [zipC_len _ _ (by omega), hlen])
  have HCL := hid_ hlen
  have hs' := hs
  obtain ⟨A, c, rfl, hc1, hc2, -, -⟩ := hs'
  generalize tblv cs (.slice A xs.length c) = tv at *
  generalize strs (outW cs 16) = SS at *
  generalize codesW cs 16 = C at *
  clear hal hok hsum h hol hlen
  go_enter Try.func34, Try.ntmps34
  go_wp2_with (first
    | (refine wpList_box_abs rfl 25 (.tmp 0) rfl tv rfl ?_; intro w1 g hb1 hx1 hg)
    | (refine wpList_load_blk rfl 25 (.tmp 2) rfl _ rfl hb1 _ Try.underlying25 rfl 17 sizeTbl hts.out ?_)
    | (go_at_call 28; (with_reducible refine (HWO.out _).mono ?_); rintro e w2 ⟨B, d, rfl, hs2, hx2⟩; have hc16 := hlast.out _ _ (hb1.ext hx2)))
  have hsx := hs.ext (hx1.trans hx2)
  have hxw := hx1.trans hx2
  clear hc16
  go_loop [18] (fun i => ∃ k : Nat, k ≤ xs.length ∧ i = .int .i64 (k : Int) ∧ s ∉ xs.take k) (fun i => xs.length - (intOf i).toNat)
  case atStart => exact ⟨0, by omega, rfl, by simp⟩
  case round =>
    obtain ⟨k, hk, rfl, hno⟩ := hrel
    have HNO := hid_ hno
    clear hno
    by_cases hlt : k < xs.length
    · have hkC : k < C.length := by have := HCL.out; omega
      obtain ⟨ad, u, hA, -, hxk, hcell⟩ := hsx.at1 hlt
      obtain ⟨hkl2, rfl⟩ := ints_at _ _ _ hxk
      obtain ⟨bd, u, hB, hbl, hsk, hcells⟩ := hs2.at1 hlt
      rw [HAT.out k hkC] at hsk
      injection hsk with hsk
      subst hsk
      subst hA hB
      clear hxk
      by_cases hq : xs[k] = s
      · have hq' : (xs[k] == s) = true := by simpa using hq
        have HF : Hid (findT (zipC C xs) s = some (s, ((C[k]).1 : Int), ((C[k]).2 : Int))) := hid_ (by
          have hkz : k < (zipC C xs).length := by rw [HZL.out]; exact hlt
          have e1 := HZA.out k hkC hkl2 hkz
          have := findT_at (Z := zipC C xs) (s := s) hkz (by rw [HZ.out]; exact HNO.out) (by rw [e1]; exact hq)
          rw [this, e1]
          simp [hq])
        have HBT := hid_ (bitsT_some HF.out)
        clear hq
        generalize C[k] = p at *
        obtain ⟨p1, p2⟩ := p
        simp only at HF HBT hcells
        go_wp2_with fail
        go_ret2
        rw [HBT.out, HF.out]
        exact ⟨rfl, hxw⟩
      · have hq' : (xs[k] == s) = false := by simpa using hq
        have HN : Hid (s ∉ xs.take (k + 1)) := hid_ (by
          rw [List.take_succ_eq_append_getElem hkl2, List.mem_append]
          exact fun h => h.elim HNO.out (fun h => hq (List.mem_singleton.1 h).symm))
        clear hq
        go_wp2_with fail
        go_round
        case rel => exact ⟨k + 1, by omega, by go_num, HN.out⟩
        case measure => simp [intOf]; omega
    · have HF : Hid (findT (zipC C xs) s = none) := hid_ (findT_none (by
        rw [HZ.out]
        have := HNO.out
        rwa [List.take_of_length_le (by omega)] at this))
      have HBT : Hid (bitsT (zipC C xs) s = []) := hid_ (by unfold bitsT; rw [HF.out])
      go_wp2_with fail
      go_ret2
      rw [HBT.out, HF.out]
      exact ⟨rfl, hxw⟩
set_option maxRecDepth 20000 in
set_option maxHeartbeats 1000000 in
theorem rEncode_bad (cs xs syms : List Int) (sl sv : Value) (w : World) (hl : cs.length = 16) (hs : SL w 1 sl xs.length (ints xs)) (hv : SL w 1 sv syms.length (ints syms)) (h : checkZ cs xs ≠ 0 ∨ (checkZ cs xs = 0 ∧ 20000 < syms.length)) :
    Calls Try.prog 16 #[.agg (tblv cs sl), sv] w fun e w' => e = .returned (.tuple #[.slice none 0 0, .int .i64 (encZ cs xs syms).2]) ∧ Ext w w' := by
  have HC := hid_ (fun W h => rcheck_any cs xs sl W hl h)
  have hts := hid_ (tblv_size cs sl hl)
  obtain ⟨A, c, rfl, hc1, hc2, -, -⟩ := hv
  rcases h with h | ⟨h, h2⟩
  · have HE : Hid (encZ cs xs syms = ([], checkZ cs xs)) := hid_ (by unfold encZ; rw [if_neg h])
    rw [HE.out]
    generalize tblv cs sl = tv at *
    generalize checkZ cs xs = z at *
    have hz : (z != 0) = true := by simpa using h
    clear h
    go_enter Try.func16, Try.ntmps16
    go_wp2_with (first
      | (refine wpList_box_abs rfl 25 (.tmp 0) rfl tv rfl ?_; intro w1 g hb1 hx1 hg; have hs1 := hs.ext hx1)
      | (refine wpList_load_blk rfl 25 (.tmp 2) rfl _ rfl hb1 _ Try.underlying25 rfl 17 sizeTbl hts.out ?_)
      | (go_at_call 10; (with_reducible refine (HC.out _ hs1).mono ?_); rintro e w2 ⟨rfl, hx2⟩))
    go_ret2
    exact ⟨rfl, hx1.trans hx2⟩
  · have HE : Hid (encZ cs xs syms = ([], 2)) := hid_ (by unfold encZ; rw [if_pos h, if_neg (by omega)])
    rw [HE.out]
    rw [h] at HC
    generalize tblv cs sl = tv at *
    clear h
    go_enter Try.func16, Try.ntmps16
    go_wp2_with (first
      | (refine wpList_box_abs rfl 25 (.tmp 0) rfl tv rfl ?_; intro w1 g hb1 hx1 hg; have hs1 := hs.ext hx1)
      | (refine wpList_load_blk rfl 25 (.tmp 2) rfl _ rfl hb1 _ Try.underlying25 rfl 17 sizeTbl hts.out ?_)
      | (go_at_call 10; (with_reducible refine (HC.out _ hs1).mono ?_); rintro e w2 ⟨rfl, hx2⟩))
    go_ret2
    exact ⟨rfl, hx1.trans hx2⟩
set_option maxRecDepth 20000 in
set_option maxHeartbeats 1000000 in
theorem rEncode_good (cs xs syms : List Int) (sl sv : Value) (w : World) (hl : cs.length = 16) (hs : SL w 1 sl xs.length (ints xs)) (hv : SL w 1 sv syms.length (ints syms)) (h : checkZ cs xs = 0) (h2 : syms.length ≤ 20000) :
    Calls Try.prog 16 #[.agg (tblv cs sl), sv] w fun e w' => ∃ A c, e = .returned (.tuple #[.slice A (encZ cs xs syms).1.length c, .int .i64 (encZ cs xs syms).2]) ∧ SL w' 1 (.slice A (encZ cs xs syms).1.length c) (encZ cs xs syms).1.length (bytesV (encZ cs xs syms).1) ∧ Ext w w' := by
  have HC := hid_ (fun W h => rcheck_any cs xs sl W hl h)
  rw [h] at HC
  have HWD := hid_ (fun s W h' => wordOf_any cs xs sl s W hl h' h)
  have hts := hid_ (tblv_size cs sl hl)
  have HF := hid_ (fitT_of cs xs hl h)
  have HE : Hid (encZ cs xs syms = if allT (zipC (codesW cs 16) xs) syms then (packB (padB (encL (zipC (codesW cs 16) xs) syms)), 0) else ([], 5)) := hid_ (by unfold encZ; rw [if_pos h, if_pos h2])
  generalize encZ cs xs syms = ez at *
  generalize zipC (codesW cs 16) xs = T at *
  generalize tblv cs sl = tv at *
  have hv' := hv
  obtain ⟨A, c, rfl, hc1, hc2, -, -⟩ := hv'
  clear h
  go_enter Try.func16, Try.ntmps16
  go_wp2_with (first
    | (refine wpList_box_abs rfl 25 (.tmp 0) rfl tv rfl ?_; intro w1 g hb1 hx1 hg; have hs1 := hs.ext hx1)
    | (refine wpList_load_blk rfl 25 (.tmp 2) rfl _ rfl hb1 _ Try.underlying25 rfl 17 sizeTbl hts.out ?_)
    | (go_at_call 10; (with_reducible refine (HC.out _ hs1).mono ?_); rintro e w2 ⟨rfl, hx2⟩; have hb2 := hb1.ext hx2; have hs2 := hs1.ext hx2))
  have hx := hx1.trans hx2
  have hvs := hv.ext hx
  clear hb1 hs1 hx1 hx2 hs
  go_loopw [7, 22] (fun sv i wr => ∃ k : Nat, k ≤ syms.length ∧ i = .int .i64 (k : Int) ∧ sv = .string (strB (encL T (syms.take k))) ∧ (∀ s ∈ syms.take k, (findT T s).isSome = true) ∧ Ext w2 wr) (fun _ i _ => syms.length - (intOf i).toNat)
  case atStart => exact ⟨0, by omega, rfl, rfl, by simp, Ext.refl _⟩
  case round =>
    obtain ⟨k, hk, rfl, rfl, hall, hxr⟩ := hrel
    have HALL := hid_ hall
    clear hall
    by_cases hlt : k < syms.length
    · obtain ⟨ad, u, rfl, -, hxk, hcell⟩ := (hvs.ext hxr).at1 hlt
      obtain ⟨hkl, rfl⟩ := ints_at _ _ _ hxk
      clear hxk
      have hbr := hb2.ext hxr
      have hsr := hs2.ext hxr
      have HES := hid_ (encL_succ T syms k hkl)
      have HLL := hid_ (encL_len HF.out (syms.take k))
      have hll : (strB (encL T (syms.take k))).size ≤ 320000 := by have := HLL.out; have : (syms.take k).length ≤ k := List.length_take_le _ _; rw [strB_size]; omega
      have hbl : (strB (bitsT T syms[k])).size ≤ 16 := by have := bitsT_len HF.out syms[k]; rw [strB_size]; exact this
      have HSA := hid_ (strB_append (encL T (syms.take k)) (bitsT T syms[k]))
      have hlim : ¬ 9223372036854775807 < (strB (encL T (syms.take k))).size + (strB (bitsT T syms[k])).size := by omega
      cases hf : findT T syms[k] with
      | none =>
        have HNO := hid_ (allT_no hkl hf)
        have HP := hid_ (fun W h => HWD.out syms[k] W h)
        rw [hf] at HP
        clear hf
        generalize strB (bitsT T syms[k]) = sb at *
        generalize strB (encL T (syms.take k)) = sa at *
        generalize syms[k] = s at *
        go_wp2_with (first
          | (refine wpList_load_blk rfl 25 (.tmp 2) rfl _ rfl hbr _ Try.underlying25 rfl 17 sizeTbl hts.out ?_)
          | (go_at_call 34; (with_reducible refine (HP.out _ hsr).mono ?_); rintro e w5 ⟨rfl, hx5⟩))
        go_ret2
        rw [HE.out, HNO.out]
        exact ⟨none, 0, rfl, SL.nil _ _, (hx.trans hxr).trans hx5⟩
      | some t =>
        have HP := hid_ (fun W h => HWD.out syms[k] W h)
        rw [hf] at HP
        have HAS : Hid (∀ s ∈ syms.take (k + 1), (findT T s).isSome = true) := hid_ (fun s hs => by
          rw [List.take_succ_eq_append_getElem hkl] at hs
          rcases List.mem_append.1 hs with h1 | h1
          · exact HALL.out s h1
          · simp at h1; subst h1; rw [hf]; rfl)
        clear hf
        generalize hsb : strB (bitsT T syms[k]) = sb at *
        generalize hsa : strB (encL T (syms.take k)) = sa at *
        have HSB := hid_ hsb
        clear hsb hsa
        generalize syms[k] = s at *
        go_wp2_with (first
          | (refine wpList_load_blk rfl 25 (.tmp 2) rfl _ rfl hbr _ Try.underlying25 rfl 17 sizeTbl hts.out ?_)
          | (go_at_call 34; (with_reducible refine (HP.out _ hsr).mono ?_); rintro e w5 ⟨rfl, hx5⟩))
        go_roundw
        case rel => exact ⟨k + 1, by omega, by go_num, by rw [HES.out, HSA.out], HAS.out, hxr.trans hx5⟩
        case measure => simp [intOf]; omega
    · have e1 : syms.take k = syms := List.take_of_length_le (by omega)
      rw [e1] at HALL ⊢
      have HYES := hid_ (allT_yes HALL.out)
      have HLL := hid_ (encL_len HF.out syms)
      have HB := hid_ (fun W => bytesOf_any (encL T syms) W (by have := HLL.out; omega))
      have HEZ : Hid (ez = (packB (padB (encL T syms)), 0)) := hid_ (by rw [HE.out, HYES.out]; rfl)
      generalize packB (padB (encL T syms)) = out at *
      generalize strB (encL T syms) = sa at *
      go_wp2_with (go_at_call 35; (with_reducible refine (HB.out _).mono ?_); rintro e w6 ⟨A6, c6, rfl, hs6, hx6⟩)
      go_ret2
      rw [HEZ.out]
      exact ⟨A6, c6, rfl, hs6, (hx.trans hxr).trans hx6⟩
end Go.Proofs.Ytdldkmplgfhnkaa
