/- The walk of the law TableEncodes. -/
import Derived.Test.YtdldkmplgfhnkaaRefEncode
import Derived.Test.YtdldkmplgfhnkaaTableChecks
import Derived.Test.YtdldkmplgfhnkaaOpenSlices
namespace Go.Proofs.Ytdldkmplgfhnkaa
set_option linter.unusedVariables false
set_option linter.unusedSimpArgs false
open Go.RowKit
theorem encode_any (cs xs syms : List Int) (sl sv : Value) (w : World) (hl : cs.length = 16) (hs : SL w 1 sl xs.length (ints xs)) (hv : SL w 1 sv syms.length (ints syms)) (hin : ∀ z ∈ syms, inI64 z) :
    Calls Try.prog 15 #[.agg (tblv cs sl), sv] w fun e w' => ∃ A c, e = .returned (.tuple #[.slice A (encZ cs xs syms).1.length c, .int .i64 (encZ cs xs syms).2]) ∧ SL w' 1 (.slice A (encZ cs xs syms).1.length c) (encZ cs xs syms).1.length (bytesV (encZ cs xs syms).1) ∧ Ext w w' := by
  by_cases h : checkZ cs xs = 0
  · by_cases h2 : syms.length ≤ 20000
    · exact encode_good cs xs syms sl sv w hl hs hv hin h h2
    · refine (encode_bad cs xs syms sl sv w hl hs hv (.inr ⟨h, by omega⟩)).mono fun e w' ⟨he, h1, hx⟩ => ?_
      rw [h1]
      exact ⟨none, 0, he, SL.nil _ _, hx⟩
  · refine (encode_bad cs xs syms sl sv w hl hs hv (.inl h)).mono fun e w' ⟨he, h1, hx⟩ => ?_
    rw [h1]
    exact ⟨none, 0, he, SL.nil _ _, hx⟩
theorem encZ_bad {cs xs syms : List Int} (h : checkZ cs xs ≠ 0 ∨ (checkZ cs xs = 0 ∧ 20000 < syms.length)) : (encZ cs xs syms).1 = [] := by
  unfold encZ
  rcases h with h | ⟨h, h2⟩
  · rw [if_neg h]
  · rw [if_pos h, if_neg (by omega)]
theorem rEncode_any (cs xs syms : List Int) (sl sv : Value) (w : World) (hl : cs.length = 16) (hs : SL w 1 sl xs.length (ints xs)) (hv : SL w 1 sv syms.length (ints syms)) :
    Calls Try.prog 16 #[.agg (tblv cs sl), sv] w fun e w' => ∃ A c, e = .returned (.tuple #[.slice A (encZ cs xs syms).1.length c, .int .i64 (encZ cs xs syms).2]) ∧ SL w' 1 (.slice A (encZ cs xs syms).1.length c) (encZ cs xs syms).1.length (bytesV (encZ cs xs syms).1) ∧ Ext w w' := by
  by_cases h : checkZ cs xs = 0
  · by_cases h2 : syms.length ≤ 20000
    · exact rEncode_good cs xs syms sl sv w hl hs hv h h2
    · refine (rEncode_bad cs xs syms sl sv w hl hs hv (.inr ⟨h, by omega⟩)).mono fun e w' ⟨he, hx⟩ => ?_
      rw [encZ_bad (.inr ⟨h, by omega⟩)]
      exact ⟨none, 0, he, SL.nil _ _, hx⟩
  · refine (rEncode_bad cs xs syms sl sv w hl hs hv (.inl h)).mono fun e w' ⟨he, hx⟩ => ?_
    rw [encZ_bad (.inl h)]
    exact ⟨none, 0, he, SL.nil _ _, hx⟩
end Go.Proofs.Ytdldkmplgfhnkaa
namespace Go.Proofs.Ytdldkmplgfhnkaa.tableEncodes
open Go.RowKit
set_option maxRecDepth 20000 in
set_option maxHeartbeats 1000000 in
theorem walk (cs xs : List Int) (sl : Value) (hl : cs.length = 16) (_ : ∀ z ∈ cs, inI64 z) (_ : ∀ z ∈ xs, inI64 z) (sv : Value) (syms : List Int) (hin : ∀ z ∈ syms, inI64 z) (w : World) (hs : SL w 1 sl xs.length (ints xs)) (hv : SL w 1 sv syms.length (ints syms)) :
    Calls Try.prog 5 #[.agg (tblv cs sl), sv] w fun e w' => e = .returned (.bool true) ∧ Ext w w' := by
  have H1 := hid_ (fun W h h2 => encode_any cs xs syms sl sv W hl h h2 hin)
  have H2 := hid_ (fun W h h2 => rEncode_any cs xs syms sl sv W hl h h2)
  have H3 := hid_ (fun W => bad_abs W)
  have hts := hid_ (tblv_size cs sl hl)
  generalize tblv cs sl = tv at *
  generalize encZ cs xs syms = z at *
  obtain ⟨out, er⟩ := z
  simp only at H1 H2
  have HE := hid_ (fun u v W (h1 : SL W 1 u out.length (bytesV out)) (h2 : SL W 1 v out.length (bytesV out)) => eqByte_same u v out W h1 h2)
  have e1 : (er == er) = true := by simp
  generalize out.length = n at *
  generalize bytesV out = bo at *
  go_enter Try.func5, Try.ntmps5
  go_wp2_with (first
    | (refine wpList_box_abs rfl 25 (.tmp 0) rfl tv rfl ?_; intro w1 g hb1 hx1 hg; have hs1 := hs.ext hx1; have hv1 := hv.ext hx1)
    | (refine wpList_load_blk rfl 25 (.tmp 2) rfl _ rfl hb1 _ Try.underlying25 rfl 17 sizeTbl hts.out ?_)
    | (go_at_call 15; (with_reducible refine (H1.out _ hs1 hv1).mono ?_); rintro e w2 ⟨A, c, rfl, hs2, hx2⟩; have hb2 := hb1.ext hx2; have hst2 := hs1.ext hx2; have hsv2 := hv1.ext hx2)
    | (refine wpList_load_blk rfl 25 (.tmp 2) rfl _ rfl hb2 _ Try.underlying25 rfl 17 sizeTbl hts.out ?_)
    | (go_at_call 16; (with_reducible refine (H2.out _ hst2 hsv2).mono ?_); rintro e w3 ⟨B, d, rfl, hs3, hx3⟩; have hs23 := hs2.ext hx3)
    | (go_at_call 17; (with_reducible refine (HE.out _ _ _ hs23 hs3).mono ?_); rintro e w5 ⟨rfl, rfl⟩)
    | (go_at_call 11; (with_reducible refine (H3.out _).mono ?_); rintro e w6 ⟨tb, rfl, hck, hx6⟩)
    | (go_at_call 9; (with_reducible refine (hck.out _ (Ext.refl _)).mono ?_); rintro e w7 ⟨rfl, hx7⟩))
  go_ret
  exact ⟨rfl, (((hx1.trans hx2).trans hx3).trans hx6).trans hx7⟩
end Go.Proofs.Ytdldkmplgfhnkaa.tableEncodes
