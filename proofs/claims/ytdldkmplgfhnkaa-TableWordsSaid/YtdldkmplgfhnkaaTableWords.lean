/- The walk of the law TableWords. -/
import Derived.Test.YtdldkmplgfhnkaaRefWords
import Derived.Test.YtdldkmplgfhnkaaTableChecks
namespace Go.Proofs.Ytdldkmplgfhnkaa.tableWords
set_option linter.unusedVariables false
set_option linter.unusedSimpArgs false
open Go.RowKit
set_option maxRecDepth 20000 in
set_option maxHeartbeats 1000000 in
theorem walk (cs xs : List Int) (sl : Value) (hl : cs.length = 16) (_ : ∀ z ∈ cs, inI64 z) (_ : ∀ z ∈ xs, inI64 z) (w : World) (hs : SL w 1 sl xs.length (ints xs)) :
    Calls Try.prog 4 #[.agg (tblv cs sl)] w fun e w' => e = .returned (.bool true) ∧ Ext w w' := by
  have H2 := hid_ (fun W h => rcheck_any cs xs sl W hl h)
  have H3 := hid_ (fun W => bad_abs W)
  have hts := hid_ (tblv_size cs sl hl)
  by_cases hz : checkZ cs xs = 0
  · have H1 := hid_ (fun W h => tWords_yes cs xs sl W hl h hz)
    have H5 := hid_ (fun W h => rWords_any cs xs sl W hl h hz)
    obtain ⟨hal, hsum, hx256, hok, -, -⟩ := checkZ_zero hz
    have hlen : (zipC (codesW cs 16) xs).length = xs.length := by
      have := codesW_len cs (fun z hz => (allIn_iff.1 hal z hz).1) 16 (by omega)
      rw [zipC_len _ _ (by omega)]
      omega
    have HE := hid_ (fun u v W (h1 : SL W 3 u xs.length (toks (zipC (codesW cs 16) xs))) (h2 : SL W 3 v xs.length (toks (zipC (codesW cs 16) xs))) => eqWord_same u v (zipC (codesW cs 16) xs) W (by rw [hlen]; exact h1) (by rw [hlen]; exact h2))
    rw [hz] at H2
    generalize toks (zipC (codesW cs 16) xs) = Z at *
    generalize tblv cs sl = tv at *
    clear hz hal hsum hok hlen
    go_enter Try.func4, Try.ntmps4
    go_wp2_with (first
      | (refine wpList_box_abs rfl 25 (.tmp 0) rfl tv rfl ?_; intro w1 g hb1 hx1 hg; have hs1 := hs.ext hx1)
      | (refine wpList_load_blk rfl 25 (.tmp 1) rfl _ rfl hb1 _ Try.underlying25 rfl 17 sizeTbl hts.out ?_)
      | (go_at_call 12; (with_reducible refine (H1.out _ hs1).mono ?_); rintro e w2 ⟨A, c, rfl, hs2, hf2, hx2⟩; have hb2 := hb1.ext hx2; have hst2 := hs1.ext hx2)
      | (refine wpList_load_blk rfl 25 (.tmp 1) rfl _ rfl hb2 _ Try.underlying25 rfl 17 sizeTbl hts.out ?_)
      | (go_at_call 10; (with_reducible refine (H2.out _ hst2).mono ?_); rintro e w3 ⟨rfl, hx3⟩; have hb3 := hb2.ext hx3; have hst3 := hst2.ext hx3; have hs3 := hs2.ext hx3)
      | (refine wpList_load_blk rfl 25 (.tmp 1) rfl _ rfl hb3 _ Try.underlying25 rfl 17 sizeTbl hts.out ?_)
      | (go_at_call 14; (with_reducible refine (H5.out _ hst3).mono ?_); rintro e w4 ⟨B, d, rfl, hs4, hx4⟩; have hs34 := hs3.ext hx4)
      | (go_at_call 13; (with_reducible refine (HE.out _ _ _ hs34 hs4).mono ?_); rintro e w5 ⟨rfl, hx5⟩)
      | (go_at_call 11; (with_reducible refine (H3.out _).mono ?_); rintro e w6 ⟨tb, rfl, hck, hx6⟩)
      | (go_at_call 9; (with_reducible refine (hck.out _ (Ext.refl _)).mono ?_); rintro e w7 ⟨rfl, hx7⟩))
    go_ret
    exact ⟨rfl, (((((hx1.trans hx2).trans hx3).trans hx4).trans hx5).trans hx6).trans hx7⟩
  · have H1 := hid_ (fun W h => tWords_no cs xs sl W hl h hz)
    generalize tblv cs sl = tv at *
    generalize checkZ cs xs = z at *
    have hz' : (z != 0) = true := by simpa using hz
    have e1 : (z == z) = true := by simp
    clear hz
    go_enter Try.func4, Try.ntmps4
    go_wp2_with (first
      | (refine wpList_box_abs rfl 25 (.tmp 0) rfl tv rfl ?_; intro w1 g hb1 hx1 hg; have hs1 := hs.ext hx1)
      | (refine wpList_load_blk rfl 25 (.tmp 1) rfl _ rfl hb1 _ Try.underlying25 rfl 17 sizeTbl hts.out ?_)
      | (go_at_call 12; (with_reducible refine (H1.out _ hs1).mono ?_); rintro e w2 ⟨rfl, hx2⟩; have hb2 := hb1.ext hx2; have hst2 := hs1.ext hx2)
      | (refine wpList_load_blk rfl 25 (.tmp 1) rfl _ rfl hb2 _ Try.underlying25 rfl 17 sizeTbl hts.out ?_)
      | (go_at_call 10; (with_reducible refine (H2.out _ hst2).mono ?_); rintro e w3 ⟨rfl, hx3⟩)
      | (go_at_call 11; (with_reducible refine (H3.out _).mono ?_); rintro e w6 ⟨tb, rfl, hck, hx6⟩)
      | (go_at_call 9; (with_reducible refine (hck.out _ (Ext.refl _)).mono ?_); rintro e w7 ⟨rfl, hx7⟩))
    go_ret
    exact ⟨rfl, (((hx1.trans hx2).trans hx3).trans hx6).trans hx7⟩
end Go.Proofs.Ytdldkmplgfhnkaa.tableWords
