/- run.isCoef, run.Tokens, the walk of the law RunTokens. -/
import Derived.Test.YthnchhkiidlpkaaTokens
import Derived.Test.YthnchhkiidlpkaaRefTokens
import Derived.Test.YthnchhkiidlpkaaIdxFunc
import Derived.Test.YthnchhkiidlpkaaOpen
namespace Go.Proofs.Ythnchhkiidlpkaa
open Go.RowKit
theorem isCoef_any (n : Int) (w : World) : Calls Try.prog 69 #[.int .i64 n] w fun e w' => e = .returned (.bool (inB n (-2047) 2047)) ∧ w = w' := by
  by_cases h : -2047 ≤ n
  · have h' : decide (-2047 ≤ n) = true := by simpa using h
    have e : inB n (-2047) 2047 = decide (n ≤ 2047) := by simp [inB]; omega
    rw [e]; clear e
    go_enter Try.func69, Try.ntmps69
    go_wp2_with fail
    go_ret
    exact ⟨rfl, rfl⟩
  · have h' : decide (-2047 ≤ n) = false := by simpa using h
    have e : inB n (-2047) 2047 = false := inB_not.2 (by omega)
    rw [e]; clear e
    go_enter Try.func69, Try.ntmps69
    go_wp2_with fail
    go_ret
    exact ⟨rfl, rfl⟩
theorem tokens1_any (n : Int) (w : World) : Calls Try.prog 71 (#[.int .i64 n] ++ #[]) w fun e w' => e = .returned (.bool (!inB n (-2047) 2047)) ∧ w = w' := by
  have HC := hid_ (fun W => isCoef_any n W)
  generalize inB n (-2047) 2047 = b at *
  go_enter Try.func71, Try.ntmps71
  go_wp2_with (go_at_call 69; (with_reducible refine (HC.out _).mono ?_); rintro e w' ⟨rfl, rfl⟩)
  go_ret
  exact ⟨rfl, rfl⟩
theorem enters_tokens1 : Enters Try.prog 71 := enters_of Try.func71 (by kernel_rfl) rfl
set_option maxHeartbeats 400000 in
theorem rtok_bad (before : Int) (zs : List Int) (w : World) (hz : zs.length = 64) (h : inB before (-2047) 2047 = false ∨ (inB before (-2047) 2047 = true ∧ allIn zs (-2047) 2047 = false)) :
    Calls Try.prog 34 #[.int .i64 before, .agg (bv zs)] w fun e w' => e = .returned (.tuple #[.slice none 0 0, .int .i64 1]) ∧ Ext w w' := by
  have HOB := hid_ (fun W => isCoef_any before W)
  have HSL := hid_ (fun (W : World) g (h : Blk W g 59 (bv zs)) => h.bsl (c := 64) (by omega) (by omega))
  rw [hz] at HSL
  have HCF := hid_ (fun W v (hs : SL W 1 v 64 (ints zs)) => containsFunc_any 71 #[] (fun z => !inB z (-2047) 2047) enters_tokens1 v zs W (by rw [hz]; exact hs) (fun z _ => tokens1_any z W))
  simp only [inB_any] at HCF
  generalize bv zs = c0 at *
  rcases h with h | ⟨h, h2⟩
  · rw [h] at HOB
    clear h
    go_enter Try.func34, Try.ntmps34
    go_wp2_with (first
      | (refine wpList_box_abs rfl 59 (.tmp 1) rfl c0 rfl ?_; intro w1 gb hbb1 hx1 hgb)
      | (go_at_call 69; (with_reducible refine (HOB.out _).mono ?_); rintro e w' ⟨rfl, rfl⟩))
    go_ret2
    exact ⟨rfl, hx1⟩
  · rw [h] at HOB
    rw [h2] at HCF
    clear h h2
    go_enter Try.func34, Try.ntmps34
    go_wp2_with (first
      | (refine wpList_box_abs rfl 59 (.tmp 1) rfl c0 rfl ?_; intro w1 gb hbb1 hx1 hgb; have hsl := HSL.out _ _ hbb1)
      | (go_at_call 69; (with_reducible refine (HOB.out _).mono ?_); rintro e w' ⟨rfl, rfl⟩)
      | (go_at_call 70; (with_reducible refine (HCF.out _ _ hsl).mono ?_); rintro e w' ⟨rfl, rfl⟩))
    go_ret2
    exact ⟨rfl, hx1⟩
set_option maxHeartbeats 400000 in
theorem rtok_good (before : Int) (zs : List Int) (w : World) (hz : zs.length = 64) (hb1 : -2047 ≤ before) (hb2 : before ≤ 2047) (hal : allIn zs (-2047) 2047 = true) (h01 : -2047 ≤ (zto zs).getD 0 0) (h02 : (zto zs).getD 0 0 ≤ 2047) :
    Calls Try.prog 34 #[.int .i64 before, .agg (bv zs)] w fun e w' => ∃ A c, e = .returned (.tuple #[.slice A (tokensZ before (zto zs)).length c, .int .i64 0]) ∧ SL w' 3 (.slice A (tokensZ before (zto zs)).length c) (tokensZ before (zto zs)).length (toks (tokensZ before (zto zs))) ∧ Ext w w' := by
  have HOB := hid_ (fun W => isCoef_any before W)
  rw [inB_iff.2 ⟨hb1, hb2⟩] at HOB
  have HSL := hid_ (fun (W : World) g (h : Blk W g 59 (bv zs)) => h.bsl (c := 64) (by omega) (by omega))
  rw [hz] at HSL
  have HCF := hid_ (fun W v (hs : SL W 1 v 64 (ints zs)) => containsFunc_any 71 #[] (fun z => !inB z (-2047) 2047) enters_tokens1 v zs W (by rw [hz]; exact hs) (fun z _ => tokens1_any z W))
  simp only [inB_any, hal] at HCF
  have HT := hid_ (fun W => tokens_any before zs W hz hb1 hb2 h01 h02)
  have hsz := hid_ ((bv_size zs).trans hz)
  generalize tokensZ before (zto zs) = T at *
  generalize bv zs = c0 at *
  clear hal h01 h02
  go_enter Try.func34, Try.ntmps34
  go_wp2_with (first
    | (refine wpList_box_abs rfl 59 (.tmp 1) rfl c0 rfl ?_; intro w1 gb hbb1 hx1 hgb; have hsl := HSL.out _ _ hbb1)
    | (go_at_call 69; (with_reducible refine (HOB.out _).mono ?_); rintro e w' ⟨rfl, rfl⟩)
    | (go_at_call 70; (with_reducible refine (HCF.out _ _ hsl).mono ?_); rintro e w' ⟨rfl, rfl⟩)
    | (refine wpList_load_blk rfl 59 (.tmp 3) rfl _ rfl hbb1 _ Try.underlying59 rfl 64 size48 hsz.out ?_)
    | (go_at_call 72; (with_reducible refine (HT.out _).mono ?_); rintro e w2 ⟨A, c, rfl, hs2, hf2, hx2⟩))
  go_ret2
  exact ⟨A, c, rfl, hs2, hx1.trans hx2⟩
end Go.Proofs.Ythnchhkiidlpkaa
