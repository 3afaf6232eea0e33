/- Contracts for the law ScanDecodesUptoCard, part 13: what the functions that it reaches answer, for all arguments that the theorems name. -/
import Derived.Test.YtgmddhljgfbibaaGreatDoorMScanDecodesUptoCard10
import Derived.Test.YtgmddhljgfbibaaGreatDoorMScanDecodesUptoCard11
import Derived.Test.YtgmddhljgfbibaaGreatDoorMScanDecodesUptoCard2
import Derived.Test.YtgmddhljgfbibaaGreatDoorMScanDecodesUptoCard3
import Derived.Test.YtgmddhljgfbibaaGreatDoorMScanDecodesUptoCard12
import Derived.Deep.Cut
/- Tokens of the reference. -/
namespace Go.Proofs.YtgmddhljgfbibaaGreatDoor
set_option linter.unusedVariables false
set_option linter.unusedSimpArgs false
open Go.RowKit
theorem own_lower {w : World} {B B' : Nat} {e : TypeId} {size n : Nat} {v : Value} {xs : List Value} (h : w.ownsRow B e size v n xs) (hb : B' ≤ B) : w.ownsRow B' e size v n xs := by
  obtain ⟨hl, hh⟩ := h
  refine ⟨hl, ?_⟩
  rcases hh with ⟨rfl, rfl⟩ | ⟨g, cap, cur, rfl, h1, h2⟩
  · exact .inl ⟨rfl, rfl⟩
  · exact .inr ⟨g, cap, cur, rfl, by omega, h2⟩
set_option maxRecDepth 20000 in
set_option maxHeartbeats 1000000 in
theorem rtokens_own (before : Int) (zs : List Int) (w : World) (hz : zs.length = 64) (hb1 : -2047 ≤ before) (hb2 : before ≤ 2047) (hal : allIn zs (-2047) 2047 = true) (h01 : -2047 ≤ (zto zs).getD 0 0) (h02 : (zto zs).getD 0 0 ≤ 2047) :
    Calls Tryz.prog 63 #[.int .i64 before, .agg (bv zs)] w fun e w' => ∃ A c, e = .returned (.tuple #[.slice A (tokensZ before (zto zs)).length c, .int .i64 0]) ∧ w'.ownsRow w.heap.size 80 3 (.slice A (tokensZ before (zto zs)).length c) (tokensZ before (zto zs)).length (toks (tokensZ before (zto zs))) ∧ Ext w w' := by
  have HZT := hid_ (fun W => rzto_any zs W hz)
  have HOB := hid_ (fun W => outside_any before (-2047) 2047 W)
  rw [inB_iff.2 ⟨hb1, hb2⟩] at HOB
  have HBW := hid_ (fun W => blockWithin_any zs (-2047) 2047 W hz)
  rw [hal] at HBW
  have hZl := zto_len zs
  have hsz := hid_ ((bv_size zs).trans hz)
  have hst := hid_ ((bv_size _).trans hZl)
  have hot := hid_ (bv_one (zto zs))
  have hs0 : Hid ((Value.agg (bv zeros64)).cells.size = 64) := hid_ (by rw [show (Value.agg (bv zeros64)).cells = bv zeros64 from rfl, bv_size]; rfl)
  have hz0 := zero48
  have HZ0 := hid_ hz0
  clear hz0
  generalize hZ : zto zs = Z at *
  clear hZ hal
  have h0l : 0 < Z.length := by omega
  have e0 : Z.getD 0 0 = Z[0] := by simp [h0l]
  rw [e0] at h01 h02
  have HAT := hid_ (fun k (hk : k < Z.length) => bv_at Z k hk)
  have HF : Hid (tokensZ before Z = if 0 < (accT (tokZ 0 (Z[0] - before)) (Z.drop 1) 63).2 then (accT (tokZ 0 (Z[0] - before)) (Z.drop 1) 63).1 ++ [(0, 0, 0)] else (accT (tokZ 0 (Z[0] - before)) (Z.drop 1) 63).1) := hid_ (by unfold tokensZ; rw [e0])
  have HT0 := hid_ (fun W => rtoken_any 0 (Z[0] - before) W (by omega) (by omega))
  simp only [tokv_out] at HT0
  generalize bv zeros64 = cz0 at *
  generalize hcz : bv Z = cz at *
  generalize bv zs = c0 at *
  clear hcz hz e0
  generalize ht : tokZ 0 (Z[0] - before) = t0 at *
  clear ht
  have hll : (Z.drop 1).length = 63 := by simp; omega
  have HLL := hid_ hll
  have HLK : Hid (∀ k (h : k < (Z.drop 1).length) (h2 : k + 1 < Z.length), (Z.drop 1)[k] = Z[k + 1]) := hid_ (fun k h h2 => by simp)
  generalize hl : Z.drop 1 = l at *
  clear hl hll
  go_enter Tryz.func63, Tryz.ntmps63
  go_wp2_with (first
    | (refine wpList_box_abs rfl 37 (.tmp 1) rfl c0 rfl ?_; intro w1 gb hbb1 hx1 hgb)
    | (go_at_call 29; (with_reducible refine (HOB.out _).mono ?_); rintro e w' ⟨rfl, rfl⟩)
    | (refine wpList_load_blk_g (by rfl) 37 (.tmp 3) rfl _ rfl hbb1 _ Tryz.underlying37 rfl 64 size48 hsz.out ?_)
    | (go_at_call 79; (with_reducible refine (HBW.out _).mono ?_); rintro e w2 ⟨rfl, hx2⟩; have hbb2 := hbb1.ext hx2)
    | (refine wpList_load_blk rfl 37 (.tmp 3) rfl _ rfl hbb2 _ Tryz.underlying37 rfl 64 size48 hsz.out ?_)
    | (go_at_call 80; (with_reducible refine (HZT.out _).mono ?_); rintro e w3 ⟨rfl, hx3⟩)
    | (refine wpList_alloc_abs' rfl (some 6) rfl 37 rfl _ HZ0.out ?_; intro w4 g hbb4 hx4 hg)
    | (refine wpList_store_blk rfl 37 (.tmp 6) (.tmp 19) rfl _ _ rfl rfl hbb4 64 size48 hst.out hs0.out hot.out ?_; intro w5 hbb5 hg5; have hc0 : w5.cell? ⟨g, 0, none⟩ = some (.int .i64 Z[0]) := (hbb5.cell 0).trans (HAT.out 0 h0l))
    | (go_at_call 81; (with_reducible refine (HT0.out _).mono ?_); rintro e w6 ⟨rfl, hx6⟩))
  have hown0 := own_built3 (w := w6) (base := w5.heap.size) 80 (.int .i64 t0.1) (.int .i64 t0.2.1) (.int .i64 t0.2.2) hx6.size
  have hx7 := hx6.alloc (.cells #[.int .i64 t0.1, .int .i64 t0.2.1, .int .i64 t0.2.2] 80)
  have hbb7 := hbb5.ext hx7
  have hglt := hbb5.lt
  have hxw : Ext w w5 := (((hx1.trans hx2).trans hx3).trans hx4).grown hg5 (by have := ((hx1.trans hx2).trans hx3).size; omega)
  clear hbb1 hbb2 hbb4 hx1 hx2 hx3 hx4 hg5 hc0 hx6 HZT HT0
  generalize hw7 : w6.alloc (.cells #[.int .i64 t0.1, .int .i64 t0.2.1, .int .i64 t0.2.2] 80) = w7 at *
  clear hw7
  go_loopw [7, 8, 9] (fun v r i wr => ∃ (k m : Nat) (la : Int), k ≤ 63 ∧ m = k + 1 ∧ i = .int .i64 (m : Int) ∧ r = .int .i64 la ∧ la = (k : Int) - ((accT t0 l k).2 : Nat) ∧ wr.ownsRow w5.heap.size 80 3 v (accT t0 l k).1.length (toks (accT t0 l k).1) ∧ Blk wr g 37 cz ∧ Ext w5 wr) (fun _ _ i _ => 64 - (intOf i).toNat)
  case atStart => exact ⟨0, 1, 0, by omega, rfl, rfl, rfl, by simp [accT_zero], hown0, hbb7, hx7⟩
  case round =>
    clear hown0 hbb7 hx7
    obtain ⟨k, m, la, hk, hm, rfl, rfl, hla, hown, hbb, hx⟩ := hrel
    obtain ⟨b1, b2⟩ := accT_bd t0 l k (by have := HLL.out; omega) (by omega)
    by_cases hlt : k < 63
    · have hkl : k < l.length := by have := HLL.out; omega
      have hkZ : k + 1 < Z.length := by omega
      have HS := hid_ (accT_succ t0 l k hkl)
      have hcell : wr.cell? ⟨g, m, none⟩ = some (.int .i64 l[k]) := by rw [hm]; exact (hbb.cell (k + 1)).trans (by rw [HAT.out (k + 1) hkZ, HLK.out k hkl hkZ])
      generalize accT t0 l k = s at *
      obtain ⟨acc, rn⟩ := s
      simp only at b1 b2 hown hla ⊢
      have hm1 : 1 ≤ m := by omega
      have hm2 : m < 64 := by omega
      have HM := hid_ hm
      have HLA := hid_ hla
      have hgap : (m : Int) - la - 1 = (rn : Int) := by omega
      have hlb : -64 ≤ la ∧ la ≤ 64 := by omega
      obtain ⟨hlb1, hlb2⟩ := hlb
      clear hm hla
      by_cases hz0 : l[k] = 0
      · rw [stepT_zero hz0] at HS
        generalize hnk : accT t0 l (k + 1) = s1 at *
        have HS1 := HS.out
        have hz0' : (l[k] == 0) = true := by simpa using hz0
        clear hz0 HS
        go_wp2_with fail
        go_roundw
        case rel =>
          refine ⟨k + 1, m + 1, la, by omega, by rw [HM.out], by go_num, rfl, by rw [hnk, HS1]; have := HLA.out; simp; omega, by rw [hnk, HS1]; exact hown, hbb, hx⟩
        case measure => simp [intOf]; omega
      · rw [stepT_one hz0] at HS
        have hz0' : (l[k] == 0) = false := by simpa using hz0
        have HTK := hid_ (fun W => rtoken_any ((rn : Int) % 16) l[k] W (by omega) (by omega))
        simp only [tokv_out] at HTK
        rw [show ((rn % 16 : Nat) : Int) = (rn : Int) % 16 by omega] at HS
        generalize tokZ ((rn : Int) % 16) l[k] = tk at *
        generalize hnk : accT t0 l (k + 1) = s1 at *
        have HS1 := hid_ HS.out
        have HNK := hid_ hnk
        clear hz0 HS hnk
        go_wp2_with fail
        go_loopw [7, 40] (fun v r wr2 => ∃ j : Nat, j ≤ rn / 16 ∧ r = .int .i64 (j : Int) ∧ wr2.ownsRow w5.heap.size 80 3 v (acc ++ List.replicate j long).length (toks (acc ++ List.replicate j long)) ∧ Blk wr2 g 37 cz ∧ Ext w5 wr2) (fun _ r _ => rn / 16 - (intOf r).toNat)
        case atStart => exact ⟨0, by omega, rfl, by simpa using hown, hbb, hx⟩
        case round =>
          clear hown hbb hx hcell
          obtain ⟨j, hj, rfl, hown, hbb, hx⟩ := hrel
          have hlen : (acc ++ List.replicate j long).length = acc.length + j := by simp
          by_cases hj2 : j < rn / 16
          · have hgt : decide ((j : Int) < (rn : Int) / 16) = true := by simp; omega
            go_wp2_with (at_builtin; go_must (refine wpList_append_sl elt_tok rfl _ _ rfl w5.heap.size _ _ _ rfl (hown.alloc _) _ 1 [.int .i64 _, .int .i64 _, .int .i64 _] rfl (one_sl3 _ _ _ _ _) (tok_one _ _ _) (by omega) (by omega) (by have := hx.size; simp; omega) ?_); intro v' w8 hown8 hb8)
            go_roundw
            case rel =>
              refine ⟨j + 1, by omega, by go_num, ?_, (hbb.alloc _).below hb8 hglt, (hx.alloc _).trans' hb8⟩
              rw [List.replicate_succ', ← List.append_assoc]
              exact own_tok hown8
            case measure => simp [intOf]; omega
          · obtain rfl : j = rn / 16 := by omega
            have hgt : decide (((rn / 16 : Nat) : Int) < (rn : Int) / 16) = false := by simp
            have hcell2 : wr.cell? ⟨g, m, none⟩ = some (.int .i64 l[k]) := by rw [HM.out]; exact (hbb.cell (k + 1)).trans (by rw [HAT.out (k + 1) hkZ, HLK.out k hkl hkZ])
            go_wp2_with (first
              | (go_at_call 81; (with_reducible refine (HTK.out _).mono ?_); rintro e w8 ⟨rfl, hx8⟩)
              | (at_builtin; go_must (refine wpList_append_sl elt_tok rfl _ _ rfl w5.heap.size _ _ _ rfl ((own_ext hown hx8).alloc _) _ 1 [.int .i64 _, .int .i64 _, .int .i64 _] rfl (one_sl3 _ _ _ _ _) (tok_one _ _ _) (by omega) (by omega) (by have := hx.size; have := hx8.size; simp; omega) ?_); intro v' w9 hown9 hb9))
            go_roundw
            case rel =>
              refine ⟨k + 1, m + 1, m, by omega, by rw [HM.out], by go_num, rfl, by rw [HNK.out, HS1.out]; have := HM.out; simp; omega, ?_, ((hbb.ext hx8).alloc _).below hb9 hglt, ((hx.trans hx8).alloc _).trans' hb9⟩
              rw [HNK.out, HS1.out]
              exact own_tok hown9
            case measure => simp [intOf]; omega
    · have ek : k = 63 := by omega
      subst ek
      subst hm
      generalize accT t0 l 63 = s at *
      obtain ⟨acc, rn⟩ := s
      simp only at b1 b2 hown HF hla
      by_cases hr : 0 < rn
      · rw [if_pos hr] at HF
        have hlt3 : decide (la < 63) = true := by simp; omega
        clear hla
        go_wp2_with (at_builtin; go_must (refine wpList_append_sl elt_tok rfl _ _ rfl w5.heap.size _ _ _ rfl (hown.alloc _) _ 1 [.int .i64 _, .int .i64 _, .int .i64 _] rfl (one_sl3 _ _ _ _ _) (tok_one _ _ _) (by omega) (by omega) (by have := hx.size; simp; omega) ?_); intro v' w8 hown8 hb8)
        go_ret2
        rw [HF.out]
        have hown9 := own_tok hown8
        obtain ⟨A, c, rfl, -, -⟩ := own_form hown9
        exact ⟨A, c, rfl, own_lower hown9 hxw.size, hxw.trans ((hx.alloc _).trans' hb8)⟩
      · rw [if_neg hr] at HF
        have hlt3 : decide (la < 63) = false := by simp; omega
        clear hla
        go_wp2_with fail
        go_ret2
        rw [HF.out]
        obtain ⟨A, c, rfl, -, -⟩ := own_form hown
        exact ⟨A, c, rfl, own_lower hown hxw.size, hxw.trans hx⟩
theorem rtokens_fresh (before : Int) (zs : List Int) (w : World) (hz : zs.length = 64) (hb1 : -2047 ≤ before) (hb2 : before ≤ 2047) (hal : allIn zs (-2047) 2047 = true) (h01 : -2047 ≤ (zto zs).getD 0 0) (h02 : (zto zs).getD 0 0 ≤ 2047) :
    Calls Tryz.prog 63 #[.int .i64 before, .agg (bv zs)] w fun e w' => ∃ A c, e = .returned (.tuple #[.slice A (tokensZ before (zto zs)).length c, .int .i64 0]) ∧ SL w' 3 (.slice A (tokensZ before (zto zs)).length c) (tokensZ before (zto zs)).length (toks (tokensZ before (zto zs))) ∧ (∀ ad, A = some ad → w.heap.size ≤ ad.block) ∧ Ext w w' :=
  (rtokens_own before zs w hz hb1 hb2 hal h01 h02).mono fun _ _ ⟨A, c, e, h1, h2⟩ => ⟨A, c, e, by
    obtain ⟨A', c', e2, h3, h4⟩ := own_form h1
    injection e2 with e3 _ e4
    subst e3 e4
    exact ⟨h3, h4, h2⟩⟩
theorem rtokens_in (before : Int) (zs : List Int) (w : World) (hz : zs.length = 64) (hb1 : -2047 ≤ before) (hb2 : before ≤ 2047) (hal : allIn zs (-2047) 2047 = true) (h01 : -2047 ≤ (zto zs).getD 0 0) (h02 : (zto zs).getD 0 0 ≤ 2047) :
    Calls Tryz.prog 63 #[.int .i64 before, .agg (bv zs)] w fun e w' => ∃ A c, e = .returned (.tuple #[.slice A (tokensZ before (zto zs)).length c, .int .i64 0]) ∧ SL w' 3 (.slice A (tokensZ before (zto zs)).length c) (tokensZ before (zto zs)).length (toks (tokensZ before (zto zs))) ∧ Ext w w' :=
  (rtokens_fresh before zs w hz hb1 hb2 hal h01 h02).mono fun _ _ ⟨A, c, e, h1, _, h2⟩ => ⟨A, c, e, h1, h2⟩
set_option maxHeartbeats 400000 in
theorem rtokens_out (before : Int) (zs : List Int) (w : World) (hz : zs.length = 64) (h : inB before (-2047) 2047 = false ∨ (inB before (-2047) 2047 = true ∧ allIn zs (-2047) 2047 = false)) :
    Calls Tryz.prog 63 #[.int .i64 before, .agg (bv zs)] w fun e w' => e = .returned (.tuple #[.slice none 0 0, .int .i64 1]) ∧ Ext w w' := by
  have HOB := hid_ (fun W => outside_any before (-2047) 2047 W)
  have HBW := hid_ (fun W => blockWithin_any zs (-2047) 2047 W hz)
  have hsz := hid_ ((bv_size zs).trans hz)
  generalize bv zs = c0 at *
  rcases h with h | ⟨h, h2⟩
  · rw [h] at HOB
    clear h
    go_enter Tryz.func63, Tryz.ntmps63
    go_wp2_with (first
      | (refine wpList_box_abs rfl 37 (.tmp 1) rfl c0 rfl ?_; intro w1 gb hbb1 hx1 hgb)
      | (go_at_call 29; (with_reducible refine (HOB.out _).mono ?_); rintro e w' ⟨rfl, rfl⟩))
    go_ret2
    exact ⟨rfl, hx1⟩
  · rw [h] at HOB
    rw [h2] at HBW
    clear h h2
    go_enter Tryz.func63, Tryz.ntmps63
    go_wp2_with (first
      | (refine wpList_box_abs rfl 37 (.tmp 1) rfl c0 rfl ?_; intro w1 gb hbb1 hx1 hgb)
      | (go_at_call 29; (with_reducible refine (HOB.out _).mono ?_); rintro e w' ⟨rfl, rfl⟩)
      | (refine wpList_load_blk_g (by rfl) 37 (.tmp 3) rfl _ rfl hbb1 _ Tryz.underlying37 rfl 64 size48 hsz.out ?_)
      | (go_at_call 79; (with_reducible refine (HBW.out _).mono ?_); rintro e w2 ⟨rfl, hx2⟩))
    go_ret2
    exact ⟨rfl, hx1.trans hx2⟩
end Go.Proofs.YtgmddhljgfbibaaGreatDoor
/- run.isCoef, run.Tokens, the walk of the law RunTokens. -/
namespace Go.Proofs.YtgmddhljgfbibaaGreatDoor
set_option linter.unusedVariables false
set_option linter.unusedSimpArgs false
open Go.RowKit
theorem isCoef_any (n : Int) (w : World) : Calls Tryz.prog 53 #[.int .i64 n] w fun e w' => e = .returned (.bool (inB n (-2047) 2047)) ∧ w = w' := by
  by_cases h : -2047 ≤ n
  · have h' : decide (-2047 ≤ n) = true := by simpa using h
    have e : inB n (-2047) 2047 = decide (n ≤ 2047) := by simp [inB]; omega
    rw [e]; clear e
    go_enter Tryz.func53, Tryz.ntmps53
    go_wp2_with fail
    go_ret
    exact ⟨rfl, rfl⟩
  · have h' : decide (-2047 ≤ n) = false := by simpa using h
    have e : inB n (-2047) 2047 = false := inB_not.2 (by omega)
    rw [e]; clear e
    go_enter Tryz.func53, Tryz.ntmps53
    go_wp2_with fail
    go_ret
    exact ⟨rfl, rfl⟩
theorem tokens1_any (n : Int) (w : World) : Calls Tryz.prog 85 (#[.int .i64 n] ++ #[]) w fun e w' => e = .returned (.bool (!inB n (-2047) 2047)) ∧ w = w' := by
  have HC := hid_ (fun W => isCoef_any n W)
  generalize inB n (-2047) 2047 = b at *
  go_enter Tryz.func85, Tryz.ntmps85
  go_wp2_with (go_at_call 53; (with_reducible refine (HC.out _).mono ?_); rintro e w' ⟨rfl, rfl⟩)
  go_ret
  exact ⟨rfl, rfl⟩
theorem enters_tokens1 : Enters Tryz.prog 85 := enters_of Tryz.func85 (by kernel_rfl) rfl
set_option maxHeartbeats 400000 in
theorem rtok_bad (before : Int) (zs : List Int) (w : World) (hz : zs.length = 64) (h : inB before (-2047) 2047 = false ∨ (inB before (-2047) 2047 = true ∧ allIn zs (-2047) 2047 = false)) :
    Calls Tryz.prog 68 #[.int .i64 before, .agg (bv zs)] w fun e w' => e = .returned (.tuple #[.slice none 0 0, .int .i64 1]) ∧ Ext w w' := by
  have HOB := hid_ (fun W => isCoef_any before W)
  have HSL := hid_ (fun (W : World) g (h : Blk W g 37 (bv zs)) => h.bsl (c := 64) (by omega) (by omega))
  rw [hz] at HSL
  have HCF := hid_ (fun W v (hs : SL W 1 v 64 (ints zs)) => containsFunc_any 85 #[] (fun z => !inB z (-2047) 2047) enters_tokens1 v zs W (by rw [hz]; exact hs) (fun z _ => tokens1_any z W))
  simp only [inB_any] at HCF
  generalize bv zs = c0 at *
  rcases h with h | ⟨h, h2⟩
  · rw [h] at HOB
    clear h
    go_enter Tryz.func68, Tryz.ntmps68
    go_wp2_with (first
      | (refine wpList_box_abs rfl 37 (.tmp 1) rfl c0 rfl ?_; intro w1 gb hbb1 hx1 hgb)
      | (go_at_call 53; (with_reducible refine (HOB.out _).mono ?_); rintro e w' ⟨rfl, rfl⟩))
    go_ret2
    exact ⟨rfl, hx1⟩
  · rw [h] at HOB
    rw [h2] at HCF
    clear h h2
    go_enter Tryz.func68, Tryz.ntmps68
    go_wp2_with (first
      | (refine wpList_box_abs rfl 37 (.tmp 1) rfl c0 rfl ?_; intro w1 gb hbb1 hx1 hgb; have hsl := HSL.out _ _ hbb1)
      | (go_at_call 53; (with_reducible refine (HOB.out _).mono ?_); rintro e w' ⟨rfl, rfl⟩)
      | (go_at_call 84; (with_reducible refine (HCF.out _ _ hsl).mono ?_); rintro e w' ⟨rfl, rfl⟩))
    go_ret2
    exact ⟨rfl, hx1⟩
set_option maxHeartbeats 400000 in
theorem rtok_fresh (before : Int) (zs : List Int) (w : World) (hz : zs.length = 64) (hb1 : -2047 ≤ before) (hb2 : before ≤ 2047) (hal : allIn zs (-2047) 2047 = true) (h01 : -2047 ≤ (zto zs).getD 0 0) (h02 : (zto zs).getD 0 0 ≤ 2047) :
    Calls Tryz.prog 68 #[.int .i64 before, .agg (bv zs)] w fun e w' => ∃ A c, e = .returned (.tuple #[.slice A (tokensZ before (zto zs)).length c, .int .i64 0]) ∧ SL w' 3 (.slice A (tokensZ before (zto zs)).length c) (tokensZ before (zto zs)).length (toks (tokensZ before (zto zs))) ∧ (∀ ad, A = some ad → w.heap.size ≤ ad.block) ∧ Ext w w' := by
  have HOB := hid_ (fun W => isCoef_any before W)
  rw [inB_iff.2 ⟨hb1, hb2⟩] at HOB
  have HSL := hid_ (fun (W : World) g (h : Blk W g 37 (bv zs)) => h.bsl (c := 64) (by omega) (by omega))
  rw [hz] at HSL
  have HCF := hid_ (fun W v (hs : SL W 1 v 64 (ints zs)) => containsFunc_any 85 #[] (fun z => !inB z (-2047) 2047) enters_tokens1 v zs W (by rw [hz]; exact hs) (fun z _ => tokens1_any z W))
  simp only [inB_any, hal] at HCF
  have HT := hid_ (fun W => tokens_any before zs W hz hb1 hb2 h01 h02)
  have hsz := hid_ ((bv_size zs).trans hz)
  generalize tokensZ before (zto zs) = T at *
  generalize bv zs = c0 at *
  clear hal h01 h02
  go_enter Tryz.func68, Tryz.ntmps68
  go_wp2_with (first
    | (refine wpList_box_abs rfl 37 (.tmp 1) rfl c0 rfl ?_; intro w1 gb hbb1 hx1 hgb; have hsl := HSL.out _ _ hbb1)
    | (go_at_call 53; (with_reducible refine (HOB.out _).mono ?_); rintro e w' ⟨rfl, rfl⟩)
    | (go_at_call 84; (with_reducible refine (HCF.out _ _ hsl).mono ?_); rintro e w' ⟨rfl, rfl⟩)
    | (refine wpList_load_blk rfl 37 (.tmp 3) rfl _ rfl hbb1 _ Tryz.underlying37 rfl 64 size48 hsz.out ?_)
    | (go_at_call 56; (with_reducible refine (HT.out _).mono ?_); rintro e w2 ⟨A, c, rfl, hs2, hf2, hx2⟩))
  go_ret2
  exact ⟨A, c, rfl, hs2, fun ad e => Nat.le_trans hx1.size (hf2 ad e), hx1.trans hx2⟩
theorem rtok_good (before : Int) (zs : List Int) (w : World) (hz : zs.length = 64) (hb1 : -2047 ≤ before) (hb2 : before ≤ 2047) (hal : allIn zs (-2047) 2047 = true) (h01 : -2047 ≤ (zto zs).getD 0 0) (h02 : (zto zs).getD 0 0 ≤ 2047) :
    Calls Tryz.prog 68 #[.int .i64 before, .agg (bv zs)] w fun e w' => ∃ A c, e = .returned (.tuple #[.slice A (tokensZ before (zto zs)).length c, .int .i64 0]) ∧ SL w' 3 (.slice A (tokensZ before (zto zs)).length c) (tokensZ before (zto zs)).length (toks (tokensZ before (zto zs))) ∧ Ext w w' :=
  (rtok_fresh before zs w hz hb1 hb2 hal h01 h02).mono fun _ _ ⟨A, c, e, h1, _, h2⟩ => ⟨A, c, e, h1, h2⟩
end Go.Proofs.YtgmddhljgfbibaaGreatDoor
/- run.From, its head: a source that fails, a first token that may not be. -/
namespace Go.Proofs.YtgmddhljgfbibaaGreatDoor
set_option linter.unusedVariables false
set_option linter.unusedSimpArgs false
open Go.RowKit
theorem none_any (x : Int) (w : World) : Calls Tryz.prog 51 #[.int .i64 x] w fun e w' => e = .returned (.tuple #[.agg (bv (List.replicate 64 0)), .slice none 0 0, .int .i64 x]) ∧ Ext w w' := by
  have hz0 := hid_ (show (Value.agg (bv (List.replicate 64 0))).cells.size = 64 by rw [show (Value.agg (bv (List.replicate 64 0))).cells = bv (List.replicate 64 0) from rfl, bv_size]; rfl)
  have hbt : Tryz.prog.built 37 [] = some (bv (List.replicate 64 0)) := by kernel_rfl
  have hal : (Tryz.prog.info? 37).bind (·.zero) = some (.agg (bv (List.replicate 64 0))) := zero48
  have HBT := hid_ hbt
  have HAL := hid_ hal
  have HO := hid_ (bv_one (List.replicate 64 0))
  have HS := hid_ (show (bv (List.replicate 64 0)).size = 64 by rw [bv_size]; rfl)
  clear hbt hal
  generalize bv (List.replicate 64 0) = cz at *
  go_enter Tryz.func51, Tryz.ntmps51
  go_wp2_with (first
    | (show wpList _ _ _ (⟨some 2, _, _, _, _, _⟩ :: _) _ _; refine wpList_alloc_abs' rfl (some 2) rfl 37 rfl _ HAL.out ?_; intro w1 g1 hb1 hx1 hg1)
    | (refine wpList_build0 rfl 37 rfl _ HBT.out ?_)
    | (show wpList _ _ _ (⟨none, .store _ (.tmp 2) (.tmp 5), _, _, _, _⟩ :: _) _ _; refine wpList_store_blk rfl 37 (.tmp 2) (.tmp 5) rfl _ _ rfl rfl hb1 64 size48 HS.out hz0.out HO.out ?_; intro w2 hb2 hg2))
  refine ret_cell_tmp2 rfl rfl _ rfl hb2 _ Tryz.underlying37 rfl 64 size48 HS.out ⟨rfl, hx1.grown hg2 hg1⟩
section
variable {σ : Type} {f : FuncId} {B : Nat} {S : Nat → Prop} {Inv : World → σ → Prop} {next : Bool → σ → Tok × Int × σ}
/-- what From hands back -/
def FromIs (S : Nat → Prop) (Inv : World → σ → Prop) (w : World) (g : Int × List Int × List Tok × σ) (e : Ending) (w' : World) : Prop :=
  ∃ A c, e = .returned (.tuple #[.agg (bv g.2.1), .slice A g.2.2.1.length c, .int .i64 g.1]) ∧ SL w' 3 (.slice A g.2.2.1.length c) g.2.2.1.length (toks g.2.2.1) ∧ Inv w' g.2.2.2 ∧ Upd S w w'
set_option maxRecDepth 100000 in
set_option maxHeartbeats 1000000 in
theorem from_err (before : Int) {ty : TypeId} {v recv : Value} (hm : Meth Tryz.prog ty v "Token" f recv) (C : Src f #[recv] #[] B S Inv next) (w : World) (s : σ) (hI : Inv w s) (hB : B = w.heap.size)
    {t : Tok} {x : Int} {s1 : σ} (h : next true s = (t, x, s1)) (hx0 : x ≠ 0) : Calls Tryz.prog 26 #[.int .i64 before, .iface ty v] w (FromIs S Inv w (x, List.replicate 64 0, [], s1)) := by
  have HA := hid_ (fun W (a : Inv W s) (b : B ≤ W.heap.size) => C.ask true s W a b)
  rw [h] at HA
  simp only [Array.append_empty, List.append_toArray, List.cons_append, List.nil_append, tokv_out] at HA
  have hxb : (x != 0) = true := by simpa using hx0
  have HN := hid_ (fun W => none_any x W)
  have HAL := hid_ (show (Tryz.prog.info? 37).bind (·.zero) = some (.agg (bv (List.replicate 64 0))) from zero48)
  have HO := hid_ (bv_one (List.replicate 64 0))
  have HS := hid_ (show (bv (List.replicate 64 0)).size = 64 by rw [bv_size]; rfl)
  have hz0 := hid_ (show (Value.agg (bv (List.replicate 64 0))).cells.size = 64 by rw [show (Value.agg (bv (List.replicate 64 0))).cells = bv (List.replicate 64 0) from rfl, bv_size]; rfl)
  have HK := hid_ C.keep
  have HLOW := hid_ C.low
  unfold FromIs
  generalize hcz : bv (List.replicate 64 0) = cz at *
  have HCZ := hid_ hcz
  have HBs := hid_ hB
  clear h hx0 C hcz hB
  go_enter Tryz.func26, Tryz.ntmps26
  go_wp2_with (first
    | (show wpList _ _ _ (⟨some 4, _, _, _, _, _⟩ :: _) _ _; refine wpList_alloc_abs' rfl (some 4) rfl 37 rfl _ HAL.out ?_; intro w1 g1 hb1 hx1 hg1)
    | (show wpList _ _ _ (⟨some 19, _, _, _, _, _⟩ :: _) _ _; refine wl_enter (by rfl) (run_invoke (.tmp 18) "Token" _ _ rfl rfl hm #[recv, .bool true] (by simp [Act.eval])) ?_; (with_reducible refine (HA.out _ (HK.out _ _ _ hI (upd_of_ext hx1)) (by rw [HBs.out]; exact hx1.size)).mono ?_); rintro e w2 ⟨rfl, hi2, hu2⟩; refine ⟨_, rfl, ?_⟩)
    | (show wpList _ _ _ (⟨some 8, _, _, _, _, _⟩ :: _) _ _; refine wpList_alloc_abs' rfl (some 8) rfl 80 rfl _ zeroTok ?_; intro w3 g3 hb3 hx3 hg3)
    | (show wpList _ _ _ (⟨none, .store _ (.tmp 8) (.tmp 20), _, _, _, _⟩ :: _) _ _; refine wpList_store_blk rfl 80 (.tmp 8) (.tmp 20) rfl _ _ rfl rfl hb3 3 sizeTok rfl rfl (three_one _ _ _) ?_; intro w4 hb4 hg4)
    | (go_at_call 51; (with_reducible refine (HN.out _).mono ?_); rintro e w5 ⟨rfl, hx5⟩; have hb1' : Blk w5 g1 37 (Value.agg cz).cells := ((((hu2.blk hb1 (fun k => by have := HLOW.out _ k; have := HBs.out; omega)).ext hx3).grown hg4 (by intro k; have := Option.some.inj k; have := (hu2.blk hb1 (fun k => by have := HLOW.out _ k; have := HBs.out; omega)).lt; omega))).ext hx5)
    | (show wpList _ _ _ (⟨none, .store _ (.tmp 4) (.tmp 27), _, _, _, _⟩ :: _) _ _; refine wpList_store_blk rfl 37 (.tmp 4) (.tmp 27) rfl _ _ rfl rfl hb1' 64 size48 HS.out hz0.out HO.out ?_; intro w6 hb6 hg6))
  have hu : Upd S w w6 := by
    have h1 : Upd S w w2 := (upd_of_ext (S := S) hx1).trans hu2 (fun _ k => .inl k)
    have h2 := h1.size
    have h3 : Upd S w w3 := h1.trans (upd_of_ext (S := fun _ => False) hx3) (fun _ k => k.elim)
    have h4 := h3.trans (upd_grown hg4) (fun x k => .inr (by have := Option.some.inj k; omega))
    have h5 := h4.trans (upd_of_ext (S := fun _ => False) hx5) (fun _ k => k.elim)
    exact h5.trans (upd_grown hg6) (fun x k => .inr (by have := Option.some.inj k; omega))
  have hi : Inv w6 s1 := by
    have h2 := hu2.size
    have h3 := hx1.size
    have hBB := HBs.out
    have k3 : Upd (fun b => B ≤ b) w2 w3 := upd_of_ext hx3
    have k4 := k3.trans (upd_grown hg4) (fun x k => .inl (by have := Option.some.inj k; omega))
    have k5 := k4.trans (upd_of_ext (S := fun _ => False) hx5) (fun _ k => k.elim)
    exact HK.out _ _ _ hi2 (k5.trans (upd_grown hg6) (fun x k => .inl (by have := Option.some.inj k; omega)))
  refine ret_cell_tmp2 rfl rfl _ rfl hb6 _ Tryz.underlying37 rfl 64 size48 HS.out ?_
  exact ⟨none, 0, rfl, SL.nil _ _, hi, hu⟩
theorem tok_isS : ((Tryz.prog.info? 80).bind (·.zero)).isSome = true := by kernel_rfl
theorem blk_three {w : World} {g : Nat} {T : TypeId} {a b c : Int} (h : Blk w g T #[.int .i64 a, .int .i64 b, .int .i64 c]) : w.cell? ⟨g, 0, none⟩ = some (.int .i64 a) ∧ w.cell? ⟨g, 1, none⟩ = some (.int .i64 b) ∧ w.cell? ⟨g, 2, none⟩ = some (.int .i64 c) := by
  rw [h.cell, h.cell, h.cell]
  exact ⟨rfl, rfl, rfl⟩
set_option maxRecDepth 100000 in
set_option maxHeartbeats 4000000 in
theorem from_bad (before : Int) (hb1 : -2047 ≤ before) (hb2 : before ≤ 2047) {ty : TypeId} {v recv : Value} (hm : Meth Tryz.prog ty v "Token" f recv) (C : Src f #[recv] #[] B S Inv next) (w : World) (s : σ) (hI : Inv w s) (hB : B = w.heap.size)
    {t : Tok} {s1 : σ} (h : next true s = (t, 0, s1)) (hbad : tokOk1 before t = false) : Calls Tryz.prog 26 #[.int .i64 before, .iface ty v] w (FromIs S Inv w (4, List.replicate 64 0, [], s1)) := by
  have HA := hid_ (fun W (a : Inv W s) (b : B ≤ W.heap.size) => C.ask true s W a b)
  rw [h] at HA
  simp only [Array.append_empty, List.append_toArray, List.cons_append, List.nil_append, tokv_out] at HA
  have HN := hid_ (fun W => none_any 4 W)
  have HAL := hid_ (show (Tryz.prog.info? 37).bind (·.zero) = some (.agg (bv (List.replicate 64 0))) from zero48)
  have HO := hid_ (bv_one (List.replicate 64 0))
  have HS := hid_ (show (bv (List.replicate 64 0)).size = 64 by rw [bv_size]; rfl)
  have hz0 := hid_ (show (Value.agg (bv (List.replicate 64 0))).cells.size = 64 by rw [show (Value.agg (bv (List.replicate 64 0))).cells = bv (List.replicate 64 0) from rfl, bv_size]; rfl)
  have HK := hid_ C.keep
  have HLOW := hid_ C.low
  obtain ⟨t1, t2, t3⟩ := t
  have HBK := hid_ (fun W => back_any t2 t3 W)
  have hbb := backR_bd t2 t3
  have hcase : ((backR t2 t3).2 != 0) = true ∨ (((backR t2 t3).2 != 0) = false ∧ (t1 != t2) = true) ∨ (((backR t2 t3).2 != 0) = false ∧ (t1 != t2) = false ∧ inB (before + (backR t2 t3).1) (-2047) 2047 = false) := by
    by_cases c1 : (backR t2 t3).2 = 0
    · by_cases c2 : t1 = t2
      · refine .inr (.inr ⟨by simpa using c1, by simpa using c2, ?_⟩)
        rw [inB_not]
        unfold tokOk1 at hbad
        simp only [decide_eq_false_iff_not, not_and] at hbad
        have := hbad c1 c2
        omega
      · exact .inr (.inl ⟨by simpa using c1, by simpa using c2⟩)
    · exact .inl (by simpa using c1)
  have HIC := hid_ (fun W => isCoef_any (before + (backR t2 t3).1) W)
  unfold FromIs
  clear hbad h C
  generalize backR t2 t3 = bk at *
  obtain ⟨b1, b2⟩ := bk
  simp only at hbb hcase HBK HIC
  obtain ⟨hbb1, hbb2, -⟩ := hbb
  generalize hcz : bv (List.replicate 64 0) = cz at *
  have HCZ := hid_ hcz
  have HBs := hid_ hB
  clear hcz hB
  rcases hcase with c1 | ⟨c1, c2⟩ | ⟨c1, c2, c3⟩
  all_goals
    go_enter Tryz.func26, Tryz.ntmps26
    go_wp2_with (first
      | (show wpList _ _ _ (⟨some 4, _, _, _, _, _⟩ :: _) _ _; refine wpList_alloc_abs' rfl (some 4) rfl 37 rfl _ HAL.out ?_; intro w1 g1 hb1 hx1 hg1)
      | (show wpList _ _ _ (⟨some 19, _, _, _, _, _⟩ :: _) _ _; refine wl_enter (by rfl) (run_invoke (.tmp 18) "Token" _ _ rfl rfl hm #[recv, .bool true] (by simp [Act.eval])) ?_; (with_reducible refine (HA.out _ (HK.out _ _ _ hI (upd_of_ext hx1)) (by rw [HBs.out]; exact hx1.size)).mono ?_); rintro e w2 ⟨rfl, hi2, hu2⟩; refine ⟨_, rfl, ?_⟩)
      | (show wpList _ _ _ (⟨some 8, _, _, _, _, _⟩ :: _) _ _; refine wpList_alloc_abs' rfl (some 8) rfl 80 rfl _ zeroTok ?_; intro w3 g3 hb3 hx3 hg3)
      | (show wpList _ _ _ (⟨none, .store _ (.tmp 8) (.tmp 20), _, _, _, _⟩ :: _) _ _; refine wpList_store_blk rfl 80 (.tmp 8) (.tmp 20) rfl _ _ rfl rfl hb3 3 sizeTok rfl rfl (three_one _ _ _) ?_; intro w4 hb4 hg4)
      | (show wpList _ _ _ (⟨some 30, _, _, _, _, _⟩ :: _) _ _; refine wpList_load_blk rfl 80 (.tmp 8) rfl g3 rfl hb4 _ Tryz.underlying80 rfl 3 sizeTok rfl ?_)
      | (show wpList _ _ _ (⟨some 31, _, _, _, _, _⟩ :: _) _ _; refine wpList_lit1 rfl 67 80 (.tmp 30) rfl (some 31) rfl Tryz.underlying67 3 sizeTok tok_isS _ rfl rfl (by omega) (by omega) ?_; intro w5 g5 hb5 hx5 hg5; obtain ⟨q0, q1, q2⟩ := blk_three (hb4.ext hx5))
      | (go_at_call 52; (with_reducible refine (HBK.out _).mono ?_); rintro e w' ⟨rfl, rfl⟩)
      | (go_at_call 53; (with_reducible refine (HIC.out _).mono ?_); rintro e w' ⟨rfl, rfl⟩)
      | (go_at_call 51; (with_reducible refine (HN.out _).mono ?_); rintro e w6 ⟨rfl, hx6⟩; have hb1' : Blk w6 g1 37 (Value.agg cz).cells := (((((hu2.blk hb1 (fun k => by have := HLOW.out _ k; have := HBs.out; omega)).ext hx3).grown hg4 (by intro k; have := Option.some.inj k; have := (hu2.blk hb1 (fun k => by have := HLOW.out _ k; have := HBs.out; omega)).lt; omega))).ext hx5).ext hx6)
      | (show wpList _ _ _ (⟨none, .store _ (.tmp 4) (.tmp 58), _, _, _, _⟩ :: _) _ _; refine wpList_store_blk rfl 37 (.tmp 4) (.tmp 58) rfl _ _ rfl rfl hb1' 64 size48 HS.out hz0.out HO.out ?_; intro w7 hb7 hg7))
    have hu : Upd S w w7 := by
      have h1 : Upd S w w2 := (upd_of_ext (S := S) hx1).trans hu2 (fun _ k => .inl k)
      have h2 := h1.size
      have h3 : Upd S w w3 := h1.trans (upd_of_ext (S := fun _ => False) hx3) (fun _ k => k.elim)
      have h4 := h3.trans (upd_grown hg4) (fun x k => .inr (by have := Option.some.inj k; omega))
      have h5 := h4.trans (upd_of_ext (S := fun _ => False) (hx5.trans hx6)) (fun _ k => k.elim)
      exact h5.trans (upd_grown hg7) (fun x k => .inr (by have := Option.some.inj k; omega))
    have hi : Inv w7 s1 := by
      have h2 := hu2.size
      have h3 := hx1.size
      have hBB := HBs.out
      have k3 : Upd (fun b => B ≤ b) w2 w3 := upd_of_ext hx3
      have k4 := k3.trans (upd_grown hg4) (fun x k => .inl (by have := Option.some.inj k; omega))
      have k5 := k4.trans (upd_of_ext (S := fun _ => False) (hx5.trans hx6)) (fun _ k => k.elim)
      exact HK.out _ _ _ hi2 (k5.trans (upd_grown hg7) (fun x k => .inl (by have := Option.some.inj k; omega)))
    refine ret_cell_tmp2 rfl rfl _ rfl hb7 _ Tryz.underlying37 rfl 64 size48 HS.out ?_
    exact ⟨none, 0, rfl, SL.nil _ _, hi, hu⟩
end
end Go.Proofs.YtgmddhljgfbibaaGreatDoor
