/- run.tokens. -/
import Derived.Test.YthnchhkiidlpkaaToken
import Derived.Test.YthnchhkiidlpkaaZigTo
namespace Go.Proofs.Ythnchhkiidlpkaa
open Go.RowKit
set_option maxHeartbeats 1000000 in
theorem tokens_any (before : Int) (zs : List Int) (w : World) (hz : zs.length = 64) (hb1 : -2047 ≤ before) (hb2 : before ≤ 2047) (h01 : -2047 ≤ (zto zs).getD 0 0) (h02 : (zto zs).getD 0 0 ≤ 2047) :
    Calls Try.prog 72 #[.int .i64 before, .agg (bv zs)] w fun e w' => ∃ A c, e = .returned (.slice A (tokensZ before (zto zs)).length c) ∧ SL w' 3 (.slice A (tokensZ before (zto zs)).length c) (tokensZ before (zto zs)).length (toks (tokensZ before (zto zs))) ∧ (∀ ad, A = some ad → w.heap.size ≤ ad.block) ∧ Ext w w' := by
  have HZT := hid_ (fun W => zto_any zs W hz)
  have hZl := zto_len zs
  have hsz := hid_ ((bv_size zs).trans hz)
  have hst := hid_ ((bv_size _).trans hZl)
  have hot := hid_ (bv_one (zto zs))
  generalize hZ : zto zs = Z at *
  clear hZ
  have h0l : 0 < Z.length := by omega
  have e0 : Z.getD 0 0 = Z[0] := by simp [h0l]
  rw [e0] at h01 h02
  have HAT := hid_ (fun k (hk : k < Z.length) => bv_at Z k hk)
  have HF : Hid (tokensZ before Z = if 0 < (accT (tokZ 0 (Z[0] - before)) (Z.drop 1) 63).2 then (accT (tokZ 0 (Z[0] - before)) (Z.drop 1) 63).1 ++ [(0, 0, 0)] else (accT (tokZ 0 (Z[0] - before)) (Z.drop 1) 63).1) := hid_ (by unfold tokensZ; rw [e0])
  have HT0 : Hid (∀ W, Calls Try.prog 87 #[.int .i64 0, .int .i64 (Z[0] - before)] W fun e w' => e = .returned (.agg (tokv (tokZ 0 (Z[0] - before))).toArray) ∧ Ext W w') := hid_ (fun W => by simpa using token_any 0 (Z[0] - before) W (by omega))
  simp only [tokv_out] at HT0
  generalize hcz : bv Z = cz at *
  generalize bv zs = c0 at *
  clear hcz hz e0
  generalize ht : tokZ 0 (Z[0] - before) = t0 at *
  clear ht
  have hll : (Z.drop 1).length = 63 := by simp; omega
  have HLL := hid_ hll
  have HLK : Hid (∀ k (h : k < (Z.drop 1).length) (h2 : k + 1 < Z.length), (Z.drop 1)[k] = Z[k + 1]) := hid_ (fun k h h2 => by simp)
  generalize hl : Z.drop 1 = l at *
  clear hl hll
  go_enter Try.func72, Try.ntmps72
  go_wp2_with (first
    | (refine wpList_box_abs rfl 59 (.tmp 1) rfl c0 rfl ?_; intro w1 g hbb1 hx1 hg)
    | (refine wpList_load_blk rfl 59 (.tmp 3) rfl _ rfl hbb1 _ Try.underlying59 rfl 64 size48 hsz.out ?_)
    | (go_at_call 86; (with_reducible refine (HZT.out _).mono ?_); rintro e w2 ⟨rfl, hx2⟩; have hbb2 := hbb1.ext hx2)
    | (refine wpList_store_blk rfl 59 (.tmp 3) (.tmp 10) rfl _ _ rfl rfl hbb2 64 size48 hst.out hsz.out hot.out ?_; intro w3 hbb3 hg3; have hc0 : w3.cell? ⟨g, 0, none⟩ = some (.int .i64 Z[0]) := (hbb3.cell 0).trans (HAT.out 0 h0l))
    | (go_at_call 87; (with_reducible refine (HT0.out _).mono ?_); rintro e w4 ⟨rfl, hx4⟩))
  have hown0 := own_built3 (w := w4) (base := w3.heap.size) 65 (.int .i64 t0.1) (.int .i64 t0.2.1) (.int .i64 t0.2.2) hx4.size
  have hx5 := hx4.alloc (.cells #[.int .i64 t0.1, .int .i64 t0.2.1, .int .i64 t0.2.2] 65)
  have hbb5 := hbb3.ext hx5
  have hglt := hbb3.lt
  have hxw : Ext w w3 := (hx1.trans hx2).grown hg3 hg
  have HB0 : Hid (w.heap.size ≤ w3.heap.size) := hid_ hxw.size
  clear hbb1 hbb2 hx1 hx2 hg3 hc0 hx4 HZT HT0
  generalize hw5 : w4.alloc (.cells #[.int .i64 t0.1, .int .i64 t0.2.1, .int .i64 t0.2.2] 65) = w5 at *
  clear hw5
  go_loopw [5, 6, 19] (fun v r i wr => ∃ k : Nat, k ≤ 63 ∧ i = .int .i64 k ∧ r = .int .i64 ((accT t0 l k).2 : Nat) ∧ wr.ownsRow w3.heap.size 65 3 v (accT t0 l k).1.length (toks (accT t0 l k).1) ∧ Blk wr g 59 cz ∧ Ext w3 wr) (fun _ _ i _ => 63 - (intOf i).toNat)
  case atStart => exact ⟨0, by omega, rfl, rfl, hown0, hbb5, hx5⟩
  case round =>
    clear hown0 hbb5 hx5
    obtain ⟨k, hk, rfl, rfl, hown, hbb, hx⟩ := hrel
    obtain ⟨b1, b2⟩ := accT_bd t0 l k (by have := HLL.out; omega) (by omega)
    by_cases hlt : k < 63
    · have hkl : k < l.length := by have := HLL.out; omega
      have hkZ : k + 1 < Z.length := by omega
      have HS := hid_ (accT_succ t0 l k hkl)
      have hcell : wr.cell? ⟨g, 1 + k, none⟩ = some (.int .i64 l[k]) := by
        rw [Nat.add_comm 1 k]
        exact (hbb.cell (k + 1)).trans (by rw [HAT.out (k + 1) hkZ, HLK.out k hkl hkZ])
      generalize accT t0 l k = s at *
      obtain ⟨acc, rn⟩ := s
      simp only at b1 b2 hown ⊢
      by_cases hz0 : l[k] = 0
      · rw [stepT_zero hz0] at HS
        generalize hnk : accT t0 l (k + 1) = s1 at *
        have HS1 := HS.out
        have hz0' : (l[k] == 0) = true := by simpa using hz0
        clear hz0 HS
        go_wp2_with fail
        go_roundw
        case rel =>
          refine ⟨k + 1, by omega, by go_num, by rw [hnk, HS1]; simp, by rw [hnk, HS1]; exact hown, hbb, hx⟩
        case measure => simp [intOf]; omega
      · rw [stepT_one hz0] at HS
        have hz0' : (l[k] == 0) = false := by simpa using hz0
        have HTK := hid_ (fun W => token_any (rn % 16) l[k] W (by omega))
        simp only [tokv_out] at HTK
        generalize tokZ ((rn % 16 : Nat) : Int) l[k] = tk at *
        generalize hnk : accT t0 l (k + 1) = s1 at *
        have HS1 := hid_ HS.out
        have HNK := hid_ hnk
        clear hz0 HS hnk
        go_wp2_with fail
        go_loopw [5, 6] (fun v r wr2 => ∃ j : Nat, j ≤ rn / 16 ∧ r = .int .i64 ((rn : Int) - 16 * j) ∧ wr2.ownsRow w3.heap.size 65 3 v (acc ++ List.replicate j long).length (toks (acc ++ List.replicate j long)) ∧ Blk wr2 g 59 cz ∧ Ext w3 wr2) (fun _ r _ => (intOf r).toNat)
        case atStart => exact ⟨0, by omega, by simp, by simpa using hown, hbb, hx⟩
        case round =>
          clear hown hbb hx
          obtain ⟨j, hj, rfl, hown, hbb, hx⟩ := hrel
          have hlen : (acc ++ List.replicate j long).length = acc.length + j := by simp
          by_cases hj2 : j < rn / 16
          · have hgt : (15 : Int) < (rn : Int) - 16 * j := by omega
            go_wp2_with (at_builtin; go_must (refine wpList_append_sl elt_tok rfl _ _ rfl w3.heap.size _ _ _ rfl (hown.alloc _) _ 1 [.int .i64 _, .int .i64 _, .int .i64 _] rfl (one_sl3 _ _ _ _ _) (tok_one _ _ _) (by omega) (by omega) (by have := hx.size; simp; omega) ?_); intro v' w7 hown7 hb7)
            go_roundw
            case rel =>
              refine ⟨j + 1, by omega, by congr 1; omega, ?_, (hbb.alloc _).below hb7 hglt, (hx.alloc _).trans' hb7⟩
              rw [List.replicate_succ', ← List.append_assoc]
              exact own_tok hown7
            case measure => simp [intOf]; omega
          · obtain rfl : j = rn / 16 := by omega
            have e : (rn : Int) - 16 * ((rn / 16 : Nat) : Int) = ((rn % 16 : Nat) : Int) := by omega
            rw [e]
            clear e hj hj2
            have hq : rn % 16 ≤ 15 := by omega
            generalize rn % 16 = q at *
            go_wp2_with (first
              | (go_at_call 87; (with_reducible refine (HTK.out _).mono ?_); rintro e w6 ⟨rfl, hx6⟩)
              | (at_builtin; go_must (refine wpList_append_sl elt_tok rfl _ _ rfl w3.heap.size _ _ _ rfl ((own_ext hown hx6).alloc _) _ 1 [.int .i64 _, .int .i64 _, .int .i64 _] rfl (one_sl3 _ _ _ _ _) (tok_one _ _ _) (by omega) (by omega) (by have := hx.size; have := hx6.size; simp; omega) ?_); intro v' w7 hown7 hb7))
            go_roundw
            case rel =>
              refine ⟨k + 1, by omega, by go_num, by rw [HNK.out, HS1.out]; rfl, ?_, ((hbb.ext hx6).alloc _).below hb7 hglt, ((hx.trans hx6).alloc _).trans' hb7⟩
              rw [HNK.out, HS1.out]
              exact own_tok hown7
            case measure => simp [intOf]; omega
    · have ek : k = 63 := by omega
      subst ek
      generalize accT t0 l 63 = s at *
      obtain ⟨acc, rn⟩ := s
      simp only at b1 b2 hown HF
      by_cases hr : 0 < rn
      · rw [if_pos hr] at HF
        go_wp2_with (at_builtin; go_must (refine wpList_append_sl elt_tok rfl _ _ rfl w3.heap.size _ _ _ rfl (hown.alloc _) _ 1 [.int .i64 _, .int .i64 _, .int .i64 _] rfl (one_sl3 _ _ _ _ _) (tok_one _ _ _) (by omega) (by omega) (by have := hx.size; simp; omega) ?_); intro v' w7 hown7 hb7)
        go_ret
        rw [HF.out]
        obtain ⟨A, c, rfl, hsl, hfs⟩ := own_form (own_tok hown7)
        exact ⟨A, c, rfl, hsl, fun ad h => Nat.le_trans HB0.out (hfs ad h), hxw.trans ((hx.alloc _).trans' hb7)⟩
      · rw [if_neg hr] at HF
        go_wp2_with fail
        go_ret
        rw [HF.out]
        obtain ⟨A, c, rfl, hsl, hfs⟩ := own_form hown
        exact ⟨A, c, rfl, hsl, fun ad h => Nat.le_trans HB0.out (hfs ad h), hxw.trans hx⟩
end Go.Proofs.Ythnchhkiidlpkaa
