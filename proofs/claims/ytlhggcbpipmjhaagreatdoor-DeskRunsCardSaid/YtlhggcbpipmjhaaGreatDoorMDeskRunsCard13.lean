/- Contracts for the law DeskRunsCard, part 13: what the functions that it reaches answer, for all arguments that the theorems name. -/
import Derived.Test.YtlhggcbpipmjhaaGreatDoorMDeskRunsCard12
import Derived.Test.YtlhggcbpipmjhaaGreatDoorMDeskRunsCard1
import Derived.ProofKit
import Derived.OpenShut
import Derived.Test.YtlhggcbpipmjhaaGreatDoorMDeskRunsCard5
import Derived.Test.YtlhggcbpipmjhaaGreatDoorMDeskRunsCard7
import Derived.Test.YtlhggcbpipmjhaaGreatDoorMDeskRunsCard11
import Derived.Test.YtlhggcbpipmjhaaGreatDoorMDeskRunsCard2
import Derived.Test.YtlhggcbpipmjhaaGreatDoorMDeskRunsCard10
import Derived.Test.YtlhggcbpipmjhaaGreatDoorMDeskRunsCard6
namespace Go.Proofs.YtlhggcbpipmjhaaGreatDoor
set_option linter.unusedVariables false
set_option linter.unusedSimpArgs false
open Go.RowKit
set_option maxHeartbeats 1000000 in
theorem tokens_any (before : Int) (zs : List Int) (w : World) (hz : zs.length = 64) (hb1 : -2047 ≤ before) (hb2 : before ≤ 2047) (h01 : -2047 ≤ (zto zs).getD 0 0) (h02 : (zto zs).getD 0 0 ≤ 2047) :
 Calls Tryz.prog 98 #[.int .i64 before, .agg (bv zs)] w fun e w' => ∃ A c, e = .returned (.slice A (tokensZ before (zto zs)).length c) ∧ SL w' 3 (.slice A (tokensZ before (zto zs)).length c) (tokensZ before (zto zs)).length (toks (tokensZ before (zto zs))) ∧ (∀ ad, A = some ad → w.heap.size ≤ ad.block) ∧ Ext w w' := by
 have HZT := hid_ (fun W => zto_any zs W hz)
 have hZl := zto_len zs
 have hsz := hid_ ((bv_size zs).trans hz)
 have hst := hid_ ((bv_size _).trans hZl)
 have hot := hid_ (bv_one (zto zs))
 generalize hZ : zto zs = Z at *
 clear hZ
 have h0l : 0 < Z.length := by omega
 have e0 : Z.getD 0 0 = Z[0] := by simp [h0l]
 rw [e0] at h01 h02
 have HAT := hid_ (fun k (hk : k < Z.length) => bv_at Z k hk)
 have HF : Hid (tokensZ before Z = if 0 < (accT (tokZ 0 (Z[0] - before)) (Z.drop 1) 63).2 then (accT (tokZ 0 (Z[0] - before)) (Z.drop 1) 63).1 ++ [(0, 0, 0)] else (accT (tokZ 0 (Z[0] - before)) (Z.drop 1) 63).1) := hid_ (by unfold tokensZ; rw [e0])
 have HT0 : Hid (∀ W, Calls Tryz.prog 131 #[.int .i64 0, .int .i64 (Z[0] - before)] W fun e w' => e = .returned (.agg (tokv (tokZ 0 (Z[0] - before))).toArray) ∧ Ext W w') := hid_ (fun W => by simpa using token_any 0 (Z[0] - before) W (by omega))
 simp only [tokv_out] at HT0
 generalize hcz : bv Z = cz at *
 generalize bv zs = c0 at *
 clear hcz hz e0
 generalize ht : tokZ 0 (Z[0] - before) = t0 at *
 clear ht
 have hll : (Z.drop 1).length = 63 := by simp; omega
 have HLL := hid_ hll
 have HLK : Hid (∀ k (h : k < (Z.drop 1).length) (h2 : k + 1 < Z.length), (Z.drop 1)[k] = Z[k + 1]) := hid_ (fun k h h2 => by simp)
 generalize hl : Z.drop 1 = l at *
 clear hl hll
 go_enter Tryz.func98, Tryz.ntmps98
 go_wp2_with (first
  | (refine wBox rfl 30 (.tmp 1) rfl c0 rfl ?_; intro w1 g hbb1 hx1 hg)
  | (refine wLdB rfl 30 (.tmp 3) rfl _ rfl hbb1 _ Tryz.underlying30 rfl 64 size48 hsz.out ?_)
  | (go_at_call 130; (with_reducible refine (HZT.out _).mono ?_); rintro e w2 ⟨rfl, hx2⟩; have hbb2 := hbb1.ext hx2)
  | (refine wStB rfl 30 (.tmp 3) (.tmp 10) rfl _ _ rfl rfl hbb2 64 size48 hst.out hsz.out hot.out ?_; intro w3 hbb3 hg3; have hc0 : w3.cell? ⟨g, 0, none⟩ = some (.int .i64 Z[0]) := (hbb3.cell 0).trans (HAT.out 0 h0l))
  | (go_at_call 131; (with_reducible refine (HT0.out _).mono ?_); rintro e w4 ⟨rfl, hx4⟩))
 have hown0 := own_built3 (w := w4) (base := w3.heap.size) 59 (.int .i64 t0.1) (.int .i64 t0.2.1) (.int .i64 t0.2.2) hx4.size
 have hx5 := hx4.alloc (.cells #[.int .i64 t0.1, .int .i64 t0.2.1, .int .i64 t0.2.2] 59)
 have hbb5 := hbb3.ext hx5
 have hglt := hbb3.lt
 have hxw : Ext w w3 := (hx1.trans hx2).grown hg3 hg
 have HB0 : Hid (w.heap.size ≤ w3.heap.size) := hid_ hxw.size
 clear hbb1 hbb2 hx1 hx2 hg3 hc0 hx4 HZT HT0
 generalize hw5 : w4.alloc (.cells #[.int .i64 t0.1, .int .i64 t0.2.1, .int .i64 t0.2.2] 59) = w5 at *
 clear hw5
 go_loopw [5, 6, 19] (fun v r i wr => ∃ k : Nat, k ≤ 63 ∧ i = .int .i64 k ∧ r = .int .i64 ((accT t0 l k).2 : Nat) ∧ wr.ownsRow w3.heap.size 59 3 v (accT t0 l k).1.length (toks (accT t0 l k).1) ∧ Blk wr g 30 cz ∧ Ext w3 wr) (fun _ _ i _ => 63 - (intOf i).toNat)
 case atStart => exact ⟨0, by omega, rfl, rfl, hown0, hbb5, hx5⟩
 case round =>
  clear hown0 hbb5 hx5
  obtain ⟨k, hk, rfl, rfl, hown, hbb, hx⟩ := hrel
  obtain ⟨b1, b2⟩ := accT_bd t0 l k (by have := HLL.out; omega) (by omega)
  by_cases hlt : k < 63
  ·have hkl : k < l.length := by have := HLL.out; omega
   have hkZ : k + 1 < Z.length := by omega
   have HS := hid_ (accT_succ t0 l k hkl)
   have hcell : wr.cell? ⟨g, 1 + k, none⟩ = some (.int .i64 l[k]) := by
    rw [Nat.add_comm 1 k]
    exact (hbb.cell (k + 1)).trans (by rw [HAT.out (k + 1) hkZ, HLK.out k hkl hkZ])
   generalize accT t0 l k = s at *
   obtain ⟨acc, rn⟩ := s
   simp only at b1 b2 hown ⊢
   by_cases hz0 : l[k] = 0
   ·rw [stepT_zero hz0] at HS
    generalize hnk : accT t0 l (k + 1) = s1 at *
    have HS1 := HS.out
    have hz0' : (l[k] == 0) = true := by simpa using hz0
    clear hz0 HS
    go_wp2_with fail
    go_roundw
    case rel =>
     refine ⟨k + 1, by omega, by go_num, by rw [hnk, HS1]; simp, by rw [hnk, HS1]; exact hown, hbb, hx⟩
    case measure => simp [intOf]; omega
   ·rw [stepT_one hz0] at HS
    have hz0' : (l[k] == 0) = false := by simpa using hz0
    have HTK := hid_ (fun W => token_any (rn % 16) l[k] W (by omega))
    simp only [tokv_out] at HTK
    generalize tokZ ((rn % 16 : Nat) : Int) l[k] = tk at *
    generalize hnk : accT t0 l (k + 1) = s1 at *
    have HS1 := hid_ HS.out
    have HNK := hid_ hnk
    clear hz0 HS hnk
    go_wp2_with fail
    go_loopw [5, 6] (fun v r wr2 => ∃ j : Nat, j ≤ rn / 16 ∧ r = .int .i64 ((rn : Int) - 16 * j) ∧ wr2.ownsRow w3.heap.size 59 3 v (acc ++ List.replicate j long).length (toks (acc ++ List.replicate j long)) ∧ Blk wr2 g 30 cz ∧ Ext w3 wr2) (fun _ r _ => (intOf r).toNat)
    case atStart => exact ⟨0, by omega, by simp, by simpa using hown, hbb, hx⟩
    case round =>
     clear hown hbb hx
     obtain ⟨j, hj, rfl, hown, hbb, hx⟩ := hrel
     have hlen : (acc ++ List.replicate j long).length = acc.length + j := by simp
     by_cases hj2 : j < rn / 16
     ·have hgt : (15 : Int) < (rn : Int) - 16 * j := by omega
      go_wp2_with (at_builtin; go_must (refine wpList_append_sl elt_tok rfl _ _ rfl w3.heap.size _ _ _ rfl (hown.alloc _) _ 1 [.int .i64 _, .int .i64 _, .int .i64 _] rfl (one_sl3 _ _ _ _ _) (tok_one _ _ _) (by omega) (by omega) (by have := hx.size; simp; omega) ?_); intro v' w7 hown7 hb7)
      go_roundw
      case rel =>
       refine ⟨j + 1, by omega, by congr 1; omega, ?_, (hbb.alloc _).below hb7 hglt, (hx.alloc _).trans' hb7⟩
       rw [List.replicate_succ', ← List.append_assoc]
       exact own_tok hown7
      case measure => simp [intOf]; omega
     ·obtain rfl : j = rn / 16 := by omega
      have e : (rn : Int) - 16 * ((rn / 16 : Nat) : Int) = ((rn % 16 : Nat) : Int) := by omega
      rw [e]
      clear e hj hj2
      have hq : rn % 16 ≤ 15 := by omega
      generalize rn % 16 = q at *
      go_wp2_with (first
       | (go_at_call 131; (with_reducible refine (HTK.out _).mono ?_); rintro e w6 ⟨rfl, hx6⟩)
       | (at_builtin; go_must (refine wpList_append_sl elt_tok rfl _ _ rfl w3.heap.size _ _ _ rfl ((own_ext hown hx6).alloc _) _ 1 [.int .i64 _, .int .i64 _, .int .i64 _] rfl (one_sl3 _ _ _ _ _) (tok_one _ _ _) (by omega) (by omega) (by have := hx.size; have := hx6.size; simp; omega) ?_); intro v' w7 hown7 hb7))
      go_roundw
      case rel =>
       refine ⟨k + 1, by omega, by go_num, by rw [HNK.out, HS1.out]; rfl, ?_, ((hbb.ext hx6).alloc _).below hb7 hglt, ((hx.trans hx6).alloc _).trans' hb7⟩
       rw [HNK.out, HS1.out]
       exact own_tok hown7
      case measure => simp [intOf]; omega
  ·have ek : k = 63 := by omega
   subst ek
   generalize accT t0 l 63 = s at *
   obtain ⟨acc, rn⟩ := s
   simp only at b1 b2 hown HF
   by_cases hr : 0 < rn
   ·rw [if_pos hr] at HF
    go_wp2_with (at_builtin; go_must (refine wpList_append_sl elt_tok rfl _ _ rfl w3.heap.size _ _ _ rfl (hown.alloc _) _ 1 [.int .i64 _, .int .i64 _, .int .i64 _] rfl (one_sl3 _ _ _ _ _) (tok_one _ _ _) (by omega) (by omega) (by have := hx.size; simp; omega) ?_); intro v' w7 hown7 hb7)
    go_ret
    rw [HF.out]
    obtain ⟨A, c, rfl, hsl, hfs⟩ := own_form (own_tok hown7)
    exact ⟨A, c, rfl, hsl, fun ad h => Nat.le_trans HB0.out (hfs ad h), hxw.trans ((hx.alloc _).trans' hb7)⟩
   ·rw [if_neg hr] at HF
    go_wp2_with fail
    go_ret
    rw [HF.out]
    obtain ⟨A, c, rfl, hsl, hfs⟩ := own_form hown
    exact ⟨A, c, rfl, hsl, fun ad h => Nat.le_trans HB0.out (hfs ad h), hxw.trans hx⟩
theorem own_lower {w : World} {B B' : Nat} {e : TypeId} {size n : Nat} {v : Value} {xs : List Value} (h : w.ownsRow B e size v n xs) (hb : B' ≤ B) : w.ownsRow B' e size v n xs := by
 obtain ⟨hl, hh⟩ := h
 refine ⟨hl, ?_⟩
 rcases hh with ⟨rfl, rfl⟩ | ⟨g, cap, cur, rfl, h1, h2⟩
 ·exact .inl ⟨rfl, rfl⟩
 ·exact .inr ⟨g, cap, cur, rfl, by omega, h2⟩
set_option maxRecDepth 20000 in
set_option maxHeartbeats 1000000 in
theorem rtokens_own (before : Int) (zs : List Int) (w : World) (hz : zs.length = 64) (hb1 : -2047 ≤ before) (hb2 : before ≤ 2047) (hal : allIn zs (-2047) 2047 = true) (h01 : -2047 ≤ (zto zs).getD 0 0) (h02 : (zto zs).getD 0 0 ≤ 2047) :
 Calls Tryz.prog 22 #[.int .i64 before, .agg (bv zs)] w fun e w' => ∃ A c, e = .returned (.tuple #[.slice A (tokensZ before (zto zs)).length c, .int .i64 0]) ∧ w'.ownsRow w.heap.size 59 3 (.slice A (tokensZ before (zto zs)).length c) (tokensZ before (zto zs)).length (toks (tokensZ before (zto zs))) ∧ Ext w w' := by
 have HZT := hid_ (fun W => rzto_any zs W hz)
 have HOB := hid_ (fun W => outside_any before (-2047) 2047 W)
 rw [inB_iff.2 ⟨hb1, hb2⟩] at HOB
 have HBW := hid_ (fun W => blockWithin_any zs (-2047) 2047 W hz)
 rw [hal] at HBW
 have hZl := zto_len zs
 have hsz := hid_ ((bv_size zs).trans hz)
 have hst := hid_ ((bv_size _).trans hZl)
 have hot := hid_ (bv_one (zto zs))
 have hs0 : Hid ((Value.agg (bv zeros64)).cells.size = 64) := hid_ (by rw [show (Value.agg (bv zeros64)).cells = bv zeros64 from rfl, bv_size]; rfl)
 have hz0 := zero48
 have HZ0 := hid_ hz0
 clear hz0
 generalize hZ : zto zs = Z at *
 clear hZ hal
 have h0l : 0 < Z.length := by omega
 have e0 : Z.getD 0 0 = Z[0] := by simp [h0l]
 rw [e0] at h01 h02
 have HAT := hid_ (fun k (hk : k < Z.length) => bv_at Z k hk)
 have HF : Hid (tokensZ before Z = if 0 < (accT (tokZ 0 (Z[0] - before)) (Z.drop 1) 63).2 then (accT (tokZ 0 (Z[0] - before)) (Z.drop 1) 63).1 ++ [(0, 0, 0)] else (accT (tokZ 0 (Z[0] - before)) (Z.drop 1) 63).1) := hid_ (by unfold tokensZ; rw [e0])
 have HT0 := hid_ (fun W => rtoken_any 0 (Z[0] - before) W (by omega) (by omega))
 simp only [tokv_out] at HT0
 generalize bv zeros64 = cz0 at *
 generalize hcz : bv Z = cz at *
 generalize bv zs = c0 at *
 clear hcz hz e0
 generalize ht : tokZ 0 (Z[0] - before) = t0 at *
 clear ht
 have hll : (Z.drop 1).length = 63 := by simp; omega
 have HLL := hid_ hll
 have HLK : Hid (∀ k (h : k < (Z.drop 1).length) (h2 : k + 1 < Z.length), (Z.drop 1)[k] = Z[k + 1]) := hid_ (fun k h h2 => by simp)
 generalize hl : Z.drop 1 = l at *
 clear hl hll
 go_enter Tryz.func22, Tryz.ntmps22
 go_wp2_with (first
  | (refine wBox rfl 30 (.tmp 1) rfl c0 rfl ?_; intro w1 gb hbb1 hx1 hgb)
  | (go_at_call 20; (with_reducible refine (HOB.out _).mono ?_); rintro e w' ⟨rfl, rfl⟩)
  | (refine wpList_load_blk_g (by rfl) 30 (.tmp 3) rfl _ rfl hbb1 _ Tryz.underlying30 rfl 64 size48 hsz.out ?_)
  | (go_at_call 56; (with_reducible refine (HBW.out _).mono ?_); rintro e w2 ⟨rfl, hx2⟩; have hbb2 := hbb1.ext hx2)
  | (refine wLdB rfl 30 (.tmp 3) rfl _ rfl hbb2 _ Tryz.underlying30 rfl 64 size48 hsz.out ?_)
  | (go_at_call 57; (with_reducible refine (HZT.out _).mono ?_); rintro e w3 ⟨rfl, hx3⟩)
  | (refine wAlo' rfl (some 6) rfl 30 rfl _ HZ0.out ?_; intro w4 g hbb4 hx4 hg)
  | (refine wStB rfl 30 (.tmp 6) (.tmp 19) rfl _ _ rfl rfl hbb4 64 size48 hst.out hs0.out hot.out ?_; intro w5 hbb5 hg5; have hc0 : w5.cell? ⟨g, 0, none⟩ = some (.int .i64 Z[0]) := (hbb5.cell 0).trans (HAT.out 0 h0l))
  | (go_at_call 58; (with_reducible refine (HT0.out _).mono ?_); rintro e w6 ⟨rfl, hx6⟩))
 have hown0 := own_built3 (w := w6) (base := w5.heap.size) 59 (.int .i64 t0.1) (.int .i64 t0.2.1) (.int .i64 t0.2.2) hx6.size
 have hx7 := hx6.alloc (.cells #[.int .i64 t0.1, .int .i64 t0.2.1, .int .i64 t0.2.2] 59)
 have hbb7 := hbb5.ext hx7
 have hglt := hbb5.lt
 have hxw : Ext w w5 := (((hx1.trans hx2).trans hx3).trans hx4).grown hg5 (by have := ((hx1.trans hx2).trans hx3).size; omega)
 clear hbb1 hbb2 hbb4 hx1 hx2 hx3 hx4 hg5 hc0 hx6 HZT HT0
 generalize hw7 : w6.alloc (.cells #[.int .i64 t0.1, .int .i64 t0.2.1, .int .i64 t0.2.2] 59) = w7 at *
 clear hw7
 go_loopw [7, 8, 9] (fun v r i wr => ∃ (k m : Nat) (la : Int), k ≤ 63 ∧ m = k + 1 ∧ i = .int .i64 (m : Int) ∧ r = .int .i64 la ∧ la = (k : Int) - ((accT t0 l k).2 : Nat) ∧ wr.ownsRow w5.heap.size 59 3 v (accT t0 l k).1.length (toks (accT t0 l k).1) ∧ Blk wr g 30 cz ∧ Ext w5 wr) (fun _ _ i _ => 64 - (intOf i).toNat)
 case atStart => exact ⟨0, 1, 0, by omega, rfl, rfl, rfl, by simp [accT_zero], hown0, hbb7, hx7⟩
 case round =>
  clear hown0 hbb7 hx7
  obtain ⟨k, m, la, hk, hm, rfl, rfl, hla, hown, hbb, hx⟩ := hrel
  obtain ⟨b1, b2⟩ := accT_bd t0 l k (by have := HLL.out; omega) (by omega)
  by_cases hlt : k < 63
  ·have hkl : k < l.length := by have := HLL.out; omega
   have hkZ : k + 1 < Z.length := by omega
   have HS := hid_ (accT_succ t0 l k hkl)
   have hcell : wr.cell? ⟨g, m, none⟩ = some (.int .i64 l[k]) := by rw [hm]; exact (hbb.cell (k + 1)).trans (by rw [HAT.out (k + 1) hkZ, HLK.out k hkl hkZ])
   generalize accT t0 l k = s at *
   obtain ⟨acc, rn⟩ := s
   simp only at b1 b2 hown hla ⊢
   have hm1 : 1 ≤ m := by omega
   have hm2 : m < 64 := by omega
   have HM := hid_ hm
   have HLA := hid_ hla
   have hgap : (m : Int) - la - 1 = (rn : Int) := by omega
   have hlb : -64 ≤ la ∧ la ≤ 64 := by omega
   obtain ⟨hlb1, hlb2⟩ := hlb
   clear hm hla
   by_cases hz0 : l[k] = 0
   ·rw [stepT_zero hz0] at HS
    generalize hnk : accT t0 l (k + 1) = s1 at *
    have HS1 := HS.out
    have hz0' : (l[k] == 0) = true := by simpa using hz0
    clear hz0 HS
    go_wp2_with fail
    go_roundw
    case rel =>
     refine ⟨k + 1, m + 1, la, by omega, by rw [HM.out], by go_num, rfl, by rw [hnk, HS1]; have := HLA.out; simp; omega, by rw [hnk, HS1]; exact hown, hbb, hx⟩
    case measure => simp [intOf]; omega
   ·rw [stepT_one hz0] at HS
    have hz0' : (l[k] == 0) = false := by simpa using hz0
    have HTK := hid_ (fun W => rtoken_any ((rn : Int) % 16) l[k] W (by omega) (by omega))
    simp only [tokv_out] at HTK
    rw [show ((rn % 16 : Nat) : Int) = (rn : Int) % 16 by omega] at HS
    generalize tokZ ((rn : Int) % 16) l[k] = tk at *
    generalize hnk : accT t0 l (k + 1) = s1 at *
    have HS1 := hid_ HS.out
    have HNK := hid_ hnk
    clear hz0 HS hnk
    go_wp2_with fail
    go_loopw [7, 40] (fun v r wr2 => ∃ j : Nat, j ≤ rn / 16 ∧ r = .int .i64 (j : Int) ∧ wr2.ownsRow w5.heap.size 59 3 v (acc ++ List.replicate j long).length (toks (acc ++ List.replicate j long)) ∧ Blk wr2 g 30 cz ∧ Ext w5 wr2) (fun _ r _ => rn / 16 - (intOf r).toNat)
    case atStart => exact ⟨0, by omega, rfl, by simpa using hown, hbb, hx⟩
    case round =>
     clear hown hbb hx hcell
     obtain ⟨j, hj, rfl, hown, hbb, hx⟩ := hrel
     have hlen : (acc ++ List.replicate j long).length = acc.length + j := by simp
     by_cases hj2 : j < rn / 16
     ·have hgt : decide ((j : Int) < (rn : Int) / 16) = true := by simp; omega
      go_wp2_with (at_builtin; go_must (refine wpList_append_sl elt_tok rfl _ _ rfl w5.heap.size _ _ _ rfl (hown.alloc _) _ 1 [.int .i64 _, .int .i64 _, .int .i64 _] rfl (one_sl3 _ _ _ _ _) (tok_one _ _ _) (by omega) (by omega) (by have := hx.size; simp; omega) ?_); intro v' w8 hown8 hb8)
      go_roundw
      case rel =>
       refine ⟨j + 1, by omega, by go_num, ?_, (hbb.alloc _).below hb8 hglt, (hx.alloc _).trans' hb8⟩
       rw [List.replicate_succ', ← List.append_assoc]
       exact own_tok hown8
      case measure => simp [intOf]; omega
     ·obtain rfl : j = rn / 16 := by omega
      have hgt : decide (((rn / 16 : Nat) : Int) < (rn : Int) / 16) = false := by simp
      have hcell2 : wr.cell? ⟨g, m, none⟩ = some (.int .i64 l[k]) := by rw [HM.out]; exact (hbb.cell (k + 1)).trans (by rw [HAT.out (k + 1) hkZ, HLK.out k hkl hkZ])
      go_wp2_with (first
       | (go_at_call 58; (with_reducible refine (HTK.out _).mono ?_); rintro e w8 ⟨rfl, hx8⟩)
       | (at_builtin; go_must (refine wpList_append_sl elt_tok rfl _ _ rfl w5.heap.size _ _ _ rfl ((own_ext hown hx8).alloc _) _ 1 [.int .i64 _, .int .i64 _, .int .i64 _] rfl (one_sl3 _ _ _ _ _) (tok_one _ _ _) (by omega) (by omega) (by have := hx.size; have := hx8.size; simp; omega) ?_); intro v' w9 hown9 hb9))
      go_roundw
      case rel =>
       refine ⟨k + 1, m + 1, m, by omega, by rw [HM.out], by go_num, rfl, by rw [HNK.out, HS1.out]; have := HM.out; simp; omega, ?_, ((hbb.ext hx8).alloc _).below hb9 hglt, ((hx.trans hx8).alloc _).trans' hb9⟩
       rw [HNK.out, HS1.out]
       exact own_tok hown9
      case measure => simp [intOf]; omega
  ·have ek : k = 63 := by omega
   subst ek
   subst hm
   generalize accT t0 l 63 = s at *
   obtain ⟨acc, rn⟩ := s
   simp only at b1 b2 hown HF hla
   by_cases hr : 0 < rn
   ·rw [if_pos hr] at HF
    have hlt3 : decide (la < 63) = true := by simp; omega
    clear hla
    go_wp2_with (at_builtin; go_must (refine wpList_append_sl elt_tok rfl _ _ rfl w5.heap.size _ _ _ rfl (hown.alloc _) _ 1 [.int .i64 _, .int .i64 _, .int .i64 _] rfl (one_sl3 _ _ _ _ _) (tok_one _ _ _) (by omega) (by omega) (by have := hx.size; simp; omega) ?_); intro v' w8 hown8 hb8)
    go_ret2
    rw [HF.out]
    have hown9 := own_tok hown8
    obtain ⟨A, c, rfl, -, -⟩ := own_form hown9
    exact ⟨A, c, rfl, own_lower hown9 hxw.size, hxw.trans ((hx.alloc _).trans' hb8)⟩
   ·rw [if_neg hr] at HF
    have hlt3 : decide (la < 63) = false := by simp; omega
    clear hla
    go_wp2_with fail
    go_ret2
    rw [HF.out]
    obtain ⟨A, c, rfl, -, -⟩ := own_form hown
    exact ⟨A, c, rfl, own_lower hown hxw.size, hxw.trans hx⟩
theorem rtokens_fresh (before : Int) (zs : List Int) (w : World) (hz : zs.length = 64) (hb1 : -2047 ≤ before) (hb2 : before ≤ 2047) (hal : allIn zs (-2047) 2047 = true) (h01 : -2047 ≤ (zto zs).getD 0 0) (h02 : (zto zs).getD 0 0 ≤ 2047) :
 Calls Tryz.prog 22 #[.int .i64 before, .agg (bv zs)] w fun e w' => ∃ A c, e = .returned (.tuple #[.slice A (tokensZ before (zto zs)).length c, .int .i64 0]) ∧ SL w' 3 (.slice A (tokensZ before (zto zs)).length c) (tokensZ before (zto zs)).length (toks (tokensZ before (zto zs))) ∧ (∀ ad, A = some ad → w.heap.size ≤ ad.block) ∧ Ext w w' :=
 (rtokens_own before zs w hz hb1 hb2 hal h01 h02).mono fun _ _ ⟨A, c, e, h1, h2⟩ => ⟨A, c, e, by
   obtain ⟨A', c', e2, h3, h4⟩ := own_form h1
   injection e2 with e3 _ e4
   subst e3 e4
   exact ⟨h3, h4, h2⟩⟩
theorem rtokens_in (before : Int) (zs : List Int) (w : World) (hz : zs.length = 64) (hb1 : -2047 ≤ before) (hb2 : before ≤ 2047) (hal : allIn zs (-2047) 2047 = true) (h01 : -2047 ≤ (zto zs).getD 0 0) (h02 : (zto zs).getD 0 0 ≤ 2047) :
 Calls Tryz.prog 22 #[.int .i64 before, .agg (bv zs)] w fun e w' => ∃ A c, e = .returned (.tuple #[.slice A (tokensZ before (zto zs)).length c, .int .i64 0]) ∧ SL w' 3 (.slice A (tokensZ before (zto zs)).length c) (tokensZ before (zto zs)).length (toks (tokensZ before (zto zs))) ∧ Ext w w' :=
 (rtokens_fresh before zs w hz hb1 hb2 hal h01 h02).mono fun _ _ ⟨A, c, e, h1, _, h2⟩ => ⟨A, c, e, h1, h2⟩
set_option maxHeartbeats 400000 in
theorem rtokens_out (before : Int) (zs : List Int) (w : World) (hz : zs.length = 64) (h : inB before (-2047) 2047 = false ∨ (inB before (-2047) 2047 = true ∧ allIn zs (-2047) 2047 = false)) :
 Calls Tryz.prog 22 #[.int .i64 before, .agg (bv zs)] w fun e w' => e = .returned (.tuple #[.slice none 0 0, .int .i64 1]) ∧ Ext w w' := by
 have HOB := hid_ (fun W => outside_any before (-2047) 2047 W)
 have HBW := hid_ (fun W => blockWithin_any zs (-2047) 2047 W hz)
 have hsz := hid_ ((bv_size zs).trans hz)
 generalize bv zs = c0 at *
 rcases h with h | ⟨h, h2⟩
 ·rw [h] at HOB
  clear h
  go_enter Tryz.func22, Tryz.ntmps22
  go_wp2_with (first
   | (refine wBox rfl 30 (.tmp 1) rfl c0 rfl ?_; intro w1 gb hbb1 hx1 hgb)
   | (go_at_call 20; (with_reducible refine (HOB.out _).mono ?_); rintro e w' ⟨rfl, rfl⟩))
  go_ret2
  exact ⟨rfl, hx1⟩
 ·rw [h] at HOB
  rw [h2] at HBW
  clear h h2
  go_enter Tryz.func22, Tryz.ntmps22
  go_wp2_with (first
   | (refine wBox rfl 30 (.tmp 1) rfl c0 rfl ?_; intro w1 gb hbb1 hx1 hgb)
   | (go_at_call 20; (with_reducible refine (HOB.out _).mono ?_); rintro e w' ⟨rfl, rfl⟩)
   | (refine wpList_load_blk_g (by rfl) 30 (.tmp 3) rfl _ rfl hbb1 _ Tryz.underlying30 rfl 64 size48 hsz.out ?_)
   | (go_at_call 56; (with_reducible refine (HBW.out _).mono ?_); rintro e w2 ⟨rfl, hx2⟩))
  go_ret2
  exact ⟨rfl, hx1.trans hx2⟩
theorem isCoef_any (n : Int) (w : World) : Calls Tryz.prog 95 #[.int .i64 n] w fun e w' => e = .returned (.bool (inB n (-2047) 2047)) ∧ w = w' := by
 by_cases h : -2047 ≤ n
 ·have h' : decide (-2047 ≤ n) = true := by simpa using h
  have e : inB n (-2047) 2047 = decide (n ≤ 2047) := by simp [inB]; omega
  rw [e]; clear e
  go_enter Tryz.func95, Tryz.ntmps95
  go_wp2_with fail
  go_ret
  exact ⟨rfl, rfl⟩
 ·have h' : decide (-2047 ≤ n) = false := by simpa using h
  have e : inB n (-2047) 2047 = false := inB_not.2 (by omega)
  rw [e]; clear e
  go_enter Tryz.func95, Tryz.ntmps95
  go_wp2_with fail
  go_ret
  exact ⟨rfl, rfl⟩
theorem tokens1_any (n : Int) (w : World) : Calls Tryz.prog 97 (#[.int .i64 n] ++ #[]) w fun e w' => e = .returned (.bool (!inB n (-2047) 2047)) ∧ w = w' := by
 have HC := hid_ (fun W => isCoef_any n W)
 generalize inB n (-2047) 2047 = b at *
 go_enter Tryz.func97, Tryz.ntmps97
 go_wp2_with (go_at_call 95; (with_reducible refine (HC.out _).mono ?_); rintro e w' ⟨rfl, rfl⟩)
 go_ret
 exact ⟨rfl, rfl⟩
theorem enters_tokens1 : Enters Tryz.prog 97 := enters_of Tryz.func97 (by kernel_rfl) rfl
set_option maxHeartbeats 400000 in
theorem rtok_bad (before : Int) (zs : List Int) (w : World) (hz : zs.length = 64) (h : inB before (-2047) 2047 = false ∨ (inB before (-2047) 2047 = true ∧ allIn zs (-2047) 2047 = false)) :
 Calls Tryz.prog 66 #[.int .i64 before, .agg (bv zs)] w fun e w' => e = .returned (.tuple #[.slice none 0 0, .int .i64 1]) ∧ Ext w w' := by
 have HOB := hid_ (fun W => isCoef_any before W)
 have HSL := hid_ (fun (W : World) g (h : Blk W g 30 (bv zs)) => h.bsl (c := 64) (by omega) (by omega))
 rw [hz] at HSL
 have HCF := hid_ (fun W v (hs : SL W 1 v 64 (ints zs)) => containsFunc_any 97 #[] (fun z => !inB z (-2047) 2047) enters_tokens1 v zs W (by rw [hz]; exact hs) (fun z _ => tokens1_any z W))
 simp only [inB_any] at HCF
 generalize bv zs = c0 at *
 rcases h with h | ⟨h, h2⟩
 ·rw [h] at HOB
  clear h
  go_enter Tryz.func66, Tryz.ntmps66
  go_wp2_with (first
   | (refine wBox rfl 30 (.tmp 1) rfl c0 rfl ?_; intro w1 gb hbb1 hx1 hgb)
   | (go_at_call 95; (with_reducible refine (HOB.out _).mono ?_); rintro e w' ⟨rfl, rfl⟩))
  go_ret2
  exact ⟨rfl, hx1⟩
 ·rw [h] at HOB
  rw [h2] at HCF
  clear h h2
  go_enter Tryz.func66, Tryz.ntmps66
  go_wp2_with (first
   | (refine wBox rfl 30 (.tmp 1) rfl c0 rfl ?_; intro w1 gb hbb1 hx1 hgb; have hsl := HSL.out _ _ hbb1)
   | (go_at_call 95; (with_reducible refine (HOB.out _).mono ?_); rintro e w' ⟨rfl, rfl⟩)
   | (go_at_call 96; (with_reducible refine (HCF.out _ _ hsl).mono ?_); rintro e w' ⟨rfl, rfl⟩))
  go_ret2
  exact ⟨rfl, hx1⟩
set_option maxHeartbeats 400000 in
theorem rtok_fresh (before : Int) (zs : List Int) (w : World) (hz : zs.length = 64) (hb1 : -2047 ≤ before) (hb2 : before ≤ 2047) (hal : allIn zs (-2047) 2047 = true) (h01 : -2047 ≤ (zto zs).getD 0 0) (h02 : (zto zs).getD 0 0 ≤ 2047) :
 Calls Tryz.prog 66 #[.int .i64 before, .agg (bv zs)] w fun e w' => ∃ A c, e = .returned (.tuple #[.slice A (tokensZ before (zto zs)).length c, .int .i64 0]) ∧ SL w' 3 (.slice A (tokensZ before (zto zs)).length c) (tokensZ before (zto zs)).length (toks (tokensZ before (zto zs))) ∧ (∀ ad, A = some ad → w.heap.size ≤ ad.block) ∧ Ext w w' := by
 have HOB := hid_ (fun W => isCoef_any before W)
 rw [inB_iff.2 ⟨hb1, hb2⟩] at HOB
 have HSL := hid_ (fun (W : World) g (h : Blk W g 30 (bv zs)) => h.bsl (c := 64) (by omega) (by omega))
 rw [hz] at HSL
 have HCF := hid_ (fun W v (hs : SL W 1 v 64 (ints zs)) => containsFunc_any 97 #[] (fun z => !inB z (-2047) 2047) enters_tokens1 v zs W (by rw [hz]; exact hs) (fun z _ => tokens1_any z W))
 simp only [inB_any, hal] at HCF
 have HT := hid_ (fun W => tokens_any before zs W hz hb1 hb2 h01 h02)
 have hsz := hid_ ((bv_size zs).trans hz)
 generalize tokensZ before (zto zs) = T at *
 generalize bv zs = c0 at *
 clear hal h01 h02
 go_enter Tryz.func66, Tryz.ntmps66
 go_wp2_with (first
  | (refine wBox rfl 30 (.tmp 1) rfl c0 rfl ?_; intro w1 gb hbb1 hx1 hgb; have hsl := HSL.out _ _ hbb1)
  | (go_at_call 95; (with_reducible refine (HOB.out _).mono ?_); rintro e w' ⟨rfl, rfl⟩)
  | (go_at_call 96; (with_reducible refine (HCF.out _ _ hsl).mono ?_); rintro e w' ⟨rfl, rfl⟩)
  | (refine wLdB rfl 30 (.tmp 3) rfl _ rfl hbb1 _ Tryz.underlying30 rfl 64 size48 hsz.out ?_)
  | (go_at_call 98; (with_reducible refine (HT.out _).mono ?_); rintro e w2 ⟨A, c, rfl, hs2, hf2, hx2⟩))
 go_ret2
 exact ⟨A, c, rfl, hs2, fun ad e => Nat.le_trans hx1.size (hf2 ad e), hx1.trans hx2⟩
theorem rtok_good (before : Int) (zs : List Int) (w : World) (hz : zs.length = 64) (hb1 : -2047 ≤ before) (hb2 : before ≤ 2047) (hal : allIn zs (-2047) 2047 = true) (h01 : -2047 ≤ (zto zs).getD 0 0) (h02 : (zto zs).getD 0 0 ≤ 2047) :
 Calls Tryz.prog 66 #[.int .i64 before, .agg (bv zs)] w fun e w' => ∃ A c, e = .returned (.tuple #[.slice A (tokensZ before (zto zs)).length c, .int .i64 0]) ∧ SL w' 3 (.slice A (tokensZ before (zto zs)).length c) (tokensZ before (zto zs)).length (toks (tokensZ before (zto zs))) ∧ Ext w w' :=
 (rtok_fresh before zs w hz hb1 hb2 hal h01 h02).mono fun _ _ ⟨A, c, e, h1, _, h2⟩ => ⟨A, c, e, h1, h2⟩
theorem elt_intD : Elt Tryz.prog 47 3 1 8 := ⟨Tryz.underlying47, by kernel_rfl, by omega⟩
theorem toks_part (T : List Tok) (k : Nat) (h : k < T.length) : ((toks T).drop (k * 3)).take 3 = tokv T[k] := by
 have e1 : toks (T[k] :: T.drop (k + 1)) = tokv T[k] ++ toks (T.drop (k + 1)) := by simp only [toks, List.flatMap_cons]
 have e2 : T.drop k = T[k] :: T.drop (k + 1) := List.drop_eq_getElem_cons h
 have e : toks T = toks (T.take k) ++ (tokv T[k] ++ toks (T.drop (k + 1))) := by
  rw [← e1, ← e2, ← toks_app, List.take_append_drop]
 have hl : (toks (T.take k)).length = k * 3 := by rw [toks_len, List.length_take]; omega
 rw [e, ← hl, List.drop_left]
 rfl
theorem tok_head {b : List Int} (hb : b.length = 64) (hal : allIn b (-2047) 2047 = true) : -2047 ≤ (zto b).getD 0 0 ∧ (zto b).getD 0 0 ≤ 2047 := by
 have e : (zto b).getD 0 0 = b.getD 0 0 := rfl
 rw [e]
 rw [List.getD_eq_getElem?_getD, List.getElem?_eq_getElem (by omega)]
 exact allIn_iff.1 hal _ (List.getElem_mem _)
theorem syms_take (T : List Tok) (k : Nat) (h : k < T.length) : ints ((T.take (k + 1)).map (·.1)) = ints ((T.take k).map (·.1)) ++ [.int .i64 T[k].1] := by
 rw [List.take_succ_eq_append_getElem h]
 simp only [ints, List.map_append, List.map_cons, List.map_nil]
set_option maxRecDepth 20000 in
set_option maxHeartbeats 2000000 in
theorem deskTokens_any (g : Nat) (b q : List Int) (v : Value) (w : World) (hS : StOk b q) (hD : Desk w g b q) (htab : ∀ W, Ext w W → Lib.TabIs Tryz.prog W "internal/strconv.uint64pow10" .u64 Lib.pow10Tab) :
 Calls Tryz.prog 35 #[.pointer (some ⟨g, 0, none⟩), v] w (ActIs (syZ b q) g w) := by
 have HB := hid_ hS.1
 have HD := hid_ hD
 unfold syZ
 cases hal : allIn b (-2047) 2047 with
 | false =>
   have HT := hid_ (fun W => rtok_bad 0 b W hS.1 (.inr ⟨by decide, hal⟩))
   have HTO := hid_ (fun W (hx : Ext w W) => told_any (.slice none 0 0) [] (by simp) (by simp) W (SL.nil _ _) (fun W' h => htab W' (hx.trans h)))
   rw [if_pos (rfl : ([] : List Int) = [])] at HTO
   simp only [Bool.false_eq_true, if_false]
   clear hal hS hD htab
   go_enter Tryz.func35, Tryz.ntmps35
   go_wp2_with (first
    | ((with_reducible apply gS 15); refine wpList_load_mid rfl 30 (.tmp 14) rfl g 0 rfl (ints b) _ HD.out.block Tryz.underlying30 rfl (by rw [ints_len, HB.out]; exact size48) ?_)
    | (go_at_call 66; refine (HT.out _).mono ?_; rintro e w1 ⟨rfl, hx1⟩))
   go_loopw [8, 21] (fun sv iv wr => sv = .slice none 0 0 ∧ iv = .int .i64 0 ∧ wr = w1) (fun _ _ _ => 0)
   case atStart => exact ⟨rfl, rfl, rfl⟩
   case round =>
    obtain ⟨rfl, rfl, rfl⟩ := hrel
    go_wp2_with (go_at_call 65; (with_reducible refine (HTO.out _ hx1).mono ?_); rintro e w2 ⟨rfl, hx2⟩)
    go_ret2
    exact ⟨_, rfl, fun h => (by cases h), HD.out.ext (hx1.trans hx2), Upd.of_ext (hx1.trans hx2)⟩
 | true =>
   obtain ⟨h01, h02⟩ := tok_head hS.1 hal
   have HT := hid_ (fun W => rtok_good 0 b W hS.1 (by omega) (by omega) hal h01 h02)
   obtain ⟨g1, g2, g3⟩ := syms_good b hS.1
   have HTO := hid_ (fun v' n W (hx : Ext w W) (hn : (symsZ b).length = n) (hs : SL W 1 v' n (ints (symsZ b))) => told_any v' (symsZ b) g1 g3 W (by rw [hn]; exact hs) (fun W' h => htab W' (hx.trans h)))
   rw [if_neg g2] at HTO
   simp only [if_true]
   generalize toldZ (symsZ b) = TT at *
   unfold symsZ at *
   generalize tokensZ 0 (zto b) = T at *
   obtain ⟨N, hN⟩ : ∃ N, T.length = N := ⟨_, rfl⟩
   have HN := hid_ hN
   have hNb : N ≤ 1000 := by rw [List.length_map] at g1; omega
   rw [hN] at HT
   clear hal hS hD htab g1 g2 g3 h01 h02 hN
   go_enter Tryz.func35, Tryz.ntmps35
   go_wp2_with (first
    | ((with_reducible apply gS 15); refine wpList_load_mid rfl 30 (.tmp 14) rfl g 0 rfl (ints b) _ HD.out.block Tryz.underlying30 rfl (by rw [ints_len, HB.out]; exact size48) ?_)
    | (go_at_call 66; refine (HT.out _).mono ?_; rintro e w1 ⟨A, c, rfl, hs1, hx1⟩; have HSL := hid_ hs1; clear hs1))
   go_loopw [8, 21] (fun sv iv wr => ∃ (k : Nat) (B : Option Addr) (d : Nat), k ≤ N ∧ iv = .int .i64 (k : Int) ∧ sv = .slice B k d ∧ wr.ownsRow w1.heap.size 3 1 (.slice B k d) k (ints ((T.take k).map (·.1))) ∧ Ext w1 wr) (fun _ iv _ => N - (intOf iv).toNat)
   case atStart => exact ⟨0, none, 0, by omega, rfl, rfl, own_nil _ _ _ _, Ext.refl _⟩
   case round =>
    obtain ⟨k, B, d, hk, rfl, rfl, hown, hx⟩ := hrel
    by_cases hlt : k < N
    ·have hkl : k < T.length := by rw [HN.out]; exact hlt
     obtain ⟨ad, rfl, hab, hca⟩ := (HSL.out.ext hx).part hlt
     rw [toks_part T k hkl] at hca
     have HST := hid_ (syms_take T k hkl)
     generalize T[k] = t at *
     obtain ⟨t1, t2, t3⟩ := t
     dsimp only at HST
     have HCA := hid_ hca
     clear hca
     generalize ints ((T.take k).map (·.1)) = XS at *
     go_wp2_with (first
      | ((with_reducible apply gS 24); refine wpList_load_any (by rfl) 59 (.tmp 23) rfl (ad.add (k * 3)) rfl (tokv (t1, t2, t3)) _ HCA.out Tryz.underlying59 rfl sizeTok ?_)
      | ((with_reducible apply gS 10); refine wAlo' rfl (some 10) rfl 59 rfl _ zeroTok ?_; intro w3 g3 hb3 hx3 hg3; have hown3 := own_keep hown hx3)
      | ((with_reducible apply gT 10 24); refine wStB rfl 59 (.tmp 10) (.tmp 24) rfl _ _ rfl rfl hb3 3 sizeTok rfl rfl (three_one _ _ _) ?_; intro w4 hb4 hg4; have hx4 := hx3.grown hg4 hg3; have hown4 := own_keep hown hx4)
      | ((with_reducible apply gS 27); refine wl_read rfl (.int .i64 t1) (ex_loadI rfl rfl (hb4.cell 0)) ?_)
      | ((with_reducible apply gS 28); refine wLit1 rfl 47 3 (.tmp 27) rfl (some 28) rfl Tryz.underlying47 1 sizeI (by kernel_rfl) _ rfl rfl (by omega) (by omega) ?_; intro w5 gb hbb hx5 hgb; have hown5 := own_keep hown4 hx5; have hx15 := (hx.trans hx4).trans hx5; have hsz : w1.heap.size ≤ w5.heap.size := hx15.size)
      | ((with_reducible apply gS 29); refine wApf elt_intD rfl _ _ rfl w1.heap.size _ _ _ rfl hown5 _ 1 [.int .i64 t1] rfl (hbb.sl (size := 1) (n := 1) (c := 1) rfl (by omega) (by omega)) (ints_one_mem [t1]) (by omega) (by omega) hsz ?_; intro B7 d7 w7 hown7 hg7 hrow7))
     have hy7 : Ext w1 w7 := (upd_grown hg7).ext hx15 (fun b hb => (hown5.lt b hb).1)
     go_roundw
     case rel => exact ⟨k + 1, B7, d7, by omega, by go_num, rfl, by rw [HST.out]; exact hown7, hy7⟩
     case measure => simp [intOf]; omega
    ·have ek : k = N := by omega
     subst ek
     have hall : T.take k = T := by rw [← HN.out, List.take_length]
     rw [hall] at hown
     have hs := (own_out hown).1
     have HTO' := hid_ (HTO.out _ k wr (hx1.trans hx) (by rw [List.length_map]; exact HN.out) hs)
     clear HTO
     go_wp2_with (go_at_call 65; (with_reducible refine HTO'.out.mono ?_); rintro e w2 ⟨rfl, hx2⟩)
     go_ret2
     have hxx := (hx1.trans hx).trans hx2
     exact okAct (HD.out.ext hxx) (Upd.of_ext hxx)
set_option maxHeartbeats 1000000 in
theorem sized_any (g : Nat) (b q n : List Int) (v : Value) (w : World) (hD : Desk w g b q) (hn : n.length = 1) (hv : SL w 1 v n.length (ints n)) (htab : ∀ W, Ext w W → Lib.TabIs Tryz.prog W "internal/strconv.uint64pow10" .u64 Lib.pow10Tab) :
 Calls Tryz.prog 45 #[.pointer (some ⟨g, 0, none⟩), v] w (ActIs (sizeZ b q n) g w) := by
 obtain ⟨ad, c, rfl, hc1, hc2, hlt, h0⟩ := sl_one hn hv
 unfold sizeZ
 generalize n.getD 0 0 = x at *
 clear hn hv
 have HB := hid_ (fun W => sizeBits_any x W)
 have HT := told_lit [(bitsZ x).1, (bitsZ x).2.1] (by simp) (by simp) (bits_good x) htab
 have H0 := hid_ h0
 clear h0
 obtain ⟨T, hT⟩ : ∃ T, toldZ [(bitsZ x).1, (bitsZ x).2.1] = T := ⟨_, rfl⟩
 rw [hT] at HT ⊢
 clear hT
 generalize (bitsZ x).1 = b1 at *
 generalize (bitsZ x).2.1 = b2 at *
 generalize (bitsZ x).2.2 = b3 at *
 obtain ⟨Z, hZ⟩ : ∃ Z, (if b3 = 0 then (⟨0, T, b, q⟩ : Ans) else noZ b3 b q) = Z := ⟨_, rfl⟩
 rw [hZ]
 have HZ := hid_ hZ
 clear hZ
 go_enter Tryz.func45, Tryz.ntmps45
 go_wp2_with (first
  | ((with_reducible apply gS 11); refine wl_run rfl (.pointer (some (ad.add (0 * 1)))) (ex_ixSl Tryz.underlying47 sizeI rfl (i := 0) rfl rfl (by omega)) ?_)
  | ((with_reducible apply gS 12); refine wl_read rfl (.int .i64 x) (ex_loadI rfl rfl H0.out) ?_)
  | (go_at_call 76; (with_reducible refine (HB.out _).mono ?_); rintro e w2 ⟨rfl, rfl⟩)
  | ((with_reducible apply gS 19); refine lit2I rfl (.tmp 17) (.tmp 18) rfl (some 19) rfl b1 b2 rfl rfl ?_; intro w3 gb hs3 hx3 hgb)
  | (go_at_call 65; (with_reducible refine (HT.out _ 2 _ hx3 rfl hs3).mono ?_); rintro e w4 ⟨rfl, hx4⟩))
 go_ret2
 have hx := hx3.trans hx4
 rw [← HZ.out]
 by_cases h3 : b3 = 0
 ·subst h3
  rw [if_pos rfl]
  exact okAct (hD.ext hx) (Upd.of_ext hx)
 ·rw [if_neg h3]
  exact saidAct rfl (fun h => absurd h h3) hD hx
abbrev Pk := Int × Value
def cellsP (L : List Pk) : List Value := L.flatMap fun p => [.int .i64 p.1, p.2]
def pkV (p : Pk) : Array Value := #[.int .i64 p.1, p.2]
theorem cellsP_len (L : List Pk) : (cellsP L).length = 2 * L.length := by
 induction L with
 | nil => rfl
 | cons p L ih => simp only [cellsP, List.flatMap_cons, List.length_append, List.length_cons, List.length_nil] at ih ⊢; omega
theorem cellsP_app (a b : List Pk) : cellsP (a ++ b) = cellsP a ++ cellsP b := by simp [cellsP]
theorem cellsP_split (L : List Pk) (i : Nat) (h : i < L.length) (p : Pk) : cellsP (L.set i p) = cellsP (L.take i) ++ ([.int .i64 p.1, p.2] ++ cellsP (L.drop (i + 1))) := by
 rw [List.set_eq_take_append_cons_drop, if_pos h, cellsP_app]
 rfl
theorem cellsP_at (L : List Pk) (i : Nat) (h : i < L.length) : cellsP L = cellsP (L.take i) ++ ([.int .i64 L[i].1, L[i].2] ++ cellsP (L.drop (i + 1))) := by
 have := cellsP_split L i h L[i]
 rwa [List.set_getElem_self] at this
def DS (w : World) (gd : Nat) (L : List Pk) (rest : List Value) : Prop := Blk w gd 130 (cellsP L ++ rest).toArray
theorem sizePk : (Tryz.prog.info? 130).map (·.size) = some 2 := by kernel_rfl
section
variable {ops : Array Oper} {rest : List Oper} {o : Oper} {ac : Act} {w : World} {Q : Exit → Act → World → Prop}
theorem ex_loadPk {x : Operand} (ho : o.op = .load 130 x) {gd : Nat} {L : List Pk} {tl : List Value} (hB : DS w gd L tl) {i : Nat} (hi : i < L.length) (hx : ac.eval x = .pointer (some ⟨gd, i * 2, none⟩)) :
 (execOp ac.eval o).run Tryz.prog w = .ok (.value (.agg (pkV L[i]))) w := by
 have hr : w.rangeAt gd (i * 2) [.int .i64 L[i].1, L[i].2] := by
  unfold DS at hB
  rw [cellsP_at L i hi, List.append_assoc, List.append_assoc] at hB
  have hl : (cellsP (L.take i)).length = i * 2 := by rw [cellsP_len, List.length_take]; omega
  intro j v hv
  rw [hB.cell, List.getElem?_toArray, List.getElem?_append_right (by omega), hl, show i * 2 + j - i * 2 = j by omega, List.getElem?_append_left (List.getElem?_eq_some_iff.1 hv).1]
  exact hv
 unfold execOp
 simp only [ho, hx, Instr.loadAt, Instr.sureAddr, Sem.run_bind, Sem.run_pure, Result.andThen_ok, run_loadVar_mid w gd (i * 2) 130 _ _ hr Tryz.underlying130 rfl sizePk]
 rfl
theorem wl_storePk (hgd : o.guard = none) (x y : Operand) (ho : o.op = .store 130 x y) (gd : Nat) (L : List Pk) (tl : List Value) (hB : DS w gd L tl) (i : Nat) (hi : i < L.length) (p : Pk) (h1 : p.2.oneCell' = true) (hx : ac.eval x = .pointer (some ⟨gd, i * 2, none⟩)) (hy : ac.eval y = .agg (pkV p))
 (h : ∀ w1, DS w1 gd (L.set i p) tl → Upd (fun b => b = gd) w w1 → wpList Tryz.prog ops Q rest (ac.put o.dst undef) w1) : wpList Tryz.prog ops Q (o :: rest) ac w := by
 unfold DS at hB h
 rw [cellsP_at L i hi, List.append_assoc, List.append_assoc] at hB
 refine wpList_store_part hgd _ x y ho gd (i * 2) [.int .i64 p.1, p.2] hx hy hB (by rw [cellsP_len, List.length_take]; omega) rfl sizePk (fun v hv => ?_) (fun w1 k1 k2 => h w1 ?_ k2)
 ·simp at hv
  rcases hv with rfl | rfl
  ·rfl
  ·exact h1
 ·rw [cellsP_split L i hi p, List.append_assoc, List.append_assoc]
  exact k1
end
def cmpZ (a b : Int) : Int := if a < b then -1 else if b < a then 1 else 0
theorem isNaN_any (a : Int) (w : World) : Calls Tryz.prog 151 #[.int .i64 a] w fun e w' => e = .returned (.bool false) ∧ w = w' := by
 go_enter Tryz.func151, Tryz.ntmps151
 go_wp2_with ((with_reducible apply gS 5); refine wl_run rfl (.bool false) (ex_neq rfl rfl rfl (by simp)) ?_)
 go_ret
 exact ⟨rfl, rfl⟩
theorem compare_any (a b : Int) (w : World) : Calls Tryz.prog 135 #[.int .i64 a, .int .i64 b] w fun e w' => e = .returned (.int .i64 (cmpZ a b)) ∧ w = w' := by
 have h1 := hid_ (isNaN_any a w)
 have h2 := hid_ (isNaN_any b w)
 by_cases hab : a < b
 ·have e : cmpZ a b = -1 := by unfold cmpZ; rw [if_pos hab]
  rw [e]
  go_enter Tryz.func135, Tryz.ntmps135
  go_wp2_with (first
   | (go_at_call 151; (with_reducible refine h1.out.mono ?_); rintro e w1 ⟨rfl, rfl⟩)
   | (go_at_call 151; (with_reducible refine h2.out.mono ?_); rintro e w1 ⟨rfl, rfl⟩)
   | ((with_reducible apply gS 16); refine wl_run rfl (.bool true) (ex_lss rfl rfl rfl (by simpa using hab)) ?_))
  go_ret
  exact ⟨rfl, rfl⟩
 ·by_cases hba : b < a
  ·have e : cmpZ a b = 1 := by unfold cmpZ; rw [if_neg hab, if_pos hba]
   rw [e]
   go_enter Tryz.func135, Tryz.ntmps135
   go_wp2_with (first
    | (go_at_call 151; (with_reducible refine h1.out.mono ?_); rintro e w1 ⟨rfl, rfl⟩)
    | (go_at_call 151; (with_reducible refine h2.out.mono ?_); rintro e w1 ⟨rfl, rfl⟩)
    | ((with_reducible apply gS 16); refine wl_run rfl (.bool false) (ex_lss rfl rfl rfl (by simpa using hab)) ?_)
    | ((with_reducible apply gS 19); refine wl_run rfl (.bool true) (ex_gtr rfl rfl rfl (by simpa using hba)) ?_))
   go_ret
   exact ⟨rfl, rfl⟩
  ·have e : cmpZ a b = 0 := by unfold cmpZ; rw [if_neg hab, if_neg hba]
   rw [e]
   go_enter Tryz.func135, Tryz.ntmps135
   go_wp2_with (first
    | (go_at_call 151; (with_reducible refine h1.out.mono ?_); rintro e w1 ⟨rfl, rfl⟩)
    | (go_at_call 151; (with_reducible refine h2.out.mono ?_); rintro e w1 ⟨rfl, rfl⟩)
    | ((with_reducible apply gS 16); refine wl_run rfl (.bool false) (ex_lss rfl rfl rfl (by simpa using hab)) ?_)
    | ((with_reducible apply gS 19); refine wl_run rfl (.bool false) (ex_gtr rfl rfl rfl (by simpa using hba)) ?_))
   go_ret
   exact ⟨rfl, rfl⟩
theorem byWeight_any (p q : Pk) (w : World) : Calls Tryz.prog 105 #[.agg (pkV p), .agg (pkV q)] w fun e w' => e = .returned (.int .i64 (cmpZ p.1 q.1)) ∧ Ext w w' := by
 have HC := hid_ (fun W => compare_any p.1 q.1 W)
 have c1 := hid_ (fun (W : World) g (h : Blk W g 130 (pkV p)) => h.cell 0)
 have c2 := hid_ (fun (W : World) g (h : Blk W g 130 (pkV q)) => h.cell 0)
 obtain ⟨a, s⟩ := p
 obtain ⟨b, t⟩ := q
 generalize hp : pkV (a, s) = pv at *
 generalize hq : pkV (b, t) = qv at *
 have e1 : pv[0]? = some (.int .i64 a) := by rw [← hp]; rfl
 have e2 : qv[0]? = some (.int .i64 b) := by rw [← hq]; rfl
 rw [e1] at c1
 rw [e2] at c2
 dsimp only at HC
 clear hp hq e1 e2
 go_enter Tryz.func105, Tryz.ntmps105
 go_wp2_with (first
  | ((with_reducible apply gS 2); refine wBox rfl 130 (.tmp 0) rfl pv rfl ?_; intro w1 g1 hb1 hx1 hg1)
  | ((with_reducible apply gS 3); refine wBox rfl 130 (.tmp 1) rfl qv rfl ?_; intro w2 g2 hb2 hx2 hg2; have k1 := c1.out _ _ (hb1.ext hx2); have k2 := c2.out _ _ hb2)
  | ((with_reducible apply gS 6); refine wl_read rfl (.int .i64 a) (ex_loadI rfl rfl k1) ?_)
  | ((with_reducible apply gS 8); refine wl_read rfl (.int .i64 b) (ex_loadI rfl rfl k2) ?_)
  | (go_at_call 135; (with_reducible refine (HC.out _).mono ?_); rintro e w3 ⟨rfl, rfl⟩))
 go_ret
 exact ⟨rfl, hx1.trans hx2⟩
theorem goesBy : Goes Tryz.prog 105 := ⟨_, Tryz.func105, rfl, rfl⟩
end Go.Proofs.YtlhggcbpipmjhaaGreatDoor
