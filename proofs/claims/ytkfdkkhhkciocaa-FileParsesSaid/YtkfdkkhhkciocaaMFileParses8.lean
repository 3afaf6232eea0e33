/- Contracts for the law FileParses, part 8: what the functions that it reaches answer, for all arguments that the theorems name. -/
import Derived.Test.YtkfdkkhhkciocaaMFileParses6
import Derived.Test.YtkfdkkhhkciocaaMFileParses7
import Derived.Test.YtkfdkkhhkciocaaMFileParses5
import Derived.Test.YtkfdkkhhkciocaaMFileParses2
import Derived.Outline
/- file.Check: arguments within their bounds. -/
namespace Go.Proofs.Ytkfdkkhhkciocaa
set_option linter.unusedVariables false
set_option linter.unusedSimpArgs false
open Go.RowKit
set_option maxRecDepth 20000 in
set_option maxHeartbeats 4000000 in
theorem fcheck_y3f (wd hi ev : Int) (qs : List Int) (t1 t2 : List Value) (A : Option Addr) (n c : Nat) (z1 z2 : Int) (w : World) (hq : qs.length = 64) (h1 : t1.length = 17) (h2 : t2.length = 17)
    (k1 : inB wd 1 64 = true) (k2 : inB hi 1 64 = true) (k3 : inB ev 0 100 = true) (kq : allIn qs 1 255 = false) :
    Calls Try.prog 17 #[.agg (fileL wd hi 3 qs t1 t2 ev (.slice A n c)).toArray] w fun e w' => e = .returned (.int .i64 (1)) ∧ Ext w w' := by
  have HF := hid_ (fun W g (hb : Blk W g 45 (fileL wd hi 3 qs t1 t2 ev (.slice A n c)).toArray) => fileB hb hq h1 h2)
  have W1 := hid_ (fun W => fwithin_any wd 1 64 W)
  have W2 := hid_ (fun W => fwithin_any hi 1 64 W)
  have W3 := hid_ (fun W => fwithin_any ev 0 100 W)
  have HQ : Hid (∀ W, Calls Try.prog 46 #[.agg (ints qs).toArray] W fun e w' => e = .returned (.int .i64 1) ∧ Ext W w') := hid_ (fun W => by have h := qcheck_any qs W hq; rw [kq] at h; exact h)
  clear kq
  have hql := hid_ ((ints_len qs).trans hq)
  have hl1 := hid_ h1
  have hl2 := hid_ h2
  clear hq h1 h2
  generalize (fileL wd hi 3 qs t1 t2 ev (.slice A n c)).toArray = fv at *
  generalize inB wd 1 64 = b1 at *
  generalize inB hi 1 64 = b2 at *
  generalize inB ev 0 100 = b3 at *
  subst k1 k2 k3
  go_enter Try.func17, Try.ntmps17
  go_wp2_with (first
    | (refine wpList_box_abs rfl 45 (.tmp 0) rfl fv rfl ?_; intro w1 g hb1 hx1 hg; have hf1 := HF.out _ _ hb1; have c0 := hf1.c0; have c1 := hf1.c1; have c2 := hf1.c2; have c101 := hf1.c101)
    | (go_at_call 45; (with_reducible refine (W1.out _).mono ?_); rintro e w2 ⟨rfl, rfl⟩)
    | (go_at_call 45; (with_reducible refine (W2.out _).mono ?_); rintro e w2 ⟨rfl, rfl⟩)
    | (go_at_call 45; (with_reducible refine (W3.out _).mono ?_); rintro e w2 ⟨rfl, rfl⟩)
    | (refine wpList_load_mid rfl 24 (.tmp 33) rfl g 3 rfl (ints qs) _ hf1.q Try.underlying24 rfl (by rw [hql.out]; exact size48) ?_)
    | (go_at_call 46; (with_reducible refine (HQ.out _).mono ?_); rintro e w2 ⟨rfl, hx2⟩; have hb2 := hb1.ext hx2; have hf2 := HF.out _ _ hb2))
  go_ret
  exact ⟨rfl, hx1.trans hx2⟩
end Go.Proofs.Ytkfdkkhhkciocaa
/- file.Check: arguments within their bounds. -/
namespace Go.Proofs.Ytkfdkkhhkciocaa
set_option linter.unusedVariables false
set_option linter.unusedSimpArgs false
open Go.RowKit
set_option maxRecDepth 20000 in
set_option maxHeartbeats 4000000 in
theorem fcheck_y1t (wd hi ev : Int) (qs : List Int) (t1 t2 : List Value) (A : Option Addr) (n c : Nat) (z1 z2 : Int) (w : World) (hq : qs.length = 64) (h1 : t1.length = 17) (h2 : t2.length = 17)
    (k1 : inB wd 1 64 = true) (k2 : inB hi 1 64 = true) (k3 : inB ev 0 100 = true) (kq : allIn qs 1 255 = true) (o1 : t1.toArray.all (·.oneCell') = true) (o2 : t2.toArray.all (·.oneCell') = true)
    (C1 : ∀ W, Ext w W → Calls Try.prog 47 #[.agg t1.toArray] W fun e W' => e = .returned (.int .i64 z1) ∧ Ext W W')
    (C2 : ∀ W, Ext w W → Calls Try.prog 47 #[.agg t2.toArray] W fun e W' => e = .returned (.int .i64 z2) ∧ Ext W W') :
    Calls Try.prog 17 #[.agg (fileL wd hi 1 qs t1 t2 ev (.slice A n c)).toArray] w fun e w' => e = .returned (.int .i64 (if z1 = 0 then (if z2 = 0 then (if 90000 < n then 2 else 0) else z2) else z1)) ∧ Ext w w' := by
  have HF := hid_ (fun W g (hb : Blk W g 45 (fileL wd hi 1 qs t1 t2 ev (.slice A n c)).toArray) => fileB hb hq h1 h2)
  have W1 := hid_ (fun W => fwithin_any wd 1 64 W)
  have W2 := hid_ (fun W => fwithin_any hi 1 64 W)
  have W3 := hid_ (fun W => fwithin_any ev 0 100 W)
  have HQ : Hid (∀ W, Calls Try.prog 46 #[.agg (ints qs).toArray] W fun e w' => e = .returned (.int .i64 0) ∧ Ext W w') := hid_ (fun W => by have h := qcheck_any qs W hq; rw [kq] at h; exact h)
  clear kq
  have hql := hid_ ((ints_len qs).trans hq)
  have hl1 := hid_ h1
  have hl2 := hid_ h2
  have HB2 := hid_ (built2 t1 t2 h1 h2)
  have HRT := hid_ (fun W g (hb : Blk W g 41 (t1 ++ t2).toArray) => range_two h1 hb)
  have hs1 : Hid (t1.toArray.size = 17) := hid_ (by simpa using h1)
  have hs2 : Hid (t2.toArray.size = 17) := hid_ (by simpa using h2)
  have hz17 : Hid ((ints (List.replicate 16 0) ++ [Value.slice none 0 0]).toArray.size = 17) := hid_ (by simp [ints])
  have hl3 : Hid ((t1 ++ t2).length = 34) := hid_ (by simp [h1, h2])
  have HO1 := hid_ o1
  have HO2 := hid_ o2
  have HC1 := hid_ C1
  have HC2 := hid_ C2
  clear o1 o2 C1 C2
  generalize hR : (if z1 = 0 then (if z2 = 0 then (if 90000 < n then (2 : Int) else 0) else z2) else z1) = R
  have HR := hid_ hR
  clear hR
  clear hq h1 h2
  generalize (fileL wd hi 1 qs t1 t2 ev (.slice A n c)).toArray = fv at *
  generalize inB wd 1 64 = b1 at *
  generalize inB hi 1 64 = b2 at *
  generalize inB ev 0 100 = b3 at *
  subst k1 k2 k3
  go_enter Try.func17, Try.ntmps17
  go_wp2_with (first
    | (refine wpList_box_abs rfl 45 (.tmp 0) rfl fv rfl ?_; intro w1 g hb1 hx1 hg; have hf1 := HF.out _ _ hb1; have c0 := hf1.c0; have c1 := hf1.c1; have c2 := hf1.c2; have c101 := hf1.c101)
    | (go_at_call 45; (with_reducible refine (W1.out _).mono ?_); rintro e w2 ⟨rfl, rfl⟩)
    | (go_at_call 45; (with_reducible refine (W2.out _).mono ?_); rintro e w2 ⟨rfl, rfl⟩)
    | (go_at_call 45; (with_reducible refine (W3.out _).mono ?_); rintro e w2 ⟨rfl, rfl⟩)
    | (refine wpList_load_mid rfl 24 (.tmp 33) rfl g 3 rfl (ints qs) _ hf1.q Try.underlying24 rfl (by rw [hql.out]; exact size48) ?_)
    | (go_at_call 46; (with_reducible refine (HQ.out _).mono ?_); rintro e w2 ⟨rfl, hx2⟩; have hb2 := hb1.ext hx2; have hf2 := HF.out _ _ hb2)
    | (refine wpList_load_mid rfl 41 (.tmp 40) rfl g 67 rfl t1 _ hf2.ta Try.underlying41 rfl (by rw [hl1.out]; exact sizeTbl) ?_)
    | (refine wpList_load_mid rfl 41 (.tmp 43) rfl g 84 rfl t2 _ hf2.tb Try.underlying41 rfl (by rw [hl2.out]; exact sizeTbl) ?_)
    | (refine Go.Great.wpList_buildSliceTo rfl 95 41 2 _ rfl _ rfl (some 45) rfl Try.underlying95 _ (by simp [Act.eval]; exact HB2.out) ?_))
  have hbn0 := Blk.new w2 41 (t1 ++ t2).toArray
  have hb3 := hb2.alloc (.cells (t1 ++ t2).toArray 41)
  have hx3 := (hx1.trans hx2).alloc (.cells (t1 ++ t2).toArray 41)
  clear hb1 hb2 hf1 hf2 hx1 hx2 c0 c1 c2 c101
  go_loopw [47] (fun i wr => ∃ k : Nat, k ≤ 2 ∧ i = .int .i64 (k : Int) ∧ (1 ≤ k → z1 = 0) ∧ (2 ≤ k → z2 = 0) ∧ Blk wr g 45 fv ∧ Blk wr w2.heap.size 41 (t1 ++ t2).toArray ∧ Ext w wr) (fun i _ => 2 - (intOf i).toNat)
  case atStart => exact ⟨0, by omega, rfl, fun h => absurd h (by omega), fun h => absurd h (by omega), hb3, hbn0, hx3⟩
  case round =>
    clear hb3 hbn0 hx3
    obtain ⟨k, hk, rfl, e1, e2, hb, hbn, hx⟩ := hrel
    rcases (by omega : k = 0 ∨ k = 1 ∨ k = 2) with rfl | rfl | rfl
    · have hr := (HRT.out _ _ hbn).1
      by_cases hz : z1 = 0
      · subst hz
        go_wp2_with (first
          | (refine wpList_load_mid rfl 41 (.tmp 49) rfl _ 0 rfl t1 _ hr Try.underlying41 rfl (by rw [hl1.out]; exact sizeTbl) ?_)
          | (refine wpList_alloc_abs' rfl (some 5) rfl 41 rfl _ zeroTbl ?_; intro w4 ga hba4 hx4 hga)
          | (refine wpList_store_blk rfl 41 (.tmp 5) (.tmp 50) rfl _ _ rfl rfl hba4 17 sizeTbl hs1.out hz17.out HO1.out ?_; intro w5 hba5 hg5; have hx5 := (hx.trans hx4).grown hg5 (by have := hx.size; omega))
          | (refine wpList_load_blk rfl 41 (.tmp 5) rfl _ rfl hba5 _ Try.underlying41 rfl 17 sizeTbl hs1.out ?_)
          | (go_at_call 47; (with_reducible refine (HC1.out _ hx5).mono ?_); rintro e w6 ⟨rfl, hx6⟩))
        go_roundw
        case rel => exact ⟨1, by omega, by go_num, by simp, fun h => absurd h (by omega), ((hb.ext hx4).grown hg5 (by have := hb.lt; simp; omega)).ext hx6, ((hbn.ext hx4).grown hg5 (by have := hbn.lt; simp; omega)).ext hx6, hx5.trans hx6⟩
        case measure => simp [intOf]
      · have hz1 : (z1 != 0) = true := by simpa using hz
        have HZ := hid_ hz
        clear hz
        go_wp2_with (first
          | (refine wpList_load_mid rfl 41 (.tmp 49) rfl _ 0 rfl t1 _ hr Try.underlying41 rfl (by rw [hl1.out]; exact sizeTbl) ?_)
          | (refine wpList_alloc_abs' rfl (some 5) rfl 41 rfl _ zeroTbl ?_; intro w4 ga hba4 hx4 hga)
          | (refine wpList_store_blk rfl 41 (.tmp 5) (.tmp 50) rfl _ _ rfl rfl hba4 17 sizeTbl hs1.out hz17.out HO1.out ?_; intro w5 hba5 hg5; have hx5 := (hx.trans hx4).grown hg5 (by have := hx.size; omega))
          | (refine wpList_load_blk rfl 41 (.tmp 5) rfl _ rfl hba5 _ Try.underlying41 rfl 17 sizeTbl hs1.out ?_)
          | (go_at_call 47; (with_reducible refine (HC1.out _ hx5).mono ?_); rintro e w6 ⟨rfl, hx6⟩))
        go_ret
        exact ⟨by rw [← HR.out]; simp [HZ.out], hx5.trans hx6⟩
    · have hr := (HRT.out _ _ hbn).2
      by_cases hz : z2 = 0
      · subst hz
        go_wp2_with (first
          | (refine wpList_load_mid rfl 41 (.tmp 49) rfl _ 17 rfl t2 _ hr Try.underlying41 rfl (by rw [hl2.out]; exact sizeTbl) ?_)
          | (refine wpList_alloc_abs' rfl (some 5) rfl 41 rfl _ zeroTbl ?_; intro w4 ga hba4 hx4 hga)
          | (refine wpList_store_blk rfl 41 (.tmp 5) (.tmp 50) rfl _ _ rfl rfl hba4 17 sizeTbl hs2.out hz17.out HO2.out ?_; intro w5 hba5 hg5; have hx5 := (hx.trans hx4).grown hg5 (by have := hx.size; omega))
          | (refine wpList_load_blk rfl 41 (.tmp 5) rfl _ rfl hba5 _ Try.underlying41 rfl 17 sizeTbl hs2.out ?_)
          | (go_at_call 47; (with_reducible refine (HC2.out _ hx5).mono ?_); rintro e w6 ⟨rfl, hx6⟩))
        go_roundw
        case rel => exact ⟨2, by omega, by go_num, fun _ => e1 (by omega), by simp, ((hb.ext hx4).grown hg5 (by have := hb.lt; simp; omega)).ext hx6, ((hbn.ext hx4).grown hg5 (by have := hbn.lt; simp; omega)).ext hx6, hx5.trans hx6⟩
        case measure => simp [intOf]
      · have hz1 : (z2 != 0) = true := by simpa using hz
        have HZ := hid_ hz
        clear hz
        go_wp2_with (first
          | (refine wpList_load_mid rfl 41 (.tmp 49) rfl _ 17 rfl t2 _ hr Try.underlying41 rfl (by rw [hl2.out]; exact sizeTbl) ?_)
          | (refine wpList_alloc_abs' rfl (some 5) rfl 41 rfl _ zeroTbl ?_; intro w4 ga hba4 hx4 hga)
          | (refine wpList_store_blk rfl 41 (.tmp 5) (.tmp 50) rfl _ _ rfl rfl hba4 17 sizeTbl hs2.out hz17.out HO2.out ?_; intro w5 hba5 hg5; have hx5 := (hx.trans hx4).grown hg5 (by have := hx.size; omega))
          | (refine wpList_load_blk rfl 41 (.tmp 5) rfl _ rfl hba5 _ Try.underlying41 rfl 17 sizeTbl hs2.out ?_)
          | (go_at_call 47; (with_reducible refine (HC2.out _ hx5).mono ?_); rintro e w6 ⟨rfl, hx6⟩))
        go_ret
        exact ⟨by rw [← HR.out]; simp [HZ.out, e1 (by omega)], hx5.trans hx6⟩
    · have c102 := (HF.out _ _ hb).c102
      have Z1 := hid_ (e1 (by omega))
      have Z2 := hid_ (e2 (by omega))
      clear e1 e2
      by_cases hn : 90000 < n
      · have hn' : decide ((90000 : Int) < (n : Int)) = true := by simp; omega
        go_wp2_with fail
        go_ret
        have h2 : R = 2 := by rw [← HR.out, if_pos Z1.out, if_pos Z2.out, if_pos hn]
        subst h2
        exact ⟨rfl, hx⟩
      · have hn' : decide ((90000 : Int) < (n : Int)) = false := by simp; omega
        go_wp2_with fail
        go_ret
        have h2 : R = 0 := by rw [← HR.out, if_pos Z1.out, if_pos Z2.out, if_neg hn]
        subst h2
        exact ⟨rfl, hx⟩
end Go.Proofs.Ytkfdkkhhkciocaa
/- file.Check: arguments within their bounds. -/
namespace Go.Proofs.Ytkfdkkhhkciocaa
set_option linter.unusedVariables false
set_option linter.unusedSimpArgs false
open Go.RowKit
set_option maxRecDepth 20000 in
set_option maxHeartbeats 4000000 in
theorem fcheck_y3t (wd hi ev : Int) (qs : List Int) (t1 t2 : List Value) (A : Option Addr) (n c : Nat) (z1 z2 : Int) (w : World) (hq : qs.length = 64) (h1 : t1.length = 17) (h2 : t2.length = 17)
    (k1 : inB wd 1 64 = true) (k2 : inB hi 1 64 = true) (k3 : inB ev 0 100 = true) (kq : allIn qs 1 255 = true) (o1 : t1.toArray.all (·.oneCell') = true) (o2 : t2.toArray.all (·.oneCell') = true)
    (C1 : ∀ W, Ext w W → Calls Try.prog 47 #[.agg t1.toArray] W fun e W' => e = .returned (.int .i64 z1) ∧ Ext W W')
    (C2 : ∀ W, Ext w W → Calls Try.prog 47 #[.agg t2.toArray] W fun e W' => e = .returned (.int .i64 z2) ∧ Ext W W') :
    Calls Try.prog 17 #[.agg (fileL wd hi 3 qs t1 t2 ev (.slice A n c)).toArray] w fun e w' => e = .returned (.int .i64 (if z1 = 0 then (if z2 = 0 then (if 90000 < n then 2 else 0) else z2) else z1)) ∧ Ext w w' := by
  have HF := hid_ (fun W g (hb : Blk W g 45 (fileL wd hi 3 qs t1 t2 ev (.slice A n c)).toArray) => fileB hb hq h1 h2)
  have W1 := hid_ (fun W => fwithin_any wd 1 64 W)
  have W2 := hid_ (fun W => fwithin_any hi 1 64 W)
  have W3 := hid_ (fun W => fwithin_any ev 0 100 W)
  have HQ : Hid (∀ W, Calls Try.prog 46 #[.agg (ints qs).toArray] W fun e w' => e = .returned (.int .i64 0) ∧ Ext W w') := hid_ (fun W => by have h := qcheck_any qs W hq; rw [kq] at h; exact h)
  clear kq
  have hql := hid_ ((ints_len qs).trans hq)
  have hl1 := hid_ h1
  have hl2 := hid_ h2
  have HB2 := hid_ (built2 t1 t2 h1 h2)
  have HRT := hid_ (fun W g (hb : Blk W g 41 (t1 ++ t2).toArray) => range_two h1 hb)
  have hs1 : Hid (t1.toArray.size = 17) := hid_ (by simpa using h1)
  have hs2 : Hid (t2.toArray.size = 17) := hid_ (by simpa using h2)
  have hz17 : Hid ((ints (List.replicate 16 0) ++ [Value.slice none 0 0]).toArray.size = 17) := hid_ (by simp [ints])
  have hl3 : Hid ((t1 ++ t2).length = 34) := hid_ (by simp [h1, h2])
  have HO1 := hid_ o1
  have HO2 := hid_ o2
  have HC1 := hid_ C1
  have HC2 := hid_ C2
  clear o1 o2 C1 C2
  generalize hR : (if z1 = 0 then (if z2 = 0 then (if 90000 < n then (2 : Int) else 0) else z2) else z1) = R
  have HR := hid_ hR
  clear hR
  clear hq h1 h2
  generalize (fileL wd hi 3 qs t1 t2 ev (.slice A n c)).toArray = fv at *
  generalize inB wd 1 64 = b1 at *
  generalize inB hi 1 64 = b2 at *
  generalize inB ev 0 100 = b3 at *
  subst k1 k2 k3
  go_enter Try.func17, Try.ntmps17
  go_wp2_with (first
    | (refine wpList_box_abs rfl 45 (.tmp 0) rfl fv rfl ?_; intro w1 g hb1 hx1 hg; have hf1 := HF.out _ _ hb1; have c0 := hf1.c0; have c1 := hf1.c1; have c2 := hf1.c2; have c101 := hf1.c101)
    | (go_at_call 45; (with_reducible refine (W1.out _).mono ?_); rintro e w2 ⟨rfl, rfl⟩)
    | (go_at_call 45; (with_reducible refine (W2.out _).mono ?_); rintro e w2 ⟨rfl, rfl⟩)
    | (go_at_call 45; (with_reducible refine (W3.out _).mono ?_); rintro e w2 ⟨rfl, rfl⟩)
    | (refine wpList_load_mid rfl 24 (.tmp 33) rfl g 3 rfl (ints qs) _ hf1.q Try.underlying24 rfl (by rw [hql.out]; exact size48) ?_)
    | (go_at_call 46; (with_reducible refine (HQ.out _).mono ?_); rintro e w2 ⟨rfl, hx2⟩; have hb2 := hb1.ext hx2; have hf2 := HF.out _ _ hb2)
    | (refine wpList_load_mid rfl 41 (.tmp 40) rfl g 67 rfl t1 _ hf2.ta Try.underlying41 rfl (by rw [hl1.out]; exact sizeTbl) ?_)
    | (refine wpList_load_mid rfl 41 (.tmp 43) rfl g 84 rfl t2 _ hf2.tb Try.underlying41 rfl (by rw [hl2.out]; exact sizeTbl) ?_)
    | (refine Go.Great.wpList_buildSliceTo rfl 95 41 2 _ rfl _ rfl (some 45) rfl Try.underlying95 _ (by simp [Act.eval]; exact HB2.out) ?_))
  have hbn0 := Blk.new w2 41 (t1 ++ t2).toArray
  have hb3 := hb2.alloc (.cells (t1 ++ t2).toArray 41)
  have hx3 := (hx1.trans hx2).alloc (.cells (t1 ++ t2).toArray 41)
  clear hb1 hb2 hf1 hf2 hx1 hx2 c0 c1 c2 c101
  go_loopw [47] (fun i wr => ∃ k : Nat, k ≤ 2 ∧ i = .int .i64 (k : Int) ∧ (1 ≤ k → z1 = 0) ∧ (2 ≤ k → z2 = 0) ∧ Blk wr g 45 fv ∧ Blk wr w2.heap.size 41 (t1 ++ t2).toArray ∧ Ext w wr) (fun i _ => 2 - (intOf i).toNat)
  case atStart => exact ⟨0, by omega, rfl, fun h => absurd h (by omega), fun h => absurd h (by omega), hb3, hbn0, hx3⟩
  case round =>
    clear hb3 hbn0 hx3
    obtain ⟨k, hk, rfl, e1, e2, hb, hbn, hx⟩ := hrel
    rcases (by omega : k = 0 ∨ k = 1 ∨ k = 2) with rfl | rfl | rfl
    · have hr := (HRT.out _ _ hbn).1
      by_cases hz : z1 = 0
      · subst hz
        go_wp2_with (first
          | (refine wpList_load_mid rfl 41 (.tmp 49) rfl _ 0 rfl t1 _ hr Try.underlying41 rfl (by rw [hl1.out]; exact sizeTbl) ?_)
          | (refine wpList_alloc_abs' rfl (some 5) rfl 41 rfl _ zeroTbl ?_; intro w4 ga hba4 hx4 hga)
          | (refine wpList_store_blk rfl 41 (.tmp 5) (.tmp 50) rfl _ _ rfl rfl hba4 17 sizeTbl hs1.out hz17.out HO1.out ?_; intro w5 hba5 hg5; have hx5 := (hx.trans hx4).grown hg5 (by have := hx.size; omega))
          | (refine wpList_load_blk rfl 41 (.tmp 5) rfl _ rfl hba5 _ Try.underlying41 rfl 17 sizeTbl hs1.out ?_)
          | (go_at_call 47; (with_reducible refine (HC1.out _ hx5).mono ?_); rintro e w6 ⟨rfl, hx6⟩))
        go_roundw
        case rel => exact ⟨1, by omega, by go_num, by simp, fun h => absurd h (by omega), ((hb.ext hx4).grown hg5 (by have := hb.lt; simp; omega)).ext hx6, ((hbn.ext hx4).grown hg5 (by have := hbn.lt; simp; omega)).ext hx6, hx5.trans hx6⟩
        case measure => simp [intOf]
      · have hz1 : (z1 != 0) = true := by simpa using hz
        have HZ := hid_ hz
        clear hz
        go_wp2_with (first
          | (refine wpList_load_mid rfl 41 (.tmp 49) rfl _ 0 rfl t1 _ hr Try.underlying41 rfl (by rw [hl1.out]; exact sizeTbl) ?_)
          | (refine wpList_alloc_abs' rfl (some 5) rfl 41 rfl _ zeroTbl ?_; intro w4 ga hba4 hx4 hga)
          | (refine wpList_store_blk rfl 41 (.tmp 5) (.tmp 50) rfl _ _ rfl rfl hba4 17 sizeTbl hs1.out hz17.out HO1.out ?_; intro w5 hba5 hg5; have hx5 := (hx.trans hx4).grown hg5 (by have := hx.size; omega))
          | (refine wpList_load_blk rfl 41 (.tmp 5) rfl _ rfl hba5 _ Try.underlying41 rfl 17 sizeTbl hs1.out ?_)
          | (go_at_call 47; (with_reducible refine (HC1.out _ hx5).mono ?_); rintro e w6 ⟨rfl, hx6⟩))
        go_ret
        exact ⟨by rw [← HR.out]; simp [HZ.out], hx5.trans hx6⟩
    · have hr := (HRT.out _ _ hbn).2
      by_cases hz : z2 = 0
      · subst hz
        go_wp2_with (first
          | (refine wpList_load_mid rfl 41 (.tmp 49) rfl _ 17 rfl t2 _ hr Try.underlying41 rfl (by rw [hl2.out]; exact sizeTbl) ?_)
          | (refine wpList_alloc_abs' rfl (some 5) rfl 41 rfl _ zeroTbl ?_; intro w4 ga hba4 hx4 hga)
          | (refine wpList_store_blk rfl 41 (.tmp 5) (.tmp 50) rfl _ _ rfl rfl hba4 17 sizeTbl hs2.out hz17.out HO2.out ?_; intro w5 hba5 hg5; have hx5 := (hx.trans hx4).grown hg5 (by have := hx.size; omega))
          | (refine wpList_load_blk rfl 41 (.tmp 5) rfl _ rfl hba5 _ Try.underlying41 rfl 17 sizeTbl hs2.out ?_)
          | (go_at_call 47; (with_reducible refine (HC2.out _ hx5).mono ?_); rintro e w6 ⟨rfl, hx6⟩))
        go_roundw
        case rel => exact ⟨2, by omega, by go_num, fun _ => e1 (by omega), by simp, ((hb.ext hx4).grown hg5 (by have := hb.lt; simp; omega)).ext hx6, ((hbn.ext hx4).grown hg5 (by have := hbn.lt; simp; omega)).ext hx6, hx5.trans hx6⟩
        case measure => simp [intOf]
      · have hz1 : (z2 != 0) = true := by simpa using hz
        have HZ := hid_ hz
        clear hz
        go_wp2_with (first
          | (refine wpList_load_mid rfl 41 (.tmp 49) rfl _ 17 rfl t2 _ hr Try.underlying41 rfl (by rw [hl2.out]; exact sizeTbl) ?_)
          | (refine wpList_alloc_abs' rfl (some 5) rfl 41 rfl _ zeroTbl ?_; intro w4 ga hba4 hx4 hga)
          | (refine wpList_store_blk rfl 41 (.tmp 5) (.tmp 50) rfl _ _ rfl rfl hba4 17 sizeTbl hs2.out hz17.out HO2.out ?_; intro w5 hba5 hg5; have hx5 := (hx.trans hx4).grown hg5 (by have := hx.size; omega))
          | (refine wpList_load_blk rfl 41 (.tmp 5) rfl _ rfl hba5 _ Try.underlying41 rfl 17 sizeTbl hs2.out ?_)
          | (go_at_call 47; (with_reducible refine (HC2.out _ hx5).mono ?_); rintro e w6 ⟨rfl, hx6⟩))
        go_ret
        exact ⟨by rw [← HR.out]; simp [HZ.out, e1 (by omega)], hx5.trans hx6⟩
    · have c102 := (HF.out _ _ hb).c102
      have Z1 := hid_ (e1 (by omega))
      have Z2 := hid_ (e2 (by omega))
      clear e1 e2
      by_cases hn : 90000 < n
      · have hn' : decide ((90000 : Int) < (n : Int)) = true := by simp; omega
        go_wp2_with fail
        go_ret
        have h2 : R = 2 := by rw [← HR.out, if_pos Z1.out, if_pos Z2.out, if_pos hn]
        subst h2
        exact ⟨rfl, hx⟩
      · have hn' : decide ((90000 : Int) < (n : Int)) = false := by simp; omega
        go_wp2_with fail
        go_ret
        have h2 : R = 0 := by rw [← HR.out, if_pos Z1.out, if_pos Z2.out, if_neg hn]
        subst h2
        exact ⟨rfl, hx⟩
end Go.Proofs.Ytkfdkkhhkciocaa
/- R.FileCheck: an argument out of its bounds. -/
namespace Go.Proofs.Ytkfdkkhhkciocaa
set_option linter.unusedVariables false
set_option linter.unusedSimpArgs false
open Go.RowKit
set_option maxRecDepth 20000 in
set_option maxHeartbeats 4000000 in
theorem rfcheck_na (wd hi pt ev : Int) (qs : List Int) (t1 t2 : List Value) (sd : Value) (w : World) (hq : qs.length = 64) (h1 : t1.length = 17) (h2 : t2.length = 17) (k1 : inB wd 1 64 = false) :
    Calls Try.prog 80 #[.agg (fileL wd hi pt qs t1 t2 ev sd).toArray] w fun e w' => e = .returned (.int .i64 1) ∧ Ext w w' := by
  have HF := hid_ (fun W g (hb : Blk W g 45 (fileL wd hi pt qs t1 t2 ev sd).toArray) => fileB hb hq h1 h2)
  have W1 := hid_ (fun W => outside_any wd 1 64 W)
  have W2 := hid_ (fun W => outside_any hi 1 64 W)
  have W3 := hid_ (fun W => outside_any ev 0 100 W)
  generalize (fileL wd hi pt qs t1 t2 ev sd).toArray = fv at *
  generalize inB wd 1 64 = b1 at *
  generalize inB hi 1 64 = b2 at *
  generalize inB ev 0 100 = b3 at *
  subst k1
  go_enter Try.func80, Try.ntmps80
  go_wp2_with (first
    | (refine wpList_box_abs rfl 45 (.tmp 0) rfl fv rfl ?_; intro w1 g hb1 hx1 hg; obtain ⟨c0, c1, c2, -, -, -, -, c101, -⟩ := HF.out _ _ hb1)
    | (go_at_call 28; (with_reducible refine (W1.out _).mono ?_); rintro e w2 ⟨rfl, rfl⟩)
    | (go_at_call 28; (with_reducible refine (W2.out _).mono ?_); rintro e w2 ⟨rfl, rfl⟩)
    | (go_at_call 28; (with_reducible refine (W3.out _).mono ?_); rintro e w2 ⟨rfl, rfl⟩))
  go_ret
  exact ⟨rfl, hx1⟩
end Go.Proofs.Ytkfdkkhhkciocaa
/- R.FileCheck: an argument out of its bounds. -/
namespace Go.Proofs.Ytkfdkkhhkciocaa
set_option linter.unusedVariables false
set_option linter.unusedSimpArgs false
open Go.RowKit
set_option maxRecDepth 20000 in
set_option maxHeartbeats 4000000 in
theorem rfcheck_nb (wd hi pt ev : Int) (qs : List Int) (t1 t2 : List Value) (sd : Value) (w : World) (hq : qs.length = 64) (h1 : t1.length = 17) (h2 : t2.length = 17) (k1 : inB wd 1 64 = true) (k2 : inB hi 1 64 = false) :
    Calls Try.prog 80 #[.agg (fileL wd hi pt qs t1 t2 ev sd).toArray] w fun e w' => e = .returned (.int .i64 1) ∧ Ext w w' := by
  have HF := hid_ (fun W g (hb : Blk W g 45 (fileL wd hi pt qs t1 t2 ev sd).toArray) => fileB hb hq h1 h2)
  have W1 := hid_ (fun W => outside_any wd 1 64 W)
  have W2 := hid_ (fun W => outside_any hi 1 64 W)
  have W3 := hid_ (fun W => outside_any ev 0 100 W)
  generalize (fileL wd hi pt qs t1 t2 ev sd).toArray = fv at *
  generalize inB wd 1 64 = b1 at *
  generalize inB hi 1 64 = b2 at *
  generalize inB ev 0 100 = b3 at *
  subst k1 k2
  go_enter Try.func80, Try.ntmps80
  go_wp2_with (first
    | (refine wpList_box_abs rfl 45 (.tmp 0) rfl fv rfl ?_; intro w1 g hb1 hx1 hg; obtain ⟨c0, c1, c2, -, -, -, -, c101, -⟩ := HF.out _ _ hb1)
    | (go_at_call 28; (with_reducible refine (W1.out _).mono ?_); rintro e w2 ⟨rfl, rfl⟩)
    | (go_at_call 28; (with_reducible refine (W2.out _).mono ?_); rintro e w2 ⟨rfl, rfl⟩)
    | (go_at_call 28; (with_reducible refine (W3.out _).mono ?_); rintro e w2 ⟨rfl, rfl⟩))
  go_ret
  exact ⟨rfl, hx1⟩
end Go.Proofs.Ytkfdkkhhkciocaa
/- R.FileCheck: an argument out of its bounds. -/
namespace Go.Proofs.Ytkfdkkhhkciocaa
set_option linter.unusedVariables false
set_option linter.unusedSimpArgs false
open Go.RowKit
set_option maxRecDepth 20000 in
set_option maxHeartbeats 4000000 in
theorem rfcheck_nc (wd hi pt ev : Int) (qs : List Int) (t1 t2 : List Value) (sd : Value) (w : World) (hq : qs.length = 64) (h1 : t1.length = 17) (h2 : t2.length = 17) (k1 : inB wd 1 64 = true) (k2 : inB hi 1 64 = true) (p1 : (pt != 1) = true) (p2 : (pt != 3) = true) :
    Calls Try.prog 80 #[.agg (fileL wd hi pt qs t1 t2 ev sd).toArray] w fun e w' => e = .returned (.int .i64 1) ∧ Ext w w' := by
  have HF := hid_ (fun W g (hb : Blk W g 45 (fileL wd hi pt qs t1 t2 ev sd).toArray) => fileB hb hq h1 h2)
  have W1 := hid_ (fun W => outside_any wd 1 64 W)
  have W2 := hid_ (fun W => outside_any hi 1 64 W)
  have W3 := hid_ (fun W => outside_any ev 0 100 W)
  generalize (fileL wd hi pt qs t1 t2 ev sd).toArray = fv at *
  generalize inB wd 1 64 = b1 at *
  generalize inB hi 1 64 = b2 at *
  generalize inB ev 0 100 = b3 at *
  subst k1 k2
  go_enter Try.func80, Try.ntmps80
  go_wp2_with (first
    | (refine wpList_box_abs rfl 45 (.tmp 0) rfl fv rfl ?_; intro w1 g hb1 hx1 hg; obtain ⟨c0, c1, c2, -, -, -, -, c101, -⟩ := HF.out _ _ hb1)
    | (go_at_call 28; (with_reducible refine (W1.out _).mono ?_); rintro e w2 ⟨rfl, rfl⟩)
    | (go_at_call 28; (with_reducible refine (W2.out _).mono ?_); rintro e w2 ⟨rfl, rfl⟩)
    | (go_at_call 28; (with_reducible refine (W3.out _).mono ?_); rintro e w2 ⟨rfl, rfl⟩))
  go_ret
  exact ⟨rfl, hx1⟩
end Go.Proofs.Ytkfdkkhhkciocaa
/- R.FileCheck: an argument out of its bounds. -/
namespace Go.Proofs.Ytkfdkkhhkciocaa
set_option linter.unusedVariables false
set_option linter.unusedSimpArgs false
open Go.RowKit
set_option maxRecDepth 20000 in
set_option maxHeartbeats 4000000 in
theorem rfcheck_nd (wd hi ev : Int) (qs : List Int) (t1 t2 : List Value) (sd : Value) (w : World) (hq : qs.length = 64) (h1 : t1.length = 17) (h2 : t2.length = 17) (k1 : inB wd 1 64 = true) (k2 : inB hi 1 64 = true) (k3 : inB ev 0 100 = false) :
    Calls Try.prog 80 #[.agg (fileL wd hi 1 qs t1 t2 ev sd).toArray] w fun e w' => e = .returned (.int .i64 1) ∧ Ext w w' := by
  have HF := hid_ (fun W g (hb : Blk W g 45 (fileL wd hi 1 qs t1 t2 ev sd).toArray) => fileB hb hq h1 h2)
  have W1 := hid_ (fun W => outside_any wd 1 64 W)
  have W2 := hid_ (fun W => outside_any hi 1 64 W)
  have W3 := hid_ (fun W => outside_any ev 0 100 W)
  generalize (fileL wd hi 1 qs t1 t2 ev sd).toArray = fv at *
  generalize inB wd 1 64 = b1 at *
  generalize inB hi 1 64 = b2 at *
  generalize inB ev 0 100 = b3 at *
  subst k1 k2 k3
  go_enter Try.func80, Try.ntmps80
  go_wp2_with (first
    | (refine wpList_box_abs rfl 45 (.tmp 0) rfl fv rfl ?_; intro w1 g hb1 hx1 hg; obtain ⟨c0, c1, c2, -, -, -, -, c101, -⟩ := HF.out _ _ hb1)
    | (go_at_call 28; (with_reducible refine (W1.out _).mono ?_); rintro e w2 ⟨rfl, rfl⟩)
    | (go_at_call 28; (with_reducible refine (W2.out _).mono ?_); rintro e w2 ⟨rfl, rfl⟩)
    | (go_at_call 28; (with_reducible refine (W3.out _).mono ?_); rintro e w2 ⟨rfl, rfl⟩))
  go_ret
  exact ⟨rfl, hx1⟩
end Go.Proofs.Ytkfdkkhhkciocaa
/- R.FileCheck: an argument out of its bounds. -/
namespace Go.Proofs.Ytkfdkkhhkciocaa
set_option linter.unusedVariables false
set_option linter.unusedSimpArgs false
open Go.RowKit
set_option maxRecDepth 20000 in
set_option maxHeartbeats 4000000 in
theorem rfcheck_ne (wd hi ev : Int) (qs : List Int) (t1 t2 : List Value) (sd : Value) (w : World) (hq : qs.length = 64) (h1 : t1.length = 17) (h2 : t2.length = 17) (k1 : inB wd 1 64 = true) (k2 : inB hi 1 64 = true) (k3 : inB ev 0 100 = false) :
    Calls Try.prog 80 #[.agg (fileL wd hi 3 qs t1 t2 ev sd).toArray] w fun e w' => e = .returned (.int .i64 1) ∧ Ext w w' := by
  have HF := hid_ (fun W g (hb : Blk W g 45 (fileL wd hi 3 qs t1 t2 ev sd).toArray) => fileB hb hq h1 h2)
  have W1 := hid_ (fun W => outside_any wd 1 64 W)
  have W2 := hid_ (fun W => outside_any hi 1 64 W)
  have W3 := hid_ (fun W => outside_any ev 0 100 W)
  generalize (fileL wd hi 3 qs t1 t2 ev sd).toArray = fv at *
  generalize inB wd 1 64 = b1 at *
  generalize inB hi 1 64 = b2 at *
  generalize inB ev 0 100 = b3 at *
  subst k1 k2 k3
  go_enter Try.func80, Try.ntmps80
  go_wp2_with (first
    | (refine wpList_box_abs rfl 45 (.tmp 0) rfl fv rfl ?_; intro w1 g hb1 hx1 hg; obtain ⟨c0, c1, c2, -, -, -, -, c101, -⟩ := HF.out _ _ hb1)
    | (go_at_call 28; (with_reducible refine (W1.out _).mono ?_); rintro e w2 ⟨rfl, rfl⟩)
    | (go_at_call 28; (with_reducible refine (W2.out _).mono ?_); rintro e w2 ⟨rfl, rfl⟩)
    | (go_at_call 28; (with_reducible refine (W3.out _).mono ?_); rintro e w2 ⟨rfl, rfl⟩))
  go_ret
  exact ⟨rfl, hx1⟩
end Go.Proofs.Ytkfdkkhhkciocaa
/- R.FileCheck: an argument out of its bounds. -/
namespace Go.Proofs.Ytkfdkkhhkciocaa
set_option linter.unusedVariables false
set_option linter.unusedSimpArgs false
open Go.RowKit
theorem rfcheck_no (wd hi pt ev : Int) (qs : List Int) (t1 t2 : List Value) (sd : Value) (w : World) (hq : qs.length = 64) (h1 : t1.length = 17) (h2 : t2.length = 17) (h : argsOK wd hi pt ev = false) :
    Calls Try.prog 80 #[.agg (fileL wd hi pt qs t1 t2 ev sd).toArray] w fun e w' => e = .returned (.int .i64 1) ∧ Ext w w' := by
  unfold argsOK at h
  cases k1 : inB wd 1 64 with
  | false => exact rfcheck_na wd hi pt ev qs t1 t2 sd w hq h1 h2 k1
  | true =>
    cases k2 : inB hi 1 64 with
    | false => exact rfcheck_nb wd hi pt ev qs t1 t2 sd w hq h1 h2 k1 k2
    | true =>
      by_cases p1 : pt = 1
      · subst p1
        cases k3 : inB ev 0 100 with
        | false => exact rfcheck_nd wd hi ev qs t1 t2 sd w hq h1 h2 k1 k2 k3
        | true => rw [k1, k2, k3] at h; cases h
      · by_cases p3 : pt = 3
        · subst p3
          cases k3 : inB ev 0 100 with
          | false => exact rfcheck_ne wd hi ev qs t1 t2 sd w hq h1 h2 k1 k2 k3
          | true => rw [k1, k2, k3] at h; cases h
        · exact rfcheck_nc wd hi pt ev qs t1 t2 sd w hq h1 h2 k1 k2 (by simpa using p1) (by simpa using p3)
end Go.Proofs.Ytkfdkkhhkciocaa
/- TableCheck of the reference. -/
namespace Go.Proofs.Ytkfdkkhhkciocaa
set_option linter.unusedVariables false
set_option linter.unusedSimpArgs false
open Go.RowKit
theorem SL.take {w : World} {A : Option Addr} {n c : Nat} {xs : List Value} (h : SL w 1 (.slice A n c) n xs) {k : Nat} (hk : k ≤ n) : SL w 1 (.slice A k c) k (xs.take k) := by
  obtain ⟨A', c', e, h1, h1', h2, h3⟩ := h
  injection e with e1 e2 e3
  subst e1 e3
  refine ⟨A, c, rfl, by omega, h1', by simp; omega, fun hn => ?_⟩
  obtain ⟨ad, ea, hlt, hc⟩ := h3 (by omega)
  refine ⟨ad, ea, hlt, fun j u hu => hc j u ?_⟩
  have hj : j < k := by have := (List.getElem?_eq_some_iff.1 hu).1; simp at this; omega
  rwa [List.getElem?_take_of_lt hj] at hu
theorem totOK_no1 {cs xs : List Int} (h : allIn cs 0 256 = false) : totOK cs xs = false := by simp [totOK, h]
theorem totOK_no2 {cs xs : List Int} {k : Nat} (hk : k ≤ 16) (h : 256 < sumL cs k) : totOK cs xs = false := by
  cases h1 : allIn cs 0 256 with
  | false => exact totOK_no1 h1
  | true =>
    have key : ∀ j, k ≤ j → sumL cs k ≤ sumL cs j := by
      intro j hj
      induction j with
      | zero => obtain rfl : k = 0 := by omega
                exact Int.le_refl _
      | succ j ih =>
        rcases Nat.lt_or_ge j k with h2 | h2
        · obtain rfl : k = j + 1 := by omega
          exact Int.le_refl _
        · exact Int.le_trans (ih h2) (sumL_bd h1 j).2
    have := key 16 hk
    unfold totOK
    have h3 : ¬ sumL cs 16 ≤ 256 := by omega
    simp [h3]
set_option maxRecDepth 20000 in
set_option maxHeartbeats 1000000 in
theorem rcheck_any (cs xs : List Int) (sl : Value) (w : World) (hl : cs.length = 16) (hs : SL w 1 sl xs.length (ints xs)) :
    Calls Try.prog 65 #[.agg (tblv cs sl)] w fun e w' => e = .returned (.int .i64 (checkZ cs xs)) ∧ Ext w w' := by
  have hlast := hid_ (fun W g (h : Blk W g 41 (tblv cs sl)) => tblv_last h hl)
  have hts := hid_ (tblv_size cs sl hl)
  have HRG := hid_ (fun W g (h : Blk W g 41 (tblv cs sl)) => tblv_range h)
  have hcl := hid_ ((ints_len cs).trans hl)
  have HIX := hid_ (fun k (hk : k < cs.length) (h16 : k < 16) => fun W => run_index16 (ints cs).toArray k (.int .i64 cs[k]) h16 (bv_at cs k hk) W)
  have HL := hid_ hl
  have hs' := hs
  obtain ⟨A, c, rfl, hc1, hc2, -, -⟩ := hs'
  have HWY := hid_ (fun h1 h2 W => wordsOf_yes cs (.slice A xs.length c) W hl h1 h2)
  have HWN := hid_ (fun h1 h2 W => wordsOf_no cs (.slice A xs.length c) W hl h1 h2)
  generalize tblv cs (.slice A xs.length c) = tv at *
  go_enter Try.func65, Try.ntmps65
  go_wp2_with (first
    | (refine wpList_box_abs rfl 41 (.tmp 0) rfl tv rfl ?_; intro w1 g hb1 hx1 hg)
    | (refine wpList_load_mid rfl 39 (.tmp 12) rfl g 0 rfl (ints cs) _ (HRG.out _ _ hb1) Try.underlying39 rfl (by rw [hcl.out]; exact size16) ?_))
  have hc16 := hid_ (hlast.out _ _ hb1)
  go_loop [3, 14] (fun v i => ∃ k : Nat, k ≤ 16 ∧ i = .int .i64 (k : Int) ∧ v = .int .i64 (sumL cs k) ∧ (∀ z ∈ cs.take k, 0 ≤ z ∧ z ≤ 256) ∧ 0 ≤ sumL cs k ∧ sumL cs k ≤ 256 * k) (fun _ i => 16 - (intOf i).toNat)
  case atStart => exact ⟨0, by omega, rfl, rfl, by simp, by simp [sumL], by simp [sumL]⟩
  case round =>
    obtain ⟨k, hk, rfl, rfl, hin, s1, s2⟩ := hrel
    by_cases hlt : k < 16
    · have hkl : k < cs.length := by have := HL.out; omega
      have hix := HIX.out k hkl hlt
      have HS := hid_ (sumL_succ cs k hkl)
      have HIN := hid_ hin
      have HT2 := hid_ (fun h => checkZ_tot (totOK_no2 (cs := cs) (xs := xs) hk h))
      have HT1 := hid_ (fun h => checkZ_tot (totOK_no1 (cs := cs) (xs := xs) h))
      clear hin
      have HO := hid_ (fun W => outside_any cs[k] 0 256 W)
      cases hq : inB cs[k] 0 256 with
      | true =>
        obtain ⟨q1, q2⟩ := inB_iff.1 hq
        have HN := hid_ (allIn_take HIN.out hkl ⟨q1, q2⟩)
        rw [hq] at HO
        generalize sumL cs k = s at *
        by_cases hbig : 256 < s
        · have hbig' : decide (256 < s) = true := by simpa using hbig
          have HF := hid_ (HT2.out hbig)
          clear hq hbig
          go_wp2_with (go_at_call 28; (with_reducible refine (HO.out _).mono ?_); rintro e w' ⟨rfl, rfl⟩)
          go_ret
          exact ⟨by rw [HF.out]; rfl, hx1⟩
        · have hbig' : decide (256 < s) = false := by simpa using hbig
          clear hq hbig
          go_wp2_with (go_at_call 28; (with_reducible refine (HO.out _).mono ?_); rintro e w' ⟨rfl, rfl⟩)
          go_round
          case rel => exact ⟨k + 1, by omega, by go_num, by rw [HS.out], HN.out, by rw [HS.out]; omega, by rw [HS.out]; omega⟩
          case measure => simp [intOf]; omega
      | false =>
        have HF := hid_ (HT1.out (allIn_no hkl hq))
        rw [hq] at HO
        clear hq
        go_wp2_with (go_at_call 28; (with_reducible refine (HO.out _).mono ?_); rintro e w' ⟨rfl, rfl⟩)
        go_ret
        exact ⟨by rw [HF.out]; rfl, hx1⟩
    · have ek : k = 16 := by omega
      rw [ek] at s1 s2 hin ⊢
      have HA := hid_ (show allIn cs 0 256 = true by
        rw [List.take_of_length_le (by have := HL.out; omega)] at hin
        exact allIn_iff.2 hin)
      have HTK : Hid (sumL cs 16 ≤ 256 → sumL cs 16 = xs.length → totOK cs xs = true) := hid_ (fun a b => totOK_iff.2 ⟨HA.out, a, b⟩)
      have HTN : Hid (¬ (sumL cs 16 ≤ 256 ∧ sumL cs 16 = xs.length) → checkZ cs xs = 4) := hid_ (fun a => checkZ_tot (by
        rw [← Bool.not_eq_true, totOK_iff]
        rintro ⟨-, b, d⟩
        exact a ⟨b, d⟩))
      clear hin ek hk hlt
      generalize sumL cs 16 = s at *
      have h16 := hc16.out
      by_cases h1 : s ≤ 256
      · have h1' : decide (256 < s) = false := by simp; omega
        by_cases h2 : s = xs.length
        · have HTOK := hid_ (HTK.out h1 h2)
          subst h2
          have hneq : ((xs.length : Int) != (xs.length : Int)) = false := by simp
          have HZ1 := hid_ (fun h2 => checkZ_arg HTOK.out h2)
          have HZ2 := hid_ (fun h2 h3 => checkZ_dup HTOK.out h2 h3)
          have HZ3 := hid_ (fun h2 h3 => checkZ_words HTOK.out h2 h3)
          clear h1
          go_wp2_with fail
          go_loop [39] (fun i => ∃ k : Nat, k ≤ xs.length ∧ i = .int .i64 (k : Int) ∧ ∀ z ∈ xs.take k, 0 ≤ z ∧ z ≤ 255) (fun i => xs.length - (intOf i).toNat)
          case atStart => exact ⟨0, by omega, rfl, by simp⟩
          case round =>
            obtain ⟨k, hk, rfl, hin⟩ := hrel
            have HIN := hid_ hin
            clear hin
            by_cases hlt : k < xs.length
            · obtain ⟨ad, u, rfl, -, hxk, hcell⟩ := (hs.ext hx1).at1 hlt
              obtain ⟨hkl, rfl⟩ := ints_at _ _ _ hxk
              clear hxk
              have HO := hid_ (fun W => outside_any xs[k] 0 255 W)
              cases hq : inB xs[k] 0 255 with
              | true =>
                have HN := hid_ (allIn_take HIN.out hkl (inB_iff.1 hq))
                rw [hq] at HO
                clear hq
                go_wp2_with (go_at_call 28; (with_reducible refine (HO.out _).mono ?_); rintro e w' ⟨rfl, rfl⟩)
                go_round
                case rel => exact ⟨k + 1, by omega, by go_num, HN.out⟩
                case measure => simp [intOf]; omega
              | false =>
                have HF := hid_ (HZ1.out (allIn_no hkl hq))
                rw [hq] at HO
                clear hq
                go_wp2_with (go_at_call 28; (with_reducible refine (HO.out _).mono ?_); rintro e w' ⟨rfl, rfl⟩)
                go_ret
                exact ⟨by rw [HF.out]; rfl, hx1⟩
            · have e1 : xs.take k = xs := List.take_of_length_le (by omega)
              have HAX : Hid (allIn xs 0 255 = true) := hid_ (by have := HIN.out; rw [e1] at this; exact allIn_iff.2 this)
              clear e1
              have h16 := hc16.out
              go_wp2_with fail
              go_loop [49] (fun i => ∃ k : Nat, k ≤ xs.length ∧ i = .int .i64 (k : Int) ∧ (xs.take k).Nodup) (fun i => xs.length - (intOf i).toNat)
              case atStart => exact ⟨0, by omega, rfl, by simp⟩
              case round =>
                obtain ⟨m, hm, rfl, hnd⟩ := hrel
                have HND := hid_ hnd
                clear hnd
                by_cases hlt2 : m < xs.length
                · obtain ⟨ad, u, rfl, -, hxk, hcell⟩ := (hs.ext hx1).at1 hlt2
                  obtain ⟨hkl, rfl⟩ := ints_at _ _ _ hxk
                  clear hxk
                  have HS2 := hid_ (nodup_take_succ hkl)
                  have HH := hid_ (fun W (hx : Ext w W) => has_any (xs.take m) (some ad) c m xs[m] W (by simp; omega) (by have := (hs.ext hx).take (k := m) (by omega); rwa [show (ints xs).take m = ints (xs.take m) by simp [ints]] at this))
                  have h16 := hc16.out
                  by_cases hmem : xs[m] ∈ xs.take m
                  · have hd : decide (xs[m] ∈ xs.take m) = true := by simpa using hmem
                    have HF := hid_ (HZ2.out HAX.out (fun hnn => (((HS2.out).1 (List.Nodup.sublist (List.take_sublist _ _) hnn)).2 hmem)))
                    rw [hd] at HH
                    clear hd hmem
                    go_wp2_with (go_at_call 106; (with_reducible refine (HH.out _ hx1).mono ?_); rintro e w' ⟨rfl, rfl⟩)
                    go_ret
                    exact ⟨by rw [HF.out]; rfl, hx1⟩
                  · have hd : decide (xs[m] ∈ xs.take m) = false := by simpa using hmem
                    have HN := hid_ (HS2.out.2 ⟨HND.out, hmem⟩)
                    rw [hd] at HH
                    clear hd hmem
                    go_wp2_with (go_at_call 106; (with_reducible refine (HH.out _ hx1).mono ?_); rintro e w' ⟨rfl, rfl⟩)
                    go_round
                    case rel => exact ⟨m + 1, by omega, by go_num, HN.out⟩
                    case measure => simp [intOf]; omega
                · have e1 : xs.take m = xs := List.take_of_length_le (by omega)
                  rw [e1] at HND
                  have HF := hid_ (HZ3.out HAX.out HND.out)
                  clear e1
                  cases hok : okW cs with
                  | true =>
                    rw [hok] at HF
                    have HW := hid_ (HWY.out HA.out hok)
                    clear hok
                    go_wp2_with (first
                      | (refine wpList_load_blk rfl 41 (.tmp 1) rfl _ rfl hb1 _ Try.underlying41 rfl 17 sizeTbl hts.out ?_)
                      | (go_at_call 107; (with_reducible refine (HW.out _).mono ?_); rintro e w2 ⟨B, d, rfl, hs2, hx2⟩))
                    go_ret
                    exact ⟨by rw [HF.out]; rfl, hx1.trans hx2⟩
                  | false =>
                    rw [hok] at HF
                    have HW := hid_ (HWN.out HA.out hok)
                    clear hok
                    go_wp2_with (first
                      | (refine wpList_load_blk rfl 41 (.tmp 1) rfl _ rfl hb1 _ Try.underlying41 rfl 17 sizeTbl hts.out ?_)
                      | (go_at_call 107; (with_reducible refine (HW.out _).mono ?_); rintro e w2 ⟨rfl, hx2⟩))
                    go_ret
                    exact ⟨by rw [HF.out]; rfl, hx1.trans hx2⟩
        · have h2' : (s != (xs.length : Int)) = true := by simpa using h2
          have HF := hid_ (HTN.out (fun h => h2 h.2))
          clear h2 h1
          go_wp2_with fail
          go_ret
          exact ⟨by rw [HF.out]; rfl, hx1⟩
      · have h1' : decide (256 < s) = true := by simp; omega
        have HF := hid_ (HTN.out (fun h => h1 h.1))
        clear h1
        go_wp2_with fail
        go_ret
        exact ⟨by rw [HF.out]; rfl, hx1⟩
end Go.Proofs.Ytkfdkkhhkciocaa
