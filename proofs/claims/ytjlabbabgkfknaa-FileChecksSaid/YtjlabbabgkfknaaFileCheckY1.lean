/- file.Check: arguments within their bounds. -/
import Derived.Test.YtjlabbabgkfknaaFileWithin
import Derived.Test.YtjlabbabgkfknaaCheck
import Derived.Test.YtjlabbabgkfknaaAllWithin
namespace Go.Proofs.Ytjlabbabgkfknaa
set_option linter.unusedVariables false
set_option linter.unusedSimpArgs false
open Go.RowKit
set_option maxRecDepth 20000 in
set_option maxHeartbeats 4000000 in
theorem fcheck_y1t (wd hi ev : Int) (qs : List Int) (t1 t2 : List Value) (A : Option Addr) (n c : Nat) (z1 z2 : Int) (w : World) (hq : qs.length = 64) (h1 : t1.length = 17) (h2 : t2.length = 17)
    (k1 : inB wd 1 64 = true) (k2 : inB hi 1 64 = true) (k3 : inB ev 0 100 = true) (kq : allIn qs 1 255 = true) (o1 : t1.toArray.all (·.oneCell') = true) (o2 : t2.toArray.all (·.oneCell') = true)
    (C1 : ∀ W, Ext w W → Calls Try.prog 32 #[.agg t1.toArray] W fun e W' => e = .returned (.int .i64 z1) ∧ Ext W W')
    (C2 : ∀ W, Ext w W → Calls Try.prog 32 #[.agg t2.toArray] W fun e W' => e = .returned (.int .i64 z2) ∧ Ext W W') :
    Calls Try.prog 17 #[.agg (fileL wd hi 1 qs t1 t2 ev (.slice A n c)).toArray] w fun e w' => e = .returned (.int .i64 (if z1 = 0 then (if z2 = 0 then (if 90000 < n then 2 else 0) else z2) else z1)) ∧ Ext w w' := by
  have HF := hid_ (fun W g (hb : Blk W g 50 (fileL wd hi 1 qs t1 t2 ev (.slice A n c)).toArray) => fileB hb hq h1 h2)
  have W1 := hid_ (fun W => fwithin_any wd 1 64 W)
  have W2 := hid_ (fun W => fwithin_any hi 1 64 W)
  have W3 := hid_ (fun W => fwithin_any ev 0 100 W)
  have HQ : Hid (∀ W, Calls Try.prog 31 #[.agg (ints qs).toArray] W fun e w' => e = .returned (.int .i64 0) ∧ Ext W w') := hid_ (fun W => by have h := qcheck_any qs W hq; rw [kq] at h; exact h)
  clear kq
  have hql := hid_ ((ints_len qs).trans hq)
  have hl1 := hid_ h1
  have hl2 := hid_ h2
  have HB2 := hid_ (built2 t1 t2 h1 h2)
  have HRT := hid_ (fun W g (hb : Blk W g 45 (t1 ++ t2).toArray) => range_two h1 hb)
  have hs1 : Hid (t1.toArray.size = 17) := hid_ (by simpa using h1)
  have hs2 : Hid (t2.toArray.size = 17) := hid_ (by simpa using h2)
  have hz17 : Hid ((ints (List.replicate 16 0) ++ [Value.slice none 0 0]).toArray.size = 17) := hid_ (by simp [ints])
  have hl3 : Hid ((t1 ++ t2).length = 34) := hid_ (by simp [h1, h2])
  have HO1 := hid_ o1
  have HO2 := hid_ o2
  have HC1 := hid_ C1
  have HC2 := hid_ C2
  clear o1 o2 C1 C2
  generalize hR : (if z1 = 0 then (if z2 = 0 then (if 90000 < n then (2 : Int) else 0) else z2) else z1) = R
  have HR := hid_ hR
  clear hR
  clear hq h1 h2
  generalize (fileL wd hi 1 qs t1 t2 ev (.slice A n c)).toArray = fv at *
  generalize inB wd 1 64 = b1 at *
  generalize inB hi 1 64 = b2 at *
  generalize inB ev 0 100 = b3 at *
  subst k1 k2 k3
  go_enter Try.func17, Try.ntmps17
  go_wp2_with (first
    | (refine wpList_box_abs rfl 50 (.tmp 0) rfl fv rfl ?_; intro w1 g hb1 hx1 hg; have hf1 := HF.out _ _ hb1; have c0 := hf1.c0; have c1 := hf1.c1; have c2 := hf1.c2; have c101 := hf1.c101)
    | (go_at_call 30; (with_reducible refine (W1.out _).mono ?_); rintro e w2 ⟨rfl, rfl⟩)
    | (go_at_call 30; (with_reducible refine (W2.out _).mono ?_); rintro e w2 ⟨rfl, rfl⟩)
    | (go_at_call 30; (with_reducible refine (W3.out _).mono ?_); rintro e w2 ⟨rfl, rfl⟩)
    | (refine wpList_load_mid rfl 31 (.tmp 33) rfl g 3 rfl (ints qs) _ hf1.q Try.underlying31 rfl (by rw [hql.out]; exact size48) ?_)
    | (go_at_call 31; (with_reducible refine (HQ.out _).mono ?_); rintro e w2 ⟨rfl, hx2⟩; have hb2 := hb1.ext hx2; have hf2 := HF.out _ _ hb2)
    | (refine wpList_load_mid rfl 45 (.tmp 40) rfl g 67 rfl t1 _ hf2.ta Try.underlying45 rfl (by rw [hl1.out]; exact sizeTbl) ?_)
    | (refine wpList_load_mid rfl 45 (.tmp 43) rfl g 84 rfl t2 _ hf2.tb Try.underlying45 rfl (by rw [hl2.out]; exact sizeTbl) ?_)
    | (refine Go.Great.wpList_buildSliceTo rfl 67 45 2 _ rfl _ rfl (some 45) rfl Try.underlying67 _ (by simp [Act.eval]; exact HB2.out) ?_))
  have hbn0 := Blk.new w2 45 (t1 ++ t2).toArray
  have hb3 := hb2.alloc (.cells (t1 ++ t2).toArray 45)
  have hx3 := (hx1.trans hx2).alloc (.cells (t1 ++ t2).toArray 45)
  clear hb1 hb2 hf1 hf2 hx1 hx2 c0 c1 c2 c101
  go_loopw [47] (fun i wr => ∃ k : Nat, k ≤ 2 ∧ i = .int .i64 (k : Int) ∧ (1 ≤ k → z1 = 0) ∧ (2 ≤ k → z2 = 0) ∧ Blk wr g 50 fv ∧ Blk wr w2.heap.size 45 (t1 ++ t2).toArray ∧ Ext w wr) (fun i _ => 2 - (intOf i).toNat)
  case atStart => exact ⟨0, by omega, rfl, fun h => absurd h (by omega), fun h => absurd h (by omega), hb3, hbn0, hx3⟩
  case round =>
    clear hb3 hbn0 hx3
    obtain ⟨k, hk, rfl, e1, e2, hb, hbn, hx⟩ := hrel
    rcases (by omega : k = 0 ∨ k = 1 ∨ k = 2) with rfl | rfl | rfl
    · have hr := (HRT.out _ _ hbn).1
      by_cases hz : z1 = 0
      · subst hz
        go_wp2_with (first
          | (refine wpList_load_mid rfl 45 (.tmp 49) rfl _ 0 rfl t1 _ hr Try.underlying45 rfl (by rw [hl1.out]; exact sizeTbl) ?_)
          | (refine wpList_alloc_abs' rfl (some 5) rfl 45 rfl _ zeroTbl ?_; intro w4 ga hba4 hx4 hga)
          | (refine wpList_store_blk rfl 45 (.tmp 5) (.tmp 50) rfl _ _ rfl rfl hba4 17 sizeTbl hs1.out hz17.out HO1.out ?_; intro w5 hba5 hg5; have hx5 := (hx.trans hx4).grown hg5 (by have := hx.size; omega))
          | (refine wpList_load_blk rfl 45 (.tmp 5) rfl _ rfl hba5 _ Try.underlying45 rfl 17 sizeTbl hs1.out ?_)
          | (go_at_call 32; (with_reducible refine (HC1.out _ hx5).mono ?_); rintro e w6 ⟨rfl, hx6⟩))
        go_roundw
        case rel => exact ⟨1, by omega, by go_num, by simp, fun h => absurd h (by omega), ((hb.ext hx4).grown hg5 (by have := hb.lt; simp; omega)).ext hx6, ((hbn.ext hx4).grown hg5 (by have := hbn.lt; simp; omega)).ext hx6, hx5.trans hx6⟩
        case measure => simp [intOf]
      · have hz1 : (z1 != 0) = true := by simpa using hz
        have HZ := hid_ hz
        clear hz
        go_wp2_with (first
          | (refine wpList_load_mid rfl 45 (.tmp 49) rfl _ 0 rfl t1 _ hr Try.underlying45 rfl (by rw [hl1.out]; exact sizeTbl) ?_)
          | (refine wpList_alloc_abs' rfl (some 5) rfl 45 rfl _ zeroTbl ?_; intro w4 ga hba4 hx4 hga)
          | (refine wpList_store_blk rfl 45 (.tmp 5) (.tmp 50) rfl _ _ rfl rfl hba4 17 sizeTbl hs1.out hz17.out HO1.out ?_; intro w5 hba5 hg5; have hx5 := (hx.trans hx4).grown hg5 (by have := hx.size; omega))
          | (refine wpList_load_blk rfl 45 (.tmp 5) rfl _ rfl hba5 _ Try.underlying45 rfl 17 sizeTbl hs1.out ?_)
          | (go_at_call 32; (with_reducible refine (HC1.out _ hx5).mono ?_); rintro e w6 ⟨rfl, hx6⟩))
        go_ret
        exact ⟨by rw [← HR.out]; simp [HZ.out], hx5.trans hx6⟩
    · have hr := (HRT.out _ _ hbn).2
      by_cases hz : z2 = 0
      · subst hz
        go_wp2_with (first
          | (refine wpList_load_mid rfl 45 (.tmp 49) rfl _ 17 rfl t2 _ hr Try.underlying45 rfl (by rw [hl2.out]; exact sizeTbl) ?_)
          | (refine wpList_alloc_abs' rfl (some 5) rfl 45 rfl _ zeroTbl ?_; intro w4 ga hba4 hx4 hga)
          | (refine wpList_store_blk rfl 45 (.tmp 5) (.tmp 50) rfl _ _ rfl rfl hba4 17 sizeTbl hs2.out hz17.out HO2.out ?_; intro w5 hba5 hg5; have hx5 := (hx.trans hx4).grown hg5 (by have := hx.size; omega))
          | (refine wpList_load_blk rfl 45 (.tmp 5) rfl _ rfl hba5 _ Try.underlying45 rfl 17 sizeTbl hs2.out ?_)
          | (go_at_call 32; (with_reducible refine (HC2.out _ hx5).mono ?_); rintro e w6 ⟨rfl, hx6⟩))
        go_roundw
        case rel => exact ⟨2, by omega, by go_num, fun _ => e1 (by omega), by simp, ((hb.ext hx4).grown hg5 (by have := hb.lt; simp; omega)).ext hx6, ((hbn.ext hx4).grown hg5 (by have := hbn.lt; simp; omega)).ext hx6, hx5.trans hx6⟩
        case measure => simp [intOf]
      · have hz1 : (z2 != 0) = true := by simpa using hz
        have HZ := hid_ hz
        clear hz
        go_wp2_with (first
          | (refine wpList_load_mid rfl 45 (.tmp 49) rfl _ 17 rfl t2 _ hr Try.underlying45 rfl (by rw [hl2.out]; exact sizeTbl) ?_)
          | (refine wpList_alloc_abs' rfl (some 5) rfl 45 rfl _ zeroTbl ?_; intro w4 ga hba4 hx4 hga)
          | (refine wpList_store_blk rfl 45 (.tmp 5) (.tmp 50) rfl _ _ rfl rfl hba4 17 sizeTbl hs2.out hz17.out HO2.out ?_; intro w5 hba5 hg5; have hx5 := (hx.trans hx4).grown hg5 (by have := hx.size; omega))
          | (refine wpList_load_blk rfl 45 (.tmp 5) rfl _ rfl hba5 _ Try.underlying45 rfl 17 sizeTbl hs2.out ?_)
          | (go_at_call 32; (with_reducible refine (HC2.out _ hx5).mono ?_); rintro e w6 ⟨rfl, hx6⟩))
        go_ret
        exact ⟨by rw [← HR.out]; simp [HZ.out, e1 (by omega)], hx5.trans hx6⟩
    · have c102 := (HF.out _ _ hb).c102
      have Z1 := hid_ (e1 (by omega))
      have Z2 := hid_ (e2 (by omega))
      clear e1 e2
      by_cases hn : 90000 < n
      · have hn' : decide ((90000 : Int) < (n : Int)) = true := by simp; omega
        go_wp2_with fail
        go_ret
        have h2 : R = 2 := by rw [← HR.out, if_pos Z1.out, if_pos Z2.out, if_pos hn]
        subst h2
        exact ⟨rfl, hx⟩
      · have hn' : decide ((90000 : Int) < (n : Int)) = false := by simp; omega
        go_wp2_with fail
        go_ret
        have h2 : R = 0 := by rw [← HR.out, if_pos Z1.out, if_pos Z2.out, if_neg hn]
        subst h2
        exact ⟨rfl, hx⟩
end Go.Proofs.Ytjlabbabgkfknaa
