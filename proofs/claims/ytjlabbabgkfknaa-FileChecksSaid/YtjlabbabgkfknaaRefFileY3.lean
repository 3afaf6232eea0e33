/- R.FileCheck: arguments within their bounds. -/
import Derived.Test.YtjlabbabgkfknaaTablesCheck
namespace Go.Proofs.Ytjlabbabgkfknaa
set_option linter.unusedVariables false
set_option linter.unusedSimpArgs false
open Go.RowKit
set_option maxRecDepth 20000 in
set_option maxHeartbeats 4000000 in
theorem rfcheck_y3t (wd hi ev : Int) (qs : List Int) (t1 t2 : List Value) (A : Option Addr) (n c : Nat) (z1 z2 : Int) (w : World) (hq : qs.length = 64) (h1 : t1.length = 17) (h2 : t2.length = 17)
    (k1 : inB wd 1 64 = true) (k2 : inB hi 1 64 = true) (k3 : inB ev 0 100 = true) (kq : allIn qs 1 255 = true) (o1 : t1.toArray.all (·.oneCell') = true) (o2 : t2.toArray.all (·.oneCell') = true)
    (C1 : ∀ W, Ext w W → Calls Try.prog 38 #[.agg t1.toArray] W fun e W' => e = .returned (.int .i64 z1) ∧ Ext W W')
    (C2 : ∀ W, Ext w W → Calls Try.prog 38 #[.agg t2.toArray] W fun e W' => e = .returned (.int .i64 z2) ∧ Ext W W') :
    Calls Try.prog 18 #[.agg (fileL wd hi 3 qs t1 t2 ev (.slice A n c)).toArray] w fun e w' => e = .returned (.int .i64 (if z1 = 0 then (if z2 = 0 then (if 90000 < n then 2 else 0) else z2) else z1)) ∧ Ext w w' := by
  have HF := hid_ (fun W g (hb : Blk W g 50 (fileL wd hi 3 qs t1 t2 ev (.slice A n c)).toArray) => fileB hb hq h1 h2)
  have W1 := hid_ (fun W => outside_any wd 1 64 W)
  have W2 := hid_ (fun W => outside_any hi 1 64 W)
  have W3 := hid_ (fun W => outside_any ev 0 100 W)
  have HQ : Hid (∀ W, Calls Try.prog 27 #[.agg (ints qs).toArray, .int .i64 1, .int .i64 255] W fun e w' => e = .returned (.bool true) ∧ Ext W w') := hid_ (fun W => by have h := blockWithin_any qs 1 255 W hq; rw [kq] at h; exact h)
  clear kq
  have hql := hid_ ((ints_len qs).trans hq)
  have hl3 : Hid ((t1 ++ t2).length = 34) := hid_ (by simp [h1, h2])
  have HT := hid_ (fun W (hx : Ext w W) => tablesCheck_any t1 t2 z1 z2 W h1 h2 (fun V hV => C1 V (hx.trans hV)) (fun V hV => C2 V (hx.trans hV)))
  clear o1 o2 C1 C2
  clear h1 h2 hq
  generalize (fileL wd hi 3 qs t1 t2 ev (.slice A n c)).toArray = fv at *
  generalize inB wd 1 64 = b1 at *
  generalize inB hi 1 64 = b2 at *
  generalize inB ev 0 100 = b3 at *
  subst k1 k2 k3
  have HT0 := HT
  clear HT
  by_cases y1 : z1 = 0
  · by_cases y2 : z2 = 0
    · have HT : Hid (∀ W, Ext w W → Calls Try.prog 33 #[.agg (t1 ++ t2).toArray] W fun e W' => e = .returned (.int .i64 0) ∧ Ext W W') := hid_ (fun W hW => by have h := HT0.out W hW; rw [if_pos y1, y2] at h; exact h)
      clear HT0
      rw [if_pos y1, if_pos y2]
      clear y1 y2
      by_cases hn : 90000 < n
      · have hn' : decide ((90000 : Int) < (n : Int)) = true := by simp; omega
        rw [if_pos hn]
        go_enter Try.func18, Try.ntmps18
        go_wp2_with (first
          | (refine wpList_box_abs rfl 50 (.tmp 0) rfl fv rfl ?_; intro w1 g hb1 hx1 hg; have hf1 := HF.out _ _ hb1; have c0 := hf1.c0; have c1 := hf1.c1; have c2 := hf1.c2; have c101 := hf1.c101)
          | (go_at_call 24; (with_reducible refine (W1.out _).mono ?_); rintro e w2 ⟨rfl, rfl⟩)
          | (go_at_call 24; (with_reducible refine (W2.out _).mono ?_); rintro e w2 ⟨rfl, rfl⟩)
          | (go_at_call 24; (with_reducible refine (W3.out _).mono ?_); rintro e w2 ⟨rfl, rfl⟩)
          | (refine wpList_load_mid_g (by rfl) 31 (.tmp 28) rfl g 3 rfl (ints qs) _ hf1.q Try.underlying31 rfl (by rw [hql.out]; exact size48) ?_)
          | (go_at_call 27; (with_reducible refine (HQ.out _).mono ?_); rintro e w2 ⟨rfl, hx2⟩; have hb2 := hb1.ext hx2; have hf2 := HF.out _ _ hb2)
          | (refine wpList_load_mid rfl 47 (.tmp 33) rfl g 67 rfl (t1 ++ t2) _ hf2.tt Try.underlying47 rfl (by rw [hl3.out]; exact sizeTbls) ?_)
          | (go_at_call 33; (with_reducible refine (HT.out _ (hx1.trans hx2)).mono ?_); rintro e w3 ⟨rfl, hx3⟩; have c102 := (HF.out _ _ (hb2.ext hx3)).c102))
        go_ret
        exact ⟨rfl, (hx1.trans hx2).trans hx3⟩
      · have hn' : decide ((90000 : Int) < (n : Int)) = false := by simp; omega
        rw [if_neg hn]
        go_enter Try.func18, Try.ntmps18
        go_wp2_with (first
          | (refine wpList_box_abs rfl 50 (.tmp 0) rfl fv rfl ?_; intro w1 g hb1 hx1 hg; have hf1 := HF.out _ _ hb1; have c0 := hf1.c0; have c1 := hf1.c1; have c2 := hf1.c2; have c101 := hf1.c101)
          | (go_at_call 24; (with_reducible refine (W1.out _).mono ?_); rintro e w2 ⟨rfl, rfl⟩)
          | (go_at_call 24; (with_reducible refine (W2.out _).mono ?_); rintro e w2 ⟨rfl, rfl⟩)
          | (go_at_call 24; (with_reducible refine (W3.out _).mono ?_); rintro e w2 ⟨rfl, rfl⟩)
          | (refine wpList_load_mid_g (by rfl) 31 (.tmp 28) rfl g 3 rfl (ints qs) _ hf1.q Try.underlying31 rfl (by rw [hql.out]; exact size48) ?_)
          | (go_at_call 27; (with_reducible refine (HQ.out _).mono ?_); rintro e w2 ⟨rfl, hx2⟩; have hb2 := hb1.ext hx2; have hf2 := HF.out _ _ hb2)
          | (refine wpList_load_mid rfl 47 (.tmp 33) rfl g 67 rfl (t1 ++ t2) _ hf2.tt Try.underlying47 rfl (by rw [hl3.out]; exact sizeTbls) ?_)
          | (go_at_call 33; (with_reducible refine (HT.out _ (hx1.trans hx2)).mono ?_); rintro e w3 ⟨rfl, hx3⟩; have c102 := (HF.out _ _ (hb2.ext hx3)).c102))
        go_ret
        exact ⟨rfl, (hx1.trans hx2).trans hx3⟩
    · have HT : Hid (∀ W, Ext w W → Calls Try.prog 33 #[.agg (t1 ++ t2).toArray] W fun e W' => e = .returned (.int .i64 z2) ∧ Ext W W') := hid_ (fun W hW => by have h := HT0.out W hW; rw [if_pos y1] at h; exact h)
      clear HT0
      have hz1 : (z2 != 0) = true := by simpa using y2
      rw [if_pos y1, if_neg y2]
      clear y1 y2
      go_enter Try.func18, Try.ntmps18
      go_wp2_with (first
        | (refine wpList_box_abs rfl 50 (.tmp 0) rfl fv rfl ?_; intro w1 g hb1 hx1 hg; have hf1 := HF.out _ _ hb1; have c0 := hf1.c0; have c1 := hf1.c1; have c2 := hf1.c2; have c101 := hf1.c101)
        | (go_at_call 24; (with_reducible refine (W1.out _).mono ?_); rintro e w2 ⟨rfl, rfl⟩)
        | (go_at_call 24; (with_reducible refine (W2.out _).mono ?_); rintro e w2 ⟨rfl, rfl⟩)
        | (go_at_call 24; (with_reducible refine (W3.out _).mono ?_); rintro e w2 ⟨rfl, rfl⟩)
        | (refine wpList_load_mid_g (by rfl) 31 (.tmp 28) rfl g 3 rfl (ints qs) _ hf1.q Try.underlying31 rfl (by rw [hql.out]; exact size48) ?_)
        | (go_at_call 27; (with_reducible refine (HQ.out _).mono ?_); rintro e w2 ⟨rfl, hx2⟩; have hb2 := hb1.ext hx2; have hf2 := HF.out _ _ hb2)
        | (refine wpList_load_mid rfl 47 (.tmp 33) rfl g 67 rfl (t1 ++ t2) _ hf2.tt Try.underlying47 rfl (by rw [hl3.out]; exact sizeTbls) ?_)
        | (go_at_call 33; (with_reducible refine (HT.out _ (hx1.trans hx2)).mono ?_); rintro e w3 ⟨rfl, hx3⟩; have c102 := (HF.out _ _ (hb2.ext hx3)).c102))
      go_ret
      exact ⟨rfl, (hx1.trans hx2).trans hx3⟩
  · have HT : Hid (∀ W, Ext w W → Calls Try.prog 33 #[.agg (t1 ++ t2).toArray] W fun e W' => e = .returned (.int .i64 z1) ∧ Ext W W') := hid_ (fun W hW => by have h := HT0.out W hW; rw [if_neg y1] at h; exact h)
    clear HT0
    have hz1 : (z1 != 0) = true := by simpa using y1
    rw [if_neg y1]
    clear y1
    go_enter Try.func18, Try.ntmps18
    go_wp2_with (first
      | (refine wpList_box_abs rfl 50 (.tmp 0) rfl fv rfl ?_; intro w1 g hb1 hx1 hg; have hf1 := HF.out _ _ hb1; have c0 := hf1.c0; have c1 := hf1.c1; have c2 := hf1.c2; have c101 := hf1.c101)
      | (go_at_call 24; (with_reducible refine (W1.out _).mono ?_); rintro e w2 ⟨rfl, rfl⟩)
      | (go_at_call 24; (with_reducible refine (W2.out _).mono ?_); rintro e w2 ⟨rfl, rfl⟩)
      | (go_at_call 24; (with_reducible refine (W3.out _).mono ?_); rintro e w2 ⟨rfl, rfl⟩)
      | (refine wpList_load_mid_g (by rfl) 31 (.tmp 28) rfl g 3 rfl (ints qs) _ hf1.q Try.underlying31 rfl (by rw [hql.out]; exact size48) ?_)
      | (go_at_call 27; (with_reducible refine (HQ.out _).mono ?_); rintro e w2 ⟨rfl, hx2⟩; have hb2 := hb1.ext hx2; have hf2 := HF.out _ _ hb2)
      | (refine wpList_load_mid rfl 47 (.tmp 33) rfl g 67 rfl (t1 ++ t2) _ hf2.tt Try.underlying47 rfl (by rw [hl3.out]; exact sizeTbls) ?_)
      | (go_at_call 33; (with_reducible refine (HT.out _ (hx1.trans hx2)).mono ?_); rintro e w3 ⟨rfl, hx3⟩; have c102 := (HF.out _ _ (hb2.ext hx3)).c102))
    go_ret
    exact ⟨rfl, (hx1.trans hx2).trans hx3⟩
end Go.Proofs.Ytjlabbabgkfknaa
