/- Contracts for the law FileParses, part 9: what the functions that it reaches answer, for all arguments that the theorems name. -/
import Derived.Test.YtkfdkkhhkciocaaMFileParses5
import Derived.Test.YtkfdkkhhkciocaaMFileParses8
import Derived.Test.YtkfdkkhhkciocaaMFileParses1
import Derived.Test.YtkfdkkhhkciocaaMFileParses6
import Derived.Test.YtkfdkkhhkciocaaMFileParses7
import Derived.WalkKit
/- TablesCheck of the reference. -/
namespace Go.Proofs.Ytkfdkkhhkciocaa
set_option linter.unusedVariables false
set_option linter.unusedSimpArgs false
open Go.RowKit
set_option maxRecDepth 20000 in
set_option maxHeartbeats 4000000 in
theorem tablesCheck_any (t1 t2 : List Value) (z1 z2 : Int) (w : World) (h1 : t1.length = 17) (h2 : t2.length = 17)
    (C1 : ∀ W, Ext w W → Calls Try.prog 65 #[.agg t1.toArray] W fun e W' => e = .returned (.int .i64 z1) ∧ Ext W W')
    (C2 : ∀ W, Ext w W → Calls Try.prog 65 #[.agg t2.toArray] W fun e W' => e = .returned (.int .i64 z2) ∧ Ext W W') :
    Calls Try.prog 112 #[.agg (t1 ++ t2).toArray] w fun e w' => e = .returned (.int .i64 (if z1 = 0 then z2 else z1)) ∧ Ext w w' := by
  have HRT := hid_ (fun W g (hb : Blk W g 43 (t1 ++ t2).toArray) => range_two h1 hb)
  have hl1 := hid_ h1
  have hl2 := hid_ h2
  have HC1 := hid_ C1
  have HC2 := hid_ C2
  clear C1 C2 h1 h2
  generalize htt : (t1 ++ t2).toArray = tt at *
  clear htt
  by_cases hz : z1 = 0
  · rw [if_pos hz]
    subst hz
    go_enter Try.func112, Try.ntmps112
    go_wp2_with (first
      | (refine wpList_box_abs rfl 43 (.tmp 0) rfl tt rfl ?_; intro w1 g hb1 hx1 hg; have hr1 := (HRT.out _ _ hb1).1)
      | (refine wpList_load_mid rfl 41 (.tmp 4) rfl g 0 rfl t1 _ hr1 Try.underlying41 rfl (by rw [hl1.out]; exact sizeTbl) ?_)
      | (go_at_call 65; (with_reducible refine (HC1.out _ hx1).mono ?_); rintro e w2 ⟨rfl, hx2⟩; have hr2 := (HRT.out _ _ (hb1.ext hx2)).2)
      | (refine wpList_load_mid rfl 41 (.tmp 10) rfl g 17 rfl t2 _ hr2 Try.underlying41 rfl (by rw [hl2.out]; exact sizeTbl) ?_)
      | (go_at_call 65; (with_reducible refine (HC2.out _ (hx1.trans hx2)).mono ?_); rintro e w3 ⟨rfl, hx3⟩))
    go_ret
    exact ⟨rfl, (hx1.trans hx2).trans hx3⟩
  · rw [if_neg hz]
    have hz1 : (z1 != 0) = true := by simpa using hz
    go_enter Try.func112, Try.ntmps112
    go_wp2_with (first
      | (refine wpList_box_abs rfl 43 (.tmp 0) rfl tt rfl ?_; intro w1 g hb1 hx1 hg; have hr1 := (HRT.out _ _ hb1).1)
      | (refine wpList_load_mid rfl 41 (.tmp 4) rfl g 0 rfl t1 _ hr1 Try.underlying41 rfl (by rw [hl1.out]; exact sizeTbl) ?_)
      | (go_at_call 65; (with_reducible refine (HC1.out _ hx1).mono ?_); rintro e w2 ⟨rfl, hx2⟩))
    go_ret
    exact ⟨rfl, hx1.trans hx2⟩
end Go.Proofs.Ytkfdkkhhkciocaa
/- R.FileCheck: arguments within their bounds. -/
namespace Go.Proofs.Ytkfdkkhhkciocaa
set_option linter.unusedVariables false
set_option linter.unusedSimpArgs false
open Go.RowKit
set_option maxRecDepth 20000 in
set_option maxHeartbeats 4000000 in
theorem rfcheck_y1f (wd hi ev : Int) (qs : List Int) (t1 t2 : List Value) (A : Option Addr) (n c : Nat) (z1 z2 : Int) (w : World) (hq : qs.length = 64) (h1 : t1.length = 17) (h2 : t2.length = 17)
    (k1 : inB wd 1 64 = true) (k2 : inB hi 1 64 = true) (k3 : inB ev 0 100 = true) (kq : allIn qs 1 255 = false) :
    Calls Try.prog 80 #[.agg (fileL wd hi 1 qs t1 t2 ev (.slice A n c)).toArray] w fun e w' => e = .returned (.int .i64 (1)) ∧ Ext w w' := by
  have HF := hid_ (fun W g (hb : Blk W g 45 (fileL wd hi 1 qs t1 t2 ev (.slice A n c)).toArray) => fileB hb hq h1 h2)
  have W1 := hid_ (fun W => outside_any wd 1 64 W)
  have W2 := hid_ (fun W => outside_any hi 1 64 W)
  have W3 := hid_ (fun W => outside_any ev 0 100 W)
  have HQ : Hid (∀ W, Calls Try.prog 33 #[.agg (ints qs).toArray, .int .i64 1, .int .i64 255] W fun e w' => e = .returned (.bool false) ∧ Ext W w') := hid_ (fun W => by have h := blockWithin_any qs 1 255 W hq; rw [kq] at h; exact h)
  clear kq
  have hql := hid_ ((ints_len qs).trans hq)
  have hl3 : Hid ((t1 ++ t2).length = 34) := hid_ (by simp [h1, h2])
  clear h1 h2 hq
  generalize (fileL wd hi 1 qs t1 t2 ev (.slice A n c)).toArray = fv at *
  generalize inB wd 1 64 = b1 at *
  generalize inB hi 1 64 = b2 at *
  generalize inB ev 0 100 = b3 at *
  subst k1 k2 k3
  go_enter Try.func80, Try.ntmps80
  go_wp2_with (first
    | (refine wpList_box_abs rfl 45 (.tmp 0) rfl fv rfl ?_; intro w1 g hb1 hx1 hg; have hf1 := HF.out _ _ hb1; have c0 := hf1.c0; have c1 := hf1.c1; have c2 := hf1.c2; have c101 := hf1.c101)
    | (go_at_call 28; (with_reducible refine (W1.out _).mono ?_); rintro e w2 ⟨rfl, rfl⟩)
    | (go_at_call 28; (with_reducible refine (W2.out _).mono ?_); rintro e w2 ⟨rfl, rfl⟩)
    | (go_at_call 28; (with_reducible refine (W3.out _).mono ?_); rintro e w2 ⟨rfl, rfl⟩)
    | (refine wpList_load_mid_g (by rfl) 24 (.tmp 28) rfl g 3 rfl (ints qs) _ hf1.q Try.underlying24 rfl (by rw [hql.out]; exact size48) ?_)
    | (go_at_call 33; (with_reducible refine (HQ.out _).mono ?_); rintro e w2 ⟨rfl, hx2⟩; have hb2 := hb1.ext hx2; have hf2 := HF.out _ _ hb2))
  go_ret
  exact ⟨rfl, hx1.trans hx2⟩
end Go.Proofs.Ytkfdkkhhkciocaa
/- R.FileCheck: arguments within their bounds. -/
namespace Go.Proofs.Ytkfdkkhhkciocaa
set_option linter.unusedVariables false
set_option linter.unusedSimpArgs false
open Go.RowKit
set_option maxRecDepth 20000 in
set_option maxHeartbeats 4000000 in
theorem rfcheck_y3f (wd hi ev : Int) (qs : List Int) (t1 t2 : List Value) (A : Option Addr) (n c : Nat) (z1 z2 : Int) (w : World) (hq : qs.length = 64) (h1 : t1.length = 17) (h2 : t2.length = 17)
    (k1 : inB wd 1 64 = true) (k2 : inB hi 1 64 = true) (k3 : inB ev 0 100 = true) (kq : allIn qs 1 255 = false) :
    Calls Try.prog 80 #[.agg (fileL wd hi 3 qs t1 t2 ev (.slice A n c)).toArray] w fun e w' => e = .returned (.int .i64 (1)) ∧ Ext w w' := by
  have HF := hid_ (fun W g (hb : Blk W g 45 (fileL wd hi 3 qs t1 t2 ev (.slice A n c)).toArray) => fileB hb hq h1 h2)
  have W1 := hid_ (fun W => outside_any wd 1 64 W)
  have W2 := hid_ (fun W => outside_any hi 1 64 W)
  have W3 := hid_ (fun W => outside_any ev 0 100 W)
  have HQ : Hid (∀ W, Calls Try.prog 33 #[.agg (ints qs).toArray, .int .i64 1, .int .i64 255] W fun e w' => e = .returned (.bool false) ∧ Ext W w') := hid_ (fun W => by have h := blockWithin_any qs 1 255 W hq; rw [kq] at h; exact h)
  clear kq
  have hql := hid_ ((ints_len qs).trans hq)
  have hl3 : Hid ((t1 ++ t2).length = 34) := hid_ (by simp [h1, h2])
  clear h1 h2 hq
  generalize (fileL wd hi 3 qs t1 t2 ev (.slice A n c)).toArray = fv at *
  generalize inB wd 1 64 = b1 at *
  generalize inB hi 1 64 = b2 at *
  generalize inB ev 0 100 = b3 at *
  subst k1 k2 k3
  go_enter Try.func80, Try.ntmps80
  go_wp2_with (first
    | (refine wpList_box_abs rfl 45 (.tmp 0) rfl fv rfl ?_; intro w1 g hb1 hx1 hg; have hf1 := HF.out _ _ hb1; have c0 := hf1.c0; have c1 := hf1.c1; have c2 := hf1.c2; have c101 := hf1.c101)
    | (go_at_call 28; (with_reducible refine (W1.out _).mono ?_); rintro e w2 ⟨rfl, rfl⟩)
    | (go_at_call 28; (with_reducible refine (W2.out _).mono ?_); rintro e w2 ⟨rfl, rfl⟩)
    | (go_at_call 28; (with_reducible refine (W3.out _).mono ?_); rintro e w2 ⟨rfl, rfl⟩)
    | (refine wpList_load_mid_g (by rfl) 24 (.tmp 28) rfl g 3 rfl (ints qs) _ hf1.q Try.underlying24 rfl (by rw [hql.out]; exact size48) ?_)
    | (go_at_call 33; (with_reducible refine (HQ.out _).mono ?_); rintro e w2 ⟨rfl, hx2⟩; have hb2 := hb1.ext hx2; have hf2 := HF.out _ _ hb2))
  go_ret
  exact ⟨rfl, hx1.trans hx2⟩
end Go.Proofs.Ytkfdkkhhkciocaa
/- R.FileCheck: arguments within their bounds. -/
namespace Go.Proofs.Ytkfdkkhhkciocaa
set_option linter.unusedVariables false
set_option linter.unusedSimpArgs false
open Go.RowKit
set_option maxRecDepth 20000 in
set_option maxHeartbeats 4000000 in
theorem rfcheck_y1t (wd hi ev : Int) (qs : List Int) (t1 t2 : List Value) (A : Option Addr) (n c : Nat) (z1 z2 : Int) (w : World) (hq : qs.length = 64) (h1 : t1.length = 17) (h2 : t2.length = 17)
    (k1 : inB wd 1 64 = true) (k2 : inB hi 1 64 = true) (k3 : inB ev 0 100 = true) (kq : allIn qs 1 255 = true) (o1 : t1.toArray.all (·.oneCell') = true) (o2 : t2.toArray.all (·.oneCell') = true)
    (C1 : ∀ W, Ext w W → Calls Try.prog 65 #[.agg t1.toArray] W fun e W' => e = .returned (.int .i64 z1) ∧ Ext W W')
    (C2 : ∀ W, Ext w W → Calls Try.prog 65 #[.agg t2.toArray] W fun e W' => e = .returned (.int .i64 z2) ∧ Ext W W') :
    Calls Try.prog 80 #[.agg (fileL wd hi 1 qs t1 t2 ev (.slice A n c)).toArray] w fun e w' => e = .returned (.int .i64 (if z1 = 0 then (if z2 = 0 then (if 90000 < n then 2 else 0) else z2) else z1)) ∧ Ext w w' := by
  have HF := hid_ (fun W g (hb : Blk W g 45 (fileL wd hi 1 qs t1 t2 ev (.slice A n c)).toArray) => fileB hb hq h1 h2)
  have W1 := hid_ (fun W => outside_any wd 1 64 W)
  have W2 := hid_ (fun W => outside_any hi 1 64 W)
  have W3 := hid_ (fun W => outside_any ev 0 100 W)
  have HQ : Hid (∀ W, Calls Try.prog 33 #[.agg (ints qs).toArray, .int .i64 1, .int .i64 255] W fun e w' => e = .returned (.bool true) ∧ Ext W w') := hid_ (fun W => by have h := blockWithin_any qs 1 255 W hq; rw [kq] at h; exact h)
  clear kq
  have hql := hid_ ((ints_len qs).trans hq)
  have hl3 : Hid ((t1 ++ t2).length = 34) := hid_ (by simp [h1, h2])
  have HT := hid_ (fun W (hx : Ext w W) => tablesCheck_any t1 t2 z1 z2 W h1 h2 (fun V hV => C1 V (hx.trans hV)) (fun V hV => C2 V (hx.trans hV)))
  clear o1 o2 C1 C2
  clear h1 h2 hq
  generalize (fileL wd hi 1 qs t1 t2 ev (.slice A n c)).toArray = fv at *
  generalize inB wd 1 64 = b1 at *
  generalize inB hi 1 64 = b2 at *
  generalize inB ev 0 100 = b3 at *
  subst k1 k2 k3
  have HT0 := HT
  clear HT
  by_cases y1 : z1 = 0
  · by_cases y2 : z2 = 0
    · have HT : Hid (∀ W, Ext w W → Calls Try.prog 112 #[.agg (t1 ++ t2).toArray] W fun e W' => e = .returned (.int .i64 0) ∧ Ext W W') := hid_ (fun W hW => by have h := HT0.out W hW; rw [if_pos y1, y2] at h; exact h)
      clear HT0
      rw [if_pos y1, if_pos y2]
      clear y1 y2
      by_cases hn : 90000 < n
      · have hn' : decide ((90000 : Int) < (n : Int)) = true := by simp; omega
        rw [if_pos hn]
        go_enter Try.func80, Try.ntmps80
        go_wp2_with (first
          | (refine wpList_box_abs rfl 45 (.tmp 0) rfl fv rfl ?_; intro w1 g hb1 hx1 hg; have hf1 := HF.out _ _ hb1; have c0 := hf1.c0; have c1 := hf1.c1; have c2 := hf1.c2; have c101 := hf1.c101)
          | (go_at_call 28; (with_reducible refine (W1.out _).mono ?_); rintro e w2 ⟨rfl, rfl⟩)
          | (go_at_call 28; (with_reducible refine (W2.out _).mono ?_); rintro e w2 ⟨rfl, rfl⟩)
          | (go_at_call 28; (with_reducible refine (W3.out _).mono ?_); rintro e w2 ⟨rfl, rfl⟩)
          | (refine wpList_load_mid_g (by rfl) 24 (.tmp 28) rfl g 3 rfl (ints qs) _ hf1.q Try.underlying24 rfl (by rw [hql.out]; exact size48) ?_)
          | (go_at_call 33; (with_reducible refine (HQ.out _).mono ?_); rintro e w2 ⟨rfl, hx2⟩; have hb2 := hb1.ext hx2; have hf2 := HF.out _ _ hb2)
          | (refine wpList_load_mid rfl 43 (.tmp 33) rfl g 67 rfl (t1 ++ t2) _ hf2.tt Try.underlying43 rfl (by rw [hl3.out]; exact sizeTbls) ?_)
          | (go_at_call 112; (with_reducible refine (HT.out _ (hx1.trans hx2)).mono ?_); rintro e w3 ⟨rfl, hx3⟩; have c102 := (HF.out _ _ (hb2.ext hx3)).c102))
        go_ret
        exact ⟨rfl, (hx1.trans hx2).trans hx3⟩
      · have hn' : decide ((90000 : Int) < (n : Int)) = false := by simp; omega
        rw [if_neg hn]
        go_enter Try.func80, Try.ntmps80
        go_wp2_with (first
          | (refine wpList_box_abs rfl 45 (.tmp 0) rfl fv rfl ?_; intro w1 g hb1 hx1 hg; have hf1 := HF.out _ _ hb1; have c0 := hf1.c0; have c1 := hf1.c1; have c2 := hf1.c2; have c101 := hf1.c101)
          | (go_at_call 28; (with_reducible refine (W1.out _).mono ?_); rintro e w2 ⟨rfl, rfl⟩)
          | (go_at_call 28; (with_reducible refine (W2.out _).mono ?_); rintro e w2 ⟨rfl, rfl⟩)
          | (go_at_call 28; (with_reducible refine (W3.out _).mono ?_); rintro e w2 ⟨rfl, rfl⟩)
          | (refine wpList_load_mid_g (by rfl) 24 (.tmp 28) rfl g 3 rfl (ints qs) _ hf1.q Try.underlying24 rfl (by rw [hql.out]; exact size48) ?_)
          | (go_at_call 33; (with_reducible refine (HQ.out _).mono ?_); rintro e w2 ⟨rfl, hx2⟩; have hb2 := hb1.ext hx2; have hf2 := HF.out _ _ hb2)
          | (refine wpList_load_mid rfl 43 (.tmp 33) rfl g 67 rfl (t1 ++ t2) _ hf2.tt Try.underlying43 rfl (by rw [hl3.out]; exact sizeTbls) ?_)
          | (go_at_call 112; (with_reducible refine (HT.out _ (hx1.trans hx2)).mono ?_); rintro e w3 ⟨rfl, hx3⟩; have c102 := (HF.out _ _ (hb2.ext hx3)).c102))
        go_ret
        exact ⟨rfl, (hx1.trans hx2).trans hx3⟩
    · have HT : Hid (∀ W, Ext w W → Calls Try.prog 112 #[.agg (t1 ++ t2).toArray] W fun e W' => e = .returned (.int .i64 z2) ∧ Ext W W') := hid_ (fun W hW => by have h := HT0.out W hW; rw [if_pos y1] at h; exact h)
      clear HT0
      have hz1 : (z2 != 0) = true := by simpa using y2
      rw [if_pos y1, if_neg y2]
      clear y1 y2
      go_enter Try.func80, Try.ntmps80
      go_wp2_with (first
        | (refine wpList_box_abs rfl 45 (.tmp 0) rfl fv rfl ?_; intro w1 g hb1 hx1 hg; have hf1 := HF.out _ _ hb1; have c0 := hf1.c0; have c1 := hf1.c1; have c2 := hf1.c2; have c101 := hf1.c101)
        | (go_at_call 28; (with_reducible refine (W1.out _).mono ?_); rintro e w2 ⟨rfl, rfl⟩)
        | (go_at_call 28; (with_reducible refine (W2.out _).mono ?_); rintro e w2 ⟨rfl, rfl⟩)
        | (go_at_call 28; (with_reducible refine (W3.out _).mono ?_); rintro e w2 ⟨rfl, rfl⟩)
        | (refine wpList_load_mid_g (by rfl) 24 (.tmp 28) rfl g 3 rfl (ints qs) _ hf1.q Try.underlying24 rfl (by rw [hql.out]; exact size48) ?_)
        | (go_at_call 33; (with_reducible refine (HQ.out _).mono ?_); rintro e w2 ⟨rfl, hx2⟩; have hb2 := hb1.ext hx2; have hf2 := HF.out _ _ hb2)
        | (refine wpList_load_mid rfl 43 (.tmp 33) rfl g 67 rfl (t1 ++ t2) _ hf2.tt Try.underlying43 rfl (by rw [hl3.out]; exact sizeTbls) ?_)
        | (go_at_call 112; (with_reducible refine (HT.out _ (hx1.trans hx2)).mono ?_); rintro e w3 ⟨rfl, hx3⟩; have c102 := (HF.out _ _ (hb2.ext hx3)).c102))
      go_ret
      exact ⟨rfl, (hx1.trans hx2).trans hx3⟩
  · have HT : Hid (∀ W, Ext w W → Calls Try.prog 112 #[.agg (t1 ++ t2).toArray] W fun e W' => e = .returned (.int .i64 z1) ∧ Ext W W') := hid_ (fun W hW => by have h := HT0.out W hW; rw [if_neg y1] at h; exact h)
    clear HT0
    have hz1 : (z1 != 0) = true := by simpa using y1
    rw [if_neg y1]
    clear y1
    go_enter Try.func80, Try.ntmps80
    go_wp2_with (first
      | (refine wpList_box_abs rfl 45 (.tmp 0) rfl fv rfl ?_; intro w1 g hb1 hx1 hg; have hf1 := HF.out _ _ hb1; have c0 := hf1.c0; have c1 := hf1.c1; have c2 := hf1.c2; have c101 := hf1.c101)
      | (go_at_call 28; (with_reducible refine (W1.out _).mono ?_); rintro e w2 ⟨rfl, rfl⟩)
      | (go_at_call 28; (with_reducible refine (W2.out _).mono ?_); rintro e w2 ⟨rfl, rfl⟩)
      | (go_at_call 28; (with_reducible refine (W3.out _).mono ?_); rintro e w2 ⟨rfl, rfl⟩)
      | (refine wpList_load_mid_g (by rfl) 24 (.tmp 28) rfl g 3 rfl (ints qs) _ hf1.q Try.underlying24 rfl (by rw [hql.out]; exact size48) ?_)
      | (go_at_call 33; (with_reducible refine (HQ.out _).mono ?_); rintro e w2 ⟨rfl, hx2⟩; have hb2 := hb1.ext hx2; have hf2 := HF.out _ _ hb2)
      | (refine wpList_load_mid rfl 43 (.tmp 33) rfl g 67 rfl (t1 ++ t2) _ hf2.tt Try.underlying43 rfl (by rw [hl3.out]; exact sizeTbls) ?_)
      | (go_at_call 112; (with_reducible refine (HT.out _ (hx1.trans hx2)).mono ?_); rintro e w3 ⟨rfl, hx3⟩; have c102 := (HF.out _ _ (hb2.ext hx3)).c102))
    go_ret
    exact ⟨rfl, (hx1.trans hx2).trans hx3⟩
end Go.Proofs.Ytkfdkkhhkciocaa
/- R.FileCheck: arguments within their bounds. -/
namespace Go.Proofs.Ytkfdkkhhkciocaa
set_option linter.unusedVariables false
set_option linter.unusedSimpArgs false
open Go.RowKit
set_option maxRecDepth 20000 in
set_option maxHeartbeats 4000000 in
theorem rfcheck_y3t (wd hi ev : Int) (qs : List Int) (t1 t2 : List Value) (A : Option Addr) (n c : Nat) (z1 z2 : Int) (w : World) (hq : qs.length = 64) (h1 : t1.length = 17) (h2 : t2.length = 17)
    (k1 : inB wd 1 64 = true) (k2 : inB hi 1 64 = true) (k3 : inB ev 0 100 = true) (kq : allIn qs 1 255 = true) (o1 : t1.toArray.all (·.oneCell') = true) (o2 : t2.toArray.all (·.oneCell') = true)
    (C1 : ∀ W, Ext w W → Calls Try.prog 65 #[.agg t1.toArray] W fun e W' => e = .returned (.int .i64 z1) ∧ Ext W W')
    (C2 : ∀ W, Ext w W → Calls Try.prog 65 #[.agg t2.toArray] W fun e W' => e = .returned (.int .i64 z2) ∧ Ext W W') :
    Calls Try.prog 80 #[.agg (fileL wd hi 3 qs t1 t2 ev (.slice A n c)).toArray] w fun e w' => e = .returned (.int .i64 (if z1 = 0 then (if z2 = 0 then (if 90000 < n then 2 else 0) else z2) else z1)) ∧ Ext w w' := by
  have HF := hid_ (fun W g (hb : Blk W g 45 (fileL wd hi 3 qs t1 t2 ev (.slice A n c)).toArray) => fileB hb hq h1 h2)
  have W1 := hid_ (fun W => outside_any wd 1 64 W)
  have W2 := hid_ (fun W => outside_any hi 1 64 W)
  have W3 := hid_ (fun W => outside_any ev 0 100 W)
  have HQ : Hid (∀ W, Calls Try.prog 33 #[.agg (ints qs).toArray, .int .i64 1, .int .i64 255] W fun e w' => e = .returned (.bool true) ∧ Ext W w') := hid_ (fun W => by have h := blockWithin_any qs 1 255 W hq; rw [kq] at h; exact h)
  clear kq
  have hql := hid_ ((ints_len qs).trans hq)
  have hl3 : Hid ((t1 ++ t2).length = 34) := hid_ (by simp [h1, h2])
  have HT := hid_ (fun W (hx : Ext w W) => tablesCheck_any t1 t2 z1 z2 W h1 h2 (fun V hV => C1 V (hx.trans hV)) (fun V hV => C2 V (hx.trans hV)))
  clear o1 o2 C1 C2
  clear h1 h2 hq
  generalize (fileL wd hi 3 qs t1 t2 ev (.slice A n c)).toArray = fv at *
  generalize inB wd 1 64 = b1 at *
  generalize inB hi 1 64 = b2 at *
  generalize inB ev 0 100 = b3 at *
  subst k1 k2 k3
  have HT0 := HT
  clear HT
  by_cases y1 : z1 = 0
  · by_cases y2 : z2 = 0
    · have HT : Hid (∀ W, Ext w W → Calls Try.prog 112 #[.agg (t1 ++ t2).toArray] W fun e W' => e = .returned (.int .i64 0) ∧ Ext W W') := hid_ (fun W hW => by have h := HT0.out W hW; rw [if_pos y1, y2] at h; exact h)
      clear HT0
      rw [if_pos y1, if_pos y2]
      clear y1 y2
      by_cases hn : 90000 < n
      · have hn' : decide ((90000 : Int) < (n : Int)) = true := by simp; omega
        rw [if_pos hn]
        go_enter Try.func80, Try.ntmps80
        go_wp2_with (first
          | (refine wpList_box_abs rfl 45 (.tmp 0) rfl fv rfl ?_; intro w1 g hb1 hx1 hg; have hf1 := HF.out _ _ hb1; have c0 := hf1.c0; have c1 := hf1.c1; have c2 := hf1.c2; have c101 := hf1.c101)
          | (go_at_call 28; (with_reducible refine (W1.out _).mono ?_); rintro e w2 ⟨rfl, rfl⟩)
          | (go_at_call 28; (with_reducible refine (W2.out _).mono ?_); rintro e w2 ⟨rfl, rfl⟩)
          | (go_at_call 28; (with_reducible refine (W3.out _).mono ?_); rintro e w2 ⟨rfl, rfl⟩)
          | (refine wpList_load_mid_g (by rfl) 24 (.tmp 28) rfl g 3 rfl (ints qs) _ hf1.q Try.underlying24 rfl (by rw [hql.out]; exact size48) ?_)
          | (go_at_call 33; (with_reducible refine (HQ.out _).mono ?_); rintro e w2 ⟨rfl, hx2⟩; have hb2 := hb1.ext hx2; have hf2 := HF.out _ _ hb2)
          | (refine wpList_load_mid rfl 43 (.tmp 33) rfl g 67 rfl (t1 ++ t2) _ hf2.tt Try.underlying43 rfl (by rw [hl3.out]; exact sizeTbls) ?_)
          | (go_at_call 112; (with_reducible refine (HT.out _ (hx1.trans hx2)).mono ?_); rintro e w3 ⟨rfl, hx3⟩; have c102 := (HF.out _ _ (hb2.ext hx3)).c102))
        go_ret
        exact ⟨rfl, (hx1.trans hx2).trans hx3⟩
      · have hn' : decide ((90000 : Int) < (n : Int)) = false := by simp; omega
        rw [if_neg hn]
        go_enter Try.func80, Try.ntmps80
        go_wp2_with (first
          | (refine wpList_box_abs rfl 45 (.tmp 0) rfl fv rfl ?_; intro w1 g hb1 hx1 hg; have hf1 := HF.out _ _ hb1; have c0 := hf1.c0; have c1 := hf1.c1; have c2 := hf1.c2; have c101 := hf1.c101)
          | (go_at_call 28; (with_reducible refine (W1.out _).mono ?_); rintro e w2 ⟨rfl, rfl⟩)
          | (go_at_call 28; (with_reducible refine (W2.out _).mono ?_); rintro e w2 ⟨rfl, rfl⟩)
          | (go_at_call 28; (with_reducible refine (W3.out _).mono ?_); rintro e w2 ⟨rfl, rfl⟩)
          | (refine wpList_load_mid_g (by rfl) 24 (.tmp 28) rfl g 3 rfl (ints qs) _ hf1.q Try.underlying24 rfl (by rw [hql.out]; exact size48) ?_)
          | (go_at_call 33; (with_reducible refine (HQ.out _).mono ?_); rintro e w2 ⟨rfl, hx2⟩; have hb2 := hb1.ext hx2; have hf2 := HF.out _ _ hb2)
          | (refine wpList_load_mid rfl 43 (.tmp 33) rfl g 67 rfl (t1 ++ t2) _ hf2.tt Try.underlying43 rfl (by rw [hl3.out]; exact sizeTbls) ?_)
          | (go_at_call 112; (with_reducible refine (HT.out _ (hx1.trans hx2)).mono ?_); rintro e w3 ⟨rfl, hx3⟩; have c102 := (HF.out _ _ (hb2.ext hx3)).c102))
        go_ret
        exact ⟨rfl, (hx1.trans hx2).trans hx3⟩
    · have HT : Hid (∀ W, Ext w W → Calls Try.prog 112 #[.agg (t1 ++ t2).toArray] W fun e W' => e = .returned (.int .i64 z2) ∧ Ext W W') := hid_ (fun W hW => by have h := HT0.out W hW; rw [if_pos y1] at h; exact h)
      clear HT0
      have hz1 : (z2 != 0) = true := by simpa using y2
      rw [if_pos y1, if_neg y2]
      clear y1 y2
      go_enter Try.func80, Try.ntmps80
      go_wp2_with (first
        | (refine wpList_box_abs rfl 45 (.tmp 0) rfl fv rfl ?_; intro w1 g hb1 hx1 hg; have hf1 := HF.out _ _ hb1; have c0 := hf1.c0; have c1 := hf1.c1; have c2 := hf1.c2; have c101 := hf1.c101)
        | (go_at_call 28; (with_reducible refine (W1.out _).mono ?_); rintro e w2 ⟨rfl, rfl⟩)
        | (go_at_call 28; (with_reducible refine (W2.out _).mono ?_); rintro e w2 ⟨rfl, rfl⟩)
        | (go_at_call 28; (with_reducible refine (W3.out _).mono ?_); rintro e w2 ⟨rfl, rfl⟩)
        | (refine wpList_load_mid_g (by rfl) 24 (.tmp 28) rfl g 3 rfl (ints qs) _ hf1.q Try.underlying24 rfl (by rw [hql.out]; exact size48) ?_)
        | (go_at_call 33; (with_reducible refine (HQ.out _).mono ?_); rintro e w2 ⟨rfl, hx2⟩; have hb2 := hb1.ext hx2; have hf2 := HF.out _ _ hb2)
        | (refine wpList_load_mid rfl 43 (.tmp 33) rfl g 67 rfl (t1 ++ t2) _ hf2.tt Try.underlying43 rfl (by rw [hl3.out]; exact sizeTbls) ?_)
        | (go_at_call 112; (with_reducible refine (HT.out _ (hx1.trans hx2)).mono ?_); rintro e w3 ⟨rfl, hx3⟩; have c102 := (HF.out _ _ (hb2.ext hx3)).c102))
      go_ret
      exact ⟨rfl, (hx1.trans hx2).trans hx3⟩
  · have HT : Hid (∀ W, Ext w W → Calls Try.prog 112 #[.agg (t1 ++ t2).toArray] W fun e W' => e = .returned (.int .i64 z1) ∧ Ext W W') := hid_ (fun W hW => by have h := HT0.out W hW; rw [if_neg y1] at h; exact h)
    clear HT0
    have hz1 : (z1 != 0) = true := by simpa using y1
    rw [if_neg y1]
    clear y1
    go_enter Try.func80, Try.ntmps80
    go_wp2_with (first
      | (refine wpList_box_abs rfl 45 (.tmp 0) rfl fv rfl ?_; intro w1 g hb1 hx1 hg; have hf1 := HF.out _ _ hb1; have c0 := hf1.c0; have c1 := hf1.c1; have c2 := hf1.c2; have c101 := hf1.c101)
      | (go_at_call 28; (with_reducible refine (W1.out _).mono ?_); rintro e w2 ⟨rfl, rfl⟩)
      | (go_at_call 28; (with_reducible refine (W2.out _).mono ?_); rintro e w2 ⟨rfl, rfl⟩)
      | (go_at_call 28; (with_reducible refine (W3.out _).mono ?_); rintro e w2 ⟨rfl, rfl⟩)
      | (refine wpList_load_mid_g (by rfl) 24 (.tmp 28) rfl g 3 rfl (ints qs) _ hf1.q Try.underlying24 rfl (by rw [hql.out]; exact size48) ?_)
      | (go_at_call 33; (with_reducible refine (HQ.out _).mono ?_); rintro e w2 ⟨rfl, hx2⟩; have hb2 := hb1.ext hx2; have hf2 := HF.out _ _ hb2)
      | (refine wpList_load_mid rfl 43 (.tmp 33) rfl g 67 rfl (t1 ++ t2) _ hf2.tt Try.underlying43 rfl (by rw [hl3.out]; exact sizeTbls) ?_)
      | (go_at_call 112; (with_reducible refine (HT.out _ (hx1.trans hx2)).mono ?_); rintro e w3 ⟨rfl, hx3⟩; have c102 := (HF.out _ _ (hb2.ext hx3)).c102))
    go_ret
    exact ⟨rfl, (hx1.trans hx2).trans hx3⟩
end Go.Proofs.Ytkfdkkhhkciocaa
/- The walk of the law FileChecks. -/
namespace Go.Proofs.Ytkfdkkhhkciocaa
set_option linter.unusedVariables false
set_option linter.unusedSimpArgs false
open Go.RowKit
theorem tblL_one (cs : List Int) (sl : Value) (h : ∃ A n c, sl = .slice A n c) : (tblL cs sl).toArray.all (·.oneCell') = true := by
  obtain ⟨A, n, c, rfl⟩ := h
  refine all_oneCell_toArray fun v hv => ?_
  unfold tblL at hv
  rcases List.mem_append.1 hv with hv | hv
  · obtain ⟨z, -, rfl⟩ := List.mem_map.1 hv
    rfl
  · rw [List.mem_singleton.1 hv]
    rfl
theorem argsOK_iff {wd hi pt ev : Int} (h : argsOK wd hi pt ev = true) : inB wd 1 64 = true ∧ inB hi 1 64 = true ∧ inB ev 0 100 = true ∧ (pt = 1 ∨ pt = 3) := by
  unfold argsOK at h
  simp only [Bool.and_eq_true, Bool.or_eq_true, beq_iff_eq] at h
  exact ⟨h.1.1.1, h.1.1.2, h.2, h.1.2⟩
theorem fcheck_any (wd hi pt ev : Int) (qs cs1 xs1 : List Int) (s1 : Value) (cs2 xs2 : List Int) (s2 : Value) (bs : List Nat) (sd : Value) (w : World) (hq : qs.length = 64) (h1 : cs1.length = 16) (h2 : cs2.length = 16)
    (hs1 : SL w 1 s1 xs1.length (ints xs1)) (hs2 : SL w 1 s2 xs2.length (ints xs2)) (hsd : SL w 1 sd bs.length (bytesV bs)) :
    Calls Try.prog 17 #[.agg (fileL wd hi pt qs (tblL cs1 s1) (tblL cs2 s2) ev sd).toArray] w fun e w' => e = .returned (.int .i64 (fcheckZ wd hi pt qs (checkZ cs1 xs1) (checkZ cs2 xs2) ev bs.length)) ∧ Ext w w' := by
  have o1 := tblL_one cs1 s1 (let ⟨A, c, h, _⟩ := hs1; ⟨A, _, c, h⟩)
  have o2 := tblL_one cs2 s2 (let ⟨A, c, h, _⟩ := hs2; ⟨A, _, c, h⟩)
  obtain ⟨A, c, rfl, -⟩ := hsd
  have l1 := tblL_len cs1 s1 h1
  have l2 := tblL_len cs2 s2 h2
  unfold fcheckZ
  cases ha : argsOK wd hi pt ev with
  | false => exact fcheck_no wd hi pt ev qs _ _ _ w hq l1 l2 ha
  | true =>
    obtain ⟨k1, k2, k3, hp⟩ := argsOK_iff ha
    cases kq : allIn qs 1 255 with
    | false =>
      rcases hp with rfl | rfl
      · exact fcheck_y1f wd hi ev qs _ _ A _ c 0 0 w hq l1 l2 k1 k2 k3 kq
      · exact fcheck_y3f wd hi ev qs _ _ A _ c 0 0 w hq l1 l2 k1 k2 k3 kq
    | true =>
      rcases hp with rfl | rfl
      · exact fcheck_y1t wd hi ev qs _ _ A _ c _ _ w hq l1 l2 k1 k2 k3 kq o1 o2 (fun W hW => check_any cs1 xs1 s1 W h1 (hs1.ext hW)) (fun W hW => check_any cs2 xs2 s2 W h2 (hs2.ext hW))
      · exact fcheck_y3t wd hi ev qs _ _ A _ c _ _ w hq l1 l2 k1 k2 k3 kq o1 o2 (fun W hW => check_any cs1 xs1 s1 W h1 (hs1.ext hW)) (fun W hW => check_any cs2 xs2 s2 W h2 (hs2.ext hW))
theorem rfcheck_any (wd hi pt ev : Int) (qs cs1 xs1 : List Int) (s1 : Value) (cs2 xs2 : List Int) (s2 : Value) (bs : List Nat) (sd : Value) (w : World) (hq : qs.length = 64) (h1 : cs1.length = 16) (h2 : cs2.length = 16)
    (hs1 : SL w 1 s1 xs1.length (ints xs1)) (hs2 : SL w 1 s2 xs2.length (ints xs2)) (hsd : SL w 1 sd bs.length (bytesV bs)) :
    Calls Try.prog 80 #[.agg (fileL wd hi pt qs (tblL cs1 s1) (tblL cs2 s2) ev sd).toArray] w fun e w' => e = .returned (.int .i64 (fcheckZ wd hi pt qs (checkZ cs1 xs1) (checkZ cs2 xs2) ev bs.length)) ∧ Ext w w' := by
  have o1 := tblL_one cs1 s1 (let ⟨A, c, h, _⟩ := hs1; ⟨A, _, c, h⟩)
  have o2 := tblL_one cs2 s2 (let ⟨A, c, h, _⟩ := hs2; ⟨A, _, c, h⟩)
  obtain ⟨A, c, rfl, -⟩ := hsd
  have l1 := tblL_len cs1 s1 h1
  have l2 := tblL_len cs2 s2 h2
  unfold fcheckZ
  cases ha : argsOK wd hi pt ev with
  | false => exact rfcheck_no wd hi pt ev qs _ _ _ w hq l1 l2 ha
  | true =>
    obtain ⟨k1, k2, k3, hp⟩ := argsOK_iff ha
    cases kq : allIn qs 1 255 with
    | false =>
      rcases hp with rfl | rfl
      · exact rfcheck_y1f wd hi ev qs _ _ A _ c 0 0 w hq l1 l2 k1 k2 k3 kq
      · exact rfcheck_y3f wd hi ev qs _ _ A _ c 0 0 w hq l1 l2 k1 k2 k3 kq
    | true =>
      rcases hp with rfl | rfl
      · exact rfcheck_y1t wd hi ev qs _ _ A _ c _ _ w hq l1 l2 k1 k2 k3 kq o1 o2 (fun W hW => rcheck_any cs1 xs1 s1 W h1 (hs1.ext hW)) (fun W hW => rcheck_any cs2 xs2 s2 W h2 (hs2.ext hW))
      · exact rfcheck_y3t wd hi ev qs _ _ A _ c _ _ w hq l1 l2 k1 k2 k3 kq o1 o2 (fun W hW => rcheck_any cs1 xs1 s1 W h1 (hs1.ext hW)) (fun W hW => rcheck_any cs2 xs2 s2 W h2 (hs2.ext hW))
theorem builtFile : ∃ fz, Try.prog.built 45 [] = some fz ∧ ∀ W, Calls Try.prog 17 #[.agg fz] W fun e W' => e = .returned (.int .i64 1) ∧ Ext W W' :=
  ⟨(fileL 0 0 0 (List.replicate 64 0) (tblL (List.replicate 16 0) (.slice none 0 0)) (tblL (List.replicate 16 0) (.slice none 0 0)) 0 (.slice none 0 0)).toArray, by kernel_rfl, fun W => fcheck_no 0 0 0 0 _ _ _ _ W rfl rfl rfl rfl⟩
theorem lx_build0 {P : Program} {md : Region.Mode} {ops : Array Oper} {R : World → World → Prop} {Q : Exit → Act → World → Prop} {rest : List Oper} {o : Oper} {k : Nat} {listed : Array Bool} {a : Act} {wc : World} (hw : Region.wanted o (yielded ops a.tmps) = true) (t : TypeId) (ho : o.op = .build t #[])
    (cs : Array Value) (hf : P.built t [] = some cs) (h : wpLx P md ops R Q rest (k + 1) (listed.setIfInBounds k true) (a.put o.dst (.agg cs)) wc) : wpLx P md ops R Q (o :: rest) k listed a wc := by
  refine lx_run hw (.agg cs) (fun w => ?_) h
  unfold execOp
  simp only [ho, Sem.run_bind, run_build w t (#[].map fun (i, x) => (i, a.eval x)) cs (by simpa using hf), Result.andThen_ok]
  rfl
end Go.Proofs.Ytkfdkkhhkciocaa
/- The zigzag order, in plain words. -/
namespace Go.Proofs.Ytkfdkkhhkciocaa
set_option linter.unusedVariables false
set_option linter.unusedSimpArgs false
def zstep (s : Int × Int × Bool) : Int × Int × Bool :=
  if s.2.2 then (if s.2.1 = 7 then (s.1 + 1, s.2.1, false) else if s.1 = 0 then (s.1, s.2.1 + 1, false) else (s.1 - 1, s.2.1 + 1, true))
  else (if s.1 = 7 then (s.1, s.2.1 + 1, true) else if s.2.1 = 0 then (s.1 + 1, s.2.1, true) else (s.1 + 1, s.2.1 - 1, false))
def zst : Nat → Int × Int × Bool
  | 0 => (0, 0, true)
  | k + 1 => zstep (zst k)
def zigAt (k : Nat) : Int := 8 * (zst k).1 + (zst k).2.1
def zigL : List Int := (List.range 64).map zigAt
theorem zst_bd (k : Nat) (h : k < 64) : 0 ≤ (zst k).1 ∧ (zst k).1 ≤ 7 ∧ 0 ≤ (zst k).2.1 ∧ (zst k).2.1 ≤ 7 :=
  (by decide +kernel : ∀ j : Fin 64, 0 ≤ (zst j.val).1 ∧ (zst j.val).1 ≤ 7 ∧ 0 ≤ (zst j.val).2.1 ∧ (zst j.val).2.1 ≤ 7) ⟨k, h⟩
theorem zigL_len : zigL.length = 64 := by simp [zigL]
theorem zigL_take_succ (k : Nat) (h : k < 64) : zigL.take (k + 1) = zigL.take k ++ [zigAt k] := by
  rw [List.take_succ_eq_append_getElem (by rw [zigL_len]; exact h)]
  simp [zigL]
theorem zigL_get (k : Nat) (h : k < zigL.length) : zigL[k] = zigAt k := by simp [zigL]
theorem zigAt_bd (k : Nat) (h : k < 64) : 0 ≤ zigAt k ∧ zigAt k < 64 := by
  have := zst_bd k h
  unfold zigAt
  omega
/-- the reference's row k of a slant -/
def zrow (s k : Nat) : List Int := (List.range k).filterMap fun (j : Nat) =>
  let r : Int := if s % 2 = 0 then 7 - (j : Int) else (j : Int)
  if 0 ≤ (s : Int) - r ∧ (s : Int) - r ≤ 7 then some (8 * r + (s - r)) else none
theorem zrow_succ (s k : Nat) : zrow s (k + 1) = zrow s k ++ (if 0 ≤ (s : Int) - (if s % 2 = 0 then 7 - (k : Int) else k) ∧ (s : Int) - (if s % 2 = 0 then 7 - (k : Int) else k) ≤ 7 then [8 * (if s % 2 = 0 then 7 - (k : Int) else k) + (s - (if s % 2 = 0 then 7 - (k : Int) else k))] else []) := by
  unfold zrow
  rw [List.range_succ, List.filterMap_append]
  congr 1
  simp only [List.filterMap_cons, List.filterMap_nil]
  by_cases h : 0 ≤ (s : Int) - (if s % 2 = 0 then 7 - (k : Int) else k) ∧ (s : Int) - (if s % 2 = 0 then 7 - (k : Int) else k) ≤ 7
  · rw [if_pos h, if_pos h]
  · rw [if_neg h, if_neg h]
def zall (s : Nat) : List Int := (List.range s).flatMap fun s => zrow s 8
theorem zall_succ (s : Nat) : zall (s + 1) = zall s ++ zrow s 8 := by
  unfold zall
  rw [List.range_succ, List.flatMap_append]
  simp
theorem zall_15 : zall 15 = zigL := by decide +kernel
theorem zlen (s k : Nat) (hs : s ≤ 15) (hk : k ≤ 8) : (zall s ++ zrow s k).length ≤ 200 :=
  (by decide +kernel : ∀ (s : Fin 16) (k : Fin 9), (zall s.val ++ zrow s.val k.val).length ≤ 200) ⟨s, by omega⟩ ⟨k, by omega⟩
/-- the places, back: number i at place zigAt i -/
def zfrom (zs : List Int) (k : Nat) : List Int := (List.range k).foldl (fun l i => l.set (zigAt i).toNat (zs.getD i 0)) (List.replicate 64 0)
theorem zfrom_succ (zs : List Int) (k : Nat) : zfrom zs (k + 1) = (zfrom zs k).set (zigAt k).toNat (zs.getD k 0) := by
  unfold zfrom
  rw [List.range_succ, List.foldl_append]
  rfl
theorem zfrom_len (zs : List Int) (k : Nat) : (zfrom zs k).length = 64 := by
  induction k with
  | zero => simp [zfrom]
  | succ k ih => rw [zfrom_succ]; simpa using ih
/-- the numbers in zigzag order -/
def zto (zs : List Int) : List Int := (List.range 64).map fun i => zs.getD (zigAt i).toNat 0
theorem zto_len (zs : List Int) : (zto zs).length = 64 := by simp [zto]
theorem zto_set (zs : List Int) (k : Nat) (h : k < 64) : ((zto zs).take k ++ List.replicate (64 - k) 0).set k (zs.getD (zigAt k).toNat 0) = (zto zs).take (k + 1) ++ List.replicate (64 - (k + 1)) 0 := by
  have hl : ((zto zs).take k).length = k := by rw [List.length_take, zto_len]; omega
  rw [List.set_append_right _ _ (by omega), hl, Nat.sub_self, List.take_succ_eq_append_getElem (by rw [zto_len]; exact h)]
  obtain ⟨m, hm⟩ : ∃ m, 64 - k = m + 1 := ⟨64 - k - 1, by omega⟩
  have hm2 : 64 - (k + 1) = m := by omega
  rw [hm, hm2, List.replicate_succ, List.set_cons_zero]
  simp [zto]
end Go.Proofs.Ytkfdkkhhkciocaa
