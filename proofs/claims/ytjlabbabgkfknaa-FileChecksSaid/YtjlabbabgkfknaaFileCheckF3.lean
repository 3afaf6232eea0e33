/- file.Check: arguments within their bounds. -/
import Derived.Test.YtjlabbabgkfknaaFileWithin
import Derived.Test.YtjlabbabgkfknaaCheck
import Derived.Test.YtjlabbabgkfknaaAllWithin
namespace Go.Proofs.Ytjlabbabgkfknaa
set_option linter.unusedVariables false
set_option linter.unusedSimpArgs false
open Go.RowKit
set_option maxRecDepth 20000 in
set_option maxHeartbeats 4000000 in
theorem fcheck_y3f (wd hi ev : Int) (qs : List Int) (t1 t2 : List Value) (A : Option Addr) (n c : Nat) (z1 z2 : Int) (w : World) (hq : qs.length = 64) (h1 : t1.length = 17) (h2 : t2.length = 17)
    (k1 : inB wd 1 64 = true) (k2 : inB hi 1 64 = true) (k3 : inB ev 0 100 = true) (kq : allIn qs 1 255 = false) :
    Calls Try.prog 17 #[.agg (fileL wd hi 3 qs t1 t2 ev (.slice A n c)).toArray] w fun e w' => e = .returned (.int .i64 (1)) ∧ Ext w w' := by
  have HF := hid_ (fun W g (hb : Blk W g 50 (fileL wd hi 3 qs t1 t2 ev (.slice A n c)).toArray) => fileB hb hq h1 h2)
  have W1 := hid_ (fun W => fwithin_any wd 1 64 W)
  have W2 := hid_ (fun W => fwithin_any hi 1 64 W)
  have W3 := hid_ (fun W => fwithin_any ev 0 100 W)
  have HQ : Hid (∀ W, Calls Try.prog 31 #[.agg (ints qs).toArray] W fun e w' => e = .returned (.int .i64 1) ∧ Ext W w') := hid_ (fun W => by have h := qcheck_any qs W hq; rw [kq] at h; exact h)
  clear kq
  have hql := hid_ ((ints_len qs).trans hq)
  have hl1 := hid_ h1
  have hl2 := hid_ h2
  clear hq h1 h2
  generalize (fileL wd hi 3 qs t1 t2 ev (.slice A n c)).toArray = fv at *
  generalize inB wd 1 64 = b1 at *
  generalize inB hi 1 64 = b2 at *
  generalize inB ev 0 100 = b3 at *
  subst k1 k2 k3
  go_enter Try.func17, Try.ntmps17
  go_wp2_with (first
    | (refine wpList_box_abs rfl 50 (.tmp 0) rfl fv rfl ?_; intro w1 g hb1 hx1 hg; have hf1 := HF.out _ _ hb1; have c0 := hf1.c0; have c1 := hf1.c1; have c2 := hf1.c2; have c101 := hf1.c101)
    | (go_at_call 30; (with_reducible refine (W1.out _).mono ?_); rintro e w2 ⟨rfl, rfl⟩)
    | (go_at_call 30; (with_reducible refine (W2.out _).mono ?_); rintro e w2 ⟨rfl, rfl⟩)
    | (go_at_call 30; (with_reducible refine (W3.out _).mono ?_); rintro e w2 ⟨rfl, rfl⟩)
    | (refine wpList_load_mid rfl 31 (.tmp 33) rfl g 3 rfl (ints qs) _ hf1.q Try.underlying31 rfl (by rw [hql.out]; exact size48) ?_)
    | (go_at_call 31; (with_reducible refine (HQ.out _).mono ?_); rintro e w2 ⟨rfl, hx2⟩; have hb2 := hb1.ext hx2; have hf2 := HF.out _ _ hb2))
  go_ret
  exact ⟨rfl, hx1.trans hx2⟩
end Go.Proofs.Ytjlabbabgkfknaa
