/- The law PlaneJoins, walked. -/
import Derived.Test.YtlepchdlkhogiaaRefJoin
import Derived.Test.YtlepchdlkhogiaaOpenMulti
namespace Go.Proofs.Ytlepchdlkhogiaa.planeJoins
set_option linter.unusedVariables false
set_option linter.unusedSimpArgs false
open Go.RowKit
theorem join_any (n : Nat) (Z : List Int) (v : Value) (wd hi : Int) (w : World) (hv : SL w 64 v n (ints Z)) (hz : Z.length = n * 64) : Calls Try.prog 14 #[v, .int .i64 wd, .int .i64 hi] w (JoinIs n Z wd hi w) := by
  by_cases h : sidesZ wd hi = 0
  · obtain ⟨a, b, rfl, rfl, h1, h2, h3, h4⟩ := sides_ok h
    by_cases hn : n = cutN a b
    · exact join_in n Z v a b w hv hz h h1 h2 h3 h4 hn
    · exact (join_many n Z v a b w hv hz h h1 h2 h3 h4 hn).mono fun e w' hh => join_err (by unfold joinE; rw [h, if_pos rfl]; simp only [Int.toNat_natCast]; rw [if_neg hn]) (by decide) hh.1 hh.2
  · exact (join_sides n Z v wd hi w hv hz h).mono fun e w' hh => join_err (by unfold joinE; rw [if_neg h]) (by decide) hh.1 hh.2
theorem rjoin_any (n : Nat) (Z : List Int) (v : Value) (wd hi : Int) (w : World) (hv : SL w 64 v n (ints Z)) (hz : Z.length = n * 64) : Calls Try.prog 15 #[v, .int .i64 wd, .int .i64 hi] w (JoinIs n Z wd hi w) := by
  by_cases h : sidesZ wd hi = 0
  · obtain ⟨a, b, rfl, rfl, h1, h2, h3, h4⟩ := sides_ok h
    by_cases hn : n = cutN a b
    · exact rjoin_in n Z v a b w hv hz h h1 h2 h3 h4 hn
    · exact (rjoin_many n Z v a b w hv h h2 h4 hn).mono fun e w' hh => join_err (by unfold joinE; rw [h, if_pos rfl]; simp only [Int.toNat_natCast]; rw [if_neg hn]) (by decide) hh.1 hh.2
  · exact (rjoin_sides n Z v wd hi w hv h).mono fun e w' hh => join_err (by unfold joinE; rw [if_neg h]) (by decide) hh.1 hh.2
set_option maxRecDepth 20000 in
set_option maxHeartbeats 1000000 in
theorem walk (v : Value) (Z : List Int) (hzz : Z.length = Z.length / 64 * 64 ∧ ∀ z ∈ Z, inI64 z) (wd : Int) (_ : (Lit.int .i64 wd).wf = true) (hi : Int) (_ : (Lit.int .i64 hi).wf = true) (w : World) (hv : SL w 64 v (Z.length / 64) (ints Z)) :
    Calls Try.prog 4 #[v, .int .i64 wd, .int .i64 hi] w fun e w' => e = .returned (.bool true) ∧ Ext w w' := by
  obtain ⟨hz, -⟩ := hzz
  generalize Z.length / 64 = n at *
  have H1 := hid_ (fun W (h : SL W 64 v n (ints Z)) => join_any n Z v wd hi W h hz)
  have H2 := hid_ (fun W (h : SL W 64 v n (ints Z)) => rjoin_any n Z v wd hi W h hz)
  have H3 := hid_ (fun W => Many_any 0 1 W)
  have H4 := hid_ (fun W => Many_any wd hi W)
  have H5 := hid_ (fun W => sidesCheck_any wd hi W)
  have e01 : manyZ 0 1 = 0 := by decide
  have e02 : sidesZ 0 1 = 1 := by decide
  rw [e01, e02] at H3
  clear e01 e02
  unfold JoinIs at H1 H2
  have HL : Hid ((if joinE n Z wd hi (sidesZ wd hi) = 0 then joinZ Z wd.toNat hi.toNat else []).length = (if joinE n Z wd hi (sidesZ wd hi) = 0 then wd.toNat * hi.toNat else 0)) := hid_ (by split; exact joinZ_len _ _ _; rfl)
  generalize (if joinE n Z wd hi (sidesZ wd hi) = 0 then joinZ Z wd.toNat hi.toNat else []) = L at *
  generalize (if joinE n Z wd hi (sidesZ wd hi) = 0 then wd.toNat * hi.toNat else 0) = N at *
  generalize joinE n Z wd hi (sidesZ wd hi) = E at *
  have HE := hid_ (fun W u v (a : SL W 1 u N (ints L)) (b : SL W 1 v N (ints L)) => eqInt_any u v L L W (by rw [HL.out]; exact a) (by rw [HL.out]; exact b))
  simp only [decide_true] at HE
  clear hz HL
  by_cases hs : sidesZ wd hi = 0
  · obtain ⟨a, b, rfl, rfl, h1, h2, h3, h4⟩ := sides_ok hs
    have hmz : manyZ a b = (((a + 7) / 8 * ((b + 7) / 8) : Nat) : Int) := by unfold manyZ; rw [if_pos hs]; simp
    rw [hs, hmz] at H4
    rw [hs] at H5
    clear hs hmz
    have hm : (a + 7) / 8 * ((b + 7) / 8) ≤ 8 * 8 := Nat.mul_le_mul (by omega) (by omega)
    have HM : Hid (∀ W, Calls Try.prog 12 #[.int .i64 (a : Int), .int .i64 (b : Int)] W fun e w' => e = .returned (.tuple #[.int .i64 ((((a + 7) / 8) * ((b + 7) / 8) : Nat) : Int), .int .i64 0]) ∧ Ext W w') := H4
    go_enter Try.func4, Try.ntmps4
    go_wp2_with (first
      | (go_at_call 14; (with_reducible refine (H1.out _ hv).mono ?_); rintro e w2 ⟨A, m, c, rfl, rfl, hs2, hx2⟩)
      | (go_at_call 15; (with_reducible refine (H2.out _ (hv.ext hx2)).mono ?_); rintro e w3 ⟨B, m, d, rfl, rfl, hs3, hx3⟩)
      | (go_at_call 12; (with_reducible refine (HM.out _).mono ?_); rintro e w4 ⟨rfl, hx4⟩)
      | (go_at_call 16; (with_reducible refine (H5.out _).mono ?_); rintro e w5 ⟨rfl, rfl⟩)
      | (refine wl_run rfl (.int .i64 ((a + 7 : Nat) : Int)) (ex_addN (i := a) (d := 7) rfl rfl rfl (by omega)) ?_)
      | (refine wl_run rfl (.int .i64 (((a + 7) / 8 : Nat) : Int)) (ex_quoN (i := a + 7) (d := 8) rfl rfl rfl (by omega) (by omega)) ?_)
      | (refine wl_run rfl (.int .i64 ((b + 7 : Nat) : Int)) (ex_addN (i := b) (d := 7) rfl rfl rfl (by omega)) ?_)
      | (refine wl_run rfl (.int .i64 (((b + 7) / 8 : Nat) : Int)) (ex_quoN (i := b + 7) (d := 8) rfl rfl rfl (by omega) (by omega)) ?_)
      | (refine wl_run rfl (.int .i64 ((((a + 7) / 8) * ((b + 7) / 8) : Nat) : Int)) (ex_mulN (i := (a + 7) / 8) (d := (b + 7) / 8) rfl rfl rfl (by omega)) ?_)
      | (go_at_call 12; (with_reducible refine (H3.out _).mono ?_); rintro e w6 ⟨rfl, hx6⟩; have hs24 := ((hs2.ext hx3).ext hx4).ext hx6; have hs34 := (hs3.ext hx4).ext hx6)
      | (go_at_call 17; (with_reducible refine (HE.out _ _ _ hs24 hs34).mono ?_); rintro e w7 ⟨rfl, rfl⟩))
    go_ret
    exact ⟨rfl, ((hx2.trans hx3).trans hx4).trans hx6⟩
  · have hmz : manyZ wd hi = 0 := by unfold manyZ; rw [if_neg hs]
    have hs1 := sides_no hs
    rw [hs1, hmz] at H4
    rw [hs1] at H5
    clear hs hs1 hmz
    go_enter Try.func4, Try.ntmps4
    go_wp2_with (first
      | (go_at_call 14; (with_reducible refine (H1.out _ hv).mono ?_); rintro e w2 ⟨A, m, c, rfl, rfl, hs2, hx2⟩)
      | (go_at_call 15; (with_reducible refine (H2.out _ (hv.ext hx2)).mono ?_); rintro e w3 ⟨B, m, d, rfl, rfl, hs3, hx3⟩)
      | (go_at_call 12; (with_reducible refine (H4.out _).mono ?_); rintro e w4 ⟨rfl, hx4⟩)
      | (go_at_call 16; (with_reducible refine (H5.out _).mono ?_); rintro e w5 ⟨rfl, rfl⟩)
      | (go_at_call 12; (with_reducible refine (H3.out _).mono ?_); rintro e w6 ⟨rfl, hx6⟩; have hs24 := ((hs2.ext hx3).ext hx4).ext hx6; have hs34 := (hs3.ext hx4).ext hx6)
      | (go_at_call 17; (with_reducible refine (HE.out _ _ _ hs24 hs34).mono ?_); rintro e w7 ⟨rfl, rfl⟩))
    go_ret
    exact ⟨rfl, ((hx2.trans hx3).trans hx4).trans hx6⟩
end Go.Proofs.Ytlepchdlkhogiaa.planeJoins
