/- Contracts for the law RescueDecodesCard, part 28: what the functions that it reaches answer, for all arguments that the theorems name. -/
import Derived.Test.YtkggcjdlpendfaaGreatDoorMRescueDecodesCard27
import Derived.Test.YtkggcjdlpendfaaGreatDoorMRescueDecodesCard22
import Derived.Test.YtkggcjdlpendfaaGreatDoorMRescueDecodesCard13
import Derived.Test.YtkggcjdlpendfaaGreatDoorMRescueDecodesCard14
import Derived.Test.YtkggcjdlpendfaaGreatDoorMRescueDecodesCard12
import Derived.Test.YtkggcjdlpendfaaGreatDoorMRescueDecodesCard16
import Derived.Deep.Cut
namespace Go.Proofs.YtkggcjdlpendfaaGreatDoor
set_option linter.unusedVariables false
set_option linter.unusedSimpArgs false
open Go.RowKit
theorem seg_goodD (cs1 xs1 cs2 xs2 : List Int) (s1 s2 : Value) (l1 : cs1.length = 16) (l2 : cs2.length = 16) (z1 : checkZ cs1 xs1 = 0) (z2 : checkZ cs2 xs2 = 0) (m0 : Int) (w : World) (hm : w.cell? ⟨0, 0, none⟩ = some (.int .i64 m0))
 (hs1 : SL w 1 s1 xs1.length (ints xs1)) (hs2 : SL w 1 s2 xs2.length (ints xs2)) :
 (∀ W A n c bs nn, Ext w W → SL W 1 (.slice A n c) n (bytesV bs) → (A = none → c = 0) → (∀ b ∈ bs, b < 256) → n ≤ 1048576 → Calls Tryz.prog 110 #[.agg (tblL cs1 s1 ++ tblL cs2 s2).toArray, .slice A n c, .int .i64 nn] W (DecIs (decR true (zipC (codesW cs1 16) xs1) (zipC (codesW cs2 16) xs2) nn (plZ bs)) W)) ∧
 (∀ W A n c bs nn, Ext w W → SL W 1 (.slice A n c) n (bytesV bs) → (∀ b ∈ bs, b < 256) → n ≤ 1048576 → Calls Tryz.prog 117 #[.agg (tblL cs1 s1 ++ tblL cs2 s2).toArray, .slice A n c, .int .i64 nn] W (DecIs (decR true (zipC (codesW cs1 16) xs1) (zipC (codesW cs2 16) xs2) nn (plZ bs)) W)) := by
 have h1 := tblL_len cs1 s1 l1
 have h2 := tblL_len cs2 s2 l2
 have o1 := tblL_oneS cs1 s1 hs1
 have o2 := tblL_oneS cs2 s2 hs2
 have C1 : ∀ W, Ext w W → Calls Tryz.prog 102 #[.agg (tblL cs1 s1).toArray] W fun e W' => e = .returned (.int .i64 (checkZ cs1 xs1)) ∧ Ext W W' := fun W h => check_any cs1 xs1 s1 W l1 (hs1.ext h)
 have C2 : ∀ W, Ext w W → Calls Tryz.prog 102 #[.agg (tblL cs2 s2).toArray] W fun e W' => e = .returned (.int .i64 (checkZ cs2 xs2)) ∧ Ext W W' := fun W h => check_any cs2 xs2 s2 W l2 (hs2.ext h)
 rw [z1] at C1
 rw [z2] at C2
 refine ⟨fun W A n c bs nn h hs hA hlt hn => ?_, fun W A n c bs nn h hs hlt hn => ?_⟩
 ·exact segDec_good _ _ (tblL cs1 s1) (tblL cs2 s2) A n c bs nn m0 W hs hA hlt hn (cell_keep hm h) h1 h2
   (fun D b p hp => by cases b; exact getGo_symZ cs2 xs2 l2 z2 D p hp; exact getGo_symZ cs1 xs1 l1 z1 D p hp) (tbl_rng z1) (tbl_rng z2) o1 o2 (fun W' h' => C1 W' (h.trans h')) (fun W' h' => C2 W' (h.trans h'))
   (fun W' h' => newCoder_any cs1 xs1 s1 W' l1 ((hs1.ext h).ext h') z1) (fun W' h' => newCoder_any cs2 xs2 s2 W' l2 ((hs2.ext h).ext h') z2)
 ·rw [decR_same]
  exact rsegDec_good cs1 xs1 cs2 xs2 s1 s2 A n c bs nn W hs hlt hn l1 l2 (hs1.ext h) (hs2.ext h) z1 z2 (tbl_rng z1) (tbl_rng z2)
theorem pieces_both (cs1 xs1 cs2 xs2 : List Int) (s1 s2 : Value) (l1 : cs1.length = 16) (l2 : cs2.length = 16) (A : Option Addr) (n c : Nat) (bs : List Nat) (nn ev : Int) (hlt : ∀ b ∈ bs, b < 256) (hn : n ≤ 1048576) (w : World)
 (hs1 : SL w 1 s1 xs1.length (ints xs1)) (hs2 : SL w 1 s2 xs2.length (ints xs2)) (hs : SL w 1 (.slice A n c) n (bytesV bs)) :
 (∃ z : Int, z ≠ 0 ∧ (∀ W, Ext w W → Calls Tryz.prog 109 #[.agg (tblL cs1 s1 ++ tblL cs2 s2).toArray, .slice A n c, .int .i64 nn, .int .i64 ev] W (PcErr z W)) ∧ (∀ W, Ext w W → Calls Tryz.prog 116 #[.agg (tblL cs1 s1 ++ tblL cs2 s2).toArray, .slice A n c, .int .i64 nn, .int .i64 ev] W (PcErr z W))) ∨
 (∃ (N E : Nat) (P : List (List Nat)) (M : List Nat), nn = (N : Int) ∧ ev = (E : Int) ∧ N ≤ 400 ∧ E ≤ 100 ∧ checkZ cs1 xs1 = 0 ∧ checkZ cs2 xs2 = 0 ∧ P.length ≤ 100000000 ∧ M.length ≤ 100000000 ∧ (∀ p ∈ P, p.length ≤ 1048576 ∧ ∀ b ∈ p, b < 256) ∧ spGo bs [] [] [] = some (P, M) ∧
   (∀ W, Ext w W → Calls Tryz.prog 109 #[.agg (tblL cs1 s1 ++ tblL cs2 s2).toArray, .slice A n c, .int .i64 nn, .int .i64 ev] W (SpIsN (some (P, M)) W)) ∧ (∀ W, Ext w W → Calls Tryz.prog 116 #[.agg (tblL cs1 s1 ++ tblL cs2 s2).toArray, .slice A n c, .int .i64 nn, .int .i64 ev] W (SpIs (some (P, M)) W))) := by
 have hbl : bs.length = n := by
  obtain ⟨_, _, e, _, _, hl, _⟩ := hs
  simpa [bytesV] using hl
 have hs' : SL w 1 (.slice A n c) bs.length (bytesV bs) := by rw [hbl]; exact hs
 have hb : bs.length ≤ 1048576 := by omega
 by_cases hr : ev < 0 ∨ 100 < ev ∨ nn < 0 ∨ 400 < nn
 ·exact .inl ⟨1, by decide, fun W _ => pieces_range _ _ nn ev W hr, fun W _ => rpieces_range _ _ nn ev W hr⟩
 have he : 0 ≤ ev ∧ ev ≤ 100 := by omega
 have hnn : 0 ≤ nn ∧ nn ≤ 400 := by omega
 have h1 := tblL_len cs1 s1 l1
 have h2 := tblL_len cs2 s2 l2
 have hsz := tblsWhole h1 h2
 have o1 := tblL_oneS cs1 s1 hs1
 have o2 := tblL_oneS cs2 s2 hs2
 have C1 : ∀ W, Ext w W → Calls Tryz.prog 102 #[.agg (tblL cs1 s1).toArray] W fun e W' => e = .returned (.int .i64 (checkZ cs1 xs1)) ∧ Ext W W' := fun W h => check_any cs1 xs1 s1 W l1 (hs1.ext h)
 have C2 : ∀ W, Ext w W → Calls Tryz.prog 102 #[.agg (tblL cs2 s2).toArray] W fun e W' => e = .returned (.int .i64 (checkZ cs2 xs2)) ∧ Ext W W' := fun W h => check_any cs2 xs2 s2 W l2 (hs2.ext h)
 have D1 : ∀ W, Ext w W → Calls Tryz.prog 73 #[.agg (tblL cs1 s1).toArray] W fun e W' => e = .returned (.int .i64 (checkZ cs1 xs1)) ∧ Ext W W' := fun W h => rcheck_any cs1 xs1 s1 W l1 (hs1.ext h)
 have D2 : ∀ W, Ext w W → Calls Tryz.prog 73 #[.agg (tblL cs2 s2).toArray] W fun e W' => e = .returned (.int .i64 (checkZ cs2 xs2)) ∧ Ext W W' := fun W h => rcheck_any cs2 xs2 s2 W l2 (hs2.ext h)
 have CT : ∀ W, Ext w W → Calls Tryz.prog 76 #[.agg (tblL cs1 s1 ++ tblL cs2 s2).toArray] W fun e W' => e = .returned (.int .i64 (if checkZ cs1 xs1 = 0 then checkZ cs2 xs2 else checkZ cs1 xs1)) ∧ Ext W W' := fun W h => tablesCheck_any (tblL cs1 s1) (tblL cs2 s2) _ _ W h1 h2 (fun W' h' => D1 W' (h.trans h')) (fun W' h' => D2 W' (h.trans h'))
 by_cases hE : (if checkZ cs1 xs1 = 0 then checkZ cs2 xs2 else checkZ cs1 xs1) = 0
 ·have z1 : checkZ cs1 xs1 = 0 := by
   by_cases h : checkZ cs1 xs1 = 0
   ·exact h
   ·rw [if_neg h] at hE; exact hE
  have z2 : checkZ cs2 xs2 = 0 := by rw [if_pos z1] at hE; exact hE
  rw [hE] at CT
  rw [z1] at C1
  rw [z2] at C2
  have K1 : ∀ W, Ext w W → Calls Tryz.prog 109 #[.agg (tblL cs1 s1 ++ tblL cs2 s2).toArray, .slice A n c, .int .i64 nn, .int .i64 ev] W (SpIsN (spGo bs [] [] []) W) :=
   fun W h => pieces_good _ _ _ bs nn ev W he hnn (hs'.ext h) hlt hb h1 h2 o1 o2 (fun W' h' => C1 W' (h.trans h')) (fun W' h' => C2 W' (h.trans h'))
  have K2 : ∀ W, Ext w W → Calls Tryz.prog 116 #[.agg (tblL cs1 s1 ++ tblL cs2 s2).toArray, .slice A n c, .int .i64 nn, .int .i64 ev] W (SpIs (spGo bs [] [] []) W) :=
   fun W h => rpieces_good _ hsz _ bs nn ev W he hnn (hs'.ext h) hlt hb (fun W' h' => CT W' (h.trans h'))
  cases hsp : spGo bs [] [] [] with
  | none =>
    rw [hsp] at K1 K2
    exact .inl ⟨4, by decide, K1, K2⟩
  | some z =>
    obtain ⟨P, M⟩ := z
    rw [hsp] at K1 K2
    have hl := sp_len bs [] [] [] _ hsp
    simp only [List.length_nil] at hl
    obtain ⟨N, hN⟩ : ∃ N : Nat, nn = (N : Int) := ⟨nn.toNat, by omega⟩
    obtain ⟨E, hE2⟩ : ∃ E : Nat, ev = (E : Int) := ⟨ev.toNat, by omega⟩
    exact .inr ⟨N, E, P, M, hN, hE2, by omega, by omega, z1, z2, by omega, by omega, sp_mem bs [] [] [] _ hsp (fun _ h => by cases h) (by simpa using hb) (fun _ h => by cases h) hlt, rfl, K1, K2⟩
 ·exact .inl ⟨_, hE, fun W h => pieces_bad _ _ _ _ _ nn ev W he hnn h1 h2 o1 o2 (fun W' h' => C1 W' (h.trans h')) (fun W' h' => C2 W' (h.trans h')) hE, fun W h => rpieces_bad _ hsz _ hE _ nn ev W he hnn (fun W' h' => CT W' (h.trans h'))⟩
theorem mendBothD (cs1 xs1 cs2 xs2 : List Int) (s1 s2 : Value) (l1 : cs1.length = 16) (l2 : cs2.length = 16) (A : Option Addr) (n c : Nat) (bs : List Nat) (nn ev : Int) (hlt : ∀ b ∈ bs, b < 256) (hn : n ≤ 1048576) (m0 : Int) (w : World) (hm : w.cell? ⟨0, 0, none⟩ = some (.int .i64 m0))
 (hs1 : SL w 1 s1 xs1.length (ints xs1)) (hs2 : SL w 1 s2 xs2.length (ints xs2)) (hs : SL w 1 (.slice A n c) n (bytesV bs)) :
 ∃ r : Int × List Int × List Int, (r.1 = 0 → r.2.1.length = nn.toNat * 64 ∧ 0 ≤ nn) ∧ (∀ W, Ext w W → Calls Tryz.prog 55 #[.agg (tblL cs1 s1 ++ tblL cs2 s2).toArray, .slice A n c, .int .i64 nn, .int .i64 ev] W (MendIs r W)) ∧ (∀ W, Ext w W → Calls Tryz.prog 59 #[.agg (tblL cs1 s1 ++ tblL cs2 s2).toArray, .slice A n c, .int .i64 nn, .int .i64 ev] W (MendIs r W)) := by
 have hsz := tblsWhole (tblL_len cs1 s1 l1) (tblL_len cs2 s2 l2)
 rcases pieces_both cs1 xs1 cs2 xs2 s1 s2 l1 l2 A n c bs nn ev hlt hn w hs1 hs2 hs with ⟨z, hz, K1, K2⟩ | ⟨N, E, P, M, rfl, rfl, hN, hE, z1, z2, hP, hM, hPM, hsp, K1, K2⟩
 ·exact ⟨(z, [], []), fun h => absurd h hz, fun W h => scanMend_err _ hsz _ _ _ z hz W (fun W' h' => K1 W' (h.trans h')), fun W h => rscanMend_err _ hsz _ _ _ z hz W (fun W' h' => K2 W' (h.trans h'))⟩
 ·obtain ⟨S1, S2⟩ := seg_goodD cs1 xs1 cs2 xs2 s1 s2 l1 l2 z1 z2 m0 w hm hs1 hs2
  refine ⟨_, fun _ => ?_, fun W h => scanMend_good _ _ _ hsz _ N E hN hE P M hPM W (fun W' h' => K1 W' (h.trans h')) (fun W' A' m c' bs' nn' h' q1 q2 q3 q4 => S1 W' A' m c' bs' nn' (h.trans h') q1 q2 q3 q4), fun W h => rscanMend_good _ _ _ hsz _ N E hN hE P M hPM W (fun W' h' => K2 W' (h.trans h')) (fun W' A' m c' bs' nn' h' q1 q3 q4 => S2 W' A' m c' bs' nn' (h.trans h') q1 q3 q4)⟩
  refine ⟨?_, by omega⟩
  rw [Int.toNat_natCast]
  show (mendL _ _ N E P (cutK N E)).1.length = _
  rw [mendL_len _ (Nat.le_refl _), atK_end]
def RcIs (E wd hi : Int) (L : List (List Int)) (Y : List Int) (w : World) (e : Ending) (w' : World) : Prop := ∃ B k d C j c, e = .returned (.tuple #[.agg (picV wd hi (.slice B k d)), .slice C j c, .int .i64 E]) ∧ RowsS w' B k d L ∧ SL w' 1 (.slice C j c) j (ints Y) ∧ Y.length = j ∧ Ext w w'
theorem rows_far {S : Nat → Prop} {w w' : World} {B n c : Nat} {A : Option Addr} {L : List (List Int)} (h : RowsF w B A n c L) (hu : Upd S w w') (hS : ∀ x, S x → x < B) : RowsS w' A n c L := (h.upd hu hS).rows
theorem goesMany : Goes Tryz.prog 60 := ⟨_, Tryz.func60, rfl, rfl⟩
theorem goesSizes : Goes Tryz.prog 56 := ⟨_, Tryz.func56, rfl, rfl⟩
theorem goesScanMend : Goes Tryz.prog 55 := ⟨_, Tryz.func55, rfl, rfl⟩
theorem goesRScanMend : Goes Tryz.prog 59 := ⟨_, Tryz.func59, rfl, rfl⟩
set_option maxHeartbeats 1000000 in
theorem sizes_any (F : FC) (hF : F.shaped) (s1 s2 sd : Value) (a b p nb m : Nat) (hw : F.wd = a) (hh : F.hi = b) (hp : F.pt = p) (a1 : 1 ≤ a) (a2 : a ≤ 64) (b1 : 1 ≤ b) (b2 : b ≤ 64) (hp13 : p = 1 ∨ p = 3) (hnb : cutN a b = nb) (hm : nb * p = m) (w : World) :
 Calls Tryz.prog 56 #[.agg (F.cells s1 s2 sd)] w fun e w' => e = .returned (.int .i64 (m : Int)) ∧ Ext w w' := by
 have HF := hid_ (fun W g (h : Blk W g 47 (F.cells s1 s2 sd)) => fileB h hF.1 (tblL_len _ _ hF.2.1) (tblL_len _ _ hF.2.2))
 rw [hw, hh, hp] at HF
 have hs0 := sides_in a1 a2 b1 b2
 have HM : Hid (∀ W, Calls Tryz.prog 65 #[.int .i64 (a : Int), .int .i64 (b : Int)] W fun e w' => e = .returned (.tuple #[.int .i64 (nb : Int), .int .i64 0]) ∧ Ext W w') := hid_ (fun W => by
  have := Many_any a b W
  have e : manyZ a b = (nb : Int) := by unfold manyZ; rw [if_pos hs0, ← hnb]; unfold cutN; simp
  rw [e, hs0] at this
  exact this)
 have hn64 := cutN_le a2 b2
 rw [hnb] at hn64
 have HMN := hid_ hm
 have hm192 : m ≤ 192 := by
  rw [← hm]
  exact Nat.le_trans (Nat.mul_le_mul hn64 (show p ≤ 3 by omega)) (by omega)
 generalize F.cells s1 s2 sd = fv at *
 clear hw hh hp hs0 hm hnb hF
 go_enter Tryz.func56, Tryz.ntmps56
 go_wp2_with (first
  | ((with_reducible apply gS 1); refine wBox rfl 47 (.tmp 0) rfl fv rfl ?_; intro w1 gf hb1 hx1 hgf; have hf1 := HF.out _ _ hb1)
  | ((with_reducible apply gS 7); refine wl_read rfl (.int .i64 (a : Int)) (ex_loadI rfl rfl hf1.c0) ?_)
  | ((with_reducible apply gS 9); refine wl_read rfl (.int .i64 (b : Int)) (ex_loadI rfl rfl hf1.c1) ?_)
  | (go_at_call 65; (with_reducible refine (HM.out _).mono ?_); rintro e w3 ⟨rfl, hx3⟩; have hf3 := HF.out _ _ (hb1.ext hx3))
  | ((with_reducible apply gS 15); refine wl_read rfl (.int .i64 (p : Int)) (ex_loadI rfl rfl hf3.c2) ?_)
  | ((with_reducible apply gS 16); refine wl_run rfl (.int .i64 (m : Int)) (by rw [← HMN.out]; exact ex_mulN (i := nb) (d := p) rfl rfl rfl (by rw [HMN.out]; omega)) ?_))
 go_ret
 exact ⟨rfl, hx1.trans hx3⟩
theorem fcheck_zero {wd hi pt : Int} {qs : List Int} {z1 z2 ev : Int} {n : Nat} (h : fcheckZ wd hi pt qs z1 z2 ev n = 0) :
 ∃ a b p : Nat, wd = a ∧ hi = b ∧ pt = p ∧ 1 ≤ a ∧ a ≤ 64 ∧ 1 ≤ b ∧ b ≤ 64 ∧ (p = 1 ∨ p = 3) ∧ 0 ≤ ev ∧ ev ≤ 100 ∧ allIn qs 1 255 = true ∧ z1 = 0 ∧ z2 = 0 ∧ n ≤ 90000 := by
 unfold fcheckZ at h
 split at h
 ·rename_i hc
  simp only [Bool.and_eq_true] at hc
  obtain ⟨k1, k2, k3, hp⟩ := argsOK_iff hc.1
  rw [inB_iff] at k1 k2 k3
  by_cases h1 : z1 = 0
  ·rw [if_pos h1] at h
   by_cases h2 : z2 = 0
   ·rw [if_pos h2] at h
    by_cases h3 : 90000 < n
    ·rw [if_pos h3] at h; cases h
    ·exact ⟨wd.toNat, hi.toNat, pt.toNat, by omega, by omega, by omega, by omega, by omega, by omega, by omega, by omega, k3.1, k3.2, hc.2, h1, h2, by omega⟩
   ·rw [if_neg h2] at h; exact absurd h h2
  ·rw [if_neg h1] at h; exact absurd h h1
 ·cases h
section
attribute [local irreducible] showZ
set_option maxRecDepth 20000 in
set_option maxHeartbeats 4000000 in
theorem rescDec_bad (fv : Array Value) (hfs : fv.size = 103) (E : Int) (hE : E ≠ 0) (w : World) (HC : ∀ W, Ext w W → Calls Tryz.prog 50 #[.agg fv] W fun e W' => e = .returned (.int .i64 E) ∧ Ext W W') :
 Calls Tryz.prog 22 #[.agg fv] w (RcIs E 0 0 [] [] w) := by
 have HC := hid_ HC
 have hts := hid_ hfs
 have hne : (E != 0) = true := by simpa using hE
 have HPSZ := hid_ (fun a b v => picV_size a b v)
 have HP1 := hid_ (fun a b A n c => pic_one a b A n c)
 have HZP := zeroPicS
 have hz0s : Hid ((Value.agg (picV 0 0 (.slice none 0 0))).cells.size = 3) := hid_ rfl
 have HPB := hid_ built0PicS
 have hpo := hid_ (pic_one 0 0 none 0 0)
 have hps := hid_ (picV_size 0 0 (.slice none 0 0))
 have HR : Hid (∀ W, Ext w W → RcIs E 0 0 [] [] w (.returned (.tuple #[.agg (picV 0 0 (.slice none 0 0)), .slice none 0 0, .int .i64 E])) W) := hid_ (fun W h => ⟨none, 0, 0, none, 0, 0, rfl, RowsS.nil W, SL.nil W 1, rfl, h⟩)
 generalize picV 0 0 (.slice none 0 0) = pz at *
 clear hE
 go_enter Tryz.func22, Tryz.ntmps22
 go_wp2_with (first
  | ((with_reducible apply gS 1); refine wBox rfl 47 (.tmp 0) rfl fv rfl ?_; intro w1 gf hb1 hx1 hgf)
  | ((with_reducible apply gS 2); refine wAlo' rfl (some 2) rfl 31 rfl _ HZP ?_; intro w2 gp hp2 hx2 hgp; have hb2 := hb1.ext hx2; have hx12 := hx1.trans hx2)
  | ((with_reducible apply gS 9); refine wLdB rfl 47 (.tmp 1) rfl gf rfl hb2 _ Tryz.underlying47 rfl 103 sizeFile hts.out ?_)
  | (go_at_call 50; (with_reducible refine (HC.out _ hx12).mono ?_); rintro e w3 ⟨rfl, hx3⟩; have hp3 := hp2.ext hx3; have hx13 := hx12.trans hx3)
  | ((with_reducible apply gS 12); refine wl_run rfl (.bool true) (ex_neq rfl rfl rfl hne) ?_)
  | ((with_reducible apply gS 13); refine wpList_build0_g (by rfl) 31 rfl _ HPB.out ?_)
  | ((with_reducible apply gT 2 13); refine wStB rfl 31 (.tmp 2) (.tmp 13) rfl gp pz rfl rfl hp3 3 sizePic hps.out hz0s.out hpo.out ?_; intro w4 hb4 hg4; have hx4 := hx13.grown hg4 (by have := hx1.size; omega)))
 exact ret_cell_tmp2 rfl rfl gp rfl hb4 _ Tryz.underlying31 rfl 3 sizePic hps.out (HR.out _ hx4)
set_option maxRecDepth 20000 in
set_option maxHeartbeats 8000000 in
theorem rescDec_err (F : FC) (hF : F.shaped) (s1 s2 : Value) (A : Option Addr) (n c : Nat) (ev : Int) (a b p nb m : Nat) (hw : F.wd = a) (hh : F.hi = b) (hp : F.pt = p) (he : F.ev = ev) (a1 : 1 ≤ a) (a2 : a ≤ 64) (b1 : 1 ≤ b) (b2 : b ≤ 64) (hp13 : p = 1 ∨ p = 3) (hnb : cutN a b = nb) (hm : nb * p = m) (w : World)
 (HC : ∀ W, Ext w W → Calls Tryz.prog 50 #[.agg (F.cells s1 s2 (.slice A n c))] W fun e W' => e = .returned (.int .i64 0) ∧ Ext W W')
 (r1 : Int) (X Y : List Int) (h1 : r1 ≠ 0) (HK : ∀ W, Ext w W → Calls Tryz.prog 55 #[.agg (tblL F.cs1 s1 ++ tblL F.cs2 s2).toArray, .slice A n c, .int .i64 (m : Int), .int .i64 ev] W (MendIs (r1, X, Y) W)) :
 Calls Tryz.prog 22 #[.agg (F.cells s1 s2 (.slice A n c))] w (RcIs r1 0 0 [] [] w) := by
 have HF := hid_ (fun W g (h : Blk W g 47 (F.cells s1 s2 (.slice A n c))) => fileB h hF.1 (tblL_len _ _ hF.2.1) (tblL_len _ _ hF.2.2))
 have hts := hid_ (FC.size hF s1 s2 (.slice A n c))
 have HC := hid_ HC
 have HK := hid_ HK
 have hT : (tblL F.cs1 s1 ++ tblL F.cs2 s2).length = 34 := by rw [List.length_append, tblL_len _ _ hF.2.1, tblL_len _ _ hF.2.2]
 have HT34 : Hid ((Tryz.prog.info? 44).map (·.size) = some (tblL F.cs1 s1 ++ tblL F.cs2 s2).length) := hid_ (by rw [hT]; exact sizeTbls)
 have HS := hid_ (fun W => sizes_any F hF s1 s2 (.slice A n c) a b p nb m hw hh hp a1 a2 b1 b2 hp13 hnb hm W)
 rw [hw, hh, hp, he] at HF
 have hm192 : m ≤ 192 := by
  have h1 := cutN_le a2 b2
  rw [hnb] at h1
  rw [← hm]
  exact Nat.le_trans (Nat.mul_le_mul h1 (show p ≤ 3 by omega)) (by omega)
 have HMN := hid_ hm
 have HPSZ := hid_ (fun a b v => picV_size a b v)
 have HP1 := hid_ (fun a b A n c => pic_one a b A n c)
 have HZP := zeroPicS
 have hz0s : Hid ((Value.agg (picV 0 0 (.slice none 0 0))).cells.size = 3) := hid_ rfl
 have HPB := hid_ built0PicS
 have hpo := hid_ (pic_one 0 0 none 0 0)
 have hps := hid_ (picV_size 0 0 (.slice none 0 0))
 have HRA : Hid (∀ W e W', MendIs (r1, X, Y) W e W' → e = .returned (.tuple #[.slice none 0 0, .slice none 0 0, .int .i64 r1]) ∧ Ext W W') := hid_ (fun W e W' h => by
  obtain ⟨hx, h⟩ := h
  rw [if_neg h1] at h
  exact ⟨h, hx⟩)
 have HR : Hid (∀ W, Ext w W → RcIs r1 0 0 [] [] w (.returned (.tuple #[.agg (picV 0 0 (.slice none 0 0)), .slice none 0 0, .int .i64 r1])) W) := hid_ (fun W h => ⟨none, 0, 0, none, 0, 0, rfl, RowsS.nil W, SL.nil W 1, rfl, h⟩)
 have hne : (r1 != 0) = true := by simpa using h1
 generalize F.cells s1 s2 (.slice A n c) = fv at *
 obtain ⟨tt, htt⟩ : ∃ tt, (tblL F.cs1 s1 ++ tblL F.cs2 s2).toArray = tt := ⟨_, rfl⟩
 have HTT := hid_ htt
 rw [htt] at HK
 clear htt hT hm hw hh hp he hnb hF h1
 generalize picV 0 0 (.slice none 0 0) = pz at *
 go_enter Tryz.func22, Tryz.ntmps22
 go_upto_region 4 with (first
  | ((with_reducible apply gS 1); refine wBox rfl 47 (.tmp 0) rfl fv rfl ?_; intro w1 gf hb1 hx1 hgf)
  | ((with_reducible apply gS 2); refine wAlo' rfl (some 2) rfl 31 rfl _ HZP ?_; intro w2 gp hp2 hx2 hgp; have hb2 := hb1.ext hx2; have hx12 := hx1.trans hx2)
  | ((with_reducible apply gS 9); refine wLdB rfl 47 (.tmp 1) rfl gf rfl hb2 _ Tryz.underlying47 rfl 103 sizeFile hts.out ?_)
  | (go_at_call 50; (with_reducible refine (HC.out _ hx12).mono ?_); rintro e w3 ⟨rfl, hx3'⟩; have hp3 := hp2.ext hx3'; have hb3 := hb2.ext hx3'; have hx3 := hx12.trans hx3'))
 have hx8d : Ext w w3.drew := hx3.drew
 have hbd : Blk w3.drew gf 47 fv := hb3.drew
 have HGX := hid_ (fun W (h : Ext w3.drew W) => HF.out _ _ (hbd.ext h))
 have HGB := hid_ (fun W (h : Ext w3.drew W) => hbd.ext h)
 have hI : Ext w3.drew w3.drew := Ext.refl _
 refine wp_region_oi (Ext w3.drew) (by kernel_rfl) ?_
 refine oi_run (k := 0) (by kernel_rfl) rfl (by rfl) (.pointer (some ⟨gf, 67, none⟩)) (fun w => by go_simp) hI ?_
 simp only [Act.put, sA, sB, sC]
 refine oi_fix (k := 1) (by kernel_rfl) rfl (by rfl) (.agg tt) (fun W hW => HTT.out ▸ ex_loadMid rfl rfl (HGX.out W hW).tt Tryz.underlying44 rfl HT34.out) hI ?_
 simp only [Act.put, sA, sB, sC]
 refine oi_run (k := 2) (by kernel_rfl) rfl (by rfl) (.pointer (some ⟨gf, 102, none⟩)) (fun w => by go_simp) hI ?_
 simp only [Act.put, sA, sB, sC]
 refine oi_fix (k := 3) (by kernel_rfl) rfl (by rfl) (.slice A n c) (fun W hW => ex_loadS rfl rfl (HGX.out W hW).c102) hI ?_
 simp only [Act.put, sA, sB, sC]
 refine oi_fix (k := 4) (by kernel_rfl) rfl (by rfl) (.agg fv) (fun W hW => ex_loadB rfl rfl (HGB.out W hW) Tryz.underlying47 rfl sizeFile hts.out) hI ?_
 simp only [Act.put, sA, sB, sC]
 refine oi_run (k := 6) (by kernel_rfl) rfl (by rfl) (.pointer (some ⟨gf, 101, none⟩)) (fun w => by go_simp) hI ?_
 simp only [Act.put, sA, sB, sC]
 refine oi_fix (k := 7) (by kernel_rfl) rfl (by rfl) (.int .i64 ev) (fun W hW => ex_loadI rfl rfl (HGX.out W hW).c101) hI ?_
 simp only [Act.put, sA, sB, sC]
 refine oi_loud (k := 5) (by kernel_rfl) rfl ?_
 refine wl_enter (by rfl) (run_callv _ _ _ rfl rfl goesSizes #[.agg fv] (by simp [Act.eval])) ?_
 refine (HS.out _).mono ?_
 rintro e4 w4 ⟨rfl, hx4⟩
 refine ⟨_, rfl, oi_end ⟨hx4, ?_⟩⟩
 simp only [Act.put, sA, sB, sC]
 refine oi_loud (k := 8) (by kernel_rfl) rfl ?_
 refine wl_enter (by rfl) (run_callv _ _ _ rfl rfl goesScanMend #[.agg tt, .slice A n c, .int .i64 (m : Int), .int .i64 ev] (by simp [Act.eval])) ?_
 refine (HK.out _ (hx8d.trans hx4)).mono ?_
 intro e5 w5 h5
 obtain ⟨rfl, hx5⟩ := HRA.out _ _ _ h5
 have hx45 := hx4.trans hx5
 refine ⟨_, rfl, oi_end ⟨hx45, ?_⟩⟩
 simp only [Act.put, sA, sB, sC]
 refine oi_run (k := 9) (by kernel_rfl) rfl (by rfl) (.tuple #[.slice none 0 0, .slice none 0 0, .int .i64 r1]) (ex_move rfl rfl) hx45 ?_
 simp only [Act.put, sA, sB, sC]
 refine oi_run (k := 10) (by kernel_rfl) rfl (by rfl) (.slice none 0 0) (ex_extract rfl rfl rfl) hx45 ?_
 simp only [Act.put, sA, sB, sC]
 refine oi_run (k := 11) (by kernel_rfl) rfl (by rfl) (.slice none 0 0) (ex_extract rfl rfl rfl) hx45 ?_
 simp only [Act.put, sA, sB, sC]
 refine oi_run (k := 12) (by kernel_rfl) rfl (by rfl) (.int .i64 r1) (ex_extract rfl rfl rfl) hx45 ?_
 simp only [Act.put, sA, sB, sC]
 refine oi_run (k := 13) (by kernel_rfl) rfl (by rfl) (.slice none 0 0) (ex_assign rfl rfl) hx45 ?_
 simp only [Act.put, sA, sB, sC]
 refine oi_run (k := 14) (by kernel_rfl) rfl (by rfl) (.slice none 0 0) (ex_assign rfl rfl) hx45 ?_
 simp only [Act.put, sA, sB, sC]
 refine oi_run (k := 15) (by kernel_rfl) rfl (by rfl) (.int .i64 r1) (ex_assign rfl rfl) hx45 ?_
 simp only [Act.put, sA, sB, sC]
 refine oi_done (by kernel_rfl) ?_
 have hx05 := hx8d.trans hx45
 have hb5 := hbd.ext hx45
 have hp5 := hp3.drew.ext hx45
 go_wp2_with (first
  | ((with_reducible apply gS 29); refine wl_run rfl (.bool true) (ex_neq rfl rfl rfl hne) ?_)
  | ((with_reducible apply gS 30); refine wpList_build0_g (by rfl) 31 rfl _ HPB.out ?_)
  | ((with_reducible apply gT 2 30); refine wStB rfl 31 (.tmp 2) (.tmp 30) rfl gp pz rfl rfl hp5 3 sizePic hps.out hz0s.out hpo.out ?_; intro w7 hb7 hg7; have hx7 := hx05.grown hg7 (by have := hx1.size; omega)))
 exact ret_cell_tmp2 rfl rfl gp rfl hb7 _ Tryz.underlying31 rfl 3 sizePic hps.out (HR.out _ hx7)
set_option maxRecDepth 20000 in
set_option maxHeartbeats 8000000 in
theorem rescDec_good (F : FC) (hF : F.shaped) (s1 s2 : Value) (A : Option Addr) (n c : Nat) (ev : Int) (a b p nb m : Nat) (hw : F.wd = a) (hh : F.hi = b) (hp : F.pt = p) (he : F.ev = ev) (a1 : 1 ≤ a) (a2 : a ≤ 64) (b1 : 1 ≤ b) (b2 : b ≤ 64) (hp13 : p = 1 ∨ p = 3) (hnb : cutN a b = nb) (hm : nb * p = m) (w : World)
 (HC : ∀ W, Ext w W → Calls Tryz.prog 50 #[.agg (F.cells s1 s2 (.slice A n c))] W fun e W' => e = .returned (.int .i64 0) ∧ Ext W W')
 (X Y : List Int) (hX : X.length = m * 64) (HK : ∀ W, Ext w W → Calls Tryz.prog 55 #[.agg (tblL F.cs1 s1 ++ tblL F.cs2 s2).toArray, .slice A n c, .int .i64 (m : Int), .int .i64 ev] W (MendIs (0, X, Y) W)) :
 Calls Tryz.prog 22 #[.agg (F.cells s1 s2 (.slice A n c))] w (RcIs 0 a b (showZ F.qs X a b p) Y w) := by
 have HF := hid_ (fun W g (h : Blk W g 47 (F.cells s1 s2 (.slice A n c))) => fileB h hF.1 (tblL_len _ _ hF.2.1) (tblL_len _ _ hF.2.2))
 have hts := hid_ (FC.size hF s1 s2 (.slice A n c))
 have HC := hid_ HC
 have HK := hid_ HK
 have hT : (tblL F.cs1 s1 ++ tblL F.cs2 s2).length = 34 := by rw [List.length_append, tblL_len _ _ hF.2.1, tblL_len _ _ hF.2.2]
 have HT34 : Hid ((Tryz.prog.info? 44).map (·.size) = some (tblL F.cs1 s1 ++ tblL F.cs2 s2).length) := hid_ (by rw [hT]; exact sizeTbls)
 have HS := hid_ (fun W => sizes_any F hF s1 s2 (.slice A n c) a b p nb m hw hh hp a1 a2 b1 b2 hp13 hnb hm W)
 have HSH := hid_ (fun LA lc W (h : SL W 64 (.slice LA m lc) m (ints X)) => shown_any F hF s1 s2 (.slice A n c) a b p hw hh hp a1 a2 b1 b2 hp13 LA m lc X (by rw [← hm, hnb, Nat.mul_comm]) W h)
 unfold PicIs at HSH
 rw [hw, hh, hp, he] at HF
 have hm192 : m ≤ 192 := by
  have h1 := cutN_le a2 b2
  rw [hnb] at h1
  rw [← hm]
  exact Nat.le_trans (Nat.mul_le_mul h1 (show p ≤ 3 by omega)) (by omega)
 have HMN := hid_ hm
 have HPSZ := hid_ (fun a b v => picV_size a b v)
 have HP1 := hid_ (fun a b A n c => pic_one a b A n c)
 have HZP := zeroPicS
 have hz0s : Hid ((Value.agg (picV 0 0 (.slice none 0 0))).cells.size = 3) := hid_ rfl
 have HPB := hid_ built0PicS
 have hpo := hid_ (pic_one 0 0 none 0 0)
 have hps := hid_ (picV_size 0 0 (.slice none 0 0))
 have HRA : Hid (∀ W e W', MendIs (0, X, Y) W e W' → ∃ B k C j c, e = .returned (.tuple #[.slice B m k, .slice C j c, .int .i64 0]) ∧ SL W' 64 (.slice B m k) m (ints X) ∧ Y.length = j ∧ SL W' 1 (.slice C j c) j (ints Y) ∧ Ext W W' ∧ ∀ ad, C = some ad → W.heap.size ≤ ad.block) := hid_ (fun W e W' h => by
  obtain ⟨hx, h⟩ := h
  rw [if_pos rfl] at h
  obtain ⟨B, k, d, C, j, c, rfl, h1, h2, h3, h4, h5⟩ := h
  dsimp only at h1
  obtain rfl : k = m := by omega
  exact ⟨B, d, C, j, c, rfl, h2, h3, h4, hx, h5⟩)
 have HR : Hid (∀ W B k d C j c, RowsS W B k d (showZ F.qs X a b p) → Y.length = j → SL W 1 (.slice C j c) j (ints Y) → Ext w W → RcIs 0 a b (showZ F.qs X a b p) Y w (.returned (.tuple #[.agg (picV a b (.slice B k d)), .slice C j c, .int .i64 0])) W) := hid_ (fun W B k d C j c h1 h2 h3 h => ⟨B, k, d, C, j, c, rfl, h1, h3, h2, h⟩)
 generalize showZ F.qs X a b p = SZ at *
 generalize F.cells s1 s2 (.slice A n c) = fv at *
 obtain ⟨tt, htt⟩ : ∃ tt, (tblL F.cs1 s1 ++ tblL F.cs2 s2).toArray = tt := ⟨_, rfl⟩
 have HTT := hid_ htt
 rw [htt] at HK
 clear htt hT hm hw hh hp he hnb hF hX
 generalize picV 0 0 (.slice none 0 0) = pz at *
 go_enter Tryz.func22, Tryz.ntmps22
 go_upto_region 4 with (first
  | ((with_reducible apply gS 1); refine wBox rfl 47 (.tmp 0) rfl fv rfl ?_; intro w1 gf hb1 hx1 hgf)
  | ((with_reducible apply gS 2); refine wAlo' rfl (some 2) rfl 31 rfl _ HZP ?_; intro w2 gp hp2 hx2 hgp; have hb2 := hb1.ext hx2; have hx12 := hx1.trans hx2)
  | ((with_reducible apply gS 9); refine wLdB rfl 47 (.tmp 1) rfl gf rfl hb2 _ Tryz.underlying47 rfl 103 sizeFile hts.out ?_)
  | (go_at_call 50; (with_reducible refine (HC.out _ hx12).mono ?_); rintro e w3 ⟨rfl, hx3'⟩; have hp3 := hp2.ext hx3'; have hb3 := hb2.ext hx3'; have hx3 := hx12.trans hx3'))
 have hx8d : Ext w w3.drew := hx3.drew
 have hbd : Blk w3.drew gf 47 fv := hb3.drew
 have HGX := hid_ (fun W (h : Ext w3.drew W) => HF.out _ _ (hbd.ext h))
 have HGB := hid_ (fun W (h : Ext w3.drew W) => hbd.ext h)
 have hI : Ext w3.drew w3.drew := Ext.refl _
 refine wp_region_oi (Ext w3.drew) (by kernel_rfl) ?_
 refine oi_run (k := 0) (by kernel_rfl) rfl (by rfl) (.pointer (some ⟨gf, 67, none⟩)) (fun w => by go_simp) hI ?_
 simp only [Act.put, sA, sB, sC]
 refine oi_fix (k := 1) (by kernel_rfl) rfl (by rfl) (.agg tt) (fun W hW => HTT.out ▸ ex_loadMid rfl rfl (HGX.out W hW).tt Tryz.underlying44 rfl HT34.out) hI ?_
 simp only [Act.put, sA, sB, sC]
 refine oi_run (k := 2) (by kernel_rfl) rfl (by rfl) (.pointer (some ⟨gf, 102, none⟩)) (fun w => by go_simp) hI ?_
 simp only [Act.put, sA, sB, sC]
 refine oi_fix (k := 3) (by kernel_rfl) rfl (by rfl) (.slice A n c) (fun W hW => ex_loadS rfl rfl (HGX.out W hW).c102) hI ?_
 simp only [Act.put, sA, sB, sC]
 refine oi_fix (k := 4) (by kernel_rfl) rfl (by rfl) (.agg fv) (fun W hW => ex_loadB rfl rfl (HGB.out W hW) Tryz.underlying47 rfl sizeFile hts.out) hI ?_
 simp only [Act.put, sA, sB, sC]
 refine oi_run (k := 6) (by kernel_rfl) rfl (by rfl) (.pointer (some ⟨gf, 101, none⟩)) (fun w => by go_simp) hI ?_
 simp only [Act.put, sA, sB, sC]
 refine oi_fix (k := 7) (by kernel_rfl) rfl (by rfl) (.int .i64 ev) (fun W hW => ex_loadI rfl rfl (HGX.out W hW).c101) hI ?_
 simp only [Act.put, sA, sB, sC]
 refine oi_loud (k := 5) (by kernel_rfl) rfl ?_
 refine wl_enter (by rfl) (run_callv _ _ _ rfl rfl goesSizes #[.agg fv] (by simp [Act.eval])) ?_
 refine (HS.out _).mono ?_
 rintro e4 w4 ⟨rfl, hx4⟩
 refine ⟨_, rfl, oi_end ⟨hx4, ?_⟩⟩
 simp only [Act.put, sA, sB, sC]
 refine oi_loud (k := 8) (by kernel_rfl) rfl ?_
 refine wl_enter (by rfl) (run_callv _ _ _ rfl rfl goesScanMend #[.agg tt, .slice A n c, .int .i64 (m : Int), .int .i64 ev] (by simp [Act.eval])) ?_
 refine (HK.out _ (hx8d.trans hx4)).mono ?_
 intro e5 w5 h5
 obtain ⟨B5, d5, C5, j5, c5, rfl, hs5, hj5, hc5, hx5, hcf⟩ := HRA.out _ _ _ h5
 have hx45 := hx4.trans hx5
 refine ⟨_, rfl, oi_end ⟨hx45, ?_⟩⟩
 simp only [Act.put, sA, sB, sC]
 refine oi_run (k := 9) (by kernel_rfl) rfl (by rfl) (.tuple #[.slice B5 m d5, .slice C5 j5 c5, .int .i64 0]) (ex_move rfl rfl) hx45 ?_
 simp only [Act.put, sA, sB, sC]
 refine oi_run (k := 10) (by kernel_rfl) rfl (by rfl) (.slice B5 m d5) (ex_extract rfl rfl rfl) hx45 ?_
 simp only [Act.put, sA, sB, sC]
 refine oi_run (k := 11) (by kernel_rfl) rfl (by rfl) (.slice C5 j5 c5) (ex_extract rfl rfl rfl) hx45 ?_
 simp only [Act.put, sA, sB, sC]
 refine oi_run (k := 12) (by kernel_rfl) rfl (by rfl) (.int .i64 0) (ex_extract rfl rfl rfl) hx45 ?_
 simp only [Act.put, sA, sB, sC]
 refine oi_run (k := 13) (by kernel_rfl) rfl (by rfl) (.slice B5 m d5) (ex_assign rfl rfl) hx45 ?_
 simp only [Act.put, sA, sB, sC]
 refine oi_run (k := 14) (by kernel_rfl) rfl (by rfl) (.slice C5 j5 c5) (ex_assign rfl rfl) hx45 ?_
 simp only [Act.put, sA, sB, sC]
 refine oi_run (k := 15) (by kernel_rfl) rfl (by rfl) (.int .i64 0) (ex_assign rfl rfl) hx45 ?_
 simp only [Act.put, sA, sB, sC]
 refine oi_done (by kernel_rfl) ?_
 have hx05 := hx8d.trans hx45
 have hb5 := hbd.ext hx45
 have hp5 := hp3.drew.ext hx45
 go_wp2_with (first
  | ((with_reducible apply gS 32); refine wLdB rfl 47 (.tmp 1) rfl gf rfl hb5 _ Tryz.underlying47 rfl 103 sizeFile hts.out ?_)
  | (go_at_call 57; (with_reducible refine (HSH.out _ _ _ hs5).mono ?_); rintro e w6 ⟨B6, k6, d6, rfl, hr6, hx6⟩; have hp6 := hp5.ext hx6; have hx06 := hx05.trans hx6; have hc6 := hc5.ext hx6)
  | ((with_reducible apply gT 2 34); refine wStB rfl 31 (.tmp 2) (.tmp 34) rfl gp (picV a b (.slice B6 k6 d6)) rfl rfl hp6 3 sizePic (HPSZ.out _ _ _) hz0s.out (HP1.out _ _ _ _ _) ?_; intro w7 hb7 hg7; have hx7 := hx06.grown hg7 (by have := hx1.size; omega); have hu7 := upd_grown hg7))
 have hgpw : gp < w3.heap.size := hp3.lt
 have hr7 := rows_far hr6 (upd_grown hg7) (fun x e => by injection e with e; rw [← e]; exact Nat.lt_of_lt_of_le hgpw (by have h1 := hx45.size; have h2 := hx8d.size; exact h1))
 have hc7 := hc6.upd (upd_grown hg7) (fun ad e q => by injection q with q; have h1 := hcf ad e; have h2 := hx4.size; rw [← q] at h1; exact absurd (Nat.lt_of_lt_of_le hgpw (Nat.le_trans h2 h1)) (Nat.lt_irrefl _))
 exact ret_cell_tmp2 rfl rfl gp rfl hb7 _ Tryz.underlying31 rfl 3 sizePic (HPSZ.out _ _ _) (HR.out _ _ _ _ _ _ _ hr7 hj5 hc7 hx7)
set_option maxRecDepth 20000 in
set_option maxHeartbeats 4000000 in
theorem rrescDec_bad (fv : Array Value) (hfs : fv.size = 103) (E : Int) (hE : E ≠ 0) (w : World) (HC : ∀ W, Ext w W → Calls Tryz.prog 52 #[.agg fv] W fun e W' => e = .returned (.int .i64 E) ∧ Ext W W') :
 Calls Tryz.prog 24 #[.agg fv] w (RcIs E 0 0 [] [] w) := by
 have HC := hid_ HC
 have hts := hid_ hfs
 have hne : (E != 0) = true := by simpa using hE
 have HPSZ := hid_ (fun a b v => picV_size a b v)
 have HP1 := hid_ (fun a b A n c => pic_one a b A n c)
 have HZP := zeroPicS
 have hz0s : Hid ((Value.agg (picV 0 0 (.slice none 0 0))).cells.size = 3) := hid_ rfl
 have HPB := hid_ built0PicS
 have hpo := hid_ (pic_one 0 0 none 0 0)
 have hps := hid_ (picV_size 0 0 (.slice none 0 0))
 have HR : Hid (∀ W, Ext w W → RcIs E 0 0 [] [] w (.returned (.tuple #[.agg (picV 0 0 (.slice none 0 0)), .slice none 0 0, .int .i64 E])) W) := hid_ (fun W h => ⟨none, 0, 0, none, 0, 0, rfl, RowsS.nil W, SL.nil W 1, rfl, h⟩)
 generalize picV 0 0 (.slice none 0 0) = pz at *
 clear hE
 go_enter Tryz.func24, Tryz.ntmps24
 go_wp2_with (first
  | ((with_reducible apply gS 1); refine wBox rfl 47 (.tmp 0) rfl fv rfl ?_; intro w1 gf hb1 hx1 hgf)
  | ((with_reducible apply gS 2); refine wAlo' rfl (some 2) rfl 31 rfl _ HZP ?_; intro w2 gp hp2 hx2 hgp; have hb2 := hb1.ext hx2; have hx12 := hx1.trans hx2)
  | ((with_reducible apply gS 9); refine wLdB rfl 47 (.tmp 1) rfl gf rfl hb2 _ Tryz.underlying47 rfl 103 sizeFile hts.out ?_)
  | (go_at_call 52; (with_reducible refine (HC.out _ hx12).mono ?_); rintro e w3 ⟨rfl, hx3⟩; have hp3 := hp2.ext hx3; have hx13 := hx12.trans hx3)
  | ((with_reducible apply gS 12); refine wl_run rfl (.bool true) (ex_neq rfl rfl rfl hne) ?_)
  | ((with_reducible apply gS 13); refine wpList_build0_g (by rfl) 31 rfl _ HPB.out ?_)
  | ((with_reducible apply gT 2 13); refine wStB rfl 31 (.tmp 2) (.tmp 13) rfl gp pz rfl rfl hp3 3 sizePic hps.out hz0s.out hpo.out ?_; intro w4 hb4 hg4; have hx4 := hx13.grown hg4 (by have := hx1.size; omega)))
 exact ret_cell_tmp2 rfl rfl gp rfl hb4 _ Tryz.underlying31 rfl 3 sizePic hps.out (HR.out _ hx4)
set_option maxRecDepth 20000 in
set_option maxHeartbeats 8000000 in
theorem rrescDec_err (F : FC) (hF : F.shaped) (s1 s2 : Value) (A : Option Addr) (n c : Nat) (ev : Int) (a b p nb m : Nat) (hw : F.wd = a) (hh : F.hi = b) (hp : F.pt = p) (he : F.ev = ev) (a1 : 1 ≤ a) (a2 : a ≤ 64) (b1 : 1 ≤ b) (b2 : b ≤ 64) (hp13 : p = 1 ∨ p = 3) (hnb : cutN a b = nb) (hm : nb * p = m) (w : World)
 (HC : ∀ W, Ext w W → Calls Tryz.prog 52 #[.agg (F.cells s1 s2 (.slice A n c))] W fun e W' => e = .returned (.int .i64 0) ∧ Ext W W')
 (r1 : Int) (X Y : List Int) (h1 : r1 ≠ 0) (HK : ∀ W, Ext w W → Calls Tryz.prog 59 #[.agg (tblL F.cs1 s1 ++ tblL F.cs2 s2).toArray, .slice A n c, .int .i64 (m : Int), .int .i64 ev] W (MendIs (r1, X, Y) W)) :
 Calls Tryz.prog 24 #[.agg (F.cells s1 s2 (.slice A n c))] w (RcIs r1 0 0 [] [] w) := by
 have HF := hid_ (fun W g (h : Blk W g 47 (F.cells s1 s2 (.slice A n c))) => fileB h hF.1 (tblL_len _ _ hF.2.1) (tblL_len _ _ hF.2.2))
 have hts := hid_ (FC.size hF s1 s2 (.slice A n c))
 have HC := hid_ HC
 have HK := hid_ HK
 have hT : (tblL F.cs1 s1 ++ tblL F.cs2 s2).length = 34 := by rw [List.length_append, tblL_len _ _ hF.2.1, tblL_len _ _ hF.2.2]
 have HT34 : Hid ((Tryz.prog.info? 44).map (·.size) = some (tblL F.cs1 s1 ++ tblL F.cs2 s2).length) := hid_ (by rw [hT]; exact sizeTbls)
 have HS : Hid (∀ W, Calls Tryz.prog 60 #[.int .i64 (a : Int), .int .i64 (b : Int)] W fun e w' => e = .returned (.int .i64 (nb : Int)) ∧ Ext W w') := hid_ (fun W => by rw [← hnb]; exact (rmany_any a b W a2 b2).mono fun e w' h => ⟨h.1, by rw [← h.2]; exact Ext.refl _⟩)
 rw [hw, hh, hp, he] at HF
 have hm192 : m ≤ 192 := by
  have h1 := cutN_le a2 b2
  rw [hnb] at h1
  rw [← hm]
  exact Nat.le_trans (Nat.mul_le_mul h1 (show p ≤ 3 by omega)) (by omega)
 have HMN := hid_ hm
 have HPSZ := hid_ (fun a b v => picV_size a b v)
 have HP1 := hid_ (fun a b A n c => pic_one a b A n c)
 have HZP := zeroPicS
 have hz0s : Hid ((Value.agg (picV 0 0 (.slice none 0 0))).cells.size = 3) := hid_ rfl
 have HPB := hid_ built0PicS
 have hpo := hid_ (pic_one 0 0 none 0 0)
 have hps := hid_ (picV_size 0 0 (.slice none 0 0))
 have HRA : Hid (∀ W e W', MendIs (r1, X, Y) W e W' → e = .returned (.tuple #[.slice none 0 0, .slice none 0 0, .int .i64 r1]) ∧ Ext W W') := hid_ (fun W e W' h => by
  obtain ⟨hx, h⟩ := h
  rw [if_neg h1] at h
  exact ⟨h, hx⟩)
 have HR : Hid (∀ W, Ext w W → RcIs r1 0 0 [] [] w (.returned (.tuple #[.agg (picV 0 0 (.slice none 0 0)), .slice none 0 0, .int .i64 r1])) W) := hid_ (fun W h => ⟨none, 0, 0, none, 0, 0, rfl, RowsS.nil W, SL.nil W 1, rfl, h⟩)
 have hne : (r1 != 0) = true := by simpa using h1
 generalize F.cells s1 s2 (.slice A n c) = fv at *
 obtain ⟨tt, htt⟩ : ∃ tt, (tblL F.cs1 s1 ++ tblL F.cs2 s2).toArray = tt := ⟨_, rfl⟩
 have HTT := hid_ htt
 rw [htt] at HK
 clear htt hT hm hw hh hp he hnb hF h1
 generalize picV 0 0 (.slice none 0 0) = pz at *
 go_enter Tryz.func24, Tryz.ntmps24
 go_upto_region 4 with (first
  | ((with_reducible apply gS 1); refine wBox rfl 47 (.tmp 0) rfl fv rfl ?_; intro w1 gf hb1 hx1 hgf)
  | ((with_reducible apply gS 2); refine wAlo' rfl (some 2) rfl 31 rfl _ HZP ?_; intro w2 gp hp2 hx2 hgp; have hb2 := hb1.ext hx2; have hx12 := hx1.trans hx2)
  | ((with_reducible apply gS 9); refine wLdB rfl 47 (.tmp 1) rfl gf rfl hb2 _ Tryz.underlying47 rfl 103 sizeFile hts.out ?_)
  | (go_at_call 52; (with_reducible refine (HC.out _ hx12).mono ?_); rintro e w3 ⟨rfl, hx3'⟩; have hp3 := hp2.ext hx3'; have hb3 := hb2.ext hx3'; have hx3 := hx12.trans hx3'))
 have hx8d : Ext w w3.drew := hx3.drew
 have hbd : Blk w3.drew gf 47 fv := hb3.drew
 have HGX := hid_ (fun W (h : Ext w3.drew W) => HF.out _ _ (hbd.ext h))
 have HGB := hid_ (fun W (h : Ext w3.drew W) => hbd.ext h)
 have hI : Ext w3.drew w3.drew := Ext.refl _
 refine wp_region_oi (Ext w3.drew) (by kernel_rfl) ?_
 refine oi_run (k := 0) (by kernel_rfl) rfl (by rfl) (.pointer (some ⟨gf, 67, none⟩)) (fun w => by go_simp) hI ?_
 simp only [Act.put, sA, sB, sC]
 refine oi_fix (k := 1) (by kernel_rfl) rfl (by rfl) (.agg tt) (fun W hW => HTT.out ▸ ex_loadMid rfl rfl (HGX.out W hW).tt Tryz.underlying44 rfl HT34.out) hI ?_
 simp only [Act.put, sA, sB, sC]
 refine oi_run (k := 2) (by kernel_rfl) rfl (by rfl) (.pointer (some ⟨gf, 102, none⟩)) (fun w => by go_simp) hI ?_
 simp only [Act.put, sA, sB, sC]
 refine oi_fix (k := 3) (by kernel_rfl) rfl (by rfl) (.slice A n c) (fun W hW => ex_loadS rfl rfl (HGX.out W hW).c102) hI ?_
 simp only [Act.put, sA, sB, sC]
 refine oi_run (k := 4) (by kernel_rfl) rfl (by rfl) (.pointer (some ⟨gf, 0, none⟩)) (fun w => by go_simp) hI ?_
 simp only [Act.put, sA, sB, sC]
 refine oi_fix (k := 5) (by kernel_rfl) rfl (by rfl) (.int .i64 (a : Int)) (fun W hW => ex_loadI rfl rfl (HGX.out W hW).c0) hI ?_
 simp only [Act.put, sA, sB, sC]
 refine oi_run (k := 6) (by kernel_rfl) rfl (by rfl) (.pointer (some ⟨gf, 1, none⟩)) (fun w => by go_simp) hI ?_
 simp only [Act.put, sA, sB, sC]
 refine oi_fix (k := 7) (by kernel_rfl) rfl (by rfl) (.int .i64 (b : Int)) (fun W hW => ex_loadI rfl rfl (HGX.out W hW).c1) hI ?_
 simp only [Act.put, sA, sB, sC]
 refine oi_run (k := 9) (by kernel_rfl) rfl (by rfl) (.pointer (some ⟨gf, 2, none⟩)) (fun w => by go_simp) hI ?_
 simp only [Act.put, sA, sB, sC]
 refine oi_fix (k := 10) (by kernel_rfl) rfl (by rfl) (.int .i64 (p : Int)) (fun W hW => ex_loadI rfl rfl (HGX.out W hW).c2) hI ?_
 simp only [Act.put, sA, sB, sC]
 refine oi_run (k := 12) (by kernel_rfl) rfl (by rfl) (.pointer (some ⟨gf, 101, none⟩)) (fun w => by go_simp) hI ?_
 simp only [Act.put, sA, sB, sC]
 refine oi_fix (k := 13) (by kernel_rfl) rfl (by rfl) (.int .i64 ev) (fun W hW => ex_loadI rfl rfl (HGX.out W hW).c101) hI ?_
 simp only [Act.put, sA, sB, sC]
 refine oi_loud (k := 8) (by kernel_rfl) rfl ?_
 refine wl_enter (by rfl) (run_callv _ _ _ rfl rfl goesMany #[.int .i64 (a : Int), .int .i64 (b : Int)] (by simp [Act.eval])) ?_
 refine (HS.out _).mono ?_
 rintro e4 w4 ⟨rfl, hx4⟩
 refine ⟨_, rfl, oi_end ⟨hx4, ?_⟩⟩
 simp only [Act.put, sA, sB, sC]
 refine oi_run (k := 11) (by kernel_rfl) rfl (by rfl) (.int .i64 (m : Int)) (by rw [← HMN.out]; exact ex_mulN (i := nb) (d := p) rfl rfl rfl (by rw [HMN.out]; omega)) hx4 ?_
 simp only [Act.put, sA, sB, sC]
 refine oi_loud (k := 14) (by kernel_rfl) rfl ?_
 refine wl_enter (by rfl) (run_callv _ _ _ rfl rfl goesRScanMend #[.agg tt, .slice A n c, .int .i64 (m : Int), .int .i64 ev] (by simp [Act.eval])) ?_
 refine (HK.out _ (hx8d.trans hx4)).mono ?_
 intro e5 w5 h5
 obtain ⟨rfl, hx5⟩ := HRA.out _ _ _ h5
 have hx45 := hx4.trans hx5
 refine ⟨_, rfl, oi_end ⟨hx45, ?_⟩⟩
 simp only [Act.put, sA, sB, sC]
 refine oi_run (k := 15) (by kernel_rfl) rfl (by rfl) (.tuple #[.slice none 0 0, .slice none 0 0, .int .i64 r1]) (ex_move rfl rfl) hx45 ?_
 simp only [Act.put, sA, sB, sC]
 refine oi_run (k := 16) (by kernel_rfl) rfl (by rfl) (.slice none 0 0) (ex_extract rfl rfl rfl) hx45 ?_
 simp only [Act.put, sA, sB, sC]
 refine oi_run (k := 17) (by kernel_rfl) rfl (by rfl) (.slice none 0 0) (ex_extract rfl rfl rfl) hx45 ?_
 simp only [Act.put, sA, sB, sC]
 refine oi_run (k := 18) (by kernel_rfl) rfl (by rfl) (.int .i64 r1) (ex_extract rfl rfl rfl) hx45 ?_
 simp only [Act.put, sA, sB, sC]
 refine oi_run (k := 19) (by kernel_rfl) rfl (by rfl) (.slice none 0 0) (ex_assign rfl rfl) hx45 ?_
 simp only [Act.put, sA, sB, sC]
 refine oi_run (k := 20) (by kernel_rfl) rfl (by rfl) (.slice none 0 0) (ex_assign rfl rfl) hx45 ?_
 simp only [Act.put, sA, sB, sC]
 refine oi_run (k := 21) (by kernel_rfl) rfl (by rfl) (.int .i64 r1) (ex_assign rfl rfl) hx45 ?_
 simp only [Act.put, sA, sB, sC]
 refine oi_done (by kernel_rfl) ?_
 have hx05 := hx8d.trans hx45
 have hb5 := hbd.ext hx45
 have hp5 := hp3.drew.ext hx45
 go_wp2_with (first
  | ((with_reducible apply gS 35); refine wl_run rfl (.bool true) (ex_neq rfl rfl rfl hne) ?_)
  | ((with_reducible apply gS 36); refine wpList_build0_g (by rfl) 31 rfl _ HPB.out ?_)
  | ((with_reducible apply gT 2 36); refine wStB rfl 31 (.tmp 2) (.tmp 36) rfl gp pz rfl rfl hp5 3 sizePic hps.out hz0s.out hpo.out ?_; intro w7 hb7 hg7; have hx7 := hx05.grown hg7 (by have := hx1.size; omega)))
 exact ret_cell_tmp2 rfl rfl gp rfl hb7 _ Tryz.underlying31 rfl 3 sizePic hps.out (HR.out _ hx7)
set_option maxRecDepth 20000 in
set_option maxHeartbeats 8000000 in
theorem rrescDec_good (F : FC) (hF : F.shaped) (s1 s2 : Value) (A : Option Addr) (n c : Nat) (ev : Int) (a b p nb m : Nat) (hw : F.wd = a) (hh : F.hi = b) (hp : F.pt = p) (he : F.ev = ev) (a1 : 1 ≤ a) (a2 : a ≤ 64) (b1 : 1 ≤ b) (b2 : b ≤ 64) (hp13 : p = 1 ∨ p = 3) (hnb : cutN a b = nb) (hm : nb * p = m) (w : World)
 (HC : ∀ W, Ext w W → Calls Tryz.prog 52 #[.agg (F.cells s1 s2 (.slice A n c))] W fun e W' => e = .returned (.int .i64 0) ∧ Ext W W')
 (X Y : List Int) (hX : X.length = m * 64) (HK : ∀ W, Ext w W → Calls Tryz.prog 59 #[.agg (tblL F.cs1 s1 ++ tblL F.cs2 s2).toArray, .slice A n c, .int .i64 (m : Int), .int .i64 ev] W (MendIs (0, X, Y) W)) :
 Calls Tryz.prog 24 #[.agg (F.cells s1 s2 (.slice A n c))] w (RcIs 0 a b (showZ F.qs X a b p) Y w) := by
 have HF := hid_ (fun W g (h : Blk W g 47 (F.cells s1 s2 (.slice A n c))) => fileB h hF.1 (tblL_len _ _ hF.2.1) (tblL_len _ _ hF.2.2))
 have hts := hid_ (FC.size hF s1 s2 (.slice A n c))
 have HC := hid_ HC
 have HK := hid_ HK
 have hT : (tblL F.cs1 s1 ++ tblL F.cs2 s2).length = 34 := by rw [List.length_append, tblL_len _ _ hF.2.1, tblL_len _ _ hF.2.2]
 have HT34 : Hid ((Tryz.prog.info? 44).map (·.size) = some (tblL F.cs1 s1 ++ tblL F.cs2 s2).length) := hid_ (by rw [hT]; exact sizeTbls)
 have HS : Hid (∀ W, Calls Tryz.prog 60 #[.int .i64 (a : Int), .int .i64 (b : Int)] W fun e w' => e = .returned (.int .i64 (nb : Int)) ∧ Ext W w') := hid_ (fun W => by rw [← hnb]; exact (rmany_any a b W a2 b2).mono fun e w' h => ⟨h.1, by rw [← h.2]; exact Ext.refl _⟩)
 have HSH := hid_ (fun LA lc W (h : SL W 64 (.slice LA m lc) m (ints X)) => rshown_any F hF s1 s2 (.slice A n c) a b p hw hh hp a1 a2 b1 b2 hp13 LA m lc X (by rw [← hm, hnb, Nat.mul_comm]) W h)
 unfold PicIs at HSH
 rw [hw, hh, hp, he] at HF
 have hm192 : m ≤ 192 := by
  have h1 := cutN_le a2 b2
  rw [hnb] at h1
  rw [← hm]
  exact Nat.le_trans (Nat.mul_le_mul h1 (show p ≤ 3 by omega)) (by omega)
 have HMN := hid_ hm
 have HPSZ := hid_ (fun a b v => picV_size a b v)
 have HP1 := hid_ (fun a b A n c => pic_one a b A n c)
 have HZP := zeroPicS
 have hz0s : Hid ((Value.agg (picV 0 0 (.slice none 0 0))).cells.size = 3) := hid_ rfl
 have HPB := hid_ built0PicS
 have hpo := hid_ (pic_one 0 0 none 0 0)
 have hps := hid_ (picV_size 0 0 (.slice none 0 0))
 have HRA : Hid (∀ W e W', MendIs (0, X, Y) W e W' → ∃ B k C j c, e = .returned (.tuple #[.slice B m k, .slice C j c, .int .i64 0]) ∧ SL W' 64 (.slice B m k) m (ints X) ∧ Y.length = j ∧ SL W' 1 (.slice C j c) j (ints Y) ∧ Ext W W' ∧ ∀ ad, C = some ad → W.heap.size ≤ ad.block) := hid_ (fun W e W' h => by
  obtain ⟨hx, h⟩ := h
  rw [if_pos rfl] at h
  obtain ⟨B, k, d, C, j, c, rfl, h1, h2, h3, h4, h5⟩ := h
  dsimp only at h1
  obtain rfl : k = m := by omega
  exact ⟨B, d, C, j, c, rfl, h2, h3, h4, hx, h5⟩)
 have HR : Hid (∀ W B k d C j c, RowsS W B k d (showZ F.qs X a b p) → Y.length = j → SL W 1 (.slice C j c) j (ints Y) → Ext w W → RcIs 0 a b (showZ F.qs X a b p) Y w (.returned (.tuple #[.agg (picV a b (.slice B k d)), .slice C j c, .int .i64 0])) W) := hid_ (fun W B k d C j c h1 h2 h3 h => ⟨B, k, d, C, j, c, rfl, h1, h3, h2, h⟩)
 generalize showZ F.qs X a b p = SZ at *
 generalize F.cells s1 s2 (.slice A n c) = fv at *
 obtain ⟨tt, htt⟩ : ∃ tt, (tblL F.cs1 s1 ++ tblL F.cs2 s2).toArray = tt := ⟨_, rfl⟩
 have HTT := hid_ htt
 rw [htt] at HK
 clear htt hT hm hw hh hp he hnb hF hX
 generalize picV 0 0 (.slice none 0 0) = pz at *
 go_enter Tryz.func24, Tryz.ntmps24
 go_upto_region 4 with (first
  | ((with_reducible apply gS 1); refine wBox rfl 47 (.tmp 0) rfl fv rfl ?_; intro w1 gf hb1 hx1 hgf)
  | ((with_reducible apply gS 2); refine wAlo' rfl (some 2) rfl 31 rfl _ HZP ?_; intro w2 gp hp2 hx2 hgp; have hb2 := hb1.ext hx2; have hx12 := hx1.trans hx2)
  | ((with_reducible apply gS 9); refine wLdB rfl 47 (.tmp 1) rfl gf rfl hb2 _ Tryz.underlying47 rfl 103 sizeFile hts.out ?_)
  | (go_at_call 52; (with_reducible refine (HC.out _ hx12).mono ?_); rintro e w3 ⟨rfl, hx3'⟩; have hp3 := hp2.ext hx3'; have hb3 := hb2.ext hx3'; have hx3 := hx12.trans hx3'))
 have hx8d : Ext w w3.drew := hx3.drew
 have hbd : Blk w3.drew gf 47 fv := hb3.drew
 have HGX := hid_ (fun W (h : Ext w3.drew W) => HF.out _ _ (hbd.ext h))
 have HGB := hid_ (fun W (h : Ext w3.drew W) => hbd.ext h)
 have hI : Ext w3.drew w3.drew := Ext.refl _
 refine wp_region_oi (Ext w3.drew) (by kernel_rfl) ?_
 refine oi_run (k := 0) (by kernel_rfl) rfl (by rfl) (.pointer (some ⟨gf, 67, none⟩)) (fun w => by go_simp) hI ?_
 simp only [Act.put, sA, sB, sC]
 refine oi_fix (k := 1) (by kernel_rfl) rfl (by rfl) (.agg tt) (fun W hW => HTT.out ▸ ex_loadMid rfl rfl (HGX.out W hW).tt Tryz.underlying44 rfl HT34.out) hI ?_
 simp only [Act.put, sA, sB, sC]
 refine oi_run (k := 2) (by kernel_rfl) rfl (by rfl) (.pointer (some ⟨gf, 102, none⟩)) (fun w => by go_simp) hI ?_
 simp only [Act.put, sA, sB, sC]
 refine oi_fix (k := 3) (by kernel_rfl) rfl (by rfl) (.slice A n c) (fun W hW => ex_loadS rfl rfl (HGX.out W hW).c102) hI ?_
 simp only [Act.put, sA, sB, sC]
 refine oi_run (k := 4) (by kernel_rfl) rfl (by rfl) (.pointer (some ⟨gf, 0, none⟩)) (fun w => by go_simp) hI ?_
 simp only [Act.put, sA, sB, sC]
 refine oi_fix (k := 5) (by kernel_rfl) rfl (by rfl) (.int .i64 (a : Int)) (fun W hW => ex_loadI rfl rfl (HGX.out W hW).c0) hI ?_
 simp only [Act.put, sA, sB, sC]
 refine oi_run (k := 6) (by kernel_rfl) rfl (by rfl) (.pointer (some ⟨gf, 1, none⟩)) (fun w => by go_simp) hI ?_
 simp only [Act.put, sA, sB, sC]
 refine oi_fix (k := 7) (by kernel_rfl) rfl (by rfl) (.int .i64 (b : Int)) (fun W hW => ex_loadI rfl rfl (HGX.out W hW).c1) hI ?_
 simp only [Act.put, sA, sB, sC]
 refine oi_run (k := 9) (by kernel_rfl) rfl (by rfl) (.pointer (some ⟨gf, 2, none⟩)) (fun w => by go_simp) hI ?_
 simp only [Act.put, sA, sB, sC]
 refine oi_fix (k := 10) (by kernel_rfl) rfl (by rfl) (.int .i64 (p : Int)) (fun W hW => ex_loadI rfl rfl (HGX.out W hW).c2) hI ?_
 simp only [Act.put, sA, sB, sC]
 refine oi_run (k := 12) (by kernel_rfl) rfl (by rfl) (.pointer (some ⟨gf, 101, none⟩)) (fun w => by go_simp) hI ?_
 simp only [Act.put, sA, sB, sC]
 refine oi_fix (k := 13) (by kernel_rfl) rfl (by rfl) (.int .i64 ev) (fun W hW => ex_loadI rfl rfl (HGX.out W hW).c101) hI ?_
 simp only [Act.put, sA, sB, sC]
 refine oi_loud (k := 8) (by kernel_rfl) rfl ?_
 refine wl_enter (by rfl) (run_callv _ _ _ rfl rfl goesMany #[.int .i64 (a : Int), .int .i64 (b : Int)] (by simp [Act.eval])) ?_
 refine (HS.out _).mono ?_
 rintro e4 w4 ⟨rfl, hx4⟩
 refine ⟨_, rfl, oi_end ⟨hx4, ?_⟩⟩
 simp only [Act.put, sA, sB, sC]
 refine oi_run (k := 11) (by kernel_rfl) rfl (by rfl) (.int .i64 (m : Int)) (by rw [← HMN.out]; exact ex_mulN (i := nb) (d := p) rfl rfl rfl (by rw [HMN.out]; omega)) hx4 ?_
 simp only [Act.put, sA, sB, sC]
 refine oi_loud (k := 14) (by kernel_rfl) rfl ?_
 refine wl_enter (by rfl) (run_callv _ _ _ rfl rfl goesRScanMend #[.agg tt, .slice A n c, .int .i64 (m : Int), .int .i64 ev] (by simp [Act.eval])) ?_
 refine (HK.out _ (hx8d.trans hx4)).mono ?_
 intro e5 w5 h5
 obtain ⟨B5, d5, C5, j5, c5, rfl, hs5, hj5, hc5, hx5, hcf⟩ := HRA.out _ _ _ h5
 have hx45 := hx4.trans hx5
 refine ⟨_, rfl, oi_end ⟨hx45, ?_⟩⟩
 simp only [Act.put, sA, sB, sC]
 refine oi_run (k := 15) (by kernel_rfl) rfl (by rfl) (.tuple #[.slice B5 m d5, .slice C5 j5 c5, .int .i64 0]) (ex_move rfl rfl) hx45 ?_
 simp only [Act.put, sA, sB, sC]
 refine oi_run (k := 16) (by kernel_rfl) rfl (by rfl) (.slice B5 m d5) (ex_extract rfl rfl rfl) hx45 ?_
 simp only [Act.put, sA, sB, sC]
 refine oi_run (k := 17) (by kernel_rfl) rfl (by rfl) (.slice C5 j5 c5) (ex_extract rfl rfl rfl) hx45 ?_
 simp only [Act.put, sA, sB, sC]
 refine oi_run (k := 18) (by kernel_rfl) rfl (by rfl) (.int .i64 0) (ex_extract rfl rfl rfl) hx45 ?_
 simp only [Act.put, sA, sB, sC]
 refine oi_run (k := 19) (by kernel_rfl) rfl (by rfl) (.slice B5 m d5) (ex_assign rfl rfl) hx45 ?_
 simp only [Act.put, sA, sB, sC]
 refine oi_run (k := 20) (by kernel_rfl) rfl (by rfl) (.slice C5 j5 c5) (ex_assign rfl rfl) hx45 ?_
 simp only [Act.put, sA, sB, sC]
 refine oi_run (k := 21) (by kernel_rfl) rfl (by rfl) (.int .i64 0) (ex_assign rfl rfl) hx45 ?_
 simp only [Act.put, sA, sB, sC]
 refine oi_done (by kernel_rfl) ?_
 have hx05 := hx8d.trans hx45
 have hb5 := hbd.ext hx45
 have hp5 := hp3.drew.ext hx45
 go_wp2_with (first
  | ((with_reducible apply gS 38); refine wLdB rfl 47 (.tmp 1) rfl gf rfl hb5 _ Tryz.underlying47 rfl 103 sizeFile hts.out ?_)
  | (go_at_call 61; (with_reducible refine (HSH.out _ _ _ hs5).mono ?_); rintro e w6 ⟨B6, k6, d6, rfl, hr6, hx6⟩; have hp6 := hp5.ext hx6; have hx06 := hx05.trans hx6; have hc6 := hc5.ext hx6)
  | ((with_reducible apply gT 2 40); refine wStB rfl 31 (.tmp 2) (.tmp 40) rfl gp (picV a b (.slice B6 k6 d6)) rfl rfl hp6 3 sizePic (HPSZ.out _ _ _) hz0s.out (HP1.out _ _ _ _ _) ?_; intro w7 hb7 hg7; have hx7 := hx06.grown hg7 (by have := hx1.size; omega); have hu7 := upd_grown hg7))
 have hgpw : gp < w3.heap.size := hp3.lt
 have hr7 := rows_far hr6 (upd_grown hg7) (fun x e => by injection e with e; rw [← e]; exact Nat.lt_of_lt_of_le hgpw (by have h1 := hx45.size; have h2 := hx8d.size; exact h1))
 have hc7 := hc6.upd (upd_grown hg7) (fun ad e q => by injection q with q; have h1 := hcf ad e; have h2 := hx4.size; rw [← q] at h1; exact absurd (Nat.lt_of_lt_of_le hgpw (Nat.le_trans h2 h1)) (Nat.lt_irrefl _))
 exact ret_cell_tmp2 rfl rfl gp rfl hb7 _ Tryz.underlying31 rfl 3 sizePic (HPSZ.out _ _ _) (HR.out _ _ _ _ _ _ _ hr7 hj5 hc7 hx7)
end
end Go.Proofs.YtkggcjdlpendfaaGreatDoor
