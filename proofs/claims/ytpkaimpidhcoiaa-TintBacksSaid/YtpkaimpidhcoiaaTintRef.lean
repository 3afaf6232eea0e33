/- tint.To, tint.From, and the reference's. -/
import Derived.Test.YtpkaimpidhcoiaaTintThree
import Derived.Test.YtpkaimpidhcoiaaRefRound
import Derived.Test.YtpkaimpidhcoiaaAppend
namespace Go.Proofs.Ytpkaimpidhcoiaa
set_option linter.unusedVariables false
set_option linter.unusedSimpArgs false
open Go.RowKit
set_option maxHeartbeats 400000 in
theorem samples_any (l : List Int) (A : Option Addr) (c : Nat) (w : World) (n : Nat) (hn : l.length = n) (hl : SL w 1 (.slice A n c) n (ints l)) (hb : n ≤ 1000) :
    Calls Try.prog 21 #[.slice A n c] w fun e w' => e = .returned (.bool (allIn l 0 255)) ∧ w = w' := by
  subst hn
  go_enter Try.func21, Try.ntmps21
  go_wp2_with fail
  go_loop [7] (fun i => ∃ k : Nat, k ≤ l.length ∧ i = .int .i64 k ∧ ∀ z ∈ l.take k, 0 ≤ z ∧ z ≤ 255) (fun i => l.length - (intOf i).toNat)
  case atStart => exact ⟨0, by omega, rfl, by simp⟩
  case round =>
    obtain ⟨k, hk, rfl, hin⟩ := hrel
    by_cases hlt : k < l.length
    · obtain ⟨ad, u, rfl, -, hxo, hco⟩ := hl.at1 hlt
      obtain ⟨hko, rfl⟩ := ints_at _ _ _ hxo
      cases hq : inB l[k] 0 255 with
      | true =>
        have HN := hid_ (allIn_take hin hlt (inB_iff.1 hq))
        clear hin hxo
        go_wp2_with (go_at_call 33; refine (outside_any _ _ _ _).mono ?_; rintro e w' ⟨rfl, rfl⟩)
        go_round
        case rel => exact ⟨k + 1, by omega, by go_num, HN.out⟩
        case measure => simp [intOf]; omega
      | false =>
        have HF := hid_ (allIn_no hlt hq)
        clear hin hxo
        go_wp2_with (go_at_call 33; refine (outside_any _ _ _ _).mono ?_; rintro e w' ⟨rfl, rfl⟩)
        go_ret
        exact ⟨by rw [HF.out]; rfl, rfl⟩
    · have HF : Hid (allIn l 0 255 = true) := hid_ (allIn_iff.2 fun z hz => hin z (by rwa [List.take_of_length_le (by omega)]))
      clear hin
      go_wp2_with fail
      go_ret
      exact ⟨by rw [HF.out]; rfl, rfl⟩
theorem sample_any (n : Int) (w : World) (h1 : -1000000000000 ≤ n) (h2 : n ≤ 1000000000000) :
    Calls Try.prog 22 #[.int .i64 n] w fun e w' => e = .returned (.int .i64 (clampZ (rnd n 65536) 0 255)) ∧ w = w' := by
  have HR := hid_ (fun W => rround_any n 65536 W (by omega) (by omega) (by omega) (by omega))
  generalize rnd n 65536 = r at *
  go_enter Try.func22, Try.ntmps22
  go_wp2_with (first
    | (go_at_call 29; (with_reducible refine (HR.out _).mono ?_); rintro e w' ⟨rfl, rfl⟩)
    | (go_at_call 34; refine (clamp_any _ _ _ _).mono ?_; rintro e w' ⟨rfl, rfl⟩))
  go_ret
  exact ⟨rfl, rfl⟩
def toM : List Int := [19595, 38470, 7471, 0, -11059, -21709, 32768, 8388608, 32768, -27439, -5329, 8388608]
theorem tintTo_any (r g b : Int) (w : World) : Calls Try.prog 8 #[.int .i64 r, .int .i64 g, .int .i64 b] w fun e w' => e = .returned (.tuple #[.int .i64 (threeZ toM [r, g, b]).1, .int .i64 (threeZ toM [r, g, b]).2.1, .int .i64 (threeZ toM [r, g, b]).2.2.1, .int .i64 (threeZ toM [r, g, b]).2.2.2]) ∧ Ext w w' := by
  have HT := hid_ (fun W => three_any toM [r, g, b] W rfl rfl (by decide))
  have e1 : bv toM = #[.int .i64 19595, .int .i64 38470, .int .i64 7471, .int .i64 0, .int .i64 (-11059), .int .i64 (-21709), .int .i64 32768, .int .i64 8388608, .int .i64 32768, .int .i64 (-27439), .int .i64 (-5329), .int .i64 8388608] := rfl
  have e2 : bv [r, g, b] = #[.int .i64 r, .int .i64 g, .int .i64 b] := rfl
  rw [e1, e2] at HT
  clear e1 e2
  generalize threeZ toM [r, g, b] = t at *
  go_enter Try.func8, Try.ntmps8
  go_wp2_with (first
    | (go_at_call 20; (with_reducible refine (HT.out _).mono ?_); rintro e w1 ⟨rfl, hx1⟩))
  (try simp only [Exit.inBlock, Exit.then]); refine bodyPost_ret (results_tmp4 rfl _ _ _) rfl ?_; exact ⟨rfl, hx1⟩
theorem rtintTo_any (r g b : Int) (w : World) : Calls Try.prog 9 #[.int .i64 r, .int .i64 g, .int .i64 b] w fun e w' => e = .returned (.tuple #[.int .i64 (threeZ toM [r, g, b]).1, .int .i64 (threeZ toM [r, g, b]).2.1, .int .i64 (threeZ toM [r, g, b]).2.2.1, .int .i64 (threeZ toM [r, g, b]).2.2.2]) ∧ Ext w w' := by
  have HS := hid_ (fun W A c (h : SL W 1 (.slice A 3 c) 3 (ints [r, g, b])) => samples_any [r, g, b] A c W 3 rfl h (by omega))
  have HSL := hid_ (fun (W : World) => (Blk.new W 3 #[.int .i64 r, .int .i64 g, .int .i64 b]).sl (size := 1) (n := 3) (c := 3) rfl (by omega) (by omega))
  cases hq : allIn [r, g, b] 0 255 with
  | true =>
    rw [hq] at HS
    have hb := allIn_iff.1 hq
    obtain ⟨r1, r2⟩ := hb r (by simp)
    obtain ⟨g1, g2⟩ := hb g (by simp)
    obtain ⟨b1, b2⟩ := hb b (by simp)
    have e0 : mval toM [r, g, b] 0 = clampZ (rnd (19595 * r + 38470 * g + 7471 * b) 65536) 0 255 := by
      unfold mval msum mrow toM; simp; congr 2; omega
    have e1 : mval toM [r, g, b] 1 = clampZ (rnd (8388608 + 32768 * b - 11059 * r - 21709 * g) 65536) 0 255 := by
      unfold mval msum mrow toM; simp; congr 2; omega
    have e2 : mval toM [r, g, b] 2 = clampZ (rnd (8388608 + 32768 * r - 27439 * g - 5329 * b) 65536) 0 255 := by
      unfold mval msum mrow toM; simp; congr 2; omega
    have HF := hid_ (show threeZ toM [r, g, b] = (clampZ (rnd (19595 * r + 38470 * g + 7471 * b) 65536) 0 255, clampZ (rnd (8388608 + 32768 * b - 11059 * r - 21709 * g) 65536) 0 255, clampZ (rnd (8388608 + 32768 * r - 27439 * g - 5329 * b) 65536) 0 255, 0) by unfold threeZ; rw [if_pos hq, e0, e1, e2])
    clear e0 e1 e2 hb hq
    rw [HF.out]
    have H0 := hid_ (fun W => sample_any (19595 * r + 38470 * g + 7471 * b) W (by omega) (by omega))
    have H1 := hid_ (fun W => sample_any (8388608 + 32768 * b - 11059 * r - 21709 * g) W (by omega) (by omega))
    have H2 := hid_ (fun W => sample_any (8388608 + 32768 * r - 27439 * g - 5329 * b) W (by omega) (by omega))
    generalize clampZ (rnd (19595 * r + 38470 * g + 7471 * b) 65536) 0 255 = z0 at *
    generalize clampZ (rnd (8388608 + 32768 * b - 11059 * r - 21709 * g) 65536) 0 255 = z1 at *
    generalize clampZ (rnd (8388608 + 32768 * r - 27439 * g - 5329 * b) 65536) 0 255 = z2 at *
    go_enter Try.func9, Try.ntmps9
    go_wp2_with (first
      | (go_at_call 21; (with_reducible refine (HS.out _ _ _ (HSL.out _)).mono ?_); rintro e w1 ⟨rfl, rfl⟩)
      | (go_at_call 22; (with_reducible refine (H0.out _).mono ?_); rintro e w1 ⟨rfl, rfl⟩)
      | (go_at_call 22; (with_reducible refine (H1.out _).mono ?_); rintro e w1 ⟨rfl, rfl⟩)
      | (go_at_call 22; (with_reducible refine (H2.out _).mono ?_); rintro e w1 ⟨rfl, rfl⟩))
    (try simp only [Exit.inBlock, Exit.then]); refine bodyPost_ret (results_tmp4 rfl _ _ _) rfl ?_; exact ⟨rfl, (Ext.refl w).alloc _⟩
  | false =>
    rw [hq] at HS
    have HF := hid_ (show threeZ toM [r, g, b] = (0, 0, 0, 1) by unfold threeZ; rw [hq]; rfl)
    rw [HF.out]
    clear hq
    go_enter Try.func9, Try.ntmps9
    go_wp2_with (go_at_call 21; (with_reducible refine (HS.out _ _ _ (HSL.out _)).mono ?_); rintro e w1 ⟨rfl, rfl⟩)
    (try simp only [Exit.inBlock, Exit.then]); refine bodyPost_ret (results_tmp4 rfl _ _ _) rfl ?_; exact ⟨rfl, (Ext.refl w).alloc _⟩
def frM : List Int := [65536, 0, 91881, -11760768, 65536, -22554, -46802, 8877568, 65536, 116130, 0, -14864640]
theorem tintFrom_any (y u v : Int) (w : World) : Calls Try.prog 10 #[.int .i64 y, .int .i64 u, .int .i64 v] w fun e w' => e = .returned (.tuple #[.int .i64 (threeZ frM [y, u, v]).1, .int .i64 (threeZ frM [y, u, v]).2.1, .int .i64 (threeZ frM [y, u, v]).2.2.1, .int .i64 (threeZ frM [y, u, v]).2.2.2]) ∧ Ext w w' := by
  have HT := hid_ (fun W => three_any frM [y, u, v] W rfl rfl (by decide))
  have e1 : bv frM = #[.int .i64 65536, .int .i64 0, .int .i64 91881, .int .i64 (-11760768), .int .i64 65536, .int .i64 (-22554), .int .i64 (-46802), .int .i64 8877568, .int .i64 65536, .int .i64 116130, .int .i64 0, .int .i64 (-14864640)] := rfl
  have e2 : bv [y, u, v] = #[.int .i64 y, .int .i64 u, .int .i64 v] := rfl
  rw [e1, e2] at HT
  clear e1 e2
  generalize threeZ frM [y, u, v] = t at *
  go_enter Try.func10, Try.ntmps10
  go_wp2_with (first
    | (go_at_call 20; (with_reducible refine (HT.out _).mono ?_); rintro e w1 ⟨rfl, hx1⟩))
  (try simp only [Exit.inBlock, Exit.then]); refine bodyPost_ret (results_tmp4 rfl _ _ _) rfl ?_; exact ⟨rfl, hx1⟩
theorem rtintFrom_any (y u v : Int) (w : World) : Calls Try.prog 11 #[.int .i64 y, .int .i64 u, .int .i64 v] w fun e w' => e = .returned (.tuple #[.int .i64 (threeZ frM [y, u, v]).1, .int .i64 (threeZ frM [y, u, v]).2.1, .int .i64 (threeZ frM [y, u, v]).2.2.1, .int .i64 (threeZ frM [y, u, v]).2.2.2]) ∧ Ext w w' := by
  have HS := hid_ (fun W A c (h : SL W 1 (.slice A 3 c) 3 (ints [y, u, v])) => samples_any [y, u, v] A c W 3 rfl h (by omega))
  have HSL := hid_ (fun (W : World) => (Blk.new W 3 #[.int .i64 y, .int .i64 u, .int .i64 v]).sl (size := 1) (n := 3) (c := 3) rfl (by omega) (by omega))
  cases hq : allIn [y, u, v] 0 255 with
  | true =>
    rw [hq] at HS
    have hb := allIn_iff.1 hq
    obtain ⟨r1, r2⟩ := hb y (by simp)
    obtain ⟨g1, g2⟩ := hb u (by simp)
    obtain ⟨b1, b2⟩ := hb v (by simp)
    have e0 : mval frM [y, u, v] 0 = clampZ (rnd (65536 * y + 91881 * (v - 128)) 65536) 0 255 := by
      unfold mval msum mrow frM; simp; congr 2; omega
    have e1 : mval frM [y, u, v] 1 = clampZ (rnd (65536 * y - 22554 * (u - 128) - 46802 * (v - 128)) 65536) 0 255 := by
      unfold mval msum mrow frM; simp; congr 2; omega
    have e2 : mval frM [y, u, v] 2 = clampZ (rnd (65536 * y + 116130 * (u - 128)) 65536) 0 255 := by
      unfold mval msum mrow frM; simp; congr 2; omega
    have HF := hid_ (show threeZ frM [y, u, v] = (clampZ (rnd (65536 * y + 91881 * (v - 128)) 65536) 0 255, clampZ (rnd (65536 * y - 22554 * (u - 128) - 46802 * (v - 128)) 65536) 0 255, clampZ (rnd (65536 * y + 116130 * (u - 128)) 65536) 0 255, 0) by unfold threeZ; rw [if_pos hq, e0, e1, e2])
    clear e0 e1 e2 hb hq
    rw [HF.out]
    have H0 := hid_ (fun W => sample_any (65536 * y + 91881 * (v - 128)) W (by omega) (by omega))
    have H1 := hid_ (fun W => sample_any (65536 * y - 22554 * (u - 128) - 46802 * (v - 128)) W (by omega) (by omega))
    have H2 := hid_ (fun W => sample_any (65536 * y + 116130 * (u - 128)) W (by omega) (by omega))
    generalize clampZ (rnd (65536 * y + 91881 * (v - 128)) 65536) 0 255 = z0 at *
    generalize clampZ (rnd (65536 * y - 22554 * (u - 128) - 46802 * (v - 128)) 65536) 0 255 = z1 at *
    generalize clampZ (rnd (65536 * y + 116130 * (u - 128)) 65536) 0 255 = z2 at *
    go_enter Try.func11, Try.ntmps11
    go_wp2_with (first
      | (go_at_call 21; (with_reducible refine (HS.out _ _ _ (HSL.out _)).mono ?_); rintro e w1 ⟨rfl, rfl⟩)
      | (go_at_call 22; (with_reducible refine (H0.out _).mono ?_); rintro e w1 ⟨rfl, rfl⟩)
      | (go_at_call 22; (with_reducible refine (H1.out _).mono ?_); rintro e w1 ⟨rfl, rfl⟩)
      | (go_at_call 22; (with_reducible refine (H2.out _).mono ?_); rintro e w1 ⟨rfl, rfl⟩))
    (try simp only [Exit.inBlock, Exit.then]); refine bodyPost_ret (results_tmp4 rfl _ _ _) rfl ?_; exact ⟨rfl, (Ext.refl w).alloc _⟩
  | false =>
    rw [hq] at HS
    have HF := hid_ (show threeZ frM [y, u, v] = (0, 0, 0, 1) by unfold threeZ; rw [hq]; rfl)
    rw [HF.out]
    clear hq
    go_enter Try.func11, Try.ntmps11
    go_wp2_with (go_at_call 21; (with_reducible refine (HS.out _ _ _ (HSL.out _)).mono ?_); rintro e w1 ⟨rfl, rfl⟩)
    (try simp only [Exit.inBlock, Exit.then]); refine bodyPost_ret (results_tmp4 rfl _ _ _) rfl ?_; exact ⟨rfl, (Ext.refl w).alloc _⟩
end Go.Proofs.Ytpkaimpidhcoiaa
