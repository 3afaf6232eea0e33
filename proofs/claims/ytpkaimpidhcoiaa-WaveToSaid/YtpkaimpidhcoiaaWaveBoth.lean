/- wave.both, wave.To, wave.From. -/
import Derived.Test.YtpkaimpidhcoiaaAlong
import Derived.Test.YtpkaimpidhcoiaaMid
import Derived.Test.YtpkaimpidhcoiaaQuantRound
import Derived.Test.YtpkaimpidhcoiaaWaveTurn
import Derived.Test.YtpkaimpidhcoiaaMath1
namespace Go.Proofs.Ytpkaimpidhcoiaa
set_option linter.unusedVariables false
set_option linter.unusedSimpArgs false
open Go.RowKit
def roundF (n : Int) : Int := rnd n 67108864
def waveL (C : Nat → Nat → Int) (zs : List Int) : List Int := (alongZ C (alongZ C zs)).map roundF
theorem waveL_len (C : Nat → Nat → Int) (zs : List Int) : (waveL C zs).length = 64 := by simp [waveL, alongZ_len]
theorem both1_any (z : Int) (w : World) : Calls Try.prog 36 (#[.int .i64 z] ++ #[]) w fun e w' => e = .returned (.bool (!inB z (-40000) 40000)) ∧ w = w' := by
  by_cases h : z < -40000
  · have h' : decide (z < -40000) = true := by simpa using h
    have e : (!inB z (-40000) 40000) = true := by rw [inB_not.2 (.inl h)]; rfl
    rw [e]; clear e
    go_enter Try.func36, Try.ntmps36
    go_wp2_with fail
    go_ret
    exact ⟨rfl, rfl⟩
  · have h' : decide (z < -40000) = false := by simpa using h
    have e : (!inB z (-40000) 40000) = decide (40000 < z) := by rw [Bool.eq_iff_iff, Bool.not_eq_true', inB_not]; simp; omega
    rw [e]; clear e
    go_enter Try.func36, Try.ntmps36
    go_wp2_with fail
    go_ret
    exact ⟨rfl, rfl⟩
theorem enters_both1 : Enters Try.prog 36 := enters_of Try.func36 (by kernel_rfl) rfl
set_option maxHeartbeats 800000 in
theorem wboth_in (gf : Nat) (eg : Enters Try.prog gf) (C : Nat → Nat → Int) (zs : List Int) (w : World) (hz : zs.length = 64) (hal : allIn zs (-40000) 40000 = true)
    (hC : ∀ i k, i < 8 → k < 8 → -4096 ≤ C i k ∧ C i k ≤ 4096)
    (hF : ∀ i k W, i < 8 → k < 8 → Calls Try.prog gf (#[.int .i64 (i : Nat), .int .i64 (k : Nat)] ++ #[]) W fun e w' => e = .returned (.int .i64 (C i k)) ∧ Ext W w') :
    Calls Try.prog 25 #[.agg (bv zs), .func (.func gf) #[] #[]] w fun e w' => e = .returned (.tuple #[.agg (bv (waveL C zs)), .int .i64 0]) ∧ Ext w w' := by
  have hzb : ∀ z ∈ zs, -40000 ≤ z ∧ z ≤ 40000 := allIn_iff.1 hal
  have hb1 := alongZ_bd C zs 40000 (by omega) hzb hC
  have hb2 := alongZ_bd C (alongZ C zs) (8 * (40000 * 4096)) (by omega) hb1 hC
  have H1 := hid_ (fun W => along_any gf eg C zs 40000 W hz (by omega) (by omega) hzb hC hF)
  have H2 := hid_ (fun W => along_any gf eg C (alongZ C zs) (8 * (40000 * 4096)) W (alongZ_len _ _) (by omega) (by omega) hb1 hC hF)
  have HSL := hid_ (fun (W : World) g (h : Blk W g 27 (bv zs)) => h.bsl (c := 64) (by omega) (by omega))
  rw [hz] at HSL
  have HCF := hid_ (fun W v (hs : SL W 1 v 64 (ints zs)) => containsFunc_any 36 #[] (fun z => !inB z (-40000) 40000) enters_both1 v zs W (by rw [hz]; exact hs) (fun z _ => both1_any z W))
  simp only [inB_any, hal] at HCF
  have HW := hid_ (show waveL C zs = (alongZ C (alongZ C zs)).map roundF from rfl)
  have hsz := hid_ ((bv_size zs).trans hz)
  have hVl := alongZ_len C (alongZ C zs)
  generalize hV : alongZ C (alongZ C zs) = V at *
  generalize alongZ C zs = U at *
  have HVB := hid_ hb2
  have HVL := hid_ hVl
  have hsv := hid_ ((bv_size V).trans hVl)
  have hov := hid_ (bv_one V)
  clear hV hb1 hb2 hzb hal hC hF eg hVl
  generalize bv zs = cz at *
  generalize bv U = cu at *
  generalize hcv : bv V = cv at *
  have HCV := hid_ hcv
  clear hcv hz
  go_enter Try.func25, Try.ntmps25
  go_wp2_with (first
    | (refine wpList_box_abs rfl 27 (.tmp 0) rfl cz rfl ?_; intro w1 gz hbz1 hx1 hgz)
    | (refine wpList_alloc_abs' rfl (some 4) rfl 27 rfl _ zero48 ?_; intro w2 gr hbr2 hx2 hgr; have hbz2 := hbz1.ext hx2; have hsl := HSL.out _ _ hbz2)
    | (go_at_call 35; (with_reducible refine (HCF.out _ _ hsl).mono ?_); rintro e w' ⟨rfl, rfl⟩)
    | (refine wpList_load_blk rfl 27 (.tmp 2) rfl _ rfl hbz2 _ Try.underlying27 rfl 64 size48 hsz.out ?_)
    | (go_at_call 37; (with_reducible refine (H1.out _).mono ?_); rintro e w3 ⟨rfl, hx3⟩)
    | (go_at_call 37; (with_reducible refine (H2.out _).mono ?_); rintro e w4 ⟨rfl, hx4⟩; have hbz4 := (hbz2.ext hx3).ext hx4; have hbr4 := (hbr2.ext hx3).ext hx4)
    | (refine wpList_store_blk rfl 27 (.tmp 2) (.tmp 15) rfl _ _ rfl rfl hbz4 64 size48 hsv.out hsz.out hov.out ?_; intro w5 hbz5 hg5; have hbr5 := hbr4.grown hg5 (by have := hbz1.lt; simp; omega))
    | (refine wpList_load_blk rfl 27 (.tmp 2) rfl _ rfl hbz5 _ Try.underlying27 rfl 64 size48 hsv.out ?_))
  have hne1 : gz ≠ gr := by have := hbz1.lt; omega
  have hxx : Ext w w5 := (((hx1.trans hx2).trans hx3).trans hx4).grown hg5 hgz
  have hw02 : w.heap.size ≤ gr := by have := hx1.size; omega
  clear hbz1 hbz2 hbz4 hbr2 hbr4 hx1 hx2 hx3 hx4 hg5 hsl
  go_loopw [17] (fun i wr => ∃ k : Nat, k ≤ 64 ∧ i = .int .i64 k ∧ Blk wr gz 27 (bv ((V.take k).map roundF ++ V.drop k)) ∧ Blk wr gr 27 (bv zeros64) ∧ Ext w wr) (fun i _ => 64 - (intOf i).toNat)
  case atStart => exact ⟨0, by omega, rfl, by rw [← HCV.out] at hbz5; simpa using hbz5, hbr5, hxx⟩
  case round =>
    obtain ⟨k, hk, rfl, hb1, hb3, hxr⟩ := hrel
    by_cases hlt : k < 64
    · have hzl : k < V.length := by have := HVL.out; omega
      have hix := fun W => run_index48 cv k (.int .i64 V[k]) hlt (by rw [← HCV.out]; exact bv_at V k hzl) W
      obtain ⟨z1, z2⟩ := HVB.out V[k] (List.getElem_mem hzl)
      have HR : Hid (∀ W, Calls Try.prog 32 #[.int .i64 V[k], .int .i64 67108864] W fun e w' => e = .returned (.int .i64 (roundF V[k])) ∧ W = w') := hid_ (fun W => round_any V[k] 67108864 W (by omega) (by omega) (by omega) (by omega))
      obtain ⟨old, hold⟩ : ∃ u, wr.cell? ⟨gz, k, none⟩ = some u := by
        rw [hb1.cell k]
        have hl := mid_len roundF V k (by omega)
        exact ⟨_, bv_at _ k (by omega)⟩
      have hfr := hb1.frozen k
      clear z1 z2
      go_wp2_with (go_at_call 32; (with_reducible refine (HR.out _).mono ?_); rintro e w' ⟨rfl, rfl⟩)
      go_roundw
      case rel =>
        refine ⟨k + 1, by omega, by go_num, ?_, hb3.far (p := ⟨gz, k, none⟩) (by simpa using hne1.symm) _, hxr.setCell (by omega) _⟩
        have := hb1.set_ k (.int .i64 (roundF V[k]))
        rw [bv_set, mid_set roundF V k hzl] at this
        exact this
      case measure => simp [intOf]; omega
    · obtain rfl : k = 64 := by omega
      have hfin : (V.take 64).map roundF ++ V.drop 64 = V.map roundF := by
        rw [List.take_of_length_le (by have := HVL.out; omega), List.drop_eq_nil_of_le (by have := HVL.out; omega), List.append_nil]
      have hlz : (bv (V.map roundF)).size = 64 := by have := HVL.out; rw [bv_size]; simp; omega
      rw [hfin] at hb1
      have hone := bv_one (V.map roundF)

      generalize hcr : bv (V.map roundF) = cr at *
      have HCR := hid_ hcr
      have hlz' := hid_ hlz
      have hone' := hid_ hone
      clear hfin hlz hone hcr
      go_wp2_with (first
        | (refine wpList_load_blk rfl 27 (.tmp 2) rfl _ rfl hb1 _ Try.underlying27 rfl 64 size48 hlz'.out ?_)
        | (refine wpList_store_blk rfl 27 (.tmp 4) (.tmp 26) rfl _ _ rfl rfl hb3 64 size48 hlz'.out (by rw [bv_size]; rfl) hone'.out ?_; intro w7 hb7 hg7))
      refine ret_cell_tmp rfl rfl _ rfl hb7 _ Try.underlying27 rfl 64 size48 hlz'.out ⟨by rw [HW.out, HCR.out]; rfl, hxr.grown hg7 hw02⟩
set_option maxHeartbeats 400000 in
theorem wboth_out (gf : Nat) (zs : List Int) (w : World) (hz : zs.length = 64) (hal : allIn zs (-40000) 40000 = false) :
    Calls Try.prog 25 #[.agg (bv zs), .func (.func gf) #[] #[]] w fun e w' => e = .returned (.tuple #[.agg (bv zeros64), .int .i64 1]) ∧ Ext w w' := by
  have HSL := hid_ (fun (W : World) g (h : Blk W g 27 (bv zs)) => h.bsl (c := 64) (by omega) (by omega))
  rw [hz] at HSL
  have HCF := hid_ (fun W v (hs : SL W 1 v 64 (ints zs)) => containsFunc_any 36 #[] (fun z => !inB z (-40000) 40000) enters_both1 v zs W (by rw [hz]; exact hs) (fun z _ => both1_any z W))
  simp only [inB_any, hal] at HCF
  have hs0 : Hid ((bv zeros64).size = 64) := hid_ (by rw [bv_size]; rfl)
  have ho0 := hid_ (bv_one zeros64)
  have hbt := hid_ built48
  generalize bv zs = cz at *
  generalize hc0 : bv zeros64 = c0 at *
  have HC0 := hid_ hc0
  clear hz hal hc0
  go_enter Try.func25, Try.ntmps25
  go_wp2_with (first
    | (refine wpList_box_abs rfl 27 (.tmp 0) rfl cz rfl ?_; intro w1 gz hbz1 hx1 hgz)
    | (refine wpList_alloc_abs' rfl (some 4) rfl 27 rfl _ zero48 ?_; intro w2 gr hbr2 hx2 hgr; have hbz2 := hbz1.ext hx2; have hsl := HSL.out _ _ hbz2)
    | (go_at_call 35; (with_reducible refine (HCF.out _ _ hsl).mono ?_); rintro e w' ⟨rfl, rfl⟩)
    | (refine wpList_build0 rfl 27 rfl _ hbt.out ?_)
    | (refine wpList_store_blk rfl 27 (.tmp 4) (.tmp 10) rfl _ _ rfl rfl hbr2 64 size48 hs0.out (by rw [show (Value.agg (bv zeros64)).cells = bv zeros64 from rfl, HC0.out]; exact hs0.out) ho0.out ?_; intro w7 hb7 hg7))
  exact ret_cell_tmp rfl rfl _ rfl hb7 _ Try.underlying27 rfl 64 size48 hs0.out ⟨rfl, (hx1.trans hx2).grown hg7 (by have := hx1.size; omega)⟩
def waveR (C : Nat → Nat → Int) (zs : List Int) : List Int × Int := if allIn zs (-40000) 40000 then (waveL C zs, 0) else (zeros64, 1)
theorem waveR_len (C : Nat → Nat → Int) (zs : List Int) : (waveR C zs).1.length = 64 := by
  unfold waveR
  split
  · exact waveL_len C zs
  · rfl
theorem wboth_any (gf : Nat) (eg : Enters Try.prog gf) (C : Nat → Nat → Int) (zs : List Int) (w : World) (hz : zs.length = 64)
    (hC : ∀ i k, i < 8 → k < 8 → -4096 ≤ C i k ∧ C i k ≤ 4096)
    (hF : ∀ i k W, i < 8 → k < 8 → Calls Try.prog gf (#[.int .i64 (i : Nat), .int .i64 (k : Nat)] ++ #[]) W fun e w' => e = .returned (.int .i64 (C i k)) ∧ Ext W w') :
    Calls Try.prog 25 #[.agg (bv zs), .func (.func gf) #[] #[]] w fun e w' => e = .returned (.tuple #[.agg (bv (waveR C zs).1), .int .i64 (waveR C zs).2]) ∧ Ext w w' := by
  unfold waveR
  cases h : allIn zs (-40000) 40000 with
  | true => simpa using wboth_in gf eg C zs w hz h hC hF
  | false => simpa using wboth_out gf zs w hz h
theorem basisZ_bd (i k : Nat) : -4096 ≤ basisZ i k ∧ basisZ i k ≤ 4096 := by
  unfold basisZ
  split
  · omega
  · exact wv_bounds _ (Nat.mod_lt _ (by omega))
theorem enters_basis : Enters Try.prog 26 := enters_of Try.func26 (by kernel_rfl) rfl
def toC (i k : Nat) : Int := basisZ i k
def frC (i k : Nat) : Int := basisZ k i
set_option maxHeartbeats 400000 in
theorem waveTo_any (zs : List Int) (w : World) (hz : zs.length = 64) :
    Calls Try.prog 16 #[.agg (bv zs)] w fun e w' => e = .returned (.tuple #[.agg (bv (waveR toC zs).1), .int .i64 (waveR toC zs).2]) ∧ Ext w w' := by
  have HB := hid_ (fun W => wboth_any 26 enters_basis toC zs W hz (fun i k _ _ => basisZ_bd i k) (fun i k W hi hk => by simpa [toC] using basis_any i k W (by omega) (by omega)))
  have hsz := hid_ ((bv_size zs).trans hz)
  have hsr := hid_ ((bv_size _).trans (waveR_len toC zs))
  have hor := hid_ (bv_one (waveR toC zs).1)
  generalize bv (waveR toC zs).1 = cr at *
  generalize (waveR toC zs).2 = er at *
  generalize bv zs = cz at *
  clear hz
  go_enter Try.func16, Try.ntmps16
  go_wp2_with (first
    | (refine wpList_box_abs rfl 27 (.tmp 0) rfl cz rfl ?_; intro w1 gz hbz1 hx1 hgz)
    | (refine wpList_alloc_abs rfl 27 rfl _ zero48 ?_; intro w3 gr hbr3 hx3 hgr; have hbz3 := hbz1.ext hx3)
    | (refine wpList_load_blk rfl 27 (.tmp 1) rfl _ rfl hbz3 _ Try.underlying27 rfl 64 size48 hsz.out ?_)
    | (go_at_call 25; (with_reducible refine (HB.out _).mono ?_); rintro e w4 ⟨rfl, hx4⟩; have hbr4 := hbr3.ext hx4)
    | (refine wpList_store_blk rfl 27 (.tmp 2) (.tmp 6) rfl _ _ rfl rfl hbr4 64 size48 hsr.out (by rw [show (Value.agg (bv zeros64)).cells = bv zeros64 from rfl, bv_size]; rfl) hor.out ?_; intro w7 hb7 hg7))
  exact ret_cell_tmp rfl rfl _ rfl hb7 _ Try.underlying27 rfl 64 size48 hsr.out ⟨rfl, ((hx1.trans hx3).trans hx4).grown hg7 (by have := hx1.size; omega)⟩
theorem from1_any (i k : Nat) (w : World) (hi : i < 8) (hk : k < 8) : Calls Try.prog 31 (#[.int .i64 (i : Nat), .int .i64 (k : Nat)] ++ #[]) w fun e w' => e = .returned (.int .i64 (frC i k)) ∧ Ext w w' := by
  have HB : Hid (∀ W, Calls Try.prog 26 #[.int .i64 (k : Nat), .int .i64 (i : Nat)] W fun e w' => e = .returned (.int .i64 (frC i k)) ∧ Ext W w') := hid_ (fun W => basis_any k i W (by omega) (by omega))
  generalize frC i k = c at *
  go_enter Try.func31, Try.ntmps31
  go_wp2_with (go_at_call 26; (with_reducible refine (HB.out _).mono ?_); rintro e w4 ⟨rfl, hx4⟩)
  go_ret
  exact ⟨rfl, hx4⟩
theorem enters_from1 : Enters Try.prog 31 := enters_of Try.func31 (by kernel_rfl) rfl
set_option maxHeartbeats 400000 in
theorem waveFrom_any (zs : List Int) (w : World) (hz : zs.length = 64) :
    Calls Try.prog 19 #[.agg (bv zs)] w fun e w' => e = .returned (.tuple #[.agg (bv (waveR frC zs).1), .int .i64 (waveR frC zs).2]) ∧ Ext w w' := by
  have HB := hid_ (fun W => wboth_any 31 enters_from1 frC zs W hz (fun i k _ _ => basisZ_bd k i) (fun i k W hi hk => from1_any i k W hi hk))
  have hsz := hid_ ((bv_size zs).trans hz)
  have hsr := hid_ ((bv_size _).trans (waveR_len frC zs))
  have hor := hid_ (bv_one (waveR frC zs).1)
  generalize bv (waveR frC zs).1 = cr at *
  generalize (waveR frC zs).2 = er at *
  generalize bv zs = cz at *
  clear hz
  go_enter Try.func19, Try.ntmps19
  go_wp2_with (first
    | (refine wpList_box_abs rfl 27 (.tmp 0) rfl cz rfl ?_; intro w1 gz hbz1 hx1 hgz)
    | (refine wpList_alloc_abs rfl 27 rfl _ zero48 ?_; intro w3 gr hbr3 hx3 hgr; have hbz3 := hbz1.ext hx3)
    | (refine wpList_load_blk rfl 27 (.tmp 1) rfl _ rfl hbz3 _ Try.underlying27 rfl 64 size48 hsz.out ?_)
    | (go_at_call 25; (with_reducible refine (HB.out _).mono ?_); rintro e w4 ⟨rfl, hx4⟩; have hbr4 := hbr3.ext hx4)
    | (refine wpList_store_blk rfl 27 (.tmp 2) (.tmp 6) rfl _ _ rfl rfl hbr4 64 size48 hsr.out (by rw [show (Value.agg (bv zeros64)).cells = bv zeros64 from rfl, bv_size]; rfl) hor.out ?_; intro w7 hb7 hg7))
  exact ret_cell_tmp rfl rfl _ rfl hb7 _ Try.underlying27 rfl 64 size48 hsr.out ⟨rfl, ((hx1.trans hx3).trans hx4).grown hg7 (by have := hx1.size; omega)⟩
end Go.Proofs.Ytpkaimpidhcoiaa
