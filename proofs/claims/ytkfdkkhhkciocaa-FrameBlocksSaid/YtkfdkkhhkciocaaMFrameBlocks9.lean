/- Contracts for the law FrameBlocks, part 9: what the functions that it reaches answer, for all arguments that the theorems name. -/
import Derived.Test.YtkfdkkhhkciocaaMFrameBlocks8
import Derived.Test.YtkfdkkhhkciocaaMFrameBlocks7
import Derived.Test.YtkfdkkhhkciocaaMFrameBlocks3
import Derived.Test.YtkfdkkhhkciocaaMFrameBlocks4
import Derived.Test.YtkfdkkhhkciocaaMFrameBlocks1
/- wave.both, wave.To, wave.From. -/
namespace Go.Proofs.Ytkfdkkhhkciocaa
set_option linter.unusedVariables false
set_option linter.unusedSimpArgs false
open Go.RowKit
def roundF (n : Int) : Int := rnd n 67108864
def waveL (C : Nat → Nat → Int) (zs : List Int) : List Int := (alongZ C (alongZ C zs)).map roundF
theorem waveL_len (C : Nat → Nat → Int) (zs : List Int) : (waveL C zs).length = 64 := by simp [waveL, alongZ_len]
theorem both1_any (z : Int) (w : World) : Calls Try.prog 116 (#[.int .i64 z] ++ #[]) w fun e w' => e = .returned (.bool (!inB z (-40000) 40000)) ∧ w = w' := by
  by_cases h : z < -40000
  · have h' : decide (z < -40000) = true := by simpa using h
    have e : (!inB z (-40000) 40000) = true := by rw [inB_not.2 (.inl h)]; rfl
    rw [e]; clear e
    go_enter Try.func116, Try.ntmps116
    go_wp2_with fail
    go_ret
    exact ⟨rfl, rfl⟩
  · have h' : decide (z < -40000) = false := by simpa using h
    have e : (!inB z (-40000) 40000) = decide (40000 < z) := by rw [Bool.eq_iff_iff, Bool.not_eq_true', inB_not]; simp; omega
    rw [e]; clear e
    go_enter Try.func116, Try.ntmps116
    go_wp2_with fail
    go_ret
    exact ⟨rfl, rfl⟩
theorem enters_both1 : Enters Try.prog 116 := enters_of Try.func116 (by kernel_rfl) rfl
set_option maxHeartbeats 800000 in
theorem wboth_in (gf : Nat) (eg : Enters Try.prog gf) (C : Nat → Nat → Int) (zs : List Int) (w : World) (hz : zs.length = 64) (hal : allIn zs (-40000) 40000 = true)
    (hC : ∀ i k, i < 8 → k < 8 → -4096 ≤ C i k ∧ C i k ≤ 4096)
    (hF : ∀ i k W, i < 8 → k < 8 → Calls Try.prog gf (#[.int .i64 (i : Nat), .int .i64 (k : Nat)] ++ #[]) W fun e w' => e = .returned (.int .i64 (C i k)) ∧ Ext W w') :
    Calls Try.prog 89 #[.agg (bv zs), .func (.func gf) #[] #[]] w fun e w' => e = .returned (.tuple #[.agg (bv (waveL C zs)), .int .i64 0]) ∧ Ext w w' := by
  have hzb : ∀ z ∈ zs, -40000 ≤ z ∧ z ≤ 40000 := allIn_iff.1 hal
  have hb1 := alongZ_bd C zs 40000 (by omega) hzb hC
  have hb2 := alongZ_bd C (alongZ C zs) (8 * (40000 * 4096)) (by omega) hb1 hC
  have H1 := hid_ (fun W => along_any gf eg C zs 40000 W hz (by omega) (by omega) hzb hC hF)
  have H2 := hid_ (fun W => along_any gf eg C (alongZ C zs) (8 * (40000 * 4096)) W (alongZ_len _ _) (by omega) (by omega) hb1 hC hF)
  have HSL := hid_ (fun (W : World) g (h : Blk W g 24 (bv zs)) => h.bsl (c := 64) (by omega) (by omega))
  rw [hz] at HSL
  have HCF := hid_ (fun W v (hs : SL W 1 v 64 (ints zs)) => containsFunc_any 116 #[] (fun z => !inB z (-40000) 40000) enters_both1 v zs W (by rw [hz]; exact hs) (fun z _ => both1_any z W))
  simp only [inB_any, hal] at HCF
  have HW := hid_ (show waveL C zs = (alongZ C (alongZ C zs)).map roundF from rfl)
  have hsz := hid_ ((bv_size zs).trans hz)
  have hVl := alongZ_len C (alongZ C zs)
  generalize hV : alongZ C (alongZ C zs) = V at *
  generalize alongZ C zs = U at *
  have HVB := hid_ hb2
  have HVL := hid_ hVl
  have hsv := hid_ ((bv_size V).trans hVl)
  have hov := hid_ (bv_one V)
  clear hV hb1 hb2 hzb hal hC hF eg hVl
  generalize bv zs = cz at *
  generalize bv U = cu at *
  generalize hcv : bv V = cv at *
  have HCV := hid_ hcv
  clear hcv hz
  go_enter Try.func89, Try.ntmps89
  go_wp2_with (first
    | (refine wpList_box_abs rfl 24 (.tmp 0) rfl cz rfl ?_; intro w1 gz hbz1 hx1 hgz)
    | (refine wpList_alloc_abs' rfl (some 4) rfl 24 rfl _ zero48 ?_; intro w2 gr hbr2 hx2 hgr; have hbz2 := hbz1.ext hx2; have hsl := HSL.out _ _ hbz2)
    | (go_at_call 85; (with_reducible refine (HCF.out _ _ hsl).mono ?_); rintro e w' ⟨rfl, rfl⟩)
    | (refine wpList_load_blk rfl 24 (.tmp 2) rfl _ rfl hbz2 _ Try.underlying24 rfl 64 size48 hsz.out ?_)
    | (go_at_call 117; (with_reducible refine (H1.out _).mono ?_); rintro e w3 ⟨rfl, hx3⟩)
    | (go_at_call 117; (with_reducible refine (H2.out _).mono ?_); rintro e w4 ⟨rfl, hx4⟩; have hbz4 := (hbz2.ext hx3).ext hx4; have hbr4 := (hbr2.ext hx3).ext hx4)
    | (refine wpList_store_blk rfl 24 (.tmp 2) (.tmp 15) rfl _ _ rfl rfl hbz4 64 size48 hsv.out hsz.out hov.out ?_; intro w5 hbz5 hg5; have hbr5 := hbr4.grown hg5 (by have := hbz1.lt; simp; omega))
    | (refine wpList_load_blk rfl 24 (.tmp 2) rfl _ rfl hbz5 _ Try.underlying24 rfl 64 size48 hsv.out ?_))
  have hne1 : gz ≠ gr := by have := hbz1.lt; omega
  have hxx : Ext w w5 := (((hx1.trans hx2).trans hx3).trans hx4).grown hg5 hgz
  have hw02 : w.heap.size ≤ gr := by have := hx1.size; omega
  clear hbz1 hbz2 hbz4 hbr2 hbr4 hx1 hx2 hx3 hx4 hg5 hsl
  go_loopw [17] (fun i wr => ∃ k : Nat, k ≤ 64 ∧ i = .int .i64 k ∧ Blk wr gz 24 (bv ((V.take k).map roundF ++ V.drop k)) ∧ Blk wr gr 24 (bv zeros64) ∧ Ext w wr) (fun i _ => 64 - (intOf i).toNat)
  case atStart => exact ⟨0, by omega, rfl, by rw [← HCV.out] at hbz5; simpa using hbz5, hbr5, hxx⟩
  case round =>
    obtain ⟨k, hk, rfl, hb1, hb3, hxr⟩ := hrel
    by_cases hlt : k < 64
    · have hzl : k < V.length := by have := HVL.out; omega
      have hix := fun W => run_index48 cv k (.int .i64 V[k]) hlt (by rw [← HCV.out]; exact bv_at V k hzl) W
      obtain ⟨z1, z2⟩ := HVB.out V[k] (List.getElem_mem hzl)
      have HR : Hid (∀ W, Calls Try.prog 94 #[.int .i64 V[k], .int .i64 67108864] W fun e w' => e = .returned (.int .i64 (roundF V[k])) ∧ W = w') := hid_ (fun W => round_any V[k] 67108864 W (by omega) (by omega) (by omega) (by omega))
      obtain ⟨old, hold⟩ : ∃ u, wr.cell? ⟨gz, k, none⟩ = some u := by
        rw [hb1.cell k]
        have hl := mid_len roundF V k (by omega)
        exact ⟨_, bv_at _ k (by omega)⟩
      have hfr := hb1.frozen k
      clear z1 z2
      go_wp2_with (go_at_call 94; (with_reducible refine (HR.out _).mono ?_); rintro e w' ⟨rfl, rfl⟩)
      go_roundw
      case rel =>
        refine ⟨k + 1, by omega, by go_num, ?_, hb3.far (p := ⟨gz, k, none⟩) (by simpa using hne1.symm) _, hxr.setCell (by omega) _⟩
        have := hb1.set_ k (.int .i64 (roundF V[k]))
        rw [bv_set, mid_set roundF V k hzl] at this
        exact this
      case measure => simp [intOf]; omega
    · obtain rfl : k = 64 := by omega
      have hfin : (V.take 64).map roundF ++ V.drop 64 = V.map roundF := by
        rw [List.take_of_length_le (by have := HVL.out; omega), List.drop_eq_nil_of_le (by have := HVL.out; omega), List.append_nil]
      have hlz : (bv (V.map roundF)).size = 64 := by have := HVL.out; rw [bv_size]; simp; omega
      rw [hfin] at hb1
      have hone := bv_one (V.map roundF)

      generalize hcr : bv (V.map roundF) = cr at *
      have HCR := hid_ hcr
      have hlz' := hid_ hlz
      have hone' := hid_ hone
      clear hfin hlz hone hcr
      go_wp2_with (first
        | (refine wpList_load_blk rfl 24 (.tmp 2) rfl _ rfl hb1 _ Try.underlying24 rfl 64 size48 hlz'.out ?_)
        | (refine wpList_store_blk rfl 24 (.tmp 4) (.tmp 26) rfl _ _ rfl rfl hb3 64 size48 hlz'.out (by rw [bv_size]; rfl) hone'.out ?_; intro w7 hb7 hg7))
      refine ret_cell_tmp rfl rfl _ rfl hb7 _ Try.underlying24 rfl 64 size48 hlz'.out ⟨by rw [HW.out, HCR.out]; rfl, hxr.grown hg7 hw02⟩
set_option maxHeartbeats 400000 in
theorem wboth_out (gf : Nat) (zs : List Int) (w : World) (hz : zs.length = 64) (hal : allIn zs (-40000) 40000 = false) :
    Calls Try.prog 89 #[.agg (bv zs), .func (.func gf) #[] #[]] w fun e w' => e = .returned (.tuple #[.agg (bv zeros64), .int .i64 1]) ∧ Ext w w' := by
  have HSL := hid_ (fun (W : World) g (h : Blk W g 24 (bv zs)) => h.bsl (c := 64) (by omega) (by omega))
  rw [hz] at HSL
  have HCF := hid_ (fun W v (hs : SL W 1 v 64 (ints zs)) => containsFunc_any 116 #[] (fun z => !inB z (-40000) 40000) enters_both1 v zs W (by rw [hz]; exact hs) (fun z _ => both1_any z W))
  simp only [inB_any, hal] at HCF
  have hs0 : Hid ((bv zeros64).size = 64) := hid_ (by rw [bv_size]; rfl)
  have ho0 := hid_ (bv_one zeros64)
  have hbt := hid_ built48
  generalize bv zs = cz at *
  generalize hc0 : bv zeros64 = c0 at *
  have HC0 := hid_ hc0
  clear hz hal hc0
  go_enter Try.func89, Try.ntmps89
  go_wp2_with (first
    | (refine wpList_box_abs rfl 24 (.tmp 0) rfl cz rfl ?_; intro w1 gz hbz1 hx1 hgz)
    | (refine wpList_alloc_abs' rfl (some 4) rfl 24 rfl _ zero48 ?_; intro w2 gr hbr2 hx2 hgr; have hbz2 := hbz1.ext hx2; have hsl := HSL.out _ _ hbz2)
    | (go_at_call 85; (with_reducible refine (HCF.out _ _ hsl).mono ?_); rintro e w' ⟨rfl, rfl⟩)
    | (refine wpList_build0 rfl 24 rfl _ hbt.out ?_)
    | (refine wpList_store_blk rfl 24 (.tmp 4) (.tmp 10) rfl _ _ rfl rfl hbr2 64 size48 hs0.out (by rw [show (Value.agg (bv zeros64)).cells = bv zeros64 from rfl, HC0.out]; exact hs0.out) ho0.out ?_; intro w7 hb7 hg7))
  exact ret_cell_tmp rfl rfl _ rfl hb7 _ Try.underlying24 rfl 64 size48 hs0.out ⟨rfl, (hx1.trans hx2).grown hg7 (by have := hx1.size; omega)⟩
def waveR (C : Nat → Nat → Int) (zs : List Int) : List Int × Int := if allIn zs (-40000) 40000 then (waveL C zs, 0) else (zeros64, 1)
theorem waveR_len (C : Nat → Nat → Int) (zs : List Int) : (waveR C zs).1.length = 64 := by
  unfold waveR
  split
  · exact waveL_len C zs
  · rfl
theorem wboth_any (gf : Nat) (eg : Enters Try.prog gf) (C : Nat → Nat → Int) (zs : List Int) (w : World) (hz : zs.length = 64)
    (hC : ∀ i k, i < 8 → k < 8 → -4096 ≤ C i k ∧ C i k ≤ 4096)
    (hF : ∀ i k W, i < 8 → k < 8 → Calls Try.prog gf (#[.int .i64 (i : Nat), .int .i64 (k : Nat)] ++ #[]) W fun e w' => e = .returned (.int .i64 (C i k)) ∧ Ext W w') :
    Calls Try.prog 89 #[.agg (bv zs), .func (.func gf) #[] #[]] w fun e w' => e = .returned (.tuple #[.agg (bv (waveR C zs).1), .int .i64 (waveR C zs).2]) ∧ Ext w w' := by
  unfold waveR
  cases h : allIn zs (-40000) 40000 with
  | true => simpa using wboth_in gf eg C zs w hz h hC hF
  | false => simpa using wboth_out gf zs w hz h
theorem basisZ_bd (i k : Nat) : -4096 ≤ basisZ i k ∧ basisZ i k ≤ 4096 := by
  unfold basisZ
  split
  · omega
  · exact wv_bounds _ (Nat.mod_lt _ (by omega))
theorem enters_basis : Enters Try.prog 90 := enters_of Try.func90 (by kernel_rfl) rfl
def toC (i k : Nat) : Int := basisZ i k
def frC (i k : Nat) : Int := basisZ k i
set_option maxHeartbeats 400000 in
theorem waveTo_any (zs : List Int) (w : World) (hz : zs.length = 64) :
    Calls Try.prog 51 #[.agg (bv zs)] w fun e w' => e = .returned (.tuple #[.agg (bv (waveR toC zs).1), .int .i64 (waveR toC zs).2]) ∧ Ext w w' := by
  have HB := hid_ (fun W => wboth_any 90 enters_basis toC zs W hz (fun i k _ _ => basisZ_bd i k) (fun i k W hi hk => by simpa [toC] using basis_any i k W (by omega) (by omega)))
  have hsz := hid_ ((bv_size zs).trans hz)
  have hsr := hid_ ((bv_size _).trans (waveR_len toC zs))
  have hor := hid_ (bv_one (waveR toC zs).1)
  generalize bv (waveR toC zs).1 = cr at *
  generalize (waveR toC zs).2 = er at *
  generalize bv zs = cz at *
  clear hz
  go_enter Try.func51, Try.ntmps51
  go_wp2_with (first
    | (refine wpList_box_abs rfl 24 (.tmp 0) rfl cz rfl ?_; intro w1 gz hbz1 hx1 hgz)
    | (refine wpList_alloc_abs rfl 24 rfl _ zero48 ?_; intro w3 gr hbr3 hx3 hgr; have hbz3 := hbz1.ext hx3)
    | (refine wpList_load_blk rfl 24 (.tmp 1) rfl _ rfl hbz3 _ Try.underlying24 rfl 64 size48 hsz.out ?_)
    | (go_at_call 89; (with_reducible refine (HB.out _).mono ?_); rintro e w4 ⟨rfl, hx4⟩; have hbr4 := hbr3.ext hx4)
    | (refine wpList_store_blk rfl 24 (.tmp 2) (.tmp 6) rfl _ _ rfl rfl hbr4 64 size48 hsr.out (by rw [show (Value.agg (bv zeros64)).cells = bv zeros64 from rfl, bv_size]; rfl) hor.out ?_; intro w7 hb7 hg7))
  exact ret_cell_tmp rfl rfl _ rfl hb7 _ Try.underlying24 rfl 64 size48 hsr.out ⟨rfl, ((hx1.trans hx3).trans hx4).grown hg7 (by have := hx1.size; omega)⟩
end Go.Proofs.Ytkfdkkhhkciocaa
/- Runs of single operations: rest, quotient, places of a table of 8 by 8. -/
namespace Go.Proofs.Ytkfdkkhhkciocaa
set_option linter.unusedVariables false
set_option linter.unusedSimpArgs false
open Go.RowKit
theorem run_remI (i : Nat) (h : i < 1000) (W : World) : (binOp .rem 3 (.int .i64 (i : Int)) (.int .i64 8)).run Try.prog W = .ok (.int .i64 ((i % 8 : Nat) : Int)) W := by
  have h0 : (0 : Int) ≤ (i : Int) := by omega
  have h1 : (i : Int) < 1000 := by omega
  go_simp
  exact Int.tmod_eq_emod_of_nonneg h0
theorem run_quoI (i : Nat) (h : i < 1000) (W : World) : (binOp .quo 3 (.int .i64 (i : Int)) (.int .i64 8)).run Try.prog W = .ok (.int .i64 ((i / 8 : Nat) : Int)) W := by
  have h0 : (0 : Int) ≤ (i : Int) := by omega
  have h1 : (i : Int) < 1000 := by omega
  go_simp
  exact IntWalk.i64_in _ (by omega)
theorem run_index88 (g n : Nat) (h : n < 8) (W : World) : (Instr.indexAt 146 (.pointer (some ⟨g, 0, none⟩)) (.int .i64 (n : Int))).run Try.prog W = .ok (.pointer (some ⟨g, 8 * n, none⟩)) W := by
  have h0 : (0 : Int) ≤ (n : Int) := by omega
  have h1 : (n : Int) < 8 := by omega
  go_simp
theorem run_index8 (g m n : Nat) (h : n < 8) (W : World) : (Instr.indexAt 145 (.pointer (some ⟨g, m, none⟩)) (.int .i64 (n : Int))).run Try.prog W = .ok (.pointer (some ⟨g, m + n, none⟩)) W := by
  have h0 : (0 : Int) ≤ (n : Int) := by omega
  have h1 : (n : Int) < 8 := by omega
  go_simp
theorem size88 : (Try.prog.info? 146).map (·.size) = some 64 := by kernel_rfl
theorem zero88 : (Try.prog.info? 146).bind (·.zero) = some (.agg (bv (List.replicate 64 0))) := by kernel_rfl
end Go.Proofs.Ytkfdkkhhkciocaa
/- Basis of the reference, the walk of WaveBasis. -/
namespace Go.Proofs.Ytkfdkkhhkciocaa
set_option linter.unusedVariables false
set_option linter.unusedSimpArgs false
open Go.RowKit
theorem elt_intB : Elt Try.prog 30 3 1 8 := ⟨Try.underlying30, by kernel_rfl, by omega⟩
theorem own_built {w : World} {base : Nat} (e : TypeId) (cs : Array Value) (n : Nat) (hn : cs.size = n) (hb : base ≤ w.heap.size) (h63 : n ≤ 9223372036854775807) :
    (w.alloc (.cells cs e)).ownsRow base e 1 (.slice (some ⟨w.heap.size, 0, none⟩) n n) n cs.toList := by
  subst hn
  refine ⟨by simp, .inr ⟨w.heap.size, cs.size, cs, rfl, hb, heap_alloc_new w _, by omega, by unfold maxLen; omega, by omega, by simp [List.take_of_length_le]⟩⟩
theorem wl_take (k : Nat) (h : k < 32) : wl.take (k + 1) = wl.take k ++ [wv k] := by
  have hl : k < wl.length := h
  rw [List.take_succ_eq_append_getElem hl]
  simp [wv, List.getD_eq_getElem?_getD, hl]
theorem wl_len (k : Nat) (h : k ≤ 32) : (wl.take k).length = k := by rw [List.length_take]; exact Nat.min_eq_left h
theorem wl_at (k n : Nat) (h : n ≤ 32) (hk : k < n) : (ints (wl.take n))[k]? = some (.int .i64 (wv k)) := by
  have hl : k < wl.length := by show k < 32; omega
  simp [ints, List.getElem?_take_of_lt hk, wv, List.getD_eq_getElem?_getD, hl]
theorem wl9 : ints (wl.take 9) = [.int .i64 4096, .int .i64 4017, .int .i64 3784, .int .i64 3406, .int .i64 2896, .int .i64 2276, .int .i64 1567, .int .i64 799, .int .i64 0] := by rfl
set_option maxHeartbeats 800000 in
theorem rbasis_any (u x : Nat) (w : World) (hu : u ≤ 7) (hx : x ≤ 7) : Calls Try.prog 98 #[.int .i64 u, .int .i64 x] w fun e w' => e = .returned (.int .i64 (basisZ u x)) ∧ Ext w w' := by
  by_cases h0 : u = 0
  · subst h0
    go_enter Try.func98, Try.ntmps98
    go_wp2_with fail
    go_ret
    exact ⟨rfl, Ext.refl w⟩
  · have hp : (u : Int) * (2 * x + 1) ≤ 7 * (2 * x + 1) := Int.mul_le_mul_of_nonneg_right (by omega) (by omega)
    have hp2 : 0 ≤ (u : Int) * (2 * x + 1) := Int.mul_nonneg (by omega) (by omega)
    obtain ⟨m, hm, hm32⟩ : ∃ m : Nat, (u : Int) * (2 * x + 1) % 32 = (m : Int) ∧ m < 32 := ⟨u * (2 * x + 1) % 32, by simp, Nat.mod_lt _ (by omega)⟩
    have hf : basisZ u x = wv m := by
      unfold basisZ; rw [if_neg h0]
      have : ((u * (2 * x + 1) % 32 : Nat) : Int) = (m : Int) := by rw [← hm]; simp
      have e : u * (2 * x + 1) % 32 = m := by exact_mod_cast this
      rw [e]
    have HF := hid_ hf
    have hne : ((u : Int) == 0) = false := by simpa using h0
    have HM := hid_ hm
    have HP := hid_ (And.intro hp hp2)
    clear hm hf h0 hp hp2
    go_enter Try.func98, Try.ntmps98
    go_wp2_with fail
    have hown0 := own_built (w := w) 3 #[.int .i64 4096, .int .i64 4017, .int .i64 3784, .int .i64 3406, .int .i64 2896, .int .i64 2276, .int .i64 1567, .int .i64 799, .int .i64 0] 9 rfl (Nat.le_refl _) (by omega)
    rw [show (#[Value.int .i64 4096, .int .i64 4017, .int .i64 3784, .int .i64 3406, .int .i64 2896, .int .i64 2276, .int .i64 1567, .int .i64 799, .int .i64 0] : Array Value).toList = ints (wl.take 9) from wl9.symm] at hown0
    have hx0 := (Ext.refl w).alloc (.cells #[.int .i64 4096, .int .i64 4017, .int .i64 3784, .int .i64 3406, .int .i64 2896, .int .i64 2276, .int .i64 1567, .int .i64 799, .int .i64 0] 3)
    generalize (w.alloc (.cells #[.int .i64 4096, .int .i64 4017, .int .i64 3784, .int .i64 3406, .int .i64 2896, .int .i64 2276, .int .i64 1567, .int .i64 799, .int .i64 0] 3)) = w0 at *
    go_loopw [5, 6] (fun v i wr => ∃ k : Nat, 9 ≤ k ∧ k ≤ 17 ∧ i = .int .i64 k ∧ wr.ownsRow w.heap.size 3 1 v k (ints (wl.take k)) ∧ Ext w wr) (fun _ i _ => 17 - (intOf i).toNat)
    case atStart => exact ⟨9, by omega, by omega, rfl, hown0, hx0⟩
    case round =>
      obtain ⟨k, hk9, hk, rfl, hown, hx⟩ := hrel
      by_cases hlt : k ≤ 16
      · obtain ⟨A, c, rfl, hsl, hfs⟩ := own_form hown
        have hk16 : 16 - k < k := by omega
        obtain ⟨ad, u, rfl, -, hxo, hco⟩ := hsl.at1 hk16
        rw [wl_at (16 - k) k (by omega) hk16] at hxo
        injection hxo with hxo
        subst hxo
        obtain ⟨hb1, hb2⟩ := wv_bounds (16 - k) (by omega)
        have HN := hid_ (wv_mid k (by omega) hlt)
        generalize wv (16 - k) = z at *
        go_wp2_with (at_builtin; go_must (refine wpList_append_sl elt_intB rfl _ _ rfl w.heap.size _ _ _ rfl (hown.alloc _) _ 1 [.int .i64 _] rfl (one_sl _ _ _) (int_one _) (by omega) (by omega) (by have := hx.size; simp; omega) ?_); intro v' w7 hown7 hb7)
        go_roundw
        case rel =>
          refine ⟨k + 1, by omega, by omega, by go_num, ?_, (hx.alloc _).trans' hb7⟩
          rw [wl_take k (by omega), ← HN.out]
          simpa [ints] using hown7
        case measure => simp [intOf]; omega
      · have e17 : (k : Int) = 17 := by omega
        have e17' : k = 17 := by omega
        rw [e17'] at hown
        rw [e17]
        clear e17 e17' hk9 hk hlt
        go_wp2_with fail
        go_loopw [5, 7] (fun v i wr => ∃ k : Nat, 17 ≤ k ∧ k ≤ 32 ∧ i = .int .i64 k ∧ wr.ownsRow w.heap.size 3 1 v k (ints (wl.take k)) ∧ Ext w wr) (fun _ i _ => 32 - (intOf i).toNat)
        case atStart => exact ⟨17, by omega, by omega, rfl, hown, hx⟩
        case round =>
          clear hown hx
          obtain ⟨k, hk17, hk, rfl, hown, hx⟩ := hrel
          by_cases hlt : k < 32
          · obtain ⟨A, c, rfl, hsl, hfs⟩ := own_form hown
            have hk16 : 32 - k < k := by omega
            obtain ⟨ad, u, rfl, -, hxo, hco⟩ := hsl.at1 hk16
            rw [wl_at (32 - k) k (by omega) hk16] at hxo
            injection hxo with hxo
            subst hxo
            have HN := hid_ (wv_hi k (by omega) hlt)
            generalize wv (32 - k) = z at *
            go_wp2_with (at_builtin; go_must (refine wpList_append_sl elt_intB rfl _ _ rfl w.heap.size _ _ _ rfl (hown.alloc _) _ 1 [.int .i64 _] rfl (one_sl _ _ _) (int_one _) (by omega) (by omega) (by have := hx.size; simp; omega) ?_); intro v' w7 hown7 hb7)
            go_roundw
            case rel =>
              refine ⟨k + 1, by omega, by omega, by go_num, ?_, (hx.alloc _).trans' hb7⟩
              rw [wl_take k (by omega), ← HN.out]
              simpa [ints] using hown7
            case measure => simp [intOf]; omega
          · obtain rfl : k = 32 := by omega
            obtain ⟨A, c, rfl, hsl, hfs⟩ := own_form hown
            obtain ⟨ad, u', rfl, -, hxo, hco⟩ := hsl.at1 hm32
            rw [wl_at m 32 (by omega) hm32] at hxo
            injection hxo with hxo
            subst hxo
            have hm := HM.out
            obtain ⟨hp, hp2⟩ := HP.out
            generalize wv m = z at *
            go_wp2_with fail
            go_ret
            exact ⟨by rw [HF.out]; rfl, hx⟩
end Go.Proofs.Ytkfdkkhhkciocaa
/- power of the reference: 1 << k. -/
namespace Go.Proofs.Ytkfdkkhhkciocaa
set_option linter.unusedVariables false
set_option linter.unusedSimpArgs false
open Go.RowKit
theorem pow_le (k m : Nat) (h : k ≤ m) : (2 : Int) ^ k ≤ 2 ^ m := by
  have := Nat.pow_le_pow_right (n := 2) (by omega) h
  exact_mod_cast this
theorem pow_pos' (k : Nat) : (1 : Int) ≤ 2 ^ k := by
  have := Nat.two_pow_pos k
  exact_mod_cast this
theorem power_any (k : Nat) (w : World) (hk : k ≤ 62) : Calls Try.prog 100 #[.int .i64 k] w fun e w' => e = .returned (.int .i64 (2 ^ k)) ∧ w = w' := by
  have h1 := pow_le k 62 hk
  have h2 := pow_pos' k
  have h3 : (2 : Int) ^ 62 = 4611686018427387904 := by decide
  rw [h3] at h1
  clear h3
  go_enter Try.func100, Try.ntmps100
  go_wp2
  go_ret
  exact ⟨rfl, rfl⟩
end Go.Proofs.Ytkfdkkhhkciocaa
