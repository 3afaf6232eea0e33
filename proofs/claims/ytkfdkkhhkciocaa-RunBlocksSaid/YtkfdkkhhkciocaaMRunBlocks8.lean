/- Contracts for the law RunBlocks, part 8: what the functions that it reaches answer, for all arguments that the theorems name. -/
import Derived.Test.YtkfdkkhhkciocaaMRunBlocks5
import Derived.Test.YtkfdkkhhkciocaaMRunBlocks6
import Derived.Test.YtkfdkkhhkciocaaMRunBlocks1
import Derived.ProofKit
import Derived.OpenShut
import Derived.Test.YtkfdkkhhkciocaaMRunBlocks4
import Derived.Test.YtkfdkkhhkciocaaMRunBlocks7
import Derived.Deep.Cut
import Derived.WalkKit
/- Tokens of the reference. -/
namespace Go.Proofs.Ytkfdkkhhkciocaa
set_option linter.unusedVariables false
set_option linter.unusedSimpArgs false
open Go.RowKit
set_option maxRecDepth 20000 in
set_option maxHeartbeats 1000000 in
theorem rtokens_in (before : Int) (zs : List Int) (w : World) (hz : zs.length = 64) (hb1 : -2047 ≤ before) (hb2 : before ≤ 2047) (hal : allIn zs (-2047) 2047 = true) (h01 : -2047 ≤ (zto zs).getD 0 0) (h02 : (zto zs).getD 0 0 ≤ 2047) :
    Calls Try.prog 34 #[.int .i64 before, .agg (bv zs)] w fun e w' => ∃ A c, e = .returned (.tuple #[.slice A (tokensZ before (zto zs)).length c, .int .i64 0]) ∧ SL w' 3 (.slice A (tokensZ before (zto zs)).length c) (tokensZ before (zto zs)).length (toks (tokensZ before (zto zs))) ∧ Ext w w' := by
  have HZT := hid_ (fun W => rzto_any zs W hz)
  have HOB := hid_ (fun W => outside_any before (-2047) 2047 W)
  rw [inB_iff.2 ⟨hb1, hb2⟩] at HOB
  have HBW := hid_ (fun W => blockWithin_any zs (-2047) 2047 W hz)
  rw [hal] at HBW
  have hZl := zto_len zs
  have hsz := hid_ ((bv_size zs).trans hz)
  have hst := hid_ ((bv_size _).trans hZl)
  have hot := hid_ (bv_one (zto zs))
  have hs0 : Hid ((Value.agg (bv zeros64)).cells.size = 64) := hid_ (by rw [show (Value.agg (bv zeros64)).cells = bv zeros64 from rfl, bv_size]; rfl)
  have hz0 := zero48
  have HZ0 := hid_ hz0
  clear hz0
  generalize hZ : zto zs = Z at *
  clear hZ hal
  have h0l : 0 < Z.length := by omega
  have e0 : Z.getD 0 0 = Z[0] := by simp [h0l]
  rw [e0] at h01 h02
  have HAT := hid_ (fun k (hk : k < Z.length) => bv_at Z k hk)
  have HF : Hid (tokensZ before Z = if 0 < (accT (tokZ 0 (Z[0] - before)) (Z.drop 1) 63).2 then (accT (tokZ 0 (Z[0] - before)) (Z.drop 1) 63).1 ++ [(0, 0, 0)] else (accT (tokZ 0 (Z[0] - before)) (Z.drop 1) 63).1) := hid_ (by unfold tokensZ; rw [e0])
  have HT0 := hid_ (fun W => rtoken_any 0 (Z[0] - before) W (by omega) (by omega))
  simp only [tokv_out] at HT0
  generalize bv zeros64 = cz0 at *
  generalize hcz : bv Z = cz at *
  generalize bv zs = c0 at *
  clear hcz hz e0
  generalize ht : tokZ 0 (Z[0] - before) = t0 at *
  clear ht
  have hll : (Z.drop 1).length = 63 := by simp; omega
  have HLL := hid_ hll
  have HLK : Hid (∀ k (h : k < (Z.drop 1).length) (h2 : k + 1 < Z.length), (Z.drop 1)[k] = Z[k + 1]) := hid_ (fun k h h2 => by simp)
  generalize hl : Z.drop 1 = l at *
  clear hl hll
  go_enter Try.func34, Try.ntmps34
  go_wp2_with (first
    | (refine wpList_box_abs rfl 24 (.tmp 1) rfl c0 rfl ?_; intro w1 gb hbb1 hx1 hgb)
    | (go_at_call 28; (with_reducible refine (HOB.out _).mono ?_); rintro e w' ⟨rfl, rfl⟩)
    | (refine wpList_load_blk_g (by rfl) 24 (.tmp 3) rfl _ rfl hbb1 _ Try.underlying24 rfl 64 size48 hsz.out ?_)
    | (go_at_call 33; (with_reducible refine (HBW.out _).mono ?_); rintro e w2 ⟨rfl, hx2⟩; have hbb2 := hbb1.ext hx2)
    | (refine wpList_load_blk rfl 24 (.tmp 3) rfl _ rfl hbb2 _ Try.underlying24 rfl 64 size48 hsz.out ?_)
    | (go_at_call 76; (with_reducible refine (HZT.out _).mono ?_); rintro e w3 ⟨rfl, hx3⟩)
    | (refine wpList_alloc_abs' rfl (some 6) rfl 24 rfl _ HZ0.out ?_; intro w4 g hbb4 hx4 hg)
    | (refine wpList_store_blk rfl 24 (.tmp 6) (.tmp 19) rfl _ _ rfl rfl hbb4 64 size48 hst.out hs0.out hot.out ?_; intro w5 hbb5 hg5; have hc0 : w5.cell? ⟨g, 0, none⟩ = some (.int .i64 Z[0]) := (hbb5.cell 0).trans (HAT.out 0 h0l))
    | (go_at_call 77; (with_reducible refine (HT0.out _).mono ?_); rintro e w6 ⟨rfl, hx6⟩))
  have hown0 := own_built3 (w := w6) (base := w5.heap.size) 74 (.int .i64 t0.1) (.int .i64 t0.2.1) (.int .i64 t0.2.2) hx6.size
  have hx7 := hx6.alloc (.cells #[.int .i64 t0.1, .int .i64 t0.2.1, .int .i64 t0.2.2] 74)
  have hbb7 := hbb5.ext hx7
  have hglt := hbb5.lt
  have hxw : Ext w w5 := (((hx1.trans hx2).trans hx3).trans hx4).grown hg5 (by have := ((hx1.trans hx2).trans hx3).size; omega)
  clear hbb1 hbb2 hbb4 hx1 hx2 hx3 hx4 hg5 hc0 hx6 HZT HT0
  generalize hw7 : w6.alloc (.cells #[.int .i64 t0.1, .int .i64 t0.2.1, .int .i64 t0.2.2] 74) = w7 at *
  clear hw7
  go_loopw [7, 8, 9] (fun v r i wr => ∃ (k m : Nat) (la : Int), k ≤ 63 ∧ m = k + 1 ∧ i = .int .i64 (m : Int) ∧ r = .int .i64 la ∧ la = (k : Int) - ((accT t0 l k).2 : Nat) ∧ wr.ownsRow w5.heap.size 74 3 v (accT t0 l k).1.length (toks (accT t0 l k).1) ∧ Blk wr g 24 cz ∧ Ext w5 wr) (fun _ _ i _ => 64 - (intOf i).toNat)
  case atStart => exact ⟨0, 1, 0, by omega, rfl, rfl, rfl, by simp [accT_zero], hown0, hbb7, hx7⟩
  case round =>
    clear hown0 hbb7 hx7
    obtain ⟨k, m, la, hk, hm, rfl, rfl, hla, hown, hbb, hx⟩ := hrel
    obtain ⟨b1, b2⟩ := accT_bd t0 l k (by have := HLL.out; omega) (by omega)
    by_cases hlt : k < 63
    · have hkl : k < l.length := by have := HLL.out; omega
      have hkZ : k + 1 < Z.length := by omega
      have HS := hid_ (accT_succ t0 l k hkl)
      have hcell : wr.cell? ⟨g, m, none⟩ = some (.int .i64 l[k]) := by rw [hm]; exact (hbb.cell (k + 1)).trans (by rw [HAT.out (k + 1) hkZ, HLK.out k hkl hkZ])
      generalize accT t0 l k = s at *
      obtain ⟨acc, rn⟩ := s
      simp only at b1 b2 hown hla ⊢
      have hm1 : 1 ≤ m := by omega
      have hm2 : m < 64 := by omega
      have HM := hid_ hm
      have HLA := hid_ hla
      have hgap : (m : Int) - la - 1 = (rn : Int) := by omega
      have hlb : -64 ≤ la ∧ la ≤ 64 := by omega
      obtain ⟨hlb1, hlb2⟩ := hlb
      clear hm hla
      by_cases hz0 : l[k] = 0
      · rw [stepT_zero hz0] at HS
        generalize hnk : accT t0 l (k + 1) = s1 at *
        have HS1 := HS.out
        have hz0' : (l[k] == 0) = true := by simpa using hz0
        clear hz0 HS
        go_wp2_with fail
        go_roundw
        case rel =>
          refine ⟨k + 1, m + 1, la, by omega, by rw [HM.out], by go_num, rfl, by rw [hnk, HS1]; have := HLA.out; simp; omega, by rw [hnk, HS1]; exact hown, hbb, hx⟩
        case measure => simp [intOf]; omega
      · rw [stepT_one hz0] at HS
        have hz0' : (l[k] == 0) = false := by simpa using hz0
        have HTK := hid_ (fun W => rtoken_any ((rn : Int) % 16) l[k] W (by omega) (by omega))
        simp only [tokv_out] at HTK
        rw [show ((rn % 16 : Nat) : Int) = (rn : Int) % 16 by omega] at HS
        generalize tokZ ((rn : Int) % 16) l[k] = tk at *
        generalize hnk : accT t0 l (k + 1) = s1 at *
        have HS1 := hid_ HS.out
        have HNK := hid_ hnk
        clear hz0 HS hnk
        go_wp2_with fail
        go_loopw [7, 40] (fun v r wr2 => ∃ j : Nat, j ≤ rn / 16 ∧ r = .int .i64 (j : Int) ∧ wr2.ownsRow w5.heap.size 74 3 v (acc ++ List.replicate j long).length (toks (acc ++ List.replicate j long)) ∧ Blk wr2 g 24 cz ∧ Ext w5 wr2) (fun _ r _ => rn / 16 - (intOf r).toNat)
        case atStart => exact ⟨0, by omega, rfl, by simpa using hown, hbb, hx⟩
        case round =>
          clear hown hbb hx hcell
          obtain ⟨j, hj, rfl, hown, hbb, hx⟩ := hrel
          have hlen : (acc ++ List.replicate j long).length = acc.length + j := by simp
          by_cases hj2 : j < rn / 16
          · have hgt : decide ((j : Int) < (rn : Int) / 16) = true := by simp; omega
            go_wp2_with (at_builtin; go_must (refine wpList_append_sl elt_tok rfl _ _ rfl w5.heap.size _ _ _ rfl (hown.alloc _) _ 1 [.int .i64 _, .int .i64 _, .int .i64 _] rfl (one_sl3 _ _ _ _ _) (tok_one _ _ _) (by omega) (by omega) (by have := hx.size; simp; omega) ?_); intro v' w8 hown8 hb8)
            go_roundw
            case rel =>
              refine ⟨j + 1, by omega, by go_num, ?_, (hbb.alloc _).below hb8 hglt, (hx.alloc _).trans' hb8⟩
              rw [List.replicate_succ', ← List.append_assoc]
              exact own_tok hown8
            case measure => simp [intOf]; omega
          · obtain rfl : j = rn / 16 := by omega
            have hgt : decide (((rn / 16 : Nat) : Int) < (rn : Int) / 16) = false := by simp
            have hcell2 : wr.cell? ⟨g, m, none⟩ = some (.int .i64 l[k]) := by rw [HM.out]; exact (hbb.cell (k + 1)).trans (by rw [HAT.out (k + 1) hkZ, HLK.out k hkl hkZ])
            go_wp2_with (first
              | (go_at_call 77; (with_reducible refine (HTK.out _).mono ?_); rintro e w8 ⟨rfl, hx8⟩)
              | (at_builtin; go_must (refine wpList_append_sl elt_tok rfl _ _ rfl w5.heap.size _ _ _ rfl ((own_ext hown hx8).alloc _) _ 1 [.int .i64 _, .int .i64 _, .int .i64 _] rfl (one_sl3 _ _ _ _ _) (tok_one _ _ _) (by omega) (by omega) (by have := hx.size; have := hx8.size; simp; omega) ?_); intro v' w9 hown9 hb9))
            go_roundw
            case rel =>
              refine ⟨k + 1, m + 1, m, by omega, by rw [HM.out], by go_num, rfl, by rw [HNK.out, HS1.out]; have := HM.out; simp; omega, ?_, ((hbb.ext hx8).alloc _).below hb9 hglt, ((hx.trans hx8).alloc _).trans' hb9⟩
              rw [HNK.out, HS1.out]
              exact own_tok hown9
            case measure => simp [intOf]; omega
    · have ek : k = 63 := by omega
      subst ek
      subst hm
      generalize accT t0 l 63 = s at *
      obtain ⟨acc, rn⟩ := s
      simp only at b1 b2 hown HF hla
      by_cases hr : 0 < rn
      · rw [if_pos hr] at HF
        have hlt3 : decide (la < 63) = true := by simp; omega
        clear hla
        go_wp2_with (at_builtin; go_must (refine wpList_append_sl elt_tok rfl _ _ rfl w5.heap.size _ _ _ rfl (hown.alloc _) _ 1 [.int .i64 _, .int .i64 _, .int .i64 _] rfl (one_sl3 _ _ _ _ _) (tok_one _ _ _) (by omega) (by omega) (by have := hx.size; simp; omega) ?_); intro v' w8 hown8 hb8)
        go_ret2
        rw [HF.out]
        obtain ⟨A, c, rfl, hsl, hfs⟩ := own_form (own_tok hown8)
        exact ⟨A, c, rfl, hsl, hxw.trans ((hx.alloc _).trans' hb8)⟩
      · rw [if_neg hr] at HF
        have hlt3 : decide (la < 63) = false := by simp; omega
        clear hla
        go_wp2_with fail
        go_ret2
        rw [HF.out]
        obtain ⟨A, c, rfl, hsl, hfs⟩ := own_form hown
        exact ⟨A, c, rfl, hsl, hxw.trans hx⟩
set_option maxHeartbeats 400000 in
theorem rtokens_out (before : Int) (zs : List Int) (w : World) (hz : zs.length = 64) (h : inB before (-2047) 2047 = false ∨ (inB before (-2047) 2047 = true ∧ allIn zs (-2047) 2047 = false)) :
    Calls Try.prog 34 #[.int .i64 before, .agg (bv zs)] w fun e w' => e = .returned (.tuple #[.slice none 0 0, .int .i64 1]) ∧ Ext w w' := by
  have HOB := hid_ (fun W => outside_any before (-2047) 2047 W)
  have HBW := hid_ (fun W => blockWithin_any zs (-2047) 2047 W hz)
  have hsz := hid_ ((bv_size zs).trans hz)
  generalize bv zs = c0 at *
  rcases h with h | ⟨h, h2⟩
  · rw [h] at HOB
    clear h
    go_enter Try.func34, Try.ntmps34
    go_wp2_with (first
      | (refine wpList_box_abs rfl 24 (.tmp 1) rfl c0 rfl ?_; intro w1 gb hbb1 hx1 hgb)
      | (go_at_call 28; (with_reducible refine (HOB.out _).mono ?_); rintro e w' ⟨rfl, rfl⟩))
    go_ret2
    exact ⟨rfl, hx1⟩
  · rw [h] at HOB
    rw [h2] at HBW
    clear h h2
    go_enter Try.func34, Try.ntmps34
    go_wp2_with (first
      | (refine wpList_box_abs rfl 24 (.tmp 1) rfl c0 rfl ?_; intro w1 gb hbb1 hx1 hgb)
      | (go_at_call 28; (with_reducible refine (HOB.out _).mono ?_); rintro e w' ⟨rfl, rfl⟩)
      | (refine wpList_load_blk_g (by rfl) 24 (.tmp 3) rfl _ rfl hbb1 _ Try.underlying24 rfl 64 size48 hsz.out ?_)
      | (go_at_call 33; (with_reducible refine (HBW.out _).mono ?_); rintro e w2 ⟨rfl, hx2⟩))
    go_ret2
    exact ⟨rfl, hx1.trans hx2⟩
end Go.Proofs.Ytkfdkkhhkciocaa
/- Arguments opened: what their reading says of their cells. -/
namespace Go.Proofs.Ytkfdkkhhkciocaa
set_option linter.unusedVariables false
set_option linter.unusedSimpArgs false
open Go.RowKit Go.ChangeShapes Go.WideShapes Go.ChangeAt
def inI64 (z : Int) : Prop := -9223372036854775808 ≤ z ∧ z ≤ 9223372036854775807
theorem inI64_of_wf {z : Int} (h : (Lit.int .i64 z).wf = true) : inI64 z := by
  simp [Lit.wf, IntKind.min, IntKind.max, IntKind.signed, IntKind.bits] at h
  exact ⟨by omega, by omega⟩
theorem ints_of_cells {Q : Int → Prop} : ∀ (cs : List Value), (∀ i, i < cs.length → ∃ z, cs[i]? = some (.int .i64 z) ∧ Q z) → ∃ zs : List Int, cs = ints zs ∧ ∀ z ∈ zs, Q z
  | [], _ => ⟨[], rfl, by simp⟩
  | c :: cs, h => by
    obtain ⟨z, hz, hq⟩ := h 0 (by simp)
    obtain ⟨zs, rfl, hqs⟩ := ints_of_cells cs (fun i hi => by have := h (i + 1) (by simpa using hi); simpa using this)
    refine ⟨z :: zs, ?_, ?_⟩
    · simp at hz; subst hz; rfl
    · intro y hy
      cases hy with
      | head => exact hq
      | tail _ hy => exact hqs y hy
section
variable {H : Type} {enc : TypeId × Value → H} {P : Program} {w : World} {base : Nat} {spare : Nat → Bool} {held : Bool}
theorem trod_int_cell {t : TypeId} {fuel : Nat} {cs : List Value} {x : DataW H × List MemPlace} (ht : P.underlying t = some (.int .i64)) (h : DataW.trod enc P w base spare held fuel t cs = some x) :
    ∃ z, cs = [.int .i64 z] ∧ inI64 z := by
  obtain ⟨z, e, -, hw⟩ := DataW.trod_int ht h
  exact ⟨z, e, inI64_of_wf hw⟩
theorem trod_ints_arr {n : Nat} {t e : TypeId} {fuel : Nat} {cs : List Value} {x : DataW H × List MemPlace} (ht : P.underlying t = some (.array n e)) (he : P.underlying e = some (.int .i64)) (hce : P.cellsOf e = 1) (hct : P.cellsOf t = n)
    (h : DataW.trod enc P w base spare held fuel t cs = some x) : ∃ zs : List Int, zs.length = n ∧ cs = ints zs ∧ ∀ z ∈ zs, inI64 z := by
  obtain ⟨xs, m, -, -, hlen, hxl, hi⟩ := DataW.trod_array ht h
  rw [hct] at hlen
  have hcells : ∀ i, i < cs.length → ∃ z, cs[i]? = some (.int .i64 z) ∧ inI64 z := by
    intro i hlt
    have h1 := hi i (by omega)
    rw [hce, Nat.mul_one] at h1
    have hx : xs[i]? = some (xs[i]'(by omega)) := List.getElem?_eq_getElem (by omega)
    rw [hx] at h1
    obtain ⟨z, hz, hq⟩ := trod_int_cell he h1
    refine ⟨z, ?_, hq⟩
    rw [List.drop_eq_getElem_cons hlt] at hz
    simp only [List.take_succ_cons, List.take_zero, List.cons.injEq, and_true] at hz
    rw [List.getElem?_eq_getElem hlt, hz]
  obtain ⟨zs, rfl, hq⟩ := ints_of_cells cs hcells
  exact ⟨zs, by simpa [ints_len] using hlen, rfl, hq⟩
theorem okWide_array {P : Program} {w : World} {r : Reach} {base : Nat} {t e : TypeId} {n : Nat} {v : Value} (ht : P.underlying t = some (.array n e)) (h : Value.okWide P w r base t v) : ∃ cs, v = .agg cs ∧ cs.size = P.cellsOf t := by
  simp only [Value.okWide, ht] at h
  obtain ⟨cs, h1, h2, _⟩ := h
  exact ⟨cs, h1, h2⟩
theorem cells64 : Try.prog.cellsOf 24 = 64 := by kernel_rfl
theorem cellsInt : Try.prog.cellsOf 3 = 1 := by kernel_rfl
set_option maxRecDepth 8000 in
theorem open_block {w : World} {base b0 : Nat} {r : Reach} {v : Value} {d : DataW H} {p : List MemPlace} (hv : Value.okWide Try.prog w r b0 24 v) (h : DataW.Trod enc Try.prog w base spare held 24 v d p) :
    ∃ zs : List Int, v = .agg (ints zs).toArray ∧ zs.length = 64 ∧ ∀ z ∈ zs, inI64 z := by
  obtain ⟨cs, rfl, hsz⟩ := okWide_array Try.underlying24 hv
  obtain ⟨fuel, hf⟩ := h
  obtain ⟨zs, hl, hc, hq⟩ := trod_ints_arr Try.underlying24 Try.underlying3 cellsInt cells64 hf
  refine ⟨zs, ?_, hl, hq⟩
  have : cs.toList = ints zs := hc
  rw [← this]
end
end Go.Proofs.Ytkfdkkhhkciocaa
/- run.isCoef, run.Tokens, the walk of the law RunTokens. -/
namespace Go.Proofs.Ytkfdkkhhkciocaa
set_option linter.unusedVariables false
set_option linter.unusedSimpArgs false
open Go.RowKit
theorem isCoef_any (n : Int) (w : World) : Calls Try.prog 26 #[.int .i64 n] w fun e w' => e = .returned (.bool (inB n (-2047) 2047)) ∧ w = w' := by
  by_cases h : -2047 ≤ n
  · have h' : decide (-2047 ≤ n) = true := by simpa using h
    have e : inB n (-2047) 2047 = decide (n ≤ 2047) := by simp [inB]; omega
    rw [e]; clear e
    go_enter Try.func26, Try.ntmps26
    go_wp2_with fail
    go_ret
    exact ⟨rfl, rfl⟩
  · have h' : decide (-2047 ≤ n) = false := by simpa using h
    have e : inB n (-2047) 2047 = false := inB_not.2 (by omega)
    rw [e]; clear e
    go_enter Try.func26, Try.ntmps26
    go_wp2_with fail
    go_ret
    exact ⟨rfl, rfl⟩
theorem tokens1_any (n : Int) (w : World) : Calls Try.prog 111 (#[.int .i64 n] ++ #[]) w fun e w' => e = .returned (.bool (!inB n (-2047) 2047)) ∧ w = w' := by
  have HC := hid_ (fun W => isCoef_any n W)
  generalize inB n (-2047) 2047 = b at *
  go_enter Try.func111, Try.ntmps111
  go_wp2_with (go_at_call 26; (with_reducible refine (HC.out _).mono ?_); rintro e w' ⟨rfl, rfl⟩)
  go_ret
  exact ⟨rfl, rfl⟩
theorem enters_tokens1 : Enters Try.prog 111 := enters_of Try.func111 (by kernel_rfl) rfl
set_option maxHeartbeats 400000 in
theorem rtok_bad (before : Int) (zs : List Int) (w : World) (hz : zs.length = 64) (h : inB before (-2047) 2047 = false ∨ (inB before (-2047) 2047 = true ∧ allIn zs (-2047) 2047 = false)) :
    Calls Try.prog 75 #[.int .i64 before, .agg (bv zs)] w fun e w' => e = .returned (.tuple #[.slice none 0 0, .int .i64 1]) ∧ Ext w w' := by
  have HOB := hid_ (fun W => isCoef_any before W)
  have HSL := hid_ (fun (W : World) g (h : Blk W g 24 (bv zs)) => h.bsl (c := 64) (by omega) (by omega))
  rw [hz] at HSL
  have HCF := hid_ (fun W v (hs : SL W 1 v 64 (ints zs)) => containsFunc_any 111 #[] (fun z => !inB z (-2047) 2047) enters_tokens1 v zs W (by rw [hz]; exact hs) (fun z _ => tokens1_any z W))
  simp only [inB_any] at HCF
  generalize bv zs = c0 at *
  rcases h with h | ⟨h, h2⟩
  · rw [h] at HOB
    clear h
    go_enter Try.func75, Try.ntmps75
    go_wp2_with (first
      | (refine wpList_box_abs rfl 24 (.tmp 1) rfl c0 rfl ?_; intro w1 gb hbb1 hx1 hgb)
      | (go_at_call 26; (with_reducible refine (HOB.out _).mono ?_); rintro e w' ⟨rfl, rfl⟩))
    go_ret2
    exact ⟨rfl, hx1⟩
  · rw [h] at HOB
    rw [h2] at HCF
    clear h h2
    go_enter Try.func75, Try.ntmps75
    go_wp2_with (first
      | (refine wpList_box_abs rfl 24 (.tmp 1) rfl c0 rfl ?_; intro w1 gb hbb1 hx1 hgb; have hsl := HSL.out _ _ hbb1)
      | (go_at_call 26; (with_reducible refine (HOB.out _).mono ?_); rintro e w' ⟨rfl, rfl⟩)
      | (go_at_call 85; (with_reducible refine (HCF.out _ _ hsl).mono ?_); rintro e w' ⟨rfl, rfl⟩))
    go_ret2
    exact ⟨rfl, hx1⟩
set_option maxHeartbeats 400000 in
theorem rtok_good (before : Int) (zs : List Int) (w : World) (hz : zs.length = 64) (hb1 : -2047 ≤ before) (hb2 : before ≤ 2047) (hal : allIn zs (-2047) 2047 = true) (h01 : -2047 ≤ (zto zs).getD 0 0) (h02 : (zto zs).getD 0 0 ≤ 2047) :
    Calls Try.prog 75 #[.int .i64 before, .agg (bv zs)] w fun e w' => ∃ A c, e = .returned (.tuple #[.slice A (tokensZ before (zto zs)).length c, .int .i64 0]) ∧ SL w' 3 (.slice A (tokensZ before (zto zs)).length c) (tokensZ before (zto zs)).length (toks (tokensZ before (zto zs))) ∧ Ext w w' := by
  have HOB := hid_ (fun W => isCoef_any before W)
  rw [inB_iff.2 ⟨hb1, hb2⟩] at HOB
  have HSL := hid_ (fun (W : World) g (h : Blk W g 24 (bv zs)) => h.bsl (c := 64) (by omega) (by omega))
  rw [hz] at HSL
  have HCF := hid_ (fun W v (hs : SL W 1 v 64 (ints zs)) => containsFunc_any 111 #[] (fun z => !inB z (-2047) 2047) enters_tokens1 v zs W (by rw [hz]; exact hs) (fun z _ => tokens1_any z W))
  simp only [inB_any, hal] at HCF
  have HT := hid_ (fun W => tokens_any before zs W hz hb1 hb2 h01 h02)
  have hsz := hid_ ((bv_size zs).trans hz)
  generalize tokensZ before (zto zs) = T at *
  generalize bv zs = c0 at *
  clear hal h01 h02
  go_enter Try.func75, Try.ntmps75
  go_wp2_with (first
    | (refine wpList_box_abs rfl 24 (.tmp 1) rfl c0 rfl ?_; intro w1 gb hbb1 hx1 hgb; have hsl := HSL.out _ _ hbb1)
    | (go_at_call 26; (with_reducible refine (HOB.out _).mono ?_); rintro e w' ⟨rfl, rfl⟩)
    | (go_at_call 85; (with_reducible refine (HCF.out _ _ hsl).mono ?_); rintro e w' ⟨rfl, rfl⟩)
    | (refine wpList_load_blk rfl 24 (.tmp 3) rfl _ rfl hbb1 _ Try.underlying24 rfl 64 size48 hsz.out ?_)
    | (go_at_call 71; (with_reducible refine (HT.out _).mono ?_); rintro e w2 ⟨A, c, rfl, hs2, hf2, hx2⟩))
  go_ret2
  exact ⟨A, c, rfl, hs2, hx1.trans hx2⟩
end Go.Proofs.Ytkfdkkhhkciocaa
/- run.From, its head: a source that fails, a first token that may not be. -/
namespace Go.Proofs.Ytkfdkkhhkciocaa
set_option linter.unusedVariables false
set_option linter.unusedSimpArgs false
open Go.RowKit
theorem none_any (x : Int) (w : World) : Calls Try.prog 68 #[.int .i64 x] w fun e w' => e = .returned (.tuple #[.agg (bv (List.replicate 64 0)), .slice none 0 0, .int .i64 x]) ∧ Ext w w' := by
  have hz0 := hid_ (show (Value.agg (bv (List.replicate 64 0))).cells.size = 64 by rw [show (Value.agg (bv (List.replicate 64 0))).cells = bv (List.replicate 64 0) from rfl, bv_size]; rfl)
  have hbt : Try.prog.built 24 [] = some (bv (List.replicate 64 0)) := by kernel_rfl
  have hal : (Try.prog.info? 24).bind (·.zero) = some (.agg (bv (List.replicate 64 0))) := zero48
  have HBT := hid_ hbt
  have HAL := hid_ hal
  have HO := hid_ (bv_one (List.replicate 64 0))
  have HS := hid_ (show (bv (List.replicate 64 0)).size = 64 by rw [bv_size]; rfl)
  clear hbt hal
  generalize bv (List.replicate 64 0) = cz at *
  go_enter Try.func68, Try.ntmps68
  go_wp2_with (first
    | (show wpList _ _ _ (⟨some 2, _, _, _, _, _⟩ :: _) _ _; refine wpList_alloc_abs' rfl (some 2) rfl 24 rfl _ HAL.out ?_; intro w1 g1 hb1 hx1 hg1)
    | (refine wpList_build0 rfl 24 rfl _ HBT.out ?_)
    | (show wpList _ _ _ (⟨none, .store _ (.tmp 2) (.tmp 5), _, _, _, _⟩ :: _) _ _; refine wpList_store_blk rfl 24 (.tmp 2) (.tmp 5) rfl _ _ rfl rfl hb1 64 size48 HS.out hz0.out HO.out ?_; intro w2 hb2 hg2))
  refine ret_cell_tmp2 rfl rfl _ rfl hb2 _ Try.underlying24 rfl 64 size48 HS.out ⟨rfl, hx1.grown hg2 hg1⟩
section
variable {σ : Type} {f : FuncId} {B : Nat} {S : Nat → Prop} {Inv : World → σ → Prop} {next : Bool → σ → Tok × Int × σ}
/-- what From hands back -/
def FromIs (S : Nat → Prop) (Inv : World → σ → Prop) (w : World) (g : Int × List Int × List Tok × σ) (e : Ending) (w' : World) : Prop :=
  ∃ A c, e = .returned (.tuple #[.agg (bv g.2.1), .slice A g.2.2.1.length c, .int .i64 g.1]) ∧ SL w' 3 (.slice A g.2.2.1.length c) g.2.2.1.length (toks g.2.2.1) ∧ Inv w' g.2.2.2 ∧ Upd S w w'
set_option maxRecDepth 100000 in
set_option maxHeartbeats 1000000 in
theorem from_err (before : Int) {ty : TypeId} {v recv : Value} (hm : Meth Try.prog ty v "Token" f recv) (C : Src f #[recv] #[] B S Inv next) (w : World) (s : σ) (hI : Inv w s) (hB : B = w.heap.size)
    {t : Tok} {x : Int} {s1 : σ} (h : next true s = (t, x, s1)) (hx0 : x ≠ 0) : Calls Try.prog 27 #[.int .i64 before, .iface ty v] w (FromIs S Inv w (x, List.replicate 64 0, [], s1)) := by
  have HA := hid_ (fun W (a : Inv W s) (b : B ≤ W.heap.size) => C.ask true s W a b)
  rw [h] at HA
  simp only [Array.append_empty, List.append_toArray, List.cons_append, List.nil_append, tokv_out] at HA
  have hxb : (x != 0) = true := by simpa using hx0
  have HN := hid_ (fun W => none_any x W)
  have HAL := hid_ (show (Try.prog.info? 24).bind (·.zero) = some (.agg (bv (List.replicate 64 0))) from zero48)
  have HO := hid_ (bv_one (List.replicate 64 0))
  have HS := hid_ (show (bv (List.replicate 64 0)).size = 64 by rw [bv_size]; rfl)
  have hz0 := hid_ (show (Value.agg (bv (List.replicate 64 0))).cells.size = 64 by rw [show (Value.agg (bv (List.replicate 64 0))).cells = bv (List.replicate 64 0) from rfl, bv_size]; rfl)
  have HK := hid_ C.keep
  have HLOW := hid_ C.low
  unfold FromIs
  generalize hcz : bv (List.replicate 64 0) = cz at *
  have HCZ := hid_ hcz
  have HBs := hid_ hB
  clear h hx0 C hcz hB
  go_enter Try.func27, Try.ntmps27
  go_wp2_with (first
    | (show wpList _ _ _ (⟨some 4, _, _, _, _, _⟩ :: _) _ _; refine wpList_alloc_abs' rfl (some 4) rfl 24 rfl _ HAL.out ?_; intro w1 g1 hb1 hx1 hg1)
    | (show wpList _ _ _ (⟨some 19, _, _, _, _, _⟩ :: _) _ _; refine wl_enter (by rfl) (run_invoke (.tmp 18) "Token" _ _ rfl rfl hm #[recv, .bool true] (by simp [Act.eval])) ?_; (with_reducible refine (HA.out _ (HK.out _ _ _ hI (upd_of_ext hx1)) (by rw [HBs.out]; exact hx1.size)).mono ?_); rintro e w2 ⟨rfl, hi2, hu2⟩; refine ⟨_, rfl, ?_⟩)
    | (show wpList _ _ _ (⟨some 8, _, _, _, _, _⟩ :: _) _ _; refine wpList_alloc_abs' rfl (some 8) rfl 74 rfl _ zeroTok ?_; intro w3 g3 hb3 hx3 hg3)
    | (show wpList _ _ _ (⟨none, .store _ (.tmp 8) (.tmp 20), _, _, _, _⟩ :: _) _ _; refine wpList_store_blk rfl 74 (.tmp 8) (.tmp 20) rfl _ _ rfl rfl hb3 3 sizeTok rfl rfl (three_one _ _ _) ?_; intro w4 hb4 hg4)
    | (go_at_call 68; (with_reducible refine (HN.out _).mono ?_); rintro e w5 ⟨rfl, hx5⟩; have hb1' : Blk w5 g1 24 (Value.agg cz).cells := ((((hu2.blk hb1 (fun k => by have := HLOW.out _ k; have := HBs.out; omega)).ext hx3).grown hg4 (by intro k; have := Option.some.inj k; have := (hu2.blk hb1 (fun k => by have := HLOW.out _ k; have := HBs.out; omega)).lt; omega))).ext hx5)
    | (show wpList _ _ _ (⟨none, .store _ (.tmp 4) (.tmp 27), _, _, _, _⟩ :: _) _ _; refine wpList_store_blk rfl 24 (.tmp 4) (.tmp 27) rfl _ _ rfl rfl hb1' 64 size48 HS.out hz0.out HO.out ?_; intro w6 hb6 hg6))
  have hu : Upd S w w6 := by
    have h1 : Upd S w w2 := (upd_of_ext (S := S) hx1).trans hu2 (fun _ k => .inl k)
    have h2 := h1.size
    have h3 : Upd S w w3 := h1.trans (upd_of_ext (S := fun _ => False) hx3) (fun _ k => k.elim)
    have h4 := h3.trans (upd_grown hg4) (fun x k => .inr (by have := Option.some.inj k; omega))
    have h5 := h4.trans (upd_of_ext (S := fun _ => False) hx5) (fun _ k => k.elim)
    exact h5.trans (upd_grown hg6) (fun x k => .inr (by have := Option.some.inj k; omega))
  have hi : Inv w6 s1 := by
    have h2 := hu2.size
    have h3 := hx1.size
    have hBB := HBs.out
    have k3 : Upd (fun b => B ≤ b) w2 w3 := upd_of_ext hx3
    have k4 := k3.trans (upd_grown hg4) (fun x k => .inl (by have := Option.some.inj k; omega))
    have k5 := k4.trans (upd_of_ext (S := fun _ => False) hx5) (fun _ k => k.elim)
    exact HK.out _ _ _ hi2 (k5.trans (upd_grown hg6) (fun x k => .inl (by have := Option.some.inj k; omega)))
  refine ret_cell_tmp2 rfl rfl _ rfl hb6 _ Try.underlying24 rfl 64 size48 HS.out ?_
  exact ⟨none, 0, rfl, SL.nil _ _, hi, hu⟩
theorem tok_isS : ((Try.prog.info? 74).bind (·.zero)).isSome = true := by kernel_rfl
theorem blk_three {w : World} {g : Nat} {T : TypeId} {a b c : Int} (h : Blk w g T #[.int .i64 a, .int .i64 b, .int .i64 c]) : w.cell? ⟨g, 0, none⟩ = some (.int .i64 a) ∧ w.cell? ⟨g, 1, none⟩ = some (.int .i64 b) ∧ w.cell? ⟨g, 2, none⟩ = some (.int .i64 c) := by
  rw [h.cell, h.cell, h.cell]
  exact ⟨rfl, rfl, rfl⟩
set_option maxRecDepth 100000 in
set_option maxHeartbeats 4000000 in
theorem from_bad (before : Int) (hb1 : -2047 ≤ before) (hb2 : before ≤ 2047) {ty : TypeId} {v recv : Value} (hm : Meth Try.prog ty v "Token" f recv) (C : Src f #[recv] #[] B S Inv next) (w : World) (s : σ) (hI : Inv w s) (hB : B = w.heap.size)
    {t : Tok} {s1 : σ} (h : next true s = (t, 0, s1)) (hbad : tokOk1 before t = false) : Calls Try.prog 27 #[.int .i64 before, .iface ty v] w (FromIs S Inv w (4, List.replicate 64 0, [], s1)) := by
  have HA := hid_ (fun W (a : Inv W s) (b : B ≤ W.heap.size) => C.ask true s W a b)
  rw [h] at HA
  simp only [Array.append_empty, List.append_toArray, List.cons_append, List.nil_append, tokv_out] at HA
  have HN := hid_ (fun W => none_any 4 W)
  have HAL := hid_ (show (Try.prog.info? 24).bind (·.zero) = some (.agg (bv (List.replicate 64 0))) from zero48)
  have HO := hid_ (bv_one (List.replicate 64 0))
  have HS := hid_ (show (bv (List.replicate 64 0)).size = 64 by rw [bv_size]; rfl)
  have hz0 := hid_ (show (Value.agg (bv (List.replicate 64 0))).cells.size = 64 by rw [show (Value.agg (bv (List.replicate 64 0))).cells = bv (List.replicate 64 0) from rfl, bv_size]; rfl)
  have HK := hid_ C.keep
  have HLOW := hid_ C.low
  obtain ⟨t1, t2, t3⟩ := t
  have HBK := hid_ (fun W => back_any t2 t3 W)
  have hbb := backR_bd t2 t3
  have hcase : ((backR t2 t3).2 != 0) = true ∨ (((backR t2 t3).2 != 0) = false ∧ (t1 != t2) = true) ∨ (((backR t2 t3).2 != 0) = false ∧ (t1 != t2) = false ∧ inB (before + (backR t2 t3).1) (-2047) 2047 = false) := by
    by_cases c1 : (backR t2 t3).2 = 0
    · by_cases c2 : t1 = t2
      · refine .inr (.inr ⟨by simpa using c1, by simpa using c2, ?_⟩)
        rw [inB_not]
        unfold tokOk1 at hbad
        simp only [decide_eq_false_iff_not, not_and] at hbad
        have := hbad c1 c2
        omega
      · exact .inr (.inl ⟨by simpa using c1, by simpa using c2⟩)
    · exact .inl (by simpa using c1)
  have HIC := hid_ (fun W => isCoef_any (before + (backR t2 t3).1) W)
  unfold FromIs
  clear hbad h C
  generalize backR t2 t3 = bk at *
  obtain ⟨b1, b2⟩ := bk
  simp only at hbb hcase HBK HIC
  obtain ⟨hbb1, hbb2, -⟩ := hbb
  generalize hcz : bv (List.replicate 64 0) = cz at *
  have HCZ := hid_ hcz
  have HBs := hid_ hB
  clear hcz hB
  rcases hcase with c1 | ⟨c1, c2⟩ | ⟨c1, c2, c3⟩
  all_goals
    go_enter Try.func27, Try.ntmps27
    go_wp2_with (first
      | (show wpList _ _ _ (⟨some 4, _, _, _, _, _⟩ :: _) _ _; refine wpList_alloc_abs' rfl (some 4) rfl 24 rfl _ HAL.out ?_; intro w1 g1 hb1 hx1 hg1)
      | (show wpList _ _ _ (⟨some 19, _, _, _, _, _⟩ :: _) _ _; refine wl_enter (by rfl) (run_invoke (.tmp 18) "Token" _ _ rfl rfl hm #[recv, .bool true] (by simp [Act.eval])) ?_; (with_reducible refine (HA.out _ (HK.out _ _ _ hI (upd_of_ext hx1)) (by rw [HBs.out]; exact hx1.size)).mono ?_); rintro e w2 ⟨rfl, hi2, hu2⟩; refine ⟨_, rfl, ?_⟩)
      | (show wpList _ _ _ (⟨some 8, _, _, _, _, _⟩ :: _) _ _; refine wpList_alloc_abs' rfl (some 8) rfl 74 rfl _ zeroTok ?_; intro w3 g3 hb3 hx3 hg3)
      | (show wpList _ _ _ (⟨none, .store _ (.tmp 8) (.tmp 20), _, _, _, _⟩ :: _) _ _; refine wpList_store_blk rfl 74 (.tmp 8) (.tmp 20) rfl _ _ rfl rfl hb3 3 sizeTok rfl rfl (three_one _ _ _) ?_; intro w4 hb4 hg4)
      | (show wpList _ _ _ (⟨some 30, _, _, _, _, _⟩ :: _) _ _; refine wpList_load_blk rfl 74 (.tmp 8) rfl g3 rfl hb4 _ Try.underlying74 rfl 3 sizeTok rfl ?_)
      | (show wpList _ _ _ (⟨some 31, _, _, _, _, _⟩ :: _) _ _; refine wpList_lit1 rfl 22 74 (.tmp 30) rfl (some 31) rfl Try.underlying22 3 sizeTok tok_isS _ rfl rfl (by omega) (by omega) ?_; intro w5 g5 hb5 hx5 hg5; obtain ⟨q0, q1, q2⟩ := blk_three (hb4.ext hx5))
      | (go_at_call 69; (with_reducible refine (HBK.out _).mono ?_); rintro e w' ⟨rfl, rfl⟩)
      | (go_at_call 26; (with_reducible refine (HIC.out _).mono ?_); rintro e w' ⟨rfl, rfl⟩)
      | (go_at_call 68; (with_reducible refine (HN.out _).mono ?_); rintro e w6 ⟨rfl, hx6⟩; have hb1' : Blk w6 g1 24 (Value.agg cz).cells := (((((hu2.blk hb1 (fun k => by have := HLOW.out _ k; have := HBs.out; omega)).ext hx3).grown hg4 (by intro k; have := Option.some.inj k; have := (hu2.blk hb1 (fun k => by have := HLOW.out _ k; have := HBs.out; omega)).lt; omega))).ext hx5).ext hx6)
      | (show wpList _ _ _ (⟨none, .store _ (.tmp 4) (.tmp 58), _, _, _, _⟩ :: _) _ _; refine wpList_store_blk rfl 24 (.tmp 4) (.tmp 58) rfl _ _ rfl rfl hb1' 64 size48 HS.out hz0.out HO.out ?_; intro w7 hb7 hg7))
    have hu : Upd S w w7 := by
      have h1 : Upd S w w2 := (upd_of_ext (S := S) hx1).trans hu2 (fun _ k => .inl k)
      have h2 := h1.size
      have h3 : Upd S w w3 := h1.trans (upd_of_ext (S := fun _ => False) hx3) (fun _ k => k.elim)
      have h4 := h3.trans (upd_grown hg4) (fun x k => .inr (by have := Option.some.inj k; omega))
      have h5 := h4.trans (upd_of_ext (S := fun _ => False) (hx5.trans hx6)) (fun _ k => k.elim)
      exact h5.trans (upd_grown hg7) (fun x k => .inr (by have := Option.some.inj k; omega))
    have hi : Inv w7 s1 := by
      have h2 := hu2.size
      have h3 := hx1.size
      have hBB := HBs.out
      have k3 : Upd (fun b => B ≤ b) w2 w3 := upd_of_ext hx3
      have k4 := k3.trans (upd_grown hg4) (fun x k => .inl (by have := Option.some.inj k; omega))
      have k5 := k4.trans (upd_of_ext (S := fun _ => False) (hx5.trans hx6)) (fun _ k => k.elim)
      exact HK.out _ _ _ hi2 (k5.trans (upd_grown hg7) (fun x k => .inl (by have := Option.some.inj k; omega)))
    refine ret_cell_tmp2 rfl rfl _ rfl hb7 _ Try.underlying24 rfl 64 size48 HS.out ?_
    exact ⟨none, 0, rfl, SL.nil _ _, hi, hu⟩
end
end Go.Proofs.Ytkfdkkhhkciocaa
/- Binary digits, numbers and bytes: plain. -/
namespace Go.Proofs.Ytkfdkkhhkciocaa
set_option linter.unusedVariables false
set_option linter.unusedSimpArgs false
/-- the last k binary digits of n, the highest first -/
def digs (n : Nat) : Nat → List Bool
  | 0 => []
  | k + 1 => (n / 2 ^ k % 2 == 1) :: digs n k
/-- the number that digits tell -/
def numB : List Bool → Nat
  | [] => 0
  | b :: l => b.toNat * 2 ^ l.length + numB l
theorem digs_len (n k : Nat) : (digs n k).length = k := by
  induction k with
  | zero => rfl
  | succ k ih => simp [digs, ih]
theorem numB_lt (l : List Bool) : numB l < 2 ^ l.length := by
  induction l with
  | nil => simp [numB]
  | cons b l ih =>
    simp only [numB, List.length_cons, Nat.pow_succ]
    cases b <;> simp <;> omega
theorem numB_append (a b : List Bool) : numB (a ++ b) = numB a * 2 ^ b.length + numB b := by
  induction a with
  | nil => simp [numB]
  | cons x a ih =>
    simp only [List.cons_append, numB, List.length_append, ih, Nat.pow_add, Nat.add_mul, Nat.mul_assoc]
    omega
theorem numB_digs (n k : Nat) : numB (digs n k) = n % 2 ^ k := by
  induction k with
  | zero => simp [digs, numB, Nat.mod_one]
  | succ k ih =>
    simp only [digs, numB, digs_len, ih]
    have e : (n / 2 ^ k % 2 == 1).toNat = n / 2 ^ k % 2 := by
      rcases (show n / 2 ^ k % 2 = 0 ∨ n / 2 ^ k % 2 = 1 by omega) with h | h <;> simp [h]
    rw [e, Nat.pow_succ, Nat.mod_mul, Nat.mul_comm]
    omega
theorem numB_digs_lt {n k : Nat} (h : n < 2 ^ k) : numB (digs n k) = n := by rw [numB_digs, Nat.mod_eq_of_lt h]
theorem numB_inj {a b : List Bool} (hl : a.length = b.length) (h : numB a = numB b) : a = b := by
  induction a generalizing b with
  | nil => cases b with | nil => rfl | cons _ _ => simp at hl
  | cons x a ih =>
    cases b with
    | nil => simp at hl
    | cons y b =>
      have hl' : a.length = b.length := by simpa using hl
      simp only [numB, hl'] at h
      have h1 := numB_lt a
      have h2 := numB_lt b
      rw [hl'] at h1
      have hxy : x = y := by
        cases x <;> cases y <;> simp at h ⊢ <;> omega
      subst hxy
      rw [ih hl' (by omega)]
theorem digs_numB (l : List Bool) : digs (numB l) l.length = l := numB_inj (digs_len _ _) (numB_digs_lt (numB_lt l))
theorem digs_mod (n k m : Nat) (h : k ≤ m) : digs (n % 2 ^ m) k = digs n k := by
  apply numB_inj (by simp [digs_len])
  rw [numB_digs, numB_digs, Nat.mod_mod_of_dvd _ (Nat.pow_dvd_pow 2 h)]
theorem digs_add (x y j k : Nat) (hy : y < 2 ^ j) : digs (x * 2 ^ j + y) (k + j) = digs x k ++ digs y j := by
  apply numB_inj (by simp [digs_len])
  rw [numB_append, digs_len, numB_digs, numB_digs, numB_digs, Nat.mod_eq_of_lt hy, Nat.add_comm k j, Nat.pow_add]
  rw [Nat.mod_mul, Nat.mul_comm x, Nat.mul_add_mod, Nat.mod_eq_of_lt hy, Nat.mul_add_div (Nat.two_pow_pos j), Nat.div_eq_of_lt hy, Nat.add_zero, Nat.mul_comm (2 ^ j), Nat.add_comm]
theorem numB_drop (l : List Bool) (k : Nat) : numB (l.drop k) = numB l % 2 ^ (l.length - k) := by
  have h := numB_append (l.take k) (l.drop k)
  rw [List.take_append_drop] at h
  have h2 := numB_lt (l.drop k)
  rw [List.length_drop] at h h2
  rw [h, Nat.mul_comm, Nat.mul_add_mod, Nat.mod_eq_of_lt h2]
theorem numB_take (l : List Bool) (k : Nat) : numB (l.take k) = numB l / 2 ^ (l.length - k) := by
  have h := numB_append (l.take k) (l.drop k)
  rw [List.take_append_drop] at h
  have h2 := numB_lt (l.drop k)
  rw [List.length_drop] at h h2
  rw [h, Nat.mul_comm, Nat.mul_add_div (Nat.two_pow_pos _), Nat.div_eq_of_lt h2, Nat.add_zero]
/-- the k digits from i on, as a number -/
theorem numB_mid (l : List Bool) (i k : Nat) (h : i + k ≤ l.length) : numB ((l.drop i).take k) = numB l / 2 ^ (l.length - (i + k)) % 2 ^ k := by
  have e : (l.drop i).take k = (l.take (i + k)).drop i := by rw [List.drop_take]; congr 1; omega
  rw [e, numB_drop, numB_take l, List.length_take]
  congr 2
  omega
theorem numB_snoc (l : List Bool) (b : Bool) : numB (l ++ [b]) = 2 * numB l + b.toNat := by
  rw [numB_append]; simp [numB]; omega
/-- whole bytes of digits -/
def packB (l : List Bool) : List Nat := (List.range (l.length / 8)).map fun i => numB ((l.drop (8 * i)).take 8)
/-- the digits behind the whole bytes -/
def restB (l : List Bool) : List Bool := l.drop (8 * (l.length / 8))
theorem packB_len (l : List Bool) : (packB l).length = l.length / 8 := by simp [packB]
theorem restB_len (l : List Bool) : (restB l).length = l.length % 8 := by simp [restB]; omega
theorem packB_lt (l : List Bool) : ∀ x ∈ packB l, x < 256 := by
  intro x hx
  simp only [packB, List.mem_map, List.mem_range] at hx
  obtain ⟨i, hi, rfl⟩ := hx
  have h := numB_lt ((l.drop (8 * i)).take 8)
  have h2 : ((l.drop (8 * i)).take 8).length ≤ 8 := List.length_take_le _ _
  have := Nat.pow_le_pow_right (n := 2) (by omega) h2
  omega
theorem packB_append (l m : List Bool) : packB (l ++ m) = packB l ++ packB (restB l ++ m) := by
  have e : (l ++ m).length / 8 = l.length / 8 + (restB l ++ m).length / 8 := by
    rw [List.length_append, List.length_append, restB_len]; omega
  have key : (l ++ m).drop (8 * (l.length / 8)) = restB l ++ m := by
    rw [List.drop_append_of_le_length (by omega)]; rfl
  unfold packB
  rw [e, List.range_add, List.map_append, List.map_map]
  congr 1
  · apply List.map_congr_left
    intro i hi
    have := List.mem_range.1 hi
    rw [List.drop_append_of_le_length (by omega), List.take_append_of_le_length (by rw [List.length_drop]; omega)]
  · apply List.map_congr_left
    intro i _
    simp only [Function.comp]
    rw [Nat.mul_add, ← List.drop_drop, key]
theorem restB_append (l m : List Bool) : restB (l ++ m) = restB (restB l ++ m) := by
  have key : (l ++ m).drop (8 * (l.length / 8)) = restB l ++ m := by
    rw [List.drop_append_of_le_length (by omega)]; rfl
  rw [restB, restB, ← key, List.drop_drop]
  congr 1
  rw [List.length_drop]
  rw [List.length_append]
  omega
/-- filled up with ones to whole bytes -/
def padB (l : List Bool) : List Bool := l ++ List.replicate ((8 - l.length % 8) % 8) true
theorem padB_len (l : List Bool) : (padB l).length % 8 = 0 := by simp [padB]; omega
theorem numB_ones (k : Nat) : numB (List.replicate k true) = 2 ^ k - 1 := by
  induction k with
  | zero => rfl
  | succ k ih =>
    rw [List.replicate_succ, numB, ih, Nat.pow_succ]
    have := Nat.two_pow_pos k
    simp
    omega
theorem digs_ones (k : Nat) : digs (2 ^ k - 1) k = List.replicate k true := by
  apply numB_inj (by simp [digs_len])
  rw [numB_ones, numB_digs_lt (by have := Nat.two_pow_pos k; omega)]
/-- the digits of bytes -/
def digsOf (b : List Nat) : List Bool := b.flatMap fun x => digs x 8
theorem digsOf_len (b : List Nat) : (digsOf b).length = 8 * b.length := by
  induction b with
  | nil => rfl
  | cons x b ih => simp only [digsOf, List.flatMap_cons, List.length_append, digs_len, List.length_cons] at ih ⊢; omega
theorem digsOf_at (b : List Nat) (i : Nat) (h2 : i < b.length) : ((digsOf b).drop (8 * i)).take 8 = digs b[i] 8 := by
  induction b generalizing i with
  | nil => simp at h2
  | cons x b ih =>
    have e : digsOf (x :: b) = digs x 8 ++ digsOf b := rfl
    rw [e]
    cases i with
    | zero => simp [digs_len]
    | succ i =>
      rw [List.drop_append, List.drop_of_length_le (by rw [digs_len]; omega), digs_len, List.nil_append, show 8 * (i + 1) - 8 = 8 * i by omega]
      have h3 : i < b.length := by simpa using h2
      rw [ih i h3]
      simp
theorem packB_digsOf (b : List Nat) (h : ∀ x ∈ b, x < 256) : packB (digsOf b) = b := by
  have hl := digsOf_len b
  apply List.ext_getElem
  · rw [packB_len, hl]; omega
  · intro i h1 h2
    simp only [packB, List.getElem_map, List.getElem_range]
    rw [digsOf_at b i h2, numB_digs_lt (h _ (List.getElem_mem h2))]
theorem digsOf_append (a b : List Nat) : digsOf (a ++ b) = digsOf a ++ digsOf b := by simp [digsOf]
theorem digsOf_packB (l : List Bool) (h : l.length % 8 = 0) : digsOf (packB l) = l := by
  have key : ∀ k, k ≤ l.length / 8 → digsOf ((List.range k).map fun i => numB ((l.drop (8 * i)).take 8)) = l.take (8 * k) := by
    intro k
    induction k with
    | zero => intro _; simp [digsOf]
    | succ k ih =>
      intro hk
      rw [List.range_succ, List.map_append, digsOf_append, ih (by omega)]
      have e : (l.drop (8 * k)).take 8 = digs (numB ((l.drop (8 * k)).take 8)) 8 := by
        have h1 : ((l.drop (8 * k)).take 8).length = 8 := by simp; omega
        have h2 := digs_numB ((l.drop (8 * k)).take 8)
        rw [h1] at h2
        exact h2.symm
      simp only [List.map_cons, List.map_nil, digsOf, List.flatMap_cons, List.flatMap_nil, List.append_nil]
      rw [← e, show 8 * (k + 1) = 8 * k + 8 by omega, List.take_add]
  unfold packB
  rw [key _ (Nat.le_refl _), List.take_of_length_le (by omega)]
end Go.Proofs.Ytkfdkkhhkciocaa
/- binary of the reference. -/
namespace Go.Proofs.Ytkfdkkhhkciocaa
set_option linter.unusedVariables false
set_option linter.unusedSimpArgs false
open Go.RowKit
/-- the last k binary digits of n, as a string -/
def binS (n : Nat) : Nat → ByteArray
  | 0 => ⟨#[]⟩
  | k + 1 => Utf8.encode (48 + (((n / 2 ^ k) % 2 : Nat) : Int)) ++ binS n k
theorem digit_size (m : Nat) : (Utf8.encode (48 + ((m % 2 : Nat) : Int))).size = 1 := by
  rcases (show m % 2 = 0 ∨ m % 2 = 1 by omega) with h | h <;> rw [h] <;> decide
theorem binS_size (n k : Nat) : (binS n k).size = k := by
  induction k with
  | zero => rfl
  | succ k ih => unfold binS; rw [ByteArray.size_append, digit_size, ih]; omega
set_option maxHeartbeats 400000 in
theorem binary_any (width n : Nat) (w : World) (hw : width ≤ 1000) (hn : n ≤ 1000000000) :
    Calls Try.prog 122 #[.int .i64 (width : Int), .int .i64 (n : Int)] w fun e w' => e = .returned (.string (binS n width)) ∧ w = w' := by
  have HB := hid_ (binS_size n)
  have HN : Hid (∀ k, binS n (k + 1) = Utf8.encode (48 + (((n / 2 ^ k) % 2 : Nat) : Int)) ++ binS n k) := hid_ (fun k => rfl)
  go_enter Try.func122, Try.ntmps122
  go_wp2_with fail
  go_loop [1, 5, 7] (fun v s i => ∃ k m : Nat, k ≤ width ∧ m ≤ 1000000000 ∧ m = n / 2 ^ k ∧ i = .int .i64 (k : Int) ∧ v = .int .i64 (m : Int) ∧ s = .string (binS n k)) (fun _ _ i => width - (intOf i).toNat)
  case atStart => exact ⟨0, n, by omega, hn, by simp, rfl, rfl, rfl⟩
  case round =>
    obtain ⟨k, m, hk, hm, hmn, rfl, rfl, rfl⟩ := hrel
    have HM := hid_ hmn
    clear hmn
    by_cases hlt : k < width
    · have hd := digit_size m
      have hbs := HB.out k
      have HNK := hid_ (HN.out k)
      rw [← HM.out] at HNK
      have em : ((m % 2 : Nat) : Int) = (m : Int) % 2 := by omega
      rw [em] at hd HNK
      clear em
      generalize binS n k = b at *
      generalize hu : Utf8.encode (48 + (m : Int) % 2) = u at *
      have hlim : ¬ 9223372036854775807 < u.size + b.size := by omega
      go_wp2_with fail
      go_round
      case rel => exact ⟨k + 1, m / 2, by omega, by omega, by rw [HM.out, Nat.div_div_eq_div_mul, Nat.pow_succ], by go_num, by simp, by rw [HNK.out]⟩
      case measure => simp [intOf]; omega
    · obtain rfl : k = width := by omega
      go_wp2_with fail
      go_ret
      exact ⟨rfl, rfl⟩
end Go.Proofs.Ytkfdkkhhkciocaa
