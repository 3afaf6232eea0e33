/- Contracts for the law SegCounts, part 8: what the functions that it reaches answer, for all arguments that the theorems name. -/
import Derived.Test.YtkfdkkhhkciocaaMSegCounts5
import Derived.Test.YtkfdkkhhkciocaaMSegCounts6
import Derived.Test.YtkfdkkhhkciocaaMSegCounts1
import Derived.ProofKit
import Derived.OpenShut
import Derived.Test.YtkfdkkhhkciocaaMSegCounts4
/- Tokens of the reference. -/
namespace Go.Proofs.Ytkfdkkhhkciocaa
set_option linter.unusedVariables false
set_option linter.unusedSimpArgs false
open Go.RowKit
set_option maxRecDepth 20000 in
set_option maxHeartbeats 1000000 in
theorem rtokens_fresh (before : Int) (zs : List Int) (w : World) (hz : zs.length = 64) (hb1 : -2047 ≤ before) (hb2 : before ≤ 2047) (hal : allIn zs (-2047) 2047 = true) (h01 : -2047 ≤ (zto zs).getD 0 0) (h02 : (zto zs).getD 0 0 ≤ 2047) :
    Calls Try.prog 34 #[.int .i64 before, .agg (bv zs)] w fun e w' => ∃ A c, e = .returned (.tuple #[.slice A (tokensZ before (zto zs)).length c, .int .i64 0]) ∧ SL w' 3 (.slice A (tokensZ before (zto zs)).length c) (tokensZ before (zto zs)).length (toks (tokensZ before (zto zs))) ∧ (∀ ad, A = some ad → w.heap.size ≤ ad.block) ∧ Ext w w' := by
  have HZT := hid_ (fun W => rzto_any zs W hz)
  have HOB := hid_ (fun W => outside_any before (-2047) 2047 W)
  rw [inB_iff.2 ⟨hb1, hb2⟩] at HOB
  have HBW := hid_ (fun W => blockWithin_any zs (-2047) 2047 W hz)
  rw [hal] at HBW
  have hZl := zto_len zs
  have hsz := hid_ ((bv_size zs).trans hz)
  have hst := hid_ ((bv_size _).trans hZl)
  have hot := hid_ (bv_one (zto zs))
  have hs0 : Hid ((Value.agg (bv zeros64)).cells.size = 64) := hid_ (by rw [show (Value.agg (bv zeros64)).cells = bv zeros64 from rfl, bv_size]; rfl)
  have hz0 := zero48
  have HZ0 := hid_ hz0
  clear hz0
  generalize hZ : zto zs = Z at *
  clear hZ hal
  have h0l : 0 < Z.length := by omega
  have e0 : Z.getD 0 0 = Z[0] := by simp [h0l]
  rw [e0] at h01 h02
  have HAT := hid_ (fun k (hk : k < Z.length) => bv_at Z k hk)
  have HF : Hid (tokensZ before Z = if 0 < (accT (tokZ 0 (Z[0] - before)) (Z.drop 1) 63).2 then (accT (tokZ 0 (Z[0] - before)) (Z.drop 1) 63).1 ++ [(0, 0, 0)] else (accT (tokZ 0 (Z[0] - before)) (Z.drop 1) 63).1) := hid_ (by unfold tokensZ; rw [e0])
  have HT0 := hid_ (fun W => rtoken_any 0 (Z[0] - before) W (by omega) (by omega))
  simp only [tokv_out] at HT0
  generalize bv zeros64 = cz0 at *
  generalize hcz : bv Z = cz at *
  generalize bv zs = c0 at *
  clear hcz hz e0
  generalize ht : tokZ 0 (Z[0] - before) = t0 at *
  clear ht
  have hll : (Z.drop 1).length = 63 := by simp; omega
  have HLL := hid_ hll
  have HLK : Hid (∀ k (h : k < (Z.drop 1).length) (h2 : k + 1 < Z.length), (Z.drop 1)[k] = Z[k + 1]) := hid_ (fun k h h2 => by simp)
  generalize hl : Z.drop 1 = l at *
  clear hl hll
  go_enter Try.func34, Try.ntmps34
  go_wp2_with (first
    | (refine wpList_box_abs rfl 24 (.tmp 1) rfl c0 rfl ?_; intro w1 gb hbb1 hx1 hgb)
    | (go_at_call 28; (with_reducible refine (HOB.out _).mono ?_); rintro e w' ⟨rfl, rfl⟩)
    | (refine wpList_load_blk_g (by rfl) 24 (.tmp 3) rfl _ rfl hbb1 _ Try.underlying24 rfl 64 size48 hsz.out ?_)
    | (go_at_call 33; (with_reducible refine (HBW.out _).mono ?_); rintro e w2 ⟨rfl, hx2⟩; have hbb2 := hbb1.ext hx2)
    | (refine wpList_load_blk rfl 24 (.tmp 3) rfl _ rfl hbb2 _ Try.underlying24 rfl 64 size48 hsz.out ?_)
    | (go_at_call 76; (with_reducible refine (HZT.out _).mono ?_); rintro e w3 ⟨rfl, hx3⟩)
    | (refine wpList_alloc_abs' rfl (some 6) rfl 24 rfl _ HZ0.out ?_; intro w4 g hbb4 hx4 hg)
    | (refine wpList_store_blk rfl 24 (.tmp 6) (.tmp 19) rfl _ _ rfl rfl hbb4 64 size48 hst.out hs0.out hot.out ?_; intro w5 hbb5 hg5; have hc0 : w5.cell? ⟨g, 0, none⟩ = some (.int .i64 Z[0]) := (hbb5.cell 0).trans (HAT.out 0 h0l))
    | (go_at_call 77; (with_reducible refine (HT0.out _).mono ?_); rintro e w6 ⟨rfl, hx6⟩))
  have hown0 := own_built3 (w := w6) (base := w5.heap.size) 74 (.int .i64 t0.1) (.int .i64 t0.2.1) (.int .i64 t0.2.2) hx6.size
  have hx7 := hx6.alloc (.cells #[.int .i64 t0.1, .int .i64 t0.2.1, .int .i64 t0.2.2] 74)
  have hbb7 := hbb5.ext hx7
  have hglt := hbb5.lt
  have hxw : Ext w w5 := (((hx1.trans hx2).trans hx3).trans hx4).grown hg5 (by have := ((hx1.trans hx2).trans hx3).size; omega)
  clear hbb1 hbb2 hbb4 hx1 hx2 hx3 hx4 hg5 hc0 hx6 HZT HT0
  generalize hw7 : w6.alloc (.cells #[.int .i64 t0.1, .int .i64 t0.2.1, .int .i64 t0.2.2] 74) = w7 at *
  clear hw7
  go_loopw [7, 8, 9] (fun v r i wr => ∃ (k m : Nat) (la : Int), k ≤ 63 ∧ m = k + 1 ∧ i = .int .i64 (m : Int) ∧ r = .int .i64 la ∧ la = (k : Int) - ((accT t0 l k).2 : Nat) ∧ wr.ownsRow w5.heap.size 74 3 v (accT t0 l k).1.length (toks (accT t0 l k).1) ∧ Blk wr g 24 cz ∧ Ext w5 wr) (fun _ _ i _ => 64 - (intOf i).toNat)
  case atStart => exact ⟨0, 1, 0, by omega, rfl, rfl, rfl, by simp [accT_zero], hown0, hbb7, hx7⟩
  case round =>
    clear hown0 hbb7 hx7
    obtain ⟨k, m, la, hk, hm, rfl, rfl, hla, hown, hbb, hx⟩ := hrel
    obtain ⟨b1, b2⟩ := accT_bd t0 l k (by have := HLL.out; omega) (by omega)
    by_cases hlt : k < 63
    · have hkl : k < l.length := by have := HLL.out; omega
      have hkZ : k + 1 < Z.length := by omega
      have HS := hid_ (accT_succ t0 l k hkl)
      have hcell : wr.cell? ⟨g, m, none⟩ = some (.int .i64 l[k]) := by rw [hm]; exact (hbb.cell (k + 1)).trans (by rw [HAT.out (k + 1) hkZ, HLK.out k hkl hkZ])
      generalize accT t0 l k = s at *
      obtain ⟨acc, rn⟩ := s
      simp only at b1 b2 hown hla ⊢
      have hm1 : 1 ≤ m := by omega
      have hm2 : m < 64 := by omega
      have HM := hid_ hm
      have HLA := hid_ hla
      have hgap : (m : Int) - la - 1 = (rn : Int) := by omega
      have hlb : -64 ≤ la ∧ la ≤ 64 := by omega
      obtain ⟨hlb1, hlb2⟩ := hlb
      clear hm hla
      by_cases hz0 : l[k] = 0
      · rw [stepT_zero hz0] at HS
        generalize hnk : accT t0 l (k + 1) = s1 at *
        have HS1 := HS.out
        have hz0' : (l[k] == 0) = true := by simpa using hz0
        clear hz0 HS
        go_wp2_with fail
        go_roundw
        case rel =>
          refine ⟨k + 1, m + 1, la, by omega, by rw [HM.out], by go_num, rfl, by rw [hnk, HS1]; have := HLA.out; simp; omega, by rw [hnk, HS1]; exact hown, hbb, hx⟩
        case measure => simp [intOf]; omega
      · rw [stepT_one hz0] at HS
        have hz0' : (l[k] == 0) = false := by simpa using hz0
        have HTK := hid_ (fun W => rtoken_any ((rn : Int) % 16) l[k] W (by omega) (by omega))
        simp only [tokv_out] at HTK
        rw [show ((rn % 16 : Nat) : Int) = (rn : Int) % 16 by omega] at HS
        generalize tokZ ((rn : Int) % 16) l[k] = tk at *
        generalize hnk : accT t0 l (k + 1) = s1 at *
        have HS1 := hid_ HS.out
        have HNK := hid_ hnk
        clear hz0 HS hnk
        go_wp2_with fail
        go_loopw [7, 40] (fun v r wr2 => ∃ j : Nat, j ≤ rn / 16 ∧ r = .int .i64 (j : Int) ∧ wr2.ownsRow w5.heap.size 74 3 v (acc ++ List.replicate j long).length (toks (acc ++ List.replicate j long)) ∧ Blk wr2 g 24 cz ∧ Ext w5 wr2) (fun _ r _ => rn / 16 - (intOf r).toNat)
        case atStart => exact ⟨0, by omega, rfl, by simpa using hown, hbb, hx⟩
        case round =>
          clear hown hbb hx hcell
          obtain ⟨j, hj, rfl, hown, hbb, hx⟩ := hrel
          have hlen : (acc ++ List.replicate j long).length = acc.length + j := by simp
          by_cases hj2 : j < rn / 16
          · have hgt : decide ((j : Int) < (rn : Int) / 16) = true := by simp; omega
            go_wp2_with (at_builtin; go_must (refine wpList_append_sl elt_tok rfl _ _ rfl w5.heap.size _ _ _ rfl (hown.alloc _) _ 1 [.int .i64 _, .int .i64 _, .int .i64 _] rfl (one_sl3 _ _ _ _ _) (tok_one _ _ _) (by omega) (by omega) (by have := hx.size; simp; omega) ?_); intro v' w8 hown8 hb8)
            go_roundw
            case rel =>
              refine ⟨j + 1, by omega, by go_num, ?_, (hbb.alloc _).below hb8 hglt, (hx.alloc _).trans' hb8⟩
              rw [List.replicate_succ', ← List.append_assoc]
              exact own_tok hown8
            case measure => simp [intOf]; omega
          · obtain rfl : j = rn / 16 := by omega
            have hgt : decide (((rn / 16 : Nat) : Int) < (rn : Int) / 16) = false := by simp
            have hcell2 : wr.cell? ⟨g, m, none⟩ = some (.int .i64 l[k]) := by rw [HM.out]; exact (hbb.cell (k + 1)).trans (by rw [HAT.out (k + 1) hkZ, HLK.out k hkl hkZ])
            go_wp2_with (first
              | (go_at_call 77; (with_reducible refine (HTK.out _).mono ?_); rintro e w8 ⟨rfl, hx8⟩)
              | (at_builtin; go_must (refine wpList_append_sl elt_tok rfl _ _ rfl w5.heap.size _ _ _ rfl ((own_ext hown hx8).alloc _) _ 1 [.int .i64 _, .int .i64 _, .int .i64 _] rfl (one_sl3 _ _ _ _ _) (tok_one _ _ _) (by omega) (by omega) (by have := hx.size; have := hx8.size; simp; omega) ?_); intro v' w9 hown9 hb9))
            go_roundw
            case rel =>
              refine ⟨k + 1, m + 1, m, by omega, by rw [HM.out], by go_num, rfl, by rw [HNK.out, HS1.out]; have := HM.out; simp; omega, ?_, ((hbb.ext hx8).alloc _).below hb9 hglt, ((hx.trans hx8).alloc _).trans' hb9⟩
              rw [HNK.out, HS1.out]
              exact own_tok hown9
            case measure => simp [intOf]; omega
    · have ek : k = 63 := by omega
      subst ek
      subst hm
      generalize accT t0 l 63 = s at *
      obtain ⟨acc, rn⟩ := s
      simp only at b1 b2 hown HF hla
      by_cases hr : 0 < rn
      · rw [if_pos hr] at HF
        have hlt3 : decide (la < 63) = true := by simp; omega
        clear hla
        go_wp2_with (at_builtin; go_must (refine wpList_append_sl elt_tok rfl _ _ rfl w5.heap.size _ _ _ rfl (hown.alloc _) _ 1 [.int .i64 _, .int .i64 _, .int .i64 _] rfl (one_sl3 _ _ _ _ _) (tok_one _ _ _) (by omega) (by omega) (by have := hx.size; simp; omega) ?_); intro v' w8 hown8 hb8)
        go_ret2
        rw [HF.out]
        obtain ⟨A, c, rfl, hsl, hfs⟩ := own_form (own_tok hown8)
        exact ⟨A, c, rfl, hsl, fun ad h => Nat.le_trans hxw.size (hfs ad h), hxw.trans ((hx.alloc _).trans' hb8)⟩
      · rw [if_neg hr] at HF
        have hlt3 : decide (la < 63) = false := by simp; omega
        clear hla
        go_wp2_with fail
        go_ret2
        rw [HF.out]
        obtain ⟨A, c, rfl, hsl, hfs⟩ := own_form hown
        exact ⟨A, c, rfl, hsl, fun ad h => Nat.le_trans hxw.size (hfs ad h), hxw.trans hx⟩
theorem rtokens_in (before : Int) (zs : List Int) (w : World) (hz : zs.length = 64) (hb1 : -2047 ≤ before) (hb2 : before ≤ 2047) (hal : allIn zs (-2047) 2047 = true) (h01 : -2047 ≤ (zto zs).getD 0 0) (h02 : (zto zs).getD 0 0 ≤ 2047) :
    Calls Try.prog 34 #[.int .i64 before, .agg (bv zs)] w fun e w' => ∃ A c, e = .returned (.tuple #[.slice A (tokensZ before (zto zs)).length c, .int .i64 0]) ∧ SL w' 3 (.slice A (tokensZ before (zto zs)).length c) (tokensZ before (zto zs)).length (toks (tokensZ before (zto zs))) ∧ Ext w w' :=
  (rtokens_fresh before zs w hz hb1 hb2 hal h01 h02).mono fun _ _ ⟨A, c, e, h1, _, h2⟩ => ⟨A, c, e, h1, h2⟩
set_option maxHeartbeats 400000 in
theorem rtokens_out (before : Int) (zs : List Int) (w : World) (hz : zs.length = 64) (h : inB before (-2047) 2047 = false ∨ (inB before (-2047) 2047 = true ∧ allIn zs (-2047) 2047 = false)) :
    Calls Try.prog 34 #[.int .i64 before, .agg (bv zs)] w fun e w' => e = .returned (.tuple #[.slice none 0 0, .int .i64 1]) ∧ Ext w w' := by
  have HOB := hid_ (fun W => outside_any before (-2047) 2047 W)
  have HBW := hid_ (fun W => blockWithin_any zs (-2047) 2047 W hz)
  have hsz := hid_ ((bv_size zs).trans hz)
  generalize bv zs = c0 at *
  rcases h with h | ⟨h, h2⟩
  · rw [h] at HOB
    clear h
    go_enter Try.func34, Try.ntmps34
    go_wp2_with (first
      | (refine wpList_box_abs rfl 24 (.tmp 1) rfl c0 rfl ?_; intro w1 gb hbb1 hx1 hgb)
      | (go_at_call 28; (with_reducible refine (HOB.out _).mono ?_); rintro e w' ⟨rfl, rfl⟩))
    go_ret2
    exact ⟨rfl, hx1⟩
  · rw [h] at HOB
    rw [h2] at HBW
    clear h h2
    go_enter Try.func34, Try.ntmps34
    go_wp2_with (first
      | (refine wpList_box_abs rfl 24 (.tmp 1) rfl c0 rfl ?_; intro w1 gb hbb1 hx1 hgb)
      | (go_at_call 28; (with_reducible refine (HOB.out _).mono ?_); rintro e w' ⟨rfl, rfl⟩)
      | (refine wpList_load_blk_g (by rfl) 24 (.tmp 3) rfl _ rfl hbb1 _ Try.underlying24 rfl 64 size48 hsz.out ?_)
      | (go_at_call 33; (with_reducible refine (HBW.out _).mono ?_); rintro e w2 ⟨rfl, hx2⟩))
    go_ret2
    exact ⟨rfl, hx1.trans hx2⟩
end Go.Proofs.Ytkfdkkhhkciocaa
/- Arguments opened: what their reading says of their cells. -/
namespace Go.Proofs.Ytkfdkkhhkciocaa
set_option linter.unusedVariables false
set_option linter.unusedSimpArgs false
open Go.RowKit Go.ChangeShapes Go.WideShapes Go.ChangeAt
def inI64 (z : Int) : Prop := -9223372036854775808 ≤ z ∧ z ≤ 9223372036854775807
theorem inI64_of_wf {z : Int} (h : (Lit.int .i64 z).wf = true) : inI64 z := by
  simp [Lit.wf, IntKind.min, IntKind.max, IntKind.signed, IntKind.bits] at h
  exact ⟨by omega, by omega⟩
theorem ints_of_cells {Q : Int → Prop} : ∀ (cs : List Value), (∀ i, i < cs.length → ∃ z, cs[i]? = some (.int .i64 z) ∧ Q z) → ∃ zs : List Int, cs = ints zs ∧ ∀ z ∈ zs, Q z
  | [], _ => ⟨[], rfl, by simp⟩
  | c :: cs, h => by
    obtain ⟨z, hz, hq⟩ := h 0 (by simp)
    obtain ⟨zs, rfl, hqs⟩ := ints_of_cells cs (fun i hi => by have := h (i + 1) (by simpa using hi); simpa using this)
    refine ⟨z :: zs, ?_, ?_⟩
    · simp at hz; subst hz; rfl
    · intro y hy
      cases hy with
      | head => exact hq
      | tail _ hy => exact hqs y hy
section
variable {H : Type} {enc : TypeId × Value → H} {P : Program} {w : World} {base : Nat} {spare : Nat → Bool} {held : Bool}
theorem trod_int_cell {t : TypeId} {fuel : Nat} {cs : List Value} {x : DataW H × List MemPlace} (ht : P.underlying t = some (.int .i64)) (h : DataW.trod enc P w base spare held fuel t cs = some x) :
    ∃ z, cs = [.int .i64 z] ∧ inI64 z := by
  obtain ⟨z, e, -, hw⟩ := DataW.trod_int ht h
  exact ⟨z, e, inI64_of_wf hw⟩
theorem trod_ints_arr {n : Nat} {t e : TypeId} {fuel : Nat} {cs : List Value} {x : DataW H × List MemPlace} (ht : P.underlying t = some (.array n e)) (he : P.underlying e = some (.int .i64)) (hce : P.cellsOf e = 1) (hct : P.cellsOf t = n)
    (h : DataW.trod enc P w base spare held fuel t cs = some x) : ∃ zs : List Int, zs.length = n ∧ cs = ints zs ∧ ∀ z ∈ zs, inI64 z := by
  obtain ⟨xs, m, -, -, hlen, hxl, hi⟩ := DataW.trod_array ht h
  rw [hct] at hlen
  have hcells : ∀ i, i < cs.length → ∃ z, cs[i]? = some (.int .i64 z) ∧ inI64 z := by
    intro i hlt
    have h1 := hi i (by omega)
    rw [hce, Nat.mul_one] at h1
    have hx : xs[i]? = some (xs[i]'(by omega)) := List.getElem?_eq_getElem (by omega)
    rw [hx] at h1
    obtain ⟨z, hz, hq⟩ := trod_int_cell he h1
    refine ⟨z, ?_, hq⟩
    rw [List.drop_eq_getElem_cons hlt] at hz
    simp only [List.take_succ_cons, List.take_zero, List.cons.injEq, and_true] at hz
    rw [List.getElem?_eq_getElem hlt, hz]
  obtain ⟨zs, rfl, hq⟩ := ints_of_cells cs hcells
  exact ⟨zs, by simpa [ints_len] using hlen, rfl, hq⟩
theorem okWide_array {P : Program} {w : World} {r : Reach} {base : Nat} {t e : TypeId} {n : Nat} {v : Value} (ht : P.underlying t = some (.array n e)) (h : Value.okWide P w r base t v) : ∃ cs, v = .agg cs ∧ cs.size = P.cellsOf t := by
  simp only [Value.okWide, ht] at h
  obtain ⟨cs, h1, h2, _⟩ := h
  exact ⟨cs, h1, h2⟩
theorem cells64 : Try.prog.cellsOf 24 = 64 := by kernel_rfl
theorem cellsInt : Try.prog.cellsOf 3 = 1 := by kernel_rfl
set_option maxRecDepth 8000 in
theorem open_block {w : World} {base b0 : Nat} {r : Reach} {v : Value} {d : DataW H} {p : List MemPlace} (hv : Value.okWide Try.prog w r b0 24 v) (h : DataW.Trod enc Try.prog w base spare held 24 v d p) :
    ∃ zs : List Int, v = .agg (ints zs).toArray ∧ zs.length = 64 ∧ ∀ z ∈ zs, inI64 z := by
  obtain ⟨cs, rfl, hsz⟩ := okWide_array Try.underlying24 hv
  obtain ⟨fuel, hf⟩ := h
  obtain ⟨zs, hl, hc, hq⟩ := trod_ints_arr Try.underlying24 Try.underlying3 cellsInt cells64 hf
  refine ⟨zs, ?_, hl, hq⟩
  have : cs.toList = ints zs := hc
  rw [← this]
end
end Go.Proofs.Ytkfdkkhhkciocaa
/- run.isCoef, run.Tokens, the walk of the law RunTokens. -/
namespace Go.Proofs.Ytkfdkkhhkciocaa
set_option linter.unusedVariables false
set_option linter.unusedSimpArgs false
open Go.RowKit
theorem isCoef_any (n : Int) (w : World) : Calls Try.prog 26 #[.int .i64 n] w fun e w' => e = .returned (.bool (inB n (-2047) 2047)) ∧ w = w' := by
  by_cases h : -2047 ≤ n
  · have h' : decide (-2047 ≤ n) = true := by simpa using h
    have e : inB n (-2047) 2047 = decide (n ≤ 2047) := by simp [inB]; omega
    rw [e]; clear e
    go_enter Try.func26, Try.ntmps26
    go_wp2_with fail
    go_ret
    exact ⟨rfl, rfl⟩
  · have h' : decide (-2047 ≤ n) = false := by simpa using h
    have e : inB n (-2047) 2047 = false := inB_not.2 (by omega)
    rw [e]; clear e
    go_enter Try.func26, Try.ntmps26
    go_wp2_with fail
    go_ret
    exact ⟨rfl, rfl⟩
theorem tokens1_any (n : Int) (w : World) : Calls Try.prog 111 (#[.int .i64 n] ++ #[]) w fun e w' => e = .returned (.bool (!inB n (-2047) 2047)) ∧ w = w' := by
  have HC := hid_ (fun W => isCoef_any n W)
  generalize inB n (-2047) 2047 = b at *
  go_enter Try.func111, Try.ntmps111
  go_wp2_with (go_at_call 26; (with_reducible refine (HC.out _).mono ?_); rintro e w' ⟨rfl, rfl⟩)
  go_ret
  exact ⟨rfl, rfl⟩
theorem enters_tokens1 : Enters Try.prog 111 := enters_of Try.func111 (by kernel_rfl) rfl
set_option maxHeartbeats 400000 in
theorem rtok_bad (before : Int) (zs : List Int) (w : World) (hz : zs.length = 64) (h : inB before (-2047) 2047 = false ∨ (inB before (-2047) 2047 = true ∧ allIn zs (-2047) 2047 = false)) :
    Calls Try.prog 75 #[.int .i64 before, .agg (bv zs)] w fun e w' => e = .returned (.tuple #[.slice none 0 0, .int .i64 1]) ∧ Ext w w' := by
  have HOB := hid_ (fun W => isCoef_any before W)
  have HSL := hid_ (fun (W : World) g (h : Blk W g 24 (bv zs)) => h.bsl (c := 64) (by omega) (by omega))
  rw [hz] at HSL
  have HCF := hid_ (fun W v (hs : SL W 1 v 64 (ints zs)) => containsFunc_any 111 #[] (fun z => !inB z (-2047) 2047) enters_tokens1 v zs W (by rw [hz]; exact hs) (fun z _ => tokens1_any z W))
  simp only [inB_any] at HCF
  generalize bv zs = c0 at *
  rcases h with h | ⟨h, h2⟩
  · rw [h] at HOB
    clear h
    go_enter Try.func75, Try.ntmps75
    go_wp2_with (first
      | (refine wpList_box_abs rfl 24 (.tmp 1) rfl c0 rfl ?_; intro w1 gb hbb1 hx1 hgb)
      | (go_at_call 26; (with_reducible refine (HOB.out _).mono ?_); rintro e w' ⟨rfl, rfl⟩))
    go_ret2
    exact ⟨rfl, hx1⟩
  · rw [h] at HOB
    rw [h2] at HCF
    clear h h2
    go_enter Try.func75, Try.ntmps75
    go_wp2_with (first
      | (refine wpList_box_abs rfl 24 (.tmp 1) rfl c0 rfl ?_; intro w1 gb hbb1 hx1 hgb; have hsl := HSL.out _ _ hbb1)
      | (go_at_call 26; (with_reducible refine (HOB.out _).mono ?_); rintro e w' ⟨rfl, rfl⟩)
      | (go_at_call 85; (with_reducible refine (HCF.out _ _ hsl).mono ?_); rintro e w' ⟨rfl, rfl⟩))
    go_ret2
    exact ⟨rfl, hx1⟩
set_option maxHeartbeats 400000 in
theorem rtok_fresh (before : Int) (zs : List Int) (w : World) (hz : zs.length = 64) (hb1 : -2047 ≤ before) (hb2 : before ≤ 2047) (hal : allIn zs (-2047) 2047 = true) (h01 : -2047 ≤ (zto zs).getD 0 0) (h02 : (zto zs).getD 0 0 ≤ 2047) :
    Calls Try.prog 75 #[.int .i64 before, .agg (bv zs)] w fun e w' => ∃ A c, e = .returned (.tuple #[.slice A (tokensZ before (zto zs)).length c, .int .i64 0]) ∧ SL w' 3 (.slice A (tokensZ before (zto zs)).length c) (tokensZ before (zto zs)).length (toks (tokensZ before (zto zs))) ∧ (∀ ad, A = some ad → w.heap.size ≤ ad.block) ∧ Ext w w' := by
  have HOB := hid_ (fun W => isCoef_any before W)
  rw [inB_iff.2 ⟨hb1, hb2⟩] at HOB
  have HSL := hid_ (fun (W : World) g (h : Blk W g 24 (bv zs)) => h.bsl (c := 64) (by omega) (by omega))
  rw [hz] at HSL
  have HCF := hid_ (fun W v (hs : SL W 1 v 64 (ints zs)) => containsFunc_any 111 #[] (fun z => !inB z (-2047) 2047) enters_tokens1 v zs W (by rw [hz]; exact hs) (fun z _ => tokens1_any z W))
  simp only [inB_any, hal] at HCF
  have HT := hid_ (fun W => tokens_any before zs W hz hb1 hb2 h01 h02)
  have hsz := hid_ ((bv_size zs).trans hz)
  generalize tokensZ before (zto zs) = T at *
  generalize bv zs = c0 at *
  clear hal h01 h02
  go_enter Try.func75, Try.ntmps75
  go_wp2_with (first
    | (refine wpList_box_abs rfl 24 (.tmp 1) rfl c0 rfl ?_; intro w1 gb hbb1 hx1 hgb; have hsl := HSL.out _ _ hbb1)
    | (go_at_call 26; (with_reducible refine (HOB.out _).mono ?_); rintro e w' ⟨rfl, rfl⟩)
    | (go_at_call 85; (with_reducible refine (HCF.out _ _ hsl).mono ?_); rintro e w' ⟨rfl, rfl⟩)
    | (refine wpList_load_blk rfl 24 (.tmp 3) rfl _ rfl hbb1 _ Try.underlying24 rfl 64 size48 hsz.out ?_)
    | (go_at_call 71; (with_reducible refine (HT.out _).mono ?_); rintro e w2 ⟨A, c, rfl, hs2, hf2, hx2⟩))
  go_ret2
  exact ⟨A, c, rfl, hs2, fun ad e => Nat.le_trans hx1.size (hf2 ad e), hx1.trans hx2⟩
theorem rtok_good (before : Int) (zs : List Int) (w : World) (hz : zs.length = 64) (hb1 : -2047 ≤ before) (hb2 : before ≤ 2047) (hal : allIn zs (-2047) 2047 = true) (h01 : -2047 ≤ (zto zs).getD 0 0) (h02 : (zto zs).getD 0 0 ≤ 2047) :
    Calls Try.prog 75 #[.int .i64 before, .agg (bv zs)] w fun e w' => ∃ A c, e = .returned (.tuple #[.slice A (tokensZ before (zto zs)).length c, .int .i64 0]) ∧ SL w' 3 (.slice A (tokensZ before (zto zs)).length c) (tokensZ before (zto zs)).length (toks (tokensZ before (zto zs))) ∧ Ext w w' :=
  (rtok_fresh before zs w hz hb1 hb2 hal h01 h02).mono fun _ _ ⟨A, c, e, h1, _, h2⟩ => ⟨A, c, e, h1, h2⟩
end Go.Proofs.Ytkfdkkhhkciocaa
