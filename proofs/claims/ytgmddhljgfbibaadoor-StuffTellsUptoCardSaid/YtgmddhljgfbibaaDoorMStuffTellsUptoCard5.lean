/- Contracts for the law StuffTellsUptoCard, part 5: what the functions that it reaches answer, for all arguments that the theorems name. -/
import Derived.Test.YtgmddhljgfbibaaDoorMStuffTellsUptoCard1
import Derived.ProofKit
import Derived.OpenShut
import Derived.Deep.MidRow
import Derived.Test.YtgmddhljgfbibaaDoorMStuffTellsUptoCard3
import Derived.ChangeSlices
import Derived.Deep.SlicePairs
import Derived.Test.YtgmddhljgfbibaaDoorMStuffTellsUptoCard4
import Derived.Laws.BitsAllLaws
/- Arguments opened: what their reading says of their cells. -/
namespace Go.Proofs.YtgmddhljgfbibaaDoor
set_option linter.unusedVariables false
set_option linter.unusedSimpArgs false
open Go.RowKit Go.ChangeShapes Go.WideShapes Go.ChangeAt
def inI64 (z : Int) : Prop := -9223372036854775808 ≤ z ∧ z ≤ 9223372036854775807
theorem inI64_of_wf {z : Int} (h : (Lit.int .i64 z).wf = true) : inI64 z := by
  simp [Lit.wf, IntKind.min, IntKind.max, IntKind.signed, IntKind.bits] at h
  exact ⟨by omega, by omega⟩
theorem ints_of_cells {Q : Int → Prop} : ∀ (cs : List Value), (∀ i, i < cs.length → ∃ z, cs[i]? = some (.int .i64 z) ∧ Q z) → ∃ zs : List Int, cs = ints zs ∧ ∀ z ∈ zs, Q z
  | [], _ => ⟨[], rfl, by simp⟩
  | c :: cs, h => by
    obtain ⟨z, hz, hq⟩ := h 0 (by simp)
    obtain ⟨zs, rfl, hqs⟩ := ints_of_cells cs (fun i hi => by have := h (i + 1) (by simpa using hi); simpa using this)
    refine ⟨z :: zs, ?_, ?_⟩
    · simp at hz; subst hz; rfl
    · intro y hy
      cases hy with
      | head => exact hq
      | tail _ hy => exact hqs y hy
section
variable {H : Type} {enc : TypeId × Value → H} {P : Program} {w : World} {base : Nat} {spare : Nat → Bool} {held : Bool}
theorem trod_int_cell {t : TypeId} {fuel : Nat} {cs : List Value} {x : DataW H × List MemPlace} (ht : P.underlying t = some (.int .i64)) (h : DataW.trod enc P w base spare held fuel t cs = some x) :
    ∃ z, cs = [.int .i64 z] ∧ inI64 z := by
  obtain ⟨z, e, -, hw⟩ := DataW.trod_int ht h
  exact ⟨z, e, inI64_of_wf hw⟩
theorem trod_ints_arr {n : Nat} {t e : TypeId} {fuel : Nat} {cs : List Value} {x : DataW H × List MemPlace} (ht : P.underlying t = some (.array n e)) (he : P.underlying e = some (.int .i64)) (hce : P.cellsOf e = 1) (hct : P.cellsOf t = n)
    (h : DataW.trod enc P w base spare held fuel t cs = some x) : ∃ zs : List Int, zs.length = n ∧ cs = ints zs ∧ ∀ z ∈ zs, inI64 z := by
  obtain ⟨xs, m, -, -, hlen, hxl, hi⟩ := DataW.trod_array ht h
  rw [hct] at hlen
  have hcells : ∀ i, i < cs.length → ∃ z, cs[i]? = some (.int .i64 z) ∧ inI64 z := by
    intro i hlt
    have h1 := hi i (by omega)
    rw [hce, Nat.mul_one] at h1
    have hx : xs[i]? = some (xs[i]'(by omega)) := List.getElem?_eq_getElem (by omega)
    rw [hx] at h1
    obtain ⟨z, hz, hq⟩ := trod_int_cell he h1
    refine ⟨z, ?_, hq⟩
    rw [List.drop_eq_getElem_cons hlt] at hz
    simp only [List.take_succ_cons, List.take_zero, List.cons.injEq, and_true] at hz
    rw [List.getElem?_eq_getElem hlt, hz]
  obtain ⟨zs, rfl, hq⟩ := ints_of_cells cs hcells
  exact ⟨zs, by simpa [ints_len] using hlen, rfl, hq⟩
theorem okWide_array {P : Program} {w : World} {r : Reach} {base : Nat} {t e : TypeId} {n : Nat} {v : Value} (ht : P.underlying t = some (.array n e)) (h : Value.okWide P w r base t v) : ∃ cs, v = .agg cs ∧ cs.size = P.cellsOf t := by
  simp only [Value.okWide, ht] at h
  obtain ⟨cs, h1, h2, _⟩ := h
  exact ⟨cs, h1, h2⟩
theorem cells64 : Tryd.prog.cellsOf 43 = 64 := by kernel_rfl
theorem cellsInt : Tryd.prog.cellsOf 3 = 1 := by kernel_rfl
set_option maxRecDepth 8000 in
theorem open_block {w : World} {base b0 : Nat} {r : Reach} {v : Value} {d : DataW H} {p : List MemPlace} (hv : Value.okWide Tryd.prog w r b0 43 v) (h : DataW.Trod enc Tryd.prog w base spare held 43 v d p) :
    ∃ zs : List Int, v = .agg (ints zs).toArray ∧ zs.length = 64 ∧ ∀ z ∈ zs, inI64 z := by
  obtain ⟨cs, rfl, hsz⟩ := okWide_array Tryd.underlying43 hv
  obtain ⟨fuel, hf⟩ := h
  obtain ⟨zs, hl, hc, hq⟩ := trod_ints_arr Tryd.underlying43 Tryd.underlying3 cellsInt cells64 hf
  refine ⟨zs, ?_, hl, hq⟩
  have : cs.toList = ints zs := hc
  rw [← this]
end
end Go.Proofs.YtgmddhljgfbibaaDoor
/- Tables: table.total, Has of the reference. -/
namespace Go.Proofs.YtgmddhljgfbibaaDoor
set_option linter.unusedVariables false
set_option linter.unusedSimpArgs false
open Go.RowKit
def tblv (cs : List Int) (sl : Value) : Array Value := (ints cs ++ [sl]).toArray
theorem sizeTbl : (Tryd.prog.info? 32).map (·.size) = some 17 := by kernel_rfl
theorem size16 : (Tryd.prog.info? 29).map (·.size) = some 16 := by kernel_rfl
theorem tblv_size (cs : List Int) (sl : Value) (h : cs.length = 16) : (tblv cs sl).size = 17 := by simp [tblv, ints_len, h]
theorem tblv_range {w : World} {g : Nat} {T : TypeId} {cs : List Int} {sl : Value} (h : Blk w g T (tblv cs sl)) : w.rangeAt g 0 (ints cs) := by
  intro j v hv
  rw [Nat.zero_add, h.cell]
  unfold tblv
  rw [List.getElem?_toArray, List.getElem?_append_left (List.getElem?_eq_some_iff.1 hv).1]
  exact hv
theorem tblv_last {w : World} {g : Nat} {T : TypeId} {cs : List Int} {sl : Value} (h : Blk w g T (tblv cs sl)) (hl : cs.length = 16) : w.cell? ⟨g, 16, none⟩ = some sl := by
  rw [h.cell]
  simp [tblv, ints_len, hl]
theorem run_index16 (cs : Array Value) (i : Nat) (u : Value) (hi : i < 16) (hu : cs[i]? = some u) (w : World) : (Instr.index 29 (.agg cs) (.int .i64 (i : Int))).run Tryd.prog w = .ok u w :=
  run_index_agg _ _ 16 cs i u Tryd.underlying29 _ Tryd.underlying3 sizeInt hi hu w
def sumL (cs : List Int) (k : Nat) : Int := (cs.take k).sum
theorem sumL_succ (cs : List Int) (k : Nat) (h : k < cs.length) : sumL cs (k + 1) = sumL cs k + cs[k] := by
  unfold sumL
  rw [List.take_succ_eq_append_getElem h, List.sum_append]
  simp
def totalZ (cs : List Int) : Int × Bool := if allIn cs 0 256 then (sumL cs 16, decide (sumL cs 16 ≤ 256)) else (0, false)
set_option maxHeartbeats 400000 in
theorem total_any (cs : List Int) (sl : Value) (w : World) (hl : cs.length = 16) :
    Calls Tryd.prog 73 #[.agg (tblv cs sl)] w fun e w' => e = .returned (.tuple #[.int .i64 (totalZ cs).1, .bool (totalZ cs).2]) ∧ Ext w w' := by
  have HL := hid_ hl
  have HRG := hid_ (fun W g (h : Blk W g 32 (tblv cs sl)) => tblv_range h)
  have hcl := hid_ ((ints_len cs).trans hl)
  have HIX := hid_ (fun k (hk : k < cs.length) (h16 : k < 16) => fun W => run_index16 (bv cs) k (.int .i64 cs[k]) h16 (bv_at cs k hk) W)
  generalize tblv cs sl = tv at *
  have hbv : (ints cs).toArray = bv cs := rfl
  go_enter Tryd.func73, Tryd.ntmps73
  go_wp2_with (first
    | (refine wpList_box_abs rfl 32 (.tmp 0) rfl tv rfl ?_; intro w1 g hb1 hx1 hg)
    | (refine wpList_load_mid rfl 29 (.tmp 7) rfl g 0 rfl (ints cs) _ (HRG.out _ _ hb1) Tryd.underlying29 rfl (by rw [hcl.out]; exact size16) ?_))
  go_loop [4, 9] (fun v i => ∃ k : Nat, k ≤ 16 ∧ i = .int .i64 (k : Int) ∧ v = .int .i64 (sumL cs k) ∧ (∀ z ∈ cs.take k, 0 ≤ z ∧ z ≤ 256) ∧ 0 ≤ sumL cs k ∧ sumL cs k ≤ 256 * k) (fun _ i => 16 - (intOf i).toNat)
  case atStart => exact ⟨0, by omega, rfl, rfl, by simp, by simp [sumL], by simp [sumL]⟩
  case round =>
    obtain ⟨k, hk, rfl, rfl, hin, s1, s2⟩ := hrel
    by_cases hlt : k < 16
    · have hkl : k < cs.length := by have := HL.out; omega
      have hix := HIX.out k hkl hlt
      have HS := hid_ (sumL_succ cs k hkl)
      have HIN := hid_ hin
      clear hin
      cases hq : inB cs[k] 0 256 with
      | true =>
        obtain ⟨q1, q2⟩ := inB_iff.1 hq
        have HN := hid_ (allIn_take HIN.out hkl ⟨q1, q2⟩)
        generalize sumL cs k = s at *
        go_wp2_with fail
        go_round
        case rel => exact ⟨k + 1, by omega, by go_num, by rw [HS.out], HN.out, by rw [HS.out]; omega, by rw [HS.out]; omega⟩
        case measure => simp [intOf]; omega
      | false =>
        have HF := hid_ (show totalZ cs = (0, false) by unfold totalZ; rw [allIn_no hkl hq]; rfl)
        rcases Int.lt_or_le cs[k] 0 with h0 | h0
        · have h0' : decide (cs[k] < 0) = true := by simpa using h0
          clear hq
          go_wp2_with fail
          go_ret2
          exact ⟨by rw [HF.out]; rfl, hx1⟩
        · have h0' : decide (cs[k] < 0) = false := by simpa using h0
          have h1' : decide (256 < cs[k]) = true := by have := inB_not.1 hq; simp; omega
          clear hq
          go_wp2_with fail
          go_ret2
          exact ⟨by rw [HF.out]; rfl, hx1⟩
    · have ek : k = 16 := by omega
      have HF := hid_ (show totalZ cs = (sumL cs 16, decide (sumL cs 16 ≤ 256)) by
        unfold totalZ
        rw [allIn_iff.2 (fun z hz => hin z (by rwa [List.take_of_length_le (by have := HL.out; omega)]))]
        rfl)
      rw [ek]
      rw [ek] at s1 s2
      clear hin ek hk hlt
      go_wp2_with fail
      go_ret2
      exact ⟨by rw [HF.out]; rfl, hx1⟩
theorem has_any (xs : List Int) (A : Option Addr) (c n : Nat) (x : Int) (w : World) (hn : xs.length = n) (hs : SL w 1 (.slice A n c) n (ints xs)) :
    Calls Tryd.prog 81 #[.slice A n c, .int .i64 x] w fun e w' => e = .returned (.bool (decide (x ∈ xs))) ∧ w = w' := by
  subst hn
  have hc1 : xs.length ≤ c ∧ c ≤ 9223372036854775807 := by obtain ⟨A', c', e, h1, h2, -⟩ := hs; injection e with e1 e2 e3; subst e3; exact ⟨h1, h2⟩
  obtain ⟨hc1, hc2⟩ := hc1
  go_enter Tryd.func81, Tryd.ntmps81
  go_wp2_with fail
  go_loop [9] (fun i => ∃ k : Nat, k ≤ xs.length ∧ i = .int .i64 k ∧ x ∉ xs.take k) (fun i => xs.length - (intOf i).toNat)
  case atStart => exact ⟨0, by omega, rfl, by simp⟩
  case round =>
    obtain ⟨k, hk, rfl, ht⟩ := hrel
    have HT := hid_ ht
    clear ht
    by_cases hlt : k < xs.length
    · obtain ⟨ad, u, rfl, -, hx, hcell⟩ := hs.at1 hlt
      obtain ⟨_, rfl⟩ := ints_at _ _ _ hx
      clear hx
      by_cases hq : x = xs[k]
      · have hq' : (x == xs[k]) = true := by simpa using hq
        have HC := hid_ (show decide (x ∈ xs) = true by rw [decide_eq_true_eq, hq]; exact List.getElem_mem hlt)
        clear hq
        go_wp2_with fail
        go_ret
        exact ⟨by rw [HC.out]; rfl, rfl⟩
      · have hq' : (x == xs[k]) = false := by simpa using hq
        have HN := hid_ (show x ∉ xs.take (k + 1) by rw [List.take_succ_eq_append_getElem hlt, List.mem_append]; exact fun h => h.elim HT.out (fun h => hq (by simpa using h)))
        clear hq
        go_wp2_with fail
        go_round
        case rel => exact ⟨k + 1, by omega, by go_num, HN.out⟩
        case measure => simp [intOf]; omega
    · have HC := hid_ (show decide (x ∈ xs) = false by
        have := HT.out
        rw [List.take_of_length_le (by omega)] at this
        simpa using this)
      go_wp2_with fail
      go_ret
      exact ⟨by rw [HC.out]; rfl, rfl⟩
end Go.Proofs.YtgmddhljgfbibaaDoor
/- Opening a parameter: a list of integers, a table. -/
namespace Go.Proofs.YtgmddhljgfbibaaDoor
set_option linter.unusedVariables false
set_option linter.unusedSimpArgs false
open Go.RowKit Go.ChangeShapes Go.WideShapes Go.ChangeAt
section
variable {H : Type} {enc : TypeId × Value → H} {w : World} {base : Nat} {spare : Nat → Bool} {held : Bool}
theorem open_intsX {fuel : Nat} {cs : List Value} {x : DataW H × List MemPlace} (h : DataW.trod enc Tryd.prog w base spare held fuel 30 cs = some x) :
    ∃ (zs : List Int) (v : Value), cs = [v] ∧ SL w 1 v zs.length (ints zs) ∧ ∀ z ∈ zs, inI64 z := by
  rcases open_ints Tryd.underlying30 Tryd.underlying3 cellsInt h with ⟨rfl, -⟩ | ⟨a, len, cap, zs, rfl, -, hlc, hcm, hzl, -, hcell, hwf⟩
  · exact ⟨[], _, rfl, SL.nil w 1, by simp⟩
  · have hlen : len ≤ zs.length := by rw [hzl]; split <;> omega
    refine ⟨zs.take len, _, rfl, ?_, fun z hz => inI64_of_wf (hwf z (List.mem_of_mem_take hz))⟩
    have hl : (zs.take len).length = len := by rw [List.length_take]; omega
    rw [hl]
    refine ⟨some a, cap, rfl, hlc, by unfold maxLen at hcm; omega, by rw [ints_len, hl]; omega, fun h0 => ⟨a, rfl, ?_, fun j u hu => ?_⟩⟩
    · have := hcell 0 (by omega)
      have h2 := World.block_lt_of_cell? w _ this
      rwa [block_of_add] at h2
    · obtain ⟨hj, rfl⟩ := ints_at _ _ _ hu
      have hj2 : j < len := by omega
      rw [hcell j (by omega)]
      simp [List.getD_eq_getElem?_getD, show j < zs.length by omega]
theorem cells16 : Tryd.prog.cellsOf 29 = 16 := by kernel_rfl
theorem cellsSl : Tryd.prog.cellsOf 30 = 1 := by kernel_rfl
theorem cellsTbl : Tryd.prog.cellsOf 32 = 17 := by kernel_rfl
set_option maxRecDepth 20000 in
theorem open_table {b0 : Nat} {r : Reach} {v : Value} {d : DataW H} {p : List MemPlace} (hv : Value.okWide Tryd.prog w r b0 32 v) (h : DataW.Trod enc Tryd.prog w base spare held 32 v d p) :
    ∃ (zs xs : List Int) (sl : Value), v = .agg (tblv zs sl) ∧ zs.length = 16 ∧ (∀ z ∈ zs, inI64 z) ∧ SL w 1 sl xs.length (ints xs) ∧ ∀ z ∈ xs, inI64 z := by
  obtain ⟨cs, rfl, hsz⟩ := okWide_struct Tryd.underlying32 hv
  obtain ⟨fuel, hf⟩ := h
  obtain ⟨y0, y1, n, -, hlen, h0, h1⟩ := trod_struct2 Tryd.underlying32 hf
  have hL : cs.toList.length = 17 := by rw [show cs.toList.length = cs.size by simp, hsz, cellsTbl]
  have hcs : (Value.agg cs).cells.toList = cs.toList := rfl
  rw [hcs] at h0 h1
  dsimp only at h0 h1
  obtain ⟨zs, hz, hc, hq⟩ := trod_ints_arr Tryd.underlying29 Tryd.underlying3 cellsInt cells16 h0
  obtain ⟨xs, sl, hs, hsl, hxq⟩ := open_intsX h1
  rw [cells16, List.drop_zero] at hc
  rw [cellsSl] at hs
  refine ⟨zs, xs, sl, ?_, hz, hq, hsl, hxq⟩
  have e2 : cs.toList.drop 16 = [sl] := by
    rw [← hs]
    rw [List.take_of_length_le (by rw [List.length_drop, hL]; omega)]
  have e : cs.toList = ints zs ++ [sl] := by
    rw [← hc, ← e2, List.take_append_drop]
  congr 1
  apply Array.ext'
  rw [e]
  simp [tblv]
end
end Go.Proofs.YtgmddhljgfbibaaDoor
/- Opening a parameter that is a slice. -/
namespace Go.Proofs.YtgmddhljgfbibaaDoor
set_option linter.unusedVariables false
set_option linter.unusedSimpArgs false
open Go.RowKit Go.ChangeShapes Go.WideShapes Go.ChangeAt
section
variable {H : Type} {enc : TypeId × Value → H} {w : World} {base : Nat} {spare : Nat → Bool} {held : Bool}
theorem slice_value {P : Program} {r : Reach} {b0 : Nat} {t e : TypeId} {v : Value} {u : Value} (ht : P.underlying t = some (.slice e)) (hv : Value.okWide P w r b0 t v) (hc : v.cells.toList = [u]) (hu : ∀ cs, u ≠ .agg cs) : v = u := by
  cases v with
  | agg cs =>
    simp [Value.okWide, ht, Cell.okWide, Cell.ok] at hv
  | _ => simpa [Value.cells] using hc
set_option maxRecDepth 20000 in
theorem open_ints_v {b0 : Nat} {r : Reach} {v : Value} {d : DataW H} {p : List MemPlace} (hv : Value.okWide Tryd.prog w r b0 30 v) (h : DataW.Trod enc Tryd.prog w base spare held 30 v d p) :
    ∃ zs : List Int, SL w 1 v zs.length (ints zs) ∧ ∀ z ∈ zs, inI64 z := by
  obtain ⟨fuel, hf⟩ := h
  obtain ⟨zs, u, hcs, hs, hz⟩ := open_intsX hf
  have : v = u := slice_value Tryd.underlying30 hv hcs (by obtain ⟨A, c, rfl, -⟩ := hs; simp)
  subst this
  exact ⟨zs, hs, hz⟩
theorem bytes_of (zs : List Int) (h : ∀ n ∈ zs, (Lit.int .u8 n).wf = true) : ∃ bs : List Nat, zs.map (Value.int .u8) = bytesV bs ∧ ∀ b ∈ bs, b < 256 := by
  refine ⟨zs.map Int.toNat, ?_, ?_⟩
  · unfold bytesV
    rw [List.map_map]
    apply List.map_congr_left
    intro z hz
    have := h z hz
    simp [Lit.wf, IntKind.min, IntKind.max, IntKind.signed, IntKind.bits] at this
    simp; omega
  · intro b hb
    obtain ⟨z, hz, rfl⟩ := List.mem_map.1 hb
    have := h z hz
    simp [Lit.wf, IntKind.min, IntKind.max, IntKind.signed, IntKind.bits] at this
    omega
set_option maxRecDepth 20000 in
theorem open_bytes_v {b0 : Nat} {r : Reach} {v : Value} {d : DataW H} {p : List MemPlace} (hv : Value.okWide Tryd.prog w r b0 22 v) (h : DataW.Trod enc Tryd.prog w base spare held 22 v d p) :
    ∃ bs : List Nat, SL w 1 v bs.length (bytesV bs) ∧ ∀ b ∈ bs, b < 256 := by
  obtain ⟨fuel, hf⟩ := h
  rcases open_ints Tryd.underlying22 Tryd.underlying5 (by kernel_rfl) hf with ⟨hcs, -⟩ | ⟨a, len, cap, zs, hcs, -, hlc, hcm, hzl, -, hcell, hwf⟩
  · obtain rfl := slice_value Tryd.underlying22 hv hcs (by simp)
    exact ⟨[], SL.nil w 1, by simp⟩
  · obtain rfl := slice_value Tryd.underlying22 hv hcs (by simp)
    have hlen : len ≤ zs.length := by rw [hzl]; split <;> omega
    obtain ⟨bs, hbs, hlt⟩ := bytes_of (zs.take len) (fun n hn => hwf n (List.mem_of_mem_take hn))
    have hl : bs.length = len := by
      have := congrArg List.length hbs
      simp [bytesV] at this
      omega
    refine ⟨bs, ?_, hlt⟩
    rw [hl]
    refine ⟨some a, cap, rfl, hlc, by unfold maxLen at hcm; omega, by rw [bytesV_len, hl]; omega, fun h0 => ⟨a, rfl, ?_, fun j u hu => ?_⟩⟩
    · have := hcell 0 (by omega)
      have h2 := World.block_lt_of_cell? w _ this
      rwa [block_of_add] at h2
    · rw [← hbs, List.getElem?_map] at hu
      obtain ⟨z, hz, rfl⟩ := Option.map_eq_some_iff.1 hu
      have hj : j < len := by have := (List.getElem?_eq_some_iff.1 hz).1; simp at this; omega
      rw [List.getElem?_take_of_lt hj] at hz
      rw [hcell j (by omega)]
      simp [List.getD_eq_getElem?_getD, hz]
end
end Go.Proofs.YtgmddhljgfbibaaDoor
/- Reading bits off bytes: plain. -/
namespace Go.Proofs.YtgmddhljgfbibaaDoor
set_option linter.unusedVariables false
set_option linter.unusedSimpArgs false
open Go.RowKit
theorem digs_get (n : Nat) : ∀ (k j : Nat) (h : j < (digs n k).length), ((digs n k)[j]).toNat = n / 2 ^ (k - 1 - j) % 2
  | 0, j, h => by simp [digs] at h
  | k + 1, 0, _ => by
    simp only [digs, List.getElem_cons_zero, Nat.add_sub_cancel, Nat.sub_zero]
    rcases (show n / 2 ^ k % 2 = 0 ∨ n / 2 ^ k % 2 = 1 by omega) with h | h <;> simp [h]
  | k + 1, j + 1, h => by
    have := digs_get n k j (by simpa [digs] using h)
    simp only [digs, List.getElem_cons_succ]
    rw [this]
    congr 3
    omega
theorem digsOf_get (b : List Nat) (p : Nat) (h : p < (digsOf b).length) (h2 : p / 8 < b.length) : ((digsOf b)[p]).toNat = b[p / 8] / 2 ^ (7 - p % 8) % 2 := by
  have e := digsOf_at b (p / 8) h2
  have hl : p % 8 < (digs b[p / 8] 8).length := by rw [digs_len]; omega
  have e2 : (digsOf b)[p] = (digs b[p / 8] 8)[p % 8] := by
    have h3 : (((digsOf b).drop (8 * (p / 8))).take 8)[p % 8]? = (digsOf b)[p]? := by
      rw [List.getElem?_take_of_lt (by omega), List.getElem?_drop]
      congr 1
      omega
    rw [e, List.getElem?_eq_getElem hl, List.getElem?_eq_getElem h] at h3
    exact (Option.some.inj h3).symm
  rw [e2, digs_get]
/-- one bit more -/
theorem numB_next (b : List Nat) (at' i : Nat) (h : at' + i < (digsOf b).length) (h2 : (at' + i) / 8 < b.length) :
    numB (((digsOf b).drop at').take (i + 1)) = 2 * numB (((digsOf b).drop at').take i) + b[(at' + i) / 8] / 2 ^ (7 - (at' + i) % 8) % 2 := by
  rw [numB_take_succ _ _ (by simp; omega)]
  congr 1
  rw [← digsOf_get b (at' + i) h h2]
  congr 1
  simp
theorem numB_take_lt (l : List Bool) (i k : Nat) (h : i ≤ k) : numB (l.take i) < 2 ^ k := numB_le _ _ (by rw [List.length_take]; omega)
/-- what Read answers: the values, how many bits, the error -/
def rdGo (D : List Bool) : List Int → Nat → List Int → List Int × Int × Int
  | [], p, acc => (acc, p, 0)
  | z :: ws, p, acc => if inB z 0 24 then (if p + z.toNat ≤ D.length then rdGo D ws (p + z.toNat) (acc ++ [(numB ((D.drop p).take z.toNat) : Int)]) else ([], 0, 3)) else ([], 0, 1)
def rdZ (D : List Bool) (ws : List Int) : List Int × Int × Int := if ws.length ≤ 20000 then rdGo D ws 0 [] else ([], 0, 2)
theorem rdGo_bad {D : List Bool} {z : Int} {ws : List Int} {p : Nat} {acc : List Int} (h : inB z 0 24 = false) : rdGo D (z :: ws) p acc = ([], 0, 1) := by simp [rdGo, h]
theorem rdGo_out {D : List Bool} {z : Int} {ws : List Int} {p : Nat} {acc : List Int} (h : inB z 0 24 = true) (h2 : ¬ p + z.toNat ≤ D.length) : rdGo D (z :: ws) p acc = ([], 0, 3) := by simp [rdGo, h, h2]
theorem rdGo_one {D : List Bool} {z : Int} {ws : List Int} {p : Nat} {acc : List Int} (h : inB z 0 24 = true) (h2 : p + z.toNat ≤ D.length) :
    rdGo D (z :: ws) p acc = rdGo D ws (p + z.toNat) (acc ++ [(numB ((D.drop p).take z.toNat) : Int)]) := by simp [rdGo, h, h2]
section
variable {o : Oper} {a : Act} {P : Program}
theorem ex_nil {x : Operand} (ho : o.op = .nilCheck x) {p : Addr} (hx : a.eval x = .pointer (some p)) (w : World) : (execOp a.eval o).run P w = .ok (.value (.pointer (some p))) w := by
  simp [execOp, ho, hx]
theorem ex_binK {op : BinOp} {t : TypeId} {x y : Operand} {t2 : TypeId} (ho : o.op = .binOp op t x y t2) {k k' : IntKind} {m n : Int} (hx : a.eval x = .int k m) (hy : a.eval y = .int k' n) {v : Value}
    (hr : ∀ w, (binOp op t (.int k m) (.int k' n)).run P w = .ok v w) (w : World) : (execOp a.eval o).run P w = .ok (.value v) w := by
  simp [execOp, ho, hx, hy, guardG, hr]
end
theorem run_shl_one (m : Nat) (h : m < 1099511627776) (W : World) : (binOp .shl 3 (.int .i64 (m : Int)) (.int .u64 1)).run Tryd.prog W = .ok (.int .i64 ((2 * m : Nat) : Int)) W := by
  have e : IntKind.i64.wrap ((m : Int) * 2 ^ (min 1 IntKind.i64.bits)) = ((2 * m : Nat) : Int) := by
    rw [show min 1 IntKind.i64.bits = 1 by decide, IntWalk.i64_in _ (by omega)]; omega
  have e3 : (2 * (m : Int)) = ((2 * m : Nat) : Int) := by omega
  simp [binOp, Op.shift, e]
theorem run_shr8 (x s : Nat) (hx : x < 256) (hs : s < 8) (W : World) : (binOp .shr 5 (.int .u8 (x : Int)) (.int .i64 (s : Int))).run Tryd.prog W = .ok (.int .u8 ((x / 2 ^ s : Nat) : Int)) W := by
  have e2 : ¬ ((s : Int) < 0) := by omega
  have hs' : s = 0 ∨ s = 1 ∨ s = 2 ∨ s = 3 ∨ s = 4 ∨ s = 5 ∨ s = 6 ∨ s = 7 := by omega
  rcases hs' with rfl | rfl | rfl | rfl | rfl | rfl | rfl | rfl <;> simp [binOp, Op.shift]
theorem run_and8 (y : Nat) (h : y < 256) (W : World) : (binOp .and 5 (.int .u8 (y : Int)) (.int .u8 1)).run Tryd.prog W = .ok (.int .u8 ((y % 2 : Nat) : Int)) W := by
  have e : bits .and .u8 (y : Int) 1 = ((y % 2 : Nat) : Int) := by
    have : ∀ y : Fin 256, bits .and .u8 ((y.val : Nat) : Int) 1 = ((y.val % 2 : Nat) : Int) := by decide +kernel
    exact this ⟨y, h⟩
  simp [binOp, intBits_and, e]
theorem run_or2 (m b : Nat) (h : m < 1099511627776) (hb : b < 2) (W : World) : (binOp .or 3 (.int .i64 ((2 * m : Nat) : Int)) (.int .i64 (b : Int))).run Tryd.prog W = .ok (.int .i64 ((2 * m + b : Nat) : Int)) W := by
  have e : bits .or .i64 ((2 * m : Nat) : Int) (b : Int) = ((2 * m + b : Nat) : Int) := by
    have hx : 2 * m ||| b = 2 * m + b := nat_join1 _ _ (by omega) hb
    show IntKind.i64.wrap ((BitVec.ofInt 64 ((2 * m : Nat) : Int) ||| BitVec.ofInt 64 (b : Int)).toNat : Int) = _
    rw [BitVec.toNat_or, BitVec.ofInt_natCast, BitVec.ofInt_natCast, BitVec.toNat_ofNat, BitVec.toNat_ofNat, Nat.mod_eq_of_lt (by omega), Nat.mod_eq_of_lt (by omega), hx]
    exact IntWalk.i64_in _ (by omega)
  have e2 : binOp .or 3 (.int .i64 ((2 * m : Nat) : Int)) (.int .i64 (b : Int)) = pure (.int .i64 (bits .or .i64 ((2 * m : Nat) : Int) (b : Int))) := by rw [binOp_or, intBits_or]
  rw [e2, e]
  rfl
theorem sizeU8' : (Tryd.prog.info? 5).map (·.size) = some 1 := by kernel_rfl
end Go.Proofs.YtgmddhljgfbibaaDoor
/- bits.Reader: Left, Get, NewReader. -/
namespace Go.Proofs.YtgmddhljgfbibaaDoor
set_option linter.unusedVariables false
set_option linter.unusedSimpArgs false
open Go.RowKit
section
variable {o : Oper} {a : Act}
theorem run_loadSl (W : World) (p : Addr) (A : Option Addr) (n c : Nat) (h : W.cell? p = some (.slice A n c)) : (Instr.loadAt 22 (.pointer (some p))).run Tryd.prog W = .ok (.slice A n c) W := by
  go_simp
theorem run_loadU (W : World) (p : Addr) (z : Int) (h : W.cell? p = some (.int .u8 z)) : (Instr.loadAt 5 (.pointer (some p))).run Tryd.prog W = .ok (.int .u8 z) W := by
  go_simp
theorem ex_loadS {x : Operand} (ho : o.op = .load 22 x) {p : Addr} (hx : a.eval x = .pointer (some p)) {A : Option Addr} {n c : Nat} {w : World} (h : w.cell? p = some (.slice A n c)) : (execOp a.eval o).run Tryd.prog w = .ok (.value (.slice A n c)) w := by
  simp [execOp, ho, hx, run_loadSl w p A n c h]
theorem ex_loadU {x : Operand} (ho : o.op = .load 5 x) {p : Addr} (hx : a.eval x = .pointer (some p)) {z : Int} {w : World} (h : w.cell? p = some (.int .u8 z)) : (execOp a.eval o).run Tryd.prog w = .ok (.value (.int .u8 z)) w := by
  simp [execOp, ho, hx, run_loadU w p z h]
theorem run_conv8 (y : Nat) (h : y < 256) (W : World) : (convert 5 3 (.int .u8 (y : Int))).run Tryd.prog W = .ok (.int .i64 (y : Int)) W := by
  have e : IntKind.i64.wrap (y : Int) = (y : Int) := IntWalk.i64_in _ (by omega)
  go_simp
theorem ex_conv {P : Program} {x : Operand} {t u : TypeId} (ho : o.op = .convert t u x) {v v' : Value} (hx : a.eval x = v) (hr : ∀ w, (convert t u v).run P w = .ok v' w) (w : World) : (execOp a.eval o).run P w = .ok (.value v') w := by
  simp [execOp, ho, hx, hr]
end
/-- a reader at bit p of the bytes bs -/
def RdS (w : World) (gr : Nat) (A : Option Addr) (n c p : Nat) (bs : List Nat) : Prop :=
  Blk w gr 131 #[.slice A n c, .int .i64 (p : Int)] ∧ SL w 1 (.slice A n c) n (bytesV bs) ∧ bs.length = n ∧ (0 < n → ∀ ad, A = some ad → ad.block < gr) ∧ (∀ b ∈ bs, b < 256) ∧ n ≤ 100000000000 ∧ p ≤ 8 * n
theorem RdS.cells {w : World} {gr : Nat} {A : Option Addr} {n c p : Nat} {bs : List Nat} (h : RdS w gr A n c p bs) : w.cell? ⟨gr, 0, none⟩ = some (.slice A n c) ∧ w.cell? ⟨gr, 1, none⟩ = some (.int .i64 (p : Int)) := by
  have h0 := h.1.cell 0
  have h1 := h.1.cell 1
  exact ⟨h0, h1⟩
theorem RdS.ext {w w' : World} {gr : Nat} {A : Option Addr} {n c p : Nat} {bs : List Nat} (h : RdS w gr A n c p bs) (hx : Ext w w') : RdS w' gr A n c p bs :=
  ⟨h.1.ext hx, h.2.1.ext hx, h.2.2⟩
theorem SL.upd0 {S : Nat → Prop} {w w' : World} {size n c : Nat} {A : Option Addr} {xs : List Value} (h : SL w size (.slice A n c) n xs) (hu : Upd S w w') (hS : 0 < n → ∀ ad, A = some ad → ¬ S ad.block) : SL w' size (.slice A n c) n xs := by
  by_cases h0 : 0 < n
  · exact h.upd hu (hS h0)
  · obtain ⟨A', c', e1, h1, h2, h3, h4⟩ := h
    exact ⟨A', c', e1, h1, h2, h3, fun hn => absurd hn h0⟩
theorem RdS.upd {S : Nat → Prop} {w w' : World} {gr : Nat} {A : Option Addr} {n c p : Nat} {bs : List Nat} (h : RdS w gr A n c p bs) (hu : Upd S w w') (hS : ∀ x, S x → gr < x) : RdS w' gr A n c p bs :=
  ⟨hu.blk h.1 (fun e => by have := hS _ e; omega), h.2.1.upd0 hu (fun h0 ad e e2 => by have := hS _ e2; have := h.2.2.2.1 h0 ad e; omega), h.2.2⟩
theorem own_upd {S : Nat → Prop} {w w' : World} {base : Nat} {e : TypeId} {size n : Nat} {v : Value} {xs : List Value} (h : w.ownsRow base e size v n xs) (hu : Upd S w w') (hS : ∀ x, S x → x < base) : w'.ownsRow base e size v n xs := by
  obtain ⟨hl, hh⟩ := h
  refine ⟨hl, ?_⟩
  rcases hh with ⟨rfl, rfl⟩ | ⟨g, cap, cur, rfl, h1, hg, h2⟩
  · exact .inl ⟨rfl, rfl⟩
  · exact .inr ⟨g, cap, cur, rfl, h1, (hu.block g (Blk.lt (w := w) (t := e) (cs := cur) hg) (fun hx => by have := hS g hx; omega)).trans hg, h2⟩
theorem RdS.drew {w : World} {gr : Nat} {A : Option Addr} {n c p : Nat} {bs : List Nat} (h : RdS w gr A n c p bs) : RdS w.drew gr A n c p bs := h
set_option maxRecDepth 20000 in
set_option maxHeartbeats 1000000 in
theorem left_any (gr : Nat) (A : Option Addr) (n c p : Nat) (bs : List Nat) (w : World) (h : RdS w gr A n c p bs) :
    Calls Tryd.prog 39 #[.pointer (some ⟨gr, 0, none⟩)] w fun e w' => e = .returned (.int .i64 ((8 * n - p : Nat) : Int)) ∧ Ext w w' := by
  have hn : n ≤ 100000000000 := h.2.2.2.2.2.1
  have hp : p ≤ 8 * n := h.2.2.2.2.2.2
  have HC0 : ∀ W, Ext w.drew W → W.cell? ⟨gr, 0, none⟩ = some (.slice A n c) := fun W hx => (h.drew.ext hx).cells.1
  have HC1 : ∀ W, Ext w.drew W → W.cell? ⟨gr, 1, none⟩ = some (.int .i64 (p : Int)) := fun W hx => (h.drew.ext hx).cells.2
  go_enter Tryd.func39, Tryd.ntmps39
  go_wp2_with fail
  refine wp_region_lx later_ext (by kernel_rfl) (by kernel_rfl) ?_
  refine lx_run (by rfl) (.pointer (some ⟨gr, 0, none⟩)) (ex_move rfl rfl) ?_
  simp only [Act.put, List.setIfInBounds_toArray, List.set_cons_succ, List.set_cons_zero]
  refine lx_run (by rfl) (.pointer (some ⟨gr, 0, none⟩)) (ex_nil rfl rfl) ?_
  simp only [Act.put, List.setIfInBounds_toArray, List.set_cons_succ, List.set_cons_zero]
  refine lx_run (by rfl) (.pointer (some ⟨gr, 0, none⟩)) (fun W => by go_simp) ?_
  simp only [Act.put, List.setIfInBounds_toArray, List.set_cons_succ, List.set_cons_zero]
  refine lx_read (by rfl) (.slice A n c) (fun W hW => ex_loadS rfl rfl (HC0 W hW)) ?_
  simp only [Act.put, List.setIfInBounds_toArray, List.set_cons_succ, List.set_cons_zero]
  refine lx_run (by rfl) (.int .i64 ((n : Nat) : Int)) (fun W => by go_simp) ?_
  simp only [Act.put, List.setIfInBounds_toArray, List.set_cons_succ, List.set_cons_zero]
  refine lx_run (by rfl) (.int .i64 ((8 * n : Nat) : Int)) (ex_mulN (i := 8) (d := n) rfl rfl rfl (by omega)) ?_
  simp only [Act.put, List.setIfInBounds_toArray, List.set_cons_succ, List.set_cons_zero]
  refine lx_run (by rfl) (.pointer (some ⟨gr, 0, none⟩)) (ex_move rfl rfl) ?_
  simp only [Act.put, List.setIfInBounds_toArray, List.set_cons_succ, List.set_cons_zero]
  refine lx_run (by rfl) (.pointer (some ⟨gr, 0, none⟩)) (ex_nil rfl rfl) ?_
  simp only [Act.put, List.setIfInBounds_toArray, List.set_cons_succ, List.set_cons_zero]
  refine lx_run (by rfl) (.pointer (some ⟨gr, 1, none⟩)) (fun W => by go_simp) ?_
  simp only [Act.put, List.setIfInBounds_toArray, List.set_cons_succ, List.set_cons_zero]
  refine lx_read (by rfl) (.int .i64 ((p : Nat) : Int)) (fun W hW => ex_loadI rfl rfl (HC1 W hW)) ?_
  simp only [Act.put, List.setIfInBounds_toArray, List.set_cons_succ, List.set_cons_zero]
  refine lx_run (by rfl) (.int .i64 (((8 * n) - p : Nat) : Int)) (ex_subN (i := 8 * n) (d := p) rfl rfl rfl (by omega) (by omega)) ?_
  simp only [Act.put, List.setIfInBounds_toArray, List.set_cons_succ, List.set_cons_zero]
  refine lx_run (by rfl) (.int .i64 (((8 * n) - p : Nat) : Int)) (ex_assign rfl rfl) ?_
  simp only [Act.put, List.setIfInBounds_toArray, List.set_cons_succ, List.set_cons_zero]
  refine lx_nil ?_
  intro w9 hx9
  go_wp2_with fail
  go_ret
  exact ⟨rfl, (Ext.refl w).drew.trans hx9⟩
theorem bytes_at {bs : List Nat} {k : Nat} {u : Value} (h : (bytesV bs)[k]? = some u) : ∃ hk : k < bs.length, u = .int .u8 ((bs[k] : Nat) : Int) := by
  unfold bytesV at h
  rw [List.getElem?_map] at h
  obtain ⟨z, hz, rfl⟩ := Option.map_eq_some_iff.1 h
  obtain ⟨hk, rfl⟩ := List.getElem?_eq_some_iff.1 hz
  exact ⟨hk, rfl⟩
set_option maxRecDepth 20000 in
set_option maxHeartbeats 1000000 in
theorem get_no (gr : Nat) (A : Option Addr) (n c p : Nat) (bs : List Nat) (width : Nat) (w : World) (h : RdS w gr A n c p bs) (hw : 8 * n < p + width) (hw2 : width ≤ 1000) :
    Calls Tryd.prog 40 #[.pointer (some ⟨gr, 0, none⟩), .int .i64 (width : Int)] w fun e w' => e = .returned (.tuple #[.int .i64 0, .bool false]) ∧ Ext w w' := by
  have hn : n ≤ 100000000000 := h.2.2.2.2.2.1
  have hp : p ≤ 8 * n := h.2.2.2.2.2.2
  have HL := hid_ (fun W h => left_any gr A n c p bs W h)
  generalize hl : 8 * n - p = l at *
  have hlw : l < width := by omega
  go_enter Tryd.func40, Tryd.ntmps40
  go_wp2_with (go_at_call 39; (with_reducible refine (HL.out _ h).mono ?_); rintro e w2 ⟨rfl, hx2⟩)
  go_ret2
  exact ⟨rfl, hx2⟩
set_option maxRecDepth 20000 in
set_option maxHeartbeats 1000000 in
theorem get_yes (gr : Nat) (A : Option Addr) (n c p : Nat) (bs : List Nat) (width : Nat) (w : World) (h : RdS w gr A n c p bs) (hw : p + width ≤ 8 * n) (hw2 : width ≤ 24) :
    Calls Tryd.prog 40 #[.pointer (some ⟨gr, 0, none⟩), .int .i64 (width : Int)] w fun e w' =>
      e = .returned (.tuple #[.int .i64 ((numB (((digsOf bs).drop p).take width) : Nat) : Int), .bool true]) ∧ RdS w' gr A n c (p + width) bs ∧ Upd (fun x => x = gr) w w' := by
  have hn : n ≤ 100000000000 := h.2.2.2.2.2.1
  have hp : p ≤ 8 * n := h.2.2.2.2.2.2
  have hbl := h.2.2.1
  have HB := hid_ h.2.2.2.2.1
  have hne := h.2.2.2.1
  have HD := hid_ (digsOf_len bs)
  have HL := hid_ (fun W h => left_any gr A n c p bs W h)
  have HNX := hid_ (fun i h1 h2 => numB_next bs p i h1 h2)
  have HLT := hid_ (fun i (h1 : i ≤ 24) => numB_take_lt ((digsOf bs).drop p) i 24 h1)
  generalize hl : 8 * n - p = l at *
  have hlw : ¬ l < width := by omega
  go_enter Tryd.func40, Tryd.ntmps40
  go_wp2_with (go_at_call 39; (with_reducible refine (HL.out _ h).mono ?_); rintro e w2 ⟨rfl, hx2⟩)
  have h2 := h.ext hx2
  go_loopw [6, 12] (fun v i wr => ∃ k : Nat, k ≤ width ∧ i = .int .i64 (k : Int) ∧ v = .int .i64 ((numB (((digsOf bs).drop p).take k) : Nat) : Int) ∧ RdS wr gr A n c (p + k) bs ∧ Upd (fun x => x = gr) w wr) (fun _ i _ => width - (intOf i).toNat)
  case atStart => exact ⟨0, by omega, rfl, by simp [numB], h2, Upd.of_ext hx2⟩
  case round =>
    obtain ⟨k, hk, rfl, rfl, hr, hu⟩ := hrel
    by_cases hlt : k < width
    · obtain ⟨q, hq⟩ : ∃ q, q = p + k := ⟨_, rfl⟩
      rw [← hq] at hr
      have hq8 : q / 8 < n := by omega
      have hqm : q % 8 < 8 := by omega
      obtain ⟨ad, u, rfl, hab, hxk, hcell⟩ := hr.2.1.at1 hq8
      obtain ⟨hkl, rfl⟩ := bytes_at hxk
      have HN2 := hid_ (HNX.out k (by have := HD.out; omega) (by rw [← hq]; exact hkl))
      have hx : bs[q / 8] < 256 := HB.out _ (List.getElem_mem hkl)
      have hm0 := HLT.out k (by omega)
      have HEQ : Hid (bs[(p + k) / 8]'(by rw [← hq]; exact hkl) = bs[q / 8]) := hid_ (by congr 2; omega)
      rw [HEQ.out, ← hq] at HN2
      clear HEQ
      generalize bs[q / 8] = x at *
      obtain ⟨s, hs⟩ : ∃ s, s = 7 - q % 8 := ⟨_, rfl⟩
      have HS : Hid (7 - q % 8 = s) := hid_ hs.symm
      have s8 : s < 8 := by omega
      rw [HS.out] at HN2
      have hy : x / 2 ^ s < 256 := by have := Nat.div_le_self x (2 ^ s); omega
      have hb : x / 2 ^ s % 2 < 256 := by omega
      have hb2 : x / 2 ^ s % 2 < 2 := by omega
      generalize hmm : numB (((digsOf bs).drop p).take k) = m at *
      have hm : m < 1099511627776 := by omega
      clear hmm hxk hs
      have HC0 : ∀ W, Ext wr.drew W → W.cell? ⟨gr, 0, none⟩ = some (.slice (some ad) n c) := fun W hx => (hr.drew.ext hx).cells.1
      have HC1 : ∀ W, Ext wr.drew W → W.cell? ⟨gr, 1, none⟩ = some (.int .i64 (q : Int)) := fun W hx => (hr.drew.ext hx).cells.2
      have HCX : ∀ W, Ext wr.drew W → W.cell? (ad.add (q / 8 * 1)) = some (.int .u8 ((x : Nat) : Int)) := fun W hxx => by
        rw [Nat.mul_one]
        exact (hxx.cell (by rw [block_of_add]; exact hab)).trans hcell
      clear hcell
      go_wp2_with fail
      refine wp_region_lx later_ext (by kernel_rfl) (by kernel_rfl) ?_
      refine lx_run (by rfl) (.int .i64 ((m : Nat) : Int)) (ex_move rfl rfl) ?_
      simp only [Act.put, List.setIfInBounds_toArray, List.set_cons_succ, List.set_cons_zero]
      refine lx_run (by rfl) (.int .i64 ((2 * m : Nat) : Int)) (ex_binK (k := .i64) (m := (m : Int)) (k' := .u64) (n := 1) rfl rfl rfl (run_shl_one m hm)) ?_
      simp only [Act.put, List.setIfInBounds_toArray, List.set_cons_succ, List.set_cons_zero]
      refine lx_run (by rfl) (.pointer (some ⟨gr, 0, none⟩)) (ex_move rfl rfl) ?_
      simp only [Act.put, List.setIfInBounds_toArray, List.set_cons_succ, List.set_cons_zero]
      refine lx_run (by rfl) (.pointer (some ⟨gr, 0, none⟩)) (ex_nil rfl rfl) ?_
      simp only [Act.put, List.setIfInBounds_toArray, List.set_cons_succ, List.set_cons_zero]
      refine lx_run (by rfl) (.pointer (some ⟨gr, 0, none⟩)) (fun W => by go_simp) ?_
      simp only [Act.put, List.setIfInBounds_toArray, List.set_cons_succ, List.set_cons_zero]
      refine lx_read (by rfl) (.slice (some ad) n c) (fun W hW => ex_loadS rfl rfl (HC0 W hW)) ?_
      simp only [Act.put, List.setIfInBounds_toArray, List.set_cons_succ, List.set_cons_zero]
      refine lx_run (by rfl) (.pointer (some ⟨gr, 0, none⟩)) (ex_move rfl rfl) ?_
      simp only [Act.put, List.setIfInBounds_toArray, List.set_cons_succ, List.set_cons_zero]
      refine lx_run (by rfl) (.pointer (some ⟨gr, 0, none⟩)) (ex_nil rfl rfl) ?_
      simp only [Act.put, List.setIfInBounds_toArray, List.set_cons_succ, List.set_cons_zero]
      refine lx_run (by rfl) (.pointer (some ⟨gr, 1, none⟩)) (fun W => by go_simp) ?_
      simp only [Act.put, List.setIfInBounds_toArray, List.set_cons_succ, List.set_cons_zero]
      refine lx_read (by rfl) (.int .i64 ((q : Nat) : Int)) (fun W hW => ex_loadI rfl rfl (HC1 W hW)) ?_
      simp only [Act.put, List.setIfInBounds_toArray, List.set_cons_succ, List.set_cons_zero]
      refine lx_run (by rfl) (.int .i64 ((q / 8 : Nat) : Int)) (ex_quoN (i := q) (d := 8) rfl rfl rfl (by omega) (by omega)) ?_
      simp only [Act.put, List.setIfInBounds_toArray, List.set_cons_succ, List.set_cons_zero]
      refine lx_run (by rfl) (.pointer (some (ad.add ((q / 8) * 1)))) (ex_ixSl Tryd.underlying22 sizeU8' rfl rfl rfl hq8) ?_
      simp only [Act.put, List.setIfInBounds_toArray, List.set_cons_succ, List.set_cons_zero]
      refine lx_read (by rfl) (.int .u8 ((x : Nat) : Int)) (fun W hW => ex_loadU rfl rfl (HCX W hW)) ?_
      simp only [Act.put, List.setIfInBounds_toArray, List.set_cons_succ, List.set_cons_zero]
      refine lx_run (by rfl) (.pointer (some ⟨gr, 0, none⟩)) (ex_move rfl rfl) ?_
      simp only [Act.put, List.setIfInBounds_toArray, List.set_cons_succ, List.set_cons_zero]
      refine lx_run (by rfl) (.pointer (some ⟨gr, 0, none⟩)) (ex_nil rfl rfl) ?_
      simp only [Act.put, List.setIfInBounds_toArray, List.set_cons_succ, List.set_cons_zero]
      refine lx_run (by rfl) (.pointer (some ⟨gr, 1, none⟩)) (fun W => by go_simp) ?_
      simp only [Act.put, List.setIfInBounds_toArray, List.set_cons_succ, List.set_cons_zero]
      refine lx_read (by rfl) (.int .i64 ((q : Nat) : Int)) (fun W hW => ex_loadI rfl rfl (HC1 W hW)) ?_
      simp only [Act.put, List.setIfInBounds_toArray, List.set_cons_succ, List.set_cons_zero]
      refine lx_run (by rfl) (.int .i64 ((q % 8 : Nat) : Int)) (ex_remN (i := q) (d := 8) rfl rfl rfl (by omega) (by omega)) ?_
      simp only [Act.put, List.setIfInBounds_toArray, List.set_cons_succ, List.set_cons_zero]
      refine lx_run (by rfl) (.int .i64 ((s : Nat) : Int)) (by rw [← HS.out]; exact ex_subN (i := 7) (d := q % 8) rfl rfl rfl (by omega) (by omega)) ?_
      simp only [Act.put, List.setIfInBounds_toArray, List.set_cons_succ, List.set_cons_zero]
      refine lx_run (by rfl) (.int .u8 ((x / 2 ^ s : Nat) : Int)) (ex_binK (k := .u8) (m := (x : Int)) (k' := .i64) (n := (s : Int)) rfl rfl rfl (run_shr8 x s hx s8)) ?_
      simp only [Act.put, List.setIfInBounds_toArray, List.set_cons_succ, List.set_cons_zero]
      refine lx_run (by rfl) (.int .u8 ((x / 2 ^ s % 2 : Nat) : Int)) (ex_binK (k := .u8) (m := ((x / 2 ^ s : Nat) : Int)) (k' := .u8) (n := 1) rfl rfl rfl (run_and8 (x / 2 ^ s) hy)) ?_
      simp only [Act.put, List.setIfInBounds_toArray, List.set_cons_succ, List.set_cons_zero]
      refine lx_run (by rfl) (.int .i64 ((x / 2 ^ s % 2 : Nat) : Int)) (ex_conv rfl rfl (run_conv8 (x / 2 ^ s % 2) hb)) ?_
      simp only [Act.put, List.setIfInBounds_toArray, List.set_cons_succ, List.set_cons_zero]
      refine lx_run (by rfl) (.int .i64 ((2 * m + x / 2 ^ s % 2 : Nat) : Int)) (ex_binK (k := .i64) (m := ((2 * m : Nat) : Int)) (k' := .i64) (n := ((x / 2 ^ s % 2 : Nat) : Int)) rfl rfl rfl (run_or2 m (x / 2 ^ s % 2) hm hb2)) ?_
      simp only [Act.put, List.setIfInBounds_toArray, List.set_cons_succ, List.set_cons_zero]
      refine lx_run (by rfl) (.int .i64 ((2 * m + x / 2 ^ s % 2 : Nat) : Int)) (ex_assign rfl rfl) ?_
      simp only [Act.put, List.setIfInBounds_toArray, List.set_cons_succ, List.set_cons_zero]
      refine lx_nil ?_
      intro w9 hx9
      have hr9 := hr.drew.ext hx9
      have hc1 := hr9.cells.2
      have hf1 := hr9.1.frozen 1
      have hb9 := hr9.1.set_ 1 (.int .i64 ((q : Int) + 1))
      simp at hb9
      have hu9 := (hu.trans (Upd.of_ext (S := fun x => x = gr) ((Ext.refl wr).drew.trans hx9)) (fun x hx => .inl hx)).setCell (p := ⟨gr, 1, none⟩) rfl (.int .i64 ((q : Int) + 1))
      have hs9 := hr9.2.1.upd (S := fun x => x = gr) ((Upd.refl (fun x => x = gr) w9).setCell (p := ⟨gr, 1, none⟩) rfl (.int .i64 ((q : Int) + 1))) (fun ad h e => by have := hr9.2.2.2.1 (by omega) ad h; omega)
      have hrest := hr9.2.2
      have HQ := hid_ hq
      have hq9 : q + 1 ≤ 8 * n := by omega
      have hqq : q + 1 = p + (k + 1) := by omega
      generalize hm2 : 2 * m + x / 2 ^ s % 2 = m2 at *
      clear hq hm2
      go_wp2_with fail
      go_roundw
      case rel =>
        refine ⟨k + 1, by omega, by go_num, by rw [HN2.out], ?_, hu9⟩
        rw [← hqq]
        exact ⟨by exact_mod_cast hb9, hs9, hrest.1, hrest.2.1, hrest.2.2.1, hrest.2.2.2.1, hq9⟩
      case measure => simp [intOf]; omega
    · have e1 : k = width := by omega
      rw [e1] at hr ⊢
      clear e1 hk hlt
      go_wp2_with fail
      go_ret2
      exact ⟨rfl, hr, hu⟩
theorem newReader_any (A : Option Addr) (n c : Nat) (bs : List Nat) (w : World) (h : SL w 1 (.slice A n c) n (bytesV bs)) (hl : bs.length = n) (hb : ∀ b ∈ bs, b < 256) (hn : n ≤ 100000000000) :
    Calls Tryd.prog 37 #[.slice A n c] w fun e w' => ∃ gr, e = .returned (.pointer (some ⟨gr, 0, none⟩)) ∧ RdS w' gr A n c 0 bs ∧ Ext w w' ∧ w.heap.size = gr ∧ gr < w'.heap.size := by
  go_enter Tryd.func37, Tryd.ntmps37
  go_wp2_with fail
  go_ret
  refine ⟨_, rfl, ⟨Blk.new _ _ _, h.ext ((Ext.refl w).alloc _), hl, fun h0 ad e => ?_, hb, hn, by omega⟩, (Ext.refl w).alloc _, by omega, by simp⟩
  obtain ⟨A', c', e1, -, -, -, h4⟩ := h
  injection e1 with e1 e2 e3
  obtain ⟨ad', e4, h5, -⟩ := h4 h0
  rw [e, e4] at e1
  injection e1 with e1
  rw [e1]; exact h5
end Go.Proofs.YtgmddhljgfbibaaDoor
