/- Contracts for the law FrameBlocks, part 16: what the functions that it reaches answer, for all arguments that the theorems name. -/
import Derived.Deep.SlicePairs
import Derived.Test.YtkfdkkhhkciocaaMFrameBlocks15
import Derived.Deep.Slices
import Derived.Test.YtkfdkkhhkciocaaMFrameBlocks13
import Derived.Test.YtkfdkkhhkciocaaRows
import Derived.Test.YtkfdkkhhkciocaaMFrameBlocks1
import Derived.ProofKit
import Derived.OpenShut
import Derived.JoinedCond
/- Opening a parameter that is a slice. -/
namespace Go.Proofs.Ytkfdkkhhkciocaa
set_option linter.unusedVariables false
set_option linter.unusedSimpArgs false
open Go.RowKit Go.ChangeShapes Go.WideShapes Go.ChangeAt
section
variable {H : Type} {enc : TypeId × Value → H} {w : World} {base : Nat} {spare : Nat → Bool} {held : Bool}
theorem slice_value {P : Program} {r : Reach} {b0 : Nat} {t e : TypeId} {v : Value} {u : Value} (ht : P.underlying t = some (.slice e)) (hv : Value.okWide P w r b0 t v) (hc : v.cells.toList = [u]) (hu : ∀ cs, u ≠ .agg cs) : v = u := by
  cases v with
  | agg cs =>
    simp [Value.okWide, ht, Cell.okWide, Cell.ok] at hv
  | _ => simpa [Value.cells] using hc
set_option maxRecDepth 20000 in
theorem open_ints_v {b0 : Nat} {r : Reach} {v : Value} {d : DataW H} {p : List MemPlace} (hv : Value.okWide Try.prog w r b0 30 v) (h : DataW.Trod enc Try.prog w base spare held 30 v d p) :
    ∃ zs : List Int, SL w 1 v zs.length (ints zs) ∧ ∀ z ∈ zs, inI64 z := by
  obtain ⟨fuel, hf⟩ := h
  obtain ⟨zs, u, hcs, hs, hz⟩ := open_intsX hf
  have : v = u := slice_value Try.underlying30 hv hcs (by obtain ⟨A, c, rfl, -⟩ := hs; simp)
  subst this
  exact ⟨zs, hs, hz⟩
theorem bytes_of (zs : List Int) (h : ∀ n ∈ zs, (Lit.int .u8 n).wf = true) : ∃ bs : List Nat, zs.map (Value.int .u8) = bytesV bs ∧ ∀ b ∈ bs, b < 256 := by
  refine ⟨zs.map Int.toNat, ?_, ?_⟩
  · unfold bytesV
    rw [List.map_map]
    apply List.map_congr_left
    intro z hz
    have := h z hz
    simp [Lit.wf, IntKind.min, IntKind.max, IntKind.signed, IntKind.bits] at this
    simp; omega
  · intro b hb
    obtain ⟨z, hz, rfl⟩ := List.mem_map.1 hb
    have := h z hz
    simp [Lit.wf, IntKind.min, IntKind.max, IntKind.signed, IntKind.bits] at this
    omega
set_option maxRecDepth 20000 in
theorem open_bytes_v {b0 : Nat} {r : Reach} {v : Value} {d : DataW H} {p : List MemPlace} (hv : Value.okWide Try.prog w r b0 38 v) (h : DataW.Trod enc Try.prog w base spare held 38 v d p) :
    ∃ bs : List Nat, SL w 1 v bs.length (bytesV bs) ∧ ∀ b ∈ bs, b < 256 := by
  obtain ⟨fuel, hf⟩ := h
  rcases open_ints Try.underlying38 Try.underlying5 (by kernel_rfl) hf with ⟨hcs, -⟩ | ⟨a, len, cap, zs, hcs, -, hlc, hcm, hzl, -, hcell, hwf⟩
  · obtain rfl := slice_value Try.underlying38 hv hcs (by simp)
    exact ⟨[], SL.nil w 1, by simp⟩
  · obtain rfl := slice_value Try.underlying38 hv hcs (by simp)
    have hlen : len ≤ zs.length := by rw [hzl]; split <;> omega
    obtain ⟨bs, hbs, hlt⟩ := bytes_of (zs.take len) (fun n hn => hwf n (List.mem_of_mem_take hn))
    have hl : bs.length = len := by
      have := congrArg List.length hbs
      simp [bytesV] at this
      omega
    refine ⟨bs, ?_, hlt⟩
    rw [hl]
    refine ⟨some a, cap, rfl, hlc, by unfold maxLen at hcm; omega, by rw [bytesV_len, hl]; omega, fun h0 => ⟨a, rfl, ?_, fun j u hu => ?_⟩⟩
    · have := hcell 0 (by omega)
      have h2 := World.block_lt_of_cell? w _ this
      rwa [block_of_add] at h2
    · rw [← hbs, List.getElem?_map] at hu
      obtain ⟨z, hz, rfl⟩ := Option.map_eq_some_iff.1 hu
      have hj : j < len := by have := (List.getElem?_eq_some_iff.1 hz).1; simp at this; omega
      rw [List.getElem?_take_of_lt hj] at hz
      rw [hcell j (by omega)]
      simp [List.getD_eq_getElem?_getD, hz]
end
end Go.Proofs.Ytkfdkkhhkciocaa
/- Opening a parameter that is a slice of elements of several integers each (blocks, tokens, fields). -/
namespace Go.Proofs.Ytkfdkkhhkciocaa
set_option linter.unusedVariables false
set_option linter.unusedSimpArgs false
open Go.RowKit Go.ChangeShapes Go.WideShapes Go.ChangeAt
theorem flat_at {α : Type} (f : Nat → List α) (sz : Nat) : ∀ n : Nat, (∀ i, i < n → (f i).length = sz) → ((List.range n).flatMap f).length = n * sz ∧ ∀ i j, i < n → j < sz → ((List.range n).flatMap f)[i * sz + j]? = (f i)[j]?
  | 0, _ => ⟨by simp, fun i j h => by omega⟩
  | n + 1, h => by
    obtain ⟨h1, h2⟩ := flat_at f sz n (fun i hi => h i (by omega))
    have hl := h n (by omega)
    rw [List.range_succ, List.flatMap_append]
    refine ⟨by simp only [List.length_append, h1, List.flatMap_cons, List.flatMap_nil, List.append_nil, hl]; rw [Nat.add_mul]; omega, fun i j hi hj => ?_⟩
    rcases Nat.lt_or_ge i n with hlt | hge
    · have : i * sz + j < n * sz := by
        have := Nat.mul_le_mul_right sz (show i + 1 ≤ n by omega)
        rw [Nat.add_mul] at this
        omega
      rw [List.getElem?_append_left (by omega)]
      exact h2 i j hlt hj
    · obtain rfl : i = n := by omega
      rw [List.getElem?_append_right (by omega), h1, show i * sz + j - i * sz = j by omega]
      simp
section
variable {H : Type} {enc : TypeId × Value → H} {P : Program} {w : World} {base : Nat} {spare : Nat → Bool} {held : Bool}
theorem open_multi {t e : TypeId} {sz fuel : Nat} {cs : List Value} {x : DataW H × List MemPlace} (ht : P.underlying t = some (.slice e)) (hsz : P.cellsOf e = sz) (h0 : 0 < sz)
    (hel : ∀ (fuel : Nat) (cs : List Value) (x : DataW H × List MemPlace), DataW.trod enc P w base spare held fuel e cs = some x → ∃ zs : List Int, zs.length = sz ∧ cs = ints zs ∧ ∀ z ∈ zs, inI64 z)
    (h : DataW.trod enc P w base spare held fuel t cs = some x) : ∃ (v : Value) (n : Nat) (zs : List Int), cs = [v] ∧ zs.length = n * sz ∧ SL w sz v n (ints zs) ∧ ∀ z ∈ zs, inI64 z := by
  rcases Go.Deep.open_slice ht h with ⟨rfl, -⟩ | ⟨a, len, cap, m, n, D, Pl, rfl, -, hl, hm, hmm, -, hx⟩
  · exact ⟨_, 0, [], rfl, by simp, SL.nil w sz, by simp⟩
  · rw [hsz] at hx
    have hle : len ≤ m := by rw [hmm]; split <;> omega
    obtain ⟨f, hf⟩ := Go.Deep.choose_lt (α := List Int) (n := len) (p := fun i zs => zs.length = sz ∧ w.cells? base (a.add (i * sz)) sz = some (ints zs) ∧ ∀ z ∈ zs, inI64 z) (fun i hi => by
      obtain ⟨cs', h1, h2⟩ := hx i (by omega)
      obtain ⟨zs, hz1, rfl, hz3⟩ := hel _ _ _ h2
      exact ⟨zs, hz1, h1, hz3⟩)
    obtain ⟨hfl, hfa⟩ := flat_at f sz len (fun i hi => (hf i hi).1)
    have hcell : ∀ i j u, i < len → (ints (f i))[j]? = some u → w.cell? (a.add (i * sz + j)) = some u := by
      intro i j u hi hu
      obtain ⟨_, _, hc⟩ := World.cells?_some (hf i hi).2.1
      rw [← hu, ← add_of_add]
      exact hc j (by have := (List.getElem?_eq_some_iff.1 hu).1; omega)
    refine ⟨_, len, (List.range len).flatMap f, rfl, hfl, ⟨some a, cap, rfl, hl, by unfold maxLen at hm; omega, by rw [ints_len, hfl], fun hn => ⟨a, rfl, ?_, fun j u hu => ?_⟩⟩, ?_⟩
    · have hq : 0 < (ints (f 0)).length := by rw [ints_len, (hf 0 hn).1]; exact h0
      have := hcell 0 0 _ hn (List.getElem?_eq_getElem hq)
      have h2 := World.block_lt_of_cell? w _ this
      rwa [block_of_add] at h2
    · have hj : j < len * sz := by have := (List.getElem?_eq_some_iff.1 hu).1; rw [ints_len, hfl] at this; exact this
      have hi : j / sz < len := Nat.div_lt_of_lt_mul (by rwa [Nat.mul_comm])
      have hr : j % sz < sz := Nat.mod_lt _ h0
      have e : j / sz * sz + j % sz = j := by rw [Nat.mul_comm]; exact Nat.div_add_mod _ _
      have h3 := hfa (j / sz) (j % sz) hi hr
      rw [e] at h3
      have h4 : (ints (f (j / sz)))[j % sz]? = some u := by
        rw [← hu]
        unfold ints
        rw [List.getElem?_map, List.getElem?_map, h3]
      have := hcell (j / sz) (j % sz) u hi h4
      rwa [e] at this
    · intro z hz
      obtain ⟨i, hi, hzi⟩ := List.mem_flatMap.1 hz
      exact (hf i (List.mem_range.1 hi)).2.2 z hzi
end
section
variable {H : Type} {enc : TypeId × Value → H} {w : World} {base : Nat} {spare : Nat → Bool} {held : Bool}
set_option maxRecDepth 20000 in
theorem open_blocks_v {b0 : Nat} {r : Reach} {v : Value} {d : DataW H} {p : List MemPlace} (hv : Value.okWide Try.prog w r b0 29 v) (h : DataW.Trod enc Try.prog w base spare held 29 v d p) :
    ∃ zs : List Int, SL w 64 v (zs.length / 64) (ints zs) ∧ zs.length = zs.length / 64 * 64 ∧ ∀ z ∈ zs, inI64 z := by
  obtain ⟨fuel, hf⟩ := h
  obtain ⟨u, n, zs, hcs, hl, hs, hz⟩ := open_multi (sz := 64) Try.underlying29 cells64 (by decide) (fun fuel cs x hx => trod_ints_arr Try.underlying24 Try.underlying3 cellsInt cells64 hx) hf
  have : v = u := slice_value Try.underlying29 hv hcs (by obtain ⟨A, c, rfl, -⟩ := hs; simp)
  subst this
  refine ⟨zs, ?_, by omega, hz⟩
  rwa [show zs.length / 64 = n by omega]
end
end Go.Proofs.Ytkfdkkhhkciocaa
/- Opening a parameter that is a picture. -/
namespace Go.Proofs.Ytkfdkkhhkciocaa
set_option linter.unusedVariables false
set_option linter.unusedSimpArgs false
open Go.RowKit Go.ChangeShapes Go.WideShapes Go.ChangeAt
section
variable {H : Type} {enc : TypeId × Value → H} {w : World} {base : Nat} {spare : Nat → Bool} {held : Bool}
theorem trod_struct3 {P : Program} {t : TypeId} {f0 f1 f2 : Field} {fuel : Nat} {cs : List Value} {x : DataW H × List MemPlace} (ht : P.underlying t = some (.struct #[f0, f1, f2])) (h : DataW.trod enc P w base spare held fuel t cs = some x) :
    ∃ y0 y1 y2 n, cs.length = P.cellsOf t ∧ DataW.trod enc P w base spare held n f0.type ((cs.drop f0.offset).take (P.cellsOf f0.type)) = some y0 ∧
      DataW.trod enc P w base spare held n f1.type ((cs.drop f1.offset).take (P.cellsOf f1.type)) = some y1 ∧ DataW.trod enc P w base spare held n f2.type ((cs.drop f2.offset).take (P.cellsOf f2.type)) = some y2 := by
  obtain ⟨xs, n, _, rfl, hl, hlen, hf⟩ := DataW.trod_struct ht h
  match xs, hlen with
  | [y0, y1, y2], _ => exact ⟨y0, y1, y2, n, hl, by simpa using hf 0 f0 rfl, by simpa using hf 1 f1 rfl, by simpa using hf 2 f2 rfl⟩
theorem cellsRows : Try.prog.cellsOf 51 = 1 := by kernel_rfl
theorem cellsPic : Try.prog.cellsOf 53 = 3 := by kernel_rfl
theorem open_rowsX {fuel : Nat} {cs : List Value} {x : DataW H × List MemPlace} (h : DataW.trod enc Try.prog w base spare held fuel 51 cs = some x) :
    ∃ (A : Option Addr) (n c : Nat) (L : List (List Int)), cs = [.slice A n c] ∧ RowsS w A n c L ∧ ∀ l ∈ L, ∀ z ∈ l, inI64 z := by
  rcases Go.Deep.open_slice1 Try.underlying51 cellsSl h with ⟨rfl, -⟩ | ⟨a, len, cap, m, n, V, D, Pl, rfl, -, hl, hm, hmm, -, hx⟩
  · exact ⟨none, 0, 0, [], rfl, RowsS.nil w, by simp⟩
  · have hle : len ≤ m := by rw [hmm]; split <;> omega
    obtain ⟨Z, hZ⟩ := Go.Deep.choose_lt (α := List Int) (n := len) (p := fun i zs => w.cell? (a.add i) = some (V i) ∧ SL w 1 (V i) zs.length (ints zs) ∧ ∀ z ∈ zs, inI64 z) (fun i hi => by
      obtain ⟨h1, h2⟩ := hx i (by omega)
      obtain ⟨zs, v, hv, hs, hz⟩ := open_intsX h2
      injection hv with hv
      rw [← hv] at hs
      exact ⟨zs, h1, hs, hz⟩)
    refine ⟨some a, len, cap, (List.range len).map Z, rfl, ⟨(List.range len).map V, ⟨some a, cap, rfl, hl, by unfold maxLen at hm; omega, by simp, fun h0 => ⟨a, rfl, ?_, fun j u hu => ?_⟩⟩, by simp, fun k l hl => ?_⟩, fun l hl => ?_⟩
    · have h2 := World.block_lt_of_cell? w _ (hZ 0 h0).1
      rwa [block_of_add] at h2
    · have hj : j < len := by have := (List.getElem?_eq_some_iff.1 hu).1; simpa using this
      rw [List.getElem?_map, List.getElem?_range hj] at hu
      rw [(hZ j hj).1]
      exact hu
    · have hk : k < len := by have := (List.getElem?_eq_some_iff.1 hl).1; simpa using this
      rw [List.getElem?_map, List.getElem?_range hk] at hl ⊢
      have e : Z k = l := by simpa using hl
      obtain ⟨-, hs, -⟩ := hZ k hk
      rw [e] at hs
      have hs' := hs
      obtain ⟨B, d, e2, -⟩ := hs
      rw [e2] at hs'
      refine ⟨B, d, ?_, hs'⟩
      show some (V k) = _
      rw [e2]
    · obtain ⟨i, hi, rfl⟩ := List.mem_map.1 hl
      exact (hZ i (List.mem_range.1 hi)).2.2
set_option maxRecDepth 20000 in
theorem open_picture {b0 : Nat} {r : Reach} {v : Value} {d : DataW H} {p : List MemPlace} (hv : Value.okWide Try.prog w r b0 53 v) (h : DataW.Trod enc Try.prog w base spare held 53 v d p) :
    ∃ (wd hi : Int) (A : Option Addr) (n c : Nat) (L : List (List Int)), v = .agg (picV wd hi (.slice A n c)) ∧ RowsS w A n c L ∧ inI64 wd ∧ inI64 hi := by
  obtain ⟨cs, rfl, hsz⟩ := okWide_struct Try.underlying53 hv
  obtain ⟨fuel, hf⟩ := h
  obtain ⟨y0, y1, y2, n, hlen, h0, h1, h2⟩ := trod_struct3 Try.underlying53 hf
  have hL : cs.toList.length = 3 := by rw [show cs.toList.length = cs.size by simp, hsz, cellsPic]
  have hcs : (Value.agg cs).cells.toList = cs.toList := rfl
  rw [hcs] at h0 h1 h2
  dsimp only at h0 h1 h2
  rw [cellsInt] at h0 h1
  rw [cellsRows] at h2
  obtain ⟨wd, e0, w0⟩ := trod_int_cell Try.underlying3 h0
  obtain ⟨hi, e1, w1⟩ := trod_int_cell Try.underlying3 h1
  obtain ⟨A, m, c, L, e2, hr, -⟩ := open_rowsX h2
  refine ⟨wd, hi, A, m, c, L, ?_, hr, w0, w1⟩
  congr 1
  apply Array.ext'
  match hq : cs.toList, hL with
  | [a, b, d], _ =>
    rw [hq] at e0 e1 e2
    simp at e0 e1 e2
    subst e0 e1 e2
    rfl
end
end Go.Proofs.Ytkfdkkhhkciocaa
/- The law FrameBlocks, walked. -/
namespace Go.Proofs.Ytkfdkkhhkciocaa.frameBlocks
set_option linter.unusedVariables false
set_option linter.unusedSimpArgs false
open Go.RowKit
set_option maxRecDepth 20000 in
set_option maxHeartbeats 2000000 in
theorem walk (wd hi : Int) (A : Option Addr) (n c : Nat) (L : List (List Int)) (_ : inI64 wd) (_ : inI64 hi) (q : List Int) (hq : q.length = 64) (_ : ∀ z ∈ q, inI64 z) (w : World) (hr : RowsS w A n c L) :
    Calls Try.prog 6 #[.agg (picV wd hi (.slice A n c)), .agg (bv q)] w fun e w' => e = .returned (.bool true) ∧ Ext w w' := by
  have H1 := hid_ (fun W (h : Ext w W) => fblocks_any wd hi L A n c q hq W (hr.ext h))
  have H2 := hid_ (fun W (h : Ext w W) => rfblocks_any wd hi L A n c q hq W (hr.ext h))
  have H3 := hid_ (fun W => fchk_zeroB W)
  have hbt := hid_ builtPicB
  have hzl := framesZ_len wd hi L q hq
  have hps := hid_ (picV_size wd hi (.slice A n c))
  have hqs := hid_ ((bv_size q).trans hq)
  unfold FrmIs at H1 H2
  generalize framesZ wd hi L q = fz at *
  obtain ⟨E, m, Z⟩ := fz
  dsimp only at H1 H2 hzl
  have HEQ := hid_ (fun u v W (h1 : SL W 64 u m (ints Z)) (h2 : SL W 64 v m (ints Z)) => eqBlocks_same u v m Z W hzl h1 h2)
  generalize picV wd hi (.slice A n c) = pv at *
  generalize picV 0 0 (.slice none 0 0) = p0 at *
  generalize bv q = qv at *
  clear hr
  go_enter Try.func6, Try.ntmps6
  go_wp2_with (first
    | (show wpList _ _ _ (⟨some 2, _, _, _, _, _⟩ :: _) _ _; refine wpList_box_abs rfl 53 (.tmp 0) rfl pv rfl ?_; intro w1 g1 hb1 hx1 hg1)
    | (show wpList _ _ _ (⟨some 3, _, _, _, _, _⟩ :: _) _ _; refine wpList_box_abs rfl 24 (.tmp 1) rfl qv rfl ?_; intro w2 g2 hb2 hx2 hg2; have hb12 := hb1.ext hx2; have hx12 := hx1.trans hx2)
    | (show wpList _ _ _ (⟨some 10, _, _, _, _, _⟩ :: _) _ _; refine wpList_load_blk rfl 53 (.tmp 2) rfl g1 rfl hb12 _ Try.underlying53 rfl 3 sizePic hps.out ?_)
    | (show wpList _ _ _ (⟨some 11, _, _, _, _, _⟩ :: _) _ _; refine wpList_load_blk rfl 24 (.tmp 3) rfl g2 rfl hb2 _ Try.underlying24 rfl 64 size48 hqs.out ?_)
    | (go_at_call 18; (with_reducible refine (H1.out _ hx12).mono ?_); rintro e w3 ⟨B3, d3, rfl, hs3, hx3⟩; have hb13 := hb12.ext hx3; have hb23 := hb2.ext hx3; have hx13 := hx12.trans hx3)
    | (show wpList _ _ _ (⟨some 16, _, _, _, _, _⟩ :: _) _ _; refine wpList_load_blk rfl 53 (.tmp 2) rfl g1 rfl hb13 _ Try.underlying53 rfl 3 sizePic hps.out ?_)
    | (show wpList _ _ _ (⟨some 17, _, _, _, _, _⟩ :: _) _ _; refine wpList_load_blk rfl 24 (.tmp 3) rfl g2 rfl hb23 _ Try.underlying24 rfl 64 size48 hqs.out ?_)
    | (go_at_call 19; (with_reducible refine (H2.out _ hx13).mono ?_); rintro e w4 ⟨B4, d4, rfl, hs4, hx4⟩; have hs34 := hs3.ext hx4; have hx14 := hx13.trans hx4)
    | (go_at_call 20; (with_reducible refine (HEQ.out _ _ _ hs34 hs4).mono ?_); rintro e w5 ⟨rfl, hx5⟩)
    | (show wpList _ _ _ (⟨some 27, _, _, _, _, _⟩ :: _) _ _; refine wl_run_g (by rfl) (.bool true) (ex_eql rfl rfl rfl (by simp)) ?_)
    | (show wpList _ _ _ (⟨some 30, _, _, _, _, _⟩ :: _) _ _; refine wpList_build0_g (by rfl) 53 rfl _ hbt.out ?_)
    | (go_at_call 21; (with_reducible refine (H3.out _).mono ?_); rintro e w6 ⟨rfl, hx6⟩))
  go_ret
  exact ⟨rfl, (hx14.trans hx5).trans hx6⟩
end Go.Proofs.Ytkfdkkhhkciocaa.frameBlocks
namespace Go.Proofs.Ytkfdkkhhkciocaa
set_option linter.unusedVariables false
set_option linter.unusedSimpArgs false
open Go.RowKit Go.ChangeShapes Go.WideShapes Go.ChangeAt
theorem own : ownKnob Try.prog.godebug = none := by kernel_rfl
theorem laidOut : laidOutB Try.prog = true := by kernel_rfl
section
variable {H : Type} {enc : TypeId × Value → H} {P : Program}
theorem below_trodAll (hl : laidOutB P = true) {W W' : World} (hb : Below W.heap.size W W') : ∀ {ts : List TypeId} {vs : List Value} {ds : List (DataW H)} {ps : List MemPlace},
    (∀ t ∈ ts, P.readableRec t = true ∧ t < P.types.size) → DataW.TrodAll enc P W 0 (fun _ => true) true ts vs ds ps → (∀ x ∈ ps, x.block < W.heap.size) →
    DataW.TrodAll enc P W' 0 (fun b => decide (b < W.heap.size)) true ts vs ds ps
  | [], _, _, _, _, h, _ => by
    obtain ⟨rfl, rfl, rfl⟩ := trodAll_nil h
    exact trodAll_mk0
  | t :: ts, vs, ds, ps, hr, h, hlt => by
    obtain ⟨v, vs1, d, ds1, a, b, rfl, rfl, rfl, h1, h2⟩ := trodAll_cons h
    exact ⟨a, b, Below.trod hl (hr t (by simp)).1 (hr t (by simp)).2 h1 hb (fun x hx => hlt x (by simp [hx])),
      below_trodAll hl hb (fun t ht => hr t (by simp [ht])) h2 (fun x hx => hlt x (by simp [hx])), rfl⟩

/-- a law's row is met: true, and new blocks alone -/
theorem law_post {f : Func} {s : ChangeSpec} {W W' : World} {args : Array Value} {ds gs : List (DataW H)} {before : List MemPlace}
    (hl : laidOutB P = true) (tb : TypeId) (htb : P.underlying tb = some .bool) (hft : f.resultTypes = #[tb]) (hvars : s.vars = [])
    (hr : ∀ t ∈ f.params.toList, P.readableRec t = true ∧ t < P.types.size)
    (hW : DataW.Whole enc P f.params.toList s.vars false W args.toList ds gs before)
    (hfn : s.fn H (ds ++ gs) = { results := [.lit (.bool true)], args := ds })
    (hb : Ext W W') : s.post enc P f false true false false W args (.bool true) W' := by
  have hlt : ∀ p ∈ before, p.block < W.heap.size := fun p hp => by simpa using hW.lt p hp
  have hW' := hW
  obtain ⟨p, q, hA, hV, rfl, hfz, hnd⟩ := hW
  rw [hvars] at hV
  obtain ⟨rfl, rfl⟩ := trodVars_none hV
  simp only [List.append_nil] at hlt hW'
  refine ⟨ds, [], p, [], p, [], hW', ?_, ?_, ?_, ?_, fun h => by cases h⟩
  · rw [hft, hfn]
    exact trodAll_cons_mk (shut_bool htb _) trodAll_mk0
  · rw [hfn]
    exact below_trodAll hl hb hr hA hlt
  · rw [hfn, hvars]
    rfl
  · exact World.keptBut_mono (fun p hp => ⟨hp, Or.inr (Or.inl hp)⟩) (hb.frame (· ∈ p))
end
end Go.Proofs.Ytkfdkkhhkciocaa
