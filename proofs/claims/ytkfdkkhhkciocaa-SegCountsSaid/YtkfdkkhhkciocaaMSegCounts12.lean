/- Contracts for the law SegCounts, part 12: what the functions that it reaches answer, for all arguments that the theorems name. -/
import Derived.Deep.Slices
import Derived.Test.YtkfdkkhhkciocaaMSegCounts11
import Derived.Test.YtkfdkkhhkciocaaMSegCounts9
import Derived.Test.YtkfdkkhhkciocaaMSegCounts1
import Derived.Test.YtkfdkkhhkciocaaRows
import Derived.ProofKit
import Derived.OpenShut
import Derived.JoinedCond
/- Opening a parameter that is a slice of elements of several integers each (blocks, tokens, fields). -/
namespace Go.Proofs.Ytkfdkkhhkciocaa
set_option linter.unusedVariables false
set_option linter.unusedSimpArgs false
open Go.RowKit Go.ChangeShapes Go.WideShapes Go.ChangeAt
theorem flat_at {α : Type} (f : Nat → List α) (sz : Nat) : ∀ n : Nat, (∀ i, i < n → (f i).length = sz) → ((List.range n).flatMap f).length = n * sz ∧ ∀ i j, i < n → j < sz → ((List.range n).flatMap f)[i * sz + j]? = (f i)[j]?
  | 0, _ => ⟨by simp, fun i j h => by omega⟩
  | n + 1, h => by
    obtain ⟨h1, h2⟩ := flat_at f sz n (fun i hi => h i (by omega))
    have hl := h n (by omega)
    rw [List.range_succ, List.flatMap_append]
    refine ⟨by simp only [List.length_append, h1, List.flatMap_cons, List.flatMap_nil, List.append_nil, hl]; rw [Nat.add_mul]; omega, fun i j hi hj => ?_⟩
    rcases Nat.lt_or_ge i n with hlt | hge
    · have : i * sz + j < n * sz := by
        have := Nat.mul_le_mul_right sz (show i + 1 ≤ n by omega)
        rw [Nat.add_mul] at this
        omega
      rw [List.getElem?_append_left (by omega)]
      exact h2 i j hlt hj
    · obtain rfl : i = n := by omega
      rw [List.getElem?_append_right (by omega), h1, show i * sz + j - i * sz = j by omega]
      simp
section
variable {H : Type} {enc : TypeId × Value → H} {P : Program} {w : World} {base : Nat} {spare : Nat → Bool} {held : Bool}
theorem open_multi {t e : TypeId} {sz fuel : Nat} {cs : List Value} {x : DataW H × List MemPlace} (ht : P.underlying t = some (.slice e)) (hsz : P.cellsOf e = sz) (h0 : 0 < sz)
    (hel : ∀ (fuel : Nat) (cs : List Value) (x : DataW H × List MemPlace), DataW.trod enc P w base spare held fuel e cs = some x → ∃ zs : List Int, zs.length = sz ∧ cs = ints zs ∧ ∀ z ∈ zs, inI64 z)
    (h : DataW.trod enc P w base spare held fuel t cs = some x) : ∃ (v : Value) (n : Nat) (zs : List Int), cs = [v] ∧ zs.length = n * sz ∧ SL w sz v n (ints zs) ∧ ∀ z ∈ zs, inI64 z := by
  rcases Go.Deep.open_slice ht h with ⟨rfl, -⟩ | ⟨a, len, cap, m, n, D, Pl, rfl, -, hl, hm, hmm, -, hx⟩
  · exact ⟨_, 0, [], rfl, by simp, SL.nil w sz, by simp⟩
  · rw [hsz] at hx
    have hle : len ≤ m := by rw [hmm]; split <;> omega
    obtain ⟨f, hf⟩ := Go.Deep.choose_lt (α := List Int) (n := len) (p := fun i zs => zs.length = sz ∧ w.cells? base (a.add (i * sz)) sz = some (ints zs) ∧ ∀ z ∈ zs, inI64 z) (fun i hi => by
      obtain ⟨cs', h1, h2⟩ := hx i (by omega)
      obtain ⟨zs, hz1, rfl, hz3⟩ := hel _ _ _ h2
      exact ⟨zs, hz1, h1, hz3⟩)
    obtain ⟨hfl, hfa⟩ := flat_at f sz len (fun i hi => (hf i hi).1)
    have hcell : ∀ i j u, i < len → (ints (f i))[j]? = some u → w.cell? (a.add (i * sz + j)) = some u := by
      intro i j u hi hu
      obtain ⟨_, _, hc⟩ := World.cells?_some (hf i hi).2.1
      rw [← hu, ← add_of_add]
      exact hc j (by have := (List.getElem?_eq_some_iff.1 hu).1; omega)
    refine ⟨_, len, (List.range len).flatMap f, rfl, hfl, ⟨some a, cap, rfl, hl, by unfold maxLen at hm; omega, by rw [ints_len, hfl], fun hn => ⟨a, rfl, ?_, fun j u hu => ?_⟩⟩, ?_⟩
    · have hq : 0 < (ints (f 0)).length := by rw [ints_len, (hf 0 hn).1]; exact h0
      have := hcell 0 0 _ hn (List.getElem?_eq_getElem hq)
      have h2 := World.block_lt_of_cell? w _ this
      rwa [block_of_add] at h2
    · have hj : j < len * sz := by have := (List.getElem?_eq_some_iff.1 hu).1; rw [ints_len, hfl] at this; exact this
      have hi : j / sz < len := Nat.div_lt_of_lt_mul (by rwa [Nat.mul_comm])
      have hr : j % sz < sz := Nat.mod_lt _ h0
      have e : j / sz * sz + j % sz = j := by rw [Nat.mul_comm]; exact Nat.div_add_mod _ _
      have h3 := hfa (j / sz) (j % sz) hi hr
      rw [e] at h3
      have h4 : (ints (f (j / sz)))[j % sz]? = some u := by
        rw [← hu]
        unfold ints
        rw [List.getElem?_map, List.getElem?_map, h3]
      have := hcell (j / sz) (j % sz) u hi h4
      rwa [e] at this
    · intro z hz
      obtain ⟨i, hi, hzi⟩ := List.mem_flatMap.1 hz
      exact (hf i (List.mem_range.1 hi)).2.2 z hzi
end
section
variable {H : Type} {enc : TypeId × Value → H} {w : World} {base : Nat} {spare : Nat → Bool} {held : Bool}
set_option maxRecDepth 20000 in
theorem open_blocks_v {b0 : Nat} {r : Reach} {v : Value} {d : DataW H} {p : List MemPlace} (hv : Value.okWide Try.prog w r b0 29 v) (h : DataW.Trod enc Try.prog w base spare held 29 v d p) :
    ∃ zs : List Int, SL w 64 v (zs.length / 64) (ints zs) ∧ zs.length = zs.length / 64 * 64 ∧ ∀ z ∈ zs, inI64 z := by
  obtain ⟨fuel, hf⟩ := h
  obtain ⟨u, n, zs, hcs, hl, hs, hz⟩ := open_multi (sz := 64) Try.underlying29 cells64 (by decide) (fun fuel cs x hx => trod_ints_arr Try.underlying24 Try.underlying3 cellsInt cells64 hx) hf
  have : v = u := slice_value Try.underlying29 hv hcs (by obtain ⟨A, c, rfl, -⟩ := hs; simp)
  subst this
  refine ⟨zs, ?_, by omega, hz⟩
  rwa [show zs.length / 64 = n by omega]
end
end Go.Proofs.Ytkfdkkhhkciocaa
/- The law SegCounts, walked. -/
namespace Go.Proofs.Ytkfdkkhhkciocaa.segCounts
set_option linter.unusedVariables false
set_option linter.unusedSimpArgs false
open Go.RowKit
theorem cnt_ok : ∀ (l : List (Tok × Bool)) (s : List Int × List Int), (eatGo cntStep l s).1 = 0
  | [], _ => rfl
  | (_, _) :: r, _ => by rw [eatGo_ok rfl]; exact cnt_ok r _
theorem each_e (n : Nat) (Z : List Int) (s : List Int × List Int) : (eachZ cntStep n Z s).1 = blocksE n Z := by
  unfold eachZ blocksE
  split
  · rfl
  · split
    · rfl
    · exact cnt_ok _ _
theorem each_0 (n : Nat) (Z : List Int) (s : List Int × List Int) (h : blocksE n Z = 0) : n ≤ 400 ∧ allIn Z (-2047) 2047 = true ∧ eachZ cntStep n Z s = eatGo cntStep (flagsAt Z n 0) s := by
  unfold blocksE at h
  unfold eachZ
  by_cases h1 : 400 < n
  · rw [if_pos h1] at h; cases h
  · rw [if_neg h1] at h ⊢
    cases h2 : allIn Z (-2047) 2047 with
    | false => rw [h2] at h; cases h
    | true => exact ⟨by omega, rfl, by simp⟩
theorem made_sl {w : World} {g : Nat} {t : TypeId} (h : Blk w g t (bv (List.replicate (401 * 64) 0))) : SL w 64 (.slice (some ⟨g, 0, none⟩) 401 401) 401 (ints (List.replicate (401 * 64) 0)) := by
  have := h.sl (size := 64) (n := 401) (c := 401) (by rw [bv_size, List.length_replicate]) (by omega) (by omega)
  rwa [show (bv (List.replicate (401 * 64) 0)).toList = ints (List.replicate (401 * 64) 0) from rfl] at this
theorem row_sl {w : World} {g : Nat} {t : TypeId} {l : List Int} (hl : l.length = 256) (h : Blk w g t (bv l)) : SL w 1 (.slice (some ⟨g, 0, none⟩) 256 256) l.length (ints l) := by
  have := h.sl (size := 1) (n := l.length) (c := 256) (by rw [bv_size]; omega) (by omega) (by omega)
  rw [hl] at this ⊢
  exact this
attribute [local irreducible] bv z256 eachZ blocksE eatGo flagsAt
set_option maxRecDepth 20000 in
set_option maxHeartbeats 2000000 in
theorem walk (v : Value) (Z : List Int) (hh : Z.length = Z.length / 64 * 64 ∧ ∀ z ∈ Z, inI64 z) (w : World) (hs : SL w 64 v (Z.length / 64) (ints Z)) :
    Calls Try.prog 4 #[v] w fun e w' => e = .returned (.bool true) ∧ Ext w w' := by
  obtain ⟨hZ, -⟩ := hh
  obtain ⟨n, hn⟩ : ∃ n, Z.length / 64 = n := ⟨_, rfl⟩
  rw [hn] at hs hZ
  clear hn
  have hs' := hs
  obtain ⟨A, c, rfl, -, -, -, -⟩ := hs'
  have H1 := hid_ (counts_any A n c Z hZ w hs)
  have H2 := hid_ (fun W (h : SL W 64 (.slice A n c) n (ints Z)) => blocksCheck_any A n c Z hZ W h)
  have H3 := hid_ (fun W a (h : SL W 64 (.slice a 401 401) 401 (ints (List.replicate (401 * 64) 0))) => counts_any a 401 401 (List.replicate (401 * 64) 0) (by rw [List.length_replicate]) W h)
  have H3E : Hid (eachZ cntStep 401 (List.replicate (401 * 64) 0) (z256, z256) = (2, (z256, z256))) := hid_ (by unfold eachZ; rw [if_pos (by omega)])
  rw [H3E.out] at H3
  have hE := each_e n Z (z256, z256)
  have HS0 := hid_ hs
  by_cases h0 : blocksE n Z = 0
  · obtain ⟨h1, h2, h3⟩ := each_0 n Z (z256, z256) h0
    have H4 := hid_ (fun W (h : SL W 64 (.slice A n c) n (ints Z)) => rcounts_any A n c Z hZ h1 h2 W h)
    rw [h0] at H2 hE
    rw [h3] at H1 hE
    generalize eatGo cntStep (flagsAt Z n 0) (z256, z256) = R at *
    obtain ⟨x, f, r⟩ := R
    dsimp only at hE H4
    subst hE
    clear h0 h1 h2 h3 hs hZ
    have hmb : 401 * 64 = 25664 := rfl
    go_enter Try.func4, Try.ntmps4
    go_wp2_with (first
      | (go_at_call 10; (with_reducible refine (H1.out).mono ?_); rintro e w1 ⟨hx1, hC1⟩; rw [if_pos rfl] at hC1; obtain ⟨gA, gB, rfl, ha1, hb1, la1, lb1⟩ := hC1)
      | (go_at_call 11; (with_reducible refine (H2.out _ (HS0.out.ext hx1)).mono ?_); rintro e w2 ⟨rfl, hx2⟩; have hx2' := hx1.trans hx2)
      | (show wpList _ _ _ (⟨some 21, _, _, _, _, _⟩ :: _) _ _; refine wpList_makeBlocks rfl (some 21) rfl _ _ rfl 401 (by omega) rfl rfl ?_; intro w3 g3 hb3 hx3 hg3; have hx3' := hx2'.trans hx3)
      | (go_at_call 10; (with_reducible refine (H3.out _ _ (made_sl hb3)).mono ?_); rintro e w4 ⟨hx4, hC4⟩; rw [if_neg (by decide)] at hC4; subst hC4; have hx4' := hx3'.trans hx4)
      | (go_at_call 12; (with_reducible refine (H4.out _ (HS0.out.ext hx4')).mono ?_); rintro e w5 ⟨hx5, gC, gD, rfl, hc5, hd5, lc5, ld5⟩; have hx15 := ((hx2.trans hx3).trans hx4).trans hx5)
      | (go_at_call 13; (with_reducible refine (eqInt_any _ _ f f _ (row_sl la1 (ha1.ext hx15)) (row_sl lc5 hc5)).mono ?_); rintro e w6 ⟨rfl, rfl⟩)
      | (go_at_call 13; (with_reducible refine (eqInt_any _ _ r r _ (row_sl lb1 (hb1.ext hx15)) (row_sl ld5 hd5)).mono ?_); rintro e w6 ⟨rfl, rfl⟩))
    go_ret
    exact ⟨rfl, hx4'.trans hx5⟩
  · have hne : (eachZ cntStep n Z (z256, z256)).1 ≠ 0 := by rw [hE]; exact h0
    generalize eachZ cntStep n Z (z256, z256) = R at *
    obtain ⟨x, s⟩ := R
    dsimp only at hE hne
    subst hE
    generalize blocksE n Z = x at *
    have HN := hid_ hne
    have hxb : (x != 0) = true := by simpa using hne
    have e1 : (x == x) = true := by simp
    clear h0 hne hs hZ
    go_enter Try.func4, Try.ntmps4
    go_wp2_with (first
      | (go_at_call 10; (with_reducible refine (H1.out).mono ?_); rintro e w1 ⟨hx1, hC1⟩; rw [if_neg HN.out] at hC1; subst hC1)
      | (go_at_call 11; (with_reducible refine (H2.out _ (HS0.out.ext hx1)).mono ?_); rintro e w2 ⟨rfl, hx2⟩; have hx2' := hx1.trans hx2)
      | (show wpList _ _ _ (⟨some 21, _, _, _, _, _⟩ :: _) _ _; refine wpList_makeBlocks rfl (some 21) rfl _ _ rfl 401 (by omega) rfl rfl ?_; intro w3 g3 hb3 hx3 hg3; have hx3' := hx2'.trans hx3)
      | (go_at_call 10; (with_reducible refine (H3.out _ _ (made_sl hb3)).mono ?_); rintro e w4 ⟨hx4, hC4⟩; rw [if_neg (by decide)] at hC4; subst hC4; have hx4' := hx3'.trans hx4))
    go_ret
    exact ⟨rfl, hx4'⟩
end Go.Proofs.Ytkfdkkhhkciocaa.segCounts
namespace Go.Proofs.Ytkfdkkhhkciocaa
set_option linter.unusedVariables false
set_option linter.unusedSimpArgs false
open Go.RowKit Go.ChangeShapes Go.WideShapes Go.ChangeAt
theorem own : ownKnob Try.prog.godebug = none := by kernel_rfl
theorem laidOut : laidOutB Try.prog = true := by kernel_rfl
section
variable {H : Type} {enc : TypeId × Value → H} {P : Program}
theorem below_trodAll (hl : laidOutB P = true) {W W' : World} (hb : Below W.heap.size W W') : ∀ {ts : List TypeId} {vs : List Value} {ds : List (DataW H)} {ps : List MemPlace},
    (∀ t ∈ ts, P.readableRec t = true ∧ t < P.types.size) → DataW.TrodAll enc P W 0 (fun _ => true) true ts vs ds ps → (∀ x ∈ ps, x.block < W.heap.size) →
    DataW.TrodAll enc P W' 0 (fun b => decide (b < W.heap.size)) true ts vs ds ps
  | [], _, _, _, _, h, _ => by
    obtain ⟨rfl, rfl, rfl⟩ := trodAll_nil h
    exact trodAll_mk0
  | t :: ts, vs, ds, ps, hr, h, hlt => by
    obtain ⟨v, vs1, d, ds1, a, b, rfl, rfl, rfl, h1, h2⟩ := trodAll_cons h
    exact ⟨a, b, Below.trod hl (hr t (by simp)).1 (hr t (by simp)).2 h1 hb (fun x hx => hlt x (by simp [hx])),
      below_trodAll hl hb (fun t ht => hr t (by simp [ht])) h2 (fun x hx => hlt x (by simp [hx])), rfl⟩

/-- a law's row is met: true, and new blocks alone -/
theorem law_post {f : Func} {s : ChangeSpec} {W W' : World} {args : Array Value} {ds gs : List (DataW H)} {before : List MemPlace}
    (hl : laidOutB P = true) (tb : TypeId) (htb : P.underlying tb = some .bool) (hft : f.resultTypes = #[tb]) (hvars : s.vars = [])
    (hr : ∀ t ∈ f.params.toList, P.readableRec t = true ∧ t < P.types.size)
    (hW : DataW.Whole enc P f.params.toList s.vars false W args.toList ds gs before)
    (hfn : s.fn H (ds ++ gs) = { results := [.lit (.bool true)], args := ds })
    (hb : Ext W W') : s.post enc P f false true false false W args (.bool true) W' := by
  have hlt : ∀ p ∈ before, p.block < W.heap.size := fun p hp => by simpa using hW.lt p hp
  have hW' := hW
  obtain ⟨p, q, hA, hV, rfl, hfz, hnd⟩ := hW
  rw [hvars] at hV
  obtain ⟨rfl, rfl⟩ := trodVars_none hV
  simp only [List.append_nil] at hlt hW'
  refine ⟨ds, [], p, [], p, [], hW', ?_, ?_, ?_, ?_, fun h => by cases h⟩
  · rw [hft, hfn]
    exact trodAll_cons_mk (shut_bool htb _) trodAll_mk0
  · rw [hfn]
    exact below_trodAll hl hb hr hA hlt
  · rw [hfn, hvars]
    rfl
  · exact World.keptBut_mono (fun p hp => ⟨hp, Or.inr (Or.inl hp)⟩) (hb.frame (· ∈ p))
end
end Go.Proofs.Ytkfdkkhhkciocaa
