/- Contracts for the law RunBlocks, part 13: what the functions that it reaches answer, for all arguments that the theorems name. -/
import Derived.Test.YtkfdkkhhkciocaaMRunBlocks12
import Derived.Test.YtkfdkkhhkciocaaRows
import Derived.Test.YtkfdkkhhkciocaaMRunBlocks1
import Derived.ProofKit
import Derived.OpenShut
import Derived.JoinedCond
/- The law RunBlocks, walked. -/
namespace Go.Proofs.Ytkfdkkhhkciocaa.runBlocks
set_option linter.unusedVariables false
set_option linter.unusedSimpArgs false
open Go.RowKit
theorem nil_short : blockZ 0 [] = (3, List.replicate 64 0, 0) := by
  unfold blockZ
  rw [if_pos (by decide)]
  have : blkZ listNext 0 [] = (3, List.replicate 64 0, [], []) := blkZ_err (t := (0, 0, 0)) rfl (by omega)
  rw [this]
  rfl
set_option maxRecDepth 20000 in
set_option maxHeartbeats 2000000 in
theorem walk (before : Int) (_ : (Lit.int .i64 before).wf = true) (v : Value) (L : List Tok) (hI : ∀ t ∈ L, I64 t.1 ∧ I64 t.2.1 ∧ I64 t.2.2) (w : World) (hs : SL w 3 v L.length (toks L)) :
    Calls Try.prog 3 #[.int .i64 before, v] w fun e w' => e = .returned (.bool true) ∧ Ext w w' := by
  have hs' := hs
  obtain ⟨A, c, rfl, -, -, -, -⟩ := hs'
  have H1 := hid_ (fun W (h : SL W 3 (.slice A L.length c) L.length (toks L)) => block_any before L hI A c L.length rfl W h)
  have H2 := hid_ (fun W (h : SL W 3 (.slice A L.length c) L.length (toks L)) => rblock_any before L hI A c L.length rfl W h)
  have H3 := hid_ (fun W => block_any 0 [] (by simp) none 0 0 rfl W (SL.nil W 3))
  rw [nil_short] at H3
  dsimp only at H3
  obtain ⟨hl, hl2⟩ := blockZ_len before L
  have HAL := hid_ (show (Try.prog.info? 24).bind (·.zero) = some (.agg (bv (List.replicate 64 0))) from zero48)
  have HS := hid_ (show (bv (List.replicate 64 0)).size = 64 by rw [bv_size]; rfl)
  have HO := hid_ (bv_one (List.replicate 64 0))
  have hz0 := hid_ (show (Value.agg (bv (List.replicate 64 0))).cells.size = 64 by rw [show (Value.agg (bv (List.replicate 64 0))).cells = bv (List.replicate 64 0) from rfl, bv_size]; rfl)
  generalize blockZ before L = R at *
  obtain ⟨e0, z0, n0⟩ := R
  dsimp only at H1 H2 hl hl2
  have HS1 := hid_ (show (bv z0).size = 64 by rw [bv_size]; exact hl)
  have HO1 := hid_ (bv_one z0)
  have heq := fun W => eqIn48_same W z0 hl
  have hgd := fun W op x y xs ys => run_guard48 W op x y xs ys
  have e1 : ((n0 : Int) == (n0 : Int)) = true := by simp
  have e2 : (e0 == e0) = true := by simp
  generalize bv z0 = bz at *
  generalize bv (List.replicate 64 0) = cz at *
  clear hl
  obtain ⟨n, hn⟩ : ∃ n, L.length = n := ⟨_, rfl⟩
  rw [hn] at H1 H2 hs ⊢
  have HS0 := hid_ hs
  clear hn hI hs
  go_enter Try.func3, Try.ntmps3
  go_wp2_with (first
    | (show wpList _ _ _ (⟨some 17, _, _, _, _, _⟩ :: _) _ _; (go_at_call 8; (with_reducible refine (H1.out _ HS0.out).mono ?_); rintro e w1 ⟨rfl, hx1⟩))
    | (go_at_call 8; (with_reducible refine (H1.out _ HS0.out).mono ?_); rintro e w1 ⟨rfl, hx1⟩)
    | (show wpList _ _ _ (⟨some 5, _, _, _, _, _⟩ :: _) _ _; refine wpList_alloc_abs' rfl (some 5) rfl 24 rfl _ HAL.out ?_; intro w2 g2 hb2 hx2 hg2)
    | (show wpList _ _ _ (⟨none, .store _ (.tmp 5) (.tmp 18), _, _, _, _⟩ :: _) _ _; refine wpList_store_blk rfl 24 (.tmp 5) (.tmp 18) rfl _ _ rfl rfl hb2 64 size48 HS1.out hz0.out HO1.out ?_; intro w3 hb3 hg3; have hx3 := (hx1.trans hx2).grown hg3 (by have := hx1.size; omega))
    | (go_at_call 9; (with_reducible refine (H2.out _ (HS0.out.ext hx3)).mono ?_); rintro e w4 ⟨rfl, hx4⟩)
    | (show wpList _ _ _ (⟨some 8, _, _, _, _, _⟩ :: _) _ _; refine wpList_alloc_abs' rfl (some 8) rfl 24 rfl _ HAL.out ?_; intro w5 g5 hb5 hx5 hg5)
    | (show wpList _ _ _ (⟨none, .store _ (.tmp 8) (.tmp 25), _, _, _, _⟩ :: _) _ _; refine wpList_store_blk rfl 24 (.tmp 8) (.tmp 25) rfl _ _ rfl rfl hb5 64 size48 HS1.out hz0.out HO1.out ?_; intro w6 hb6 hg6; have hx6 := ((hx3.trans hx4).trans hx5).grown hg6 (by have := hx3.size; have := hx4.size; omega); have hb36 := ((hb3.ext hx4).ext hx5).grown hg6 (by intro k; have := Option.some.inj k; have := hb3.lt; have := hx4.size; omega))
    | (go_at_call 8; (with_reducible refine (H3.out _).mono ?_); rintro e w7 ⟨rfl, hx7⟩)
    | (show wpList _ _ _ (⟨some 11, _, _, _, _, _⟩ :: _) _ _; refine wpList_alloc_abs' rfl (some 11) rfl 24 rfl _ HAL.out ?_; intro w8 g8 hb8 hx8 hg8)
    | (show wpList _ _ _ (⟨none, .store _ (.tmp 11) (.tmp 30), _, _, _, _⟩ :: _) _ _; refine wpList_store_blk rfl 24 (.tmp 11) (.tmp 30) rfl _ _ rfl rfl hb8 64 size48 HS.out hz0.out HO.out ?_; intro w9 hb9 hg9; have hx9 := ((hx6.trans hx7).trans hx8).grown hg9 (by have := hx6.size; have := hx7.size; omega); have hb39 := ((hb36.ext hx7).ext hx8).grown hg9 (by intro k; have := Option.some.inj k; have := hb36.lt; have := hx7.size; omega); have hb69 := ((hb6.ext hx7).ext hx8).grown hg9 (by intro k; have := Option.some.inj k; have := hb6.lt; have := hx7.size; omega))
    | (show wpList _ _ _ (⟨some 33, _, _, _, _, _⟩ :: _) _ _; refine wpList_load_blk rfl 24 (.tmp 5) rfl _ rfl hb39 _ Try.underlying24 rfl 64 size48 HS1.out ?_)
    | (show wpList _ _ _ (⟨some 34, _, _, _, _, _⟩ :: _) _ _; refine wpList_load_blk rfl 24 (.tmp 8) rfl _ rfl hb69 _ Try.underlying24 rfl 64 size48 HS1.out ?_))
  go_ret
  exact ⟨rfl, hx9⟩
end Go.Proofs.Ytkfdkkhhkciocaa.runBlocks
namespace Go.Proofs.Ytkfdkkhhkciocaa
set_option linter.unusedVariables false
set_option linter.unusedSimpArgs false
open Go.RowKit Go.ChangeShapes Go.WideShapes Go.ChangeAt
theorem own : ownKnob Try.prog.godebug = none := by kernel_rfl
theorem laidOut : laidOutB Try.prog = true := by kernel_rfl
section
variable {H : Type} {enc : TypeId × Value → H} {P : Program}
theorem below_trodAll (hl : laidOutB P = true) {W W' : World} (hb : Below W.heap.size W W') : ∀ {ts : List TypeId} {vs : List Value} {ds : List (DataW H)} {ps : List MemPlace},
    (∀ t ∈ ts, P.readableRec t = true ∧ t < P.types.size) → DataW.TrodAll enc P W 0 (fun _ => true) true ts vs ds ps → (∀ x ∈ ps, x.block < W.heap.size) →
    DataW.TrodAll enc P W' 0 (fun b => decide (b < W.heap.size)) true ts vs ds ps
  | [], _, _, _, _, h, _ => by
    obtain ⟨rfl, rfl, rfl⟩ := trodAll_nil h
    exact trodAll_mk0
  | t :: ts, vs, ds, ps, hr, h, hlt => by
    obtain ⟨v, vs1, d, ds1, a, b, rfl, rfl, rfl, h1, h2⟩ := trodAll_cons h
    exact ⟨a, b, Below.trod hl (hr t (by simp)).1 (hr t (by simp)).2 h1 hb (fun x hx => hlt x (by simp [hx])),
      below_trodAll hl hb (fun t ht => hr t (by simp [ht])) h2 (fun x hx => hlt x (by simp [hx])), rfl⟩

/-- a law's row is met: true, and new blocks alone -/
theorem law_post {f : Func} {s : ChangeSpec} {W W' : World} {args : Array Value} {ds gs : List (DataW H)} {before : List MemPlace}
    (hl : laidOutB P = true) (tb : TypeId) (htb : P.underlying tb = some .bool) (hft : f.resultTypes = #[tb]) (hvars : s.vars = [])
    (hr : ∀ t ∈ f.params.toList, P.readableRec t = true ∧ t < P.types.size)
    (hW : DataW.Whole enc P f.params.toList s.vars false W args.toList ds gs before)
    (hfn : s.fn H (ds ++ gs) = { results := [.lit (.bool true)], args := ds })
    (hb : Ext W W') : s.post enc P f false true false false W args (.bool true) W' := by
  have hlt : ∀ p ∈ before, p.block < W.heap.size := fun p hp => by simpa using hW.lt p hp
  have hW' := hW
  obtain ⟨p, q, hA, hV, rfl, hfz, hnd⟩ := hW
  rw [hvars] at hV
  obtain ⟨rfl, rfl⟩ := trodVars_none hV
  simp only [List.append_nil] at hlt hW'
  refine ⟨ds, [], p, [], p, [], hW', ?_, ?_, ?_, ?_, fun h => by cases h⟩
  · rw [hft, hfn]
    exact trodAll_cons_mk (shut_bool htb _) trodAll_mk0
  · rw [hfn]
    exact below_trodAll hl hb hr hA hlt
  · rw [hfn, hvars]
    rfl
  · exact World.keptBut_mono (fun p hp => ⟨hp, Or.inr (Or.inl hp)⟩) (hb.frame (· ∈ p))
end
end Go.Proofs.Ytkfdkkhhkciocaa
