/- Contracts for the law FileParses, part 15: what the functions that it reaches answer, for all arguments that the theorems name. -/
import Derived.Test.YtkfdkkhhkciocaaMFileParses14
import Derived.Test.YtkfdkkhhkciocaaMFileParses13
import Derived.Test.YtkfdkkhhkciocaaMFileParses9
import Derived.Test.YtkfdkkhhkciocaaMFileParses5
import Derived.Test.YtkfdkkhhkciocaaRows
import Derived.Test.YtkfdkkhhkciocaaMFileParses1
import Derived.ProofKit
import Derived.OpenShut
import Derived.JoinedCond
/- file.Parse and FileParse of the reference: one contract each, for all bytes. -/
namespace Go.Proofs.Ytkfdkkhhkciocaa
set_option linter.unusedVariables false
set_option linter.unusedSimpArgs false
open Go.RowKit
set_option maxRecDepth 20000 in
set_option maxHeartbeats 4000000 in
theorem rparse_short (A : Option Addr) (n c : Nat) (bs : List Nat) (w : World) (hn : bs.length = n) (hl : n < 102) :
    Calls Try.prog 15 #[.slice A n c] w (FpIs (parseZ bs) w) := by
  have HZ : Hid (parseZ bs = (FC.zero, 3)) := hid_ (by
    have hp : n < p3 bs := by unfold p3 p2; omega
    unfold parseZ; rw [if_neg (by omega), if_pos (by omega)])
  have HE := hid_ (fun W (h : Ext w W) => FpIs.err HZ.out h)
  have hzs := hid_ zFile_size
  have hzo := hid_ zFile_one
  have hZF := zeroFileV
  have hbf := hid_ built0F
  generalize zFile = zf at *
  generalize parseZ bs = pz at *
  clear HZ hn
  go_enter Try.func15, Try.ntmps15
  go_wp2_with (first
    | (show wpList _ _ _ (⟨some 2, _, _, _, _, _⟩ :: _) _ _; refine wpList_alloc_abs' rfl (some 2) rfl 45 rfl _ hZF ?_; intro w1 g0 hb0 hx1 hg0)
    | (show wpList _ _ _ (⟨some 4, _, _, _, _, _⟩ :: _) _ _; refine wpList_alloc_abs' rfl (some 4) rfl 45 rfl _ hZF ?_; intro w2 gf hbf2 hx2 hgf; have hz2 := hb0.ext hx2; have hy2 := hx1.trans hx2)
    | (show wpList _ _ _ (⟨some 25, _, _, _, _, _⟩ :: _) _ _; refine Go.Great.wpList_buildSliceTo rfl 92 91 2 _ rfl _ rfl (some 25) rfl Try.underlying92 #[.pointer (some ⟨gf, 67, none⟩), .pointer (some ⟨gf, 84, none⟩)] (by simp only [List.map_toArray, List.map_cons, List.map_nil]; exact builtPtr _ _) ?_))
  have hg2n := Blk.new w2 91 #[.pointer (some ⟨gf, 67, none⟩), .pointer (some ⟨gf, 84, none⟩)]
  have hx3 := (Ext.refl w2).alloc (.cells #[.pointer (some ⟨gf, 67, none⟩), .pointer (some ⟨gf, 84, none⟩)] 91)
  have hz3 := hz2.ext hx3
  have hy3 := hy2.trans hx3
  obtain ⟨g2, hg2⟩ : ∃ g2, w2.heap.size = g2 := ⟨_, rfl⟩
  rw [hg2] at hg2n ⊢
  generalize w2.alloc (.cells #[.pointer (some ⟨gf, 67, none⟩), .pointer (some ⟨gf, 84, none⟩)] 91) = w3 at *
  clear hx3 hbf2 hz2 hy2 hb0 hx1 hx2 hg2 hgf
  go_loopw [5, 28] (fun at_ i wr => i = .int .i64 0 ∧ at_ = .int .i64 70 ∧ Blk wr g0 45 zf ∧ Blk wr g2 91 #[.pointer (some ⟨gf, 67, none⟩), .pointer (some ⟨gf, 84, none⟩)] ∧ Ext w wr) (fun _ i _ => 2 - (intOf i).toNat)
  case atStart => exact ⟨rfl, rfl, hz3, hg2n, hy3⟩
  case round =>
    clear hg2n hz3 hy3
    obtain ⟨rfl, rfl, hz, hg2b, hy⟩ := hrel
    have hptr : wr.cell? ⟨g2, 0, none⟩ = some (.pointer (some ⟨gf, 67, none⟩)) := hg2b.cell 0
    have hlss : decide ((n : Int) < 102) = true := by rw [decide_eq_true_eq]; omega
    go_wp2_with (first
      | (show wpList _ _ _ (⟨some 30, _, _, _, _, _⟩ :: _) _ _; refine wl_run rfl (.pointer (some ⟨g2, 0, none⟩)) (ex_ixSl0 (i := 0) Try.underlying92 sizePtr rfl rfl rfl (by omega)) ?_)
      | (show wpList _ _ _ (⟨some 31, _, _, _, _, _⟩ :: _) _ _; refine wl_read rfl (.pointer (some ⟨gf, 67, none⟩)) (ex_loadPt rfl rfl hptr) ?_)
      | (show wpList _ _ _ (⟨some 36, _, _, _, _, _⟩ :: _) _ _; refine wl_run rfl (.bool true) (ex_lss rfl rfl rfl hlss) ?_)
      | (show wpList _ _ _ (⟨some 37, _, _, _, _, _⟩ :: _) _ _; refine wpList_build0_g (by rfl) 45 rfl _ hbf.out ?_)
      | (show wpList _ _ _ (⟨none, .store _ (.tmp 2) (.tmp 37), _, _, _, _⟩ :: _) _ _; refine wpList_store_blk rfl 45 (.tmp 2) (.tmp 37) rfl g0 zf rfl rfl hz 103 sizeFile hzs.out hzs.out hzo.out ?_; intro w5 hb5 hg5))
    exact ret_cell_tmp rfl rfl g0 rfl hb5 _ Try.underlying45 rfl 103 sizeFile hzs.out (HE.out _ (hy.grown hg5 hg0))
theorem parse_any (v : Value) (bs : List Nat) (w : World) (hlt : ∀ b ∈ bs, b < 256) (hs : SL w 1 v bs.length (bytesV bs)) : Calls Try.prog 14 #[v] w (FpIs (parseZ bs) w) := by
  have hs' := hs
  obtain ⟨A, c, rfl, -, -, -, -⟩ := hs'
  by_cases h : 91000 < bs.length
  · exact parse_large A _ c bs w rfl h
  · exact parse_good A _ c bs w rfl (by omega) hlt hs
theorem rparse_any (v : Value) (bs : List Nat) (w : World) (hlt : ∀ b ∈ bs, b < 256) (hs : SL w 1 v bs.length (bytesV bs)) : Calls Try.prog 15 #[v] w (FpIs (parseZ bs) w) := by
  have hs' := hs
  obtain ⟨A, c, rfl, -, -, -, h4⟩ := hs'
  by_cases h : 91000 < bs.length
  · exact rparse_large A _ c bs w rfl h
  · by_cases h0 : bs.length < 102
    · exact rparse_short A _ c bs w rfl h0
    · obtain ⟨ad, rfl, -⟩ := h4 (by omega)
      exact rparse_good ad _ c bs w rfl (by omega) (by omega) hlt hs
end Go.Proofs.Ytkfdkkhhkciocaa
/- The law FileParses, walked. -/
namespace Go.Proofs.Ytkfdkkhhkciocaa.fileParses
set_option linter.unusedVariables false
set_option linter.unusedSimpArgs false
open Go.RowKit
theorem at_one {F : FC} {w : World} {s1 s2 sd : Value} (h : F.at_ w s1 s2 sd) : (F.cells s1 s2 sd).all (·.oneCell') = true := by
  obtain ⟨h1, h2, h3⟩ := h
  obtain ⟨A, c, rfl, -⟩ := h1
  obtain ⟨B, d, rfl, -⟩ := h2
  obtain ⟨C, e, rfl, -⟩ := h3
  exact fileOne F A B C _ _ _ _ _ _
theorem parse_shaped (bs : List Nat) : (parseZ bs).1.shaped := by
  unfold parseZ
  split
  · exact zero_shaped
  · split
    · exact zero_shaped
    · split
      · exact parsed_shaped bs
      · exact zero_shaped
set_option maxRecDepth 20000 in
set_option maxHeartbeats 2000000 in
theorem walk (v : Value) (bs : List Nat) (hlt : ∀ b ∈ bs, b < 256) (w : World) (hs : SL w 1 v bs.length (bytesV bs)) :
    Calls Try.prog 5 #[v] w fun e w' => e = .returned (.bool true) ∧ Ext w w' := by
  have H1 := hid_ (parse_any v bs w hlt hs)
  have H2 := hid_ (fun W (hx : Ext w W) => rparse_any v bs W hlt (hs.ext hx))
  have hsh := parse_shaped bs
  obtain ⟨fz, hbt, HZ⟩ := builtFile
  have HBT := hid_ hbt
  have HCZ := hid_ HZ
  unfold FpIs at H1 H2
  have hs' := hs
  obtain ⟨A, c, rfl, -, -, -, -⟩ := hs'
  generalize parseZ bs = pz at *
  obtain ⟨F, E⟩ := pz
  dsimp only at H1 H2 hsh
  have HEQ := hid_ (fun s1 s2 sd t1 t2 td W (ha : F.at_ W s1 s2 sd) (hb : F.at_ W t1 t2 td) => fileEq_same F hsh s1 s2 sd t1 t2 td W ha hb)
  have HSZ := hid_ (fun s1 s2 sd => FC.size hsh s1 s2 sd)
  have HON := hid_ (fun W s1 s2 sd (h : F.at_ W s1 s2 sd) => at_one h)
  have hzs := hid_ zFile_size
  have hZF := zeroFileV
  generalize zFile = zf at *
  clear hbt HZ hs hlt
  generalize bs.length = n at *
  go_enter Try.func5, Try.ntmps5
  go_wp2_with (first
    | (go_at_call 14; (with_reducible refine (H1.out).mono ?_); rintro e w1 ⟨s1, s2, sd, rfl, ha1, hx1⟩)
    | (show wpList _ _ _ (⟨some 3, _, _, _, _, _⟩ :: _) _ _; refine wpList_alloc_abs' rfl (some 3) rfl 45 rfl _ hZF ?_; intro w2 g1 hb1 hx2 hg1; have ha2 := ha1.ext hx2; have hx02 := hx1.trans hx2)
    | (show wpList _ _ _ (⟨none, .store _ (.tmp 3) (.tmp 10), _, _, _, _⟩ :: _) _ _; refine wpList_store_blk rfl 45 (.tmp 3) (.tmp 10) rfl g1 (F.cells s1 s2 sd) rfl rfl hb1 103 sizeFile (HSZ.out _ _ _) hzs.out (HON.out _ _ _ _ ha2) ?_; intro w3 hb3 hg3; have hx03 := hx02.grown hg3 (by have := hx1.size; omega))
    | (go_at_call 15; (with_reducible refine (H2.out _ hx03).mono ?_); rintro e w4 ⟨t1, t2, td, rfl, hb4, hx4⟩; have hb34 := hb3.ext hx4; have hx04 := hx03.trans hx4)
    | (show wpList _ _ _ (⟨some 5, _, _, _, _, _⟩ :: _) _ _; refine wpList_alloc_abs' rfl (some 5) rfl 45 rfl _ hZF ?_; intro w5 g2 hb5 hx5 hg2; have hb35 := hb34.ext hx5; have hat5 := hb4.ext hx5; have hx05 := hx04.trans hx5)
    | (show wpList _ _ _ (⟨none, .store _ (.tmp 5) (.tmp 15), _, _, _, _⟩ :: _) _ _; refine wpList_store_blk rfl 45 (.tmp 5) (.tmp 15) rfl g2 (F.cells t1 t2 td) rfl rfl hb5 103 sizeFile (HSZ.out _ _ _) hzs.out (HON.out _ _ _ _ hat5) ?_; intro w6 hb6 hg6; have hb36 := (upd_grown hg6).blk hb35 (fun q => by injection q with q; have := hb34.lt; omega); have hx06 := hx05.grown hg6 (by have := hx04.size; omega))
    | (show wpList _ _ _ (⟨some 17, _, _, _, _, _⟩ :: _) _ _; refine wpList_load_blk rfl 45 (.tmp 3) rfl g1 rfl hb36 _ Try.underlying45 rfl 103 sizeFile (HSZ.out _ _ _) ?_)
    | (show wpList _ _ _ (⟨some 18, _, _, _, _, _⟩ :: _) _ _; refine wpList_load_blk rfl 45 (.tmp 5) rfl g2 rfl hb6 _ Try.underlying45 rfl 103 sizeFile (HSZ.out _ _ _) ?_; have hat6 := ((ha1.ext (hx2.grown hg3 hg1)).ext hx4).ext (hx5.grown hg6 hg2); have hbt6 := hb4.ext (hx5.grown hg6 hg2))
    | (go_at_call 16; (with_reducible refine (HEQ.out _ _ _ _ _ _ _ hat6 hbt6).mono ?_); rintro e w7 ⟨rfl, hx7⟩)
    | (show wpList _ _ _ (⟨some 23, _, _, _, _, _⟩ :: _) _ _; refine wl_run_g (by rfl) (.bool true) (ex_eql rfl rfl rfl (by simp)) ?_)
    | (show wpList _ _ _ (⟨some 26, _, _, _, _, _⟩ :: _) _ _; refine wpList_build0_g (by rfl) 45 rfl _ HBT.out ?_)
    | (go_at_call 17; (with_reducible refine (HCZ.out _).mono ?_); rintro e w8 ⟨rfl, hx8⟩))
  go_ret
  exact ⟨rfl, (hx06.trans hx7).trans hx8⟩
end Go.Proofs.Ytkfdkkhhkciocaa.fileParses
namespace Go.Proofs.Ytkfdkkhhkciocaa
set_option linter.unusedVariables false
set_option linter.unusedSimpArgs false
open Go.RowKit Go.ChangeShapes Go.WideShapes Go.ChangeAt
theorem own : ownKnob Try.prog.godebug = none := by kernel_rfl
theorem laidOut : laidOutB Try.prog = true := by kernel_rfl
section
variable {H : Type} {enc : TypeId × Value → H} {P : Program}
theorem below_trodAll (hl : laidOutB P = true) {W W' : World} (hb : Below W.heap.size W W') : ∀ {ts : List TypeId} {vs : List Value} {ds : List (DataW H)} {ps : List MemPlace},
    (∀ t ∈ ts, P.readableRec t = true ∧ t < P.types.size) → DataW.TrodAll enc P W 0 (fun _ => true) true ts vs ds ps → (∀ x ∈ ps, x.block < W.heap.size) →
    DataW.TrodAll enc P W' 0 (fun b => decide (b < W.heap.size)) true ts vs ds ps
  | [], _, _, _, _, h, _ => by
    obtain ⟨rfl, rfl, rfl⟩ := trodAll_nil h
    exact trodAll_mk0
  | t :: ts, vs, ds, ps, hr, h, hlt => by
    obtain ⟨v, vs1, d, ds1, a, b, rfl, rfl, rfl, h1, h2⟩ := trodAll_cons h
    exact ⟨a, b, Below.trod hl (hr t (by simp)).1 (hr t (by simp)).2 h1 hb (fun x hx => hlt x (by simp [hx])),
      below_trodAll hl hb (fun t ht => hr t (by simp [ht])) h2 (fun x hx => hlt x (by simp [hx])), rfl⟩

/-- a law's row is met: true, and new blocks alone -/
theorem law_post {f : Func} {s : ChangeSpec} {W W' : World} {args : Array Value} {ds gs : List (DataW H)} {before : List MemPlace}
    (hl : laidOutB P = true) (tb : TypeId) (htb : P.underlying tb = some .bool) (hft : f.resultTypes = #[tb]) (hvars : s.vars = [])
    (hr : ∀ t ∈ f.params.toList, P.readableRec t = true ∧ t < P.types.size)
    (hW : DataW.Whole enc P f.params.toList s.vars false W args.toList ds gs before)
    (hfn : s.fn H (ds ++ gs) = { results := [.lit (.bool true)], args := ds })
    (hb : Ext W W') : s.post enc P f false true false false W args (.bool true) W' := by
  have hlt : ∀ p ∈ before, p.block < W.heap.size := fun p hp => by simpa using hW.lt p hp
  have hW' := hW
  obtain ⟨p, q, hA, hV, rfl, hfz, hnd⟩ := hW
  rw [hvars] at hV
  obtain ⟨rfl, rfl⟩ := trodVars_none hV
  simp only [List.append_nil] at hlt hW'
  refine ⟨ds, [], p, [], p, [], hW', ?_, ?_, ?_, ?_, fun h => by cases h⟩
  · rw [hft, hfn]
    exact trodAll_cons_mk (shut_bool htb _) trodAll_mk0
  · rw [hfn]
    exact below_trodAll hl hb hr hA hlt
  · rw [hfn, hvars]
    rfl
  · exact World.keptBut_mono (fun p hp => ⟨hp, Or.inr (Or.inl hp)⟩) (hb.frame (· ∈ p))
end
end Go.Proofs.Ytkfdkkhhkciocaa
