/- Contracts for the law FrameDecodesCard, part 29: what the functions that it reaches answer, for all arguments that the theorems name. -/
import Derived.Test.YtkggcjdlpendfaaGreatDoorMFrameDecodesCard28
import Derived.Test.YtkggcjdlpendfaaGreatDoorRows
import Derived.ProofKit
import Derived.OpenShut
import Derived.JoinedCond
import Derived.Test.YtkggcjdlpendfaaGreatDoorMFrameDecodesCard1
import Derived.Test.YtkggcjdlpendfaaGreatDoorCards
import Derived.Test.YtkggcjdlpendfaaGreatDoorTie
import Derived.WalkKit
import Derived.Deep.DeepHandedRow
import Derived.Lib.LaidTab
import Derived.Shelf.Vars
namespace Go.Proofs.YtkggcjdlpendfaaGreatDoor.frameDecodes
set_option linter.unusedVariables false
set_option linter.unusedSimpArgs false
open Go.RowKit
set_option maxRecDepth 20000 in
set_option maxHeartbeats 4000000 in
theorem walk (wd hi pt ev : Int) (qs cs1 xs1 : List Int) (s1 : Value) (cs2 xs2 : List Int) (s2 : Value) (bs : List Nat) (sd : Value) (hq : qs.length = 64) (h1 : cs1.length = 16) (h2 : cs2.length = 16) (hlt : ∀ b ∈ bs, b < 256) (_ : ∀ n c, sd = .slice none n c → c = 0) (m0 : Int) (w : World) (hm : w.cell? ⟨0, 0, none⟩ = some (.int .i64 m0))
 (hs1 : SL w 1 s1 xs1.length (ints xs1)) (hs2 : SL w 1 s2 xs2.length (ints xs2)) (hsd : SL w 1 sd bs.length (bytesV bs)) :
 Calls Tryz.prog 8 #[.agg (fileL wd hi pt qs (tblL cs1 s1) (tblL cs2 s2) ev sd).toArray] w fun e w' => e = .returned (.bool true) ∧ Ext w w' := by
 obtain ⟨n, hn⟩ : ∃ n, bs.length = n := ⟨_, rfl⟩
 have hsd' := hsd
 obtain ⟨A, c, rfl, -, -, -, -⟩ := hsd'
 rw [hn] at hsd ⊢
 obtain ⟨E, wd', hi', L, K1, K2⟩ := frameBoth ⟨wd, hi, pt, qs, cs1, xs1, cs2, xs2, ev, bs⟩ ⟨hq, h1, h2⟩ s1 s2 A n c hn hlt m0 w hm ⟨hs1, hs2, by show SL w 1 _ bs.length _; rw [hn]; exact hsd⟩
 have HK1 := hid_ K1
 have HK2 := hid_ K2
 have hts := hid_ (FC.size (F := ⟨wd, hi, pt, qs, cs1, xs1, cs2, xs2, ev, bs⟩) ⟨hq, h1, h2⟩ s1 s2 (.slice A n c))
 unfold PdIs at HK1 HK2
 have HPE := hid_ (fun B D k d e W h1 h2 => pictureEq_same wd' hi' B D k d e L W h1 h2)
 have HFC := hid_ (fun W => fcheck_zeroP W)
 have HPB := hid_ built0PicS
 have HPSZ := hid_ (fun v => picV_size wd' hi' v)
 have HP1 := hid_ (fun A n c => pic_one wd' hi' A n c)
 have HZP := zeroPicS
 have hz0s : Hid ((Value.agg (picV 0 0 (.slice none 0 0))).cells.size = 3) := hid_ rfl
 have e1 : (E == E) = true := by simp
 show Calls Tryz.prog 8 #[.agg (FC.cells ⟨wd, hi, pt, qs, cs1, xs1, cs2, xs2, ev, bs⟩ s1 s2 (.slice A n c))] w _
 generalize FC.cells ⟨wd, hi, pt, qs, cs1, xs1, cs2, xs2, ev, bs⟩ s1 s2 (.slice A n c) = fv at *
 generalize picV 0 0 (.slice none 0 0) = pz at *
 obtain ⟨pic, hpic⟩ : ∃ pic : Value → Array Value, pic = picV wd' hi' := ⟨_, rfl⟩
 rw [← hpic] at HK1 HK2 HPE HPSZ HP1
 clear K1 K2 hpic hsd hs1 hs2 hn hlt hm hq h1 h2
 go_enter Tryz.func8, Tryz.ntmps8
 go_wp2_with (first
  | ((with_reducible apply gS 1); refine wBox rfl 47 (.tmp 0) rfl fv rfl ?_; intro w1 gf hb1 hx1 hgf)
  | ((with_reducible apply gS 8); refine wLdB rfl 47 (.tmp 1) rfl gf rfl hb1 _ Tryz.underlying47 rfl 103 sizeFile hts.out ?_)
  | (go_at_call 27; (with_reducible refine (HK1.out _ hx1).mono ?_); rintro e w2 ⟨B2, k2, d2, rfl, hr2, hx2⟩; have hb2 := hb1.ext hx2; have hx02 := hx1.trans hx2)
  | ((with_reducible apply gS 3); refine wAlo' rfl (some 3) rfl 31 rfl _ HZP ?_; intro w3 g3 hp3 hx3 hg3)
  | ((with_reducible apply gT 3 10); refine wStB rfl 31 (.tmp 3) (.tmp 10) rfl g3 (pic (.slice B2 k2 d2)) rfl rfl hp3 3 sizePic (HPSZ.out _) hz0s.out (HP1.out _ _ _) ?_; intro w4 hp4 hg4; have hx24 := hx3.grown hg4 hg3; have hb4 := hb2.ext hx24; have hr4 := hr2.ext hx24; have hx04 := hx02.trans hx24)
  | ((with_reducible apply gS 13); refine wLdB rfl 47 (.tmp 1) rfl gf rfl hb4 _ Tryz.underlying47 rfl 103 sizeFile hts.out ?_)
  | (go_at_call 28; (with_reducible refine (HK2.out _ hx04).mono ?_); rintro e w5 ⟨B5, k5, d5, rfl, hr5, hx5⟩; have hp5 := hp4.ext hx5; have hr45 := hr4.ext hx5; have hx05 := hx04.trans hx5)
  | ((with_reducible apply gS 5); refine wAlo' rfl (some 5) rfl 31 rfl _ HZP ?_; intro w6 g6 hp6 hx6 hg6)
  | ((with_reducible apply gT 5 15); refine wStB rfl 31 (.tmp 5) (.tmp 15) rfl g6 (pic (.slice B5 k5 d5)) rfl rfl hp6 3 sizePic (HPSZ.out _) hz0s.out (HP1.out _ _ _) ?_; intro w7 hp7 hg7; have hx57 := hx6.grown hg7 hg6; have hpa := hp5.ext hx57; have hra := hr45.ext hx57; have hrb := hr5.ext hx57; have hx07 := hx05.trans hx57)
  | ((with_reducible apply gS 17); refine wLdB rfl 31 (.tmp 3) rfl g3 rfl hpa _ Tryz.underlying31 rfl 3 sizePic (HPSZ.out _) ?_)
  | ((with_reducible apply gS 18); refine wLdB rfl 31 (.tmp 5) rfl g6 rfl hp7 _ Tryz.underlying31 rfl 3 sizePic (HPSZ.out _) ?_)
  | (go_at_call 25; obtain rfl : k2 = k5 := (hra.len.symm.trans hrb.len); (with_reducible refine (HPE.out _ _ _ _ _ _ hra hrb).mono ?_); rintro e w8 ⟨rfl, hx8⟩)
  | ((with_reducible apply gS 23); refine wl_run_g (by rfl) (.bool true) (ex_eql rfl rfl rfl e1) ?_)
  | ((with_reducible apply gS 26); refine wpList_build0_g (by rfl) 31 rfl _ HPB.out ?_)
  | (go_at_call 29; (with_reducible refine (HFC.out _).mono ?_); rintro e w9 ⟨rfl, hx9⟩))
 go_ret
 exact ⟨rfl, (hx07.trans hx8).trans hx9⟩
end Go.Proofs.YtkggcjdlpendfaaGreatDoor.frameDecodes
namespace Go.Proofs.YtkggcjdlpendfaaGreatDoor
set_option linter.unusedVariables false
set_option linter.unusedSimpArgs false
open Go.RowKit
section
open Go.RowKit Go.ChangeShapes Go.WideShapes Go.ChangeAt
theorem own : ownKnob Tryz.prog.godebug = none := by kernel_rfl
theorem laidOut : laidOutB Tryz.prog = true := by kernel_rfl
section
variable {H : Type} {enc : TypeId × Value → H} {P : Program}
theorem below_trodAll (hl : laidOutB P = true) {W W' : World} (hb : Below W.heap.size W W') : ∀ {ts : List TypeId} {vs : List Value} {ds : List (DataW H)} {ps : List MemPlace},
 (∀ t ∈ ts, P.readableRec t = true ∧ t < P.types.size) → DataW.TrodAll enc P W 0 (fun _ => true) true ts vs ds ps → (∀ x ∈ ps, x.block < W.heap.size) →
 DataW.TrodAll enc P W' 0 (fun b => decide (b < W.heap.size)) true ts vs ds ps
 | [], _, _, _, _, h, _ => by
   obtain ⟨rfl, rfl, rfl⟩ := trodAll_nil h
   exact trodAll_mk0
 | t :: ts, vs, ds, ps, hr, h, hlt => by
   obtain ⟨v, vs1, d, ds1, a, b, rfl, rfl, rfl, h1, h2⟩ := trodAll_cons h
   exact ⟨a, b, Below.trod hl (hr t (by simp)).1 (hr t (by simp)).2 h1 hb (fun x hx => hlt x (by simp [hx])),
    below_trodAll hl hb (fun t ht => hr t (by simp [ht])) h2 (fun x hx => hlt x (by simp [hx])), rfl⟩
theorem law_post {f : Func} {s : ChangeSpec} {W W' : World} {args : Array Value} {ds gs : List (DataW H)} {before : List MemPlace}
 (hl : laidOutB P = true) (tb : TypeId) (htb : P.underlying tb = some .bool) (hft : f.resultTypes = #[tb]) (hvars : s.vars = [])
 (hr : ∀ t ∈ f.params.toList, P.readableRec t = true ∧ t < P.types.size)
 (hW : DataW.Whole enc P f.params.toList s.vars false W args.toList ds gs before)
 (hfn : s.fn H (ds ++ gs) = { results := [.lit (.bool true)], args := ds })
 (hb : Ext W W') : s.post enc P f false true false false W args (.bool true) W' := by
 have hlt : ∀ p ∈ before, p.block < W.heap.size := fun p hp => by simpa using hW.lt p hp
 have hW' := hW
 obtain ⟨p, q, hA, hV, rfl, hfz, hnd⟩ := hW
 rw [hvars] at hV
 obtain ⟨rfl, rfl⟩ := trodVars_none hV
 simp only [List.append_nil] at hlt hW'
 refine ⟨ds, [], p, [], p, [], hW', ?_, ?_, ?_, ?_, fun h => by cases h⟩
 ·rw [hft, hfn]
  exact trodAll_cons_mk (shut_bool htb _) trodAll_mk0
 ·rw [hfn]
  exact below_trodAll hl hb hr hA hlt
 ·rw [hfn, hvars]
  rfl
 ·exact World.keptBut_mono (fun p hp => ⟨hp, Or.inr (Or.inl hp)⟩) (hb.frame (· ∈ p))
end
end
section
open Go.ChangeShapes Go.WideShapes Go.ChangeAt Go.RowKit
theorem maxLen_cell {W : World} (h : W.ShapedOpen Tryz.prog) : ∃ m, W.cell? ⟨0, 0, none⟩ = some (.int .i64 m) :=
 Go.Proofs.cell_of_shapedOpen_int (zero := #[.int .i64 0]) (t := 3) h (of_decide_eq_true (by kernel_rfl)) (by kernel_rfl) rfl (by kernel_rfl) (by kernel_rfl) Tryz.underlying3
def layCells (cs : Array Value) : Obj → Obj
 | .cells _ t frozen => .cells cs t frozen
 | o => o
noncomputable def laidWorld (os : Os) : World :=
 { World.holding Tryz.prog os ⟨#[], #[], []⟩ with
  heap := ((World.holding Tryz.prog os ⟨#[], #[], []⟩).heap.modify 1 (layCells (Go.Pinned.utf8FirstZ.map fun n : Nat => Value.int .u8 n).toArray)).modify 2
   (layCells (([128, 191, 160, 191, 128, 159, 144, 191, 128, 143, 0, 0, 0, 0, 0, 0, 0, 0, 0, 0, 0, 0, 0, 0, 0, 0, 0, 0, 0, 0, 0, 0] : List Nat).map fun n : Nat => Value.int .u8 n).toArray) }
end
end Go.Proofs.YtkggcjdlpendfaaGreatDoor
