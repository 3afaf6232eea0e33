/- Contracts for the law ScanDecodesUptoCard, part 23: what the functions that it reaches answer, for all arguments that the theorems name. -/
import Derived.Test.YtgmddhljgfbibaaGreatDoorMScanDecodesUptoCard18
import Derived.Test.YtgmddhljgfbibaaGreatDoorMScanDecodesUptoCard17
import Derived.Test.YtgmddhljgfbibaaGreatDoorMScanDecodesUptoCard22
import Derived.Test.YtgmddhljgfbibaaGreatDoorMScanDecodesUptoCard16
import Derived.Test.YtgmddhljgfbibaaGreatDoorMScanDecodesUptoCard13
import Derived.Test.YtgmddhljgfbibaaGreatDoorMScanDecodesUptoCard19
import Derived.Test.YtgmddhljgfbibaaGreatDoorMScanDecodesUptoCard12
import Derived.Test.YtgmddhljgfbibaaGreatDoorMScanDecodesUptoCard5
/- seg.Encode. -/
namespace Go.Proofs.YtgmddhljgfbibaaGreatDoor
set_option linter.unusedVariables false
set_option linter.unusedSimpArgs false
open Go.RowKit
theorem toksAt_len (Z : List Int) (k : Nat) : (toksAt Z k).length ≤ 4034 := by
  unfold toksAt tokensZ
  have h := (accT_bd (tokZ 0 ((zto (blkAt Z k)).getD 0 0 - befAt Z k)) ((zto (blkAt Z k)).drop 1) 63 (by rw [List.length_drop, zto_len]; omega) (by omega)).2
  dsimp only
  split
  · rw [List.length_append, List.length_singleton]; omega
  · omega
theorem flagsAt_mem {Z : List Int} {n k : Nat} : ∀ t ∈ flagsAt Z n k, tokWf t.1 := by
  intro t ht
  unfold flagsAt at ht
  obtain ⟨i, -, ht⟩ := List.mem_flatMap.1 ht
  unfold flagT at ht
  obtain ⟨p, hp, rfl⟩ := List.mem_map.1 ht
  have := List.fst_mem_of_mem_zipIdx hp
  unfold toksAt at this
  exact tokensZ_wf _ _ (zto_len _) _ this
theorem flagsAt_len (Z : List Int) (n : Nat) : (flagsAt Z n 0).length ≤ 4034 * n := by
  unfold flagsAt
  rw [Nat.sub_zero]
  have key : ∀ m k, ((List.range' k m).flatMap fun i => flagT (toksAt Z i)).length ≤ 4034 * m := by
    intro m
    induction m with
    | zero => intro k; simp
    | succ m ih =>
      intro k
      rw [List.range'_succ, List.flatMap_cons, List.length_append, flagT_len]
      have := ih (k + 1)
      have := toksAt_len Z k
      omega
  exact key n 0
theorem encZ_bd {T1 T2 : List Tok} (f1 : FitT T1) (f2 : FitT T2) (n : Nat) (Z : List Int) : (eachZ (encStep T1 T2) n Z []).2.length ≤ 1000000000 := by
  unfold eachZ
  split
  · simp
  · split
    · simp
    · have h1 := encGo_bd f1 f2 (flagsAt Z n 0) [] flagsAt_mem
      have h2 := flagsAt_len Z n
      simp only [List.length_nil] at h1
      omega
/-- what Encode hands back -/
def SegIs (r : Int × List Nat) (w : World) (e : Ending) (w' : World) : Prop :=
  Ext w w' ∧ if r.1 = 0 then ∃ B k d, e = .returned (.tuple #[.slice B k d, .int .i64 0]) ∧ r.2.length = k ∧ SL w' 1 (.slice B k d) k (bytesV r.2) ∧ (B = none → d = 0)
    else e = .returned (.tuple #[.slice none 0 0, .int .i64 r.1])
/-- with good tables -/
def segR (T1 T2 : List Tok) (n : Nat) (Z : List Int) : Int × List Nat := ((eachZ (encStep T1 T2) n Z []).1, stuffZ (packB (padB (eachZ (encStep T1 T2) n Z []).2)))
theorem nilPtrK : (Tryz.prog.info? 59).bind (·.zero) = some (.pointer none) := by kernel_rfl
theorem nilPtrW : (Tryz.prog.info? 91).bind (·.zero) = some (.pointer none) := by kernel_rfl
theorem tblsWhole {t1 t2 : List Value} (h1 : t1.length = 17) (h2 : t2.length = 17) : (t1 ++ t2).toArray.size = 34 := by simp [h1, h2]
theorem builtWr : Tryz.prog.built 94 [] = some #[.slice none 0 0, .int .u64 0, .int .i64 0] := by
  show _ = _
  kernel_rfl
attribute [local irreducible] bytesV stuffZ packB padB eachZ
set_option maxRecDepth 20000 in
set_option maxHeartbeats 2000000 in
theorem segEnc_bad (t1 t2 : List Value) (z1 z2 : Int) (v : Value) (w : World) (h1 : t1.length = 17) (h2 : t2.length = 17)
    (o1 : t1.toArray.all (·.oneCell') = true) (o2 : t2.toArray.all (·.oneCell') = true)
    (C1 : ∀ W, Ext w W → Calls Tryz.prog 18 #[.agg t1.toArray] W fun e W' => e = .returned (.int .i64 z1) ∧ Ext W W')
    (C2 : ∀ W, Ext w W → Calls Tryz.prog 18 #[.agg t2.toArray] W fun e W' => e = .returned (.int .i64 z2) ∧ Ext W W')
    (hne : (if z1 = 0 then z2 else z1) ≠ 0) :
    Calls Tryz.prog 21 #[.agg (t1 ++ t2).toArray, v] w (SegIs (if z1 = 0 then z2 else z1, []) w) := by
  have HM := hid_ (fun W (h : Ext w W) => made_bad t1 t2 z1 z2 W h1 h2 o1 o2 (fun W' h' => C1 W' (h.trans h')) (fun W' h' => C2 W' (h.trans h')) hne)
  have hsz := hid_ (tblsWhole h1 h2)
  generalize (if z1 = 0 then z2 else z1) = R at *
  generalize (t1 ++ t2).toArray = tt at *
  have hxb : (R != 0) = true := by simpa using hne
  have HNE := hid_ hne
  clear C1 C2 hne h1 h2 o1 o2
  go_enter Tryz.func21, Tryz.ntmps21
  go_wp2_with (first
    | (show wpList _ _ _ (⟨some 2, _, _, _, _, _⟩ :: _) _ _; refine wpList_box_abs rfl 27 (.tmp 0) rfl tt rfl ?_; intro w1 g hb1 hx1 hg1)
    | (show wpList _ _ _ (⟨some 10, _, _, _, _, _⟩ :: _) _ _; refine wpList_load_blk rfl 27 (.tmp 2) rfl g rfl hb1 _ Tryz.underlying27 rfl 34 sizeTbls hsz.out ?_)
    | (go_at_call 23; (with_reducible refine (HM.out _ hx1).mono ?_); rintro e w2 ⟨rfl, hx2⟩; have hx2' := hx1.trans hx2)
    | (show wpList _ _ _ (⟨some 6, _, _, _, _, _⟩ :: _) _ _; refine wpList_alloc_abs' rfl (some 6) rfl 59 rfl _ nilPtrK ?_; intro w3 g3 hb3 hx3 hg3; have hx3' := hx2'.trans hx3; have hc3 := hb3.cell 0; have hz3 := hb3.frozen 0))
  refine bodyPost_ret (results_tmp2 rfl _ _ _) rfl ?_
  refine ⟨hx3'.setCell (by have := hx2'.size; simp; omega) _, ?_⟩
  rw [if_neg HNE.out]
  rfl
set_option maxRecDepth 20000 in
set_option maxHeartbeats 4000000 in
theorem segEnc_good (T1 T2 : List Tok) (f1 : FitT T1) (f2 : FitT T2) (t1 t2 : List Value) (A : Option Addr) (n c : Nat) (Z : List Int) (hZ : Z.length = n * 64) (m0 : Int) (w : World) (hs : SL w 64 (.slice A n c) n (ints Z)) (hm : w.cell? ⟨0, 0, none⟩ = some (.int .i64 m0)) (h1 : t1.length = 17) (h2 : t2.length = 17)
    (o1 : t1.toArray.all (·.oneCell') = true) (o2 : t2.toArray.all (·.oneCell') = true)
    (C1 : ∀ W, Ext w W → Calls Tryz.prog 18 #[.agg t1.toArray] W fun e W' => e = .returned (.int .i64 0) ∧ Ext W W')
    (C2 : ∀ W, Ext w W → Calls Tryz.prog 18 #[.agg t2.toArray] W fun e W' => e = .returned (.int .i64 0) ∧ Ext W W')
    (N1 : ∀ W, Ext w W → Calls Tryz.prog 49 #[.agg t1.toArray] W fun e W' => ∃ gc, e = .returned (.pointer (some ⟨gc, 0, none⟩)) ∧ CoderS W' gc T1 ∧ Ext W W')
    (N2 : ∀ W, Ext w W → Calls Tryz.prog 49 #[.agg t2.toArray] W fun e W' => ∃ gc, e = .returned (.pointer (some ⟨gc, 0, none⟩)) ∧ CoderS W' gc T2 ∧ Ext W W') :
    Calls Tryz.prog 21 #[.agg (t1 ++ t2).toArray, .slice A n c] w (SegIs (segR T1 T2 n Z) w) := by
  have HM := hid_ (fun W (h : Ext w W) => made_good T1 T2 t1 t2 W h1 h2 o1 o2 (fun W' h' => C1 W' (h.trans h')) (fun W' h' => C2 W' (h.trans h')) (fun W' h' => N1 W' (h.trans h')) (fun W' h' => N2 W' (h.trans h')))
  have hsz := hid_ (tblsWhole h1 h2)
  have hbd := encZ_bd f1 f2 n Z
  have HEA := hid_ (fun pc pw gk gw gc1 gc2 W0 W F (hsW : SL W 64 (.slice A n c) n (ints Z)) (hI : EncIn pc pw gk gw gc1 gc2 T1 T2 W0 W [] F) (hA : ∀ ad, A = some ad → 0 < n → ¬ F ad.block) =>
    each_any (encEat pc pw gk gw gc1 gc2 T1 T2 f1 f2 W0) A n c Z hZ W hsW [] F hI hA hbd)
  unfold segR
  unfold EachIs at HEA
  have hmf : ∀ (fn : Fn) (first cap : Array Value) (w : World), (Instr.makeFunc fn first cap).run Tryz.prog w = .ok (.func fn first cap) w := fun _ _ _ _ => rfl
  have HSA : Hid (∀ ad, A = some ad → 0 < n → ad.block < w.heap.size) := hid_ (fun ad e h0 => by
    obtain ⟨A', c', e2, -, -, -, h5⟩ := hs
    injection e2 with e3 _ _
    subst e3
    obtain ⟨ad', e4, h6, -⟩ := h5 h0
    rw [e] at e4
    injection e4 with e4
    subst e4
    exact h6)
  generalize eachZ (encStep T1 T2) n Z [] = R at *
  generalize (t1 ++ t2).toArray = tt at *
  obtain ⟨x, L⟩ := R
  dsimp only at HEA hbd ⊢
  have HBY := hid_ (fun gw r W (h : WrS W gw L r) => bytes_anyN gw L r W h (by omega))
  have hpl : (packB (padB L)).length ≤ 1000000000 := by
    rw [packB_len]
    have : (padB L).length ≤ L.length + 7 := by
      unfold padB
      rw [List.length_append, List.length_replicate]
      omega
    omega
  have HLT := hid_ (packB_lt (padB L))
  generalize packB (padB L) = B at *
  have HST := hid_ (fun D d W (h : SL W 1 (.slice D B.length d) B.length (bytesV B)) (hD : D = none → d = 0) (hx : Ext w W) => stuff_any D B.length d B m0 W h hD HLT.out hpl (cell_keep hm hx))
  obtain ⟨bl, hbl⟩ : ∃ k, B.length = k := ⟨_, rfl⟩
  rw [hbl] at HST HBY
  have HS0 := hid_ hs
  clear C1 C2 N1 N2 h1 h2 o1 o2 hs hm hbd hpl hbl hZ
  by_cases hx0 : x = 0
  · subst hx0
    go_enter Tryz.func21, Tryz.ntmps21
    go_wp2_with (first
      | (show wpList _ _ _ (⟨some 2, _, _, _, _, _⟩ :: _) _ _; refine wpList_box_abs rfl 27 (.tmp 0) rfl tt rfl ?_; intro w1 g hb1 hx1 hg1)
      | (show wpList _ _ _ (⟨some 10, _, _, _, _, _⟩ :: _) _ _; refine wpList_load_blk rfl 27 (.tmp 2) rfl g rfl hb1 _ Tryz.underlying27 rfl 34 sizeTbls hsz.out ?_)
      | (go_at_call 23; (with_reducible refine (HM.out _ hx1).mono ?_); rintro e w2 ⟨gk, gc1, gc2, rfl, hk2, hc21, hc22, hx2⟩; have hx2' := hx1.trans hx2)
      | (show wpList _ _ _ (⟨some 6, _, _, _, _, _⟩ :: _) _ _; refine wpList_alloc_abs' rfl (some 6) rfl 59 rfl _ nilPtrK ?_; intro w3 pc hb3 hx3 hg3; have hc3 := hb3.cell 0; have hz3 := hb3.frozen 0; have hx4 : Ext w2 (w3.setCell ⟨pc, 0, none⟩ (.pointer (some ⟨gk, 0, none⟩))) := hx3.setCell hg3 _; have hb4 := hb3.set_ 0 (.pointer (some ⟨gk, 0, none⟩)))
      | (show wpList _ _ _ (⟨some 17, _, _, _, _, _⟩ :: _) _ _; refine wl_run rfl (.agg #[.slice none 0 0, .int .u64 0, .int .i64 0]) (ex_build0 rfl builtWr) ?_)
      | (show wpList _ _ _ (⟨some 18, _, _, _, _, _⟩ :: _) _ _; go_must (refine wpList_box_abs rfl 94 (.tmp 17) rfl #[.slice none 0 0, .int .u64 0, .int .i64 0] rfl ?_; intro w5 gw hb5 hx5 hg5))
      | (show wpList _ _ _ (⟨some 8, _, _, _, _, _⟩ :: _) _ _; go_must (refine wpList_alloc_abs' rfl (some 8) rfl 91 rfl _ nilPtrW ?_; intro w6 pw hb6 hx6 hg6; have hc6 := hb6.cell 0; have hz6 := hb6.frozen 0; have hb7 := hb6.set_ 0 (.pointer (some ⟨gw, 0, none⟩)); have hx7 : Ext (w3.setCell ⟨pc, 0, none⟩ (.pointer (some ⟨gk, 0, none⟩))) (w6.setCell ⟨pw, 0, none⟩ (.pointer (some ⟨gw, 0, none⟩))) := (hx5.trans hx6).setCell (Nat.le_trans hx5.size hg6) _; have hgw : w.heap.size ≤ gw := Nat.le_trans (Nat.le_trans hx2'.size hx4.size) hg5; have hw7 : Ext w (w6.setCell ⟨pw, 0, none⟩ (.pointer (some ⟨gw, 0, none⟩))) := (hx2'.trans hx4).trans hx7; have hI7 : EncIn pc pw gk gw gc1 gc2 T1 T2 (w3.setCell ⟨pc, 0, none⟩ (.pointer (some ⟨gk, 0, none⟩))) (w6.setCell ⟨pw, 0, none⟩ (.pointer (some ⟨gw, 0, none⟩))) [] (fun x => x = gw ∨ (none : Option Nat) = some x) := ⟨hb4, hk2.ext hx4, hc21.ext hx4, hc22.ext hx4, hg5, hx7, hb7, none, (WrS.nil w5 gw hb5).ext (hx6.setCell hg6 _), fun x => Iff.rfl⟩))
      | (go_at_call 40; (with_reducible refine (HEA.out _ _ _ _ _ _ _ _ _ (HS0.out.ext hw7) hI7 (fun ad e h0 k => by have := HSA.out ad e h0; have := hx2'.size; have := hx4.size; rcases k with k | k <;> first | omega | cases k)).mono ?_); rintro e w8 ⟨rfl, hu8, F8, hI8, hF8⟩; have hq8 : w8.cell? ⟨pw, 0, none⟩ = some (.pointer (some ⟨gw, 0, none⟩)) := hI8.q.cell 0; obtain ⟨r8, hr8, hFr8⟩ := hI8.r)
      | (go_at_call 47; (with_reducible refine (HBY.out _ _ _ hr8).mono ?_); rintro e w9 ⟨D, d, rfl, hs9, -, hD9, hu9⟩; have hx9 : Ext w w9 := hu9.ext (hu8.ext hw7 (fun y k => k.elim (fun e => e ▸ hgw) (fun e => by cases e))) (fun y k => k.elim (fun e => e ▸ hgw) (fun e => by have := (hr8.row y e).1; omega)))
      | (go_at_call 46; (with_reducible refine (HST.out _ _ _ hs9 hD9 hx9).mono ?_); rintro e w10 ⟨D10, k10, d10, rfl, h101, h102, h103, hx10⟩))
    refine bodyPost_ret (results_tmp2 rfl _ _ _) rfl ?_
    refine ⟨hx9.trans hx10, ?_⟩
    rw [if_pos rfl]
    exact ⟨D10, k10, d10, rfl, h101, h102, h103⟩
  · have hxb : (x != 0) = true := by simpa using hx0
    have HX0 := hid_ hx0
    clear hx0
    go_enter Tryz.func21, Tryz.ntmps21
    go_wp2_with (first
      | (show wpList _ _ _ (⟨some 2, _, _, _, _, _⟩ :: _) _ _; refine wpList_box_abs rfl 27 (.tmp 0) rfl tt rfl ?_; intro w1 g hb1 hx1 hg1)
      | (show wpList _ _ _ (⟨some 10, _, _, _, _, _⟩ :: _) _ _; refine wpList_load_blk rfl 27 (.tmp 2) rfl g rfl hb1 _ Tryz.underlying27 rfl 34 sizeTbls hsz.out ?_)
      | (go_at_call 23; (with_reducible refine (HM.out _ hx1).mono ?_); rintro e w2 ⟨gk, gc1, gc2, rfl, hk2, hc21, hc22, hx2⟩; have hx2' := hx1.trans hx2)
      | (show wpList _ _ _ (⟨some 6, _, _, _, _, _⟩ :: _) _ _; refine wpList_alloc_abs' rfl (some 6) rfl 59 rfl _ nilPtrK ?_; intro w3 pc hb3 hx3 hg3; have hc3 := hb3.cell 0; have hz3 := hb3.frozen 0; have hx4 : Ext w2 (w3.setCell ⟨pc, 0, none⟩ (.pointer (some ⟨gk, 0, none⟩))) := hx3.setCell hg3 _; have hb4 := hb3.set_ 0 (.pointer (some ⟨gk, 0, none⟩)))
      | (show wpList _ _ _ (⟨some 17, _, _, _, _, _⟩ :: _) _ _; refine wl_run rfl (.agg #[.slice none 0 0, .int .u64 0, .int .i64 0]) (ex_build0 rfl builtWr) ?_)
      | (show wpList _ _ _ (⟨some 18, _, _, _, _, _⟩ :: _) _ _; go_must (refine wpList_box_abs rfl 94 (.tmp 17) rfl #[.slice none 0 0, .int .u64 0, .int .i64 0] rfl ?_; intro w5 gw hb5 hx5 hg5))
      | (show wpList _ _ _ (⟨some 8, _, _, _, _, _⟩ :: _) _ _; go_must (refine wpList_alloc_abs' rfl (some 8) rfl 91 rfl _ nilPtrW ?_; intro w6 pw hb6 hx6 hg6; have hc6 := hb6.cell 0; have hz6 := hb6.frozen 0; have hb7 := hb6.set_ 0 (.pointer (some ⟨gw, 0, none⟩)); have hx7 : Ext (w3.setCell ⟨pc, 0, none⟩ (.pointer (some ⟨gk, 0, none⟩))) (w6.setCell ⟨pw, 0, none⟩ (.pointer (some ⟨gw, 0, none⟩))) := (hx5.trans hx6).setCell (Nat.le_trans hx5.size hg6) _; have hgw : w.heap.size ≤ gw := Nat.le_trans (Nat.le_trans hx2'.size hx4.size) hg5; have hw7 : Ext w (w6.setCell ⟨pw, 0, none⟩ (.pointer (some ⟨gw, 0, none⟩))) := (hx2'.trans hx4).trans hx7; have hI7 : EncIn pc pw gk gw gc1 gc2 T1 T2 (w3.setCell ⟨pc, 0, none⟩ (.pointer (some ⟨gk, 0, none⟩))) (w6.setCell ⟨pw, 0, none⟩ (.pointer (some ⟨gw, 0, none⟩))) [] (fun x => x = gw ∨ (none : Option Nat) = some x) := ⟨hb4, hk2.ext hx4, hc21.ext hx4, hc22.ext hx4, hg5, hx7, hb7, none, (WrS.nil w5 gw hb5).ext (hx6.setCell hg6 _), fun x => Iff.rfl⟩))
      | (go_at_call 40; (with_reducible refine (HEA.out _ _ _ _ _ _ _ _ _ (HS0.out.ext hw7) hI7 (fun ad e h0 k => by have := HSA.out ad e h0; have := hx2'.size; have := hx4.size; rcases k with k | k <;> first | omega | cases k)).mono ?_); rintro e w8 ⟨rfl, hu8, F8, hI8, hF8⟩; have hq8 : w8.cell? ⟨pw, 0, none⟩ = some (.pointer (some ⟨gw, 0, none⟩)) := hI8.q.cell 0; obtain ⟨r8, hr8, hFr8⟩ := hI8.r))
    refine bodyPost_ret (results_tmp2 rfl _ _ _) rfl ?_
    refine ⟨hu8.ext hw7 (fun y k => k.elim (fun e => e ▸ hgw) (fun e => by cases e)), ?_⟩
    rw [if_neg HX0.out]
    rfl
end Go.Proofs.YtgmddhljgfbibaaGreatDoor
/- BlocksCheck of the reference. -/
namespace Go.Proofs.YtgmddhljgfbibaaGreatDoor
set_option linter.unusedVariables false
set_option linter.unusedSimpArgs false
open Go.RowKit
def blocksE (n : Nat) (Z : List Int) : Int := if 400 < n then 2 else if allIn Z (-2047) 2047 = false then 1 else 0
end Go.Proofs.YtgmddhljgfbibaaGreatDoor
/- Pieces of a scan, in plain words. -/
namespace Go.Proofs.YtgmddhljgfbibaaGreatDoor
set_option linter.unusedVariables false
set_option linter.unusedSimpArgs false
open Go.RowKit
/-- blocks in a piece -/
def spanE (n e : Nat) : Nat := if e = 0 ∨ n = 0 then n else e
/-- pieces -/
def cutK (n e : Nat) : Nat := if e = 0 ∨ n = 0 then 1 else (n + e - 1) / e
theorem cut_whole {n e : Nat} (h : e = 0 ∨ n = 0) : spanE n e = n ∧ cutK n e = 1 := by unfold spanE cutK; rw [if_pos h, if_pos h]; exact ⟨rfl, rfl⟩
theorem cut_part {n e : Nat} (h : ¬ (e = 0 ∨ n = 0)) : spanE n e = e ∧ cutK n e = (n + e - 1) / e := by unfold spanE cutK; rw [if_neg h, if_neg h]; exact ⟨rfl, rfl⟩
theorem cutK_lt {n e i : Nat} (h : ¬ (e = 0 ∨ n = 0)) : i < cutK n e ↔ i * e < n := by
  have he : 0 < e := by omega
  rw [(cut_part h).2, Nat.lt_div_iff_mul_lt he, Nat.mul_comm]
  omega
theorem cutK_le {n e : Nat} : cutK n e ≤ n + 1 := by
  unfold cutK
  split
  · omega
  · next h =>
    have he : 0 < e := by omega
    rw [Nat.div_le_iff_le_mul_add_pred he]
    have : n ≤ e * n := Nat.le_mul_of_pos_left n he
    rw [Nat.mul_add]
    omega
/-- piece i lies in the slice -/
theorem cut_at {n e i : Nat} (hi : i < cutK n e) : i * spanE n e ≤ n := by
  by_cases h : e = 0 ∨ n = 0
  · rw [(cut_whole h).2] at hi
    obtain rfl : i = 0 := by omega
    simp
  · rw [(cut_part h).1]
    exact Nat.le_of_lt ((cutK_lt h).1 hi)
/-- the pieces as pairs of places, flat -/
def spansL (n e : Nat) : Nat → List Int
  | 0 => []
  | k + 1 => spansL n e k ++ [((k * spanE n e : Nat) : Int), ((min (k * spanE n e + spanE n e) n : Nat) : Int)]
theorem spansL_len (n e : Nat) : ∀ k, (spansL n e k).length = k * 2
  | 0 => rfl
  | k + 1 => by rw [spansL, List.length_append, spansL_len n e k]; simp; omega
theorem spansL_at (n e : Nat) : ∀ (k i : Nat), i < k → ((spansL n e k).drop (i * 2)).take 2 = [((i * spanE n e : Nat) : Int), ((min (i * spanE n e + spanE n e) n : Nat) : Int)]
  | 0, i, h => by omega
  | k + 1, i, h => by
    rw [spansL]
    by_cases hk : i = k
    · subst hk
      rw [List.drop_append_of_le_length (by rw [spansL_len]; omega), List.drop_of_length_le (by rw [spansL_len]; omega)]
      rfl
    · rw [List.drop_append_of_le_length (by rw [spansL_len]; omega), List.take_append_of_le_length (by rw [List.length_drop, spansL_len]; omega)]
      exact spansL_at n e k i (by omega)
/-- the pieces' lengths -/
def partsL (n e : Nat) : Nat → List Int
  | 0 => []
  | k + 1 => partsL n e k ++ [((min (n - k * spanE n e) (spanE n e) : Nat) : Int)]
theorem partsL_len (n e : Nat) : ∀ k, (partsL n e k).length = k
  | 0 => rfl
  | k + 1 => by rw [partsL, List.length_append, partsL_len n e k]; simp
theorem partsL_at (n e : Nat) : ∀ (k i : Nat) (h : i < k), (partsL n e k)[i]'(by rw [partsL_len]; exact h) = ((min (n - i * spanE n e) (spanE n e) : Nat) : Int)
  | 0, i, h => by omega
  | k + 1, i, h => by
    simp only [partsL]
    by_cases hk : i = k
    · subst hk
      rw [List.getElem_append_right (by rw [partsL_len]; omega)]
      simp [partsL_len]
    · rw [List.getElem_append_left (by rw [partsL_len]; omega)]
      exact partsL_at n e k i (by omega)
/-- the mark ahead of piece i -/
def markZ (i : Nat) : List Nat := if i = 0 then [] else [255, 208 + (i - 1) % 8]
/-- blocks of piece i -/
def pieceZ (n e i : Nat) (Z : List Int) : List Int := (Z.drop (i * spanE n e * 64)).take (min (n - i * spanE n e) (spanE n e) * 64)
/-- the pieces from i on, m of them -/
def scanGo (T1 T2 : List Tok) (n e : Nat) (Z : List Int) : Nat → Nat → List Nat → Int × List Nat
  | 0, _, acc => (0, acc)
  | m + 1, i, acc => if (segR T1 T2 (min (n - i * spanE n e) (spanE n e)) (pieceZ n e i Z)).1 ≠ 0 then ((segR T1 T2 (min (n - i * spanE n e) (spanE n e)) (pieceZ n e i Z)).1, []) else scanGo T1 T2 n e Z m (i + 1) (acc ++ markZ i ++ (segR T1 T2 (min (n - i * spanE n e) (spanE n e)) (pieceZ n e i Z)).2)
theorem scanGo_err {T1 T2 : List Tok} {n e : Nat} {Z : List Int} {m i : Nat} {acc : List Nat} {r : Int × List Nat} (hr : segR T1 T2 (min (n - i * spanE n e) (spanE n e)) (pieceZ n e i Z) = r) (h : r.1 ≠ 0) : scanGo T1 T2 n e Z (m + 1) i acc = (r.1, []) := by
  rw [scanGo, hr, if_pos h]
theorem scanGo_ok {T1 T2 : List Tok} {n e : Nat} {Z : List Int} {m i : Nat} {acc : List Nat} {r : Int × List Nat} (hr : segR T1 T2 (min (n - i * spanE n e) (spanE n e)) (pieceZ n e i Z) = r) (h : r.1 = 0) : scanGo T1 T2 n e Z (m + 1) i acc = scanGo T1 T2 n e Z m (i + 1) (acc ++ markZ i ++ r.2) := by
  rw [scanGo, hr, if_neg (by simp [h])]
theorem pieceZ_len {n e i : Nat} {Z : List Int} (hZ : Z.length = n * 64) : (pieceZ n e i Z).length = min (n - i * spanE n e) (spanE n e) * 64 := by
  unfold pieceZ
  rw [List.length_take, List.length_drop, hZ, ← Nat.sub_mul]
  exact Nat.min_eq_left (Nat.mul_le_mul_right _ (Nat.min_le_left _ _))
theorem segR_len {T1 T2 : List Tok} (f1 : FitT T1) (f2 : FitT T2) (n : Nat) (Z : List Int) : (segR T1 T2 n Z).2.length ≤ 1000000000 := by
  unfold segR
  have h := encZ_bd f1 f2 n Z
  generalize (eachZ (encStep T1 T2) n Z []).2 = L at *
  have h1 := stuff_len (packB (padB L))
  rw [packB_len] at h1
  have h2 : (padB L).length ≤ L.length + 8 := by unfold padB; rw [List.length_append, List.length_replicate]; omega
  show (stuffZ (packB (padB L))).length ≤ _
  omega
/-- what Encode of a scan answers for good tables -/
def scanR (T1 T2 : List Tok) (n e : Nat) (Z : List Int) : Int × List Nat := if blocksE n Z ≠ 0 then (blocksE n Z, []) else scanGo T1 T2 n e Z (cutK n e) 0 []
end Go.Proofs.YtgmddhljgfbibaaGreatDoor
/- Decoding a scan, in plain words. -/
namespace Go.Proofs.YtgmddhljgfbibaaGreatDoor
set_option linter.unusedVariables false
set_option linter.unusedSimpArgs false
open Go.RowKit
/-- every piece is no longer than the bytes, and of bytes -/
theorem sp_mem {B : Nat} : ∀ (r : List Nat) (P : List (List Nat)) (M c : List Nat) (z : List (List Nat) × List Nat), spGo r P M c = some z → (∀ p ∈ P, p.length ≤ B ∧ ∀ b ∈ p, b < 256) → c.length + r.length ≤ B → (∀ b ∈ c, b < 256) → (∀ b ∈ r, b < 256) → ∀ p ∈ z.1, p.length ≤ B ∧ ∀ b ∈ p, b < 256
  | [], P, M, c, z, h, hP, hB, hc, hr => by
    simp [spGo] at h
    subst h
    intro p hp
    rcases List.mem_append.1 hp with hp | hp
    · exact hP p hp
    · simp at hp; subst hp; exact ⟨by simpa using hB, hc⟩
  | [x], P, M, c, z, h, hP, hB, hc, hr => by
    simp only [spGo] at h
    split at h
    · cases h
    · simp at h
      subst h
      intro p hp
      rcases List.mem_append.1 hp with hp | hp
      · exact hP p hp
      · simp at hp
        subst hp
        refine ⟨by simpa using hB, fun b hb => ?_⟩
        rcases List.mem_append.1 hb with hb | hb
        · exact hc b hb
        · simp at hb; subst hb; exact hr b (by simp)
  | x :: y :: r, P, M, c, z, h, hP, hB, hc, hr => by
    simp only [spGo] at h
    simp only [List.length_cons] at hB
    split at h
    · split at h
      · cases h
      · split at h
        · refine sp_mem r P M (c ++ [255, 0]) z h hP (by simp; omega) (fun b hb => ?_) (fun b hb => hr b (by simp [hb]))
          rcases List.mem_append.1 hb with hb | hb
          · exact hc b hb
          · simp at hb; omega
        · refine sp_mem r (P ++ [c]) (M ++ [y]) [] z h (fun p hp => ?_) (by simp; omega) (by simp) (fun b hb => hr b (by simp [hb]))
          rcases List.mem_append.1 hp with hp | hp
          · exact hP p hp
          · simp at hp; subst hp; exact ⟨by omega, hc⟩
    · refine sp_mem (y :: r) P M (c ++ [x]) z h hP (by simp; omega) (fun b hb => ?_) (fun b hb => hr b (List.mem_cons_of_mem _ hb))
      rcases List.mem_append.1 hb with hb | hb
      · exact hc b hb
      · simp at hb; subst hb; exact hr b (by simp)
/-- the marks in their order -/
def marksOk : List Nat → Nat → Bool
  | [], _ => true
  | m :: r, i => decide (m = 208 + i % 8) && marksOk r (i + 1)
theorem marksOk_at {M : List Nat} {i : Nat} (h : i < M.length) : marksOk (M.drop i) i = (decide (M[i] = 208 + i % 8) && marksOk (M.drop (i + 1)) (i + 1)) := by
  rw [List.drop_eq_getElem_cons h, marksOk]
theorem marksOk_end {M : List Nat} {i : Nat} (h : M.length ≤ i) : marksOk (M.drop i) i = true := by
  rw [List.drop_of_length_le h, marksOk]
/-- blocks of piece i -/
def lenAt (n e i : Nat) : Nat := min (n - i * spanE n e) (spanE n e)
/-- what Whole answers beside the pieces -/
def wholeE (n e : Nat) (P : List (List Nat)) (M : List Nat) : Int := if P.length ≠ cutK n e then 4 else if marksOk M 0 then 0 else 6
/-- pieces from i on, m of them -/
def sdGo (T1 T2 : List Tok) (n e : Nat) (P : List (List Nat)) : Nat → Nat → List Int → Int × List Int
  | 0, _, acc => (0, acc)
  | m + 1, i, acc => if (decR true T1 T2 ((lenAt n e i : Nat) : Int) (plZ (P.getD i []))).1 ≠ 0 then ((decR true T1 T2 ((lenAt n e i : Nat) : Int) (plZ (P.getD i []))).1, []) else sdGo T1 T2 n e P m (i + 1) (acc ++ (decR true T1 T2 ((lenAt n e i : Nat) : Int) (plZ (P.getD i []))).2)
theorem sdGo_err {T1 T2 : List Tok} {n e : Nat} {P : List (List Nat)} {m i : Nat} {acc : List Int} {r : Int × List Int} (hr : decR true T1 T2 ((lenAt n e i : Nat) : Int) (plZ (P.getD i [])) = r) (h : r.1 ≠ 0) : sdGo T1 T2 n e P (m + 1) i acc = (r.1, []) := by
  rw [sdGo, hr, if_pos h]
theorem sdGo_ok {T1 T2 : List Tok} {n e : Nat} {P : List (List Nat)} {m i : Nat} {acc : List Int} {r : Int × List Int} (hr : decR true T1 T2 ((lenAt n e i : Nat) : Int) (plZ (P.getD i [])) = r) (h : r.1 = 0) : sdGo T1 T2 n e P (m + 1) i acc = sdGo T1 T2 n e P m (i + 1) (acc ++ r.2) := by
  rw [sdGo, hr, if_neg (by simp [h])]
theorem decR_len {r : Bool} {T1 T2 : List Tok} {N : Nat} {z : Option (List Nat)} (h : (decR r T1 T2 (N : Int) z).1 = 0) : (decR r T1 T2 (N : Int) z).2.length = N * 64 := by
  unfold decR at h ⊢
  split at h
  · cases h
  · next hn =>
    rw [if_neg hn]
    cases z with
    | none => cases h
    | some pb =>
      dsimp only at h ⊢
      rw [Int.toNat_natCast] at h ⊢
      unfold segFin at h ⊢
      split at h
      · next h1 => exact absurd h h1
      · next h1 =>
        rw [if_neg h1]
        split at h
        · cases h
        · next h2 =>
          rw [if_neg h2]
          have := segGo_len (next := segNext r T1 T2 (digsOf pb)) N 0 0 [] 0 rfl (by simpa using h1)
          simpa using this
/-- what Decode of a scan answers for good tables -/
def scanDecR (T1 T2 : List Tok) (n e : Nat) (bs : List Nat) : Int × List Int :=
  match spGo bs [] [] [] with
  | none => (4, [])
  | some (P, M) => if wholeE n e P M ≠ 0 then (wholeE n e P M, []) else sdGo T1 T2 n e P (cutK n e) 0 []
end Go.Proofs.YtgmddhljgfbibaaGreatDoor
/- scan.Mark; scan.Encode with a range that may not be. -/
namespace Go.Proofs.YtgmddhljgfbibaaGreatDoor
set_option linter.unusedVariables false
set_option linter.unusedSimpArgs false
open Go.RowKit
set_option maxRecDepth 20000 in
theorem mark_any (p : Nat) (hp : p ≤ 100000000) (w : World) : Calls Tryz.prog 20 #[.int .i64 (p : Int)] w fun e w' => e = .returned (.int .i64 ((208 + p % 8 : Nat) : Int)) ∧ w = w' := by
  obtain ⟨m, hm⟩ : ∃ m, p % 8 = m := ⟨_, rfl⟩
  rw [hm]
  have HM := hid_ hm
  have hm8 : m < 8 := by omega
  clear hm
  obtain ⟨q, hq⟩ : ∃ q, 208 + m = q := ⟨_, rfl⟩
  have HQ := hid_ hq
  rw [hq]
  clear hq
  go_enter Tryz.func20, Tryz.ntmps20
  go_wp2_with (first
    | (show wpList _ _ _ (⟨some 4, _, _, _, _, _⟩ :: _) _ _; refine wl_run rfl (.int .i64 (m : Int)) (by rw [← HM.out]; exact ex_remN (i := p) (d := 8) rfl rfl rfl (by omega) (by omega)) ?_)
    | (show wpList _ _ _ (⟨some 5, _, _, _, _, _⟩ :: _) _ _; refine wl_run rfl (.int .i64 (q : Int)) (by rw [← HQ.out]; exact ex_addN (i := 208) (d := m) rfl rfl rfl (by omega)) ?_))
  go_ret
  exact ⟨rfl, rfl⟩
set_option maxRecDepth 20000 in
theorem scanEnc_range (tt : Array Value) (v : Value) (nn : Int) (w : World) (h : nn < 0 ∨ 100 < nn) : Calls Tryz.prog 7 #[.agg tt, v, .int .i64 nn] w (SegIs (1, []) w) := by
  by_cases h0 : nn < 0
  · clear h
    go_enter Tryz.func7, Tryz.ntmps7
    go_wp2_with (first
      | (show wpList _ _ _ (⟨some 3, _, _, _, _, _⟩ :: _) _ _; refine wpList_box_abs rfl 27 (.tmp 0) rfl tt rfl ?_; intro w1 g hb1 hx1 hg))
    refine bodyPost_ret (results_tmp2 rfl _ _ _) rfl ?_
    refine ⟨hx1, ?_⟩
    rw [if_neg (show ¬ (1 : Int) = 0 by decide)]
    rfl
  · have h4 : 100 < nn := h.resolve_left h0
    clear h
    go_enter Tryz.func7, Tryz.ntmps7
    go_wp2_with (first
      | (show wpList _ _ _ (⟨some 3, _, _, _, _, _⟩ :: _) _ _; refine wpList_box_abs rfl 27 (.tmp 0) rfl tt rfl ?_; intro w1 g hb1 hx1 hg))
    refine bodyPost_ret (results_tmp2 rfl _ _ _) rfl ?_
    refine ⟨hx1, ?_⟩
    rw [if_neg (show ¬ (1 : Int) = 0 by decide)]
    rfl
end Go.Proofs.YtgmddhljgfbibaaGreatDoor
/- A slice literal of one block. -/
namespace Go.Proofs.YtgmddhljgfbibaaGreatDoor
set_option linter.unusedVariables false
set_option linter.unusedSimpArgs false
open Go.RowKit
theorem elt_blk : Elt Tryz.prog 29 37 64 512 := ⟨Tryz.underlying29, by kernel_rfl, by decide⟩
theorem zero48' : ((Tryz.prog.info? 37).bind (·.zero)).isSome = true := by rw [zero48]; rfl
theorem blk_sl1 {w : World} {g : Nat} {t : TypeId} {zs : List Int} (h : Blk w g t (bv zs)) (hz : zs.length = 64) : SL w 64 (.slice (some ⟨g, 0, none⟩) 1 1) 1 (ints zs) := by
  have := h.sl (size := 64) (n := 1) (c := 1) (by rw [bv_size, hz]) (by omega) (by omega)
  simpa [bv] using this
end Go.Proofs.YtgmddhljgfbibaaGreatDoor
/- scan.Spans. -/
namespace Go.Proofs.YtgmddhljgfbibaaGreatDoor
set_option linter.unusedVariables false
set_option linter.unusedSimpArgs false
open Go.RowKit
theorem elt_span : Elt Tryz.prog 45 48 2 16 := ⟨Tryz.underlying45, by kernel_rfl, by omega⟩
theorem sizeSpan : (Tryz.prog.info? 48).map (·.size) = some 2 := by kernel_rfl
theorem zeroSpan : (Tryz.prog.info? 48).bind (·.zero) = some (.agg (bv [0, 0])) := by kernel_rfl
theorem zeroSpan' : ((Tryz.prog.info? 48).bind (·.zero)).isSome = true := by rw [zeroSpan]; rfl
theorem builtSpan (x y : Int) : Tryz.prog.built 48 [(0, .int .i64 x), (1, .int .i64 y)] = some (bv [x, y]) := by
  show _ = _
  kernel_rfl
theorem blk_slG {w : World} {g sz : Nat} {t : TypeId} {zs : List Int} (h : Blk w g t (bv zs)) (hz : zs.length = sz) : SL w sz (.slice (some ⟨g, 0, none⟩) 1 1) 1 (ints zs) := by
  have := h.sl (size := sz) (n := 1) (c := 1) (by rw [bv_size, hz]; omega) (by omega) (by omega)
  simpa [bv] using this
attribute [local irreducible] bv spansL spanE cutK
set_option maxRecDepth 20000 in
set_option maxHeartbeats 2000000 in
theorem spans_any (n e : Nat) (hn : n ≤ 1000000) (he : e ≤ 1000000) (w : World) :
    Calls Tryz.prog 13 #[.int .i64 (n : Int), .int .i64 (e : Int)] w fun en w' => ∃ B d, en = .returned (.slice B (cutK n e) d) ∧ SL w' 2 (.slice B (cutK n e) d) (cutK n e) (ints (spansL n e (cutK n e))) ∧ Ext w w' := by
  by_cases h : e = 0 ∨ n = 0
  · obtain ⟨hE, hK⟩ := cut_whole h
    have hL : spansL n e 1 = [0, (n : Int)] := by
      simp only [spansL, List.nil_append, hE]
      simp
    rw [hK, hL]
    have hs : Hid ((bv [0, (n : Int)]).size = 2) := hid_ (by rw [bv_size]; rfl)
    clear hE hK hL
    by_cases h0 : e = 0
    · have H8 : Hid (decide ((e : Int) = 0) = true) := hid_ (by rw [decide_eq_true_eq]; omega)
      clear h h0
      go_enter Tryz.func13, Tryz.ntmps13
      go_wp2_with (first
        | (show wpList _ _ _ (⟨some 8, _, _, _, _, _⟩ :: _) _ _; refine wl_run rfl (.bool true) (ex_eql rfl rfl rfl H8.out) ?_)
        | (show wpList _ _ _ (⟨some 14, _, _, _, _, _⟩ :: _) _ _; refine wl_run rfl (.agg (bv [0, (n : Int)])) (ex_build2 rfl rfl rfl (builtSpan _ _)) ?_)
        | (show wpList _ _ _ (⟨some 15, _, _, _, _, _⟩ :: _) _ _; refine wpList_lit1 rfl 45 48 (.tmp 14) rfl (some 15) rfl Tryz.underlying45 2 sizeSpan zeroSpan' _ rfl hs.out (by omega) (by omega) ?_; intro w1 g hb1 hx1 hg1))
      go_ret
      exact ⟨_, _, rfl, blk_slG hb1 rfl, hx1⟩
    · have H8 : Hid (decide ((e : Int) = 0) = false) := hid_ (by rw [decide_eq_false_iff_not]; omega)
      have H11 : Hid (decide ((n : Int) = 0) = true) := hid_ (by rw [decide_eq_true_eq]; omega)
      clear h h0
      go_enter Tryz.func13, Tryz.ntmps13
      go_wp2_with (first
        | (show wpList _ _ _ (⟨some 8, _, _, _, _, _⟩ :: _) _ _; refine wl_run rfl (.bool false) (ex_eql rfl rfl rfl H8.out) ?_)
        | (show wpList _ _ _ (⟨some 11, _, _, _, _, _⟩ :: _) _ _; refine wl_run_g (by rfl) (.bool true) (ex_eql rfl rfl rfl H11.out) ?_)
        | (show wpList _ _ _ (⟨some 14, _, _, _, _, _⟩ :: _) _ _; refine wl_run rfl (.agg (bv [0, (n : Int)])) (ex_build2 rfl rfl rfl (builtSpan _ _)) ?_)
        | (show wpList _ _ _ (⟨some 15, _, _, _, _, _⟩ :: _) _ _; refine wpList_lit1 rfl 45 48 (.tmp 14) rfl (some 15) rfl Tryz.underlying45 2 sizeSpan zeroSpan' _ rfl hs.out (by omega) (by omega) ?_; intro w1 g hb1 hx1 hg1))
      go_ret
      exact ⟨_, _, rfl, blk_slG hb1 rfl, hx1⟩
  · have HE := hid_ (cut_part h).1
    have HLT := hid_ (fun i => cutK_lt (i := i) h)
    have HKL := hid_ (cutK_le (n := n) (e := e))
    have HE0 : Hid (0 < e) := hid_ (by omega)
    have H8 : Hid (decide ((e : Int) = 0) = false) := hid_ (by rw [decide_eq_false_iff_not]; omega)
    have H11 : Hid (decide ((n : Int) = 0) = false) := hid_ (by rw [decide_eq_false_iff_not]; omega)
    have how : OwnV w w.heap.size 48 2 (.slice none 0 0) 0 (ints (spansL n e 0)) := by
      have h0 : spansL n e 0 = [] := by unfold spansL; rfl
      rw [h0]
      exact OwnV.nil _ _ _ _
    have hn' := hn
    clear h
    obtain ⟨K, hK⟩ : ∃ K, cutK n e = K := ⟨_, rfl⟩
    rw [hK] at HLT HKL ⊢
    clear hK
    go_enter Tryz.func13, Tryz.ntmps13
    go_wp2_with (first
      | (show wpList _ _ _ (⟨some 8, _, _, _, _, _⟩ :: _) _ _; refine wl_run rfl (.bool false) (ex_eql rfl rfl rfl H8.out) ?_)
      | (show wpList _ _ _ (⟨some 11, _, _, _, _, _⟩ :: _) _ _; refine wl_run_g (by rfl) (.bool false) (ex_eql rfl rfl rfl H11.out) ?_))
    go_loopw [5, 6] (fun x iv wr => ∃ (k p : Nat), Hid (p = k * e ∧ k ≤ K) ∧ p ≤ n + e ∧ iv = .int .i64 (p : Int) ∧ OwnV wr w.heap.size 48 2 x k (ints (spansL n e k)) ∧ Ext w wr) (fun _ i _ => n + e - (intOf i).toNat)
    case atStart => exact ⟨0, 0, hid_ (by omega), by omega, rfl, how, Ext.refl _⟩
    case round =>
      clear how
      obtain ⟨k, p, HP, hpn, rfl, ⟨OA, oc, rfl, hown⟩, hx⟩ := hrel
      by_cases hlt : p < n
      · obtain ⟨p2, hp2⟩ : ∃ q, p + e = q := ⟨_, rfl⟩
        obtain ⟨mn, hmn⟩ : ∃ q, min p2 n = q := ⟨_, rfl⟩
        have hs : Hid ((bv [(p : Int), (mn : Int)]).size = 2) := hid_ (by rw [bv_size]; rfl)
        have hk1 : k < K := by have h1 := HP.out; exact (HLT.out k).2 (by rw [← h1.1]; exact hlt)
        have hk2 : k ≤ 1000001 := by have h1 := HKL.out; omega
        have HNX : Hid (spansL n e (k + 1) = spansL n e k ++ [(p : Int), (mn : Int)]) := hid_ (by
          have h1 := HP.out
          have h2 : k * spanE n e = p := by rw [HE.out, h1.1]
          rw [spansL, h2, HE.out, hp2, hmn])
        have HP2 : Hid (p2 = (k + 1) * e ∧ k + 1 ≤ K) := hid_ (by have h1 := HP.out; rw [Nat.succ_mul, ← h1.1]; omega)
        have HPP := hid_ hp2
        have hp3 : p < p2 := by have := HE0.out; omega
        have hp4 : p2 ≤ n + e := by omega
        clear hp2
        go_wp2_with (first
          | (show wpList _ _ _ (⟨some 26, _, _, _, _, _⟩ :: _) _ _; refine wl_run rfl (.int .i64 (p2 : Int)) (by rw [← HPP.out]; exact ex_addN (i := p) (d := e) rfl rfl rfl (by omega)) ?_)
          | (show wpList _ _ _ (⟨some 28, _, _, _, _, _⟩ :: _) _ _; refine wl_run rfl (.int .i64 (mn : Int)) (by rw [← hmn]; exact ex_minN (i := p2) (d := n) rfl rfl rfl) ?_)
          | (show wpList _ _ _ (⟨some 29, _, _, _, _, _⟩ :: _) _ _; refine wl_run rfl (.agg (bv [(p : Int), (mn : Int)])) (ex_build2 rfl rfl rfl (builtSpan _ _)) ?_)
          | (show wpList _ _ _ (⟨some 30, _, _, _, _, _⟩ :: _) _ _; refine wpList_lit1 rfl 45 48 (.tmp 29) rfl (some 30) rfl Tryz.underlying45 2 sizeSpan zeroSpan' _ rfl hs.out (by omega) (by omega) ?_; intro w1 g hb1 hx1 hg1; have ho1 := own_keep hown hx1)
          | (show wpList _ _ _ (⟨some 31, _, _, _, _, _⟩ :: _) _ _; at_builtin; refine wpList_append_slf elt_span rfl (.tmp 22) (.tmp 30) rfl w.heap.size (.slice OA k oc) k (ints (spansL n e k)) rfl ho1 _ 1 (ints [(p : Int), (mn : Int)]) rfl (blk_slG hb1 rfl) (ints_one_mem _) (by omega) (by omega) (by have := hx.size; have := hx1.size; omega) ?_; intro A4 c4 w4 ho4 hgr4 hor4; have hx4 := (hx.trans hx1).grown' hgr4 (fun b hb => (ho1.lt b hb).1))
          | (show wpList _ _ _ (⟨some 21, _, _, _, _, _⟩ :: _) _ _; refine wl_run rfl (.int .i64 (p2 : Int)) (by rw [← HPP.out]; exact ex_addN (i := p) (d := e) rfl rfl rfl (by omega)) ?_))
        go_roundw
        case rel => exact ⟨k + 1, p2, HP2, hp4, rfl, ⟨A4, c4, rfl, by rw [HNX.out, ints_app]; exact ho4⟩, hx4⟩
        case measure => simp [intOf]; omega
      · have hk : k = K := by
          have h1 := HP.out
          have h2 : ¬ k < K := fun h => hlt (by rw [h1.1]; exact (HLT.out k).1 h)
          omega
        subst hk
        go_wp2_with fail
        go_ret
        exact ⟨_, _, rfl, (own_out hown).1, hx⟩
end Go.Proofs.YtgmddhljgfbibaaGreatDoor
