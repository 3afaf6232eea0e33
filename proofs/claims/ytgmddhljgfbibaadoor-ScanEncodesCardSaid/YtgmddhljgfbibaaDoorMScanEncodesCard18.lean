/- Contracts for the law ScanEncodesCard, part 18: what the functions that it reaches answer, for all arguments that the theorems name. -/
import Derived.Test.YtgmddhljgfbibaaDoorMScanEncodesCard16
import Derived.Test.YtgmddhljgfbibaaDoorMScanEncodesCard17
import Derived.Test.YtgmddhljgfbibaaDoorMScanEncodesCard12
import Derived.Test.YtgmddhljgfbibaaDoorMScanEncodesCard7
import Derived.Test.YtgmddhljgfbibaaDoorMScanEncodesCard13
import Derived.Test.YtgmddhljgfbibaaDoorMScanEncodesCard14
import Derived.Test.YtgmddhljgfbibaaDoorMScanEncodesCard3
import Derived.Test.YtgmddhljgfbibaaDoorMScanEncodesCard9
import Derived.Test.YtgmddhljgfbibaaDoorMScanEncodesCard8
/- Stuff and Plain, the program's and the reference's. -/
namespace Go.Proofs.YtgmddhljgfbibaaDoor
set_option linter.unusedVariables false
set_option linter.unusedSimpArgs false
open Go.RowKit
theorem zeroU8 : ((Tryd.prog.info? 5).bind (·.zero)).isSome = true := by kernel_rfl
/-- as ReplIs, in new memory -/
def ReplF (R : List Nat) (w : World) (e : Ending) (w' : World) : Prop := ∃ B k d, e = .returned (.slice B k d) ∧ R.length = k ∧ SL w' 1 (.slice B k d) k (bytesV R) ∧ (B = none → d = 0) ∧ Ext w w' ∧ ∀ ad, B = some ad → w.heap.size ≤ ad.block
theorem wpList_lit2B {ops : Array Oper} {rest : List Oper} {o : Oper} {a : Act} {w : World} {Q : Exit → Act → World → Prop} (hg : o.guard = none) (x y : Operand) (ho : o.op = .buildSlice 22 2 #[(0, x), (1, y)]) (dst : Option Tmp) (hdst : o.dst = dst)
    (m n : Nat) (hx : a.eval x = .int .u8 (m : Int)) (hy : a.eval y = .int .u8 (n : Int))
    (h : ∀ w1 g, Blk w1 g 5 (bytesV [m, n]).toArray → Ext w w1 → w.heap.size ≤ g → wpList Tryd.prog ops Q rest (a.put dst (.slice (some ⟨g, 0, none⟩) 2 2)) w1) : wpList Tryd.prog ops Q (o :: rest) a w := by
  refine Go.Great.wpList_buildSliceTo hg 22 5 2 #[(0, x), (1, y)] ho _ rfl dst hdst Tryd.underlying22 (bytesV [m, n]).toArray ?_ (h _ _ (Blk.new w _ _) ((Ext.refl w).alloc _) (Nat.le_refl _))
  simp only [List.map_toArray, List.map_cons, List.map_nil, hx, hy]
  show _ = _
  kernel_rfl
theorem wpList_lit1B {ops : Array Oper} {rest : List Oper} {o : Oper} {a : Act} {w : World} {Q : Exit → Act → World → Prop} (hg : o.guard = none) (x : Operand) (ho : o.op = .buildSlice 22 1 #[(0, x)]) (dst : Option Tmp) (hdst : o.dst = dst)
    (m : Nat) (hx : a.eval x = .int .u8 (m : Int))
    (h : ∀ w1 g, Blk w1 g 5 (bytesV [m]).toArray → Ext w w1 → w.heap.size ≤ g → wpList Tryd.prog ops Q rest (a.put dst (.slice (some ⟨g, 0, none⟩) 1 1)) w1) : wpList Tryd.prog ops Q (o :: rest) a w :=
  wpList_lit1 hg 22 5 x ho dst hdst Tryd.underlying22 1 sizeU8' zeroU8 _ hx rfl (by omega) (by omega) h
attribute [local irreducible] bytesV replZ stuffZ
theorem replaceAll_any (A : Option Addr) (n c k1 k2 g1 g2 : Nat) (bs o v : List Nat) (m0 : Int) (w : World) (hs : SL w 1 (.slice A n c) n (bytesV bs)) (hA : A = none → c = 0) (hlt : ∀ b ∈ bs, b < 256) (hlo : ∀ b ∈ o, b < 256) (hn : n ≤ 1000000000)
    (ho : o.length = k1) (hk1 : 1 ≤ k1) (hk2 : k1 ≤ 2) (hv : v.length = k2) (hk3 : 1 ≤ k2) (hk4 : k2 ≤ 2) (hbo : Blk w g1 5 (bytesV o).toArray) (hbv : Blk w g2 5 (bytesV v).toArray) (hm : w.cell? ⟨0, 0, none⟩ = some (.int .i64 m0)) :
    Calls Tryd.prog 21 #[.slice A n c, .slice (some ⟨g1, 0, none⟩) k1 k1, .slice (some ⟨g2, 0, none⟩) k2 k2] w (ReplIs (replZ bs o v) w) := by
  have H := hid_ (replace_any A n c k1 k2 g1 g2 bs o v m0 w hs hA hlt hlo hn ho hk1 hk2 hv hk3 hk4 hbo hbv hm)
  generalize replZ bs o v = R at *
  clear hs hlt hlo ho hv hbo hbv hm
  go_enter Tryd.func21, Tryd.ntmps21
  go_wp2_with (go_at_call 53; (with_reducible refine (H.out).mono ?_); rintro e w1 ⟨B, k, d, rfl, h1, h2, h3, h4⟩)
  go_ret
  exact ⟨B, k, d, rfl, h1, h2, h3, h4⟩
theorem cell_keep {w w' : World} {m0 : Int} (hm : w.cell? ⟨0, 0, none⟩ = some (.int .i64 m0)) (hx : Ext w w') : w'.cell? ⟨0, 0, none⟩ = some (.int .i64 m0) := by
  have h00 : 0 < w.heap.size := by
    rcases Nat.eq_zero_or_pos w.heap.size with h | h
    · unfold World.cell? at hm
      rw [Array.getElem?_eq_none (by simp [h])] at hm
      cases hm
    · exact h
  exact (hx.cell (p := ⟨0, 0, none⟩) h00).trans hm
theorem stuff_any (A : Option Addr) (n c : Nat) (bs : List Nat) (m0 : Int) (w : World) (hs : SL w 1 (.slice A n c) n (bytesV bs)) (hA : A = none → c = 0) (hlt : ∀ b ∈ bs, b < 256) (hn : n ≤ 1000000000) (hm : w.cell? ⟨0, 0, none⟩ = some (.int .i64 m0)) :
    Calls Tryd.prog 10 #[.slice A n c] w (ReplIs (stuffZ bs) w) := by
  have H := hid_ (fun W (h : Ext w W) g1 g2 h1 h2 => replaceAll_any A n c 1 2 g1 g2 bs [255] [255, 0] m0 W (hs.ext h) hA hlt (by simp) hn rfl (by omega) (by omega) rfl (by omega) (by omega) h1 h2 (cell_keep hm h))
  rw [stuff_repl bs hlt] at H
  generalize stuffZ bs = R at *
  clear hs hlt hm
  go_enter Tryd.func10, Tryd.ntmps10
  go_wp2_with (first
    | (show wpList _ _ _ (⟨some 4, _, _, _, _, _⟩ :: _) _ _; refine wpList_lit1B rfl _ rfl (some 4) rfl 255 rfl ?_; intro w1 g1 hb1 hx1 hg1)
    | (show wpList _ _ _ (⟨some 5, _, _, _, _, _⟩ :: _) _ _; refine wpList_lit2B rfl _ _ rfl (some 5) rfl 255 0 rfl rfl ?_; intro w2 g2 hb2 hx2 hg2)
    | (go_at_call 21; (with_reducible refine (H.out _ (hx1.trans hx2) _ _ (hb1.ext hx2) hb2).mono ?_); rintro e w3 ⟨B, k, d, rfl, h1, h2, h3, h4⟩))
  go_ret
  exact ⟨B, k, d, rfl, h1, h2, h3, (hx1.trans hx2).trans h4⟩
/-- what Plain hands back -/
def PlIs (z : Option (List Nat)) (w : World) (e : Ending) (w' : World) : Prop :=
  match z with
  | none => e = .returned (.tuple #[.slice none 0 0, .int .i64 4]) ∧ Ext w w'
  | some R => ∃ B k d, e = .returned (.tuple #[.slice B k d, .int .i64 0]) ∧ R.length = k ∧ SL w' 1 (.slice B k d) k (bytesV R) ∧ (B = none → d = 0) ∧ Ext w w'
set_option maxHeartbeats 1000000 in
theorem plain_any (A : Option Addr) (n c : Nat) (bs : List Nat) (m0 : Int) (w : World) (hs : SL w 1 (.slice A n c) n (bytesV bs)) (hA : A = none → c = 0) (hlt : ∀ b ∈ bs, b < 256) (hn : n ≤ 1048576) (hm : w.cell? ⟨0, 0, none⟩ = some (.int .i64 m0)) :
    Calls Tryd.prog 7 #[.slice A n c] w (PlIs (plZ bs) w) := by
  have hl := (sl_len hs).1
  have HSP := split_any bs (.slice A n c) w (by rw [hl]; exact hs) hlt (by omega)
  obtain ⟨k1, k2⟩ := sp_plZ bs [] [] []
  have H := hid_ (fun W (h : Ext w W) g1 g2 h1 h2 => replaceAll_any A n c 2 1 g1 g2 bs [255, 0] [255] m0 W (hs.ext h) hA hlt (by simp) (by omega) rfl (by omega) (by omega) rfl (by omega) (by omega) h1 h2 (cell_keep hm h))
  have hpr := plain_repl bs
  cases hz : plZ bs with
  | none =>
    have k3 := k1 (.inr hz)
    cases hq : spGo bs [] [] [] with
    | none =>
      rw [hq] at HSP
      have HSP := hid_ HSP
      clear hs hlt hm k1 k2 k3 hz hq H hpr
      go_enter Tryd.func7, Tryd.ntmps7
      go_wp2_with (go_at_call 20; (with_reducible refine (HSP.out).mono ?_); rintro e w1 ⟨rfl, hx1⟩)
      refine bodyPost_ret (results_tmp2 rfl _ _ _) rfl ?_
      exact ⟨rfl, hx1⟩
    | some z =>
      obtain ⟨P, M⟩ := z
      have hM := k3 _ hq
      dsimp only at hM
      rw [hq] at HSP
      have HSP := hid_ HSP
      obtain ⟨ml, hml⟩ : ∃ ml, M.length = ml := ⟨_, rfl⟩
      have hml0 : 0 < ml := by rw [← hml]; exact List.length_pos_iff.2 hM
      have HML := hid_ hml
      clear hs hlt hm k1 k2 k3 hz hq H hpr hM hml
      go_enter Tryd.func7, Tryd.ntmps7
      go_wp2_with (go_at_call 20; (with_reducible refine (HSP.out).mono ?_); rintro e w1 ⟨B, b, D, d, VS, rfl, -, -, -, hx1⟩; rw [HML.out])
      refine bodyPost_ret (results_tmp2 rfl _ _ _) rfl ?_
      exact ⟨rfl, hx1⟩
  | some R =>
    obtain ⟨P, hq⟩ := k2 rfl R hz
    rw [hq] at HSP
    have HSP := hid_ HSP
    rw [hpr R hlt hz] at H
    clear hs hlt hm k1 k2 hz hq hpr
    go_enter Tryd.func7, Tryd.ntmps7
    go_wp2_with (first
      | (go_at_call 20; (with_reducible refine (HSP.out).mono ?_); rintro e w1 ⟨B, b, D, d, VS, rfl, -, -, -, hx1⟩; rw [show ([] : List Nat).length = 0 from rfl])
      | (show wpList _ _ _ (⟨some 24, _, _, _, _, _⟩ :: _) _ _; refine wpList_lit2B rfl _ _ rfl (some 24) rfl 255 0 rfl rfl ?_; intro w2 g2 hb2 hx2 hg2)
      | (show wpList _ _ _ (⟨some 25, _, _, _, _, _⟩ :: _) _ _; refine wpList_lit1B rfl _ rfl (some 25) rfl 255 rfl ?_; intro w3 g3 hb3 hx3 hg3; have hx13 := (hx1.trans hx2).trans hx3)
      | (go_at_call 21; (with_reducible refine (H.out _ hx13 _ _ (hb2.ext hx3) hb3).mono ?_); rintro e w4 ⟨B4, k4, d4, rfl, h1, h2, h3, h4⟩))
    refine bodyPost_ret (results_tmp2 rfl _ _ _) rfl ?_
    exact ⟨B4, k4, d4, rfl, h1, h2, h3, hx13.trans h4⟩
theorem stuff_cons (y : Nat) (l : List Nat) : stuffZ (y :: l) = (if y = 255 then [255, 0] else [y]) ++ stuffZ l := by unfold stuffZ; rw [List.flatMap_cons]
set_option maxHeartbeats 1000000 in
theorem rstuff_fresh (A : Option Addr) (n c : Nat) (bs : List Nat) (w : World) (hs : SL w 1 (.slice A n c) n (bytesV bs)) (hlt : ∀ b ∈ bs, b < 256) (hn : n ≤ 1000000000) :
    Calls Tryd.prog 11 #[.slice A n c] w (ReplF (stuffZ bs) w) := by
  have HL := hid_ (sl_len hs).1
  have hc := (sl_len hs).2
  obtain ⟨R, hR⟩ : ∃ R, stuffZ bs = R := ⟨_, rfl⟩
  have HLT := hid_ hlt
  rw [hR]
  have HR0 : Hid ([] ++ stuffZ (bs.drop 0) = R) := hid_ (by rw [List.drop_zero, ← hR]; rfl)
  clear hR hlt
  have hcc : c ≤ 9223372036854775807 := by
    obtain ⟨A', c', e, -, h2, -, -⟩ := hs
    injection e with e1 e2 e3
    omega
  go_enter Tryd.func11, Tryd.ntmps11
  go_wp2_with fail
  go_loopw [3, 8] (fun v iv wr => ∃ (k dl : Nat) (D : List Nat), k ≤ n ∧ dl ≤ 2 * k ∧ iv = .int .i64 (k : Int) ∧ Hid (D.length = dl) ∧ OwnV wr w.heap.size 5 1 v dl (bytesV D) ∧ Ext w wr ∧ Hid (D ++ stuffZ (bs.drop k) = R)) (fun _ i _ => n - (intOf i).toNat)
  case atStart => exact ⟨0, 0, [], by omega, by omega, rfl, hid_ rfl, (by unfold bytesV; exact OwnV.nil _ _ _ _), Ext.refl _, HR0⟩
  case round =>
    clear HR0
    obtain ⟨k, dl, D, hk, hdl, rfl, HD, ⟨B0, d0, rfl, hown⟩, hx, HR⟩ := hrel
    by_cases hlt : k < n
    · obtain ⟨ad, u, rfl, hab, hxk, hcell⟩ := (hs.ext hx).at1 hlt
      obtain ⟨hkl, rfl⟩ := bytes_at hxk
      have hy8 : bs[k] < 256 := HLT.out _ (List.getElem_mem hkl)
      have HR1 : Hid (D ++ ((if bs[k] = 255 then [255, 0] else [bs[k]]) ++ stuffZ (bs.drop (k + 1))) = R) := hid_ (by rw [← HR.out, List.drop_eq_getElem_cons hkl, stuff_cons])
      clear hxk HR
      generalize bs[k] = y at *
      by_cases hy : y = 255
      · have HR2 : Hid ((D ++ [y] ++ [0]) ++ stuffZ (bs.drop (k + 1)) = R) := hid_ (by rw [← HR1.out, if_pos hy, hy]; simp)
        have hyb : ((y : Int) == 255) = true := by simp; omega
        have HYI := hid_ hy
        clear hy HR1
        go_wp2_with (first
          | (show wpList _ _ _ (⟨some 14, _, _, _, _, _⟩ :: _) _ _; refine wpList_lit1B rfl _ rfl (some 14) rfl y rfl ?_; intro w3 g3 hb3 hx3 hg3; have ho3 := own_ext0' hown hx3; have hx3' := hx.trans hx3)
          | (show wpList _ _ _ (⟨some 15, _, _, _, _, _⟩ :: _) _ _; at_builtin; refine wpList_append_slf elt_by rfl (.tmp 12) (.tmp 14) rfl w.heap.size (.slice B0 dl d0) dl (bytesV D) rfl ho3 _ 1 (bytesV [y]) rfl (byte_row rfl hb3) (byteOne _) (by omega) (by omega) hx3'.size ?_; intro A4 c4 w4 ho4 hgr4 hor4; have hx4 := hx3'.grown' hgr4 (fun b hb => (ho3.lt b hb).1))
          | (show wpList _ _ _ (⟨some 19, _, _, _, _, _⟩ :: _) _ _; refine wpList_lit1B rfl _ rfl (some 19) rfl 0 rfl ?_; intro w5 g5 hb5 hx5 hg5; have ho5 := own_ext0' ho4 hx5; have hx5' := hx4.trans hx5)
          | (show wpList _ _ _ (⟨some 20, _, _, _, _, _⟩ :: _) _ _; at_builtin; refine wpList_append_slf elt_by rfl (.tmp 18) (.tmp 19) rfl w.heap.size (.slice A4 (dl + 1) c4) (dl + 1) _ rfl ho5 _ 1 (bytesV [0]) rfl (byte_row rfl hb5) (byteOne _) (by omega) (by omega) hx5'.size ?_; intro A6 c6 w6 ho6 hgr6 hor6; have hx6 := hx5'.grown' hgr6 (fun b hb => (ho5.lt b hb).1)))
        go_roundw
        case rel =>
          refine ⟨k + 1, dl + 1 + 1, D ++ [y] ++ [0], by omega, by omega, by go_num, hid_ (by simp [HD.out]), ⟨A6, c6, rfl, ?_⟩, hx6, HR2⟩
          rw [bytesV_app', bytesV_app']
          exact ho6
        case measure => simp [intOf]; omega
      · have HR2 : Hid ((D ++ [y]) ++ stuffZ (bs.drop (k + 1)) = R) := hid_ (by rw [← HR1.out, if_neg hy]; simp)
        have hyb : ((y : Int) == 255) = false := by simp; omega
        have hyI : ¬ ((y : Int) = 255) := by omega
        clear hy HR1
        go_wp2_with (first
          | (show wpList _ _ _ (⟨some 14, _, _, _, _, _⟩ :: _) _ _; refine wpList_lit1B rfl _ rfl (some 14) rfl y rfl ?_; intro w3 g3 hb3 hx3 hg3; have ho3 := own_ext0' hown hx3; have hx3' := hx.trans hx3)
          | (show wpList _ _ _ (⟨some 15, _, _, _, _, _⟩ :: _) _ _; at_builtin; refine wpList_append_slf elt_by rfl (.tmp 12) (.tmp 14) rfl w.heap.size (.slice B0 dl d0) dl (bytesV D) rfl ho3 _ 1 (bytesV [y]) rfl (byte_row rfl hb3) (byteOne _) (by omega) (by omega) hx3'.size ?_; intro A4 c4 w4 ho4 hgr4 hor4; have hx4 := hx3'.grown' hgr4 (fun b hb => (ho3.lt b hb).1)))
        go_roundw
        case rel =>
          refine ⟨k + 1, dl + 1, D ++ [y], by omega, by omega, by go_num, hid_ (by simp [HD.out]), ⟨A4, c4, rfl, ?_⟩, hx4, HR2⟩
          rw [bytesV_app']
          exact ho4
        case measure => simp [intOf]; omega
    · have hkn : bs.drop k = [] := List.drop_eq_nil_of_le (by rw [HL.out]; omega)
      have HRE : Hid (R = D) := hid_ (by rw [← HR.out, hkn]; unfold stuffZ; simp)
      clear hkn HR
      go_wp2_with fail
      go_ret
      rw [HRE.out]
      obtain ⟨h1, h2⟩ := own_out' hown
      exact ⟨B0, dl, d0, rfl, HD.out, h1, own_none hown, hx, h2⟩
theorem rstuff_any (A : Option Addr) (n c : Nat) (bs : List Nat) (w : World) (hs : SL w 1 (.slice A n c) n (bytesV bs)) (hlt : ∀ b ∈ bs, b < 256) (hn : n ≤ 1000000000) :
    Calls Tryd.prog 11 #[.slice A n c] w (ReplIs (stuffZ bs) w) :=
  (rstuff_fresh A n c bs w hs hlt hn).mono fun e w' h => by
    obtain ⟨B, k, d, h1, h2, h3, h4, h5, -⟩ := h
    exact ⟨B, k, d, h1, h2, h3, h4, h5⟩
end Go.Proofs.YtgmddhljgfbibaaDoor
/- seg.Encode. -/
namespace Go.Proofs.YtgmddhljgfbibaaDoor
set_option linter.unusedVariables false
set_option linter.unusedSimpArgs false
open Go.RowKit
theorem toksAt_len (Z : List Int) (k : Nat) : (toksAt Z k).length ≤ 4034 := by
  unfold toksAt tokensZ
  have h := (accT_bd (tokZ 0 ((zto (blkAt Z k)).getD 0 0 - befAt Z k)) ((zto (blkAt Z k)).drop 1) 63 (by rw [List.length_drop, zto_len]; omega) (by omega)).2
  dsimp only
  split
  · rw [List.length_append, List.length_singleton]; omega
  · omega
theorem flagsAt_mem {Z : List Int} {n k : Nat} : ∀ t ∈ flagsAt Z n k, tokWf t.1 := by
  intro t ht
  unfold flagsAt at ht
  obtain ⟨i, -, ht⟩ := List.mem_flatMap.1 ht
  unfold flagT at ht
  obtain ⟨p, hp, rfl⟩ := List.mem_map.1 ht
  have := List.fst_mem_of_mem_zipIdx hp
  unfold toksAt at this
  exact tokensZ_wf _ _ (zto_len _) _ this
theorem flagsAt_len (Z : List Int) (n : Nat) : (flagsAt Z n 0).length ≤ 4034 * n := by
  unfold flagsAt
  rw [Nat.sub_zero]
  have key : ∀ m k, ((List.range' k m).flatMap fun i => flagT (toksAt Z i)).length ≤ 4034 * m := by
    intro m
    induction m with
    | zero => intro k; simp
    | succ m ih =>
      intro k
      rw [List.range'_succ, List.flatMap_cons, List.length_append, flagT_len]
      have := ih (k + 1)
      have := toksAt_len Z k
      omega
  exact key n 0
theorem encZ_bd {T1 T2 : List Tok} (f1 : FitT T1) (f2 : FitT T2) (n : Nat) (Z : List Int) : (eachZ (encStep T1 T2) n Z []).2.length ≤ 1000000000 := by
  unfold eachZ
  split
  · simp
  · split
    · simp
    · have h1 := encGo_bd f1 f2 (flagsAt Z n 0) [] flagsAt_mem
      have h2 := flagsAt_len Z n
      simp only [List.length_nil] at h1
      omega
/-- what Encode hands back -/
def SegIs (r : Int × List Nat) (w : World) (e : Ending) (w' : World) : Prop :=
  Ext w w' ∧ if r.1 = 0 then ∃ B k d, e = .returned (.tuple #[.slice B k d, .int .i64 0]) ∧ r.2.length = k ∧ SL w' 1 (.slice B k d) k (bytesV r.2) ∧ (B = none → d = 0)
    else e = .returned (.tuple #[.slice none 0 0, .int .i64 r.1])
/-- with good tables -/
def segR (T1 T2 : List Tok) (n : Nat) (Z : List Int) : Int × List Nat := ((eachZ (encStep T1 T2) n Z []).1, stuffZ (packB (padB (eachZ (encStep T1 T2) n Z []).2)))
theorem nilPtrK : (Tryd.prog.info? 51).bind (·.zero) = some (.pointer none) := by kernel_rfl
theorem nilPtrW : (Tryd.prog.info? 54).bind (·.zero) = some (.pointer none) := by kernel_rfl
theorem tblsWhole {t1 t2 : List Value} (h1 : t1.length = 17) (h2 : t2.length = 17) : (t1 ++ t2).toArray.size = 34 := by simp [h1, h2]
theorem builtWr : Tryd.prog.built 57 [] = some #[.slice none 0 0, .int .u64 0, .int .i64 0] := by
  show _ = _
  kernel_rfl
attribute [local irreducible] bytesV stuffZ packB padB eachZ
set_option maxRecDepth 20000 in
set_option maxHeartbeats 2000000 in
theorem segEnc_bad (t1 t2 : List Value) (z1 z2 : Int) (v : Value) (w : World) (h1 : t1.length = 17) (h2 : t2.length = 17)
    (o1 : t1.toArray.all (·.oneCell') = true) (o2 : t2.toArray.all (·.oneCell') = true)
    (C1 : ∀ W, Ext w W → Calls Tryd.prog 48 #[.agg t1.toArray] W fun e W' => e = .returned (.int .i64 z1) ∧ Ext W W')
    (C2 : ∀ W, Ext w W → Calls Tryd.prog 48 #[.agg t2.toArray] W fun e W' => e = .returned (.int .i64 z2) ∧ Ext W W')
    (hne : (if z1 = 0 then z2 else z1) ≠ 0) :
    Calls Tryd.prog 12 #[.agg (t1 ++ t2).toArray, v] w (SegIs (if z1 = 0 then z2 else z1, []) w) := by
  have HM := hid_ (fun W (h : Ext w W) => made_bad t1 t2 z1 z2 W h1 h2 o1 o2 (fun W' h' => C1 W' (h.trans h')) (fun W' h' => C2 W' (h.trans h')) hne)
  have hsz := hid_ (tblsWhole h1 h2)
  generalize (if z1 = 0 then z2 else z1) = R at *
  generalize (t1 ++ t2).toArray = tt at *
  have hxb : (R != 0) = true := by simpa using hne
  have HNE := hid_ hne
  clear C1 C2 hne h1 h2 o1 o2
  go_enter Tryd.func12, Tryd.ntmps12
  go_wp2_with (first
    | (show wpList _ _ _ (⟨some 2, _, _, _, _, _⟩ :: _) _ _; refine wpList_box_abs rfl 34 (.tmp 0) rfl tt rfl ?_; intro w1 g hb1 hx1 hg1)
    | (show wpList _ _ _ (⟨some 10, _, _, _, _, _⟩ :: _) _ _; refine wpList_load_blk rfl 34 (.tmp 2) rfl g rfl hb1 _ Tryd.underlying34 rfl 34 sizeTbls hsz.out ?_)
    | (go_at_call 22; (with_reducible refine (HM.out _ hx1).mono ?_); rintro e w2 ⟨rfl, hx2⟩; have hx2' := hx1.trans hx2)
    | (show wpList _ _ _ (⟨some 6, _, _, _, _, _⟩ :: _) _ _; refine wpList_alloc_abs' rfl (some 6) rfl 51 rfl _ nilPtrK ?_; intro w3 g3 hb3 hx3 hg3; have hx3' := hx2'.trans hx3; have hc3 := hb3.cell 0; have hz3 := hb3.frozen 0))
  refine bodyPost_ret (results_tmp2 rfl _ _ _) rfl ?_
  refine ⟨hx3'.setCell (by have := hx2'.size; simp; omega) _, ?_⟩
  rw [if_neg HNE.out]
  rfl
set_option maxRecDepth 20000 in
set_option maxHeartbeats 4000000 in
theorem segEnc_good (T1 T2 : List Tok) (f1 : FitT T1) (f2 : FitT T2) (t1 t2 : List Value) (A : Option Addr) (n c : Nat) (Z : List Int) (hZ : Z.length = n * 64) (m0 : Int) (w : World) (hs : SL w 64 (.slice A n c) n (ints Z)) (hm : w.cell? ⟨0, 0, none⟩ = some (.int .i64 m0)) (h1 : t1.length = 17) (h2 : t2.length = 17)
    (o1 : t1.toArray.all (·.oneCell') = true) (o2 : t2.toArray.all (·.oneCell') = true)
    (C1 : ∀ W, Ext w W → Calls Tryd.prog 48 #[.agg t1.toArray] W fun e W' => e = .returned (.int .i64 0) ∧ Ext W W')
    (C2 : ∀ W, Ext w W → Calls Tryd.prog 48 #[.agg t2.toArray] W fun e W' => e = .returned (.int .i64 0) ∧ Ext W W')
    (N1 : ∀ W, Ext w W → Calls Tryd.prog 54 #[.agg t1.toArray] W fun e W' => ∃ gc, e = .returned (.pointer (some ⟨gc, 0, none⟩)) ∧ CoderS W' gc T1 ∧ Ext W W')
    (N2 : ∀ W, Ext w W → Calls Tryd.prog 54 #[.agg t2.toArray] W fun e W' => ∃ gc, e = .returned (.pointer (some ⟨gc, 0, none⟩)) ∧ CoderS W' gc T2 ∧ Ext W W') :
    Calls Tryd.prog 12 #[.agg (t1 ++ t2).toArray, .slice A n c] w (SegIs (segR T1 T2 n Z) w) := by
  have HM := hid_ (fun W (h : Ext w W) => made_good T1 T2 t1 t2 W h1 h2 o1 o2 (fun W' h' => C1 W' (h.trans h')) (fun W' h' => C2 W' (h.trans h')) (fun W' h' => N1 W' (h.trans h')) (fun W' h' => N2 W' (h.trans h')))
  have hsz := hid_ (tblsWhole h1 h2)
  have hbd := encZ_bd f1 f2 n Z
  have HEA := hid_ (fun pc pw gk gw gc1 gc2 W0 W F (hsW : SL W 64 (.slice A n c) n (ints Z)) (hI : EncIn pc pw gk gw gc1 gc2 T1 T2 W0 W [] F) (hA : ∀ ad, A = some ad → 0 < n → ¬ F ad.block) =>
    each_any (encEat pc pw gk gw gc1 gc2 T1 T2 f1 f2 W0) A n c Z hZ W hsW [] F hI hA hbd)
  unfold segR
  unfold EachIs at HEA
  have hmf : ∀ (fn : Fn) (first cap : Array Value) (w : World), (Instr.makeFunc fn first cap).run Tryd.prog w = .ok (.func fn first cap) w := fun _ _ _ _ => rfl
  have HSA : Hid (∀ ad, A = some ad → 0 < n → ad.block < w.heap.size) := hid_ (fun ad e h0 => by
    obtain ⟨A', c', e2, -, -, -, h5⟩ := hs
    injection e2 with e3 _ _
    subst e3
    obtain ⟨ad', e4, h6, -⟩ := h5 h0
    rw [e] at e4
    injection e4 with e4
    subst e4
    exact h6)
  generalize eachZ (encStep T1 T2) n Z [] = R at *
  generalize (t1 ++ t2).toArray = tt at *
  obtain ⟨x, L⟩ := R
  dsimp only at HEA hbd ⊢
  have HBY := hid_ (fun gw r W (h : WrS W gw L r) => bytes_anyN gw L r W h (by omega))
  have hpl : (packB (padB L)).length ≤ 1000000000 := by
    rw [packB_len]
    have : (padB L).length ≤ L.length + 7 := by
      unfold padB
      rw [List.length_append, List.length_replicate]
      omega
    omega
  have HLT := hid_ (packB_lt (padB L))
  generalize packB (padB L) = B at *
  have HST := hid_ (fun D d W (h : SL W 1 (.slice D B.length d) B.length (bytesV B)) (hD : D = none → d = 0) (hx : Ext w W) => stuff_any D B.length d B m0 W h hD HLT.out hpl (cell_keep hm hx))
  obtain ⟨bl, hbl⟩ : ∃ k, B.length = k := ⟨_, rfl⟩
  rw [hbl] at HST HBY
  have HS0 := hid_ hs
  clear C1 C2 N1 N2 h1 h2 o1 o2 hs hm hbd hpl hbl hZ
  by_cases hx0 : x = 0
  · subst hx0
    go_enter Tryd.func12, Tryd.ntmps12
    go_wp2_with (first
      | (show wpList _ _ _ (⟨some 2, _, _, _, _, _⟩ :: _) _ _; refine wpList_box_abs rfl 34 (.tmp 0) rfl tt rfl ?_; intro w1 g hb1 hx1 hg1)
      | (show wpList _ _ _ (⟨some 10, _, _, _, _, _⟩ :: _) _ _; refine wpList_load_blk rfl 34 (.tmp 2) rfl g rfl hb1 _ Tryd.underlying34 rfl 34 sizeTbls hsz.out ?_)
      | (go_at_call 22; (with_reducible refine (HM.out _ hx1).mono ?_); rintro e w2 ⟨gk, gc1, gc2, rfl, hk2, hc21, hc22, hx2⟩; have hx2' := hx1.trans hx2)
      | (show wpList _ _ _ (⟨some 6, _, _, _, _, _⟩ :: _) _ _; refine wpList_alloc_abs' rfl (some 6) rfl 51 rfl _ nilPtrK ?_; intro w3 pc hb3 hx3 hg3; have hc3 := hb3.cell 0; have hz3 := hb3.frozen 0; have hx4 : Ext w2 (w3.setCell ⟨pc, 0, none⟩ (.pointer (some ⟨gk, 0, none⟩))) := hx3.setCell hg3 _; have hb4 := hb3.set_ 0 (.pointer (some ⟨gk, 0, none⟩)))
      | (show wpList _ _ _ (⟨some 17, _, _, _, _, _⟩ :: _) _ _; refine wl_run rfl (.agg #[.slice none 0 0, .int .u64 0, .int .i64 0]) (ex_build0 rfl builtWr) ?_)
      | (show wpList _ _ _ (⟨some 18, _, _, _, _, _⟩ :: _) _ _; go_must (refine wpList_box_abs rfl 57 (.tmp 17) rfl #[.slice none 0 0, .int .u64 0, .int .i64 0] rfl ?_; intro w5 gw hb5 hx5 hg5))
      | (show wpList _ _ _ (⟨some 8, _, _, _, _, _⟩ :: _) _ _; go_must (refine wpList_alloc_abs' rfl (some 8) rfl 54 rfl _ nilPtrW ?_; intro w6 pw hb6 hx6 hg6; have hc6 := hb6.cell 0; have hz6 := hb6.frozen 0; have hb7 := hb6.set_ 0 (.pointer (some ⟨gw, 0, none⟩)); have hx7 : Ext (w3.setCell ⟨pc, 0, none⟩ (.pointer (some ⟨gk, 0, none⟩))) (w6.setCell ⟨pw, 0, none⟩ (.pointer (some ⟨gw, 0, none⟩))) := (hx5.trans hx6).setCell (Nat.le_trans hx5.size hg6) _; have hgw : w.heap.size ≤ gw := Nat.le_trans (Nat.le_trans hx2'.size hx4.size) hg5; have hw7 : Ext w (w6.setCell ⟨pw, 0, none⟩ (.pointer (some ⟨gw, 0, none⟩))) := (hx2'.trans hx4).trans hx7; have hI7 : EncIn pc pw gk gw gc1 gc2 T1 T2 (w3.setCell ⟨pc, 0, none⟩ (.pointer (some ⟨gk, 0, none⟩))) (w6.setCell ⟨pw, 0, none⟩ (.pointer (some ⟨gw, 0, none⟩))) [] (fun x => x = gw ∨ (none : Option Nat) = some x) := ⟨hb4, hk2.ext hx4, hc21.ext hx4, hc22.ext hx4, hg5, hx7, hb7, none, (WrS.nil w5 gw hb5).ext (hx6.setCell hg6 _), fun x => Iff.rfl⟩))
      | (go_at_call 23; (with_reducible refine (HEA.out _ _ _ _ _ _ _ _ _ (HS0.out.ext hw7) hI7 (fun ad e h0 k => by have := HSA.out ad e h0; have := hx2'.size; have := hx4.size; rcases k with k | k <;> first | omega | cases k)).mono ?_); rintro e w8 ⟨rfl, hu8, F8, hI8, hF8⟩; have hq8 : w8.cell? ⟨pw, 0, none⟩ = some (.pointer (some ⟨gw, 0, none⟩)) := hI8.q.cell 0; obtain ⟨r8, hr8, hFr8⟩ := hI8.r)
      | (go_at_call 28; (with_reducible refine (HBY.out _ _ _ hr8).mono ?_); rintro e w9 ⟨D, d, rfl, hs9, -, hD9, hu9⟩; have hx9 : Ext w w9 := hu9.ext (hu8.ext hw7 (fun y k => k.elim (fun e => e ▸ hgw) (fun e => by cases e))) (fun y k => k.elim (fun e => e ▸ hgw) (fun e => by have := (hr8.row y e).1; omega)))
      | (go_at_call 10; (with_reducible refine (HST.out _ _ _ hs9 hD9 hx9).mono ?_); rintro e w10 ⟨D10, k10, d10, rfl, h101, h102, h103, hx10⟩))
    refine bodyPost_ret (results_tmp2 rfl _ _ _) rfl ?_
    refine ⟨hx9.trans hx10, ?_⟩
    rw [if_pos rfl]
    exact ⟨D10, k10, d10, rfl, h101, h102, h103⟩
  · have hxb : (x != 0) = true := by simpa using hx0
    have HX0 := hid_ hx0
    clear hx0
    go_enter Tryd.func12, Tryd.ntmps12
    go_wp2_with (first
      | (show wpList _ _ _ (⟨some 2, _, _, _, _, _⟩ :: _) _ _; refine wpList_box_abs rfl 34 (.tmp 0) rfl tt rfl ?_; intro w1 g hb1 hx1 hg1)
      | (show wpList _ _ _ (⟨some 10, _, _, _, _, _⟩ :: _) _ _; refine wpList_load_blk rfl 34 (.tmp 2) rfl g rfl hb1 _ Tryd.underlying34 rfl 34 sizeTbls hsz.out ?_)
      | (go_at_call 22; (with_reducible refine (HM.out _ hx1).mono ?_); rintro e w2 ⟨gk, gc1, gc2, rfl, hk2, hc21, hc22, hx2⟩; have hx2' := hx1.trans hx2)
      | (show wpList _ _ _ (⟨some 6, _, _, _, _, _⟩ :: _) _ _; refine wpList_alloc_abs' rfl (some 6) rfl 51 rfl _ nilPtrK ?_; intro w3 pc hb3 hx3 hg3; have hc3 := hb3.cell 0; have hz3 := hb3.frozen 0; have hx4 : Ext w2 (w3.setCell ⟨pc, 0, none⟩ (.pointer (some ⟨gk, 0, none⟩))) := hx3.setCell hg3 _; have hb4 := hb3.set_ 0 (.pointer (some ⟨gk, 0, none⟩)))
      | (show wpList _ _ _ (⟨some 17, _, _, _, _, _⟩ :: _) _ _; refine wl_run rfl (.agg #[.slice none 0 0, .int .u64 0, .int .i64 0]) (ex_build0 rfl builtWr) ?_)
      | (show wpList _ _ _ (⟨some 18, _, _, _, _, _⟩ :: _) _ _; go_must (refine wpList_box_abs rfl 57 (.tmp 17) rfl #[.slice none 0 0, .int .u64 0, .int .i64 0] rfl ?_; intro w5 gw hb5 hx5 hg5))
      | (show wpList _ _ _ (⟨some 8, _, _, _, _, _⟩ :: _) _ _; go_must (refine wpList_alloc_abs' rfl (some 8) rfl 54 rfl _ nilPtrW ?_; intro w6 pw hb6 hx6 hg6; have hc6 := hb6.cell 0; have hz6 := hb6.frozen 0; have hb7 := hb6.set_ 0 (.pointer (some ⟨gw, 0, none⟩)); have hx7 : Ext (w3.setCell ⟨pc, 0, none⟩ (.pointer (some ⟨gk, 0, none⟩))) (w6.setCell ⟨pw, 0, none⟩ (.pointer (some ⟨gw, 0, none⟩))) := (hx5.trans hx6).setCell (Nat.le_trans hx5.size hg6) _; have hgw : w.heap.size ≤ gw := Nat.le_trans (Nat.le_trans hx2'.size hx4.size) hg5; have hw7 : Ext w (w6.setCell ⟨pw, 0, none⟩ (.pointer (some ⟨gw, 0, none⟩))) := (hx2'.trans hx4).trans hx7; have hI7 : EncIn pc pw gk gw gc1 gc2 T1 T2 (w3.setCell ⟨pc, 0, none⟩ (.pointer (some ⟨gk, 0, none⟩))) (w6.setCell ⟨pw, 0, none⟩ (.pointer (some ⟨gw, 0, none⟩))) [] (fun x => x = gw ∨ (none : Option Nat) = some x) := ⟨hb4, hk2.ext hx4, hc21.ext hx4, hc22.ext hx4, hg5, hx7, hb7, none, (WrS.nil w5 gw hb5).ext (hx6.setCell hg6 _), fun x => Iff.rfl⟩))
      | (go_at_call 23; (with_reducible refine (HEA.out _ _ _ _ _ _ _ _ _ (HS0.out.ext hw7) hI7 (fun ad e h0 k => by have := HSA.out ad e h0; have := hx2'.size; have := hx4.size; rcases k with k | k <;> first | omega | cases k)).mono ?_); rintro e w8 ⟨rfl, hu8, F8, hI8, hF8⟩; have hq8 : w8.cell? ⟨pw, 0, none⟩ = some (.pointer (some ⟨gw, 0, none⟩)) := hI8.q.cell 0; obtain ⟨r8, hr8, hFr8⟩ := hI8.r))
    refine bodyPost_ret (results_tmp2 rfl _ _ _) rfl ?_
    refine ⟨hu8.ext hw7 (fun y k => k.elim (fun e => e ▸ hgw) (fun e => by cases e)), ?_⟩
    rw [if_neg HX0.out]
    rfl
end Go.Proofs.YtgmddhljgfbibaaDoor
/- BlocksCheck of the reference. -/
namespace Go.Proofs.YtgmddhljgfbibaaDoor
set_option linter.unusedVariables false
set_option linter.unusedSimpArgs false
open Go.RowKit
def blocksE (n : Nat) (Z : List Int) : Int := if 400 < n then 2 else if allIn Z (-2047) 2047 = false then 1 else 0
attribute [local irreducible] bv blkAt
set_option maxRecDepth 20000 in
set_option maxHeartbeats 2000000 in
theorem blocksCheck_any (A : Option Addr) (n c : Nat) (Z : List Int) (hZ : Z.length = n * 64) (w : World) (hs : SL w 64 (.slice A n c) n (ints Z)) :
    Calls Tryd.prog 30 #[.slice A n c] w fun e w' => e = .returned (.int .i64 (blocksE n Z)) ∧ Ext w w' := by
  have hs' := hs
  obtain ⟨A', c', he, hnc, hc2, -, -⟩ := hs'
  injection he with he1 he2 he3
  subst he1 he3
  by_cases hn : 400 < n
  · have hR : blocksE n Z = 2 := if_pos hn
    rw [hR]
    clear hR hs
    go_enter Tryd.func30, Tryd.ntmps30
    go_wp2_with fail
    go_ret
    exact ⟨rfl, Ext.refl _⟩
  · have hR : blocksE n Z = if allIn Z (-2047) 2047 = false then 1 else 0 := if_neg hn
    have HR := hid_ hR
    rw [hR] at *
    obtain ⟨R, hRR⟩ : ∃ R : Int, R = if allIn Z (-2047) 2047 = false then 1 else 0 := ⟨_, rfl⟩
    rw [← hRR]
    have HRR := hid_ hRR
    clear hR hRR HR
    have hn4 : n ≤ 400 := by omega
    have HZ := hid_ hZ
    clear hn hZ
    have HAL := hid_ (show (Tryd.prog.info? 43).bind (·.zero) = some (.agg (bv (List.replicate 64 0))) from zero48)
    have hz0 := hid_ (show (Value.agg (bv (List.replicate 64 0))).cells.size = 64 by rw [show (Value.agg (bv (List.replicate 64 0))).cells = bv (List.replicate 64 0) from rfl, bv_size]; rfl)
    generalize bv (List.replicate 64 0) = cz at *
    go_enter Tryd.func30, Tryd.ntmps30
    go_wp2_with fail
    go_loopw [10] (fun i wr => ∃ k : Nat, k ≤ n ∧ i = .int .i64 (k : Int) ∧ Ext w wr ∧ Hid (∀ j, j < k → allIn (blkAt Z j) (-2047) 2047 = true)) (fun i _ => n - (intOf i).toNat)
    case atStart => exact ⟨0, by omega, rfl, Ext.refl w, hid_ (fun j h => by omega)⟩
    case round =>
      obtain ⟨k, hk, rfl, hx, HP⟩ := hrel
      by_cases hlt : k < n
      · obtain ⟨ad, rfl, hab, hca⟩ := (hs.ext hx).part hlt
        have hbl := blkAt_len Z n k HZ.out hlt
        have e : ((ints Z).drop (k * 64)).take 64 = ints (blkAt Z k) := by unfold blkAt; simp [ints, List.map_drop, List.map_take]
        rw [e] at hca
        clear e
        have HCA := hid_ hca
        have HB := hid_ hbl
        have HSZ := hid_ (show (bv (blkAt Z k)).size = 64 by rw [bv_size]; exact hbl)
        have HO1 := hid_ (bv_one (blkAt Z k))
        have HBV := hid_ (bv_out (blkAt Z k))
        have HBW := hid_ (fun W => blockWithin_any (blkAt Z k) (-2047) 2047 W HB.out)
        clear hca hbl
        cases hal : allIn (blkAt Z k) (-2047) 2047 with
        | false =>
          have HRE : Hid (R = 1) := hid_ (by
            rw [HRR.out, if_pos]
            cases hq : allIn Z (-2047) 2047 with
            | false => rfl
            | true => have := (blkAt_in Z n HZ.out).1 hq k hlt; rw [hal] at this; cases this)
          rw [hal] at HBW
          clear hal
          go_wp2_with (first
            | (show wpList _ _ _ (⟨some 13, _, _, _, _, _⟩ :: _) _ _; refine wpList_load_any (by rfl) 43 (.tmp 12) rfl (ad.add (k * 64)) rfl (ints (blkAt Z k)) _ HCA.out Tryd.underlying43 rfl (by rw [ints_len, HB.out]; exact size48) ?_; rw [HBV.out])
            | (show wpList _ _ _ (⟨some 4, _, _, _, _, _⟩ :: _) _ _; refine wpList_alloc_abs' rfl (some 4) rfl 43 rfl _ HAL.out ?_; intro w1 g1 hb1 hx1 hg1)
            | (show wpList _ _ _ (⟨none, .store _ (.tmp 4) (.tmp 13), _, _, _, _⟩ :: _) _ _; refine wpList_store_blk rfl 43 (.tmp 4) (.tmp 13) rfl _ _ rfl rfl hb1 64 size48 HSZ.out hz0.out HO1.out ?_; intro w2 hb2 hg2)
            | (show wpList _ _ _ (⟨some 14, _, _, _, _, _⟩ :: _) _ _; refine wpList_load_blk rfl 43 (.tmp 4) rfl g1 rfl hb2 _ Tryd.underlying43 rfl 64 size48 HSZ.out ?_)
            | (go_at_call 57; (with_reducible refine (HBW.out _).mono ?_); rintro e w3 ⟨rfl, hx3⟩))
          go_ret
          exact ⟨by rw [HRE.out]; rfl, (hx.trans (hx1.grown hg2 hg1)).trans hx3⟩
        | true =>
          have HP' : Hid (∀ j, j < k + 1 → allIn (blkAt Z j) (-2047) 2047 = true) := hid_ (fun j hj => by
            rcases Nat.lt_or_ge j k with h1 | h1
            · exact HP.out j h1
            · obtain rfl : j = k := by omega
              exact hal)
          rw [hal] at HBW
          clear hal HP
          go_wp2_with (first
            | (show wpList _ _ _ (⟨some 13, _, _, _, _, _⟩ :: _) _ _; refine wpList_load_any (by rfl) 43 (.tmp 12) rfl (ad.add (k * 64)) rfl (ints (blkAt Z k)) _ HCA.out Tryd.underlying43 rfl (by rw [ints_len, HB.out]; exact size48) ?_; rw [HBV.out])
            | (show wpList _ _ _ (⟨some 4, _, _, _, _, _⟩ :: _) _ _; refine wpList_alloc_abs' rfl (some 4) rfl 43 rfl _ HAL.out ?_; intro w1 g1 hb1 hx1 hg1)
            | (show wpList _ _ _ (⟨none, .store _ (.tmp 4) (.tmp 13), _, _, _, _⟩ :: _) _ _; refine wpList_store_blk rfl 43 (.tmp 4) (.tmp 13) rfl _ _ rfl rfl hb1 64 size48 HSZ.out hz0.out HO1.out ?_; intro w2 hb2 hg2)
            | (show wpList _ _ _ (⟨some 14, _, _, _, _, _⟩ :: _) _ _; refine wpList_load_blk rfl 43 (.tmp 4) rfl g1 rfl hb2 _ Tryd.underlying43 rfl 64 size48 HSZ.out ?_)
            | (go_at_call 57; (with_reducible refine (HBW.out _).mono ?_); rintro e w3 ⟨rfl, hx3⟩))
          go_roundw
          case rel => exact ⟨k + 1, by omega, by go_num, (hx.trans (hx1.grown hg2 hg1)).trans hx3, HP'⟩
          case measure => simp [intOf]; omega
      · have hkn : k = n := by omega
        have HRE : Hid (R = 0) := hid_ (by rw [HRR.out, if_neg]; rw [(blkAt_in Z n HZ.out).2 (by rw [← hkn]; exact HP.out)]; simp)
        go_wp2_with fail
        go_ret
        exact ⟨by rw [HRE.out]; rfl, hx⟩
end Go.Proofs.YtgmddhljgfbibaaDoor
/- Pieces of a scan, in plain words. -/
namespace Go.Proofs.YtgmddhljgfbibaaDoor
set_option linter.unusedVariables false
set_option linter.unusedSimpArgs false
open Go.RowKit
/-- blocks in a piece -/
def cutE (n e : Nat) : Nat := if e = 0 ∨ n = 0 then n else e
/-- pieces -/
def cutK (n e : Nat) : Nat := if e = 0 ∨ n = 0 then 1 else (n + e - 1) / e
theorem cut_whole {n e : Nat} (h : e = 0 ∨ n = 0) : cutE n e = n ∧ cutK n e = 1 := by unfold cutE cutK; rw [if_pos h, if_pos h]; exact ⟨rfl, rfl⟩
theorem cut_part {n e : Nat} (h : ¬ (e = 0 ∨ n = 0)) : cutE n e = e ∧ cutK n e = (n + e - 1) / e := by unfold cutE cutK; rw [if_neg h, if_neg h]; exact ⟨rfl, rfl⟩
theorem cutK_lt {n e i : Nat} (h : ¬ (e = 0 ∨ n = 0)) : i < cutK n e ↔ i * e < n := by
  have he : 0 < e := by omega
  rw [(cut_part h).2, Nat.lt_div_iff_mul_lt he, Nat.mul_comm]
  omega
theorem cutK_le {n e : Nat} : cutK n e ≤ n + 1 := by
  unfold cutK
  split
  · omega
  · next h =>
    have he : 0 < e := by omega
    rw [Nat.div_le_iff_le_mul_add_pred he]
    have : n ≤ e * n := Nat.le_mul_of_pos_left n he
    rw [Nat.mul_add]
    omega
/-- piece i lies in the slice -/
theorem cut_at {n e i : Nat} (hi : i < cutK n e) : i * cutE n e ≤ n := by
  by_cases h : e = 0 ∨ n = 0
  · rw [(cut_whole h).2] at hi
    obtain rfl : i = 0 := by omega
    simp
  · rw [(cut_part h).1]
    exact Nat.le_of_lt ((cutK_lt h).1 hi)
/-- the pieces as pairs of places, flat -/
def spansL (n e : Nat) : Nat → List Int
  | 0 => []
  | k + 1 => spansL n e k ++ [((k * cutE n e : Nat) : Int), ((min (k * cutE n e + cutE n e) n : Nat) : Int)]
theorem spansL_len (n e : Nat) : ∀ k, (spansL n e k).length = k * 2
  | 0 => rfl
  | k + 1 => by rw [spansL, List.length_append, spansL_len n e k]; simp; omega
theorem spansL_at (n e : Nat) : ∀ (k i : Nat), i < k → ((spansL n e k).drop (i * 2)).take 2 = [((i * cutE n e : Nat) : Int), ((min (i * cutE n e + cutE n e) n : Nat) : Int)]
  | 0, i, h => by omega
  | k + 1, i, h => by
    rw [spansL]
    by_cases hk : i = k
    · subst hk
      rw [List.drop_append_of_le_length (by rw [spansL_len]; omega), List.drop_of_length_le (by rw [spansL_len]; omega)]
      rfl
    · rw [List.drop_append_of_le_length (by rw [spansL_len]; omega), List.take_append_of_le_length (by rw [List.length_drop, spansL_len]; omega)]
      exact spansL_at n e k i (by omega)
/-- the pieces' lengths -/
def partsL (n e : Nat) : Nat → List Int
  | 0 => []
  | k + 1 => partsL n e k ++ [((min (n - k * cutE n e) (cutE n e) : Nat) : Int)]
theorem partsL_len (n e : Nat) : ∀ k, (partsL n e k).length = k
  | 0 => rfl
  | k + 1 => by rw [partsL, List.length_append, partsL_len n e k]; simp
theorem partsL_at (n e : Nat) : ∀ (k i : Nat) (h : i < k), (partsL n e k)[i]'(by rw [partsL_len]; exact h) = ((min (n - i * cutE n e) (cutE n e) : Nat) : Int)
  | 0, i, h => by omega
  | k + 1, i, h => by
    simp only [partsL]
    by_cases hk : i = k
    · subst hk
      rw [List.getElem_append_right (by rw [partsL_len]; omega)]
      simp [partsL_len]
    · rw [List.getElem_append_left (by rw [partsL_len]; omega)]
      exact partsL_at n e k i (by omega)
/-- the mark ahead of piece i -/
def markZ (i : Nat) : List Nat := if i = 0 then [] else [255, 208 + (i - 1) % 8]
/-- blocks of piece i -/
def pieceZ (n e i : Nat) (Z : List Int) : List Int := (Z.drop (i * cutE n e * 64)).take (min (n - i * cutE n e) (cutE n e) * 64)
/-- the pieces from i on, m of them -/
def scanGo (T1 T2 : List Tok) (n e : Nat) (Z : List Int) : Nat → Nat → List Nat → Int × List Nat
  | 0, _, acc => (0, acc)
  | m + 1, i, acc => if (segR T1 T2 (min (n - i * cutE n e) (cutE n e)) (pieceZ n e i Z)).1 ≠ 0 then ((segR T1 T2 (min (n - i * cutE n e) (cutE n e)) (pieceZ n e i Z)).1, []) else scanGo T1 T2 n e Z m (i + 1) (acc ++ markZ i ++ (segR T1 T2 (min (n - i * cutE n e) (cutE n e)) (pieceZ n e i Z)).2)
theorem scanGo_err {T1 T2 : List Tok} {n e : Nat} {Z : List Int} {m i : Nat} {acc : List Nat} {r : Int × List Nat} (hr : segR T1 T2 (min (n - i * cutE n e) (cutE n e)) (pieceZ n e i Z) = r) (h : r.1 ≠ 0) : scanGo T1 T2 n e Z (m + 1) i acc = (r.1, []) := by
  rw [scanGo, hr, if_pos h]
theorem scanGo_ok {T1 T2 : List Tok} {n e : Nat} {Z : List Int} {m i : Nat} {acc : List Nat} {r : Int × List Nat} (hr : segR T1 T2 (min (n - i * cutE n e) (cutE n e)) (pieceZ n e i Z) = r) (h : r.1 = 0) : scanGo T1 T2 n e Z (m + 1) i acc = scanGo T1 T2 n e Z m (i + 1) (acc ++ markZ i ++ r.2) := by
  rw [scanGo, hr, if_neg (by simp [h])]
theorem pieceZ_len {n e i : Nat} {Z : List Int} (hZ : Z.length = n * 64) : (pieceZ n e i Z).length = min (n - i * cutE n e) (cutE n e) * 64 := by
  unfold pieceZ
  rw [List.length_take, List.length_drop, hZ, ← Nat.sub_mul]
  exact Nat.min_eq_left (Nat.mul_le_mul_right _ (Nat.min_le_left _ _))
theorem segR_len {T1 T2 : List Tok} (f1 : FitT T1) (f2 : FitT T2) (n : Nat) (Z : List Int) : (segR T1 T2 n Z).2.length ≤ 1000000000 := by
  unfold segR
  have h := encZ_bd f1 f2 n Z
  generalize (eachZ (encStep T1 T2) n Z []).2 = L at *
  have h1 := stuff_len (packB (padB L))
  rw [packB_len] at h1
  have h2 : (padB L).length ≤ L.length + 8 := by unfold padB; rw [List.length_append, List.length_replicate]; omega
  show (stuffZ (packB (padB L))).length ≤ _
  omega
/-- what Encode of a scan answers for good tables -/
def scanR (T1 T2 : List Tok) (n e : Nat) (Z : List Int) : Int × List Nat := if blocksE n Z ≠ 0 then (blocksE n Z, []) else scanGo T1 T2 n e Z (cutK n e) 0 []
end Go.Proofs.YtgmddhljgfbibaaDoor
/- A slice literal of one block. -/
namespace Go.Proofs.YtgmddhljgfbibaaDoor
set_option linter.unusedVariables false
set_option linter.unusedSimpArgs false
open Go.RowKit
theorem elt_blk : Elt Tryd.prog 35 43 64 512 := ⟨Tryd.underlying35, by kernel_rfl, by decide⟩
theorem zero48' : ((Tryd.prog.info? 43).bind (·.zero)).isSome = true := by rw [zero48]; rfl
theorem blk_sl1 {w : World} {g : Nat} {t : TypeId} {zs : List Int} (h : Blk w g t (bv zs)) (hz : zs.length = 64) : SL w 64 (.slice (some ⟨g, 0, none⟩) 1 1) 1 (ints zs) := by
  have := h.sl (size := 64) (n := 1) (c := 1) (by rw [bv_size, hz]) (by omega) (by omega)
  simpa [bv] using this
end Go.Proofs.YtgmddhljgfbibaaDoor
