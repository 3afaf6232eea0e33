/- Contracts for the law StuffTellsUptoCard, part 11: what the functions that it reaches answer, for all arguments that the theorems name. -/
import Derived.Test.YtgmddhljgfbibaaDoorMStuffTellsUptoCard10
import Derived.Test.YtgmddhljgfbibaaDoorMStuffTellsUptoCard6
import Derived.Test.YtgmddhljgfbibaaDoorMStuffTellsUptoCard8
import Derived.Test.YtgmddhljgfbibaaDoorMStuffTellsUptoCard9
import Derived.Test.YtgmddhljgfbibaaDoorMStuffTellsUptoCard4
import Derived.Test.YtgmddhljgfbibaaDoorMStuffTellsUptoCard5
import Derived.Test.YtgmddhljgfbibaaDoorRows
import Derived.Test.YtgmddhljgfbibaaDoorMStuffTellsUptoCard1
import Derived.ProofKit
import Derived.OpenShut
import Derived.JoinedCond
import Derived.Test.YtgmddhljgfbibaaDoorCards
import Derived.Test.YtgmddhljgfbibaaDoorTie
import Derived.WalkKit
import Derived.Deep.DeepHandedRow
import Derived.Lib.LaidTab
import Derived.Shelf.Vars
/- bytesOf of the reference; Eq of bytes. -/
namespace Go.Proofs.YtgmddhljgfbibaaDoor
set_option linter.unusedVariables false
set_option linter.unusedSimpArgs false
open Go.RowKit
theorem Ext.grown' {a w w' : World} (h : Ext a w) {row : Option Nat} (hg : w.grownBy w' row) (hB : ∀ b, row = some b → a.heap.size ≤ b) : Ext a w' :=
  Below.grown h hg h.size (fun k hk => hB k hk)
def strLen : Value → Nat
  | .string b => b.size
  | _ => 0
theorem strB_one (l : List Bool) : strB (l ++ [true]) = strB l ++ ⟨#[49]⟩ := by rw [strB_append]; rfl
theorem replicate_snoc (L : List Bool) (j : Nat) : L ++ List.replicate (j + 1) true = (L ++ List.replicate j true) ++ [true] := by
  rw [List.replicate_succ', List.append_assoc]
theorem packB_take' (R : List Bool) (j : Nat) (h : j < R.length / 8) : (packB R).take (j + 1) = (packB R).take j ++ [numB ((R.drop (8 * j)).take 8)] := by
  rw [List.take_succ_eq_append_getElem (by rw [packB_len]; exact h)]
  simp [packB]
set_option maxRecDepth 20000 in
set_option maxHeartbeats 1000000 in
theorem bytesOf_any (L : List Bool) (w : World) (hl : L.length ≤ 1000000000) :
    Calls Tryd.prog 35 #[.string (strB L)] w fun e w' => ∃ A c, e = .returned (.slice A (packB (padB L)).length c) ∧ SL w' 1 (.slice A (packB (padB L)).length c) (packB (padB L)).length (bytesV (packB (padB L))) ∧ Ext w w' := by
  have HP : Hid (padB L = L ++ List.replicate ((8 - L.length % 8) % 8) true) := hid_ rfl
  have HPL := hid_ (padB_len L)
  have HPL2 : Hid ((padB L).length = L.length + (8 - L.length % 8) % 8) := hid_ (by simp [padB])
  generalize hP : padB L = P at *
  go_enter Tryd.func35, Tryd.ntmps35
  go_wp2_with fail
  go_loop [0] (fun s => ∃ j : Nat, j ≤ (8 - L.length % 8) % 8 ∧ s = .string (strB (L ++ List.replicate j true))) (fun s => (8 - strLen s % 8) % 8)
  case atStart => exact ⟨0, by omega, by simp⟩
  case round =>
    obtain ⟨j, hj, rfl⟩ := hrel
    have hsz : (strB (L ++ List.replicate j true)).size = L.length + j := by rw [strB_size]; simp
    have HS1 := hid_ (strB_one (L ++ List.replicate j true))
    have HRS := hid_ (replicate_snoc L j)
    have HSZ := hid_ hsz
    by_cases hlt : j < (8 - L.length % 8) % 8
    · generalize strB (L ++ List.replicate j true) = sb at *
      have hm : ((sb.size : Int) % 8 != 0) = true := by simp; omega
      have hlim : ¬ 9223372036854775807 < sb.size + 1 := by omega
      clear hsz
      go_wp2_with fail
      go_round
      case rel => exact ⟨j + 1, by omega, by rw [HRS.out, HS1.out]⟩
      case measure =>
        have := HSZ.out
        have h2 : (sb ++ (⟨#[49]⟩ : ByteArray)).size = sb.size + 1 := by rw [ByteArray.size_append]; rfl
        simp [strLen, h2]
        omega
    · have hjj : j = (8 - L.length % 8) % 8 := by omega
      rw [hjj, ← HP.out] at hsz ⊢
      have HX := hid_ (fun i j h => strB_extract P i j h)
      have HPK := hid_ (packB_len P)
      have HTK := hid_ (packB_take' P)
      have HPT := hid_ (fun (T : Nat) (h : P.length / 8 ≤ T) => (List.take_of_length_le (by rw [packB_len]; exact h) : (packB P).take T = packB P))
      have hm : ((L.length + (8 - L.length % 8) % 8 : Nat) : Int) % 8 = 0 := by omega
      rw [hjj] at HSZ
      rw [← HP.out] at HSZ
      generalize hn : L.length + (8 - L.length % 8) % 8 = n at *
      have hn8 : n % 8 = 0 := by omega
      have hnb : n ≤ 2000000000 := by omega
      have HPn : Hid (P.length = n) := hid_ HPL2.out
      generalize strB P = sb at *
      have hm2 : ((sb.size : Int) % 8 != 0) = false := by rw [hsz]; simp; omega
      have hszle : sb.size ≤ 2000000000 := by omega
      have hszn := hid_ hsz
      clear hsz hm hn hjj hlt hj HS1 HRS HSZ
      go_wp2_with fail
      go_loopw [3, 4] (fun v i wr => ∃ j : Nat, j ≤ n / 8 ∧ i = .int .i64 ((8 * j : Nat) : Int) ∧ OwnV wr w.heap.size 5 1 v j (bytesV ((packB P).take j)) ∧ Ext w wr) (fun _ i _ => n - (intOf i).toNat)
      case atStart => exact ⟨0, by omega, rfl, OwnV.nil _ _ _ _, Ext.refl _⟩
      case round =>
        obtain ⟨j, hj, rfl, ⟨B0, d0, rfl, hown⟩, hx⟩ := hrel
        by_cases hlt : j < n / 8
        · have hd : decide (((8 * j : Nat) : Int) < (sb.size : Int)) = true := by have := hszn.out; simp; omega
          have hi8 : 8 * j + 8 ≤ sb.size := by have := hszn.out; omega
          have HTJ := hid_ (HTK.out j (by rw [HPn.out]; omega))
          have hblen : ((P.drop (8 * j)).take 8).length ≤ 8 := List.length_take_le _ _
          have hy : numB ((P.drop (8 * j)).take 8) < 256 := by have := numB_le _ 8 hblen; simpa using this
          have HFB : Hid (∀ W, Calls Tryd.prog 46 #[.string (sb.extract (8 * j) (8 * j + 8))] W fun e w' => e = .returned (.int .i64 (numB ((P.drop (8 * j)).take 8) : Nat)) ∧ Ext W w') := hid_ (fun W => by
            rw [HX.out (8 * j) (8 * j + 8) (by omega), show 8 * j + 8 - 8 * j = 8 by omega]
            exact fromBin_any _ W (by omega))
          generalize numB ((P.drop (8 * j)).take 8) = y at *
          clear hblen
          go_wp2_with (first
            | (go_at_call 46; (with_reducible refine (HFB.out _).mono ?_); rintro e w5 ⟨rfl, hx5⟩)
            | (at_builtin; go_must (refine wpList_append_slf elt_u8 rfl _ _ rfl w.heap.size (.slice B0 j d0) _ _ rfl ((own_ext0' hown hx5).alloc _) _ 1 [.int .u8 _] rfl (one_sl _ _ _) (u8_one _) (by omega) (by omega) (by have := hx.size; have := hx5.size; simp; omega) ?_); intro A7 c7 w7 hown7 hg7 hrow7))
          go_roundw
          case rel =>
            refine ⟨j + 1, by omega, vint (by omega), ⟨A7, c7, rfl, ?_⟩, ((hx.trans hx5).alloc _).grown' hg7 ?_⟩
            · rw [HTJ.out, bytesV_snoc]
              exact hown7
            · intro b hb
              exact (hown.lt b hb).1
          case measure => simp [intOf]; omega
        · have ej : j = n / 8 := by omega
          rw [ej] at hown ⊢
          have hge : sb.size ≤ 8 * (n / 8) := by have := hszn.out; omega
          have HF := hid_ (HPT.out (n / 8) (by rw [HPn.out]; exact Nat.le_refl _))
          rw [HF.out] at hown
          have HPK' : Hid ((packB P).length = n / 8) := hid_ (by rw [HPK.out, HPn.out])
          generalize n / 8 = m at *
          go_wp2_with fail
          go_ret
          obtain ⟨h1, h2⟩ := own_out' hown
          rw [HPK'.out]
          exact ⟨B0, d0, rfl, h1, hx⟩
theorem rbytes_len (l : List Nat) : (bytesV l).length = l.length := bytesV_len l
end Go.Proofs.YtgmddhljgfbibaaDoor
/- Stuff and Plain, the program's and the reference's. -/
namespace Go.Proofs.YtgmddhljgfbibaaDoor
set_option linter.unusedVariables false
set_option linter.unusedSimpArgs false
open Go.RowKit
theorem zeroU8 : ((Tryd.prog.info? 5).bind (·.zero)).isSome = true := by kernel_rfl
theorem wpList_lit2B {ops : Array Oper} {rest : List Oper} {o : Oper} {a : Act} {w : World} {Q : Exit → Act → World → Prop} (hg : o.guard = none) (x y : Operand) (ho : o.op = .buildSlice 22 2 #[(0, x), (1, y)]) (dst : Option Tmp) (hdst : o.dst = dst)
    (m n : Nat) (hx : a.eval x = .int .u8 (m : Int)) (hy : a.eval y = .int .u8 (n : Int))
    (h : ∀ w1 g, Blk w1 g 5 (bytesV [m, n]).toArray → Ext w w1 → w.heap.size ≤ g → wpList Tryd.prog ops Q rest (a.put dst (.slice (some ⟨g, 0, none⟩) 2 2)) w1) : wpList Tryd.prog ops Q (o :: rest) a w := by
  refine Go.Great.wpList_buildSliceTo hg 22 5 2 #[(0, x), (1, y)] ho _ rfl dst hdst Tryd.underlying22 (bytesV [m, n]).toArray ?_ (h _ _ (Blk.new w _ _) ((Ext.refl w).alloc _) (Nat.le_refl _))
  simp only [List.map_toArray, List.map_cons, List.map_nil, hx, hy]
  show _ = _
  kernel_rfl
theorem wpList_lit1B {ops : Array Oper} {rest : List Oper} {o : Oper} {a : Act} {w : World} {Q : Exit → Act → World → Prop} (hg : o.guard = none) (x : Operand) (ho : o.op = .buildSlice 22 1 #[(0, x)]) (dst : Option Tmp) (hdst : o.dst = dst)
    (m : Nat) (hx : a.eval x = .int .u8 (m : Int))
    (h : ∀ w1 g, Blk w1 g 5 (bytesV [m]).toArray → Ext w w1 → w.heap.size ≤ g → wpList Tryd.prog ops Q rest (a.put dst (.slice (some ⟨g, 0, none⟩) 1 1)) w1) : wpList Tryd.prog ops Q (o :: rest) a w :=
  wpList_lit1 hg 22 5 x ho dst hdst Tryd.underlying22 1 sizeU8' zeroU8 _ hx rfl (by omega) (by omega) h
attribute [local irreducible] bytesV replZ stuffZ
theorem replaceAll_any (A : Option Addr) (n c k1 k2 g1 g2 : Nat) (bs o v : List Nat) (m0 : Int) (w : World) (hs : SL w 1 (.slice A n c) n (bytesV bs)) (hA : A = none → c = 0) (hlt : ∀ b ∈ bs, b < 256) (hlo : ∀ b ∈ o, b < 256) (hn : n ≤ 1000000000)
    (ho : o.length = k1) (hk1 : 1 ≤ k1) (hk2 : k1 ≤ 2) (hv : v.length = k2) (hk3 : 1 ≤ k2) (hk4 : k2 ≤ 2) (hbo : Blk w g1 5 (bytesV o).toArray) (hbv : Blk w g2 5 (bytesV v).toArray) (hm : w.cell? ⟨0, 0, none⟩ = some (.int .i64 m0)) :
    Calls Tryd.prog 21 #[.slice A n c, .slice (some ⟨g1, 0, none⟩) k1 k1, .slice (some ⟨g2, 0, none⟩) k2 k2] w (ReplIs (replZ bs o v) w) := by
  have H := hid_ (replace_any A n c k1 k2 g1 g2 bs o v m0 w hs hA hlt hlo hn ho hk1 hk2 hv hk3 hk4 hbo hbv hm)
  generalize replZ bs o v = R at *
  clear hs hlt hlo ho hv hbo hbv hm
  go_enter Tryd.func21, Tryd.ntmps21
  go_wp2_with (go_at_call 53; (with_reducible refine (H.out).mono ?_); rintro e w1 ⟨B, k, d, rfl, h1, h2, h3, h4⟩)
  go_ret
  exact ⟨B, k, d, rfl, h1, h2, h3, h4⟩
theorem cell_keep {w w' : World} {m0 : Int} (hm : w.cell? ⟨0, 0, none⟩ = some (.int .i64 m0)) (hx : Ext w w') : w'.cell? ⟨0, 0, none⟩ = some (.int .i64 m0) := by
  have h00 : 0 < w.heap.size := by
    rcases Nat.eq_zero_or_pos w.heap.size with h | h
    · unfold World.cell? at hm
      rw [Array.getElem?_eq_none (by simp [h])] at hm
      cases hm
    · exact h
  exact (hx.cell (p := ⟨0, 0, none⟩) h00).trans hm
theorem stuff_any (A : Option Addr) (n c : Nat) (bs : List Nat) (m0 : Int) (w : World) (hs : SL w 1 (.slice A n c) n (bytesV bs)) (hA : A = none → c = 0) (hlt : ∀ b ∈ bs, b < 256) (hn : n ≤ 1000000000) (hm : w.cell? ⟨0, 0, none⟩ = some (.int .i64 m0)) :
    Calls Tryd.prog 10 #[.slice A n c] w (ReplIs (stuffZ bs) w) := by
  have H := hid_ (fun W (h : Ext w W) g1 g2 h1 h2 => replaceAll_any A n c 1 2 g1 g2 bs [255] [255, 0] m0 W (hs.ext h) hA hlt (by simp) hn rfl (by omega) (by omega) rfl (by omega) (by omega) h1 h2 (cell_keep hm h))
  rw [stuff_repl bs hlt] at H
  generalize stuffZ bs = R at *
  clear hs hlt hm
  go_enter Tryd.func10, Tryd.ntmps10
  go_wp2_with (first
    | (show wpList _ _ _ (⟨some 4, _, _, _, _, _⟩ :: _) _ _; refine wpList_lit1B rfl _ rfl (some 4) rfl 255 rfl ?_; intro w1 g1 hb1 hx1 hg1)
    | (show wpList _ _ _ (⟨some 5, _, _, _, _, _⟩ :: _) _ _; refine wpList_lit2B rfl _ _ rfl (some 5) rfl 255 0 rfl rfl ?_; intro w2 g2 hb2 hx2 hg2)
    | (go_at_call 21; (with_reducible refine (H.out _ (hx1.trans hx2) _ _ (hb1.ext hx2) hb2).mono ?_); rintro e w3 ⟨B, k, d, rfl, h1, h2, h3, h4⟩))
  go_ret
  exact ⟨B, k, d, rfl, h1, h2, h3, (hx1.trans hx2).trans h4⟩
/-- what Plain hands back -/
def PlIs (z : Option (List Nat)) (w : World) (e : Ending) (w' : World) : Prop :=
  match z with
  | none => e = .returned (.tuple #[.slice none 0 0, .int .i64 4]) ∧ Ext w w'
  | some R => ∃ B k d, e = .returned (.tuple #[.slice B k d, .int .i64 0]) ∧ R.length = k ∧ SL w' 1 (.slice B k d) k (bytesV R) ∧ (B = none → d = 0) ∧ Ext w w'
set_option maxHeartbeats 1000000 in
theorem plain_any (A : Option Addr) (n c : Nat) (bs : List Nat) (m0 : Int) (w : World) (hs : SL w 1 (.slice A n c) n (bytesV bs)) (hA : A = none → c = 0) (hlt : ∀ b ∈ bs, b < 256) (hn : n ≤ 1048576) (hm : w.cell? ⟨0, 0, none⟩ = some (.int .i64 m0)) :
    Calls Tryd.prog 7 #[.slice A n c] w (PlIs (plZ bs) w) := by
  have hl := (sl_len hs).1
  have HSP := split_any bs (.slice A n c) w (by rw [hl]; exact hs) hlt (by omega)
  obtain ⟨k1, k2⟩ := sp_plZ bs [] [] []
  have H := hid_ (fun W (h : Ext w W) g1 g2 h1 h2 => replaceAll_any A n c 2 1 g1 g2 bs [255, 0] [255] m0 W (hs.ext h) hA hlt (by simp) (by omega) rfl (by omega) (by omega) rfl (by omega) (by omega) h1 h2 (cell_keep hm h))
  have hpr := plain_repl bs
  cases hz : plZ bs with
  | none =>
    have k3 := k1 (.inr hz)
    cases hq : spGo bs [] [] [] with
    | none =>
      rw [hq] at HSP
      have HSP := hid_ HSP
      clear hs hlt hm k1 k2 k3 hz hq H hpr
      go_enter Tryd.func7, Tryd.ntmps7
      go_wp2_with (go_at_call 20; (with_reducible refine (HSP.out).mono ?_); rintro e w1 ⟨rfl, hx1⟩)
      refine bodyPost_ret (results_tmp2 rfl _ _ _) rfl ?_
      exact ⟨rfl, hx1⟩
    | some z =>
      obtain ⟨P, M⟩ := z
      have hM := k3 _ hq
      dsimp only at hM
      rw [hq] at HSP
      have HSP := hid_ HSP
      obtain ⟨ml, hml⟩ : ∃ ml, M.length = ml := ⟨_, rfl⟩
      have hml0 : 0 < ml := by rw [← hml]; exact List.length_pos_iff.2 hM
      have HML := hid_ hml
      clear hs hlt hm k1 k2 k3 hz hq H hpr hM hml
      go_enter Tryd.func7, Tryd.ntmps7
      go_wp2_with (go_at_call 20; (with_reducible refine (HSP.out).mono ?_); rintro e w1 ⟨B, b, D, d, VS, rfl, -, -, -, hx1⟩; rw [HML.out])
      refine bodyPost_ret (results_tmp2 rfl _ _ _) rfl ?_
      exact ⟨rfl, hx1⟩
  | some R =>
    obtain ⟨P, hq⟩ := k2 rfl R hz
    rw [hq] at HSP
    have HSP := hid_ HSP
    rw [hpr R hlt hz] at H
    clear hs hlt hm k1 k2 hz hq hpr
    go_enter Tryd.func7, Tryd.ntmps7
    go_wp2_with (first
      | (go_at_call 20; (with_reducible refine (HSP.out).mono ?_); rintro e w1 ⟨B, b, D, d, VS, rfl, -, -, -, hx1⟩; rw [show ([] : List Nat).length = 0 from rfl])
      | (show wpList _ _ _ (⟨some 24, _, _, _, _, _⟩ :: _) _ _; refine wpList_lit2B rfl _ _ rfl (some 24) rfl 255 0 rfl rfl ?_; intro w2 g2 hb2 hx2 hg2)
      | (show wpList _ _ _ (⟨some 25, _, _, _, _, _⟩ :: _) _ _; refine wpList_lit1B rfl _ rfl (some 25) rfl 255 rfl ?_; intro w3 g3 hb3 hx3 hg3; have hx13 := (hx1.trans hx2).trans hx3)
      | (go_at_call 21; (with_reducible refine (H.out _ hx13 _ _ (hb2.ext hx3) hb3).mono ?_); rintro e w4 ⟨B4, k4, d4, rfl, h1, h2, h3, h4⟩))
    refine bodyPost_ret (results_tmp2 rfl _ _ _) rfl ?_
    exact ⟨B4, k4, d4, rfl, h1, h2, h3, hx13.trans h4⟩
theorem stuff_cons (y : Nat) (l : List Nat) : stuffZ (y :: l) = (if y = 255 then [255, 0] else [y]) ++ stuffZ l := by unfold stuffZ; rw [List.flatMap_cons]
set_option maxHeartbeats 1000000 in
theorem rstuff_any (A : Option Addr) (n c : Nat) (bs : List Nat) (w : World) (hs : SL w 1 (.slice A n c) n (bytesV bs)) (hlt : ∀ b ∈ bs, b < 256) (hn : n ≤ 1000000000) :
    Calls Tryd.prog 11 #[.slice A n c] w (ReplIs (stuffZ bs) w) := by
  have HL := hid_ (sl_len hs).1
  have hc := (sl_len hs).2
  obtain ⟨R, hR⟩ : ∃ R, stuffZ bs = R := ⟨_, rfl⟩
  have HLT := hid_ hlt
  rw [hR]
  have HR0 : Hid ([] ++ stuffZ (bs.drop 0) = R) := hid_ (by rw [List.drop_zero, ← hR]; rfl)
  clear hR hlt
  have hcc : c ≤ 9223372036854775807 := by
    obtain ⟨A', c', e, -, h2, -, -⟩ := hs
    injection e with e1 e2 e3
    omega
  go_enter Tryd.func11, Tryd.ntmps11
  go_wp2_with fail
  go_loopw [3, 8] (fun v iv wr => ∃ (k dl : Nat) (D : List Nat), k ≤ n ∧ dl ≤ 2 * k ∧ iv = .int .i64 (k : Int) ∧ Hid (D.length = dl) ∧ OwnV wr w.heap.size 5 1 v dl (bytesV D) ∧ Ext w wr ∧ Hid (D ++ stuffZ (bs.drop k) = R)) (fun _ i _ => n - (intOf i).toNat)
  case atStart => exact ⟨0, 0, [], by omega, by omega, rfl, hid_ rfl, (by unfold bytesV; exact OwnV.nil _ _ _ _), Ext.refl _, HR0⟩
  case round =>
    clear HR0
    obtain ⟨k, dl, D, hk, hdl, rfl, HD, ⟨B0, d0, rfl, hown⟩, hx, HR⟩ := hrel
    by_cases hlt : k < n
    · obtain ⟨ad, u, rfl, hab, hxk, hcell⟩ := (hs.ext hx).at1 hlt
      obtain ⟨hkl, rfl⟩ := bytes_at hxk
      have hy8 : bs[k] < 256 := HLT.out _ (List.getElem_mem hkl)
      have HR1 : Hid (D ++ ((if bs[k] = 255 then [255, 0] else [bs[k]]) ++ stuffZ (bs.drop (k + 1))) = R) := hid_ (by rw [← HR.out, List.drop_eq_getElem_cons hkl, stuff_cons])
      clear hxk HR
      generalize bs[k] = y at *
      by_cases hy : y = 255
      · have HR2 : Hid ((D ++ [y] ++ [0]) ++ stuffZ (bs.drop (k + 1)) = R) := hid_ (by rw [← HR1.out, if_pos hy, hy]; simp)
        have hyb : ((y : Int) == 255) = true := by simp; omega
        have HYI := hid_ hy
        clear hy HR1
        go_wp2_with (first
          | (show wpList _ _ _ (⟨some 14, _, _, _, _, _⟩ :: _) _ _; refine wpList_lit1B rfl _ rfl (some 14) rfl y rfl ?_; intro w3 g3 hb3 hx3 hg3; have ho3 := own_ext0' hown hx3; have hx3' := hx.trans hx3)
          | (show wpList _ _ _ (⟨some 15, _, _, _, _, _⟩ :: _) _ _; at_builtin; refine wpList_append_slf elt_by rfl (.tmp 12) (.tmp 14) rfl w.heap.size (.slice B0 dl d0) dl (bytesV D) rfl ho3 _ 1 (bytesV [y]) rfl (byte_row rfl hb3) (byteOne _) (by omega) (by omega) hx3'.size ?_; intro A4 c4 w4 ho4 hgr4 hor4; have hx4 := hx3'.grown' hgr4 (fun b hb => (ho3.lt b hb).1))
          | (show wpList _ _ _ (⟨some 19, _, _, _, _, _⟩ :: _) _ _; refine wpList_lit1B rfl _ rfl (some 19) rfl 0 rfl ?_; intro w5 g5 hb5 hx5 hg5; have ho5 := own_ext0' ho4 hx5; have hx5' := hx4.trans hx5)
          | (show wpList _ _ _ (⟨some 20, _, _, _, _, _⟩ :: _) _ _; at_builtin; refine wpList_append_slf elt_by rfl (.tmp 18) (.tmp 19) rfl w.heap.size (.slice A4 (dl + 1) c4) (dl + 1) _ rfl ho5 _ 1 (bytesV [0]) rfl (byte_row rfl hb5) (byteOne _) (by omega) (by omega) hx5'.size ?_; intro A6 c6 w6 ho6 hgr6 hor6; have hx6 := hx5'.grown' hgr6 (fun b hb => (ho5.lt b hb).1)))
        go_roundw
        case rel =>
          refine ⟨k + 1, dl + 1 + 1, D ++ [y] ++ [0], by omega, by omega, by go_num, hid_ (by simp [HD.out]), ⟨A6, c6, rfl, ?_⟩, hx6, HR2⟩
          rw [bytesV_app', bytesV_app']
          exact ho6
        case measure => simp [intOf]; omega
      · have HR2 : Hid ((D ++ [y]) ++ stuffZ (bs.drop (k + 1)) = R) := hid_ (by rw [← HR1.out, if_neg hy]; simp)
        have hyb : ((y : Int) == 255) = false := by simp; omega
        have hyI : ¬ ((y : Int) = 255) := by omega
        clear hy HR1
        go_wp2_with (first
          | (show wpList _ _ _ (⟨some 14, _, _, _, _, _⟩ :: _) _ _; refine wpList_lit1B rfl _ rfl (some 14) rfl y rfl ?_; intro w3 g3 hb3 hx3 hg3; have ho3 := own_ext0' hown hx3; have hx3' := hx.trans hx3)
          | (show wpList _ _ _ (⟨some 15, _, _, _, _, _⟩ :: _) _ _; at_builtin; refine wpList_append_slf elt_by rfl (.tmp 12) (.tmp 14) rfl w.heap.size (.slice B0 dl d0) dl (bytesV D) rfl ho3 _ 1 (bytesV [y]) rfl (byte_row rfl hb3) (byteOne _) (by omega) (by omega) hx3'.size ?_; intro A4 c4 w4 ho4 hgr4 hor4; have hx4 := hx3'.grown' hgr4 (fun b hb => (ho3.lt b hb).1)))
        go_roundw
        case rel =>
          refine ⟨k + 1, dl + 1, D ++ [y], by omega, by omega, by go_num, hid_ (by simp [HD.out]), ⟨A4, c4, rfl, ?_⟩, hx4, HR2⟩
          rw [bytesV_app']
          exact ho4
        case measure => simp [intOf]; omega
    · have hkn : bs.drop k = [] := List.drop_eq_nil_of_le (by rw [HL.out]; omega)
      have HRE : Hid (R = D) := hid_ (by rw [← HR.out, hkn]; unfold stuffZ; simp)
      clear hkn HR
      go_wp2_with fail
      go_ret
      rw [HRE.out]
      obtain ⟨h1, h2⟩ := own_out' hown
      exact ⟨B0, dl, d0, rfl, HD.out, h1, own_none hown, hx⟩
end Go.Proofs.YtgmddhljgfbibaaDoor
/- Plain of the reference. -/
namespace Go.Proofs.YtgmddhljgfbibaaDoor
set_option linter.unusedVariables false
set_option linter.unusedSimpArgs false
open Go.RowKit
theorem plZ_ne {y : Nat} {r : List Nat} (h : y ≠ 255) : plZ (y :: r) = (plZ r).map (y :: ·) := by
  cases r with
  | nil => simp [plZ, h]
  | cons z r => rw [plZ, if_neg h]
theorem plZ_two (z : Nat) (r : List Nat) : plZ (255 :: z :: r) = if z = 0 then (plZ r).map (255 :: ·) else none := by rw [plZ, if_pos rfl]
theorem plZ_last : plZ [255] = none := by rw [plZ, if_pos rfl]
attribute [local irreducible] bytesV plZ
set_option maxRecDepth 20000 in
set_option maxHeartbeats 1000000 in
theorem rplain_any (A : Option Addr) (n c : Nat) (bs : List Nat) (w : World) (hs : SL w 1 (.slice A n c) n (bytesV bs)) (hlt : ∀ b ∈ bs, b < 256) (hn : n ≤ 1000000000) :
    Calls Tryd.prog 8 #[.slice A n c] w (PlIs (plZ bs) w) := by
  have HL := hid_ (sl_len hs).1
  have hc := (sl_len hs).2
  obtain ⟨R, hR⟩ : ∃ R, plZ bs = R := ⟨_, rfl⟩
  have HLT := hid_ hlt
  rw [hR]
  have HR0 : Hid ((plZ (bs.drop 0)).map ([] ++ ·) = R) := hid_ (by rw [List.drop_zero, ← hR]; simp)
  clear hR hlt
  have hcc : c ≤ 9223372036854775807 := by
    obtain ⟨A', c', e, -, h2, -, -⟩ := hs
    injection e with e1 e2 e3
    omega
  go_enter Tryd.func8, Tryd.ntmps8
  go_wp2_with fail
  go_loopw [4, 5] (fun v iv wr => ∃ (k dl : Nat) (D : List Nat), k ≤ n ∧ dl ≤ k ∧ iv = .int .i64 (k : Int) ∧ Hid (D.length = dl) ∧ OwnV wr w.heap.size 5 1 v dl (bytesV D) ∧ Ext w wr ∧ Hid ((plZ (bs.drop k)).map (D ++ ·) = R)) (fun _ i _ => n - (intOf i).toNat)
  case atStart => exact ⟨0, 0, [], by omega, by omega, rfl, hid_ rfl, (by unfold bytesV; exact OwnV.nil _ _ _ _), Ext.refl _, HR0⟩
  case round =>
    clear HR0
    obtain ⟨k, dl, D, hk, hdl, rfl, HD, ⟨B0, d0, rfl, hown⟩, hx, HR⟩ := hrel
    by_cases hlt : k < n
    · obtain ⟨ad, u, rfl, hab, hxk, hcell⟩ := hs.at1 hlt
      obtain ⟨hkl, rfl⟩ := bytes_at hxk
      have hy8 : bs[k] < 256 := HLT.out _ (List.getElem_mem hkl)
      have HCK := hid_ (fun W (h : Ext w W) => (h.cell (p := ad.add k) (by rw [block_of_add]; exact hab)).trans hcell)
      have HR1 : Hid ((plZ (bs[k] :: bs.drop (k + 1))).map (D ++ ·) = R) := hid_ (by rw [← HR.out, ← List.drop_eq_getElem_cons hkl])
      obtain ⟨k1, hk1⟩ : ∃ r, k + 1 = r := ⟨_, rfl⟩
      rw [hk1] at HR1
      have hcell0 := HCK.out _ hx
      clear hxk HR hcell
      generalize bs[k] = y at *
      by_cases hy : y = 255
      · have hyb : ((y : Int) == 255) = true := by simp; omega
        by_cases hl1 : k1 < n
        · have hkl2 : k1 < bs.length := by rw [HL.out]; exact hl1
          obtain ⟨ad2, u2, e2, hab2, hxk2, hcell2⟩ := hs.at1 hl1
          injection e2 with e2
          subst e2
          obtain ⟨_, rfl⟩ := bytes_at hxk2
          have hz8 : bs[k1] < 256 := HLT.out _ (List.getElem_mem hkl2)
          have HCK2 := hid_ (fun W (h : Ext w W) => (h.cell (p := ad.add k1) (by rw [block_of_add]; exact hab2)).trans hcell2)
          obtain ⟨k2, hk2⟩ : ∃ r, k1 + 1 = r := ⟨_, rfl⟩
          have HR2 : Hid ((if bs[k1] = 0 then (plZ (bs.drop k2)).map (255 :: ·) else none).map (D ++ ·) = R) := hid_ (by
            have h := HR1.out
            rw [hy, List.drop_eq_getElem_cons hkl2, plZ_two, hk2] at h
            exact h)
          clear hxk2 hcell2 HR1
          generalize bs[k1] = z at *
          by_cases hz : z = 0
          · have HR3 : Hid ((plZ (bs.drop k2)).map ((D ++ [y]) ++ ·) = R) := hid_ (by rw [← HR2.out, if_pos hz, hy]; simp [Option.map_map, Function.comp_def])
            have hzb : ((z : Int) != 0) = false := by simp; omega
            clear hy hz HR2
            go_wp2_with (first
              | (show wpList _ _ _ (⟨some 17, _, _, _, _, _⟩ :: _) _ _; refine wpList_lit1B rfl _ rfl (some 17) rfl y rfl ?_; intro w3 g3 hb3 hx3 hg3; have ho3 := own_ext0' hown hx3; have hx3' := hx.trans hx3)
              | (show wpList _ _ _ (⟨some 18, _, _, _, _, _⟩ :: _) _ _; at_builtin; refine wpList_append_slf elt_by rfl (.tmp 12) (.tmp 17) rfl w.heap.size (.slice B0 dl d0) dl (bytesV D) rfl ho3 _ 1 (bytesV [y]) rfl (byte_row rfl hb3) (byteOne _) (by omega) (by omega) hx3'.size ?_; intro A4 c4 w4 ho4 hgr4 hor4; have hx4 := hx3'.grown' hgr4 (fun b hb => (ho3.lt b hb).1); have hcell4 := HCK.out _ hx4; have hcell5 := HCK2.out _ hx4))
            go_roundw
            case rel =>
              refine ⟨k2, dl + 1, D ++ [y], by omega, by omega, by go_num, hid_ (by simp [HD.out]), ⟨A4, c4, rfl, ?_⟩, hx4, HR3⟩
              rw [bytesV_app']
              exact ho4
            case measure => simp [intOf]; omega
          · have HRE : Hid (R = none) := hid_ (by rw [← HR2.out, if_neg hz]; rfl)
            have hzb : ((z : Int) != 0) = true := by simp; omega
            clear hy hz HR2
            go_wp2_with (first
              | (show wpList _ _ _ (⟨some 17, _, _, _, _, _⟩ :: _) _ _; refine wpList_lit1B rfl _ rfl (some 17) rfl y rfl ?_; intro w3 g3 hb3 hx3 hg3; have ho3 := own_ext0' hown hx3; have hx3' := hx.trans hx3)
              | (show wpList _ _ _ (⟨some 18, _, _, _, _, _⟩ :: _) _ _; at_builtin; refine wpList_append_slf elt_by rfl (.tmp 12) (.tmp 17) rfl w.heap.size (.slice B0 dl d0) dl (bytesV D) rfl ho3 _ 1 (bytesV [y]) rfl (byte_row rfl hb3) (byteOne _) (by omega) (by omega) hx3'.size ?_; intro A4 c4 w4 ho4 hgr4 hor4; have hx4 := hx3'.grown' hgr4 (fun b hb => (ho3.lt b hb).1); have hcell4 := HCK.out _ hx4; have hcell5 := HCK2.out _ hx4))
            refine bodyPost_ret (results_tmp2 rfl _ _ _) rfl ?_
            rw [HRE.out]
            exact ⟨rfl, hx4⟩
        · have HRE : Hid (R = none) := hid_ (by rw [← HR1.out, List.drop_eq_nil_of_le (by rw [HL.out]; omega), hy, plZ_last]; rfl)
          clear hy HR1
          go_wp2_with (first
            | (show wpList _ _ _ (⟨some 17, _, _, _, _, _⟩ :: _) _ _; refine wpList_lit1B rfl _ rfl (some 17) rfl y rfl ?_; intro w3 g3 hb3 hx3 hg3; have ho3 := own_ext0' hown hx3; have hx3' := hx.trans hx3)
            | (show wpList _ _ _ (⟨some 18, _, _, _, _, _⟩ :: _) _ _; at_builtin; refine wpList_append_slf elt_by rfl (.tmp 12) (.tmp 17) rfl w.heap.size (.slice B0 dl d0) dl (bytesV D) rfl ho3 _ 1 (bytesV [y]) rfl (byte_row rfl hb3) (byteOne _) (by omega) (by omega) hx3'.size ?_; intro A4 c4 w4 ho4 hgr4 hor4; have hx4 := hx3'.grown' hgr4 (fun b hb => (ho3.lt b hb).1); have hcell4 := HCK.out _ hx4))
          refine bodyPost_ret (results_tmp2 rfl _ _ _) rfl ?_
          rw [HRE.out]
          exact ⟨rfl, hx4⟩
      · have hyb : ((y : Int) == 255) = false := by simp; omega
        have hyI : ¬ ((y : Int) = 255) := by omega
        have HR3 : Hid ((plZ (bs.drop k1)).map ((D ++ [y]) ++ ·) = R) := hid_ (by rw [← HR1.out, plZ_ne hy]; simp [Option.map_map, Function.comp_def])
        clear hy HR1
        go_wp2_with (first
          | (show wpList _ _ _ (⟨some 17, _, _, _, _, _⟩ :: _) _ _; refine wpList_lit1B rfl _ rfl (some 17) rfl y rfl ?_; intro w3 g3 hb3 hx3 hg3; have ho3 := own_ext0' hown hx3; have hx3' := hx.trans hx3)
          | (show wpList _ _ _ (⟨some 18, _, _, _, _, _⟩ :: _) _ _; at_builtin; refine wpList_append_slf elt_by rfl (.tmp 12) (.tmp 17) rfl w.heap.size (.slice B0 dl d0) dl (bytesV D) rfl ho3 _ 1 (bytesV [y]) rfl (byte_row rfl hb3) (byteOne _) (by omega) (by omega) hx3'.size ?_; intro A4 c4 w4 ho4 hgr4 hor4; have hx4 := hx3'.grown' hgr4 (fun b hb => (ho3.lt b hb).1); have hcell4 := HCK.out _ hx4))
        go_roundw
        case rel =>
          refine ⟨k1, dl + 1, D ++ [y], by omega, by omega, by go_num, hid_ (by simp [HD.out]), ⟨A4, c4, rfl, ?_⟩, hx4, HR3⟩
          rw [bytesV_app']
          exact ho4
        case measure => simp [intOf]; omega
    · have hkn : bs.drop k = [] := List.drop_eq_nil_of_le (by rw [HL.out]; omega)
      have HRE : Hid (R = some D) := hid_ (by rw [← HR.out, hkn]; unfold plZ; simp)
      clear hkn HR
      go_wp2_with fail
      refine bodyPost_ret (results_tmp2 rfl _ _ _) rfl ?_
      rw [HRE.out]
      obtain ⟨h1, h2⟩ := own_out' hown
      exact ⟨B0, dl, d0, rfl, HD.out, h1, own_none hown, hx⟩
end Go.Proofs.YtgmddhljgfbibaaDoor
/- The law StuffTells, walked. -/
namespace Go.Proofs.YtgmddhljgfbibaaDoor
set_option linter.unusedVariables false
set_option linter.unusedSimpArgs false
open Go.RowKit
section
open Go.ChangeShapes Go.WideShapes Go.ChangeAt
variable {H : Type} {enc : TypeId × Value → H} {w : World} {base : Nat} {spare : Nat → Bool} {held : Bool}
set_option maxRecDepth 20000 in
/-- a slice of bytes that came in and has no address has no room -/
theorem open_bytes_nil {b0 : Nat} {r : Reach} {v : Value} {d : DataW H} {p : List MemPlace} (hv : Value.okWide Tryd.prog w r b0 22 v) (h : DataW.Trod enc Tryd.prog w base spare held 22 v d p) :
    ∀ n c, v = .slice none n c → c = 0 := by
  obtain ⟨fuel, hf⟩ := h
  rcases open_ints Tryd.underlying22 Tryd.underlying5 (by kernel_rfl) hf with ⟨hcs, -⟩ | ⟨a, len, cap, zs, hcs, -, hlc, hcm, hzl, -, hcell, hwf⟩
  · obtain rfl := slice_value Tryd.underlying22 hv hcs (by simp)
    intro n c e
    injection e with _ _ e
    exact e.symm
  · obtain rfl := slice_value Tryd.underlying22 hv hcs (by simp)
    intro n c e
    injection e with e
    cases e
end
namespace stuffTells
theorem eqByte_k {w : World} {B C : Option Addr} {k c d : Nat} {Z : List Nat} (hk : Z.length = k) (h1 : SL w 1 (.slice B k c) k (bytesV Z)) (h2 : SL w 1 (.slice C k d) k (bytesV Z)) :
    Calls Tryd.prog 9 #[.slice B k c, .slice C k d] w fun e w' => e = .returned (.bool true) ∧ w = w' := by
  subst hk
  exact eqByte_same _ _ Z w h1 h2
theorem nilB (w : World) : SL w 1 (.slice none 0 0) 0 (bytesV []) := SL.nil w 1
attribute [local irreducible] bytesV plZ stuffZ
set_option maxRecDepth 20000 in
set_option maxHeartbeats 2000000 in
theorem walk (v : Value) (bs : List Nat) (hlt : ∀ b ∈ bs, b < 256) (hub : bs.length ≤ 1048576) (hA : ∀ n c, v = .slice none n c → c = 0) (m0 : Int) (w : World) (hm : w.cell? ⟨0, 0, none⟩ = some (.int .i64 m0)) (hs : SL w 1 v bs.length (bytesV bs)) :
    Calls Tryd.prog 3 #[v] w fun e w' => e = .returned (.bool true) ∧ Ext w w' := by
  obtain ⟨n, hn⟩ : ∃ n, bs.length = n := ⟨_, rfl⟩
  rw [hn] at hs hub
  have hs' := hs
  obtain ⟨A, c, rfl, -, -, -, -⟩ := hs'
  have hA' : A = none → c = 0 := fun e => hA n c (by rw [e])
  have H1 := hid_ (plain_any A n c bs m0 w hs hA' hlt hub hm)
  have H2 := hid_ (fun W (h : Ext w W) => rplain_any A n c bs W (hs.ext h) hlt (by omega))
  have H3 := hid_ (fun W g (h : Ext w W) (hb : Blk W g 5 (bytesV [255]).toArray) => plain_any (some ⟨g, 0, none⟩) 1 1 [255] m0 W (byte_row rfl hb) (fun e => by cases e) (by simp) (by omega) (cell_keep hm h))
  rw [plZ_last] at H3
  have H4 := hid_ (fun W (h : Ext w W) => stuff_any A n c bs m0 W (hs.ext h) hA' hlt (by omega) (cell_keep hm h))
  have H5 := hid_ (fun W (h : Ext w W) => rstuff_any A n c bs W (hs.ext h) hlt (by omega))
  generalize stuffZ bs = Z at *
  cases hq : plZ bs with
  | none =>
    rw [hq] at H1 H2
    clear hq hs hA hA' hlt hn hm
    go_enter Tryd.func3, Tryd.ntmps3
    go_wp2_with (first
      | (go_at_call 7; (with_reducible refine (H1.out).mono ?_); rintro e w1 ⟨rfl, hx1⟩)
      | (go_at_call 8; (with_reducible refine (H2.out _ hx1).mono ?_); rintro e w2 ⟨rfl, hx2⟩; have hx2' := hx1.trans hx2)
      | (show wpList _ _ _ (⟨some 20, _, _, _, _, _⟩ :: _) _ _; refine wpList_lit1B rfl _ rfl (some 20) rfl 255 rfl ?_; intro w3 g3 hb3 hx3 hg3; have hx3' := hx2'.trans hx3)
      | (go_at_call 7; (with_reducible refine (H3.out _ _ hx3' hb3).mono ?_); rintro e w4 ⟨rfl, hx4⟩; have hx4' := hx3'.trans hx4)
      | (go_at_call 10; (with_reducible refine (H4.out _ hx4').mono ?_); rintro e w5 ⟨B5, k5, d5, rfl, h51, h52, -, hx5⟩; have hx5' := hx4'.trans hx5)
      | (go_at_call 11; (with_reducible refine (H5.out _ hx5').mono ?_); rintro e w6 ⟨B6, k6, d6, rfl, h61, h62, -, hx6⟩; have hx6' := hx5'.trans hx6; obtain rfl : k5 = k6 := by rw [← h51, h61])
      | (go_at_call 9; (with_reducible refine (eqByte_k h51 (h52.ext hx6) h62).mono ?_); rintro e w7 ⟨rfl, rfl⟩)
      | (go_at_call 9; (with_reducible refine (eqByte_k (Z := []) (B := none) (C := none) (k := 0) (c := 0) (d := 0) rfl (nilB _) (nilB _)).mono ?_); rintro e w7 ⟨rfl, rfl⟩))
    go_ret
    exact ⟨rfl, hx6'⟩
  | some P =>
    rw [hq] at H1 H2
    clear hq hs hA hA' hlt hn hm
    go_enter Tryd.func3, Tryd.ntmps3
    go_wp2_with (first
      | (go_at_call 7; (with_reducible refine (H1.out).mono ?_); rintro e w1 ⟨B1, k1, d1, rfl, h11, h12, -, hx1⟩)
      | (go_at_call 8; (with_reducible refine (H2.out _ hx1).mono ?_); rintro e w2 ⟨B2, k2, d2, rfl, h21, h22, -, hx2⟩; have hx2' := hx1.trans hx2; obtain rfl : k1 = k2 := by rw [← h11, h21])
      | (show wpList _ _ _ (⟨some 20, _, _, _, _, _⟩ :: _) _ _; refine wpList_lit1B rfl _ rfl (some 20) rfl 255 rfl ?_; intro w3 g3 hb3 hx3 hg3; have hx3' := hx2'.trans hx3)
      | (go_at_call 7; (with_reducible refine (H3.out _ _ hx3' hb3).mono ?_); rintro e w4 ⟨rfl, hx4⟩; have hx4' := hx3'.trans hx4)
      | (go_at_call 10; (with_reducible refine (H4.out _ hx4').mono ?_); rintro e w5 ⟨B5, k5, d5, rfl, h51, h52, -, hx5⟩; have hx5' := hx4'.trans hx5)
      | (go_at_call 11; (with_reducible refine (H5.out _ hx5').mono ?_); rintro e w6 ⟨B6, k6, d6, rfl, h61, h62, -, hx6⟩; have hx6' := hx5'.trans hx6; obtain rfl : k5 = k6 := by rw [← h51, h61])
      | (go_at_call 9; (with_reducible refine (eqByte_k h51 (h52.ext hx6) h62).mono ?_); rintro e w7 ⟨rfl, rfl⟩)
      | (go_at_call 9; (with_reducible refine (eqByte_k h11 ((((h12.ext hx2).ext hx3).ext hx4).ext (hx5.trans hx6)) (((h22.ext hx3).ext hx4).ext (hx5.trans hx6))).mono ?_); rintro e w7 ⟨rfl, rfl⟩))
    go_ret
    exact ⟨rfl, hx6'⟩
end stuffTells
end Go.Proofs.YtgmddhljgfbibaaDoor
/- What the bound of an ..UptoSaid gives. -/
namespace Go.Proofs.YtgmddhljgfbibaaDoor
set_option linter.unusedVariables false
set_option linter.unusedSimpArgs false
open Go.RowKit Go.ChangeShapes Go.WideShapes Go.ChangeAt
section
variable {H : Type}
theorem bulk_pos (d : DataW H) : 1 ≤ Rows.uptoBulk d := by
  cases d with
  | lit l => cases l <;> simp [Rows.uptoBulk]
  | _ => simp [Rows.uptoBulk]
theorem bulk_many (l : List (DataW H)) : l.length ≤ Rows.uptoBulkAll l := by
  induction l with
  | nil => simp [Rows.uptoBulkAll]
  | cons d l ih => have := bulk_pos d; simp only [Rows.uptoBulkAll, List.length_cons]; omega
theorem bulk_part {d : DataW H} : ∀ {l : List (DataW H)}, d ∈ l → Rows.uptoBulk d ≤ Rows.uptoBulkAll l
  | x :: l, h => by
    simp only [Rows.uptoBulkAll]
    rcases List.mem_cons.1 h with rfl | h
    · omega
    · have := bulk_part h; omega
variable {enc : TypeId × Value → H} {P : Program} {w : World} {base : Nat} {spare : Nat → Bool} {held : Bool}
theorem bulk_slice {t e : TypeId} {A : Option Addr} {n c : Nat} {d : DataW H} {p : List MemPlace} {l : List (DataW H)} (ht : P.underlying t = some (.slice e)) (h : DataW.Trod enc P w base spare held t (.slice A n c) d p) (hd : d ∈ l) (hk : Rows.uptoSmall H l = true) : n ≤ 1048576 := by
  have hb : Rows.uptoBulkAll l ≤ 1048576 := of_decide_eq_true hk
  have h1 := bulk_part hd
  obtain ⟨fuel, hf⟩ := h
  rcases Go.Deep.open_slice ht hf with ⟨h0, -⟩ | ⟨a, len, cap, m, k, D, Pl, hcs, -, hl, hm, hmm, hx, -⟩
  · have : n = 0 := by simpa [Value.cells] using congrArg (fun l => match l with | [Value.slice _ n _] => n | _ => 0) h0
    omega
  · have hn : n = len := by simpa [Value.cells] using congrArg (fun l => match l with | [Value.slice _ n _] => n | _ => 0) hcs
    have hdd : d = .slice ((List.range len).map D) ((List.range (m - len)).map fun j => D (len + j)) := congrArg Prod.fst hx
    rw [hdd] at h1
    have h2 := bulk_many ((List.range len).map D)
    simp only [List.length_map, List.length_range] at h2
    simp only [Rows.uptoBulk] at h1
    omega
theorem bulk_sl {t e : TypeId} {v : Value} {sz n : Nat} {xs : List Value} {w0 : World} {d : DataW H} {p : List MemPlace} {l : List (DataW H)} (hs : SL w0 sz v n xs) (ht : P.underlying t = some (.slice e)) (h : DataW.Trod enc P w base spare held t v d p) (hd : d ∈ l) (hk : Rows.uptoSmall H l = true) : n ≤ 1048576 := by
  obtain ⟨A, c, rfl, -⟩ := hs
  exact bulk_slice ht h hd hk
end
end Go.Proofs.YtgmddhljgfbibaaDoor
namespace Go.Proofs.YtgmddhljgfbibaaDoor
set_option linter.unusedVariables false
set_option linter.unusedSimpArgs false
open Go.RowKit Go.ChangeShapes Go.WideShapes Go.ChangeAt
theorem own : ownKnob Tryd.prog.godebug = none := by kernel_rfl
theorem laidOut : laidOutB Tryd.prog = true := by kernel_rfl
section
variable {H : Type} {enc : TypeId × Value → H} {P : Program}
theorem below_trodAll (hl : laidOutB P = true) {W W' : World} (hb : Below W.heap.size W W') : ∀ {ts : List TypeId} {vs : List Value} {ds : List (DataW H)} {ps : List MemPlace},
    (∀ t ∈ ts, P.readableRec t = true ∧ t < P.types.size) → DataW.TrodAll enc P W 0 (fun _ => true) true ts vs ds ps → (∀ x ∈ ps, x.block < W.heap.size) →
    DataW.TrodAll enc P W' 0 (fun b => decide (b < W.heap.size)) true ts vs ds ps
  | [], _, _, _, _, h, _ => by
    obtain ⟨rfl, rfl, rfl⟩ := trodAll_nil h
    exact trodAll_mk0
  | t :: ts, vs, ds, ps, hr, h, hlt => by
    obtain ⟨v, vs1, d, ds1, a, b, rfl, rfl, rfl, h1, h2⟩ := trodAll_cons h
    exact ⟨a, b, Below.trod hl (hr t (by simp)).1 (hr t (by simp)).2 h1 hb (fun x hx => hlt x (by simp [hx])),
      below_trodAll hl hb (fun t ht => hr t (by simp [ht])) h2 (fun x hx => hlt x (by simp [hx])), rfl⟩

/-- a law's row is met: true, and new blocks alone -/
theorem law_post {f : Func} {s : ChangeSpec} {W W' : World} {args : Array Value} {ds gs : List (DataW H)} {before : List MemPlace}
    (hl : laidOutB P = true) (tb : TypeId) (htb : P.underlying tb = some .bool) (hft : f.resultTypes = #[tb]) (hvars : s.vars = [])
    (hr : ∀ t ∈ f.params.toList, P.readableRec t = true ∧ t < P.types.size)
    (hW : DataW.Whole enc P f.params.toList s.vars false W args.toList ds gs before)
    (hfn : s.fn H (ds ++ gs) = { results := [.lit (.bool true)], args := ds })
    (hb : Ext W W') : s.post enc P f false true false false W args (.bool true) W' := by
  have hlt : ∀ p ∈ before, p.block < W.heap.size := fun p hp => by simpa using hW.lt p hp
  have hW' := hW
  obtain ⟨p, q, hA, hV, rfl, hfz, hnd⟩ := hW
  rw [hvars] at hV
  obtain ⟨rfl, rfl⟩ := trodVars_none hV
  simp only [List.append_nil] at hlt hW'
  refine ⟨ds, [], p, [], p, [], hW', ?_, ?_, ?_, ?_, fun h => by cases h⟩
  · rw [hft, hfn]
    exact trodAll_cons_mk (shut_bool htb _) trodAll_mk0
  · rw [hfn]
    exact below_trodAll hl hb hr hA hlt
  · rw [hfn, hvars]
    rfl
  · exact World.keptBut_mono (fun p hp => ⟨hp, Or.inr (Or.inl hp)⟩) (hb.frame (· ∈ p))
end
end Go.Proofs.YtgmddhljgfbibaaDoor
/- The world of the witness: the listed tables laid. What a shaped world's MaxLen holds. -/
namespace Go.Proofs.YtgmddhljgfbibaaDoor
set_option linter.unusedVariables false
set_option linter.unusedSimpArgs false
open Go.ChangeShapes Go.WideShapes Go.ChangeAt Go.RowKit
theorem maxLen_cell {W : World} (h : W.ShapedOpen Tryd.prog) : ∃ m, W.cell? ⟨0, 0, none⟩ = some (.int .i64 m) :=
  Go.Proofs.cell_of_shapedOpen_int (zero := #[.int .i64 0]) (t := 3) h (of_decide_eq_true (by kernel_rfl)) (by kernel_rfl) rfl (by kernel_rfl) (by kernel_rfl) Tryd.underlying3
def layCells (cs : Array Value) : Obj → Obj
  | .cells _ t frozen => .cells cs t frozen
  | o => o
/-- the settled world, the two tables holding what their initialisers lay -/
noncomputable def laidWorld (os : Os) : World :=
  { World.holding Tryd.prog os ⟨#[], #[], []⟩ with
    heap := ((World.holding Tryd.prog os ⟨#[], #[], []⟩).heap.modify 1 (layCells (Go.Pinned.utf8FirstZ.map fun n : Nat => Value.int .u8 n).toArray)).modify 2
      (layCells (([128, 191, 160, 191, 128, 159, 144, 191, 128, 143, 0, 0, 0, 0, 0, 0, 0, 0, 0, 0, 0, 0, 0, 0, 0, 0, 0, 0, 0, 0, 0, 0] : List Nat).map fun n : Nat => Value.int .u8 n).toArray) }
end Go.Proofs.YtgmddhljgfbibaaDoor
