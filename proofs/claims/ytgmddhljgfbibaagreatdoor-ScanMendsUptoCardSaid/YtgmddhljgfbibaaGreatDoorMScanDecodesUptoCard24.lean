/- Contracts for the law ScanDecodesUptoCard, part 24: what the functions that it reaches answer, for all arguments that the theorems name. -/
import Derived.Test.YtgmddhljgfbibaaGreatDoorMScanDecodesUptoCard5
import Derived.Test.YtgmddhljgfbibaaGreatDoorMScanDecodesUptoCard2
import Derived.Outline
import Derived.Test.YtgmddhljgfbibaaGreatDoorMScanDecodesUptoCard18
import Derived.Test.YtgmddhljgfbibaaGreatDoorMScanDecodesUptoCard23
import Derived.Test.YtgmddhljgfbibaaGreatDoorMScanDecodesUptoCard22
/- TableCheck of the reference. -/
namespace Go.Proofs.YtgmddhljgfbibaaGreatDoor
set_option linter.unusedVariables false
set_option linter.unusedSimpArgs false
open Go.RowKit
theorem SL.take {w : World} {A : Option Addr} {n c : Nat} {xs : List Value} (h : SL w 1 (.slice A n c) n xs) {k : Nat} (hk : k ≤ n) : SL w 1 (.slice A k c) k (xs.take k) := by
  obtain ⟨A', c', e, h1, h1', h2, h3⟩ := h
  injection e with e1 e2 e3
  subst e1 e3
  refine ⟨A, c, rfl, by omega, h1', by simp; omega, fun hn => ?_⟩
  obtain ⟨ad, ea, hlt, hc⟩ := h3 (by omega)
  refine ⟨ad, ea, hlt, fun j u hu => hc j u ?_⟩
  have hj : j < k := by have := (List.getElem?_eq_some_iff.1 hu).1; simp at this; omega
  rwa [List.getElem?_take_of_lt hj] at hu
theorem totOK_no1 {cs xs : List Int} (h : allIn cs 0 256 = false) : totOK cs xs = false := by simp [totOK, h]
theorem totOK_no2 {cs xs : List Int} {k : Nat} (hk : k ≤ 16) (h : 256 < sumL cs k) : totOK cs xs = false := by
  cases h1 : allIn cs 0 256 with
  | false => exact totOK_no1 h1
  | true =>
    have key : ∀ j, k ≤ j → sumL cs k ≤ sumL cs j := by
      intro j hj
      induction j with
      | zero => obtain rfl : k = 0 := by omega
                exact Int.le_refl _
      | succ j ih =>
        rcases Nat.lt_or_ge j k with h2 | h2
        · obtain rfl : k = j + 1 := by omega
          exact Int.le_refl _
        · exact Int.le_trans (ih h2) (sumL_bd h1 j).2
    have := key 16 hk
    unfold totOK
    have h3 : ¬ sumL cs 16 ≤ 256 := by omega
    simp [h3]
set_option maxRecDepth 20000 in
set_option maxHeartbeats 1000000 in
theorem rcheck_any (cs xs : List Int) (sl : Value) (w : World) (hl : cs.length = 16) (hs : SL w 1 sl xs.length (ints xs)) :
    Calls Tryz.prog 57 #[.agg (tblv cs sl)] w fun e w' => e = .returned (.int .i64 (checkZ cs xs)) ∧ Ext w w' := by
  have hlast := hid_ (fun W g (h : Blk W g 25 (tblv cs sl)) => tblv_last h hl)
  have hts := hid_ (tblv_size cs sl hl)
  have HRG := hid_ (fun W g (h : Blk W g 25 (tblv cs sl)) => tblv_range h)
  have hcl := hid_ ((ints_len cs).trans hl)
  have HIX := hid_ (fun k (hk : k < cs.length) (h16 : k < 16) => fun W => run_index16 (ints cs).toArray k (.int .i64 cs[k]) h16 (bv_at cs k hk) W)
  have HL := hid_ hl
  have hs' := hs
  obtain ⟨A, c, rfl, hc1, hc2, -, -⟩ := hs'
  have HWY := hid_ (fun h1 h2 W => wordsOf_yes cs (.slice A xs.length c) W hl h1 h2)
  have HWN := hid_ (fun h1 h2 W => wordsOf_no cs (.slice A xs.length c) W hl h1 h2)
  generalize tblv cs (.slice A xs.length c) = tv at *
  go_enter Tryz.func57, Tryz.ntmps57
  go_wp2_with (first
    | (refine wpList_box_abs rfl 25 (.tmp 0) rfl tv rfl ?_; intro w1 g hb1 hx1 hg)
    | (refine wpList_load_mid rfl 22 (.tmp 12) rfl g 0 rfl (ints cs) _ (HRG.out _ _ hb1) Tryz.underlying22 rfl (by rw [hcl.out]; exact size16) ?_))
  have hc16 := hid_ (hlast.out _ _ hb1)
  go_loop [3, 14] (fun v i => ∃ k : Nat, k ≤ 16 ∧ i = .int .i64 (k : Int) ∧ v = .int .i64 (sumL cs k) ∧ (∀ z ∈ cs.take k, 0 ≤ z ∧ z ≤ 256) ∧ 0 ≤ sumL cs k ∧ sumL cs k ≤ 256 * k) (fun _ i => 16 - (intOf i).toNat)
  case atStart => exact ⟨0, by omega, rfl, rfl, by simp, by simp [sumL], by simp [sumL]⟩
  case round =>
    obtain ⟨k, hk, rfl, rfl, hin, s1, s2⟩ := hrel
    by_cases hlt : k < 16
    · have hkl : k < cs.length := by have := HL.out; omega
      have hix := HIX.out k hkl hlt
      have HS := hid_ (sumL_succ cs k hkl)
      have HIN := hid_ hin
      have HT2 := hid_ (fun h => checkZ_tot (totOK_no2 (cs := cs) (xs := xs) hk h))
      have HT1 := hid_ (fun h => checkZ_tot (totOK_no1 (cs := cs) (xs := xs) h))
      clear hin
      have HO := hid_ (fun W => outside_any cs[k] 0 256 W)
      cases hq : inB cs[k] 0 256 with
      | true =>
        obtain ⟨q1, q2⟩ := inB_iff.1 hq
        have HN := hid_ (allIn_take HIN.out hkl ⟨q1, q2⟩)
        rw [hq] at HO
        generalize sumL cs k = s at *
        by_cases hbig : 256 < s
        · have hbig' : decide (256 < s) = true := by simpa using hbig
          have HF := hid_ (HT2.out hbig)
          clear hq hbig
          go_wp2_with (go_at_call 29; (with_reducible refine (HO.out _).mono ?_); rintro e w' ⟨rfl, rfl⟩)
          go_ret
          exact ⟨by rw [HF.out]; rfl, hx1⟩
        · have hbig' : decide (256 < s) = false := by simpa using hbig
          clear hq hbig
          go_wp2_with (go_at_call 29; (with_reducible refine (HO.out _).mono ?_); rintro e w' ⟨rfl, rfl⟩)
          go_round
          case rel => exact ⟨k + 1, by omega, by go_num, by rw [HS.out], HN.out, by rw [HS.out]; omega, by rw [HS.out]; omega⟩
          case measure => simp [intOf]; omega
      | false =>
        have HF := hid_ (HT1.out (allIn_no hkl hq))
        rw [hq] at HO
        clear hq
        go_wp2_with (go_at_call 29; (with_reducible refine (HO.out _).mono ?_); rintro e w' ⟨rfl, rfl⟩)
        go_ret
        exact ⟨by rw [HF.out]; rfl, hx1⟩
    · have ek : k = 16 := by omega
      rw [ek] at s1 s2 hin ⊢
      have HA := hid_ (show allIn cs 0 256 = true by
        rw [List.take_of_length_le (by have := HL.out; omega)] at hin
        exact allIn_iff.2 hin)
      have HTK : Hid (sumL cs 16 ≤ 256 → sumL cs 16 = xs.length → totOK cs xs = true) := hid_ (fun a b => totOK_iff.2 ⟨HA.out, a, b⟩)
      have HTN : Hid (¬ (sumL cs 16 ≤ 256 ∧ sumL cs 16 = xs.length) → checkZ cs xs = 4) := hid_ (fun a => checkZ_tot (by
        rw [← Bool.not_eq_true, totOK_iff]
        rintro ⟨-, b, d⟩
        exact a ⟨b, d⟩))
      clear hin ek hk hlt
      generalize sumL cs 16 = s at *
      have h16 := hc16.out
      by_cases h1 : s ≤ 256
      · have h1' : decide (256 < s) = false := by simp; omega
        by_cases h2 : s = xs.length
        · have HTOK := hid_ (HTK.out h1 h2)
          subst h2
          have hneq : ((xs.length : Int) != (xs.length : Int)) = false := by simp
          have HZ1 := hid_ (fun h2 => checkZ_arg HTOK.out h2)
          have HZ2 := hid_ (fun h2 h3 => checkZ_dup HTOK.out h2 h3)
          have HZ3 := hid_ (fun h2 h3 => checkZ_words HTOK.out h2 h3)
          clear h1
          go_wp2_with fail
          go_loop [39] (fun i => ∃ k : Nat, k ≤ xs.length ∧ i = .int .i64 (k : Int) ∧ ∀ z ∈ xs.take k, 0 ≤ z ∧ z ≤ 255) (fun i => xs.length - (intOf i).toNat)
          case atStart => exact ⟨0, by omega, rfl, by simp⟩
          case round =>
            obtain ⟨k, hk, rfl, hin⟩ := hrel
            have HIN := hid_ hin
            clear hin
            by_cases hlt : k < xs.length
            · obtain ⟨ad, u, rfl, -, hxk, hcell⟩ := (hs.ext hx1).at1 hlt
              obtain ⟨hkl, rfl⟩ := ints_at _ _ _ hxk
              clear hxk
              have HO := hid_ (fun W => outside_any xs[k] 0 255 W)
              cases hq : inB xs[k] 0 255 with
              | true =>
                have HN := hid_ (allIn_take HIN.out hkl (inB_iff.1 hq))
                rw [hq] at HO
                clear hq
                go_wp2_with (go_at_call 29; (with_reducible refine (HO.out _).mono ?_); rintro e w' ⟨rfl, rfl⟩)
                go_round
                case rel => exact ⟨k + 1, by omega, by go_num, HN.out⟩
                case measure => simp [intOf]; omega
              | false =>
                have HF := hid_ (HZ1.out (allIn_no hkl hq))
                rw [hq] at HO
                clear hq
                go_wp2_with (go_at_call 29; (with_reducible refine (HO.out _).mono ?_); rintro e w' ⟨rfl, rfl⟩)
                go_ret
                exact ⟨by rw [HF.out]; rfl, hx1⟩
            · have e1 : xs.take k = xs := List.take_of_length_le (by omega)
              have HAX : Hid (allIn xs 0 255 = true) := hid_ (by have := HIN.out; rw [e1] at this; exact allIn_iff.2 this)
              clear e1
              have h16 := hc16.out
              go_wp2_with fail
              go_loop [49] (fun i => ∃ k : Nat, k ≤ xs.length ∧ i = .int .i64 (k : Int) ∧ (xs.take k).Nodup) (fun i => xs.length - (intOf i).toNat)
              case atStart => exact ⟨0, by omega, rfl, by simp⟩
              case round =>
                obtain ⟨m, hm, rfl, hnd⟩ := hrel
                have HND := hid_ hnd
                clear hnd
                by_cases hlt2 : m < xs.length
                · obtain ⟨ad, u, rfl, -, hxk, hcell⟩ := (hs.ext hx1).at1 hlt2
                  obtain ⟨hkl, rfl⟩ := ints_at _ _ _ hxk
                  clear hxk
                  have HS2 := hid_ (nodup_take_succ hkl)
                  have HH := hid_ (fun W (hx : Ext w W) => has_any (xs.take m) (some ad) c m xs[m] W (by simp; omega) (by have := (hs.ext hx).take (k := m) (by omega); rwa [show (ints xs).take m = ints (xs.take m) by simp [ints]] at this))
                  have h16 := hc16.out
                  by_cases hmem : xs[m] ∈ xs.take m
                  · have hd : decide (xs[m] ∈ xs.take m) = true := by simpa using hmem
                    have HF := hid_ (HZ2.out HAX.out (fun hnn => (((HS2.out).1 (List.Nodup.sublist (List.take_sublist _ _) hnn)).2 hmem)))
                    rw [hd] at HH
                    clear hd hmem
                    go_wp2_with (go_at_call 74; (with_reducible refine (HH.out _ hx1).mono ?_); rintro e w' ⟨rfl, rfl⟩)
                    go_ret
                    exact ⟨by rw [HF.out]; rfl, hx1⟩
                  · have hd : decide (xs[m] ∈ xs.take m) = false := by simpa using hmem
                    have HN := hid_ (HS2.out.2 ⟨HND.out, hmem⟩)
                    rw [hd] at HH
                    clear hd hmem
                    go_wp2_with (go_at_call 74; (with_reducible refine (HH.out _ hx1).mono ?_); rintro e w' ⟨rfl, rfl⟩)
                    go_round
                    case rel => exact ⟨m + 1, by omega, by go_num, HN.out⟩
                    case measure => simp [intOf]; omega
                · have e1 : xs.take m = xs := List.take_of_length_le (by omega)
                  rw [e1] at HND
                  have HF := hid_ (HZ3.out HAX.out HND.out)
                  clear e1
                  cases hok : okW cs with
                  | true =>
                    rw [hok] at HF
                    have HW := hid_ (HWY.out HA.out hok)
                    clear hok
                    go_wp2_with (first
                      | (refine wpList_load_blk rfl 25 (.tmp 1) rfl _ rfl hb1 _ Tryz.underlying25 rfl 17 sizeTbl hts.out ?_)
                      | (go_at_call 65; (with_reducible refine (HW.out _).mono ?_); rintro e w2 ⟨B, d, rfl, hs2, hx2⟩))
                    go_ret
                    exact ⟨by rw [HF.out]; rfl, hx1.trans hx2⟩
                  | false =>
                    rw [hok] at HF
                    have HW := hid_ (HWN.out HA.out hok)
                    clear hok
                    go_wp2_with (first
                      | (refine wpList_load_blk rfl 25 (.tmp 1) rfl _ rfl hb1 _ Tryz.underlying25 rfl 17 sizeTbl hts.out ?_)
                      | (go_at_call 65; (with_reducible refine (HW.out _).mono ?_); rintro e w2 ⟨rfl, hx2⟩))
                    go_ret
                    exact ⟨by rw [HF.out]; rfl, hx1.trans hx2⟩
        · have h2' : (s != (xs.length : Int)) = true := by simpa using h2
          have HF := hid_ (HTN.out (fun h => h2 h.2))
          clear h2 h1
          go_wp2_with fail
          go_ret
          exact ⟨by rw [HF.out]; rfl, hx1⟩
      · have h1' : decide (256 < s) = true := by simp; omega
        have HF := hid_ (HTN.out (fun h => h1 h.1))
        clear h1
        go_wp2_with fail
        go_ret
        exact ⟨by rw [HF.out]; rfl, hx1⟩
end Go.Proofs.YtgmddhljgfbibaaGreatDoor
/- TablesCheck of the reference. -/
namespace Go.Proofs.YtgmddhljgfbibaaGreatDoor
set_option linter.unusedVariables false
set_option linter.unusedSimpArgs false
open Go.RowKit
set_option maxRecDepth 20000 in
set_option maxHeartbeats 4000000 in
theorem tablesCheck_any (t1 t2 : List Value) (z1 z2 : Int) (w : World) (h1 : t1.length = 17) (h2 : t2.length = 17)
    (C1 : ∀ W, Ext w W → Calls Tryz.prog 57 #[.agg t1.toArray] W fun e W' => e = .returned (.int .i64 z1) ∧ Ext W W')
    (C2 : ∀ W, Ext w W → Calls Tryz.prog 57 #[.agg t2.toArray] W fun e W' => e = .returned (.int .i64 z2) ∧ Ext W W') :
    Calls Tryz.prog 30 #[.agg (t1 ++ t2).toArray] w fun e w' => e = .returned (.int .i64 (if z1 = 0 then z2 else z1)) ∧ Ext w w' := by
  have HRT := hid_ (fun W g (hb : Blk W g 27 (t1 ++ t2).toArray) => range_two h1 hb)
  have hl1 := hid_ h1
  have hl2 := hid_ h2
  have HC1 := hid_ C1
  have HC2 := hid_ C2
  clear C1 C2 h1 h2
  generalize htt : (t1 ++ t2).toArray = tt at *
  clear htt
  by_cases hz : z1 = 0
  · rw [if_pos hz]
    subst hz
    go_enter Tryz.func30, Tryz.ntmps30
    go_wp2_with (first
      | (refine wpList_box_abs rfl 27 (.tmp 0) rfl tt rfl ?_; intro w1 g hb1 hx1 hg; have hr1 := (HRT.out _ _ hb1).1)
      | (refine wpList_load_mid rfl 25 (.tmp 4) rfl g 0 rfl t1 _ hr1 Tryz.underlying25 rfl (by rw [hl1.out]; exact sizeTbl) ?_)
      | (go_at_call 57; (with_reducible refine (HC1.out _ hx1).mono ?_); rintro e w2 ⟨rfl, hx2⟩; have hr2 := (HRT.out _ _ (hb1.ext hx2)).2)
      | (refine wpList_load_mid rfl 25 (.tmp 10) rfl g 17 rfl t2 _ hr2 Tryz.underlying25 rfl (by rw [hl2.out]; exact sizeTbl) ?_)
      | (go_at_call 57; (with_reducible refine (HC2.out _ (hx1.trans hx2)).mono ?_); rintro e w3 ⟨rfl, hx3⟩))
    go_ret
    exact ⟨rfl, (hx1.trans hx2).trans hx3⟩
  · rw [if_neg hz]
    have hz1 : (z1 != 0) = true := by simpa using hz
    go_enter Tryz.func30, Tryz.ntmps30
    go_wp2_with (first
      | (refine wpList_box_abs rfl 27 (.tmp 0) rfl tt rfl ?_; intro w1 g hb1 hx1 hg; have hr1 := (HRT.out _ _ hb1).1)
      | (refine wpList_load_mid rfl 25 (.tmp 4) rfl g 0 rfl t1 _ hr1 Tryz.underlying25 rfl (by rw [hl1.out]; exact sizeTbl) ?_)
      | (go_at_call 57; (with_reducible refine (HC1.out _ hx1).mono ?_); rintro e w2 ⟨rfl, hx2⟩))
    go_ret
    exact ⟨rfl, hx1.trans hx2⟩
end Go.Proofs.YtgmddhljgfbibaaGreatDoor
/- Facts on tables, strings, rows. -/
namespace Go.Proofs.YtgmddhljgfbibaaGreatDoor
set_option linter.unusedVariables false
set_option linter.unusedSimpArgs false
open Go.RowKit
theorem own_typed {w : World} {base size n : Nat} {e : TypeId} {v : Value} {xs : List Value} (h : w.ownsRow base e size v n xs) : ∀ g, v.ownBlock = some g → ∃ cs, w.heap[g]? = some (.cells cs e (0, 0)) := by
  obtain ⟨-, hh⟩ := h
  intro g hg
  rcases hh with ⟨rfl, -⟩ | ⟨k, cap, cur, rfl, -, hk, -⟩
  · simp [Value.ownBlock] at hg
  · have : k = g := by simpa [Value.ownBlock] using hg
    subst this
    exact ⟨_, hk⟩
theorem tblL_oneS (cs : List Int) (sl : Value) {w : World} {m : Nat} {xs : List Value} (h : SL w 1 sl m xs) : (tblL cs sl).toArray.all (·.oneCell') = true := by
  obtain ⟨A, c, rfl, -⟩ := h
  rw [List.all_toArray, List.all_eq_true]
  intro v hv
  unfold tblL at hv
  rcases List.mem_append.1 hv with hv | hv
  · obtain ⟨z, -, rfl⟩ := List.mem_map.1 hv
    rfl
  · simp at hv
    subst hv
    rfl
theorem run_strAdd (s u : ByteArray) (h1 : s.size ≤ 1000000) (h2 : u.size ≤ 1000000) (W : World) : (binOp .add 9 (.string s) (.string u)).run Tryz.prog W = .ok (.string (s ++ u)) W := by
  have h3 : s.size + u.size ≤ 9223372036854775807 := by omega
  have h4 : ((s.size : Int) + (u.size : Int)) ≤ 9223372036854775807 := by omega
  go_simp
theorem ex_strAdd {o : Oper} {a : Act} {x y : Operand} {t2 : TypeId} (ho : o.op = .binOp .add 9 x y t2) {s u : ByteArray} (hx : a.eval x = .string s) (hy : a.eval y = .string u) (h1 : s.size ≤ 1000000) (h2 : u.size ≤ 1000000) (w : World) : (execOp a.eval o).run Tryz.prog w = .ok (.value (.string (s ++ u))) w := by
  simp [execOp, ho, hx, hy, run_strAdd s u h1 h2 w, eqGuard]
theorem ints_headE (l : List Int) (h : 0 < l.length) : (ints l)[0]? = some (.int .i64 (l.getD 0 0)) := by
  cases l with
  | nil => simp at h
  | cons => rfl
theorem cellAt_extE {w w' : World} {p : Addr} {k : Nat} {v : Value} (h : Ext w w') (hb : p.block < w.heap.size) (hc : w.cell? (p.add k) = some v) : w'.cell? (p.add k) = some v := by
  rw [← hc]
  unfold World.cell?
  rw [block_of_add, h.block p.block hb]
end Go.Proofs.YtgmddhljgfbibaaGreatDoor
/- scan.Pieces, scanPieces of the reference. Printed by wip/gen/mkpieces.py. -/
namespace Go.Proofs.YtgmddhljgfbibaaGreatDoor
set_option linter.unusedVariables false
set_option linter.unusedSimpArgs false
open Go.RowKit
def PcErr (z : Int) (w : World) (e : Ending) (w' : World) : Prop := e = .returned (.tuple #[.slice none 0 0, .slice none 0 0, .int .i64 z]) ∧ Ext w w'
set_option maxRecDepth 20000 in
theorem pieces_range (tt : Array Value) (v : Value) (nn ev : Int) (w : World) (h : ev < 0 ∨ 100 < ev ∨ nn < 0 ∨ 400 < nn) : Calls Tryz.prog 22 #[.agg tt, v, .int .i64 nn, .int .i64 ev] w (PcErr 1 w) := by
  by_cases h15 : ev < 0
  · have H15 : Hid (decide (ev < 0) = true) := hid_ (by rw [decide_eq_true_eq]; omega)
    clear h h15
    go_enter Tryz.func22, Tryz.ntmps22
    go_wp2_with (first
      | (show wpList _ _ _ (⟨some 4, _, _, _, _, _⟩ :: _) _ _; refine wpList_box_abs rfl 27 (.tmp 0) rfl tt rfl ?_; intro w1 g hb1 hx1 hg)
      | (show wpList _ _ _ (⟨some 15, _, _, _, _, _⟩ :: _) _ _; refine wl_run rfl (.bool true) (ex_lss rfl rfl rfl H15.out) ?_))
    go_ret3
    exact ⟨rfl, hx1⟩
  · skip
    by_cases h18 : 100 < ev
    · have H15 : Hid (decide (ev < 0) = false) := hid_ (by rw [decide_eq_false_iff_not]; omega)
      have H18 : Hid (decide (100 < ev) = true) := hid_ (by rw [decide_eq_true_eq]; omega)
      clear h h15 h18
      go_enter Tryz.func22, Tryz.ntmps22
      go_wp2_with (first
        | (show wpList _ _ _ (⟨some 4, _, _, _, _, _⟩ :: _) _ _; refine wpList_box_abs rfl 27 (.tmp 0) rfl tt rfl ?_; intro w1 g hb1 hx1 hg)
        | (show wpList _ _ _ (⟨some 15, _, _, _, _, _⟩ :: _) _ _; refine wl_run rfl (.bool false) (ex_lss rfl rfl rfl H15.out) ?_)
        | (show wpList _ _ _ (⟨some 18, _, _, _, _, _⟩ :: _) _ _; refine wl_run_g (by rfl) (.bool true) (ex_gtr rfl rfl rfl H18.out) ?_))
      go_ret3
      exact ⟨rfl, hx1⟩
    · skip
      by_cases h22 : nn < 0
      · have H15 : Hid (decide (ev < 0) = false) := hid_ (by rw [decide_eq_false_iff_not]; omega)
        have H18 : Hid (decide (100 < ev) = false) := hid_ (by rw [decide_eq_false_iff_not]; omega)
        have H22 : Hid (decide (nn < 0) = true) := hid_ (by rw [decide_eq_true_eq]; omega)
        clear h h15 h18 h22
        go_enter Tryz.func22, Tryz.ntmps22
        go_wp2_with (first
          | (show wpList _ _ _ (⟨some 4, _, _, _, _, _⟩ :: _) _ _; refine wpList_box_abs rfl 27 (.tmp 0) rfl tt rfl ?_; intro w1 g hb1 hx1 hg)
          | (show wpList _ _ _ (⟨some 15, _, _, _, _, _⟩ :: _) _ _; refine wl_run rfl (.bool false) (ex_lss rfl rfl rfl H15.out) ?_)
          | (show wpList _ _ _ (⟨some 18, _, _, _, _, _⟩ :: _) _ _; refine wl_run_g (by rfl) (.bool false) (ex_gtr rfl rfl rfl H18.out) ?_)
          | (show wpList _ _ _ (⟨some 22, _, _, _, _, _⟩ :: _) _ _; refine wl_run_g (by rfl) (.bool true) (ex_lss rfl rfl rfl H22.out) ?_))
        go_ret3
        exact ⟨rfl, hx1⟩
      · skip
        have h26 : 400 < nn := by omega
        have H15 : Hid (decide (ev < 0) = false) := hid_ (by rw [decide_eq_false_iff_not]; omega)
        have H18 : Hid (decide (100 < ev) = false) := hid_ (by rw [decide_eq_false_iff_not]; omega)
        have H22 : Hid (decide (nn < 0) = false) := hid_ (by rw [decide_eq_false_iff_not]; omega)
        have H26 : Hid (decide (400 < nn) = true) := hid_ (by rw [decide_eq_true_eq]; omega)
        clear h h15 h18 h22 h26
        go_enter Tryz.func22, Tryz.ntmps22
        go_wp2_with (first
          | (show wpList _ _ _ (⟨some 4, _, _, _, _, _⟩ :: _) _ _; refine wpList_box_abs rfl 27 (.tmp 0) rfl tt rfl ?_; intro w1 g hb1 hx1 hg)
          | (show wpList _ _ _ (⟨some 15, _, _, _, _, _⟩ :: _) _ _; refine wl_run rfl (.bool false) (ex_lss rfl rfl rfl H15.out) ?_)
          | (show wpList _ _ _ (⟨some 18, _, _, _, _, _⟩ :: _) _ _; refine wl_run_g (by rfl) (.bool false) (ex_gtr rfl rfl rfl H18.out) ?_)
          | (show wpList _ _ _ (⟨some 22, _, _, _, _, _⟩ :: _) _ _; refine wl_run_g (by rfl) (.bool false) (ex_lss rfl rfl rfl H22.out) ?_)
          | (show wpList _ _ _ (⟨some 26, _, _, _, _, _⟩ :: _) _ _; refine wl_run_g (by rfl) (.bool true) (ex_gtr rfl rfl rfl H26.out) ?_))
        go_ret3
        exact ⟨rfl, hx1⟩
set_option maxRecDepth 20000 in
set_option maxHeartbeats 4000000 in
theorem pieces_bad (t1 t2 : List Value) (z1 z2 : Int) (v : Value) (nn ev : Int) (w : World) (he : 0 ≤ ev ∧ ev ≤ 100) (hn : 0 ≤ nn ∧ nn ≤ 400) (h1 : t1.length = 17) (h2 : t2.length = 17)
    (o1 : t1.toArray.all (·.oneCell') = true) (o2 : t2.toArray.all (·.oneCell') = true)
    (C1 : ∀ W, Ext w W → Calls Tryz.prog 18 #[.agg t1.toArray] W fun e W' => e = .returned (.int .i64 z1) ∧ Ext W W')
    (C2 : ∀ W, Ext w W → Calls Tryz.prog 18 #[.agg t2.toArray] W fun e W' => e = .returned (.int .i64 z2) ∧ Ext W W')
    (hne : (if z1 = 0 then z2 else z1) ≠ 0) :
    Calls Tryz.prog 22 #[.agg (t1 ++ t2).toArray, v, .int .i64 nn, .int .i64 ev] w (PcErr (if z1 = 0 then z2 else z1) w) := by
  have hl1 := hid_ h1
  have hl2 := hid_ h2
  have HB2 := hid_ (built2 t1 t2 h1 h2)
  have HRT := hid_ (fun W g (hb : Blk W g 25 (t1 ++ t2).toArray) => range_two h1 hb)
  have HRU := hid_ (fun W g (hb : Blk W g 27 (t1 ++ t2).toArray) => range_two h1 hb)
  have hs1 : Hid (t1.toArray.size = 17) := hid_ (by simpa using h1)
  have hs2 : Hid (t2.toArray.size = 17) := hid_ (by simpa using h2)
  have hz17 : Hid ((ints (List.replicate 16 0) ++ [Value.slice none 0 0]).toArray.size = 17) := hid_ (by simp [ints])
  have HO1 := hid_ o1
  have HO2 := hid_ o2
  have HC1 := hid_ C1
  have HC2 := hid_ C2
  have H15 : Hid (decide (ev < 0) = false) := hid_ (by rw [decide_eq_false_iff_not]; omega)
  have H18 : Hid (decide (100 < ev) = false) := hid_ (by rw [decide_eq_false_iff_not]; omega)
  have H22 : Hid (decide (nn < 0) = false) := hid_ (by rw [decide_eq_false_iff_not]; omega)
  have H26 : Hid (decide (400 < nn) = false) := hid_ (by rw [decide_eq_false_iff_not]; omega)
  clear o1 o2 C1 C2 h1 h2 he hn
  generalize hR : (if z1 = 0 then z2 else z1) = R at *
  have HR := hid_ hR
  have HNE := hid_ hne
  clear hR hne
  go_enter Tryz.func22, Tryz.ntmps22
  go_wp2_with (first
    | (show wpList _ _ _ (⟨some 4, _, _, _, _, _⟩ :: _) _ _; refine wpList_box_abs rfl 27 (.tmp 0) rfl (t1 ++ t2).toArray rfl ?_; intro w1 g hb1 hx1 hg; have hr1 := HRU.out _ _ hb1)
    | (show wpList _ _ _ (⟨some 15, _, _, _, _, _⟩ :: _) _ _; refine wl_run rfl (.bool false) (ex_lss rfl rfl rfl H15.out) ?_)
    | (show wpList _ _ _ (⟨some 18, _, _, _, _, _⟩ :: _) _ _; refine wl_run_g (by rfl) (.bool false) (ex_gtr rfl rfl rfl H18.out) ?_)
    | (show wpList _ _ _ (⟨some 22, _, _, _, _, _⟩ :: _) _ _; refine wl_run_g (by rfl) (.bool false) (ex_lss rfl rfl rfl H22.out) ?_)
    | (show wpList _ _ _ (⟨some 26, _, _, _, _, _⟩ :: _) _ _; refine wl_run_g (by rfl) (.bool false) (ex_gtr rfl rfl rfl H26.out) ?_)
    | (show wpList _ _ _ (⟨some 29, _, _, _, _, _⟩ :: _) _ _; refine wpList_load_mid rfl 25 (.tmp 28) rfl g 0 rfl t1 _ hr1.1 Tryz.underlying25 rfl (by rw [hl1.out]; exact sizeTbl) ?_)
    | (show wpList _ _ _ (⟨some 31, _, _, _, _, _⟩ :: _) _ _; refine wpList_load_mid rfl 25 (.tmp 30) rfl g 17 rfl t2 _ hr1.2 Tryz.underlying25 rfl (by rw [hl2.out]; exact sizeTbl) ?_)
    | (show wpList _ _ _ (⟨some 32, _, _, _, _, _⟩ :: _) _ _; refine Go.Great.wpList_buildSliceTo rfl 53 25 2 _ rfl _ rfl (some 32) rfl Tryz.underlying53 _ (by simp [Act.eval]; exact HB2.out) ?_))
  have hbn0 := Blk.new w1 25 (t1 ++ t2).toArray
  have hb3 := hb1.alloc (.cells (t1 ++ t2).toArray 25)
  have hx3 := hx1.alloc (.cells (t1 ++ t2).toArray 25)
  clear hb1 hr1 hx1
  go_loopw [34] (fun i wr => ∃ k : Nat, k ≤ 2 ∧ i = .int .i64 (k : Int) ∧ (1 ≤ k → z1 = 0) ∧ (2 ≤ k → z2 = 0) ∧ Blk wr g 27 (t1 ++ t2).toArray ∧ Blk wr w1.heap.size 25 (t1 ++ t2).toArray ∧ Ext w wr) (fun i _ => 2 - (intOf i).toNat)
  case atStart => exact ⟨0, by omega, rfl, fun h => absurd h (by omega), fun h => absurd h (by omega), hb3, hbn0, hx3⟩
  case round =>
    clear hb3 hbn0 hx3
    obtain ⟨k, hk, rfl, e1, e2, hb, hbn, hx⟩ := hrel
    rcases (by omega : k = 0 ∨ k = 1 ∨ k = 2) with rfl | rfl | rfl
    · have hr := (HRT.out _ _ hbn).1
      by_cases hz : z1 = 0
      · subst hz
        go_wp2_with (first
          | (show wpList _ _ _ (⟨some 37, _, _, _, _, _⟩ :: _) _ _; refine wpList_load_mid rfl 25 (.tmp 36) rfl _ 0 rfl t1 _ hr Tryz.underlying25 rfl (by rw [hl1.out]; exact sizeTbl) ?_)
          | (show wpList _ _ _ (⟨some 12, _, _, _, _, _⟩ :: _) _ _; refine wpList_alloc_abs' rfl (some 12) rfl 25 rfl _ zeroTbl ?_; intro w4 ga hba4 hx4 hga)
          | (show wpList _ _ _ (⟨none, .store _ (.tmp 12) (.tmp 37), _, _, _, _⟩ :: _) _ _; refine wpList_store_blk rfl 25 (.tmp 12) (.tmp 37) rfl _ _ rfl rfl hba4 17 sizeTbl hs1.out hz17.out HO1.out ?_; intro w5 hba5 hg5; have hx5 := (hx.trans hx4).grown hg5 (by have := hx.size; omega))
          | (show wpList _ _ _ (⟨some 38, _, _, _, _, _⟩ :: _) _ _; refine wpList_load_blk rfl 25 (.tmp 12) rfl _ rfl hba5 _ Tryz.underlying25 rfl 17 sizeTbl hs1.out ?_)
          | (go_at_call 18; (with_reducible refine (HC1.out _ hx5).mono ?_); rintro e w6 ⟨rfl, hx6⟩))
        go_roundw
        case rel => exact ⟨1, by omega, by go_num, by simp, fun h => absurd h (by omega), ((hb.ext hx4).grown hg5 (by have := hb.lt; simp; omega)).ext hx6, ((hbn.ext hx4).grown hg5 (by have := hbn.lt; simp; omega)).ext hx6, hx5.trans hx6⟩
        case measure => simp [intOf]
      · have hz1 : (z1 != 0) = true := by simpa using hz
        have HZ := hid_ hz
        clear hz
        go_wp2_with (first
          | (show wpList _ _ _ (⟨some 37, _, _, _, _, _⟩ :: _) _ _; refine wpList_load_mid rfl 25 (.tmp 36) rfl _ 0 rfl t1 _ hr Tryz.underlying25 rfl (by rw [hl1.out]; exact sizeTbl) ?_)
          | (show wpList _ _ _ (⟨some 12, _, _, _, _, _⟩ :: _) _ _; refine wpList_alloc_abs' rfl (some 12) rfl 25 rfl _ zeroTbl ?_; intro w4 ga hba4 hx4 hga)
          | (show wpList _ _ _ (⟨none, .store _ (.tmp 12) (.tmp 37), _, _, _, _⟩ :: _) _ _; refine wpList_store_blk rfl 25 (.tmp 12) (.tmp 37) rfl _ _ rfl rfl hba4 17 sizeTbl hs1.out hz17.out HO1.out ?_; intro w5 hba5 hg5; have hx5 := (hx.trans hx4).grown hg5 (by have := hx.size; omega))
          | (show wpList _ _ _ (⟨some 38, _, _, _, _, _⟩ :: _) _ _; refine wpList_load_blk rfl 25 (.tmp 12) rfl _ rfl hba5 _ Tryz.underlying25 rfl 17 sizeTbl hs1.out ?_)
          | (go_at_call 18; (with_reducible refine (HC1.out _ hx5).mono ?_); rintro e w6 ⟨rfl, hx6⟩))
        go_ret3
        refine ⟨?_, hx5.trans hx6⟩
        rw [← HR.out, if_neg HZ.out]
        rfl
    · have hr := (HRT.out _ _ hbn).2
      have hz0 := e1 (by omega)
      have hz2 : z2 = R := by rw [← HR.out, if_pos hz0]
      have hzb : (z2 != 0) = true := by rw [hz2]; simpa using HNE.out
      have HZ2 := hid_ hz2
      clear hz0 e1 e2 hz2
      go_wp2_with (first
        | (show wpList _ _ _ (⟨some 37, _, _, _, _, _⟩ :: _) _ _; refine wpList_load_mid rfl 25 (.tmp 36) rfl _ 17 rfl t2 _ hr Tryz.underlying25 rfl (by rw [hl2.out]; exact sizeTbl) ?_)
        | (show wpList _ _ _ (⟨some 12, _, _, _, _, _⟩ :: _) _ _; refine wpList_alloc_abs' rfl (some 12) rfl 25 rfl _ zeroTbl ?_; intro w4 ga hba4 hx4 hga)
        | (show wpList _ _ _ (⟨none, .store _ (.tmp 12) (.tmp 37), _, _, _, _⟩ :: _) _ _; refine wpList_store_blk rfl 25 (.tmp 12) (.tmp 37) rfl _ _ rfl rfl hba4 17 sizeTbl hs2.out hz17.out HO2.out ?_; intro w5 hba5 hg5; have hx5 := (hx.trans hx4).grown hg5 (by have := hx.size; omega))
        | (show wpList _ _ _ (⟨some 38, _, _, _, _, _⟩ :: _) _ _; refine wpList_load_blk rfl 25 (.tmp 12) rfl _ rfl hba5 _ Tryz.underlying25 rfl 17 sizeTbl hs2.out ?_)
        | (go_at_call 18; (with_reducible refine (HC2.out _ hx5).mono ?_); rintro e w6 ⟨rfl, hx6⟩))
      go_ret3
      refine ⟨?_, hx5.trans hx6⟩
      rw [← HZ2.out]
      rfl
    · exact absurd (by rw [← HR.out, if_pos (e1 (by omega)), e2 (by omega)]) HNE.out
set_option maxRecDepth 20000 in
set_option maxHeartbeats 8000000 in
theorem pieces_good (t1 t2 : List Value) (v : Value) (bs : List Nat) (nn ev : Int) (w : World) (he : 0 ≤ ev ∧ ev ≤ 100) (hn : 0 ≤ nn ∧ nn ≤ 400) (hs : SL w 1 v bs.length (bytesV bs)) (hlt : ∀ b ∈ bs, b < 256) (hl : bs.length ≤ 1048576) (h1 : t1.length = 17) (h2 : t2.length = 17)
    (o1 : t1.toArray.all (·.oneCell') = true) (o2 : t2.toArray.all (·.oneCell') = true)
    (C1 : ∀ W, Ext w W → Calls Tryz.prog 18 #[.agg t1.toArray] W fun e W' => e = .returned (.int .i64 0) ∧ Ext W W')
    (C2 : ∀ W, Ext w W → Calls Tryz.prog 18 #[.agg t2.toArray] W fun e W' => e = .returned (.int .i64 0) ∧ Ext W W') :
    Calls Tryz.prog 22 #[.agg (t1 ++ t2).toArray, v, .int .i64 nn, .int .i64 ev] w (SpIsN (spGo bs [] [] []) w) := by
  have hl1 := hid_ h1
  have hl2 := hid_ h2
  have HB2 := hid_ (built2 t1 t2 h1 h2)
  have HRT := hid_ (fun W g (hb : Blk W g 25 (t1 ++ t2).toArray) => range_two h1 hb)
  have HRU := hid_ (fun W g (hb : Blk W g 27 (t1 ++ t2).toArray) => range_two h1 hb)
  have hs1 : Hid (t1.toArray.size = 17) := hid_ (by simpa using h1)
  have hs2 : Hid (t2.toArray.size = 17) := hid_ (by simpa using h2)
  have hz17 : Hid ((ints (List.replicate 16 0) ++ [Value.slice none 0 0]).toArray.size = 17) := hid_ (by simp [ints])
  have HO1 := hid_ o1
  have HO2 := hid_ o2
  have HC1 := hid_ C1
  have HC2 := hid_ C2
  have H15 : Hid (decide (ev < 0) = false) := hid_ (by rw [decide_eq_false_iff_not]; omega)
  have H18 : Hid (decide (100 < ev) = false) := hid_ (by rw [decide_eq_false_iff_not]; omega)
  have H22 : Hid (decide (nn < 0) = false) := hid_ (by rw [decide_eq_false_iff_not]; omega)
  have H26 : Hid (decide (400 < nn) = false) := hid_ (by rw [decide_eq_false_iff_not]; omega)
  have HSP := hid_ (fun W (h : Ext w W) => split_anyN bs v W (hs.ext h) hlt hl)
  generalize spGo bs [] [] [] = z at *
  clear o1 o2 C1 C2 h1 h2 he hn hs hlt hl
  go_enter Tryz.func22, Tryz.ntmps22
  go_wp2_with (first
    | (show wpList _ _ _ (⟨some 4, _, _, _, _, _⟩ :: _) _ _; refine wpList_box_abs rfl 27 (.tmp 0) rfl (t1 ++ t2).toArray rfl ?_; intro w1 g hb1 hx1 hg; have hr1 := HRU.out _ _ hb1)
    | (show wpList _ _ _ (⟨some 15, _, _, _, _, _⟩ :: _) _ _; refine wl_run rfl (.bool false) (ex_lss rfl rfl rfl H15.out) ?_)
    | (show wpList _ _ _ (⟨some 18, _, _, _, _, _⟩ :: _) _ _; refine wl_run_g (by rfl) (.bool false) (ex_gtr rfl rfl rfl H18.out) ?_)
    | (show wpList _ _ _ (⟨some 22, _, _, _, _, _⟩ :: _) _ _; refine wl_run_g (by rfl) (.bool false) (ex_lss rfl rfl rfl H22.out) ?_)
    | (show wpList _ _ _ (⟨some 26, _, _, _, _, _⟩ :: _) _ _; refine wl_run_g (by rfl) (.bool false) (ex_gtr rfl rfl rfl H26.out) ?_)
    | (show wpList _ _ _ (⟨some 29, _, _, _, _, _⟩ :: _) _ _; refine wpList_load_mid rfl 25 (.tmp 28) rfl g 0 rfl t1 _ hr1.1 Tryz.underlying25 rfl (by rw [hl1.out]; exact sizeTbl) ?_)
    | (show wpList _ _ _ (⟨some 31, _, _, _, _, _⟩ :: _) _ _; refine wpList_load_mid rfl 25 (.tmp 30) rfl g 17 rfl t2 _ hr1.2 Tryz.underlying25 rfl (by rw [hl2.out]; exact sizeTbl) ?_)
    | (show wpList _ _ _ (⟨some 32, _, _, _, _, _⟩ :: _) _ _; refine Go.Great.wpList_buildSliceTo rfl 53 25 2 _ rfl _ rfl (some 32) rfl Tryz.underlying53 _ (by simp [Act.eval]; exact HB2.out) ?_))
  have hbn0 := Blk.new w1 25 (t1 ++ t2).toArray
  have hb3 := hb1.alloc (.cells (t1 ++ t2).toArray 25)
  have hx3 := hx1.alloc (.cells (t1 ++ t2).toArray 25)
  clear hb1 hr1 hx1
  go_loopw [34] (fun i wr => ∃ k : Nat, k ≤ 2 ∧ i = .int .i64 (k : Int) ∧ Blk wr g 27 (t1 ++ t2).toArray ∧ Blk wr w1.heap.size 25 (t1 ++ t2).toArray ∧ Ext w wr) (fun i _ => 2 - (intOf i).toNat)
  case atStart => exact ⟨0, by omega, rfl, hb3, hbn0, hx3⟩
  case round =>
    clear hb3 hbn0 hx3
    obtain ⟨k, hk, rfl, hb, hbn, hx⟩ := hrel
    rcases (by omega : k = 0 ∨ k = 1 ∨ k = 2) with rfl | rfl | rfl
    · have hr := (HRT.out _ _ hbn).1
      go_wp2_with (first
        | (show wpList _ _ _ (⟨some 37, _, _, _, _, _⟩ :: _) _ _; refine wpList_load_mid rfl 25 (.tmp 36) rfl _ 0 rfl t1 _ hr Tryz.underlying25 rfl (by rw [hl1.out]; exact sizeTbl) ?_)
        | (show wpList _ _ _ (⟨some 12, _, _, _, _, _⟩ :: _) _ _; refine wpList_alloc_abs' rfl (some 12) rfl 25 rfl _ zeroTbl ?_; intro w4 ga hba4 hx4 hga)
        | (show wpList _ _ _ (⟨none, .store _ (.tmp 12) (.tmp 37), _, _, _, _⟩ :: _) _ _; refine wpList_store_blk rfl 25 (.tmp 12) (.tmp 37) rfl _ _ rfl rfl hba4 17 sizeTbl hs1.out hz17.out HO1.out ?_; intro w5 hba5 hg5; have hx5 := (hx.trans hx4).grown hg5 (by have := hx.size; omega))
        | (show wpList _ _ _ (⟨some 38, _, _, _, _, _⟩ :: _) _ _; refine wpList_load_blk rfl 25 (.tmp 12) rfl _ rfl hba5 _ Tryz.underlying25 rfl 17 sizeTbl hs1.out ?_)
        | (go_at_call 18; (with_reducible refine (HC1.out _ hx5).mono ?_); rintro e w6 ⟨rfl, hx6⟩))
      go_roundw
      case rel => exact ⟨1, by omega, by go_num, ((hb.ext hx4).grown hg5 (by have := hb.lt; simp; omega)).ext hx6, ((hbn.ext hx4).grown hg5 (by have := hbn.lt; simp; omega)).ext hx6, hx5.trans hx6⟩
      case measure => simp [intOf]
    · have hr := (HRT.out _ _ hbn).2
      go_wp2_with (first
        | (show wpList _ _ _ (⟨some 37, _, _, _, _, _⟩ :: _) _ _; refine wpList_load_mid rfl 25 (.tmp 36) rfl _ 17 rfl t2 _ hr Tryz.underlying25 rfl (by rw [hl2.out]; exact sizeTbl) ?_)
        | (show wpList _ _ _ (⟨some 12, _, _, _, _, _⟩ :: _) _ _; refine wpList_alloc_abs' rfl (some 12) rfl 25 rfl _ zeroTbl ?_; intro w4 ga hba4 hx4 hga)
        | (show wpList _ _ _ (⟨none, .store _ (.tmp 12) (.tmp 37), _, _, _, _⟩ :: _) _ _; refine wpList_store_blk rfl 25 (.tmp 12) (.tmp 37) rfl _ _ rfl rfl hba4 17 sizeTbl hs2.out hz17.out HO2.out ?_; intro w5 hba5 hg5; have hx5 := (hx.trans hx4).grown hg5 (by have := hx.size; omega))
        | (show wpList _ _ _ (⟨some 38, _, _, _, _, _⟩ :: _) _ _; refine wpList_load_blk rfl 25 (.tmp 12) rfl _ rfl hba5 _ Tryz.underlying25 rfl 17 sizeTbl hs2.out ?_)
        | (go_at_call 18; (with_reducible refine (HC2.out _ hx5).mono ?_); rintro e w6 ⟨rfl, hx6⟩))
      go_roundw
      case rel => exact ⟨2, by omega, by go_num, ((hb.ext hx4).grown hg5 (by have := hb.lt; simp; omega)).ext hx6, ((hbn.ext hx4).grown hg5 (by have := hbn.lt; simp; omega)).ext hx6, hx5.trans hx6⟩
      case measure => simp [intOf]
    · clear HRT HRU HB2 HC1 HC2 hbn hs1 hs2 hz17 HO1 HO2 hl1 hl2
      cases z with
      | none =>
        go_wp2_with (first
          | (go_at_call 48; (with_reducible refine (HSP.out _ hx).mono ?_); rintro e w2 ⟨rfl, hx2⟩))
        go_ret3
        exact ⟨rfl, hx.trans hx2⟩
      | some q =>
        obtain ⟨P, M⟩ := q
        go_wp2_with (first
          | (go_at_call 48; (with_reducible refine (HSP.out _ hx).mono ?_); rintro e w2 ⟨A, c, B, d, VS, rfl, k1, k2, k3, hx2, k4⟩))
        go_ret3
        exact ⟨A, c, B, d, VS, rfl, k1, k2, k3, hx.trans hx2, k4⟩
set_option maxRecDepth 20000 in
theorem rpieces_range (tt : Array Value) (v : Value) (nn ev : Int) (w : World) (h : ev < 0 ∨ 100 < ev ∨ nn < 0 ∨ 400 < nn) : Calls Tryz.prog 15 #[.agg tt, v, .int .i64 nn, .int .i64 ev] w (PcErr 1 w) := by
  have HE := hid_ (fun W => outside_any ev 0 100 W)
  have HN := hid_ (fun W => outside_any nn 0 400 W)
  cases he : inB ev 0 100 with
  | false =>
    rw [he] at HE
    clear h he HN
    go_enter Tryz.func15, Tryz.ntmps15
    go_wp2_with (first
      | (show wpList _ _ _ (⟨some 4, _, _, _, _, _⟩ :: _) _ _; refine wpList_box_abs rfl 27 (.tmp 0) rfl tt rfl ?_; intro w1 g hb1 hx1 hg)
      | (go_at_call 29; (with_reducible refine (HE.out _).mono ?_); rintro e w' ⟨rfl, rfl⟩))
    go_ret3
    exact ⟨rfl, hx1⟩
  | true =>
    have h3 := inB_iff.1 he
    have hn : inB nn 0 400 = false := by
      cases hq : inB nn 0 400 with
      | false => rfl
      | true => have := inB_iff.1 hq; omega
    rw [he] at HE
    rw [hn] at HN
    clear h h3 he hn
    go_enter Tryz.func15, Tryz.ntmps15
    go_wp2_with (first
      | (show wpList _ _ _ (⟨some 4, _, _, _, _, _⟩ :: _) _ _; refine wpList_box_abs rfl 27 (.tmp 0) rfl tt rfl ?_; intro w1 g hb1 hx1 hg)
      | (go_at_call 29; (with_reducible refine (HE.out _).mono ?_); rintro e w' ⟨rfl, rfl⟩)
      | (go_at_call 29; (with_reducible refine (HN.out _).mono ?_); rintro e w' ⟨rfl, rfl⟩))
    go_ret3
    exact ⟨rfl, hx1⟩
set_option maxRecDepth 20000 in
theorem rpieces_bad (tt : Array Value) (hsz0 : tt.size = 34) (z : Int) (hz : z ≠ 0) (v : Value) (nn ev : Int) (w : World) (he : 0 ≤ ev ∧ ev ≤ 100) (hn : 0 ≤ nn ∧ nn ≤ 400)
    (CT : ∀ W, Ext w W → Calls Tryz.prog 30 #[.agg tt] W fun e W' => e = .returned (.int .i64 z) ∧ Ext W W') : Calls Tryz.prog 15 #[.agg tt, v, .int .i64 nn, .int .i64 ev] w (PcErr z w) := by
  have HE := hid_ (fun W => outside_any ev 0 100 W)
  have HN := hid_ (fun W => outside_any nn 0 400 W)
  rw [inB_iff.2 he] at HE
  rw [inB_iff.2 hn] at HN
  have HCT := hid_ CT
  have hsz := hid_ hsz0
  have hzb : (z != 0) = true := by simpa using hz
  clear hsz0 CT hz he hn
  go_enter Tryz.func15, Tryz.ntmps15
  go_wp2_with (first
    | (show wpList _ _ _ (⟨some 4, _, _, _, _, _⟩ :: _) _ _; refine wpList_box_abs rfl 27 (.tmp 0) rfl tt rfl ?_; intro w1 g hb1 hx1 hg)
    | (go_at_call 29; (with_reducible refine (HE.out _).mono ?_); rintro e w' ⟨rfl, rfl⟩)
    | (go_at_call 29; (with_reducible refine (HN.out _).mono ?_); rintro e w' ⟨rfl, rfl⟩)
    | (show wpList _ _ _ (⟨some 18, _, _, _, _, _⟩ :: _) _ _; refine wpList_load_blk rfl 27 (.tmp 4) rfl g rfl hb1 _ Tryz.underlying27 rfl 34 sizeTbls hsz.out ?_)
    | (go_at_call 30; (with_reducible refine (HCT.out _ hx1).mono ?_); rintro e w2 ⟨rfl, hx2⟩))
  go_ret3
  exact ⟨rfl, hx1.trans hx2⟩
set_option maxRecDepth 20000 in
theorem rpieces_good (tt : Array Value) (hsz0 : tt.size = 34) (v : Value) (bs : List Nat) (nn ev : Int) (w : World) (he : 0 ≤ ev ∧ ev ≤ 100) (hn : 0 ≤ nn ∧ nn ≤ 400) (hs : SL w 1 v bs.length (bytesV bs)) (hlt : ∀ b ∈ bs, b < 256) (hl : bs.length ≤ 1048576)
    (CT : ∀ W, Ext w W → Calls Tryz.prog 30 #[.agg tt] W fun e W' => e = .returned (.int .i64 0) ∧ Ext W W') : Calls Tryz.prog 15 #[.agg tt, v, .int .i64 nn, .int .i64 ev] w (SpIs (spGo bs [] [] []) w) := by
  have HE := hid_ (fun W => outside_any ev 0 100 W)
  have HN := hid_ (fun W => outside_any nn 0 400 W)
  rw [inB_iff.2 he] at HE
  rw [inB_iff.2 hn] at HN
  have HCT := hid_ CT
  have hsz := hid_ hsz0
  have HSP := hid_ (fun W (h : Ext w W) => rsplit_any bs v W (hs.ext h) hlt hl)
  generalize spGo bs [] [] [] = z at *
  clear hsz0 CT he hn hs hlt hl
  cases z with
  | none =>
    go_enter Tryz.func15, Tryz.ntmps15
    go_wp2_with (first
      | (show wpList _ _ _ (⟨some 4, _, _, _, _, _⟩ :: _) _ _; refine wpList_box_abs rfl 27 (.tmp 0) rfl tt rfl ?_; intro w1 g hb1 hx1 hg)
      | (go_at_call 29; (with_reducible refine (HE.out _).mono ?_); rintro e w' ⟨rfl, rfl⟩)
      | (go_at_call 29; (with_reducible refine (HN.out _).mono ?_); rintro e w' ⟨rfl, rfl⟩)
      | (show wpList _ _ _ (⟨some 18, _, _, _, _, _⟩ :: _) _ _; refine wpList_load_blk rfl 27 (.tmp 4) rfl g rfl hb1 _ Tryz.underlying27 rfl 34 sizeTbls hsz.out ?_)
      | (go_at_call 30; (with_reducible refine (HCT.out _ hx1).mono ?_); rintro e w2 ⟨rfl, hx2⟩; have hx2' := hx1.trans hx2)
      | (go_at_call 31; (with_reducible refine (HSP.out _ hx2').mono ?_); rintro e w3 ⟨rfl, hx3⟩))
    go_ret3
    exact ⟨rfl, hx2'.trans hx3⟩
  | some q =>
    obtain ⟨P, M⟩ := q
    go_enter Tryz.func15, Tryz.ntmps15
    go_wp2_with (first
      | (show wpList _ _ _ (⟨some 4, _, _, _, _, _⟩ :: _) _ _; refine wpList_box_abs rfl 27 (.tmp 0) rfl tt rfl ?_; intro w1 g hb1 hx1 hg)
      | (go_at_call 29; (with_reducible refine (HE.out _).mono ?_); rintro e w' ⟨rfl, rfl⟩)
      | (go_at_call 29; (with_reducible refine (HN.out _).mono ?_); rintro e w' ⟨rfl, rfl⟩)
      | (show wpList _ _ _ (⟨some 18, _, _, _, _, _⟩ :: _) _ _; refine wpList_load_blk rfl 27 (.tmp 4) rfl g rfl hb1 _ Tryz.underlying27 rfl 34 sizeTbls hsz.out ?_)
      | (go_at_call 30; (with_reducible refine (HCT.out _ hx1).mono ?_); rintro e w2 ⟨rfl, hx2⟩; have hx2' := hx1.trans hx2)
      | (go_at_call 31; (with_reducible refine (HSP.out _ hx2').mono ?_); rintro e w3 ⟨A, c, B, d, VS, rfl, k1, k2, k3, hx3⟩))
    go_ret3
    exact ⟨A, c, B, d, VS, rfl, k1, k2, k3, hx2'.trans hx3⟩
end Go.Proofs.YtgmddhljgfbibaaGreatDoor
