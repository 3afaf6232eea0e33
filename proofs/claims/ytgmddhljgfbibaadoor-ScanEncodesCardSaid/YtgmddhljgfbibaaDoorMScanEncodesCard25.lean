/- Contracts for the law ScanEncodesCard, part 25: what the functions that it reaches answer, for all arguments that the theorems name. -/
import Derived.Test.YtgmddhljgfbibaaDoorMScanEncodesCard19
import Derived.Test.YtgmddhljgfbibaaDoorMScanEncodesCard24
import Derived.Test.YtgmddhljgfbibaaDoorMScanEncodesCard12
import Derived.Test.YtgmddhljgfbibaaDoorMScanEncodesCard10
import Derived.Test.YtgmddhljgfbibaaDoorMScanEncodesCard1
import Derived.Outline
import Derived.Test.YtgmddhljgfbibaaDoorMScanEncodesCard13
import Derived.Test.YtgmddhljgfbibaaDoorMScanEncodesCard18
/- symOf of the reference. -/
namespace Go.Proofs.YtgmddhljgfbibaaDoor
set_option linter.unusedVariables false
set_option linter.unusedSimpArgs false
open Go.RowKit
section
variable {o : Oper} {a : Act}
theorem run_loadIs (W : World) (p : Addr) (A : Option Addr) (n c : Nat) (h : W.cell? p = some (.slice A n c)) : (Instr.loadAt 30 (.pointer (some p))).run Tryd.prog W = .ok (.slice A n c) W := by
  go_simp
theorem ex_loadIs {x : Operand} (ho : o.op = .load 30 x) {p : Addr} (hx : a.eval x = .pointer (some p)) {A : Option Addr} {n c : Nat} {w : World} (h : w.cell? p = some (.slice A n c)) : (execOp a.eval o).run Tryd.prog w = .ok (.value (.slice A n c)) w := by
  simp [execOp, ho, hx, run_loadIs w p A n c h]
end
theorem preB_wordIn (B : List Bool) (x : Int) (l c : Nat) (hc : c < 2 ^ l) : preB B (digs c l) = wordIn B 0 (x, (l : Int), (c : Int)) := by
  unfold preB wordIn
  rw [digs_len]
  simp only [Int.toNat_natCast, Nat.zero_add, List.drop_zero]
  by_cases h : l ≤ B.length
  · simp only [h, decide_true, Bool.true_and]
    rw [Bool.eq_iff_iff]
    simp only [decide_eq_true_eq, beq_iff_eq]
    constructor
    · intro e; rw [e, numB_digs_lt hc]
    · intro e
      refine numB_inj (by rw [List.length_take, digs_len]; omega) ?_
      rw [numB_digs_lt hc]
      exact_mod_cast e
  · simp [h]
theorem sym_hit {T : List Tok} {D : List Bool} {p k : Nat} (hk : k < T.length) (hno : ∀ t ∈ T.take k, wordIn D p t = false) (h : wordIn D p T[k] = true) : symZ T D p = (T[k].1, p + T[k].2.1.toNat, 0) := by
  refine symZ_some ?_
  rw [List.find?_eq_some_iff_append]
  refine ⟨h, T.take k, T.drop (k + 1), ?_, fun a ha => by simp [hno a ha]⟩
  rw [← List.drop_eq_getElem_cons hk, List.take_append_drop]
theorem sym_miss {T : List Tok} {D : List Bool} {p : Nat} (hno : ∀ t ∈ T, wordIn D p t = false) : symZ T D p = (0, p, if D.length < p + 16 then 3 else 4) := by
  refine symZ_none ?_
  rw [List.find?_eq_none]
  intro a ha
  simp [hno a ha]
set_option maxRecDepth 20000 in
set_option maxHeartbeats 2000000 in
theorem symOf_any (cs xs : List Int) (sl : Value) (B : List Bool) (w : World) (hl : cs.length = 16) (hs : SL w 1 sl xs.length (ints xs)) (h : checkZ cs xs = 0) (hB : B.length ≤ 10000000000000) :
    Calls Tryd.prog 45 #[.agg (tblv cs sl), .string (strB B)] w fun e w' => e = .returned (.tuple #[.int .i64 (symZ (zipC (codesW cs 16) xs) B 0).1, .string (if (symZ (zipC (codesW cs 16) xs) B 0).2.2 = 0 then strB (B.drop (symZ (zipC (codesW cs 16) xs) B 0).2.1) else ⟨#[]⟩), .int .i64 (symZ (zipC (codesW cs 16) xs) B 0).2.2]) ∧ Ext w w' := by
  obtain ⟨hal, hsum, hx256, hok, -, -⟩ := checkZ_zero h
  obtain ⟨-, hfit, -⟩ := coder_facts cs xs hl h
  have HF := hid_ (codesW_fit cs hok hl 16 (by omega))
  have hlast := hid_ (fun W g (h : Blk W g 32 (tblv cs sl)) => tblv_last h hl)
  have hts := hid_ (tblv_size cs sl hl)
  have HWO := hid_ (fun W => wordsOf_yes cs sl W hl hal hok)
  have hlen : (codesW cs 16).length = xs.length := by have := codesW_len cs (fun z hz => (allIn_iff.1 hal z hz).1) 16 (by omega); omega
  have hol := outW_len cs
  rw [hlen] at hol
  rw [hol] at HWO
  have HAT := hid_ (outW_at cs)
  have HZA := hid_ (zipC_at (codesW cs 16) xs)
  have HZL : Hid ((zipC (codesW cs 16) xs).length = xs.length) := hid_ (by rw [zipC_len _ _ (by omega), hlen])
  have HCL := hid_ hlen
  have hs' := hs
  obtain ⟨A, c, rfl, hc1, hc2, -, -⟩ := hs'
  have HPR := hid_ (fun l k W (h1 : l ≤ 100) => prefix_any B (digs k l) W hB (by rw [digs_len]; omega))
  have HPW := hid_ (preB_wordIn B)
  have HSX := hid_ (strB_extract B)
  have HSS := hid_ (strB_size B)
  have HZZ : Hid (∀ z, z = symZ (zipC (codesW cs 16) xs) B 0 → True) := hid_ (fun _ _ => trivial)
  generalize tblv cs (.slice A xs.length c) = tv at *
  generalize strs (outW cs 16) = SS at *
  clear HZZ hfit
  have HT : Hid (∀ k (h : k < (zipC (codesW cs 16) xs).length), (∀ t ∈ (zipC (codesW cs 16) xs).take k, wordIn B 0 t = false) → wordIn B 0 (zipC (codesW cs 16) xs)[k] = true → symZ (zipC (codesW cs 16) xs) B 0 = ((zipC (codesW cs 16) xs)[k].1, 0 + (zipC (codesW cs 16) xs)[k].2.1.toNat, 0)) := hid_ (fun k h h1 h2 => sym_hit h h1 h2)
  have HM := hid_ (sym_miss (T := zipC (codesW cs 16) xs) (D := B) (p := 0))
  generalize codesW cs 16 = C at *
  clear hal hok hsum h hol hlen
  obtain ⟨ez, hez⟩ : ∃ ez, ez = symZ (zipC C xs) B 0 := ⟨_, rfl⟩
  rw [← hez]
  rw [← hez] at HT HM
  clear hez
  obtain ⟨s9, hs9⟩ : ∃ s9, s9 = (if ez.2.2 = 0 then strB (B.drop ez.2.1) else ⟨#[]⟩) := ⟨_, rfl⟩
  have HS9 := hid_ hs9
  rw [← hs9]
  clear hs9
  generalize hsb : strB B = sb at *
  have HSB := hid_ hsb
  clear hsb
  go_enter Tryd.func45, Tryd.ntmps45
  go_wp2_with (first
    | (refine wpList_box_abs rfl 32 (.tmp 0) rfl tv rfl ?_; intro w1 g hb1 hx1 hg)
    | (refine wpList_load_blk rfl 32 (.tmp 2) rfl _ rfl hb1 _ Tryd.underlying32 rfl 17 sizeTbl hts.out ?_)
    | (go_at_call 60; (with_reducible refine (HWO.out _).mono ?_); rintro e w2 ⟨B2, d, rfl, hs2, hx2⟩))
  have hsx := hs.ext (hx1.trans hx2)
  have hxw := hx1.trans hx2
  have hc16 := hlast.out _ _ (hb1.ext hx2)
  have hgl : g < w2.heap.size := (hb1.ext hx2).lt
  go_loop [18] (fun i => ∃ k : Nat, k ≤ xs.length ∧ i = .int .i64 (k : Int) ∧ Hid (∀ t ∈ (zipC C xs).take k, wordIn B 0 t = false)) (fun i => xs.length - (intOf i).toNat)
  case atStart => exact ⟨0, by omega, rfl, hid_ (by simp)⟩
  case round =>
    obtain ⟨k, hk, rfl, HNO⟩ := hrel
    by_cases hlt : k < xs.length
    · have hkC : k < C.length := by have := HCL.out; omega
      have hkz : k < (zipC C xs).length := by rw [HZL.out]; exact hlt
      obtain ⟨ad, u, hA, hab, hxk, hcell⟩ := hsx.at1 hlt
      obtain ⟨hkl2, rfl⟩ := ints_at _ _ _ hxk
      obtain ⟨bd, u, hB2, hbl, hsk, hcells⟩ := hs2.at1 hlt
      rw [HAT.out k hkC] at hsk
      injection hsk with hsk
      subst hsk
      subst hA hB2
      clear hxk
      have e1 := HZA.out k hkC hkl2 hkz
      obtain ⟨f1, f2, f3⟩ := HF.out _ (List.getElem_mem hkC)
      have HP := hid_ (fun W => HPR.out C[k].1 C[k].2 W (by omega))
      have HPQ := hid_ (HPW.out xs[k] C[k].1 C[k].2 (by omega))
      rw [← e1] at HPQ
      have hsz : (strB (digs C[k].2 C[k].1)).size = C[k].1 := by rw [strB_size, digs_len]
      rw [HPQ.out] at HP
      have HHIT := hid_ (HT.out k hkz HNO.out)
      have HNX : Hid (wordIn B 0 (zipC C xs)[k] = false → ∀ t ∈ (zipC C xs).take (k + 1), wordIn B 0 t = false) := hid_ (fun h t ht => by
        rw [List.take_succ_eq_append_getElem hkz] at ht
        rcases List.mem_append.1 ht with h1 | h1
        · exact HNO.out t h1
        · simp at h1; subst h1; exact h)
      cases hw : wordIn B 0 (zipC C xs)[k] with
      | false =>
        rw [hw] at HP
        have HN2 := hid_ (HNX.out hw)
        clear HHIT HNX hw HPQ e1
        generalize xs[k] = x at *
        generalize C[k].1 = l at *
        generalize C[k].2 = cd at *
        generalize strB (digs cd l) = sw at *
        go_wp2_with (go_at_call 71; (with_reducible refine (HP.out _).mono ?_); rintro e w5 ⟨rfl, rfl⟩)
        go_round
        case rel => exact ⟨k + 1, by omega, by go_num, HN2⟩
        case measure => simp [intOf]; omega
      | true =>
        rw [hw] at HP
        have HZ := hid_ (HHIT.out hw)
        rw [e1] at HZ
        have hlB : C[k].1 ≤ B.length := by
          rw [e1] at hw
          simp only [wordIn, Int.toNat_natCast, Bool.and_eq_true, decide_eq_true_eq] at hw
          omega
        have HXX := hid_ (HSX.out C[k].1 B.length hlB)
        clear HHIT HNX hw HPQ e1
        generalize xs[k] = x at *
        generalize C[k].1 = l at *
        generalize C[k].2 = cd at *
        generalize strB (digs cd l) = sw at *
        have HC16 : ∀ W, Ext w2.drew W → W.cell? ⟨g, 16, none⟩ = some (.slice (some ad) xs.length c) := fun W hx => (hx.cell (p := ⟨g, 16, none⟩) hgl).trans hc16
        have HCX : ∀ W, Ext w2.drew W → W.cell? (ad.add (k * 1)) = some (.int .i64 x) := fun W hx => by
          rw [Nat.mul_one]
          exact (hx.cell (by rw [block_of_add]; exact hab)).trans hcell
        have hswl : sw.size ≤ sb.size := by have := HSS.out; omega
        clear HZA
        have HSZ := hid_ hsz
        clear hsz
        generalize xs.length = n at *
        go_wp2_with (go_at_call 71; (with_reducible refine (HP.out _).mono ?_); rintro e w5 ⟨rfl, rfl⟩)
        refine wp_region_lx later_ext (by kernel_rfl) (by kernel_rfl) ?_
        refine lx_run (by rfl) (.pointer (some ⟨g, 16, none⟩)) (fun W => by go_simp) ?_
        simp only [Act.put, List.setIfInBounds_toArray, List.set_cons_succ, List.set_cons_zero]
        refine lx_read (by rfl) (.slice (some ad) n c) (fun W hW => ex_loadIs rfl rfl (HC16 W hW)) ?_
        simp only [Act.put, List.setIfInBounds_toArray, List.set_cons_succ, List.set_cons_zero]
        refine lx_run (by rfl) (.int .i64 ((k : Nat) : Int)) (ex_move rfl rfl) ?_
        simp only [Act.put, List.setIfInBounds_toArray, List.set_cons_succ, List.set_cons_zero]
        refine lx_run (by rfl) (.pointer (some (ad.add (k * 1)))) (ex_ixSl Tryd.underlying30 sizeI rfl rfl rfl (by omega)) ?_
        simp only [Act.put, List.setIfInBounds_toArray, List.set_cons_succ, List.set_cons_zero]
        refine lx_read (by rfl) (.int .i64 (x)) (fun W hW => ex_loadI rfl rfl (HCX W hW)) ?_
        simp only [Act.put, List.setIfInBounds_toArray, List.set_cons_succ, List.set_cons_zero]
        refine lx_run (by rfl) (.string sb) (ex_move rfl rfl) ?_
        simp only [Act.put, List.setIfInBounds_toArray, List.set_cons_succ, List.set_cons_zero]
        refine lx_run (by rfl) (.string sw) (ex_move rfl rfl) ?_
        simp only [Act.put, List.setIfInBounds_toArray, List.set_cons_succ, List.set_cons_zero]
        refine lx_run (by rfl) (.int .i64 ((sw.size : Nat) : Int)) (fun W => by go_simp) ?_
        simp only [Act.put, List.setIfInBounds_toArray, List.set_cons_succ, List.set_cons_zero]
        refine lx_run (by rfl) (.string (sb.extract sw.size sb.size)) (fun W => by go_simp) ?_
        simp only [Act.put, List.setIfInBounds_toArray, List.set_cons_succ, List.set_cons_zero]
        refine lx_run (by rfl) (.int .i64 (x)) (ex_assign rfl rfl) ?_
        simp only [Act.put, List.setIfInBounds_toArray, List.set_cons_succ, List.set_cons_zero]
        refine lx_run (by rfl) (.string (sb.extract sw.size sb.size)) (ex_assign rfl rfl) ?_
        simp only [Act.put, List.setIfInBounds_toArray, List.set_cons_succ, List.set_cons_zero]
        refine lx_run (by rfl) (.int .i64 ((0 : Nat) : Int)) (ex_assign rfl rfl) ?_
        simp only [Act.put, List.setIfInBounds_toArray, List.set_cons_succ, List.set_cons_zero]
        refine lx_nil ?_
        intro w9 hx9
        go_wp2_with fail
        go_ret3
        rw [HS9.out, HZ.out]
        refine ⟨?_, hxw.drew.trans hx9⟩
        have e9 : sb.extract sw.size sb.size = strB (B.drop l) := by
          rw [HSZ.out, HSS.out, HXX.out, List.take_of_length_le (by simp)]
        simp only [Nat.zero_add, Int.toNat_natCast, if_true]
        rw [← e9]
        rfl
    · have ek : k = xs.length := by omega
      have HALL := hid_ (HM.out (fun t ht => HNO.out t (by rw [List.take_of_length_le (by rw [HZL.out, ek]; exact Nat.le_refl _)]; exact ht)))
      have hss := HSS.out
      by_cases h16 : B.length < 16
      · rw [if_pos (by omega)] at HALL
        have hd : decide ((sb.size : Int) < 16) = true := by simp; omega
        go_wp2_with fail
        go_ret3
        rw [HS9.out, HALL.out]
        exact ⟨rfl, hxw⟩
      · rw [if_neg (by omega)] at HALL
        have hd : decide ((sb.size : Int) < 16) = false := by simp; omega
        have hd2 : ¬ sb.size < 16 := by omega
        go_wp2_with fail
        go_ret3
        rw [HS9.out, HALL.out]
        exact ⟨rfl, hxw⟩
end Go.Proofs.YtgmddhljgfbibaaDoor
/- TableCheck of the reference. -/
namespace Go.Proofs.YtgmddhljgfbibaaDoor
set_option linter.unusedVariables false
set_option linter.unusedSimpArgs false
open Go.RowKit
theorem SL.take {w : World} {A : Option Addr} {n c : Nat} {xs : List Value} (h : SL w 1 (.slice A n c) n xs) {k : Nat} (hk : k ≤ n) : SL w 1 (.slice A k c) k (xs.take k) := by
  obtain ⟨A', c', e, h1, h1', h2, h3⟩ := h
  injection e with e1 e2 e3
  subst e1 e3
  refine ⟨A, c, rfl, by omega, h1', by simp; omega, fun hn => ?_⟩
  obtain ⟨ad, ea, hlt, hc⟩ := h3 (by omega)
  refine ⟨ad, ea, hlt, fun j u hu => hc j u ?_⟩
  have hj : j < k := by have := (List.getElem?_eq_some_iff.1 hu).1; simp at this; omega
  rwa [List.getElem?_take_of_lt hj] at hu
theorem totOK_no1 {cs xs : List Int} (h : allIn cs 0 256 = false) : totOK cs xs = false := by simp [totOK, h]
theorem totOK_no2 {cs xs : List Int} {k : Nat} (hk : k ≤ 16) (h : 256 < sumL cs k) : totOK cs xs = false := by
  cases h1 : allIn cs 0 256 with
  | false => exact totOK_no1 h1
  | true =>
    have key : ∀ j, k ≤ j → sumL cs k ≤ sumL cs j := by
      intro j hj
      induction j with
      | zero => obtain rfl : k = 0 := by omega
                exact Int.le_refl _
      | succ j ih =>
        rcases Nat.lt_or_ge j k with h2 | h2
        · obtain rfl : k = j + 1 := by omega
          exact Int.le_refl _
        · exact Int.le_trans (ih h2) (sumL_bd h1 j).2
    have := key 16 hk
    unfold totOK
    have h3 : ¬ sumL cs 16 ≤ 256 := by omega
    simp [h3]
set_option maxRecDepth 20000 in
set_option maxHeartbeats 1000000 in
theorem rcheck_any (cs xs : List Int) (sl : Value) (w : World) (hl : cs.length = 16) (hs : SL w 1 sl xs.length (ints xs)) :
    Calls Tryd.prog 56 #[.agg (tblv cs sl)] w fun e w' => e = .returned (.int .i64 (checkZ cs xs)) ∧ Ext w w' := by
  have hlast := hid_ (fun W g (h : Blk W g 32 (tblv cs sl)) => tblv_last h hl)
  have hts := hid_ (tblv_size cs sl hl)
  have HRG := hid_ (fun W g (h : Blk W g 32 (tblv cs sl)) => tblv_range h)
  have hcl := hid_ ((ints_len cs).trans hl)
  have HIX := hid_ (fun k (hk : k < cs.length) (h16 : k < 16) => fun W => run_index16 (ints cs).toArray k (.int .i64 cs[k]) h16 (bv_at cs k hk) W)
  have HL := hid_ hl
  have hs' := hs
  obtain ⟨A, c, rfl, hc1, hc2, -, -⟩ := hs'
  have HWY := hid_ (fun h1 h2 W => wordsOf_yes cs (.slice A xs.length c) W hl h1 h2)
  have HWN := hid_ (fun h1 h2 W => wordsOf_no cs (.slice A xs.length c) W hl h1 h2)
  generalize tblv cs (.slice A xs.length c) = tv at *
  go_enter Tryd.func56, Tryd.ntmps56
  go_wp2_with (first
    | (refine wpList_box_abs rfl 32 (.tmp 0) rfl tv rfl ?_; intro w1 g hb1 hx1 hg)
    | (refine wpList_load_mid rfl 29 (.tmp 12) rfl g 0 rfl (ints cs) _ (HRG.out _ _ hb1) Tryd.underlying29 rfl (by rw [hcl.out]; exact size16) ?_))
  have hc16 := hid_ (hlast.out _ _ hb1)
  go_loop [3, 14] (fun v i => ∃ k : Nat, k ≤ 16 ∧ i = .int .i64 (k : Int) ∧ v = .int .i64 (sumL cs k) ∧ (∀ z ∈ cs.take k, 0 ≤ z ∧ z ≤ 256) ∧ 0 ≤ sumL cs k ∧ sumL cs k ≤ 256 * k) (fun _ i => 16 - (intOf i).toNat)
  case atStart => exact ⟨0, by omega, rfl, rfl, by simp, by simp [sumL], by simp [sumL]⟩
  case round =>
    obtain ⟨k, hk, rfl, rfl, hin, s1, s2⟩ := hrel
    by_cases hlt : k < 16
    · have hkl : k < cs.length := by have := HL.out; omega
      have hix := HIX.out k hkl hlt
      have HS := hid_ (sumL_succ cs k hkl)
      have HIN := hid_ hin
      have HT2 := hid_ (fun h => checkZ_tot (totOK_no2 (cs := cs) (xs := xs) hk h))
      have HT1 := hid_ (fun h => checkZ_tot (totOK_no1 (cs := cs) (xs := xs) h))
      clear hin
      have HO := hid_ (fun W => outside_any cs[k] 0 256 W)
      cases hq : inB cs[k] 0 256 with
      | true =>
        obtain ⟨q1, q2⟩ := inB_iff.1 hq
        have HN := hid_ (allIn_take HIN.out hkl ⟨q1, q2⟩)
        rw [hq] at HO
        generalize sumL cs k = s at *
        by_cases hbig : 256 < s
        · have hbig' : decide (256 < s) = true := by simpa using hbig
          have HF := hid_ (HT2.out hbig)
          clear hq hbig
          go_wp2_with (go_at_call 41; (with_reducible refine (HO.out _).mono ?_); rintro e w' ⟨rfl, rfl⟩)
          go_ret
          exact ⟨by rw [HF.out]; rfl, hx1⟩
        · have hbig' : decide (256 < s) = false := by simpa using hbig
          clear hq hbig
          go_wp2_with (go_at_call 41; (with_reducible refine (HO.out _).mono ?_); rintro e w' ⟨rfl, rfl⟩)
          go_round
          case rel => exact ⟨k + 1, by omega, by go_num, by rw [HS.out], HN.out, by rw [HS.out]; omega, by rw [HS.out]; omega⟩
          case measure => simp [intOf]; omega
      | false =>
        have HF := hid_ (HT1.out (allIn_no hkl hq))
        rw [hq] at HO
        clear hq
        go_wp2_with (go_at_call 41; (with_reducible refine (HO.out _).mono ?_); rintro e w' ⟨rfl, rfl⟩)
        go_ret
        exact ⟨by rw [HF.out]; rfl, hx1⟩
    · have ek : k = 16 := by omega
      rw [ek] at s1 s2 hin ⊢
      have HA := hid_ (show allIn cs 0 256 = true by
        rw [List.take_of_length_le (by have := HL.out; omega)] at hin
        exact allIn_iff.2 hin)
      have HTK : Hid (sumL cs 16 ≤ 256 → sumL cs 16 = xs.length → totOK cs xs = true) := hid_ (fun a b => totOK_iff.2 ⟨HA.out, a, b⟩)
      have HTN : Hid (¬ (sumL cs 16 ≤ 256 ∧ sumL cs 16 = xs.length) → checkZ cs xs = 4) := hid_ (fun a => checkZ_tot (by
        rw [← Bool.not_eq_true, totOK_iff]
        rintro ⟨-, b, d⟩
        exact a ⟨b, d⟩))
      clear hin ek hk hlt
      generalize sumL cs 16 = s at *
      have h16 := hc16.out
      by_cases h1 : s ≤ 256
      · have h1' : decide (256 < s) = false := by simp; omega
        by_cases h2 : s = xs.length
        · have HTOK := hid_ (HTK.out h1 h2)
          subst h2
          have hneq : ((xs.length : Int) != (xs.length : Int)) = false := by simp
          have HZ1 := hid_ (fun h2 => checkZ_arg HTOK.out h2)
          have HZ2 := hid_ (fun h2 h3 => checkZ_dup HTOK.out h2 h3)
          have HZ3 := hid_ (fun h2 h3 => checkZ_words HTOK.out h2 h3)
          clear h1
          go_wp2_with fail
          go_loop [39] (fun i => ∃ k : Nat, k ≤ xs.length ∧ i = .int .i64 (k : Int) ∧ ∀ z ∈ xs.take k, 0 ≤ z ∧ z ≤ 255) (fun i => xs.length - (intOf i).toNat)
          case atStart => exact ⟨0, by omega, rfl, by simp⟩
          case round =>
            obtain ⟨k, hk, rfl, hin⟩ := hrel
            have HIN := hid_ hin
            clear hin
            by_cases hlt : k < xs.length
            · obtain ⟨ad, u, rfl, -, hxk, hcell⟩ := (hs.ext hx1).at1 hlt
              obtain ⟨hkl, rfl⟩ := ints_at _ _ _ hxk
              clear hxk
              have HO := hid_ (fun W => outside_any xs[k] 0 255 W)
              cases hq : inB xs[k] 0 255 with
              | true =>
                have HN := hid_ (allIn_take HIN.out hkl (inB_iff.1 hq))
                rw [hq] at HO
                clear hq
                go_wp2_with (go_at_call 41; (with_reducible refine (HO.out _).mono ?_); rintro e w' ⟨rfl, rfl⟩)
                go_round
                case rel => exact ⟨k + 1, by omega, by go_num, HN.out⟩
                case measure => simp [intOf]; omega
              | false =>
                have HF := hid_ (HZ1.out (allIn_no hkl hq))
                rw [hq] at HO
                clear hq
                go_wp2_with (go_at_call 41; (with_reducible refine (HO.out _).mono ?_); rintro e w' ⟨rfl, rfl⟩)
                go_ret
                exact ⟨by rw [HF.out]; rfl, hx1⟩
            · have e1 : xs.take k = xs := List.take_of_length_le (by omega)
              have HAX : Hid (allIn xs 0 255 = true) := hid_ (by have := HIN.out; rw [e1] at this; exact allIn_iff.2 this)
              clear e1
              have h16 := hc16.out
              go_wp2_with fail
              go_loop [49] (fun i => ∃ k : Nat, k ≤ xs.length ∧ i = .int .i64 (k : Int) ∧ (xs.take k).Nodup) (fun i => xs.length - (intOf i).toNat)
              case atStart => exact ⟨0, by omega, rfl, by simp⟩
              case round =>
                obtain ⟨m, hm, rfl, hnd⟩ := hrel
                have HND := hid_ hnd
                clear hnd
                by_cases hlt2 : m < xs.length
                · obtain ⟨ad, u, rfl, -, hxk, hcell⟩ := (hs.ext hx1).at1 hlt2
                  obtain ⟨hkl, rfl⟩ := ints_at _ _ _ hxk
                  clear hxk
                  have HS2 := hid_ (nodup_take_succ hkl)
                  have HH := hid_ (fun W (hx : Ext w W) => has_any (xs.take m) (some ad) c m xs[m] W (by simp; omega) (by have := (hs.ext hx).take (k := m) (by omega); rwa [show (ints xs).take m = ints (xs.take m) by simp [ints]] at this))
                  have h16 := hc16.out
                  by_cases hmem : xs[m] ∈ xs.take m
                  · have hd : decide (xs[m] ∈ xs.take m) = true := by simpa using hmem
                    have HF := hid_ (HZ2.out HAX.out (fun hnn => (((HS2.out).1 (List.Nodup.sublist (List.take_sublist _ _) hnn)).2 hmem)))
                    rw [hd] at HH
                    clear hd hmem
                    go_wp2_with (go_at_call 81; (with_reducible refine (HH.out _ hx1).mono ?_); rintro e w' ⟨rfl, rfl⟩)
                    go_ret
                    exact ⟨by rw [HF.out]; rfl, hx1⟩
                  · have hd : decide (xs[m] ∈ xs.take m) = false := by simpa using hmem
                    have HN := hid_ (HS2.out.2 ⟨HND.out, hmem⟩)
                    rw [hd] at HH
                    clear hd hmem
                    go_wp2_with (go_at_call 81; (with_reducible refine (HH.out _ hx1).mono ?_); rintro e w' ⟨rfl, rfl⟩)
                    go_round
                    case rel => exact ⟨m + 1, by omega, by go_num, HN.out⟩
                    case measure => simp [intOf]; omega
                · have e1 : xs.take m = xs := List.take_of_length_le (by omega)
                  rw [e1] at HND
                  have HF := hid_ (HZ3.out HAX.out HND.out)
                  clear e1
                  cases hok : okW cs with
                  | true =>
                    rw [hok] at HF
                    have HW := hid_ (HWY.out HA.out hok)
                    clear hok
                    go_wp2_with (first
                      | (refine wpList_load_blk rfl 32 (.tmp 1) rfl _ rfl hb1 _ Tryd.underlying32 rfl 17 sizeTbl hts.out ?_)
                      | (go_at_call 60; (with_reducible refine (HW.out _).mono ?_); rintro e w2 ⟨B, d, rfl, hs2, hx2⟩))
                    go_ret
                    exact ⟨by rw [HF.out]; rfl, hx1.trans hx2⟩
                  | false =>
                    rw [hok] at HF
                    have HW := hid_ (HWN.out HA.out hok)
                    clear hok
                    go_wp2_with (first
                      | (refine wpList_load_blk rfl 32 (.tmp 1) rfl _ rfl hb1 _ Tryd.underlying32 rfl 17 sizeTbl hts.out ?_)
                      | (go_at_call 60; (with_reducible refine (HW.out _).mono ?_); rintro e w2 ⟨rfl, hx2⟩))
                    go_ret
                    exact ⟨by rw [HF.out]; rfl, hx1.trans hx2⟩
        · have h2' : (s != (xs.length : Int)) = true := by simpa using h2
          have HF := hid_ (HTN.out (fun h => h2 h.2))
          clear h2 h1
          go_wp2_with fail
          go_ret
          exact ⟨by rw [HF.out]; rfl, hx1⟩
      · have h1' : decide (256 < s) = true := by simp; omega
        have HF := hid_ (HTN.out (fun h => h1 h.1))
        clear h1
        go_wp2_with fail
        go_ret
        exact ⟨by rw [HF.out]; rfl, hx1⟩
end Go.Proofs.YtgmddhljgfbibaaDoor
/- TablesCheck of the reference. -/
namespace Go.Proofs.YtgmddhljgfbibaaDoor
set_option linter.unusedVariables false
set_option linter.unusedSimpArgs false
open Go.RowKit
set_option maxRecDepth 20000 in
set_option maxHeartbeats 4000000 in
theorem tablesCheck_any (t1 t2 : List Value) (z1 z2 : Int) (w : World) (h1 : t1.length = 17) (h2 : t2.length = 17)
    (C1 : ∀ W, Ext w W → Calls Tryd.prog 56 #[.agg t1.toArray] W fun e W' => e = .returned (.int .i64 z1) ∧ Ext W W')
    (C2 : ∀ W, Ext w W → Calls Tryd.prog 56 #[.agg t2.toArray] W fun e W' => e = .returned (.int .i64 z2) ∧ Ext W W') :
    Calls Tryd.prog 29 #[.agg (t1 ++ t2).toArray] w fun e w' => e = .returned (.int .i64 (if z1 = 0 then z2 else z1)) ∧ Ext w w' := by
  have HRT := hid_ (fun W g (hb : Blk W g 34 (t1 ++ t2).toArray) => range_two h1 hb)
  have hl1 := hid_ h1
  have hl2 := hid_ h2
  have HC1 := hid_ C1
  have HC2 := hid_ C2
  clear C1 C2 h1 h2
  generalize htt : (t1 ++ t2).toArray = tt at *
  clear htt
  by_cases hz : z1 = 0
  · rw [if_pos hz]
    subst hz
    go_enter Tryd.func29, Tryd.ntmps29
    go_wp2_with (first
      | (refine wpList_box_abs rfl 34 (.tmp 0) rfl tt rfl ?_; intro w1 g hb1 hx1 hg; have hr1 := (HRT.out _ _ hb1).1)
      | (refine wpList_load_mid rfl 32 (.tmp 4) rfl g 0 rfl t1 _ hr1 Tryd.underlying32 rfl (by rw [hl1.out]; exact sizeTbl) ?_)
      | (go_at_call 56; (with_reducible refine (HC1.out _ hx1).mono ?_); rintro e w2 ⟨rfl, hx2⟩; have hr2 := (HRT.out _ _ (hb1.ext hx2)).2)
      | (refine wpList_load_mid rfl 32 (.tmp 10) rfl g 17 rfl t2 _ hr2 Tryd.underlying32 rfl (by rw [hl2.out]; exact sizeTbl) ?_)
      | (go_at_call 56; (with_reducible refine (HC2.out _ (hx1.trans hx2)).mono ?_); rintro e w3 ⟨rfl, hx3⟩))
    go_ret
    exact ⟨rfl, (hx1.trans hx2).trans hx3⟩
  · rw [if_neg hz]
    have hz1 : (z1 != 0) = true := by simpa using hz
    go_enter Tryd.func29, Tryd.ntmps29
    go_wp2_with (first
      | (refine wpList_box_abs rfl 34 (.tmp 0) rfl tt rfl ?_; intro w1 g hb1 hx1 hg; have hr1 := (HRT.out _ _ hb1).1)
      | (refine wpList_load_mid rfl 32 (.tmp 4) rfl g 0 rfl t1 _ hr1 Tryd.underlying32 rfl (by rw [hl1.out]; exact sizeTbl) ?_)
      | (go_at_call 56; (with_reducible refine (HC1.out _ hx1).mono ?_); rintro e w2 ⟨rfl, hx2⟩))
    go_ret
    exact ⟨rfl, hx1.trans hx2⟩
end Go.Proofs.YtgmddhljgfbibaaDoor
/- Facts on tables, strings, rows. -/
namespace Go.Proofs.YtgmddhljgfbibaaDoor
set_option linter.unusedVariables false
set_option linter.unusedSimpArgs false
open Go.RowKit
theorem own_typed {w : World} {base size n : Nat} {e : TypeId} {v : Value} {xs : List Value} (h : w.ownsRow base e size v n xs) : ∀ g, v.ownBlock = some g → ∃ cs, w.heap[g]? = some (.cells cs e (0, 0)) := by
  obtain ⟨-, hh⟩ := h
  intro g hg
  rcases hh with ⟨rfl, -⟩ | ⟨k, cap, cur, rfl, -, hk, -⟩
  · simp [Value.ownBlock] at hg
  · have : k = g := by simpa [Value.ownBlock] using hg
    subst this
    exact ⟨_, hk⟩
theorem tblL_oneS (cs : List Int) (sl : Value) {w : World} {m : Nat} {xs : List Value} (h : SL w 1 sl m xs) : (tblL cs sl).toArray.all (·.oneCell') = true := by
  obtain ⟨A, c, rfl, -⟩ := h
  rw [List.all_toArray, List.all_eq_true]
  intro v hv
  unfold tblL at hv
  rcases List.mem_append.1 hv with hv | hv
  · obtain ⟨z, -, rfl⟩ := List.mem_map.1 hv
    rfl
  · simp at hv
    subst hv
    rfl
theorem run_strAdd (s u : ByteArray) (h1 : s.size ≤ 1000000) (h2 : u.size ≤ 1000000) (W : World) : (binOp .add 9 (.string s) (.string u)).run Tryd.prog W = .ok (.string (s ++ u)) W := by
  have h3 : s.size + u.size ≤ 9223372036854775807 := by omega
  have h4 : ((s.size : Int) + (u.size : Int)) ≤ 9223372036854775807 := by omega
  go_simp
theorem ex_strAdd {o : Oper} {a : Act} {x y : Operand} {t2 : TypeId} (ho : o.op = .binOp .add 9 x y t2) {s u : ByteArray} (hx : a.eval x = .string s) (hy : a.eval y = .string u) (h1 : s.size ≤ 1000000) (h2 : u.size ≤ 1000000) (w : World) : (execOp a.eval o).run Tryd.prog w = .ok (.value (.string (s ++ u))) w := by
  simp [execOp, ho, hx, hy, run_strAdd s u h1 h2 w, eqGuard]
theorem ints_headE (l : List Int) (h : 0 < l.length) : (ints l)[0]? = some (.int .i64 (l.getD 0 0)) := by
  cases l with
  | nil => simp at h
  | cons => rfl
theorem cellAt_extE {w w' : World} {p : Addr} {k : Nat} {v : Value} (h : Ext w w') (hb : p.block < w.heap.size) (hc : w.cell? (p.add k) = some v) : w'.cell? (p.add k) = some v := by
  rw [← hc]
  unfold World.cell?
  rw [block_of_add, h.block p.block hb]
end Go.Proofs.YtgmddhljgfbibaaDoor
