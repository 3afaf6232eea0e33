/- Contracts for the law ScanDecodesUptoCard, part 28: what the functions that it reaches answer, for all arguments that the theorems name. -/
import Derived.Test.YtgmddhljgfbibaaGreatDoorMScanDecodesUptoCard7
import Derived.Test.YtgmddhljgfbibaaGreatDoorMScanDecodesUptoCard27
import Derived.Test.YtgmddhljgfbibaaGreatDoorMScanDecodesUptoCard5
/- symOf of the reference. -/
namespace Go.Proofs.YtgmddhljgfbibaaGreatDoor
set_option linter.unusedVariables false
set_option linter.unusedSimpArgs false
open Go.RowKit
section
variable {o : Oper} {a : Act}
theorem run_loadIs (W : World) (p : Addr) (A : Option Addr) (n c : Nat) (h : W.cell? p = some (.slice A n c)) : (Instr.loadAt 23 (.pointer (some p))).run Tryz.prog W = .ok (.slice A n c) W := by
  go_simp
theorem ex_loadIs {x : Operand} (ho : o.op = .load 23 x) {p : Addr} (hx : a.eval x = .pointer (some p)) {A : Option Addr} {n c : Nat} {w : World} (h : w.cell? p = some (.slice A n c)) : (execOp a.eval o).run Tryz.prog w = .ok (.value (.slice A n c)) w := by
  simp [execOp, ho, hx, run_loadIs w p A n c h]
end
theorem preB_wordIn (B : List Bool) (x : Int) (l c : Nat) (hc : c < 2 ^ l) : preB B (digs c l) = wordIn B 0 (x, (l : Int), (c : Int)) := by
  unfold preB wordIn
  rw [digs_len]
  simp only [Int.toNat_natCast, Nat.zero_add, List.drop_zero]
  by_cases h : l ≤ B.length
  · simp only [h, decide_true, Bool.true_and]
    rw [Bool.eq_iff_iff]
    simp only [decide_eq_true_eq, beq_iff_eq]
    constructor
    · intro e; rw [e, numB_digs_lt hc]
    · intro e
      refine numB_inj (by rw [List.length_take, digs_len]; omega) ?_
      rw [numB_digs_lt hc]
      exact_mod_cast e
  · simp [h]
theorem sym_hit {T : List Tok} {D : List Bool} {p k : Nat} (hk : k < T.length) (hno : ∀ t ∈ T.take k, wordIn D p t = false) (h : wordIn D p T[k] = true) : symZ T D p = (T[k].1, p + T[k].2.1.toNat, 0) := by
  refine symZ_some ?_
  rw [List.find?_eq_some_iff_append]
  refine ⟨h, T.take k, T.drop (k + 1), ?_, fun a ha => by simp [hno a ha]⟩
  rw [← List.drop_eq_getElem_cons hk, List.take_append_drop]
theorem sym_miss {T : List Tok} {D : List Bool} {p : Nat} (hno : ∀ t ∈ T, wordIn D p t = false) : symZ T D p = (0, p, if D.length < p + 16 then 3 else 4) := by
  refine symZ_none ?_
  rw [List.find?_eq_none]
  intro a ha
  simp [hno a ha]
set_option maxRecDepth 20000 in
set_option maxHeartbeats 2000000 in
theorem symOf_any (cs xs : List Int) (sl : Value) (B : List Bool) (w : World) (hl : cs.length = 16) (hs : SL w 1 sl xs.length (ints xs)) (h : checkZ cs xs = 0) (hB : B.length ≤ 10000000000000) :
    Calls Tryz.prog 36 #[.agg (tblv cs sl), .string (strB B)] w fun e w' => e = .returned (.tuple #[.int .i64 (symZ (zipC (codesW cs 16) xs) B 0).1, .string (if (symZ (zipC (codesW cs 16) xs) B 0).2.2 = 0 then strB (B.drop (symZ (zipC (codesW cs 16) xs) B 0).2.1) else ⟨#[]⟩), .int .i64 (symZ (zipC (codesW cs 16) xs) B 0).2.2]) ∧ Ext w w' := by
  obtain ⟨hal, hsum, hx256, hok, -, -⟩ := checkZ_zero h
  obtain ⟨-, hfit, -⟩ := coder_facts cs xs hl h
  have HF := hid_ (codesW_fit cs hok hl 16 (by omega))
  have hlast := hid_ (fun W g (h : Blk W g 25 (tblv cs sl)) => tblv_last h hl)
  have hts := hid_ (tblv_size cs sl hl)
  have HWO := hid_ (fun W => wordsOf_yes cs sl W hl hal hok)
  have hlen : (codesW cs 16).length = xs.length := by have := codesW_len cs (fun z hz => (allIn_iff.1 hal z hz).1) 16 (by omega); omega
  have hol := outW_len cs
  rw [hlen] at hol
  rw [hol] at HWO
  have HAT := hid_ (outW_at cs)
  have HZA := hid_ (zipC_at (codesW cs 16) xs)
  have HZL : Hid ((zipC (codesW cs 16) xs).length = xs.length) := hid_ (by rw [zipC_len _ _ (by omega), hlen])
  have HCL := hid_ hlen
  have hs' := hs
  obtain ⟨A, c, rfl, hc1, hc2, -, -⟩ := hs'
  have HPR := hid_ (fun l k W (h1 : l ≤ 100) => prefix_any B (digs k l) W hB (by rw [digs_len]; omega))
  have HPW := hid_ (preB_wordIn B)
  have HSX := hid_ (strB_extract B)
  have HSS := hid_ (strB_size B)
  have HZZ : Hid (∀ z, z = symZ (zipC (codesW cs 16) xs) B 0 → True) := hid_ (fun _ _ => trivial)
  generalize tblv cs (.slice A xs.length c) = tv at *
  generalize strs (outW cs 16) = SS at *
  clear HZZ hfit
  have HT : Hid (∀ k (h : k < (zipC (codesW cs 16) xs).length), (∀ t ∈ (zipC (codesW cs 16) xs).take k, wordIn B 0 t = false) → wordIn B 0 (zipC (codesW cs 16) xs)[k] = true → symZ (zipC (codesW cs 16) xs) B 0 = ((zipC (codesW cs 16) xs)[k].1, 0 + (zipC (codesW cs 16) xs)[k].2.1.toNat, 0)) := hid_ (fun k h h1 h2 => sym_hit h h1 h2)
  have HM := hid_ (sym_miss (T := zipC (codesW cs 16) xs) (D := B) (p := 0))
  generalize codesW cs 16 = C at *
  clear hal hok hsum h hol hlen
  obtain ⟨ez, hez⟩ : ∃ ez, ez = symZ (zipC C xs) B 0 := ⟨_, rfl⟩
  rw [← hez]
  rw [← hez] at HT HM
  clear hez
  obtain ⟨s9, hs9⟩ : ∃ s9, s9 = (if ez.2.2 = 0 then strB (B.drop ez.2.1) else ⟨#[]⟩) := ⟨_, rfl⟩
  have HS9 := hid_ hs9
  rw [← hs9]
  clear hs9
  generalize hsb : strB B = sb at *
  have HSB := hid_ hsb
  clear hsb
  go_enter Tryz.func36, Tryz.ntmps36
  go_wp2_with (first
    | (refine wpList_box_abs rfl 25 (.tmp 0) rfl tv rfl ?_; intro w1 g hb1 hx1 hg)
    | (refine wpList_load_blk rfl 25 (.tmp 2) rfl _ rfl hb1 _ Tryz.underlying25 rfl 17 sizeTbl hts.out ?_)
    | (go_at_call 65; (with_reducible refine (HWO.out _).mono ?_); rintro e w2 ⟨B2, d, rfl, hs2, hx2⟩))
  have hsx := hs.ext (hx1.trans hx2)
  have hxw := hx1.trans hx2
  have hc16 := hlast.out _ _ (hb1.ext hx2)
  have hgl : g < w2.heap.size := (hb1.ext hx2).lt
  go_loop [18] (fun i => ∃ k : Nat, k ≤ xs.length ∧ i = .int .i64 (k : Int) ∧ Hid (∀ t ∈ (zipC C xs).take k, wordIn B 0 t = false)) (fun i => xs.length - (intOf i).toNat)
  case atStart => exact ⟨0, by omega, rfl, hid_ (by simp)⟩
  case round =>
    obtain ⟨k, hk, rfl, HNO⟩ := hrel
    by_cases hlt : k < xs.length
    · have hkC : k < C.length := by have := HCL.out; omega
      have hkz : k < (zipC C xs).length := by rw [HZL.out]; exact hlt
      obtain ⟨ad, u, hA, hab, hxk, hcell⟩ := hsx.at1 hlt
      obtain ⟨hkl2, rfl⟩ := ints_at _ _ _ hxk
      obtain ⟨bd, u, hB2, hbl, hsk, hcells⟩ := hs2.at1 hlt
      rw [HAT.out k hkC] at hsk
      injection hsk with hsk
      subst hsk
      subst hA hB2
      clear hxk
      have e1 := HZA.out k hkC hkl2 hkz
      obtain ⟨f1, f2, f3⟩ := HF.out _ (List.getElem_mem hkC)
      have HP := hid_ (fun W => HPR.out C[k].1 C[k].2 W (by omega))
      have HPQ := hid_ (HPW.out xs[k] C[k].1 C[k].2 (by omega))
      rw [← e1] at HPQ
      have hsz : (strB (digs C[k].2 C[k].1)).size = C[k].1 := by rw [strB_size, digs_len]
      rw [HPQ.out] at HP
      have HHIT := hid_ (HT.out k hkz HNO.out)
      have HNX : Hid (wordIn B 0 (zipC C xs)[k] = false → ∀ t ∈ (zipC C xs).take (k + 1), wordIn B 0 t = false) := hid_ (fun h t ht => by
        rw [List.take_succ_eq_append_getElem hkz] at ht
        rcases List.mem_append.1 ht with h1 | h1
        · exact HNO.out t h1
        · simp at h1; subst h1; exact h)
      cases hw : wordIn B 0 (zipC C xs)[k] with
      | false =>
        rw [hw] at HP
        have HN2 := hid_ (HNX.out hw)
        clear HHIT HNX hw HPQ e1
        generalize xs[k] = x at *
        generalize C[k].1 = l at *
        generalize C[k].2 = cd at *
        generalize strB (digs cd l) = sw at *
        go_wp2_with (go_at_call 66; (with_reducible refine (HP.out _).mono ?_); rintro e w5 ⟨rfl, rfl⟩)
        go_round
        case rel => exact ⟨k + 1, by omega, by go_num, HN2⟩
        case measure => simp [intOf]; omega
      | true =>
        rw [hw] at HP
        have HZ := hid_ (HHIT.out hw)
        rw [e1] at HZ
        have hlB : C[k].1 ≤ B.length := by
          rw [e1] at hw
          simp only [wordIn, Int.toNat_natCast, Bool.and_eq_true, decide_eq_true_eq] at hw
          omega
        have HXX := hid_ (HSX.out C[k].1 B.length hlB)
        clear HHIT HNX hw HPQ e1
        generalize xs[k] = x at *
        generalize C[k].1 = l at *
        generalize C[k].2 = cd at *
        generalize strB (digs cd l) = sw at *
        have HC16 : ∀ W, Ext w2.drew W → W.cell? ⟨g, 16, none⟩ = some (.slice (some ad) xs.length c) := fun W hx => (hx.cell (p := ⟨g, 16, none⟩) hgl).trans hc16
        have HCX : ∀ W, Ext w2.drew W → W.cell? (ad.add (k * 1)) = some (.int .i64 x) := fun W hx => by
          rw [Nat.mul_one]
          exact (hx.cell (by rw [block_of_add]; exact hab)).trans hcell
        have hswl : sw.size ≤ sb.size := by have := HSS.out; omega
        clear HZA
        have HSZ := hid_ hsz
        clear hsz
        generalize xs.length = n at *
        go_wp2_with (go_at_call 66; (with_reducible refine (HP.out _).mono ?_); rintro e w5 ⟨rfl, rfl⟩)
        refine wp_region_lx later_ext (by kernel_rfl) (by kernel_rfl) ?_
        refine lx_run (by rfl) (.pointer (some ⟨g, 16, none⟩)) (fun W => by go_simp) ?_
        simp only [Act.put, List.setIfInBounds_toArray, List.set_cons_succ, List.set_cons_zero]
        refine lx_read (by rfl) (.slice (some ad) n c) (fun W hW => ex_loadIs rfl rfl (HC16 W hW)) ?_
        simp only [Act.put, List.setIfInBounds_toArray, List.set_cons_succ, List.set_cons_zero]
        refine lx_run (by rfl) (.int .i64 ((k : Nat) : Int)) (ex_move rfl rfl) ?_
        simp only [Act.put, List.setIfInBounds_toArray, List.set_cons_succ, List.set_cons_zero]
        refine lx_run (by rfl) (.pointer (some (ad.add (k * 1)))) (ex_ixSl Tryz.underlying23 sizeI rfl rfl rfl (by omega)) ?_
        simp only [Act.put, List.setIfInBounds_toArray, List.set_cons_succ, List.set_cons_zero]
        refine lx_read (by rfl) (.int .i64 (x)) (fun W hW => ex_loadI rfl rfl (HCX W hW)) ?_
        simp only [Act.put, List.setIfInBounds_toArray, List.set_cons_succ, List.set_cons_zero]
        refine lx_run (by rfl) (.string sb) (ex_move rfl rfl) ?_
        simp only [Act.put, List.setIfInBounds_toArray, List.set_cons_succ, List.set_cons_zero]
        refine lx_run (by rfl) (.string sw) (ex_move rfl rfl) ?_
        simp only [Act.put, List.setIfInBounds_toArray, List.set_cons_succ, List.set_cons_zero]
        refine lx_run (by rfl) (.int .i64 ((sw.size : Nat) : Int)) (fun W => by go_simp) ?_
        simp only [Act.put, List.setIfInBounds_toArray, List.set_cons_succ, List.set_cons_zero]
        refine lx_run (by rfl) (.string (sb.extract sw.size sb.size)) (fun W => by go_simp) ?_
        simp only [Act.put, List.setIfInBounds_toArray, List.set_cons_succ, List.set_cons_zero]
        refine lx_run (by rfl) (.int .i64 (x)) (ex_assign rfl rfl) ?_
        simp only [Act.put, List.setIfInBounds_toArray, List.set_cons_succ, List.set_cons_zero]
        refine lx_run (by rfl) (.string (sb.extract sw.size sb.size)) (ex_assign rfl rfl) ?_
        simp only [Act.put, List.setIfInBounds_toArray, List.set_cons_succ, List.set_cons_zero]
        refine lx_run (by rfl) (.int .i64 ((0 : Nat) : Int)) (ex_assign rfl rfl) ?_
        simp only [Act.put, List.setIfInBounds_toArray, List.set_cons_succ, List.set_cons_zero]
        refine lx_nil ?_
        intro w9 hx9
        go_wp2_with fail
        go_ret3
        rw [HS9.out, HZ.out]
        refine ⟨?_, hxw.drew.trans hx9⟩
        have e9 : sb.extract sw.size sb.size = strB (B.drop l) := by
          rw [HSZ.out, HSS.out, HXX.out, List.take_of_length_le (by simp)]
        simp only [Nat.zero_add, Int.toNat_natCast, if_true]
        rw [← e9]
        rfl
    · have ek : k = xs.length := by omega
      have HALL := hid_ (HM.out (fun t ht => HNO.out t (by rw [List.take_of_length_le (by rw [HZL.out, ek]; exact Nat.le_refl _)]; exact ht)))
      have hss := HSS.out
      by_cases h16 : B.length < 16
      · rw [if_pos (by omega)] at HALL
        have hd : decide ((sb.size : Int) < 16) = true := by simp; omega
        go_wp2_with fail
        go_ret3
        rw [HS9.out, HALL.out]
        exact ⟨rfl, hxw⟩
      · rw [if_neg (by omega)] at HALL
        have hd : decide ((sb.size : Int) < 16) = false := by simp; omega
        have hd2 : ¬ sb.size < 16 := by omega
        go_wp2_with fail
        go_ret3
        rw [HS9.out, HALL.out]
        exact ⟨rfl, hxw⟩
end Go.Proofs.YtgmddhljgfbibaaGreatDoor
