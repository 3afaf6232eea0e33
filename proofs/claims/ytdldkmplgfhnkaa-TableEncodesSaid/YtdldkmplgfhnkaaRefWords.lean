/- TableWords of the reference. -/
import Derived.Test.YtdldkmplgfhnkaaWords
import Derived.Test.YtdldkmplgfhnkaaMonoTail
import Derived.Test.YtdldkmplgfhnkaaRefCheck
namespace Go.Proofs.Ytdldkmplgfhnkaa
set_option linter.unusedVariables false
set_option linter.unusedSimpArgs false
open Go.RowKit
theorem zipC_take (C : List (Nat × Nat)) (xs : List Int) (k : Nat) (h : k < C.length) (h2 : C.length ≤ xs.length) : zipC (C.take (k + 1)) xs = zipC (C.take k) xs ++ [(xs[k]'(by omega), ((C[k]).1 : Int), ((C[k]).2 : Int))] := by
  rw [List.take_succ_eq_append_getElem h, zipC_snoc _ _ _ (by simp; omega)]
  simp
  congr 2
  omega
theorem outW_at (cs : List Int) (k : Nat) (h : k < (codesW cs 16).length) : (strs (outW cs 16))[k]? = some (.string (strB (digs (codesW cs 16)[k].2 (codesW cs 16)[k].1))) := by
  unfold strs
  rw [outW_codes]
  simp [h, binS_strB]
theorem outW_len (cs : List Int) : (outW cs 16).length = (codesW cs 16).length := by rw [outW_codes]; simp
set_option maxRecDepth 20000 in
set_option maxHeartbeats 1000000 in
theorem rWords_any (cs xs : List Int) (sl : Value) (w : World) (hl : cs.length = 16) (hs : SL w 1 sl xs.length (ints xs)) (h : checkZ cs xs = 0) :
    Calls Try.prog 14 #[.agg (tblv cs sl)] w fun e w' => ∃ A c, e = .returned (.slice A xs.length c) ∧ SL w' 3 (.slice A xs.length c) xs.length (toks (zipC (codesW cs 16) xs)) ∧ Ext w w' := by
  obtain ⟨hal, hsum, hx256, hok, -, -⟩ := checkZ_zero h
  have hlast := hid_ (fun W g (h : Blk W g 25 (tblv cs sl)) => tblv_last h hl)
  have hts := hid_ (tblv_size cs sl hl)
  have HWO := hid_ (fun W => wordsOf_yes cs sl W hl hal hok)
  have HLEN : Hid ((codesW cs 16).length = xs.length) := hid_ (by have := codesW_len cs (fun z hz => (allIn_iff.1 hal z hz).1) 16 (by omega); omega)
  have hol := outW_len cs
  rw [HLEN.out] at hol
  rw [hol] at HWO
  have HAT := hid_ (outW_at cs)
  have HFIT := hid_ (codesW_fit cs hok hl 16 (by omega))
  have HZT := hid_ (zipC_take (codesW cs 16) xs)
  have hs' := hs
  obtain ⟨A, c, rfl, hc1, hc2, -, -⟩ := hs'
  generalize tblv cs (.slice A xs.length c) = tv at *
  generalize strs (outW cs 16) = SS at *
  generalize codesW cs 16 = C at *
  clear hal hok hsum h hol
  go_enter Try.func14, Try.ntmps14
  go_wp2_with (first
    | (refine wpList_box_abs rfl 25 (.tmp 0) rfl tv rfl ?_; intro w1 g hb1 hx1 hg)
    | (refine wpList_load_blk rfl 25 (.tmp 1) rfl _ rfl hb1 _ Try.underlying25 rfl 17 sizeTbl hts.out ?_)
    | (go_at_call 28; (with_reducible refine (HWO.out _).mono ?_); rintro e w2 ⟨B, d, rfl, hs2, hx2⟩))
  have hsx := hs.ext (hx1.trans hx2)
  have hb2 := hb1.ext hx2
  have hszw := (hx1.trans hx2).size
  have hd1 : xs.length ≤ d ∧ d ≤ 9223372036854775807 := by obtain ⟨A', c', e, h1, h2, -⟩ := hs2; injection e with e1 e2 e3; subst e3; exact ⟨h1, h2⟩
  obtain ⟨hd1, hd2⟩ := hd1
  go_loopw [5, 15] (fun v i wr => ∃ k : Nat, k ≤ xs.length ∧ i = .int .i64 (k : Int) ∧ OwnV wr w2.heap.size 35 3 v k (toks (zipC (C.take k) xs)) ∧ Ext w2 wr) (fun _ i _ => xs.length - (intOf i).toNat)
  case atStart => exact ⟨0, by omega, rfl, OwnV.nil _ _ _ _, Ext.refl _⟩
  case round =>
    obtain ⟨k, hk, rfl, ⟨B0, d0, rfl, hown⟩, hx⟩ := hrel
    by_cases hlt : k < xs.length
    · have hkC : k < C.length := by have := HLEN.out; omega
      obtain ⟨ad, u, hA, -, hxk, hcell⟩ := hsx.at1 hlt
      obtain ⟨hkl2, rfl⟩ := ints_at _ _ _ hxk
      obtain ⟨bd, u, hB, hbl, hsk, hcells⟩ := (hs2.ext hx).at1 hlt
      rw [HAT.out k hkC] at hsk
      injection hsk with hsk
      subst hsk
      subst hA hB
      have HZ := hid_ (HZT.out k hkC (by have := HLEN.out; omega))
      have hfit := HFIT.out _ (List.getElem_mem hkC)
      generalize C[k] = p at *
      obtain ⟨pl, pc⟩ := p
      simp only at hfit HZ hcells
      obtain ⟨f1, f2, f3⟩ := hfit
      have HFB : Hid (∀ W, Calls Try.prog 30 #[.string (strB (digs pc pl))] W fun e w' => e = .returned (.int .i64 (pc : Int)) ∧ Ext W w') := hid_ (fun W => by
        have := fromBin_any (digs pc pl) W (by rw [digs_len]; omega)
        rwa [numB_digs_lt (by omega)] at this)
      have hssz : (strB (digs pc pl)).size = pl := by rw [strB_size, digs_len]
      have HC16 := hid_ (fun W (hW : Ext wr.drew W) => hlast.out W g ((hb2.ext hx).drew.ext hW))
      have HXK := hid_ (fun W (hW : Ext wr.drew W) => (((hsx.ext hx).drew.ext hW).at1 hlt))
      have HCL : Hid (∀ W, Ext wr.drew W → W.cell? (ad.add k) = some (.int .i64 xs[k])) := hid_ (fun W hW => by
        obtain ⟨ad', u', e1, -, e2, e3⟩ := HXK.out W hW
        injection e1 with e1
        subst e1
        rw [hxk] at e2
        injection e2 with e2
        rw [e3, ← e2])
      have hownE := hid_ (fun W (hW : Ext wr.drew W) => own_ext0 (w := wr.drew) hown hW)
      generalize strB (digs pc pl) = sb at *
      generalize xs[k] = x at *
      have hx' : Ext w2 wr.drew := hx.drew
      have hwz : w2.heap.size ≤ wr.drew.heap.size := hx'.size
      clear hxk HXK hcell hown f3
      go_wp2_with fail
      refine wp_region_lxt later_ext 12 (by kernel_rfl) (by kernel_rfl) ?_
      simp only [List.take_succ_cons, List.take_zero]
      iterate 9 (refine lx_ex (by rfl) ?_; apply Exists.intro; refine ⟨fun w hw => ?_, ?_⟩; · (have h1 := HC16.out w hw; have h2 := HCL.out w hw; go_simp; with_reducible rfl)
                 simp only [Act.put, List.setIfInBounds_toArray, List.set_cons_succ, List.set_cons_zero])
      refine lx_callF (by rfl) 30 Try.func30 rfl rfl _ _ rfl #[.string sb] (by simp [Act.eval]) (.int .i64 (pc : Int)) (fun W h => HFB.out W) ?_
      simp only [Act.put, List.setIfInBounds_toArray, List.set_cons_succ, List.set_cons_zero]
      refine lx_ex (by rfl) ?_; apply Exists.intro; refine ⟨fun w hw => ?_, ?_⟩
      · go_simp
        with_reducible rfl
      simp only [Act.put, List.setIfInBounds_toArray, List.set_cons_succ, List.set_cons_zero]
      refine lx_alone (by kernel_rfl) rfl (by rfl) (fun w hw => ?_)
      go_simp
      refine ⟨(Ext.refl w).alloc _, ?_⟩
      refine lx_nil ?_
      intro w3 hx3
      try simp only [List.drop_succ_cons, List.drop_zero]
      have hxw := hw.trans ((Ext.refl w).alloc (.cells #[.int .i64 x, .int .i64 (pl : Int), .int .i64 (pc : Int)] 35))
      have hown3 := hownE.out w3 (hxw.trans hx3)
      have hone := hid_ ((one_sl3' w 35 (.int .i64 x) (.int .i64 (pl : Int)) (.int .i64 (pc : Int))).ext hx3)
      have hx23 := hx'.trans (hxw.trans hx3)
      have hz3 := hx23.size
      clear hownE HC16 HCL hxw
      go_wp2_with (at_builtin; go_must (refine wpList_append_sl elt_word rfl _ _ rfl w2.heap.size _ _ _ rfl hown3 _ 1 [.int .i64 _, .int .i64 _, .int .i64 _] rfl hone.out (int3_one _ _ _) (by omega) (by omega) (by omega) ?_); intro v' w7 hown7 hb7)
      go_roundw
      case rel =>
        refine ⟨k + 1, by omega, by go_num, ?_, hx23.trans' hb7⟩
        rw [HZ.out, toks_app]
        have := OwnV.mk hown7
        simpa [toks, tokv] using this
      case measure => simp [intOf]; omega
    · have ek : k = xs.length := by omega
      have HF : Hid (C.take xs.length = C) := hid_ (List.take_of_length_le (by have := HLEN.out; omega))
      rw [ek] at hown ⊢
      rw [HF.out] at hown
      go_wp2_with fail
      go_ret
      obtain ⟨hsl, hfs⟩ := own_out hown
      exact ⟨B0, d0, rfl, hsl, (hx1.trans hx2).trans hx⟩
end Go.Proofs.Ytdldkmplgfhnkaa
