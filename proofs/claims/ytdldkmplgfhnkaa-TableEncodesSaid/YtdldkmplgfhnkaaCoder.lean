/- table.NewCoder, Coder.Put. -/
import Derived.Test.YtdldkmplgfhnkaaCoderMath
namespace Go.Proofs.Ytdldkmplgfhnkaa
set_option linter.unusedVariables false
set_option linter.unusedSimpArgs false
open Go.RowKit Go.Maps Go.WideMaps
set_option maxRecDepth 20000 in
set_option maxHeartbeats 1000000 in
theorem newCoder_any (cs xs : List Int) (sl : Value) (w : World) (hl : cs.length = 16) (hs : SL w 1 sl xs.length (ints xs)) (h : checkZ cs xs = 0) :
    Calls Try.prog 31 #[.agg (tblv cs sl)] w fun e w' => ∃ gc, e = .returned (.pointer (some ⟨gc, 0, none⟩)) ∧ CoderS w' gc (zipC (codesW cs 16) xs) ∧ Ext w w' := by
  obtain ⟨q1, q2, q3, q4, q5, q6⟩ := checkZ_zero h
  have HW := hid_ (fun W h => words_any cs xs sl W hl h q1 q4 q2 q3)
  have hts := hid_ (tblv_size cs sl hl)
  have hlen : (codesW cs 16).length = xs.length := by have := codesW_len cs (fun z hz => (allIn_iff.1 q1 z hz).1) 16 (by omega); omega
  have hZl : (zipC (codesW cs 16) xs).length = xs.length := by rw [zipC_len _ _ (by omega), hlen]
  have HAP := hid_ (zipC_apart cs xs q6 hlen)
  have HFIT := hid_ (codesW_fit cs q4 hl 16 (by omega))
  have HIN := hid_ (allIn_iff.1 q5)
  have HAT := hid_ (fun k (h1 : k < (codesW cs 16).length) (h2 : k < xs.length) hk => zipC_at (codesW cs 16) xs k h1 h2 hk)
  have hmm := @run_makeMap Try.prog
  generalize tblv cs sl = tv at *
  have HBD : Hid (∀ k (hk : k < (zipC (codesW cs 16) xs).length), 0 ≤ ((zipC (codesW cs 16) xs)[k]).1 ∧ ((zipC (codesW cs 16) xs)[k]).1 ≤ 255 ∧ okP ((zipC (codesW cs 16) xs)[k]).2) := hid_ (fun k hk => by
    have hk1 : k < (codesW cs 16).length := by omega
    have hk2 : k < xs.length := by omega
    rw [HAT.out k hk1 hk2 hk]
    have h1 := HIN.out _ (List.getElem_mem hk2)
    obtain ⟨f1, f2, f3⟩ := HFIT.out _ (List.getElem_mem hk1)
    have h2 := Nat.pow_le_pow_right (n := 2) (by omega) f2
    refine ⟨h1.1, h1.2, ⟨by simp only; omega, by simp only; omega⟩, by simp only; omega, by simp only; omega⟩)
  clear HAT HIN HFIT hlen
  generalize zipC (codesW cs 16) xs = Z at *
  have HZL := hid_ hZl
  clear h q1 q2 q4 q5 q6 hZl
  go_enter Try.func31, Try.ntmps31
  go_wp2_with (first
    | (refine wpList_box_abs rfl 25 (.tmp 0) rfl tv rfl ?_; intro w1 g hb1 hx1 hg; have hs1 := hs.ext hx1)
    | (refine wpList_box_abs rfl 100 (.tmp 8) rfl _ rfl ?_; intro w3 gc hbc hx3 hgc; have hb3 := ((hb1.alloc (.map #[] 0)).alloc (.map #[] 0)).ext hx3; have hs3 := (hs1.ext (((Ext.refl w1).alloc (.map #[] 0)).alloc (.map #[] 0))).ext hx3)
    | (refine wpList_load_blk rfl 25 (.tmp 1) rfl _ rfl hb3 _ Try.underlying25 rfl 17 sizeTbl hts.out ?_)
    | (go_at_call 29; (with_reducible refine (HW.out _ hs3).mono ?_); rintro e w4 ⟨A, c, rfl, hsl, hfr, hx4⟩))
  have hm1 : MapI Try.prog 3 w4 w1.heap.size 0 (symF []) := (((MapG.made w1).alloc (.map #[] 0)).ext hx3).ext hx4
  have hm2 : MapP w4 (w1.heap.size + 1) 0 (codeF []) := by
    have := (((MapG.made (P := Try.prog) (k := 101) (kl := klP) (ok := okP) (w1.alloc (.map #[] 0))).ext hx3).ext hx4)
    rwa [World.size_alloc] at this
  have hbc4 := hbc.ext hx4
  have hxw : Ext w w4 := ((((hx1.alloc (.map #[] 0)).alloc (.map #[] 0)).trans hx3).trans hx4)
  have hz1 := hx1.size
  have hz3 := hx3.size
  simp only [World.size_alloc] at hz3 hgc
  have hz4 := hx4.size
  have hc1 : xs.length ≤ c ∧ c ≤ 9223372036854775807 := by obtain ⟨A', c', e, h1, h2, -⟩ := hsl; injection e with e1 e2 e3; subst e3; exact ⟨h1, h2⟩
  obtain ⟨hc1, hc2⟩ := hc1
  generalize hM : w1.heap.size = M at *
  clear hM hmm hb1 hb3 hs1 hs3 hbc hx1 hx3 hx4 hs
  go_loopw [13] (fun i wr => ∃ k : Nat, k ≤ xs.length ∧ i = .int .i64 (k : Int) ∧ MapI Try.prog 3 wr M k (symF (Z.take k)) ∧ MapP wr (M + 1) k (codeF (Z.take k)) ∧ Upd (fun b => b = M ∨ b = M + 1) w4 wr) (fun i _ => xs.length - (intOf i).toNat)
  case atStart => exact ⟨0, by omega, rfl, hm1, hm2, Upd.refl _ _⟩
  case round =>
    clear hm1 hm2
    obtain ⟨k, hk, rfl, hm1, hm2, hu⟩ := hrel
    by_cases hlt : k < xs.length
    · have hkZ : k < Z.length := by have := HZL.out; omega
      have hslr := hsl.upd hu (fun ad h => by have := hfr ad h; omega)
      obtain ⟨ad, rfl, hbl, h1, h2, h3⟩ := hslr.tok hlt HZL.out hkZ
      have hbcr := hu.blk hbc4 (by omega)
      obtain ⟨a1, a2⟩ := HAP.out k hkZ
      obtain ⟨b1, b2, b3⟩ := HBD.out k hkZ
      have HS1 := hid_ (symF_snoc_same (Z.take k) Z[k] a1)
      have HS2 := hid_ (fun s => symF_snoc_other (Z.take k) Z[k] s)
      have HC1 := hid_ (codeF_snoc_same (Z.take k) Z[k] a2)
      have HC2 := hid_ (fun p => codeF_snoc_other (Z.take k) Z[k] p)
      have HTS := hid_ (toks_take_succ Z k hkZ)
      generalize Z[k] = t at *
      obtain ⟨t1, t2, t3⟩ := t
      simp only at b1 b2
      clear a1 a2
      have hkey1 := hid_ (keyOf_i64 (P := Try.prog) Try.underlying3 (a := t1) (by omega) (by omega))
      have hkey2 := hid_ (keyOf_P (t2, t3) b3)
      have HB3 := hid_ b3
      clear b3
      simp only at h1 h2 h3
      go_wp2_with fail
      have hn := Blk.new wr 35 #[.int .i64 t1, .int .i64 t2, .int .i64 t3]
      have hxa := Ext.alloc (Ext.refl wr) (.cells #[.int .i64 t1, .int .i64 t2, .int .i64 t3] 35)
      have hm1a := hm1.alloc (.cells #[.int .i64 t1, .int .i64 t2, .int .i64 t3] 35)
      have hm2a := hm2.alloc (.cells #[.int .i64 t1, .int .i64 t2, .int .i64 t3] 35)
      have hbca := hbcr.ext hxa
      have hua := hu.trans (Upd.of_ext (S := fun _ => False) hxa) (fun x hx => hx.elim)
      have hnz : wr.heap.size ≠ M ∧ wr.heap.size ≠ M + 1 := by have := hm1.lt; have := hm2.lt; omega
      generalize hw2 : wr.alloc (.cells #[.int .i64 t1, .int .i64 t2, .int .i64 t3] 35) = w5 at *
      generalize wr.heap.size = gn at *
      clear hw2 h1 h2 h3 hxa hm1 hm2 hbcr hu hslr
      have hcv : ∀ W, Blk W gn 35 #[.int .i64 t1, .int .i64 t2, .int .i64 t3] → W.cell? ⟨gn, 0, none⟩ = some (.int .i64 t1) ∧ W.cell? ⟨gn, 1, none⟩ = some (.int .i64 t2) ∧ W.cell? ⟨gn, 2, none⟩ = some (.int .i64 t3) := fun W h => ⟨h.cell 0, h.cell 1, h.cell 2⟩
      have hcc : ∀ W, Blk W gc 100 #[.map (some M), .map (some (M + 1))] → W.cell? ⟨gc, 0, none⟩ = some (.map (some M)) ∧ W.cell? ⟨gc, 1, none⟩ = some (.map (some (M + 1))) := fun W h => ⟨h.cell 0, h.cell 1⟩
      have HCV := hid_ hcv
      have HCC := hid_ hcc
      clear hcv hcc
      obtain ⟨n1, n2, n3⟩ := HCV.out _ hn
      obtain ⟨g1, g2⟩ := HCC.out _ hbca
      refine wp_region_lxt later_eq 7 (by kernel_rfl) (by kernel_rfl) ?_
      simp only [List.take_succ_cons, List.take_zero]
      iterate 7 (refine lx_ex (by rfl) ?_; apply Exists.intro; refine ⟨fun w hw => ?_, ?_⟩; · (subst hw; go_simp; with_reducible rfl)
                 simp only [Act.put, List.setIfInBounds_toArray, List.set_cons_succ, List.set_cons_zero])
      refine lx_nil ?_
      rintro w6 rfl
      try simp only [List.drop_succ_cons, List.drop_zero]
      clear n1 n2 n3 g1 g2
      have hm1d := hm1a.ext (w' := w5.drew) (Ext.refl w5).drew
      have hm2d := hm2a.ext (w' := w5.drew) (Ext.refl w5).drew
      go_wp2_with (at_mapUpdate; refine wpList_upd_g (by rfl) _ _ _ 97 35 rfl keyed_int Try.underlying97 rfl hm1d (by omega) _ rfl _ rfl t1 hkey1.out (symF (Z.take k ++ [(t1, t2, t3)])) HS1.out (fun j _ hj => HS2.out j (fun e => hj (by rw [e]))) (fun j _ hj => by injection hj) ?_; intro w7 hm7 hg7)
      have hn7 := hn.drew.grown hg7 (by simp; omega)
      have hb7 := hbca.drew.grown hg7 (by simp; omega)
      have hm27 := hm2d.grown hg7 (by simp)
      have hu7 := hua.drew.grown hg7 (fun b hb => .inl (by injection hb with hb; exact .inl hb.symm))
      obtain ⟨n1, n2, n3⟩ := HCV.out _ hn7
      obtain ⟨g1, g2⟩ := HCC.out _ hb7
      clear hm1d hm2d hm1a hm2a hua hg7
      simp only [Act.put, List.setIfInBounds_toArray, List.set_cons_succ, List.set_cons_zero]
      refine wp_region_lxt later_eq 11 (by kernel_rfl) (by kernel_rfl) ?_
      simp only [List.take_succ_cons, List.take_zero]
      iterate 11 (refine lx_ex (by rfl) ?_; apply Exists.intro; refine ⟨fun w hw => ?_, ?_⟩; · (subst hw; go_simp; with_reducible rfl)
                  simp only [Act.put, List.setIfInBounds_toArray, List.set_cons_succ, List.set_cons_zero])
      refine lx_nil ?_
      rintro w8 rfl
      try simp only [List.drop_succ_cons, List.drop_zero]
      clear n1 n2 n3 g1 g2
      have hm2e := hm27.ext (w' := w7.drew) (Ext.refl w7).drew
      have hm1e := hm7.ext (w' := w7.drew) (Ext.refl w7).drew
      go_wp2_with (at_mapUpdate; refine wpList_upd_g (by rfl) _ _ _ 98 3 rfl keyed_pair Try.underlying98 rfl hm2e (by omega) _ rfl _ rfl (t2, t3) hkey2.out (codeF (Z.take k ++ [(t1, t2, t3)])) HC1.out (fun j hj0 hj => HC2.out j (fun e => hj (by rw [e]))) (fun j hj0 hj => klP_inj hj0 HB3.out hj) ?_; intro w9 hm9 hg9)
      go_roundw
      case rel =>
        refine ⟨k + 1, by omega, by go_num, ?_, ?_, ?_⟩
        · rw [HTS.out]; exact hm1e.grown hg9 (by simp)
        · rw [HTS.out]; exact hm9
        · exact hu7.drew.grown hg9 (fun b hb => .inl (by injection hb with hb; exact .inr hb.symm))
      case measure => simp [intOf]; omega
    · have ek : k = xs.length := by omega
      have HF : Hid (Z.take k = Z) := hid_ (List.take_of_length_le (by have := HZL.out; omega))
      rw [HF.out] at hm1 hm2
      go_wp2_with fail
      go_ret
      exact ⟨gc, rfl, ⟨M, M + 1, k, hu.blk hbc4 (by omega), hm1, hm2⟩, hu.ext hxw (by omega)⟩
end Go.Proofs.Ytdldkmplgfhnkaa
