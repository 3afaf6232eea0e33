/- Contracts for the law DeskRunsCard, part 25: what the functions that it reaches answer, for all arguments that the theorems name. -/
import Derived.Test.YtlhggcbpipmjhaaGreatDoorMDeskRunsCard24
namespace Go.Proofs.YtlhggcbpipmjhaaGreatDoor
set_option linter.unusedVariables false
set_option linter.unusedSimpArgs false
open Go.RowKit
set_option maxRecDepth 20000 in
set_option maxHeartbeats 40000000 in
theorem rline_any (b q : List Int) (v : Value) (L : List ByteArray) (w : World) (hS : StOk b q) (hsz : ∀ s ∈ L, s.size ≤ 300) (hLn : L.length ≤ 400) (hv : SL w 1 v L.length (L.map Value.string)) :
 Calls Tryz.prog 10 #[.agg (bv b), .agg (bv q), v] w (RLineIs (lineZ b q (L.map (·.data.toList))) w) := by
 obtain ⟨A, c, rfl, hc1, hc2, -, -⟩ := id hv
 have HV := hid_ hv
 have HS := hid_ hS
 have HSZ := hid_ hsz
 have hsb := hid_ ((bv_size b).trans hS.1)
 have hsq := hid_ ((bv_size q).trans hS.2.1)
 have hob := hid_ (bv_one b)
 have hoq := hid_ (bv_one q)
 have HW1 := hid_ (fun W => rwaveTo_any b W hS.1)
 have HW2 := hid_ (fun W => rwaveFrom_any b W hS.1)
 have HQ1 := hid_ (fun W => rdown_any b q W hS.1 hS.2.1)
 have HQ2 := hid_ (fun W => rup_any b q W hS.1 hS.2.1)
 obtain ⟨cb, hcb⟩ : ∃ cb, bv b = cb := ⟨_, rfl⟩
 obtain ⟨cq, hcq⟩ : ∃ cq, bv q = cq := ⟨_, rfl⟩
 have HCB := hid_ hcb
 have HCQ := hid_ hcq
 rw [hcb] at hsb hob HW1 HW2 HQ1 HQ2 ⊢
 rw [hcq] at hsq hoq HQ1 HQ2 ⊢
 have HZB := zero48
 have hz := hid_ zer64
 obtain ⟨cz, hcz⟩ : ∃ cz, bv zeros64 = cz := ⟨_, rfl⟩
 rw [hcz] at HZB hz
 obtain ⟨Z, hZ⟩ : ∃ Z, lineZ b q (L.map (·.data.toList)) = Z := ⟨_, rfl⟩
 have HZ0 := hid_ hZ
 rw [hZ]
 clear hcz hcb hcq hS hv hsz hZ
 cases L with
 | nil =>
   have HZ : Hid (Z = noZ 4 b q) := hid_ HZ0.out.symm
   go_enter Tryz.func10, Tryz.ntmps10
   go_upto_region 3 with (first
    | ((with_reducible apply gS 3); refine wBox rfl 30 (.tmp 0) rfl cb rfl ?_; intro w1 g3 hb3 hx1 hg3)
    | ((with_reducible apply gS 4); refine wBox rfl 30 (.tmp 1) rfl cq rfl ?_; intro w2 g4 hb4 hx2 hg4)
    | ((with_reducible apply gS 7); refine wAlo' rfl (some 7) rfl 30 rfl _ HZB ?_; intro w3 g7 hb7 hx3 hg7)
    | ((with_reducible apply gS 8); refine wAlo' rfl (some 8) rfl 30 rfl _ HZB ?_; intro w4 g8 hb8 hx4 hg8))
   have hRD : RD w g3 g4 g7 g8 cb cq cz w4 := ⟨((hx1.trans hx2).trans hx3).trans hx4, hb3.ext ((hx2.trans hx3).trans hx4), hb4.ext (hx3.trans hx4), hb7.ext hx4, hb8⟩
   have hor : Hid (w.heap.size ≤ g3 ∧ g3 < g4 ∧ g4 < g7 ∧ g7 < g8) := hid_ ⟨hg3, by have := hb3.lt; omega, by have := hb4.lt; omega, by have := hb7.lt; omega⟩
   have HBAD := hid_ (fun e W (h : RD w g3 g4 g7 g8 cb cq cz W) => bad_any e g3 g4 cb cq W h.b3 h.b4 hsb.out hsq.out hob.out hoq.out)
   clear hb3 hb4 hb7 hb8 hx1 hx2 hx3 hx4 hg3 hg4 hg7 hg8
   go_wp2_with (first
    | ((with_reducible apply gS 42); refine wl_enter (by rfl) (run_callv (.tmp 41) _ _ rfl rfl goesBad #[.int .i64 4, .pointer (some ⟨g3, 0, none⟩), .pointer (some ⟨g4, 0, none⟩)] (by simp [Act.eval])) ?_; refine (HBAD.out 4 _ hRD).mono ?_; rintro _ wE ⟨rfl, hxE⟩; refine ⟨_, rfl, ?_⟩; have hRE := RD.ext hRD hxE)
    | ((with_reducible apply gT 7 44); refine wStB rfl 30 (.tmp 7) (.tmp 44) rfl g7 cb rfl rfl hRE.b7 64 size48 hsb.out hz.out hob.out ?_; intro wF hb7 hgF; have hRF := hRE.st7 hb7 hgF hor.out)
    | ((with_reducible apply gT 8 45); refine wStB rfl 30 (.tmp 8) (.tmp 45) rfl g8 cq rfl rfl hRF.2.2 64 size48 hsq.out hz.out hoq.out ?_; intro wG hb8 hgG; have hRG := st8 hRF hb8 hgG hor.out))
   exact ret_mix rfl rfl g7 g8 rfl rfl hRG.2.1 hRG.2.2 _ Tryz.underlying30 rfl 64 size48 hsb.out hsq.out (by rw [HZ.out]; exact bad_is (by omega) HCB.out HCQ.out hRG.1)
 | cons y L' =>
   obtain ⟨N, hN⟩ : ∃ N, L'.length = N := ⟨_, rfl⟩
   have HLN := hid_ hN
   simp only [List.length_cons, hN] at hc1 hLn HV ⊢
   obtain ⟨x, hx⟩ : ∃ x, y.data.toList = x := ⟨_, rfl⟩
   have HYX := hid_ hx
   obtain ⟨r, hr⟩ : ∃ r, L'.map (·.data.toList) = r := ⟨_, rfl⟩
   have HLR := hid_ hr
   have HN : Hid (r.length = N) := hid_ (by rw [← hr, List.length_map]; exact hN)
   have HZ1 : Hid (Z = match kindZ x with | none => noZ 4 b q | some k => if okM k N then (match numsZ r with | none => noZ 4 b q | some n => actZ k b q n) else noZ 4 b q) := hid_ (by
    rw [← HZ0.out, ← HN.out, ← hr, ← hx]
    rfl)
   obtain ⟨ad, u, rfl, hab, hu0, hc0⟩ := HV.out.at1 (k := 0) (by omega)
   have huy : u = .string y := by simp at hu0; exact hu0.symm
   subst huy
   have HCY := hid_ (fun W (h : Ext w W) => (h.cell (p := ad.add 0) (by rw [block_of_add]; exact hab)).trans hc0)
   have H40 : Hid (decide (((N : Int) + 1) = 0) = false) := hid_ (by simp; omega)
   have hs9 := HV.out.tail (by omega)
   obtain ⟨A9, hA9⟩ : ∃ A9, (if c = 1 then some ad else (some ad).map (·.add 1)) = A9 := ⟨_, rfl⟩
   have HA9 := hid_ hA9
   rw [hA9] at hs9
   have hs9' : SL w 1 (.slice A9 N (c - 1)) N (L'.map Value.string) := hs9
   have HS9 := hid_ hs9'
   clear hs9 hs9' hA9 hu0 hc0 hx hr hN
   go_enter Tryz.func10, Tryz.ntmps10
   go_upto_region 3 with (first
    | ((with_reducible apply gS 3); refine wBox rfl 30 (.tmp 0) rfl cb rfl ?_; intro w1 g3 hb3 hx1 hg3)
    | ((with_reducible apply gS 4); refine wBox rfl 30 (.tmp 1) rfl cq rfl ?_; intro w2 g4 hb4 hx2 hg4)
    | ((with_reducible apply gS 7); refine wAlo' rfl (some 7) rfl 30 rfl _ HZB ?_; intro w3 g7 hb7 hx3 hg7)
    | ((with_reducible apply gS 8); refine wAlo' rfl (some 8) rfl 30 rfl _ HZB ?_; intro w4 g8 hb8 hx4 hg8))
   have hRD : RD w g3 g4 g7 g8 cb cq cz w4 := ⟨((hx1.trans hx2).trans hx3).trans hx4, hb3.ext ((hx2.trans hx3).trans hx4), hb4.ext (hx3.trans hx4), hb7.ext hx4, hb8⟩
   have hor : Hid (w.heap.size ≤ g3 ∧ g3 < g4 ∧ g4 < g7 ∧ g7 < g8) := hid_ ⟨hg3, by have := hb3.lt; omega, by have := hb4.lt; omega, by have := hb7.lt; omega⟩
   have HBAD := hid_ (fun e W (h : RD w g3 g4 g7 g8 cb cq cz W) => bad_any e g3 g4 cb cq W h.b3 h.b4 hsb.out hsq.out hob.out hoq.out)
   clear hb3 hb4 hb7 hb8 hx1 hx2 hx3 hx4 hg3 hg4 hg7 hg8
   go_wp2_with (first
    | ((with_reducible apply gS 40); refine wl_run rfl (.bool false) (ex_eql (m := (N : Int) + 1) (n := 0) rfl rfl rfl H40.out) ?_)
    | ((with_reducible apply gS 48); refine wl_run rfl (.slice A9 N (c - 1)) (by rw [← HA9.out]; exact ex_sliceT (A := some ad) (n := N + 1) (c := c) rfl rfl rfl (by omega) hc1) ?_))
   go_loopw [11, 50] (fun sv iv wr => ∃ (j : Nat) (B : Option Addr) (d : Nat) (zs : List Int), j ≤ N ∧ iv = .int .i64 (j : Int) ∧ sv = .slice B j d ∧ numsZ (r.take j) = some zs ∧ zs.length = j ∧ wr.ownsRow w4.heap.size 3 1 (.slice B j d) j (ints zs) ∧ Ext w4 wr) (fun _ iv _ => N - (intOf iv).toNat)
   case atStart => exact ⟨0, none, 0, [], by omega, rfl, rfl, rfl, rfl, own_nil _ _ _ _, Ext.refl _⟩
   case round =>
    obtain ⟨j, B, d, zs, hj, rfl, rfl, hnz, hzl, hown, hx⟩ := hrel
    have HNZ := hid_ hnz
    have HZL := hid_ hzl
    have hRr := hRD.ext hx
    clear hnz hzl
    by_cases hlt : j < N
    ·obtain ⟨ad2, u, rfl, hab2, hu, hc⟩ := (HS9.out.ext (hRD.x.trans hx)).at1 hlt
     have hjL : j < L'.length := by rw [HLN.out]; exact hlt
     have hjr : j < r.length := by rw [HN.out]; exact hlt
     have huy : u = .string L'[j] := by
      rw [List.getElem?_map, List.getElem?_eq_getElem hjL] at hu
      injection hu with hu
      exact hu.symm
     have hyr : L'[j].data.toList = r[j] := by simp only [← HLR.out, List.getElem_map]
     have hys : L'[j].size ≤ 300 := HSZ.out _ (List.mem_cons_of_mem _ (List.getElem_mem hjL))
     have HNU := hid_ (fun W => numeral_any L'[j] hys W)
     have hap := numsZ_append (r.take j) r[j]
     rw [HNZ.out] at hap
     have hts : r.take (j + 1) = r.take j ++ [r[j]] := List.take_succ_eq_append_getElem hjr
     rw [← hts] at hap
     dsimp only at hap
     rw [hyr, ← num_same] at HNU
     subst huy
     clear hyr hys hu
     generalize L'[j] = y2 at *
     cases hnp : numP r[j] with
     | none =>
       rw [hnp] at HNU hap
       have hnn : numsZ r = none := by
        have h1 := numsZ_pre (m := r.drop (j + 1)) hap
        rwa [List.take_append_drop] at h1
       have HZ : Hid (Z = noZ 4 b q) := hid_ (by
        rw [HZ1.out, hnn]
        cases kindZ x with
        | none => rfl
        | some k => dsimp only; split <;> rfl)
       clear hap hnp hts hnn
       go_wp2_with (first
        | ((with_reducible apply gS 53); refine wl_read rfl (.string y2) (ex_loadS1 rfl rfl (by simpa using hc)) ?_)
        | (go_at_call 19; (with_reducible refine (HNU.out _).mono ?_); rintro e w2 ⟨nn, is, rfl, hnum, hx3⟩; have his : is = false := (by cases is with | false => rfl | true => cases hnum); subst his; have hR3 := hRr.ext hx3)
        | ((with_reducible apply gS 62); refine wl_enter (by rfl) (run_callv (.tmp 61) _ _ rfl rfl goesBad #[.int .i64 4, .pointer (some ⟨g3, 0, none⟩), .pointer (some ⟨g4, 0, none⟩)] (by simp [Act.eval])) ?_; refine (HBAD.out 4 _ hR3).mono ?_; rintro _ wE ⟨rfl, hxE⟩; refine ⟨_, rfl, ?_⟩; have hRE := RD.ext hR3 hxE)
        | ((with_reducible apply gT 7 64); refine wStB rfl 30 (.tmp 7) (.tmp 64) rfl g7 cb rfl rfl hRE.b7 64 size48 hsb.out hz.out hob.out ?_; intro wF hb7 hgF; have hRF := hRE.st7 hb7 hgF hor.out)
        | ((with_reducible apply gT 8 65); refine wStB rfl 30 (.tmp 8) (.tmp 65) rfl g8 cq rfl rfl hRF.2.2 64 size48 hsq.out hz.out hoq.out ?_; intro wG hb8 hgG; have hRG := st8 hRF hb8 hgG hor.out))
       exact ret_mix rfl rfl g7 g8 rfl rfl hRG.2.1 hRG.2.2 _ Tryz.underlying30 rfl 64 size48 hsb.out hsq.out (by rw [HZ.out]; exact bad_is (by omega) HCB.out HCQ.out hRG.1)
     | some z =>
       rw [hnp] at HNU hap
       have HAP : Hid (numsZ (r.take (j + 1)) = some (zs ++ [z])) := hid_ hap
       clear hap hnp hts
       have HIA : Hid (ints (zs ++ [z]) = ints zs ++ [.int .i64 z]) := hid_ (by simp [ints])
       have HZ1' : Hid ((zs ++ [z]).length = j + 1) := hid_ (by simp [HZL.out])
       generalize ints zs = XS at *
       go_wp2_with (first
        | ((with_reducible apply gS 53); refine wl_read rfl (.string y2) (ex_loadS1 rfl rfl (by simpa using hc)) ?_)
        | (go_at_call 19; (with_reducible refine (HNU.out _).mono ?_); rintro e w2 ⟨nn, is, rfl, hnum, hx3⟩; have his : is = true ∧ nn = z := (by cases is with | false => cases hnum | true => exact ⟨rfl, by injection hnum⟩); obtain ⟨rfl, rfl⟩ := his; have hown2 := own_keep hown hx3)
        | ((with_reducible apply gS 69); refine lit1I rfl (.tmp 68) rfl (some 69) rfl nn rfl ?_; intro w5 gb hbb hx5 hgb; have hown5 := own_keep hown2 hx5; have hx15 := (hx.trans hx3).trans hx5; have hszw : w4.heap.size ≤ w5.heap.size := hx15.size)
        | ((with_reducible apply gS 70); refine wApf elt_intD rfl _ _ rfl w4.heap.size _ _ _ rfl hown5 _ 1 [.int .i64 nn] rfl hbb (ints_one_mem [nn]) (by omega) (by omega) hszw ?_; intro B7 d7 w7 hown7 hg7 hrow7))
       have hy7 : Ext w4 w7 := (upd_grown hg7).ext hx15 (fun b hb => (hown5.lt b hb).1)
       go_roundw
       case rel => exact ⟨j + 1, B7, d7, zs ++ [nn], by omega, by go_num, rfl, HAP.out, HZ1'.out, by rw [HIA.out]; exact hown7, hy7⟩
       case measure => simp [intOf]; omega
    ·obtain rfl : j = N := by omega
     have hall : r.take j = r := by rw [← HN.out, List.take_length]
     have hnr : numsZ r = some zs := by have := HNZ.out; rwa [hall] at this
     have hsl := (own_out hown).1
     have HZ2 : Hid (Z = match kindZ x with | none => noZ 4 b q | some k => if okM k j then actZ k b q zs else noZ 4 b q) := hid_ (by rw [HZ1.out, hnr])
     have HSL : Hid (SL wr 1 (.slice B j d) j (ints zs)) := hid_ hsl
     clear hall hnr hsl
     have HMX : Hid (max (1 : Int) (j : Int) = if j = 0 then 1 else (j : Int)) := hid_ (by split <;> omega)
     go_upto_region 14 with (first
      | ((with_reducible apply gS 72); refine wl_mkmap rfl 52 rfl (some 72) rfl ?_; intro m0 mb hm0 hy0 hmb)
      | ((with_reducible apply gS 75); refine wl_run rfl (.int .i64 (max 1 (j : Int))) (ex_maxI rfl rfl rfl) ?_)
      | (refine wpList_ins_s (by rfl) (.tmp 72) _ _ 52 3 rfl Tryz.underlying9 Tryz.underlying52 rfl hm0 (by omega) [115, 101, 116] (by simp) rfl (.int .i64 (2)) rfl ?_; intro m1 hm1 hn1; have hy1 := hy0.grown hn1 (by have := hmb; omega))
      | (refine wpList_ins_s (by rfl) (.tmp 72) _ _ 52 3 rfl Tryz.underlying9 Tryz.underlying52 rfl hm1 (by omega) [99, 111, 97, 114, 115, 101] (by simp) rfl (.int .i64 (1)) rfl ?_; intro m2 hm2 hn2; have hy2 := hy1.grown hn2 (by have := hmb; omega))
      | (refine wpList_ins_s (by rfl) (.tmp 72) _ _ 52 3 rfl Tryz.underlying9 Tryz.underlying52 rfl hm2 (by omega) [115, 104, 111, 119] (by simp) rfl (.int .i64 (0)) rfl ?_; intro m3 hm3 hn3; have hy3 := hy2.grown hn3 (by have := hmb; omega))
      | (refine wpList_ins_s (by rfl) (.tmp 72) _ _ 52 3 rfl Tryz.underlying9 Tryz.underlying52 rfl hm3 (by omega) [119, 97, 118, 101] (by simp) rfl (.int .i64 (0)) rfl ?_; intro m4 hm4 hn4; have hy4 := hy3.grown hn4 (by have := hmb; omega))
      | (refine wpList_ins_s (by rfl) (.tmp 72) _ _ 52 3 rfl Tryz.underlying9 Tryz.underlying52 rfl hm4 (by omega) [98, 97, 99, 107] (by simp) rfl (.int .i64 (0)) rfl ?_; intro m5 hm5 hn5; have hy5 := hy4.grown hn5 (by have := hmb; omega))
      | (refine wpList_ins_s (by rfl) (.tmp 72) _ _ 52 3 rfl Tryz.underlying9 Tryz.underlying52 rfl hm5 (by omega) [100, 111, 119, 110] (by simp) rfl (.int .i64 (0)) rfl ?_; intro m6 hm6 hn6; have hy6 := hy5.grown hn6 (by have := hmb; omega))
      | (refine wpList_ins_s (by rfl) (.tmp 72) _ _ 52 3 rfl Tryz.underlying9 Tryz.underlying52 rfl hm6 (by omega) [117, 112] (by simp) rfl (.int .i64 (0)) rfl ?_; intro m7 hm7 hn7; have hy7 := hy6.grown hn7 (by have := hmb; omega))
      | (refine wpList_ins_s (by rfl) (.tmp 72) _ _ 52 3 rfl Tryz.underlying9 Tryz.underlying52 rfl hm7 (by omega) [116, 111, 107, 101, 110, 115] (by simp) rfl (.int .i64 (0)) rfl ?_; intro m8 hm8 hn8; have hy8 := hy7.grown hn8 (by have := hmb; omega))
      | (refine wpList_ins_s (by rfl) (.tmp 72) _ _ 52 3 rfl Tryz.underlying9 Tryz.underlying52 rfl hm8 (by omega) [115, 105, 122, 101] (by simp) rfl (.int .i64 (1)) rfl ?_; intro m9 hm9 hn9; have hy9 := hy8.grown hn9 (by have := hmb; omega))
      | (refine wpList_ins_s (by rfl) (.tmp 72) _ _ 52 3 rfl Tryz.underlying9 Tryz.underlying52 rfl hm9 (by omega) [116, 105, 110, 116] (by simp) rfl (.int .i64 (3)) rfl ?_; intro m10 hm10 hn10; have hy10 := hy9.grown hn10 (by have := hmb; omega))
      | (refine wpList_ins_s (by rfl) (.tmp 72) _ _ 52 3 rfl Tryz.underlying9 Tryz.underlying52 rfl hm10 (by omega) [112, 108, 97, 105, 110] (by simp) rfl (.int .i64 (3)) rfl ?_; intro m11 hm11 hn11; have hy11 := hy10.grown hn11 (by have := hmb; omega))
      | (refine wpList_ins_s (by rfl) (.tmp 72) _ _ 52 3 rfl Tryz.underlying9 Tryz.underlying52 rfl hm11 (by omega) [98, 101, 115, 116] (by simp) rfl (.int .i64 (max 1 (j : Int))) rfl ?_; intro m12 hm12 hn12; have hy12 := hy11.grown hn12 (by have := hmb; omega)))
     have hcg := cntG_ (j : Int) x
     obtain ⟨G, hG⟩ : ∃ G, cntG (j : Int) = G := ⟨_, rfl⟩
     have hmG : MapS Tryz.prog 9 m12 mb 12 G := by rw [← hG]; exact hm12
     rw [hG] at hcg
     have hRm := hRr.ext hy12
     have hxm := hx.trans hy12
     cases hkx : kindZ x with
     | none =>
       rw [hkx] at HZ2 hcg
       have HZ : Hid (Z = noZ 4 b q) := hid_ HZ2.out
       have HCG : Hid ((G x).getD (.int .i64 0) = .int .i64 0 ∧ (G x).isSome = false) := hid_ (by rw [hcg]; exact ⟨rfl, rfl⟩)
       clear hcg hkx
       go_wp2_with (first
        | ((with_reducible apply gS 80); refine wl_run rfl (.pointer (some (ad.add (0 * 1)))) (ex_ixSl Tryz.underlying22 sizeStr rfl (i := 0) rfl rfl (by omega)) ?_)
        | ((with_reducible apply gS 81); refine wl_read rfl (.string y) (ex_loadS1 rfl rfl (HCY.out _ hRm.x)) ?_)
        | ((with_reducible apply gS 82); refine wl_read rfl (.tuple #[.int .i64 0, .bool false]) (ex_lookI rfl rfl hmG rfl (by have := HSZ.out y (by simp); omega) (by rw [HYX.out]; exact HCG.out.1) (by rw [HYX.out]; exact HCG.out.2)) ?_)
          | ((with_reducible apply gS 94); refine wl_enter (by rfl) (run_callv (.tmp 93) _ _ rfl rfl goesBad #[.int .i64 4, .pointer (some ⟨g3, 0, none⟩), .pointer (some ⟨g4, 0, none⟩)] (by simp [Act.eval])) ?_; refine (HBAD.out 4 _ hRm).mono ?_; rintro _ wE ⟨rfl, hxE⟩; refine ⟨_, rfl, ?_⟩; have hRE := RD.ext hRm hxE)
          | ((with_reducible apply gT 7 96); refine wStB rfl 30 (.tmp 7) (.tmp 96) rfl g7 cb rfl rfl hRE.b7 64 size48 hsb.out hz.out hob.out ?_; intro wF hb7 hgF; have hRF := hRE.st7 hb7 hgF hor.out)
          | ((with_reducible apply gT 8 97); refine wStB rfl 30 (.tmp 8) (.tmp 97) rfl g8 cq rfl rfl hRF.2.2 64 size48 hsq.out hz.out hoq.out ?_; intro wG hb8 hgG; have hRG := st8 hRF hb8 hgG hor.out))
       exact ret_mix rfl rfl g7 g8 rfl rfl hRG.2.1 hRG.2.2 _ Tryz.underlying30 rfl 64 size48 hsb.out hsq.out (by rw [HZ.out]; exact bad_is (by omega) HCB.out HCQ.out hRG.1)
     | some k =>
       rw [hkx] at HZ2 hcg
       dsimp only at HZ2
       obtain ⟨m, hm, hmk⟩ : ∃ m : Int, m = (if manyZ k < 0 then max 1 (j : Int) else manyZ k) ∧ (decide (m ≠ (j : Int)) = !okM k j) := ⟨_, rfl, by
        unfold okM
        split
        ·rw [Bool.eq_iff_iff]; simp; omega
        ·rw [Bool.eq_iff_iff]; simp; omega⟩
       have HCG : Hid ((G x).getD (.int .i64 0) = .int .i64 m ∧ (G x).isSome = true) := hid_ (by rw [hcg, hm]; exact ⟨rfl, rfl⟩)
       have HMK := hid_ hmk
       clear hcg hm hmk
       cases hok : okM k j with
       | false =>
         rw [hok] at HZ2 HMK
         have HZ : Hid (Z = noZ 4 b q) := hid_ (by rw [HZ2.out]; rfl)
         clear hkx hok
         go_wp2_with (first
          | ((with_reducible apply gS 80); refine wl_run rfl (.pointer (some (ad.add (0 * 1)))) (ex_ixSl Tryz.underlying22 sizeStr rfl (i := 0) rfl rfl (by omega)) ?_)
          | ((with_reducible apply gS 81); refine wl_read rfl (.string y) (ex_loadS1 rfl rfl (HCY.out _ hRm.x)) ?_)
          | ((with_reducible apply gS 82); refine wl_read rfl (.tuple #[.int .i64 m, .bool true]) (ex_lookI rfl rfl hmG rfl (by have := HSZ.out y (by simp); omega) (by rw [HYX.out]; exact HCG.out.1) (by rw [HYX.out]; exact HCG.out.2)) ?_)
          | ((with_reducible apply gS 91); refine wl_run_g (by rfl) (.bool true) (ex_neq (m := m) (n := (j : Int)) rfl rfl rfl HMK.out) ?_)
          | ((with_reducible apply gS 94); refine wl_enter (by rfl) (run_callv (.tmp 93) _ _ rfl rfl goesBad #[.int .i64 4, .pointer (some ⟨g3, 0, none⟩), .pointer (some ⟨g4, 0, none⟩)] (by simp [Act.eval])) ?_; refine (HBAD.out 4 _ hRm).mono ?_; rintro _ wE ⟨rfl, hxE⟩; refine ⟨_, rfl, ?_⟩; have hRE := RD.ext hRm hxE)
          | ((with_reducible apply gT 7 96); refine wStB rfl 30 (.tmp 7) (.tmp 96) rfl g7 cb rfl rfl hRE.b7 64 size48 hsb.out hz.out hob.out ?_; intro wF hb7 hgF; have hRF := hRE.st7 hb7 hgF hor.out)
          | ((with_reducible apply gT 8 97); refine wStB rfl 30 (.tmp 8) (.tmp 97) rfl g8 cq rfl rfl hRF.2.2 64 size48 hsq.out hz.out hoq.out ?_; intro wG hb8 hgG; have hRG := st8 hRF hb8 hgG hor.out))
         exact ret_mix rfl rfl g7 g8 rfl rfl hRG.2.1 hRG.2.2 _ Tryz.underlying30 rfl 64 size48 hsb.out hsq.out (by rw [HZ.out]; exact bad_is (by omega) HCB.out HCQ.out hRG.1)
       | true =>
         rw [hok] at HZ2 HMK
         have HZ : Hid (Z = actZ k b q zs) := hid_ (by rw [HZ2.out]; rfl)
         go_upto_region 18 with (first
          | ((with_reducible apply gS 80); refine wl_run rfl (.pointer (some (ad.add (0 * 1)))) (ex_ixSl Tryz.underlying22 sizeStr rfl (i := 0) rfl rfl (by omega)) ?_)
          | ((with_reducible apply gS 81); refine wl_read rfl (.string y) (ex_loadS1 rfl rfl (HCY.out _ hRm.x)) ?_)
          | ((with_reducible apply gS 82); refine wl_read rfl (.tuple #[.int .i64 m, .bool true]) (ex_lookI rfl rfl hmG rfl (by have := HSZ.out y (by simp); omega) (by rw [HYX.out]; exact HCG.out.1) (by rw [HYX.out]; exact HCG.out.2)) ?_)
          | ((with_reducible apply gS 91); refine wl_run_g (by rfl) (.bool false) (ex_neq (m := m) (n := (j : Int)) rfl rfl rfl HMK.out) ?_)
          | ((with_reducible apply gS 99); refine wLdB rfl 30 (.tmp 3) rfl g3 rfl hRm.b3 _ Tryz.underlying30 rfl 64 size48 hsb.out ?_)
          | ((with_reducible apply gS 19); refine wAlo' rfl (some 19) rfl 30 rfl _ HZB ?_; intro wy g19 hby hxy hgy; have hRy := hRm.ext hxy; have hxmy := hxm.trans hxy)
          | ((with_reducible apply gT 19 99); refine wStB rfl 30 (.tmp 19) (.tmp 99) rfl g19 cb rfl rfl hby 64 size48 hsb.out hz.out hob.out ?_; intro wz hb19 hgz; have hxz := hxy.grown hgz hgy; have hRz := hRm.ext hxz; have hxmz := hxm.trans hxz))
         have hor19 : g8 < g19 := by have := hRm.b8.lt; omega
         have hslz := HSL.out.ext (hy12.trans hxz)
         have HCYz := hid_ (fun W (h : Ext wz W) => HCY.out W (hRz.x.trans h))
         clear hby hRy hRm hxy hxmy hmG hx hxm hRr
         have hk12 := kind_lt hkx
         have hxk := kind_name hkx
         try simp only [Act.put, sA, sB, sC]
         have hkk : k = 0 ∨ k = 1 ∨ k = 2 ∨ k = 3 ∨ k = 4 ∨ k = 5 ∨ k = 6 ∨ k = 7 ∨ k = 8 ∨ k = 9 ∨ k = 10 ∨ k = 11 := by omega
         rcases hkk with rfl | rfl | rfl | rfl | rfl | rfl | rfl | rfl | rfl | rfl | rfl | rfl
         ·have HY2 := hid_ (ba_eq (HYX.out.trans hxk))
          have HCYk : Hid (∀ W, Ext wz W → W.cell? (ad.add (0 * 1)) = some (.string ⟨#[115, 101, 116]⟩)) := hid_ (fun W h => by have e := HCYz.out W h; rw [HY2.out] at e; exact e)
          clear HCYz
          have hl2 : zs.length = 2 := by simp [okM, manyZ] at hok; rw [HZL.out]; omega
          obtain ⟨az, dz, hBz, hd1, hd2, hlz, hz0, hz1⟩ := sl_two hl2 (by rw [HZL.out]; exact hslz)
          injection hBz with e1 e2 e3
          subst e1 e2 e3
          have HZk : Hid (Z = setZ b q zs) := hid_ HZ.out
          clear HZ
          unfold setZ at HZk
          generalize zs.getD 0 0 = X at *
          generalize zs.getD 1 0 = Y at *
          have HO1 := hid_ (fun W => outside_any X 0 63 W)
          have HO2 := hid_ (fun W => outside_any Y (-40000) 40000 W)
          have HZ0' := hid_ hz0
          have HZ1'' := hid_ hz1
          clear hz0 hz1
          cases h1 : inB X 0 63 with
          | false =>
            rw [h1] at HO1 HZk
            simp only [Bool.not_false, Bool.false_eq_true, if_false] at HO1 HZk
            have HZ := HZk
            go_wp2_with (first
             | ((with_reducible apply gS 101); refine wl_run rfl (.pointer (some (ad.add (0 * 1)))) (ex_ixSl Tryz.underlying22 sizeStr rfl (i := 0) rfl rfl (by omega)) ?_)
             | ((with_reducible apply gS 102); refine wl_read rfl (.string ⟨#[115, 101, 116]⟩) (ex_loadS1 rfl rfl (HCYk.out _ (Ext.refl _))) ?_)
             | ((with_reducible apply gS 110); refine wl_run rfl (.bool true) (ex_eqS rfl rfl rfl (by rw [str_eq]; rfl)) ?_)
             | ((with_reducible apply gS 112); refine wl_run rfl (.pointer (some (az.add (0 * 1)))) (ex_ixSl Tryz.underlying47 sizeI rfl (i := 0) rfl rfl (by omega)) ?_)
             | ((with_reducible apply gS 113); refine wl_read rfl (.int .i64 X) (ex_loadI rfl rfl HZ0'.out) ?_)
             | (go_at_call 20; (with_reducible refine (HO1.out _).mono ?_); rintro e w' ⟨rfl, rfl⟩)
             | ((with_reducible apply gS 116); refine wl_enter (by rfl) (run_callv (.tmp 115) _ _ rfl rfl goesBad #[.int .i64 5, .pointer (some ⟨g3, 0, none⟩), .pointer (some ⟨g4, 0, none⟩)] (by simp [Act.eval])) ?_; refine (HBAD.out 5 _ hRz).mono ?_; rintro _ wE ⟨rfl, hxE⟩; refine ⟨_, rfl, ?_⟩; have hRE := RD.ext hRz hxE)
             | ((with_reducible apply gT 7 118); refine wStB rfl 30 (.tmp 7) (.tmp 118) rfl g7 cb rfl rfl hRE.b7 64 size48 hsb.out hz.out hob.out ?_; intro wF hb7 hgF; have hRF := hRE.st7 hb7 hgF hor.out)
             | ((with_reducible apply gT 8 119); refine wStB rfl 30 (.tmp 8) (.tmp 119) rfl g8 cq rfl rfl hRF.2.2 64 size48 hsq.out hz.out hoq.out ?_; intro wG hb8 hgG; have hRG := st8 hRF hb8 hgG hor.out))
            exact ret_mix rfl rfl g7 g8 rfl rfl hRG.2.1 hRG.2.2 _ Tryz.underlying30 rfl 64 size48 hsb.out hsq.out (by rw [HZ.out]; exact bad_is (by omega) HCB.out HCQ.out hRG.1)
          | true =>
            obtain ⟨i, hi0, hi⟩ : ∃ i : Nat, X = (i : Int) ∧ i < 64 := by have := inB_iff.1 h1; exact ⟨X.toNat, by omega, by omega⟩
            rw [h1] at HO1 HZk
            simp only [Bool.not_true, if_true] at HO1 HZk
            cases h2 : inB Y (-40000) 40000 with
            | false =>
              rw [h2] at HO2 HZk
              simp only [Bool.not_false, Bool.false_eq_true, if_false] at HO2 HZk
              have HZ := HZk
              clear hi0
              go_wp2_with (first
               | ((with_reducible apply gS 101); refine wl_run rfl (.pointer (some (ad.add (0 * 1)))) (ex_ixSl Tryz.underlying22 sizeStr rfl (i := 0) rfl rfl (by omega)) ?_)
               | ((with_reducible apply gS 102); refine wl_read rfl (.string ⟨#[115, 101, 116]⟩) (ex_loadS1 rfl rfl (HCYk.out _ (Ext.refl _))) ?_)
               | ((with_reducible apply gS 110); refine wl_run rfl (.bool true) (ex_eqS rfl rfl rfl (by rw [str_eq]; rfl)) ?_)
               | ((with_reducible apply gS 112); refine wl_run rfl (.pointer (some (az.add (0 * 1)))) (ex_ixSl Tryz.underlying47 sizeI rfl (i := 0) rfl rfl (by omega)) ?_)
               | ((with_reducible apply gS 113); refine wl_read rfl (.int .i64 X) (ex_loadI rfl rfl HZ0'.out) ?_)
               | ((with_reducible apply gS 122); refine wl_run rfl (.pointer (some (az.add (1 * 1)))) (ex_ixSl Tryz.underlying47 sizeI rfl (i := 1) rfl rfl (by omega)) ?_)
               | ((with_reducible apply gS 123); refine wl_read rfl (.int .i64 Y) (ex_loadI rfl rfl HZ1''.out) ?_)
               | (go_at_call 20; first | ((with_reducible refine (HO1.out _).mono ?_); rintro e w' ⟨rfl, rfl⟩) | ((with_reducible refine (HO2.out _).mono ?_); rintro e w' ⟨rfl, rfl⟩))
               | ((with_reducible apply gS 126); refine wl_enter (by rfl) (run_callv (.tmp 125) _ _ rfl rfl goesBad #[.int .i64 1, .pointer (some ⟨g3, 0, none⟩), .pointer (some ⟨g4, 0, none⟩)] (by simp [Act.eval])) ?_; refine (HBAD.out 1 _ hRz).mono ?_; rintro _ wE ⟨rfl, hxE⟩; refine ⟨_, rfl, ?_⟩; have hRE := RD.ext hRz hxE)
               | ((with_reducible apply gT 7 128); refine wStB rfl 30 (.tmp 7) (.tmp 128) rfl g7 cb rfl rfl hRE.b7 64 size48 hsb.out hz.out hob.out ?_; intro wF hb7 hgF; have hRF := hRE.st7 hb7 hgF hor.out)
               | ((with_reducible apply gT 8 129); refine wStB rfl 30 (.tmp 8) (.tmp 129) rfl g8 cq rfl rfl hRF.2.2 64 size48 hsq.out hz.out hoq.out ?_; intro wG hb8 hgG; have hRG := st8 hRF hb8 hgG hor.out))
              exact ret_mix rfl rfl g7 g8 rfl rfl hRG.2.1 hRG.2.2 _ Tryz.underlying30 rfl 64 size48 hsb.out hsq.out (by rw [HZ.out]; exact bad_is (by omega) HCB.out HCQ.out hRG.1)
            | true =>
              rw [h2] at HO2 HZk
              simp only [Bool.not_true, if_true] at HO2 HZk
              subst hi0
              rw [Int.toNat_natCast] at HZk
              have HZ := HZk
              go_upto_region 25 with (first
               | ((with_reducible apply gS 101); refine wl_run rfl (.pointer (some (ad.add (0 * 1)))) (ex_ixSl Tryz.underlying22 sizeStr rfl (i := 0) rfl rfl (by omega)) ?_)
               | ((with_reducible apply gS 102); refine wl_read rfl (.string ⟨#[115, 101, 116]⟩) (ex_loadS1 rfl rfl (HCYk.out _ (Ext.refl _))) ?_)
               | ((with_reducible apply gS 110); refine wl_run rfl (.bool true) (ex_eqS rfl rfl rfl (by rw [str_eq]; rfl)) ?_)
               | ((with_reducible apply gS 112); refine wl_run rfl (.pointer (some (az.add (0 * 1)))) (ex_ixSl Tryz.underlying47 sizeI rfl (i := 0) rfl rfl (by omega)) ?_)
               | ((with_reducible apply gS 113); refine wl_read rfl (.int .i64 (i : Int)) (ex_loadI rfl rfl HZ0'.out) ?_)
               | ((with_reducible apply gS 122); refine wl_run rfl (.pointer (some (az.add (1 * 1)))) (ex_ixSl Tryz.underlying47 sizeI rfl (i := 1) rfl rfl (by omega)) ?_)
               | ((with_reducible apply gS 123); refine wl_read rfl (.int .i64 Y) (ex_loadI rfl rfl HZ1''.out) ?_)
               | (go_at_call 20; first | ((with_reducible refine (HO1.out _).mono ?_); rintro e w' ⟨rfl, rfl⟩) | ((with_reducible refine (HO2.out _).mono ?_); rintro e w' ⟨rfl, rfl⟩)))
              have hxq7 := (Ext.refl wz).drew
              have HC0 := hid_ (fun W (h : Ext wz W) => (h.cell (p := az.add (0 * 1)) (by rw [block_of_add]; exact hlz)).trans HZ0'.out)
              have HC1 := hid_ (fun W (h : Ext wz W) => (h.cell (p := az.add (1 * 1)) (by rw [block_of_add]; exact hlz)).trans HZ1''.out)
              try simp only [Act.put, sA, sB, sC]
              refine wp_region_lxt later_ext 7 (by kernel_rfl) (by kernel_rfl) ?_
              simp only [List.take, List.drop]
              refine lx_run (by rfl) (.slice (some az) 2 d) (ex_move rfl rfl) ?_
              simp only [Act.put, sA, sB, sC]
              refine lx_run (by rfl) (.pointer (some (az.add (0 * 1)))) (ex_ixSl Tryz.underlying47 sizeI rfl (i := 0) rfl rfl (by omega)) ?_
              simp only [Act.put, sA, sB, sC]
              refine lx_read (by rfl) (.int .i64 (i : Int)) (fun W hW => ex_loadI rfl rfl (HC0.out W (hxq7.trans hW))) ?_
              simp only [Act.put, sA, sB, sC]
              refine lx_run (by rfl) (.slice (some az) 2 d) (ex_move rfl rfl) ?_
              simp only [Act.put, sA, sB, sC]
              refine lx_run (by rfl) (.pointer (some (az.add (1 * 1)))) (ex_ixSl Tryz.underlying47 sizeI rfl (i := 1) rfl rfl (by omega)) ?_
              simp only [Act.put, sA, sB, sC]
              refine lx_read (by rfl) (.int .i64 Y) (fun W hW => ex_loadI rfl rfl (HC1.out W (hxq7.trans hW))) ?_
              simp only [Act.put, sA, sB, sC]
              refine lx_run (by rfl) (.pointer (some ⟨g19, i, none⟩)) (ex_ixArr0 Tryz.underlying30 sizeI rfl (i := i) rfl rfl hi) ?_
              simp only [Act.put, sA, sB, sC]
              refine lx_nil ?_
              intro W hW
              have hR8 := hRz.ext (hxq7.trans hW)
              have h198 := hb19.ext (hxq7.trans hW)
              refine wl_storeI rfl (.tmp 137) (.tmp 136) rfl g19 i Y rfl rfl h198 (by rw [hsb.out]; exact hi) ?_
              simp only [Act.put, sA, sB, sC]
              have h199 := h198.set_ i (.int .i64 Y)
              have hu9 : Upd (fun x => x = g19) W (W.setCell ⟨g19, i, none⟩ (.int .i64 Y)) := Upd.setCell (S := fun x => x = g19) (Upd.refl (fun x => x = g19) W) (p := ⟨g19, i, none⟩) rfl (.int .i64 Y)
              have hR9 := hR8.upd hu9 hor.out hor19
              generalize W.setCell ⟨g19, i, none⟩ (.int .i64 Y) = W9 at *
              have HS9' : Hid (cb.setIfInBounds i (.int .i64 Y) = bv (b.set i Y)) := hid_ (by rw [← HCB.out, bv_set])
              rw [HS9'.out] at h199
              have HL9 : Hid ((bv (b.set i Y)).size = 64) := hid_ (by rw [bv_size, List.length_set]; exact HS.out.1)
              have HO9 := hid_ (bv_one (b.set i Y))
              go_upto_region 26 with fail
              try simp only [Act.put, sA, sB, sC]
              have ho := hor.out
              have hRq := RD.ext hR9 ((Ext.refl W9).drew)
              have h19q : Blk W9.drew g19 30 (bv (b.set i Y)) := h199
              have hI0 : Blk W9.drew g3 30 cb ∧ Blk W9.drew g4 30 cq ∧ Blk W9.drew g19 30 (bv (b.set i Y)) := ⟨hRq.b3, hRq.b4, h19q⟩
              refine wp_region_oi (fun V => Blk V g3 30 cb ∧ Blk V g4 30 cq ∧ Blk V g19 30 (bv (b.set i Y))) (by kernel_rfl) ?_
              refine oi_fix (k := 0) (by kernel_rfl) rfl (by rfl) (.agg (bv (b.set i Y))) (fun V hV => ex_loadBk rfl rfl hV.2.2 _ Tryz.underlying30 rfl 64 size48 HL9.out) hI0 ?_
              simp only [Act.put, sA, sB, sC]
              refine oi_fix (k := 1) (by kernel_rfl) rfl (by rfl) (.agg cq) (fun V hV => ex_loadBk rfl rfl hV.2.1 _ Tryz.underlying30 rfl 64 size48 hsq.out) hI0 ?_
              simp only [Act.put, sA, sB, sC]
              refine oi_run (k := 2) (by kernel_rfl) rfl (by rfl) (.int .i64 0) (ex_move rfl rfl) hI0 ?_
              simp only [Act.put, sA, sB, sC]
              refine oi_run (k := 3) (by kernel_rfl) rfl (by rfl) (.string ⟨#[111, 107]⟩) (ex_assign rfl rfl) hI0 ?_
              simp only [Act.put, sA, sB, sC]
              refine oi_loud (k := 4) (by kernel_rfl) rfl ?_
              refine wStB rfl 30 (.tmp 7) (.tmp 138) rfl g7 (bv (b.set i Y)) rfl rfl hRq.b7 64 size48 HL9.out hz.out HO9.out ?_
              intro wF hb7 hgF
              have huF := upd_of_grown hgF
              have hRF := hRq.st7 hb7 hgF hor.out
              have hIF := And.intro (huF.blk hI0.1 (by omega)) (And.intro (huF.blk hI0.2.1 (by omega)) (huF.blk hI0.2.2 (by omega)))
              refine oi_end ⟨hIF, ?_⟩
              simp only [Act.put, sA, sB, sC]
              refine oi_loud (k := 5) (by kernel_rfl) rfl ?_
              refine wStB rfl 30 (.tmp 8) (.tmp 139) rfl g8 cq rfl rfl hRF.2.2 64 size48 hsq.out hz.out hoq.out ?_
              intro wG hb8 hgG
              have huG := upd_of_grown hgG
              have hRG := st8 hRF hb8 hgG hor.out
              have hIG := And.intro (huG.blk hIF.1 (by omega)) (And.intro (huG.blk hIF.2.1 (by omega)) (huG.blk hIF.2.2 (by omega)))
              refine oi_end ⟨hIG, ?_⟩
              simp only [Act.put, sA, sB, sC]
              refine oi_run (k := 6) (by kernel_rfl) rfl (by rfl) (.int .i64 0) (ex_assign rfl rfl) hIG ?_
              simp only [Act.put, sA, sB, sC]
              refine oi_done (by kernel_rfl) ?_
              go_wp2_with fail
              exact ret_mix rfl rfl g7 g8 rfl rfl hRG.2.1 hRG.2.2 _ Tryz.underlying30 rfl 64 size48 HL9.out hsq.out (by rw [HZ.out]; exact ok_is rfl HCQ.out hRG.1)
         ·have HY2 := hid_ (ba_eq (HYX.out.trans hxk))
          have HCYk : Hid (∀ W, Ext wz W → W.cell? (ad.add (0 * 1)) = some (.string ⟨#[99, 111, 97, 114, 115, 101]⟩)) := hid_ (fun W h => by have e := HCYz.out W h; rw [HY2.out] at e; exact e)
          clear HCYz
          have hl1 : zs.length = 1 := by simp [okM, manyZ] at hok; rw [HZL.out]; omega
          obtain ⟨az, dz, hBz, hd1, hd2, hlz, hz0⟩ := sl_one hl1 (by rw [HZL.out]; exact hslz)
          injection hBz with e1 e2 e3
          subst e1 e2 e3
          have HZk : Hid (Z = coarseZ b q zs) := hid_ HZ.out
          clear HZ
          unfold coarseZ at HZk
          generalize zs.getD 0 0 = X at *
          have HO1 := hid_ (fun W => outside_any X 1 255 W)
          have HZ0' := hid_ hz0
          have hbaz : g4 < az.block := by have := (own_out hown).2 az rfl; have := hRD.b4.lt; omega
          clear hz0
          cases h1 : inB X 1 255 with
          | false =>
            rw [h1] at HO1 HZk
            simp only [Bool.not_false, Bool.false_eq_true, if_false] at HO1 HZk
            have HZ := HZk
            go_wp2_with (first
             | ((with_reducible apply gS 101); refine wl_run rfl (.pointer (some (ad.add (0 * 1)))) (ex_ixSl Tryz.underlying22 sizeStr rfl (i := 0) rfl rfl (by omega)) ?_)
             | ((with_reducible apply gS 102); refine wl_read rfl (.string ⟨#[99, 111, 97, 114, 115, 101]⟩) (ex_loadS1 rfl rfl (HCYk.out _ (Ext.refl _))) ?_)
             | ((with_reducible apply gS 110); refine wl_run rfl (.bool false) (ex_eqS rfl rfl rfl (by rw [str_eq]; rfl)) ?_)
             | ((with_reducible apply gS 142); refine wl_run rfl (.bool true) (ex_eqS rfl rfl rfl (by rw [str_eq]; rfl)) ?_)
             | ((with_reducible apply gS 144); refine wl_run rfl (.pointer (some (az.add (0 * 1)))) (ex_ixSl Tryz.underlying47 sizeI rfl (i := 0) rfl rfl (by omega)) ?_)
             | ((with_reducible apply gS 145); refine wl_read rfl (.int .i64 X) (ex_loadI rfl rfl HZ0'.out) ?_)
             | (go_at_call 20; (with_reducible refine (HO1.out _).mono ?_); rintro e w' ⟨rfl, rfl⟩)
             | ((with_reducible apply gS 148); refine wl_enter (by rfl) (run_callv (.tmp 147) _ _ rfl rfl goesBad #[.int .i64 1, .pointer (some ⟨g3, 0, none⟩), .pointer (some ⟨g4, 0, none⟩)] (by simp [Act.eval])) ?_; refine (HBAD.out 1 _ hRz).mono ?_; rintro _ wE ⟨rfl, hxE⟩; refine ⟨_, rfl, ?_⟩; have hRE := RD.ext hRz hxE)
             | ((with_reducible apply gT 7 150); refine wStB rfl 30 (.tmp 7) (.tmp 150) rfl g7 cb rfl rfl hRE.b7 64 size48 hsb.out hz.out hob.out ?_; intro wF hb7 hgF; have hRF := hRE.st7 hb7 hgF hor.out)
             | ((with_reducible apply gT 8 151); refine wStB rfl 30 (.tmp 8) (.tmp 151) rfl g8 cq rfl rfl hRF.2.2 64 size48 hsq.out hz.out hoq.out ?_; intro wG hb8 hgG; have hRG := st8 hRF hb8 hgG hor.out))
            exact ret_mix rfl rfl g7 g8 rfl rfl hRG.2.1 hRG.2.2 _ Tryz.underlying30 rfl 64 size48 hsb.out hsq.out (by rw [HZ.out]; exact bad_is (by omega) HCB.out HCQ.out hRG.1)
          | true =>
            rw [h1] at HO1 HZk
            simp only [Bool.not_true, if_true] at HO1 HZk
            have HZ := HZk
            obtain ⟨F, hF⟩ : ∃ F, List.replicate 64 X = F := ⟨_, rfl⟩
            rw [hF] at HZ
            have hFl : F.length = 64 := by rw [← hF]; simp
            have HFL := hid_ hFl
            have HFX : Hid (∀ i (h : i < F.length), F[i] = X) := hid_ (fun i h => List.eq_of_mem_replicate (n := 64) (by rw [hF]; exact List.getElem_mem h))
            have HQL := hid_ HS.out.2.1
            have HSQ : Hid (∀ i, i ≤ 64 → (bv (F.take i ++ q.drop i)).size = 64) := hid_ (fun i hi => by rw [bv_size]; simp [HFL.out, HQL.out]; omega)
            have HF9 := hid_ ((bv_size F).trans hFl)
            have HFO := hid_ (bv_one F)
            clear hF hFl HZk
            go_wp2_with (first
             | ((with_reducible apply gS 101); refine wl_run rfl (.pointer (some (ad.add (0 * 1)))) (ex_ixSl Tryz.underlying22 sizeStr rfl (i := 0) rfl rfl (by omega)) ?_)
             | ((with_reducible apply gS 102); refine wl_read rfl (.string ⟨#[99, 111, 97, 114, 115, 101]⟩) (ex_loadS1 rfl rfl (HCYk.out _ (Ext.refl _))) ?_)
             | ((with_reducible apply gS 110); refine wl_run rfl (.bool false) (ex_eqS rfl rfl rfl (by rw [str_eq]; rfl)) ?_)
             | ((with_reducible apply gS 142); refine wl_run rfl (.bool true) (ex_eqS rfl rfl rfl (by rw [str_eq]; rfl)) ?_)
             | ((with_reducible apply gS 144); refine wl_run rfl (.pointer (some (az.add (0 * 1)))) (ex_ixSl Tryz.underlying47 sizeI rfl (i := 0) rfl rfl (by omega)) ?_)
             | ((with_reducible apply gS 145); refine wl_read rfl (.int .i64 X) (ex_loadI rfl rfl HZ0'.out) ?_)
             | (go_at_call 20; (with_reducible refine (HO1.out _).mono ?_); rintro e w' ⟨rfl, rfl⟩))
            go_loopw [153] (fun iv wr => ∃ i : Nat, i ≤ 64 ∧ iv = .int .i64 (i : Int) ∧ RD w g3 g4 g7 g8 cb (bv (F.take i ++ q.drop i)) cz wr ∧ Blk wr g19 30 cb ∧ wr.cell? (az.add (0 * 1)) = some (.int .i64 X)) (fun iv _ => 64 - (intOf iv).toNat)
            case atStart => exact ⟨0, by omega, rfl, by simpa [HCQ.out] using hRz, hb19, HZ0'.out⟩
            case round =>
             obtain ⟨i, hi, rfl, hR, h19, hcx⟩ := hrel
             by_cases hlt : i < 64
             ·have hiF : i < F.length := by rw [HFL.out]; exact hlt
              have hiq : i < q.length := by rw [HQL.out]; exact hlt
              have hms := mix_set F q i hiF hiq
              rw [HFX.out i hiF] at hms
              have HMS := hid_ hms
              clear hms
              go_wp2_with (first
               | ((with_reducible apply gS 158); refine wl_run rfl (.pointer (some (az.add (0 * 1)))) (ex_ixSl Tryz.underlying47 sizeI rfl (i := 0) rfl rfl (by omega)) ?_)
               | ((with_reducible apply gS 159); refine wl_read rfl (.int .i64 X) (ex_loadI rfl rfl hcx) ?_)
               | ((with_reducible apply gT 160 159); refine wl_storeI rfl (.tmp 160) (.tmp 159) rfl g4 i X rfl rfl hR.b4 (by rw [HSQ.out i hi]; exact hlt) ?_))
              have hR9 := hR.st4 i (.int .i64 X) hor.out
              rw [bv_set, HMS.out] at hR9
              have ho := hor.out
              have h199 := h19.far (p := ⟨g4, i, none⟩) (by show g19 ≠ g4; omega) (.int .i64 X)
              have hcx9 : (wr.setCell ⟨g4, i, none⟩ (.int .i64 X)).cell? (az.add (0 * 1)) = some (.int .i64 X) := by
               rw [← hcx]
               unfold World.cell?
               rw [Below.heap_setCell wr ⟨g4, i, none⟩ (.int .i64 X) (az.add (0 * 1)).block (by rw [block_of_add]; show az.block ≠ g4; omega)]
              generalize wr.setCell ⟨g4, i, none⟩ (.int .i64 X) = W9 at *
              go_wp2_with fail
              go_roundw
              case rel => exact ⟨i + 1, by omega, by go_num, hR9, h199, hcx9⟩
              case measure => simp [intOf]; omega
             ·obtain rfl : i = 64 := by omega
              have e9 : F.take 64 ++ q.drop 64 = F := by
               rw [List.take_of_length_le (by rw [HFL.out]; omega), List.drop_eq_nil_of_le (by rw [HQL.out]; omega), List.append_nil]
              rw [e9] at hR
              go_upto_region 35 with fail
              try simp only [Act.put, sA, sB, sC]
              have ho := hor.out
              have hRq := RD.ext hR ((Ext.refl wr).drew)
              have h19q : Blk wr.drew g19 30 cb := h19
              have hI0 : Blk wr.drew g3 30 cb ∧ Blk wr.drew g4 30 (bv F) ∧ Blk wr.drew g19 30 cb := ⟨hRq.b3, hRq.b4, h19q⟩
              refine wp_region_oi (fun V => Blk V g3 30 cb ∧ Blk V g4 30 (bv F) ∧ Blk V g19 30 cb) (by kernel_rfl) ?_
              refine oi_fix (k := 0) (by kernel_rfl) rfl (by rfl) (.agg cb) (fun V hV => ex_loadBk rfl rfl hV.1 _ Tryz.underlying30 rfl 64 size48 hsb.out) hI0 ?_
              simp only [Act.put, sA, sB, sC]
              refine oi_fix (k := 1) (by kernel_rfl) rfl (by rfl) (.agg (bv F)) (fun V hV => ex_loadBk rfl rfl hV.2.1 _ Tryz.underlying30 rfl 64 size48 HF9.out) hI0 ?_
              simp only [Act.put, sA, sB, sC]
              refine oi_run (k := 2) (by kernel_rfl) rfl (by rfl) (.int .i64 0) (ex_move rfl rfl) hI0 ?_
              simp only [Act.put, sA, sB, sC]
              refine oi_run (k := 3) (by kernel_rfl) rfl (by rfl) (.string ⟨#[111, 107]⟩) (ex_assign rfl rfl) hI0 ?_
              simp only [Act.put, sA, sB, sC]
              refine oi_loud (k := 4) (by kernel_rfl) rfl ?_
              refine wStB rfl 30 (.tmp 7) (.tmp 162) rfl g7 cb rfl rfl hRq.b7 64 size48 hsb.out hz.out hob.out ?_
              intro wF hb7 hgF
              have huF := upd_of_grown hgF
              have hRF := hRq.st7 hb7 hgF hor.out
              have hIF := And.intro (huF.blk hI0.1 (by omega)) (And.intro (huF.blk hI0.2.1 (by omega)) (huF.blk hI0.2.2 (by omega)))
              refine oi_end ⟨hIF, ?_⟩
              simp only [Act.put, sA, sB, sC]
              refine oi_loud (k := 5) (by kernel_rfl) rfl ?_
              refine wStB rfl 30 (.tmp 8) (.tmp 163) rfl g8 (bv F) rfl rfl hRF.2.2 64 size48 HF9.out hz.out HFO.out ?_
              intro wG hb8 hgG
              have huG := upd_of_grown hgG
              have hRG := st8 hRF hb8 hgG hor.out
              have hIG := And.intro (huG.blk hIF.1 (by omega)) (And.intro (huG.blk hIF.2.1 (by omega)) (huG.blk hIF.2.2 (by omega)))
              refine oi_end ⟨hIG, ?_⟩
              simp only [Act.put, sA, sB, sC]
              refine oi_run (k := 6) (by kernel_rfl) rfl (by rfl) (.int .i64 0) (ex_assign rfl rfl) hIG ?_
              simp only [Act.put, sA, sB, sC]
              refine oi_done (by kernel_rfl) ?_
              go_wp2_with fail
              exact ret_mix rfl rfl g7 g8 rfl rfl hRG.2.1 hRG.2.2 _ Tryz.underlying30 rfl 64 size48 hsb.out HF9.out (by rw [HZ.out]; exact ok_is HCB.out rfl hRG.1)
         ·have HY2 := hid_ (ba_eq (HYX.out.trans hxk))
          have HCYk : Hid (∀ W, Ext wz W → W.cell? (ad.add (0 * 1)) = some (.string ⟨#[115, 104, 111, 119]⟩)) := hid_ (fun W h => by have e := HCYz.out W h; rw [HY2.out] at e; exact e)
          clear HCYz
          have HZk : Hid (Z = showZ b q) := hid_ HZ.out
          clear HZ
          have HZ := HZk
          unfold showZ at HZ
          have h8l : (b.take 8).length = 8 := by rw [List.length_take, HS.out.1]; rfl
          have HNUM := num_lit (b.take 8) (by omega) (fun z hz => by have := HS.out.2.2 z (List.mem_of_mem_take hz); omega)
          have HS8 := hid_ (fun W (h : Blk W g3 30 cb) => sl8 (by rw [← HCB.out] at h; exact h) HS.out.1)
          have H8L := hid_ h8l
          generalize toldZ (b.take 8) = T at *
          clear h8l HZk
          go_upto_region 37 with (first
           | ((with_reducible apply gS 101); refine wl_run rfl (.pointer (some (ad.add (0 * 1)))) (ex_ixSl Tryz.underlying22 sizeStr rfl (i := 0) rfl rfl (by omega)) ?_)
           | ((with_reducible apply gS 102); refine wl_read rfl (.string ⟨#[115, 104, 111, 119]⟩) (ex_loadS1 rfl rfl (HCYk.out _ (Ext.refl _))) ?_)
           | ((with_reducible apply gS 110); refine wl_run rfl (.bool false) (ex_eqS rfl rfl rfl (by rw [str_eq]; rfl)) ?_)
           | ((with_reducible apply gS 142); refine wl_run rfl (.bool false) (ex_eqS rfl rfl rfl (by rw [str_eq]; rfl)) ?_)
           | ((with_reducible apply gS 166); refine wl_run rfl (.bool true) (ex_eqS rfl rfl rfl (by rw [str_eq]; rfl)) ?_))
          try simp only [Act.put, sA, sB, sC]
          have ho := hor.out
          have hRq := RD.ext hRz ((Ext.refl wz).drew)
          have h19q : Blk wz.drew g19 30 cb := hb19
          have hI0 : Blk wz.drew g3 30 cb ∧ Blk wz.drew g4 30 cq ∧ Blk wz.drew g19 30 cb := ⟨hRq.b3, hRq.b4, h19q⟩
          refine wp_region_oi (fun V => Blk V g3 30 cb ∧ Blk V g4 30 cq ∧ Blk V g19 30 cb) (by kernel_rfl) ?_
          refine oi_run (k := 0) (by kernel_rfl) rfl (by rfl) (.slice (some ⟨g3, 0, none⟩) 8 64) (fun W => by go_simp) hI0 ?_
          simp only [Act.put, sA, sB, sC]
          refine oi_fix (k := 2) (by kernel_rfl) rfl (by rfl) (.agg cb) (fun V hV => ex_loadBk rfl rfl hV.1 _ Tryz.underlying30 rfl 64 size48 hsb.out) hI0 ?_
          simp only [Act.put, sA, sB, sC]
          refine oi_fix (k := 3) (by kernel_rfl) rfl (by rfl) (.agg cq) (fun V hV => ex_loadBk rfl rfl hV.2.1 _ Tryz.underlying30 rfl 64 size48 hsq.out) hI0 ?_
          simp only [Act.put, sA, sB, sC]
          refine oi_run (k := 4) (by kernel_rfl) rfl (by rfl) (.int .i64 0) (ex_move rfl rfl) hI0 ?_
          simp only [Act.put, sA, sB, sC]
          refine oi_loud (k := 1) (by kernel_rfl) rfl ?_
          refine wl_enter (by rfl) (run_callv _ _ _ rfl rfl goesNumbers #[.slice (some ⟨g3, 0, none⟩) 8 64] (by simp [Act.eval])) ?_
          refine (HNUM.out _ 8 _ H8L.out (HS8.out _ hRq.b3)).mono ?_
          rintro _ wva ⟨rfl, hxva⟩
          have hIa := And.intro (hI0.1.ext hxva) (And.intro (hI0.2.1.ext hxva) (hI0.2.2.ext hxva))
          have hRa := hRq.ext hxva
          refine ⟨_, rfl, oi_end ⟨hIa, ?_⟩⟩
          simp only [Act.put, sA, sB, sC]
          refine oi_run (k := 5) (by kernel_rfl) rfl (by rfl) (.string ⟨T.toArray⟩) (ex_assign rfl rfl) hIa ?_
          simp only [Act.put, sA, sB, sC]
          refine oi_loud (k := 6) (by kernel_rfl) rfl ?_
          refine wStB rfl 30 (.tmp 7) (.tmp 169) rfl g7 cb rfl rfl hRa.b7 64 size48 hsb.out hz.out hob.out ?_
          intro wF hb7 hgF
          have huF := upd_of_grown hgF
          have hRF := hRa.st7 hb7 hgF hor.out
          have hIF := And.intro (huF.blk hIa.1 (by omega)) (And.intro (huF.blk hIa.2.1 (by omega)) (huF.blk hIa.2.2 (by omega)))
          refine oi_end ⟨hIF, ?_⟩
          simp only [Act.put, sA, sB, sC]
          refine oi_loud (k := 7) (by kernel_rfl) rfl ?_
          refine wStB rfl 30 (.tmp 8) (.tmp 170) rfl g8 cq rfl rfl hRF.2.2 64 size48 hsq.out hz.out hoq.out ?_
          intro wG hb8 hgG
          have huG := upd_of_grown hgG
          have hRG := st8 hRF hb8 hgG hor.out
          have hIG := And.intro (huG.blk hIF.1 (by omega)) (And.intro (huG.blk hIF.2.1 (by omega)) (huG.blk hIF.2.2 (by omega)))
          refine oi_end ⟨hIG, ?_⟩
          simp only [Act.put, sA, sB, sC]
          refine oi_run (k := 8) (by kernel_rfl) rfl (by rfl) (.int .i64 0) (ex_assign rfl rfl) hIG ?_
          simp only [Act.put, sA, sB, sC]
          refine oi_done (by kernel_rfl) ?_
          go_wp2_with fail
          exact ret_mix rfl rfl g7 g8 rfl rfl hRG.2.1 hRG.2.2 _ Tryz.underlying30 rfl 64 size48 hsb.out hsq.out (by rw [HZ.out]; exact ok_is HCB.out HCQ.out hRG.1)
         ·have HY2 := hid_ (ba_eq (HYX.out.trans hxk))
          have HCYk : Hid (∀ W, Ext wz W → W.cell? (ad.add (0 * 1)) = some (.string ⟨#[116, 111, 107, 101, 110, 115]⟩)) := hid_ (fun W h => by have e := HCYz.out W h; rw [HY2.out] at e; exact e)
          clear HCYz
          have HZk : Hid (Z = syZ b q) := hid_ HZ.out
          clear HZ
          unfold syZ at HZk
          cases hal : allIn b (-2047) 2047 with
          | false =>
            rw [hal] at HZk
            simp only [Bool.false_eq_true, if_false] at HZk
            have HZ := HZk
            have HT := hid_ (fun W => rtokens_out 0 b W HS.out.1 (.inr ⟨by decide, hal⟩))
            rw [HCB.out] at HT
            have HNUM := num_lit [] (by simp) (by simp)
            rw [told_nil] at HNUM
            clear HZk hal
            go_wp2_with (first
             | ((with_reducible apply gS 101); refine wl_run rfl (.pointer (some (ad.add (0 * 1)))) (ex_ixSl Tryz.underlying22 sizeStr rfl (i := 0) rfl rfl (by omega)) ?_)
             | ((with_reducible apply gS 102); refine wl_read rfl (.string ⟨#[116, 111, 107, 101, 110, 115]⟩) (ex_loadS1 rfl rfl (HCYk.out _ (Ext.refl _))) ?_)
             | ((with_reducible apply gS 110); refine wl_run rfl (.bool false) (ex_eqS rfl rfl rfl (by rw [str_eq]; rfl)) ?_)
             | ((with_reducible apply gS 142); refine wl_run rfl (.bool false) (ex_eqS rfl rfl rfl (by rw [str_eq]; rfl)) ?_)
             | ((with_reducible apply gS 166); refine wl_run rfl (.bool false) (ex_eqS rfl rfl rfl (by rw [str_eq]; rfl)) ?_)
             | ((with_reducible apply gS 173); refine wl_run rfl (.bool true) (ex_eqS rfl rfl rfl (by rw [str_eq]; rfl)) ?_)
             | ((with_reducible apply gS 175); refine wLdB rfl 30 (.tmp 3) rfl g3 rfl hRz.b3 _ Tryz.underlying30 rfl 64 size48 hsb.out ?_)
             | (go_at_call 22; (with_reducible refine (HT.out _).mono ?_); rintro e wt ⟨rfl, hxt⟩; have hRt := hRz.ext hxt; have h19t := hb19.ext hxt))
            go_loopw [24, 181] (fun sv iv wr => sv = .slice none 0 0 ∧ iv = .int .i64 0 ∧ wr = wt) (fun _ _ _ => 0)
            case atStart => exact ⟨rfl, rfl, rfl⟩
            case round =>
             obtain ⟨rfl, rfl, rfl⟩ := hrel
             go_upto_region 46 with fail
             try simp only [Act.put, sA, sB, sC]
             have ho := hor.out
             have hRq := RD.ext hRt ((Ext.refl wr).drew)
             have h19q : Blk wr.drew g19 30 cb := h19t
             have hI0 : Blk wr.drew g3 30 cb ∧ Blk wr.drew g4 30 cq ∧ Blk wr.drew g19 30 cb := ⟨hRq.b3, hRq.b4, h19q⟩
             refine wp_region_oi (fun V => Blk V g3 30 cb ∧ Blk V g4 30 cq ∧ Blk V g19 30 cb) (by kernel_rfl) ?_
             refine oi_run (k := 0) (by kernel_rfl) rfl (by rfl) (.slice none 0 0) (ex_move rfl rfl) hI0 ?_
             simp only [Act.put, sA, sB, sC]
             refine oi_fix (k := 2) (by kernel_rfl) rfl (by rfl) (.agg cb) (fun V hV => ex_loadBk rfl rfl hV.1 _ Tryz.underlying30 rfl 64 size48 hsb.out) hI0 ?_
             simp only [Act.put, sA, sB, sC]
             refine oi_fix (k := 3) (by kernel_rfl) rfl (by rfl) (.agg cq) (fun V hV => ex_loadBk rfl rfl hV.2.1 _ Tryz.underlying30 rfl 64 size48 hsq.out) hI0 ?_
             simp only [Act.put, sA, sB, sC]
             refine oi_run (k := 4) (by kernel_rfl) rfl (by rfl) (.int .i64 1) (ex_move rfl rfl) hI0 ?_
             simp only [Act.put, sA, sB, sC]
             refine oi_loud (k := 1) (by kernel_rfl) rfl ?_
             refine wl_enter (by rfl) (run_callv _ _ _ rfl rfl goesNumbers #[.slice none 0 0] (by simp [Act.eval])) ?_
             refine (HNUM.out _ 0 _ rfl (SL.nil _ _)).mono ?_
             rintro _ wva ⟨rfl, hxva⟩
             have hIa := And.intro (hI0.1.ext hxva) (And.intro (hI0.2.1.ext hxva) (hI0.2.2.ext hxva))
             have hRa := hRq.ext hxva
             refine ⟨_, rfl, oi_end ⟨hIa, ?_⟩⟩
             simp only [Act.put, sA, sB, sC]
             refine oi_run (k := 5) (by kernel_rfl) rfl (by rfl) (.string ⟨#[]⟩) (ex_assign rfl rfl) hIa ?_
             simp only [Act.put, sA, sB, sC]
             refine oi_loud (k := 6) (by kernel_rfl) rfl ?_
             refine wStB rfl 30 (.tmp 7) (.tmp 193) rfl g7 cb rfl rfl hRa.b7 64 size48 hsb.out hz.out hob.out ?_
             intro wF hb7 hgF
             have huF := upd_of_grown hgF
             have hRF := hRa.st7 hb7 hgF hor.out
             have hIF := And.intro (huF.blk hIa.1 (by omega)) (And.intro (huF.blk hIa.2.1 (by omega)) (huF.blk hIa.2.2 (by omega)))
             refine oi_end ⟨hIF, ?_⟩
             simp only [Act.put, sA, sB, sC]
             refine oi_loud (k := 7) (by kernel_rfl) rfl ?_
             refine wStB rfl 30 (.tmp 8) (.tmp 194) rfl g8 cq rfl rfl hRF.2.2 64 size48 hsq.out hz.out hoq.out ?_
             intro wG hb8 hgG
             have huG := upd_of_grown hgG
             have hRG := st8 hRF hb8 hgG hor.out
             have hIG := And.intro (huG.blk hIF.1 (by omega)) (And.intro (huG.blk hIF.2.1 (by omega)) (huG.blk hIF.2.2 (by omega)))
             refine oi_end ⟨hIG, ?_⟩
             simp only [Act.put, sA, sB, sC]
             refine oi_run (k := 8) (by kernel_rfl) rfl (by rfl) (.int .i64 1) (ex_assign rfl rfl) hIG ?_
             simp only [Act.put, sA, sB, sC]
             refine oi_done (by kernel_rfl) ?_
             go_wp2_with fail
             exact ret_mix rfl rfl g7 g8 rfl rfl hRG.2.1 hRG.2.2 _ Tryz.underlying30 rfl 64 size48 hsb.out hsq.out (by rw [HZ.out]; exact bad_is (by omega) HCB.out HCQ.out hRG.1)
          | true =>
            rw [hal] at HZk
            simp only [if_true] at HZk
            have HZ := HZk
            obtain ⟨h01, h02⟩ := tok_head HS.out.1 hal
            have HT := hid_ (fun W => rtokens_in 0 b W HS.out.1 (by omega) (by omega) hal h01 h02)
            rw [HCB.out] at HT
            obtain ⟨q1, q2, q3⟩ := syms_good b HS.out.1
            have HNUM := num_lit (symsZ b) q1 q3
            generalize toldZ (symsZ b) = TT at *
            unfold symsZ at HNUM q1
            generalize tokensZ 0 (zto b) = T at *
            obtain ⟨M, hM⟩ : ∃ M, T.length = M := ⟨_, rfl⟩
            have HM := hid_ hM
            have hMb : M ≤ 1000 := by rw [List.length_map] at q1; omega
            rw [hM] at HT
            clear HZk hal q1 q2 q3 h01 h02 hM
            go_wp2_with (first
             | ((with_reducible apply gS 101); refine wl_run rfl (.pointer (some (ad.add (0 * 1)))) (ex_ixSl Tryz.underlying22 sizeStr rfl (i := 0) rfl rfl (by omega)) ?_)
             | ((with_reducible apply gS 102); refine wl_read rfl (.string ⟨#[116, 111, 107, 101, 110, 115]⟩) (ex_loadS1 rfl rfl (HCYk.out _ (Ext.refl _))) ?_)
             | ((with_reducible apply gS 110); refine wl_run rfl (.bool false) (ex_eqS rfl rfl rfl (by rw [str_eq]; rfl)) ?_)
             | ((with_reducible apply gS 142); refine wl_run rfl (.bool false) (ex_eqS rfl rfl rfl (by rw [str_eq]; rfl)) ?_)
             | ((with_reducible apply gS 166); refine wl_run rfl (.bool false) (ex_eqS rfl rfl rfl (by rw [str_eq]; rfl)) ?_)
             | ((with_reducible apply gS 173); refine wl_run rfl (.bool true) (ex_eqS rfl rfl rfl (by rw [str_eq]; rfl)) ?_)
             | ((with_reducible apply gS 175); refine wLdB rfl 30 (.tmp 3) rfl g3 rfl hRz.b3 _ Tryz.underlying30 rfl 64 size48 hsb.out ?_)
             | (go_at_call 22; (with_reducible refine (HT.out _).mono ?_); rintro e wt ⟨At, ct, rfl, hst, hxt⟩; have hRt := hRz.ext hxt; have h19t := hb19.ext hxt; have HST := hid_ hst; clear hst))
            go_loopw [24, 181] (fun sv iv wr => ∃ (i : Nat) (B : Option Addr) (d : Nat), i ≤ M ∧ iv = .int .i64 (i : Int) ∧ sv = .slice B i d ∧ wr.ownsRow wt.heap.size 3 1 (.slice B i d) i (ints ((T.take i).map (·.1))) ∧ Ext wt wr) (fun _ iv _ => M - (intOf iv).toNat)
            case atStart => exact ⟨0, none, 0, by omega, rfl, rfl, own_nil _ _ _ _, Ext.refl _⟩
            case round =>
             obtain ⟨i, Bt, dt, hi, rfl, rfl, hownt, hx⟩ := hrel
             by_cases hlt : i < M
             ·have hkl : i < T.length := by rw [HM.out]; exact hlt
              obtain ⟨at_, rfl, hab3, hca⟩ := (HST.out.ext hx).part hlt
              rw [toks_part T i hkl] at hca
              have HSTK := hid_ (syms_take T i hkl)
              generalize T[i] = tk at *
              obtain ⟨t1, t2, t3⟩ := tk
              dsimp only at HSTK
              have HCA := hid_ hca
              clear hca
              generalize ints ((T.take i).map (·.1)) = XS at *
              go_wp2_with (first
               | ((with_reducible apply gS 184); refine wpList_load_any (by rfl) 59 (.tmp 183) rfl (at_.add (i * 3)) rfl (tokv (t1, t2, t3)) _ HCA.out Tryz.underlying59 rfl sizeTok ?_)
               | ((with_reducible apply gS 26); refine wAlo' rfl (some 26) rfl 59 rfl _ zeroTok ?_; intro v3 e3 hb3 hx3 hg3; have hown3 := own_keep hownt hx3)
               | ((with_reducible apply gT 26 184); refine wStB rfl 59 (.tmp 26) (.tmp 184) rfl _ _ rfl rfl hb3 3 sizeTok rfl rfl (three_one _ _ _) ?_; intro v4 hb4 hg4; have hx4 := hx3.grown hg4 hg3; have hown4 := own_keep hownt hx4)
               | ((with_reducible apply gS 187); refine wl_read rfl (.int .i64 t1) (ex_loadI rfl rfl (hb4.cell 0)) ?_)
               | ((with_reducible apply gS 188); refine wLit1 rfl 47 3 (.tmp 187) rfl (some 188) rfl Tryz.underlying47 1 sizeI (by kernel_rfl) _ rfl rfl (by omega) (by omega) ?_; intro v5 gb hbb hx5 hgb; have hown5 := own_keep hown4 hx5; have hx15 := (hx.trans hx4).trans hx5; have hszv : wt.heap.size ≤ v5.heap.size := hx15.size)
               | ((with_reducible apply gS 189); refine wApf elt_intD rfl _ _ rfl wt.heap.size _ _ _ rfl hown5 _ 1 [.int .i64 t1] rfl (hbb.sl (size := 1) (n := 1) (c := 1) rfl (by omega) (by omega)) (ints_one_mem [t1]) (by omega) (by omega) hszv ?_; intro B7 d7 v7 hown7 hg7 hrow7))
              have hy7 : Ext wt v7 := (upd_grown hg7).ext hx15 (fun b hb => (hown5.lt b hb).1)
              go_roundw
              case rel => exact ⟨i + 1, B7, d7, by omega, by go_num, rfl, by rw [HSTK.out]; exact hown7, hy7⟩
              case measure => simp [intOf]; omega
             ·obtain rfl : i = M := by omega
              have hall2 : T.take i = T := by rw [← HM.out, List.take_length]
              rw [hall2] at hownt
              have hsT := (own_out hownt).1
              have HSTT := hid_ hsT
              have hRtt := hRt.ext hx
              have h19tt := h19t.ext hx
              clear hsT hall2
              go_upto_region 46 with fail
              try simp only [Act.put, sA, sB, sC]
              have ho := hor.out
              have hRq := RD.ext hRtt ((Ext.refl wr).drew)
              have h19q : Blk wr.drew g19 30 cb := h19tt
              have hI0 : Blk wr.drew g3 30 cb ∧ Blk wr.drew g4 30 cq ∧ Blk wr.drew g19 30 cb := ⟨hRq.b3, hRq.b4, h19q⟩
              refine wp_region_oi (fun V => Blk V g3 30 cb ∧ Blk V g4 30 cq ∧ Blk V g19 30 cb) (by kernel_rfl) ?_
              refine oi_run (k := 0) (by kernel_rfl) rfl (by rfl) (.slice Bt i dt) (ex_move rfl rfl) hI0 ?_
              simp only [Act.put, sA, sB, sC]
              refine oi_fix (k := 2) (by kernel_rfl) rfl (by rfl) (.agg cb) (fun V hV => ex_loadBk rfl rfl hV.1 _ Tryz.underlying30 rfl 64 size48 hsb.out) hI0 ?_
              simp only [Act.put, sA, sB, sC]
              refine oi_fix (k := 3) (by kernel_rfl) rfl (by rfl) (.agg cq) (fun V hV => ex_loadBk rfl rfl hV.2.1 _ Tryz.underlying30 rfl 64 size48 hsq.out) hI0 ?_
              simp only [Act.put, sA, sB, sC]
              refine oi_run (k := 4) (by kernel_rfl) rfl (by rfl) (.int .i64 0) (ex_move rfl rfl) hI0 ?_
              simp only [Act.put, sA, sB, sC]
              refine oi_loud (k := 1) (by kernel_rfl) rfl ?_
              refine wl_enter (by rfl) (run_callv _ _ _ rfl rfl goesNumbers #[.slice Bt i dt] (by simp [Act.eval])) ?_
              refine (HNUM.out _ i _ (by rw [List.length_map]; exact HM.out) (HSTT.out.ext ((Ext.refl _).drew))).mono ?_
              rintro _ wva ⟨rfl, hxva⟩
              have hIa := And.intro (hI0.1.ext hxva) (And.intro (hI0.2.1.ext hxva) (hI0.2.2.ext hxva))
              have hRa := hRq.ext hxva
              refine ⟨_, rfl, oi_end ⟨hIa, ?_⟩⟩
              simp only [Act.put, sA, sB, sC]
              refine oi_run (k := 5) (by kernel_rfl) rfl (by rfl) (.string ⟨TT.toArray⟩) (ex_assign rfl rfl) hIa ?_
              simp only [Act.put, sA, sB, sC]
              refine oi_loud (k := 6) (by kernel_rfl) rfl ?_
              refine wStB rfl 30 (.tmp 7) (.tmp 193) rfl g7 cb rfl rfl hRa.b7 64 size48 hsb.out hz.out hob.out ?_
              intro wF hb7 hgF
              have huF := upd_of_grown hgF
              have hRF := hRa.st7 hb7 hgF hor.out
              have hIF := And.intro (huF.blk hIa.1 (by omega)) (And.intro (huF.blk hIa.2.1 (by omega)) (huF.blk hIa.2.2 (by omega)))
              refine oi_end ⟨hIF, ?_⟩
              simp only [Act.put, sA, sB, sC]
              refine oi_loud (k := 7) (by kernel_rfl) rfl ?_
              refine wStB rfl 30 (.tmp 8) (.tmp 194) rfl g8 cq rfl rfl hRF.2.2 64 size48 hsq.out hz.out hoq.out ?_
              intro wG hb8 hgG
              have huG := upd_of_grown hgG
              have hRG := st8 hRF hb8 hgG hor.out
              have hIG := And.intro (huG.blk hIF.1 (by omega)) (And.intro (huG.blk hIF.2.1 (by omega)) (huG.blk hIF.2.2 (by omega)))
              refine oi_end ⟨hIG, ?_⟩
              simp only [Act.put, sA, sB, sC]
              refine oi_run (k := 8) (by kernel_rfl) rfl (by rfl) (.int .i64 0) (ex_assign rfl rfl) hIG ?_
              simp only [Act.put, sA, sB, sC]
              refine oi_done (by kernel_rfl) ?_
              go_wp2_with fail
              exact ret_mix rfl rfl g7 g8 rfl rfl hRG.2.1 hRG.2.2 _ Tryz.underlying30 rfl 64 size48 hsb.out hsq.out (by rw [HZ.out]; exact ok_is HCB.out HCQ.out hRG.1)
         ·have HY2 := hid_ (ba_eq (HYX.out.trans hxk))
          have HCYk : Hid (∀ W, Ext wz W → W.cell? (ad.add (0 * 1)) = some (.string ⟨#[119, 97, 118, 101]⟩)) := hid_ (fun W h => by have e := HCYz.out W h; rw [HY2.out] at e; exact e)
          clear HCYz
          have HZk : Hid (Z = byZ (waveR toC b) b q) := hid_ HZ.out
          clear HZ
          unfold byZ at HZk
          have HXL := hid_ (waveR_len toC b)
          have HWW := HW1
          generalize waveR toC b = RR at *
          obtain ⟨X, E⟩ := RR
          dsimp only at HXL HWW HZk
          have HX9 := hid_ ((bv_size X).trans HXL.out)
          have HXO := hid_ (bv_one X)
          clear HW1 HW2
          go_upto_region 64 with (first
           | ((with_reducible apply gS 101); refine wl_run rfl (.pointer (some (ad.add (0 * 1)))) (ex_ixSl Tryz.underlying22 sizeStr rfl (i := 0) rfl rfl (by omega)) ?_)
           | ((with_reducible apply gS 102); refine wl_read rfl (.string ⟨#[119, 97, 118, 101]⟩) (ex_loadS1 rfl rfl (HCYk.out _ (Ext.refl _))) ?_)
           | ((with_reducible apply gS 110); refine wl_run rfl (.bool false) (ex_eqS rfl rfl rfl (by rw [str_eq]; rfl)) ?_)
           | ((with_reducible apply gS 142); refine wl_run rfl (.bool false) (ex_eqS rfl rfl rfl (by rw [str_eq]; rfl)) ?_)
           | ((with_reducible apply gS 166); refine wl_run rfl (.bool false) (ex_eqS rfl rfl rfl (by rw [str_eq]; rfl)) ?_)
           | ((with_reducible apply gS 173); refine wl_run rfl (.bool false) (ex_eqS rfl rfl rfl (by rw [str_eq]; rfl)) ?_)
           | ((with_reducible apply gS 197); refine wl_run rfl (.bool false) (ex_eqS rfl rfl rfl (by rw [str_eq]; rfl)) ?_)
           | ((with_reducible apply gS 214); refine wl_run rfl (.bool false) (ex_eqS rfl rfl rfl (by rw [str_eq]; rfl)) ?_)
           | ((with_reducible apply gS 215); refine wl_run rfl (.bool false) (ex_eqS rfl rfl rfl (by rw [str_eq]; rfl)) ?_)
           | ((with_reducible apply gS 245); refine wl_run rfl (.bool false) (ex_eqS rfl rfl rfl (by rw [str_eq]; rfl)) ?_)
           | ((with_reducible apply gS 264); refine wl_run rfl (.bool true) (ex_eqS rfl rfl rfl (by rw [str_eq]; rfl)) ?_))
          have ho := hor.out
          try simp only [Act.put, sA, sB, sC]
          have hI0 : Blk wz.drew g3 30 cb ∧ wz.drew.cell? (ad.add (0 * 1)) = some (.string ⟨#[119, 97, 118, 101]⟩) := ⟨hRz.b3, HCYk.out _ ((Ext.refl wz).drew)⟩
          refine wp_region_oi (fun V => Blk V g3 30 cb ∧ V.cell? (ad.add (0 * 1)) = some (.string ⟨#[119, 97, 118, 101]⟩)) (by kernel_rfl) ?_
          refine oi_fix (k := 0) (by kernel_rfl) rfl (by rfl) (.agg cb) (fun V hV => ex_loadBk rfl rfl hV.1 _ Tryz.underlying30 rfl 64 size48 hsb.out) hI0 ?_
          simp only [Act.put, sA, sB, sC]
          refine oi_run (k := 1) (by kernel_rfl) rfl (by rfl) (.slice (some ad) (j + 1) c) (ex_move rfl rfl) hI0 ?_
          simp only [Act.put, sA, sB, sC]
          refine oi_run (k := 2) (by kernel_rfl) rfl (by rfl) (.pointer (some (ad.add (0 * 1)))) (ex_ixSl Tryz.underlying22 sizeStr rfl (i := 0) rfl rfl (by omega)) hI0 ?_
          simp only [Act.put, sA, sB, sC]
          refine oi_fix (k := 3) (by kernel_rfl) rfl (by rfl) (.string ⟨#[119, 97, 118, 101]⟩) (fun V hV => ex_loadS1 rfl rfl hV.2) hI0 ?_
          simp only [Act.put, sA, sB, sC]
          refine oi_run (k := 4) (by kernel_rfl) rfl (by rfl) (.bool true) (ex_eqS rfl rfl rfl (by rw [str_eq]; rfl)) hI0 ?_
          simp only [Act.put, sA, sB, sC]
          refine oi_loud (k := 5) (by kernel_rfl) rfl ?_
          refine wl_enter (by rfl) (run_callv _ _ _ rfl rfl ⟨_, Tryz.func28, rfl, rfl⟩ #[.agg cb, .bool true] (by simp [Act.eval])) ?_
          refine (HWW.out _).mono ?_
          rintro _ W ⟨rfl, hxW⟩
          have hI1 := And.intro (hI0.1.ext hxW) ((hxW.cell (p := ad.add (0 * 1)) (by rw [block_of_add]; have := hRz.x.size; have : wz.drew.heap.size = wz.heap.size := rfl; omega)).trans hI0.2)
          refine ⟨_, rfl, oi_end ⟨hI1, ?_⟩⟩
          simp only [Act.put, sA, sB, sC]
          refine oi_run (k := 6) (by kernel_rfl) rfl (by rfl) (.tuple #[.agg (bv X), .int .i64 E]) (ex_move rfl rfl) hI1 ?_
          simp only [Act.put, sA, sB, sC]
          refine oi_run (k := 7) (by kernel_rfl) rfl (by rfl) (.agg (bv X)) (ex_extract rfl rfl rfl) hI1 ?_
          simp only [Act.put, sA, sB, sC]
          refine oi_run (k := 8) (by kernel_rfl) rfl (by rfl) (.int .i64 E) (ex_extract rfl rfl rfl) hI1 ?_
          simp only [Act.put, sA, sB, sC]
          have hR8 := hRz.ext (((Ext.refl wz).drew).trans hxW)
          have h198 := hb19.ext (((Ext.refl wz).drew).trans hxW)
          refine oi_loud (k := 9) (by kernel_rfl) rfl ?_
          refine wStB rfl 30 (.tmp 19) (.tmp 273) rfl g19 (bv X) rfl rfl h198 64 size48 HX9.out hsb.out HXO.out ?_
          intro W9 h199 hg9
          have hu9 := upd_of_grown hg9
          have hR9 := hR8.upd hu9 hor.out hor19
          have hI9 := And.intro (hu9.blk hI1.1 (by omega)) ((show W9.cell? (ad.add (0 * 1)) = W.cell? (ad.add (0 * 1)) by unfold World.cell?; rw [hu9.block _ (by rw [block_of_add]; have := hR8.x.size; omega) (by rw [block_of_add]; omega)]).trans hI1.2)
          refine oi_end ⟨hI9, ?_⟩
          simp only [Act.put, sA, sB, sC]
          refine oi_run (k := 10) (by kernel_rfl) rfl (by rfl) (.int .i64 E) (ex_assign rfl rfl) hI9 ?_
          simp only [Act.put, sA, sB, sC]
          refine oi_done (by kernel_rfl) ?_
          by_cases hE : E = 0
          ·subst hE
           rw [if_pos rfl] at HZk
           obtain ⟨F, hF⟩ : ∃ F, (X.map fun z => clampZ z (-40000) 40000) = F := ⟨_, rfl⟩
           have HZ := HZk
           rw [hF] at HZ
           have hFl : F.length = 64 := by rw [← hF, List.length_map]; exact HXL.out
           have HFL := hid_ hFl
           have HFX : Hid (∀ i (h : i < F.length) (h2 : i < X.length), F[i] = clampZ X[i] (-40000) 40000) := hid_ (fun i h h2 => by subst hF; simp)
           have HSQ : Hid (∀ i, i ≤ 64 → (bv (F.take i ++ X.drop i)).size = 64) := hid_ (fun i hi => by rw [bv_size]; simp [HFL.out, HXL.out]; omega)
           have HF9 := hid_ ((bv_size F).trans hFl)
           have HFO := hid_ (bv_one F)
           clear hF hFl HZk
           go_wp2_with fail
           go_loopw [292] (fun iv wr => ∃ i : Nat, i ≤ 64 ∧ iv = .int .i64 (i : Int) ∧ RD w g3 g4 g7 g8 cb cq cz wr ∧ Blk wr g19 30 (bv (F.take i ++ X.drop i))) (fun iv _ => 64 - (intOf iv).toNat)
           case atStart => exact ⟨0, by omega, rfl, hR9, by simpa using h199⟩
           case round =>
            obtain ⟨i, hi, rfl, hR, h19⟩ := hrel
            by_cases hlt : i < 64
            ·have hiF : i < F.length := by rw [HFL.out]; exact hlt
             have hiX : i < X.length := by rw [HXL.out]; exact hlt
             have hms := mix_set F X i hiF hiX
             have HCL := hid_ (fun W => clamp_any X[i] (-40000) 40000 W)
             rw [← HFX.out i hiF hiX] at HCL
             have hcell : wr.cell? ⟨g19, i, none⟩ = some (.int .i64 X[i]) := by
              rw [h19.cell i]
              have e : (F.take i ++ X.drop i)[i]? = some X[i] := by
               rw [List.getElem?_append_right (by simp [HFL.out]; omega)]
               simp [HFL.out, show min i 64 = i by omega]
              unfold bv ints
              rw [List.getElem?_toArray, List.getElem?_map, e]
              rfl
             have HMS := hid_ hms
             have HCELL := hid_ hcell
             generalize F[i] = z9 at *
             generalize X[i] = x9 at *
             clear hms hcell
             go_wp2_with (first
              | ((with_reducible apply gS 297); refine wl_run rfl (.pointer (some ⟨g19, i, none⟩)) (ex_ixArr0 Tryz.underlying30 sizeI rfl (i := i) rfl rfl hlt) ?_)
              | ((with_reducible apply gS 298); refine wl_read rfl (.int .i64 x9) (ex_loadI rfl rfl HCELL.out) ?_)
              | (go_at_call 31; (with_reducible refine (HCL.out _).mono ?_); rintro e wt ⟨rfl, rfl⟩)
              | ((with_reducible apply gS 300); refine wl_run rfl (.pointer (some ⟨g19, i, none⟩)) (ex_ixArr0 Tryz.underlying30 sizeI rfl (i := i) rfl rfl hlt) ?_)
              | ((with_reducible apply gT 300 299); refine wl_storeI rfl (.tmp 300) (.tmp 299) rfl g19 i z9 rfl rfl h19 (by rw [HSQ.out i hi]; exact hlt) ?_))
             have h199 := h19.set_ i (.int .i64 z9)
             rw [bv_set, HMS.out] at h199
             have hu9 : Upd (fun x => x = g19) wr (wr.setCell ⟨g19, i, none⟩ (.int .i64 z9)) := Upd.setCell (S := fun x => x = g19) (Upd.refl (fun x => x = g19) wr) (p := ⟨g19, i, none⟩) rfl (.int .i64 z9)
             have hR9 := hR.upd hu9 hor.out hor19
             generalize wr.setCell ⟨g19, i, none⟩ (.int .i64 z9) = W9 at *
             go_wp2_with fail
             go_roundw
             case rel => exact ⟨i + 1, by omega, by go_num, hR9, h199⟩
             case measure => simp [intOf]; omega
            ·obtain rfl : i = 64 := by omega
             have e9 : F.take 64 ++ X.drop 64 = F := by
              rw [List.take_of_length_le (by rw [HFL.out]; omega), List.drop_eq_nil_of_le (by rw [HXL.out]; omega), List.append_nil]
             rw [e9] at h19
             go_upto_region 74 with fail
             try simp only [Act.put, sA, sB, sC]
             have ho := hor.out
             have hRq := RD.ext hR ((Ext.refl wr).drew)
             have h19q : Blk wr.drew g19 30 (bv F) := h19
             have hI0 : Blk wr.drew g3 30 cb ∧ Blk wr.drew g4 30 cq ∧ Blk wr.drew g19 30 (bv F) := ⟨hRq.b3, hRq.b4, h19q⟩
             refine wp_region_oi (fun V => Blk V g3 30 cb ∧ Blk V g4 30 cq ∧ Blk V g19 30 (bv F)) (by kernel_rfl) ?_
             refine oi_fix (k := 0) (by kernel_rfl) rfl (by rfl) (.agg (bv F)) (fun V hV => ex_loadBk rfl rfl hV.2.2 _ Tryz.underlying30 rfl 64 size48 HF9.out) hI0 ?_
             simp only [Act.put, sA, sB, sC]
             refine oi_fix (k := 1) (by kernel_rfl) rfl (by rfl) (.agg cq) (fun V hV => ex_loadBk rfl rfl hV.2.1 _ Tryz.underlying30 rfl 64 size48 hsq.out) hI0 ?_
             simp only [Act.put, sA, sB, sC]
             refine oi_run (k := 2) (by kernel_rfl) rfl (by rfl) (.int .i64 0) (ex_move rfl rfl) hI0 ?_
             simp only [Act.put, sA, sB, sC]
             refine oi_run (k := 3) (by kernel_rfl) rfl (by rfl) (.string ⟨#[111, 107]⟩) (ex_assign rfl rfl) hI0 ?_
             simp only [Act.put, sA, sB, sC]
             refine oi_loud (k := 4) (by kernel_rfl) rfl ?_
             refine wStB rfl 30 (.tmp 7) (.tmp 302) rfl g7 (bv F) rfl rfl hRq.b7 64 size48 HF9.out hz.out HFO.out ?_
             intro wF hb7 hgF
             have huF := upd_of_grown hgF
             have hRF := hRq.st7 hb7 hgF hor.out
             have hIF := And.intro (huF.blk hI0.1 (by omega)) (And.intro (huF.blk hI0.2.1 (by omega)) (huF.blk hI0.2.2 (by omega)))
             refine oi_end ⟨hIF, ?_⟩
             simp only [Act.put, sA, sB, sC]
             refine oi_loud (k := 5) (by kernel_rfl) rfl ?_
             refine wStB rfl 30 (.tmp 8) (.tmp 303) rfl g8 cq rfl rfl hRF.2.2 64 size48 hsq.out hz.out hoq.out ?_
             intro wG hb8 hgG
             have huG := upd_of_grown hgG
             have hRG := st8 hRF hb8 hgG hor.out
             have hIG := And.intro (huG.blk hIF.1 (by omega)) (And.intro (huG.blk hIF.2.1 (by omega)) (huG.blk hIF.2.2 (by omega)))
             refine oi_end ⟨hIG, ?_⟩
             simp only [Act.put, sA, sB, sC]
             refine oi_run (k := 6) (by kernel_rfl) rfl (by rfl) (.int .i64 0) (ex_assign rfl rfl) hIG ?_
             simp only [Act.put, sA, sB, sC]
             refine oi_done (by kernel_rfl) ?_
             go_wp2_with fail
             exact ret_mix rfl rfl g7 g8 rfl rfl hRG.2.1 hRG.2.2 _ Tryz.underlying30 rfl 64 size48 HF9.out hsq.out (by rw [HZ.out]; exact ok_is rfl HCQ.out hRG.1)
          ·rw [if_neg hE] at HZk
           have HZ := HZk
           have HEN := hid_ hE
           have hb2 : (E != 0) = true := by simpa using hE
           clear hE HZk
           go_wp2_with (first
            | ((with_reducible apply gS 287); refine wl_enter (by rfl) (run_callv (.tmp 285) _ _ rfl rfl goesBad #[.int .i64 E, .pointer (some ⟨g3, 0, none⟩), .pointer (some ⟨g4, 0, none⟩)] (by simp [Act.eval])) ?_; refine (HBAD.out E _ hR9).mono ?_; rintro _ wE ⟨rfl, hxE⟩; refine ⟨_, rfl, ?_⟩; have hRE := RD.ext hR9 hxE)
            | ((with_reducible apply gT 7 289); refine wStB rfl 30 (.tmp 7) (.tmp 289) rfl g7 cb rfl rfl hRE.b7 64 size48 hsb.out hz.out hob.out ?_; intro wF hb7 hgF; have hRF := hRE.st7 hb7 hgF hor.out)
            | ((with_reducible apply gT 8 290); refine wStB rfl 30 (.tmp 8) (.tmp 290) rfl g8 cq rfl rfl hRF.2.2 64 size48 hsq.out hz.out hoq.out ?_; intro wG hb8 hgG; have hRG := st8 hRF hb8 hgG hor.out))
           exact ret_mix rfl rfl g7 g8 rfl rfl hRG.2.1 hRG.2.2 _ Tryz.underlying30 rfl 64 size48 hsb.out hsq.out (by rw [HZ.out]; exact bad_is HEN.out HCB.out HCQ.out hRG.1)
         ·have HY2 := hid_ (ba_eq (HYX.out.trans hxk))
          have HCYk : Hid (∀ W, Ext wz W → W.cell? (ad.add (0 * 1)) = some (.string ⟨#[98, 97, 99, 107]⟩)) := hid_ (fun W h => by have e := HCYz.out W h; rw [HY2.out] at e; exact e)
          clear HCYz
          have HZk : Hid (Z = byZ (waveR frC b) b q) := hid_ HZ.out
          clear HZ
          unfold byZ at HZk
          have HXL := hid_ (waveR_len frC b)
          have HWW := HW2
          generalize waveR frC b = RR at *
          obtain ⟨X, E⟩ := RR
          dsimp only at HXL HWW HZk
          have HX9 := hid_ ((bv_size X).trans HXL.out)
          have HXO := hid_ (bv_one X)
          clear HW1 HW2
          go_upto_region 64 with (first
           | ((with_reducible apply gS 101); refine wl_run rfl (.pointer (some (ad.add (0 * 1)))) (ex_ixSl Tryz.underlying22 sizeStr rfl (i := 0) rfl rfl (by omega)) ?_)
           | ((with_reducible apply gS 102); refine wl_read rfl (.string ⟨#[98, 97, 99, 107]⟩) (ex_loadS1 rfl rfl (HCYk.out _ (Ext.refl _))) ?_)
           | ((with_reducible apply gS 110); refine wl_run rfl (.bool false) (ex_eqS rfl rfl rfl (by rw [str_eq]; rfl)) ?_)
           | ((with_reducible apply gS 142); refine wl_run rfl (.bool false) (ex_eqS rfl rfl rfl (by rw [str_eq]; rfl)) ?_)
           | ((with_reducible apply gS 166); refine wl_run rfl (.bool false) (ex_eqS rfl rfl rfl (by rw [str_eq]; rfl)) ?_)
           | ((with_reducible apply gS 173); refine wl_run rfl (.bool false) (ex_eqS rfl rfl rfl (by rw [str_eq]; rfl)) ?_)
           | ((with_reducible apply gS 197); refine wl_run rfl (.bool false) (ex_eqS rfl rfl rfl (by rw [str_eq]; rfl)) ?_)
           | ((with_reducible apply gS 214); refine wl_run rfl (.bool false) (ex_eqS rfl rfl rfl (by rw [str_eq]; rfl)) ?_)
           | ((with_reducible apply gS 215); refine wl_run rfl (.bool false) (ex_eqS rfl rfl rfl (by rw [str_eq]; rfl)) ?_)
           | ((with_reducible apply gS 245); refine wl_run rfl (.bool false) (ex_eqS rfl rfl rfl (by rw [str_eq]; rfl)) ?_)
           | ((with_reducible apply gS 264); refine wl_run rfl (.bool false) (ex_eqS rfl rfl rfl (by rw [str_eq]; rfl)) ?_)
           | ((with_reducible apply gS 265); refine wl_run rfl (.bool true) (ex_eqS rfl rfl rfl (by rw [str_eq]; rfl)) ?_))
          have ho := hor.out
          try simp only [Act.put, sA, sB, sC]
          have hI0 : Blk wz.drew g3 30 cb ∧ wz.drew.cell? (ad.add (0 * 1)) = some (.string ⟨#[98, 97, 99, 107]⟩) := ⟨hRz.b3, HCYk.out _ ((Ext.refl wz).drew)⟩
          refine wp_region_oi (fun V => Blk V g3 30 cb ∧ V.cell? (ad.add (0 * 1)) = some (.string ⟨#[98, 97, 99, 107]⟩)) (by kernel_rfl) ?_
          refine oi_fix (k := 0) (by kernel_rfl) rfl (by rfl) (.agg cb) (fun V hV => ex_loadBk rfl rfl hV.1 _ Tryz.underlying30 rfl 64 size48 hsb.out) hI0 ?_
          simp only [Act.put, sA, sB, sC]
          refine oi_run (k := 1) (by kernel_rfl) rfl (by rfl) (.slice (some ad) (j + 1) c) (ex_move rfl rfl) hI0 ?_
          simp only [Act.put, sA, sB, sC]
          refine oi_run (k := 2) (by kernel_rfl) rfl (by rfl) (.pointer (some (ad.add (0 * 1)))) (ex_ixSl Tryz.underlying22 sizeStr rfl (i := 0) rfl rfl (by omega)) hI0 ?_
          simp only [Act.put, sA, sB, sC]
          refine oi_fix (k := 3) (by kernel_rfl) rfl (by rfl) (.string ⟨#[98, 97, 99, 107]⟩) (fun V hV => ex_loadS1 rfl rfl hV.2) hI0 ?_
          simp only [Act.put, sA, sB, sC]
          refine oi_run (k := 4) (by kernel_rfl) rfl (by rfl) (.bool false) (ex_eqS rfl rfl rfl (by rw [str_eq]; rfl)) hI0 ?_
          simp only [Act.put, sA, sB, sC]
          refine oi_loud (k := 5) (by kernel_rfl) rfl ?_
          refine wl_enter (by rfl) (run_callv _ _ _ rfl rfl ⟨_, Tryz.func28, rfl, rfl⟩ #[.agg cb, .bool false] (by simp [Act.eval])) ?_
          refine (HWW.out _).mono ?_
          rintro _ W ⟨rfl, hxW⟩
          have hI1 := And.intro (hI0.1.ext hxW) ((hxW.cell (p := ad.add (0 * 1)) (by rw [block_of_add]; have := hRz.x.size; have : wz.drew.heap.size = wz.heap.size := rfl; omega)).trans hI0.2)
          refine ⟨_, rfl, oi_end ⟨hI1, ?_⟩⟩
          simp only [Act.put, sA, sB, sC]
          refine oi_run (k := 6) (by kernel_rfl) rfl (by rfl) (.tuple #[.agg (bv X), .int .i64 E]) (ex_move rfl rfl) hI1 ?_
          simp only [Act.put, sA, sB, sC]
          refine oi_run (k := 7) (by kernel_rfl) rfl (by rfl) (.agg (bv X)) (ex_extract rfl rfl rfl) hI1 ?_
          simp only [Act.put, sA, sB, sC]
          refine oi_run (k := 8) (by kernel_rfl) rfl (by rfl) (.int .i64 E) (ex_extract rfl rfl rfl) hI1 ?_
          simp only [Act.put, sA, sB, sC]
          have hR8 := hRz.ext (((Ext.refl wz).drew).trans hxW)
          have h198 := hb19.ext (((Ext.refl wz).drew).trans hxW)
          refine oi_loud (k := 9) (by kernel_rfl) rfl ?_
          refine wStB rfl 30 (.tmp 19) (.tmp 273) rfl g19 (bv X) rfl rfl h198 64 size48 HX9.out hsb.out HXO.out ?_
          intro W9 h199 hg9
          have hu9 := upd_of_grown hg9
          have hR9 := hR8.upd hu9 hor.out hor19
          have hI9 := And.intro (hu9.blk hI1.1 (by omega)) ((show W9.cell? (ad.add (0 * 1)) = W.cell? (ad.add (0 * 1)) by unfold World.cell?; rw [hu9.block _ (by rw [block_of_add]; have := hR8.x.size; omega) (by rw [block_of_add]; omega)]).trans hI1.2)
          refine oi_end ⟨hI9, ?_⟩
          simp only [Act.put, sA, sB, sC]
          refine oi_run (k := 10) (by kernel_rfl) rfl (by rfl) (.int .i64 E) (ex_assign rfl rfl) hI9 ?_
          simp only [Act.put, sA, sB, sC]
          refine oi_done (by kernel_rfl) ?_
          by_cases hE : E = 0
          ·subst hE
           rw [if_pos rfl] at HZk
           obtain ⟨F, hF⟩ : ∃ F, (X.map fun z => clampZ z (-40000) 40000) = F := ⟨_, rfl⟩
           have HZ := HZk
           rw [hF] at HZ
           have hFl : F.length = 64 := by rw [← hF, List.length_map]; exact HXL.out
           have HFL := hid_ hFl
           have HFX : Hid (∀ i (h : i < F.length) (h2 : i < X.length), F[i] = clampZ X[i] (-40000) 40000) := hid_ (fun i h h2 => by subst hF; simp)
           have HSQ : Hid (∀ i, i ≤ 64 → (bv (F.take i ++ X.drop i)).size = 64) := hid_ (fun i hi => by rw [bv_size]; simp [HFL.out, HXL.out]; omega)
           have HF9 := hid_ ((bv_size F).trans hFl)
           have HFO := hid_ (bv_one F)
           clear hF hFl HZk
           go_wp2_with fail
           go_loopw [292] (fun iv wr => ∃ i : Nat, i ≤ 64 ∧ iv = .int .i64 (i : Int) ∧ RD w g3 g4 g7 g8 cb cq cz wr ∧ Blk wr g19 30 (bv (F.take i ++ X.drop i))) (fun iv _ => 64 - (intOf iv).toNat)
           case atStart => exact ⟨0, by omega, rfl, hR9, by simpa using h199⟩
           case round =>
            obtain ⟨i, hi, rfl, hR, h19⟩ := hrel
            by_cases hlt : i < 64
            ·have hiF : i < F.length := by rw [HFL.out]; exact hlt
             have hiX : i < X.length := by rw [HXL.out]; exact hlt
             have hms := mix_set F X i hiF hiX
             have HCL := hid_ (fun W => clamp_any X[i] (-40000) 40000 W)
             rw [← HFX.out i hiF hiX] at HCL
             have hcell : wr.cell? ⟨g19, i, none⟩ = some (.int .i64 X[i]) := by
              rw [h19.cell i]
              have e : (F.take i ++ X.drop i)[i]? = some X[i] := by
               rw [List.getElem?_append_right (by simp [HFL.out]; omega)]
               simp [HFL.out, show min i 64 = i by omega]
              unfold bv ints
              rw [List.getElem?_toArray, List.getElem?_map, e]
              rfl
             have HMS := hid_ hms
             have HCELL := hid_ hcell
             generalize F[i] = z9 at *
             generalize X[i] = x9 at *
             clear hms hcell
             go_wp2_with (first
              | ((with_reducible apply gS 297); refine wl_run rfl (.pointer (some ⟨g19, i, none⟩)) (ex_ixArr0 Tryz.underlying30 sizeI rfl (i := i) rfl rfl hlt) ?_)
              | ((with_reducible apply gS 298); refine wl_read rfl (.int .i64 x9) (ex_loadI rfl rfl HCELL.out) ?_)
              | (go_at_call 31; (with_reducible refine (HCL.out _).mono ?_); rintro e wt ⟨rfl, rfl⟩)
              | ((with_reducible apply gS 300); refine wl_run rfl (.pointer (some ⟨g19, i, none⟩)) (ex_ixArr0 Tryz.underlying30 sizeI rfl (i := i) rfl rfl hlt) ?_)
              | ((with_reducible apply gT 300 299); refine wl_storeI rfl (.tmp 300) (.tmp 299) rfl g19 i z9 rfl rfl h19 (by rw [HSQ.out i hi]; exact hlt) ?_))
             have h199 := h19.set_ i (.int .i64 z9)
             rw [bv_set, HMS.out] at h199
             have hu9 : Upd (fun x => x = g19) wr (wr.setCell ⟨g19, i, none⟩ (.int .i64 z9)) := Upd.setCell (S := fun x => x = g19) (Upd.refl (fun x => x = g19) wr) (p := ⟨g19, i, none⟩) rfl (.int .i64 z9)
             have hR9 := hR.upd hu9 hor.out hor19
             generalize wr.setCell ⟨g19, i, none⟩ (.int .i64 z9) = W9 at *
             go_wp2_with fail
             go_roundw
             case rel => exact ⟨i + 1, by omega, by go_num, hR9, h199⟩
             case measure => simp [intOf]; omega
            ·obtain rfl : i = 64 := by omega
             have e9 : F.take 64 ++ X.drop 64 = F := by
              rw [List.take_of_length_le (by rw [HFL.out]; omega), List.drop_eq_nil_of_le (by rw [HXL.out]; omega), List.append_nil]
             rw [e9] at h19
             go_upto_region 74 with fail
             try simp only [Act.put, sA, sB, sC]
             have ho := hor.out
             have hRq := RD.ext hR ((Ext.refl wr).drew)
             have h19q : Blk wr.drew g19 30 (bv F) := h19
             have hI0 : Blk wr.drew g3 30 cb ∧ Blk wr.drew g4 30 cq ∧ Blk wr.drew g19 30 (bv F) := ⟨hRq.b3, hRq.b4, h19q⟩
             refine wp_region_oi (fun V => Blk V g3 30 cb ∧ Blk V g4 30 cq ∧ Blk V g19 30 (bv F)) (by kernel_rfl) ?_
             refine oi_fix (k := 0) (by kernel_rfl) rfl (by rfl) (.agg (bv F)) (fun V hV => ex_loadBk rfl rfl hV.2.2 _ Tryz.underlying30 rfl 64 size48 HF9.out) hI0 ?_
             simp only [Act.put, sA, sB, sC]
             refine oi_fix (k := 1) (by kernel_rfl) rfl (by rfl) (.agg cq) (fun V hV => ex_loadBk rfl rfl hV.2.1 _ Tryz.underlying30 rfl 64 size48 hsq.out) hI0 ?_
             simp only [Act.put, sA, sB, sC]
             refine oi_run (k := 2) (by kernel_rfl) rfl (by rfl) (.int .i64 0) (ex_move rfl rfl) hI0 ?_
             simp only [Act.put, sA, sB, sC]
             refine oi_run (k := 3) (by kernel_rfl) rfl (by rfl) (.string ⟨#[111, 107]⟩) (ex_assign rfl rfl) hI0 ?_
             simp only [Act.put, sA, sB, sC]
             refine oi_loud (k := 4) (by kernel_rfl) rfl ?_
             refine wStB rfl 30 (.tmp 7) (.tmp 302) rfl g7 (bv F) rfl rfl hRq.b7 64 size48 HF9.out hz.out HFO.out ?_
             intro wF hb7 hgF
             have huF := upd_of_grown hgF
             have hRF := hRq.st7 hb7 hgF hor.out
             have hIF := And.intro (huF.blk hI0.1 (by omega)) (And.intro (huF.blk hI0.2.1 (by omega)) (huF.blk hI0.2.2 (by omega)))
             refine oi_end ⟨hIF, ?_⟩
             simp only [Act.put, sA, sB, sC]
             refine oi_loud (k := 5) (by kernel_rfl) rfl ?_
             refine wStB rfl 30 (.tmp 8) (.tmp 303) rfl g8 cq rfl rfl hRF.2.2 64 size48 hsq.out hz.out hoq.out ?_
             intro wG hb8 hgG
             have huG := upd_of_grown hgG
             have hRG := st8 hRF hb8 hgG hor.out
             have hIG := And.intro (huG.blk hIF.1 (by omega)) (And.intro (huG.blk hIF.2.1 (by omega)) (huG.blk hIF.2.2 (by omega)))
             refine oi_end ⟨hIG, ?_⟩
             simp only [Act.put, sA, sB, sC]
             refine oi_run (k := 6) (by kernel_rfl) rfl (by rfl) (.int .i64 0) (ex_assign rfl rfl) hIG ?_
             simp only [Act.put, sA, sB, sC]
             refine oi_done (by kernel_rfl) ?_
             go_wp2_with fail
             exact ret_mix rfl rfl g7 g8 rfl rfl hRG.2.1 hRG.2.2 _ Tryz.underlying30 rfl 64 size48 HF9.out hsq.out (by rw [HZ.out]; exact ok_is rfl HCQ.out hRG.1)
          ·rw [if_neg hE] at HZk
           have HZ := HZk
           have HEN := hid_ hE
           have hb2 : (E != 0) = true := by simpa using hE
           clear hE HZk
           go_wp2_with (first
            | ((with_reducible apply gS 287); refine wl_enter (by rfl) (run_callv (.tmp 285) _ _ rfl rfl goesBad #[.int .i64 E, .pointer (some ⟨g3, 0, none⟩), .pointer (some ⟨g4, 0, none⟩)] (by simp [Act.eval])) ?_; refine (HBAD.out E _ hR9).mono ?_; rintro _ wE ⟨rfl, hxE⟩; refine ⟨_, rfl, ?_⟩; have hRE := RD.ext hR9 hxE)
            | ((with_reducible apply gT 7 289); refine wStB rfl 30 (.tmp 7) (.tmp 289) rfl g7 cb rfl rfl hRE.b7 64 size48 hsb.out hz.out hob.out ?_; intro wF hb7 hgF; have hRF := hRE.st7 hb7 hgF hor.out)
            | ((with_reducible apply gT 8 290); refine wStB rfl 30 (.tmp 8) (.tmp 290) rfl g8 cq rfl rfl hRF.2.2 64 size48 hsq.out hz.out hoq.out ?_; intro wG hb8 hgG; have hRG := st8 hRF hb8 hgG hor.out))
           exact ret_mix rfl rfl g7 g8 rfl rfl hRG.2.1 hRG.2.2 _ Tryz.underlying30 rfl 64 size48 hsb.out hsq.out (by rw [HZ.out]; exact bad_is HEN.out HCB.out HCQ.out hRG.1)
         ·have HY2 := hid_ (ba_eq (HYX.out.trans hxk))
          have HCYk : Hid (∀ W, Ext wz W → W.cell? (ad.add (0 * 1)) = some (.string ⟨#[100, 111, 119, 110]⟩)) := hid_ (fun W h => by have e := HCYz.out W h; rw [HY2.out] at e; exact e)
          clear HCYz
          have HZk : Hid (Z = byZ (bothZ downF b q 40000) b q) := hid_ HZ.out
          clear HZ
          unfold byZ at HZk
          have HXL := hid_ (bothZ_len downF b q 40000 HS.out.1 HS.out.2.1)
          have HWW := HQ1
          generalize bothZ downF b q 40000 = RR at *
          obtain ⟨X, E⟩ := RR
          dsimp only at HXL HWW HZk
          have HX9 := hid_ ((bv_size X).trans HXL.out)
          have HXO := hid_ (bv_one X)
          clear HQ1 HQ2
          go_upto_region 67 with (first
           | ((with_reducible apply gS 101); refine wl_run rfl (.pointer (some (ad.add (0 * 1)))) (ex_ixSl Tryz.underlying22 sizeStr rfl (i := 0) rfl rfl (by omega)) ?_)
           | ((with_reducible apply gS 102); refine wl_read rfl (.string ⟨#[100, 111, 119, 110]⟩) (ex_loadS1 rfl rfl (HCYk.out _ (Ext.refl _))) ?_)
           | ((with_reducible apply gS 110); refine wl_run rfl (.bool false) (ex_eqS rfl rfl rfl (by rw [str_eq]; rfl)) ?_)
           | ((with_reducible apply gS 142); refine wl_run rfl (.bool false) (ex_eqS rfl rfl rfl (by rw [str_eq]; rfl)) ?_)
           | ((with_reducible apply gS 166); refine wl_run rfl (.bool false) (ex_eqS rfl rfl rfl (by rw [str_eq]; rfl)) ?_)
           | ((with_reducible apply gS 173); refine wl_run rfl (.bool false) (ex_eqS rfl rfl rfl (by rw [str_eq]; rfl)) ?_)
           | ((with_reducible apply gS 197); refine wl_run rfl (.bool false) (ex_eqS rfl rfl rfl (by rw [str_eq]; rfl)) ?_)
           | ((with_reducible apply gS 214); refine wl_run rfl (.bool false) (ex_eqS rfl rfl rfl (by rw [str_eq]; rfl)) ?_)
           | ((with_reducible apply gS 215); refine wl_run rfl (.bool false) (ex_eqS rfl rfl rfl (by rw [str_eq]; rfl)) ?_)
           | ((with_reducible apply gS 245); refine wl_run rfl (.bool false) (ex_eqS rfl rfl rfl (by rw [str_eq]; rfl)) ?_)
           | ((with_reducible apply gS 264); refine wl_run rfl (.bool false) (ex_eqS rfl rfl rfl (by rw [str_eq]; rfl)) ?_)
           | ((with_reducible apply gS 265); refine wl_run rfl (.bool false) (ex_eqS rfl rfl rfl (by rw [str_eq]; rfl)) ?_)
           | ((with_reducible apply gS 276); refine wl_run rfl (.bool true) (ex_eqS rfl rfl rfl (by rw [str_eq]; rfl)) ?_)
           | ((with_reducible apply gS 278); refine wLdB rfl 30 (.tmp 3) rfl g3 rfl hRz.b3 _ Tryz.underlying30 rfl 64 size48 hsb.out ?_)
           | ((with_reducible apply gS 279); refine wLdB rfl 30 (.tmp 4) rfl g4 rfl hRz.b4 _ Tryz.underlying30 rfl 64 size48 hsq.out ?_)
           | (go_at_call 29; (with_reducible refine (HWW.out _).mono ?_); rintro e wt ⟨rfl, hxt⟩; have hRt := hRz.ext hxt; have h19t := hb19.ext hxt)
           | ((with_reducible apply gT 19 281); refine wStB rfl 30 (.tmp 19) (.tmp 281) rfl g19 (bv X) rfl rfl h19t 64 size48 HX9.out hsb.out HXO.out ?_; intro W9 h199 hg9; have hR9 := hRt.upd (upd_of_grown hg9) hor.out hor19))
          by_cases hE : E = 0
          ·subst hE
           rw [if_pos rfl] at HZk
           obtain ⟨F, hF⟩ : ∃ F, (X.map fun z => clampZ z (-40000) 40000) = F := ⟨_, rfl⟩
           have HZ := HZk
           rw [hF] at HZ
           have hFl : F.length = 64 := by rw [← hF, List.length_map]; exact HXL.out
           have HFL := hid_ hFl
           have HFX : Hid (∀ i (h : i < F.length) (h2 : i < X.length), F[i] = clampZ X[i] (-40000) 40000) := hid_ (fun i h h2 => by subst hF; simp)
           have HSQ : Hid (∀ i, i ≤ 64 → (bv (F.take i ++ X.drop i)).size = 64) := hid_ (fun i hi => by rw [bv_size]; simp [HFL.out, HXL.out]; omega)
           have HF9 := hid_ ((bv_size F).trans hFl)
           have HFO := hid_ (bv_one F)
           clear hF hFl HZk
           go_wp2_with fail
           go_loopw [292] (fun iv wr => ∃ i : Nat, i ≤ 64 ∧ iv = .int .i64 (i : Int) ∧ RD w g3 g4 g7 g8 cb cq cz wr ∧ Blk wr g19 30 (bv (F.take i ++ X.drop i))) (fun iv _ => 64 - (intOf iv).toNat)
           case atStart => exact ⟨0, by omega, rfl, hR9, by simpa using h199⟩
           case round =>
            obtain ⟨i, hi, rfl, hR, h19⟩ := hrel
            by_cases hlt : i < 64
            ·have hiF : i < F.length := by rw [HFL.out]; exact hlt
             have hiX : i < X.length := by rw [HXL.out]; exact hlt
             have hms := mix_set F X i hiF hiX
             have HCL := hid_ (fun W => clamp_any X[i] (-40000) 40000 W)
             rw [← HFX.out i hiF hiX] at HCL
             have hcell : wr.cell? ⟨g19, i, none⟩ = some (.int .i64 X[i]) := by
              rw [h19.cell i]
              have e : (F.take i ++ X.drop i)[i]? = some X[i] := by
               rw [List.getElem?_append_right (by simp [HFL.out]; omega)]
               simp [HFL.out, show min i 64 = i by omega]
              unfold bv ints
              rw [List.getElem?_toArray, List.getElem?_map, e]
              rfl
             have HMS := hid_ hms
             have HCELL := hid_ hcell
             generalize F[i] = z9 at *
             generalize X[i] = x9 at *
             clear hms hcell
             go_wp2_with (first
              | ((with_reducible apply gS 297); refine wl_run rfl (.pointer (some ⟨g19, i, none⟩)) (ex_ixArr0 Tryz.underlying30 sizeI rfl (i := i) rfl rfl hlt) ?_)
              | ((with_reducible apply gS 298); refine wl_read rfl (.int .i64 x9) (ex_loadI rfl rfl HCELL.out) ?_)
              | (go_at_call 31; (with_reducible refine (HCL.out _).mono ?_); rintro e wt ⟨rfl, rfl⟩)
              | ((with_reducible apply gS 300); refine wl_run rfl (.pointer (some ⟨g19, i, none⟩)) (ex_ixArr0 Tryz.underlying30 sizeI rfl (i := i) rfl rfl hlt) ?_)
              | ((with_reducible apply gT 300 299); refine wl_storeI rfl (.tmp 300) (.tmp 299) rfl g19 i z9 rfl rfl h19 (by rw [HSQ.out i hi]; exact hlt) ?_))
             have h199 := h19.set_ i (.int .i64 z9)
             rw [bv_set, HMS.out] at h199
             have hu9 : Upd (fun x => x = g19) wr (wr.setCell ⟨g19, i, none⟩ (.int .i64 z9)) := Upd.setCell (S := fun x => x = g19) (Upd.refl (fun x => x = g19) wr) (p := ⟨g19, i, none⟩) rfl (.int .i64 z9)
             have hR9 := hR.upd hu9 hor.out hor19
             generalize wr.setCell ⟨g19, i, none⟩ (.int .i64 z9) = W9 at *
             go_wp2_with fail
             go_roundw
             case rel => exact ⟨i + 1, by omega, by go_num, hR9, h199⟩
             case measure => simp [intOf]; omega
            ·obtain rfl : i = 64 := by omega
             have e9 : F.take 64 ++ X.drop 64 = F := by
              rw [List.take_of_length_le (by rw [HFL.out]; omega), List.drop_eq_nil_of_le (by rw [HXL.out]; omega), List.append_nil]
             rw [e9] at h19
             go_upto_region 74 with fail
             try simp only [Act.put, sA, sB, sC]
             have ho := hor.out
             have hRq := RD.ext hR ((Ext.refl wr).drew)
             have h19q : Blk wr.drew g19 30 (bv F) := h19
             have hI0 : Blk wr.drew g3 30 cb ∧ Blk wr.drew g4 30 cq ∧ Blk wr.drew g19 30 (bv F) := ⟨hRq.b3, hRq.b4, h19q⟩
             refine wp_region_oi (fun V => Blk V g3 30 cb ∧ Blk V g4 30 cq ∧ Blk V g19 30 (bv F)) (by kernel_rfl) ?_
             refine oi_fix (k := 0) (by kernel_rfl) rfl (by rfl) (.agg (bv F)) (fun V hV => ex_loadBk rfl rfl hV.2.2 _ Tryz.underlying30 rfl 64 size48 HF9.out) hI0 ?_
             simp only [Act.put, sA, sB, sC]
             refine oi_fix (k := 1) (by kernel_rfl) rfl (by rfl) (.agg cq) (fun V hV => ex_loadBk rfl rfl hV.2.1 _ Tryz.underlying30 rfl 64 size48 hsq.out) hI0 ?_
             simp only [Act.put, sA, sB, sC]
             refine oi_run (k := 2) (by kernel_rfl) rfl (by rfl) (.int .i64 0) (ex_move rfl rfl) hI0 ?_
             simp only [Act.put, sA, sB, sC]
             refine oi_run (k := 3) (by kernel_rfl) rfl (by rfl) (.string ⟨#[111, 107]⟩) (ex_assign rfl rfl) hI0 ?_
             simp only [Act.put, sA, sB, sC]
             refine oi_loud (k := 4) (by kernel_rfl) rfl ?_
             refine wStB rfl 30 (.tmp 7) (.tmp 302) rfl g7 (bv F) rfl rfl hRq.b7 64 size48 HF9.out hz.out HFO.out ?_
             intro wF hb7 hgF
             have huF := upd_of_grown hgF
             have hRF := hRq.st7 hb7 hgF hor.out
             have hIF := And.intro (huF.blk hI0.1 (by omega)) (And.intro (huF.blk hI0.2.1 (by omega)) (huF.blk hI0.2.2 (by omega)))
             refine oi_end ⟨hIF, ?_⟩
             simp only [Act.put, sA, sB, sC]
             refine oi_loud (k := 5) (by kernel_rfl) rfl ?_
             refine wStB rfl 30 (.tmp 8) (.tmp 303) rfl g8 cq rfl rfl hRF.2.2 64 size48 hsq.out hz.out hoq.out ?_
             intro wG hb8 hgG
             have huG := upd_of_grown hgG
             have hRG := st8 hRF hb8 hgG hor.out
             have hIG := And.intro (huG.blk hIF.1 (by omega)) (And.intro (huG.blk hIF.2.1 (by omega)) (huG.blk hIF.2.2 (by omega)))
             refine oi_end ⟨hIG, ?_⟩
             simp only [Act.put, sA, sB, sC]
             refine oi_run (k := 6) (by kernel_rfl) rfl (by rfl) (.int .i64 0) (ex_assign rfl rfl) hIG ?_
             simp only [Act.put, sA, sB, sC]
             refine oi_done (by kernel_rfl) ?_
             go_wp2_with fail
             exact ret_mix rfl rfl g7 g8 rfl rfl hRG.2.1 hRG.2.2 _ Tryz.underlying30 rfl 64 size48 HF9.out hsq.out (by rw [HZ.out]; exact ok_is rfl HCQ.out hRG.1)
          ·rw [if_neg hE] at HZk
           have HZ := HZk
           have HEN := hid_ hE
           have hb2 : (E != 0) = true := by simpa using hE
           clear hE HZk
           go_wp2_with (first
            | ((with_reducible apply gS 287); refine wl_enter (by rfl) (run_callv (.tmp 285) _ _ rfl rfl goesBad #[.int .i64 E, .pointer (some ⟨g3, 0, none⟩), .pointer (some ⟨g4, 0, none⟩)] (by simp [Act.eval])) ?_; refine (HBAD.out E _ hR9).mono ?_; rintro _ wE ⟨rfl, hxE⟩; refine ⟨_, rfl, ?_⟩; have hRE := RD.ext hR9 hxE)
            | ((with_reducible apply gT 7 289); refine wStB rfl 30 (.tmp 7) (.tmp 289) rfl g7 cb rfl rfl hRE.b7 64 size48 hsb.out hz.out hob.out ?_; intro wF hb7 hgF; have hRF := hRE.st7 hb7 hgF hor.out)
            | ((with_reducible apply gT 8 290); refine wStB rfl 30 (.tmp 8) (.tmp 290) rfl g8 cq rfl rfl hRF.2.2 64 size48 hsq.out hz.out hoq.out ?_; intro wG hb8 hgG; have hRG := st8 hRF hb8 hgG hor.out))
           exact ret_mix rfl rfl g7 g8 rfl rfl hRG.2.1 hRG.2.2 _ Tryz.underlying30 rfl 64 size48 hsb.out hsq.out (by rw [HZ.out]; exact bad_is HEN.out HCB.out HCQ.out hRG.1)
         ·have HY2 := hid_ (ba_eq (HYX.out.trans hxk))
          have HCYk : Hid (∀ W, Ext wz W → W.cell? (ad.add (0 * 1)) = some (.string ⟨#[117, 112]⟩)) := hid_ (fun W h => by have e := HCYz.out W h; rw [HY2.out] at e; exact e)
          clear HCYz
          have HZk : Hid (Z = byZ (bothZ upF b q 2047) b q) := hid_ HZ.out
          clear HZ
          unfold byZ at HZk
          have HXL := hid_ (bothZ_len upF b q 2047 HS.out.1 HS.out.2.1)
          have HWW := HQ2
          generalize bothZ upF b q 2047 = RR at *
          obtain ⟨X, E⟩ := RR
          dsimp only at HXL HWW HZk
          have HX9 := hid_ ((bv_size X).trans HXL.out)
          have HXO := hid_ (bv_one X)
          clear HQ1 HQ2
          go_upto_region 67 with (first
           | ((with_reducible apply gS 101); refine wl_run rfl (.pointer (some (ad.add (0 * 1)))) (ex_ixSl Tryz.underlying22 sizeStr rfl (i := 0) rfl rfl (by omega)) ?_)
           | ((with_reducible apply gS 102); refine wl_read rfl (.string ⟨#[117, 112]⟩) (ex_loadS1 rfl rfl (HCYk.out _ (Ext.refl _))) ?_)
           | ((with_reducible apply gS 110); refine wl_run rfl (.bool false) (ex_eqS rfl rfl rfl (by rw [str_eq]; rfl)) ?_)
           | ((with_reducible apply gS 142); refine wl_run rfl (.bool false) (ex_eqS rfl rfl rfl (by rw [str_eq]; rfl)) ?_)
           | ((with_reducible apply gS 166); refine wl_run rfl (.bool false) (ex_eqS rfl rfl rfl (by rw [str_eq]; rfl)) ?_)
           | ((with_reducible apply gS 173); refine wl_run rfl (.bool false) (ex_eqS rfl rfl rfl (by rw [str_eq]; rfl)) ?_)
           | ((with_reducible apply gS 197); refine wl_run rfl (.bool false) (ex_eqS rfl rfl rfl (by rw [str_eq]; rfl)) ?_)
           | ((with_reducible apply gS 214); refine wl_run rfl (.bool false) (ex_eqS rfl rfl rfl (by rw [str_eq]; rfl)) ?_)
           | ((with_reducible apply gS 215); refine wl_run rfl (.bool false) (ex_eqS rfl rfl rfl (by rw [str_eq]; rfl)) ?_)
           | ((with_reducible apply gS 245); refine wl_run rfl (.bool false) (ex_eqS rfl rfl rfl (by rw [str_eq]; rfl)) ?_)
           | ((with_reducible apply gS 264); refine wl_run rfl (.bool false) (ex_eqS rfl rfl rfl (by rw [str_eq]; rfl)) ?_)
           | ((with_reducible apply gS 265); refine wl_run rfl (.bool false) (ex_eqS rfl rfl rfl (by rw [str_eq]; rfl)) ?_)
           | ((with_reducible apply gS 276); refine wl_run rfl (.bool false) (ex_eqS rfl rfl rfl (by rw [str_eq]; rfl)) ?_)
           | ((with_reducible apply gS 104); refine wLdB rfl 30 (.tmp 3) rfl g3 rfl hRz.b3 _ Tryz.underlying30 rfl 64 size48 hsb.out ?_)
           | ((with_reducible apply gS 105); refine wLdB rfl 30 (.tmp 4) rfl g4 rfl hRz.b4 _ Tryz.underlying30 rfl 64 size48 hsq.out ?_)
           | (go_at_call 30; (with_reducible refine (HWW.out _).mono ?_); rintro e wt ⟨rfl, hxt⟩; have hRt := hRz.ext hxt; have h19t := hb19.ext hxt)
           | ((with_reducible apply gT 19 107); refine wStB rfl 30 (.tmp 19) (.tmp 107) rfl g19 (bv X) rfl rfl h19t 64 size48 HX9.out hsb.out HXO.out ?_; intro W9 h199 hg9; have hR9 := hRt.upd (upd_of_grown hg9) hor.out hor19))
          by_cases hE : E = 0
          ·subst hE
           rw [if_pos rfl] at HZk
           obtain ⟨F, hF⟩ : ∃ F, (X.map fun z => clampZ z (-40000) 40000) = F := ⟨_, rfl⟩
           have HZ := HZk
           rw [hF] at HZ
           have hFl : F.length = 64 := by rw [← hF, List.length_map]; exact HXL.out
           have HFL := hid_ hFl
           have HFX : Hid (∀ i (h : i < F.length) (h2 : i < X.length), F[i] = clampZ X[i] (-40000) 40000) := hid_ (fun i h h2 => by subst hF; simp)
           have HSQ : Hid (∀ i, i ≤ 64 → (bv (F.take i ++ X.drop i)).size = 64) := hid_ (fun i hi => by rw [bv_size]; simp [HFL.out, HXL.out]; omega)
           have HF9 := hid_ ((bv_size F).trans hFl)
           have HFO := hid_ (bv_one F)
           clear hF hFl HZk
           go_wp2_with fail
           go_loopw [292] (fun iv wr => ∃ i : Nat, i ≤ 64 ∧ iv = .int .i64 (i : Int) ∧ RD w g3 g4 g7 g8 cb cq cz wr ∧ Blk wr g19 30 (bv (F.take i ++ X.drop i))) (fun iv _ => 64 - (intOf iv).toNat)
           case atStart => exact ⟨0, by omega, rfl, hR9, by simpa using h199⟩
           case round =>
            obtain ⟨i, hi, rfl, hR, h19⟩ := hrel
            by_cases hlt : i < 64
            ·have hiF : i < F.length := by rw [HFL.out]; exact hlt
             have hiX : i < X.length := by rw [HXL.out]; exact hlt
             have hms := mix_set F X i hiF hiX
             have HCL := hid_ (fun W => clamp_any X[i] (-40000) 40000 W)
             rw [← HFX.out i hiF hiX] at HCL
             have hcell : wr.cell? ⟨g19, i, none⟩ = some (.int .i64 X[i]) := by
              rw [h19.cell i]
              have e : (F.take i ++ X.drop i)[i]? = some X[i] := by
               rw [List.getElem?_append_right (by simp [HFL.out]; omega)]
               simp [HFL.out, show min i 64 = i by omega]
              unfold bv ints
              rw [List.getElem?_toArray, List.getElem?_map, e]
              rfl
             have HMS := hid_ hms
             have HCELL := hid_ hcell
             generalize F[i] = z9 at *
             generalize X[i] = x9 at *
             clear hms hcell
             go_wp2_with (first
              | ((with_reducible apply gS 297); refine wl_run rfl (.pointer (some ⟨g19, i, none⟩)) (ex_ixArr0 Tryz.underlying30 sizeI rfl (i := i) rfl rfl hlt) ?_)
              | ((with_reducible apply gS 298); refine wl_read rfl (.int .i64 x9) (ex_loadI rfl rfl HCELL.out) ?_)
              | (go_at_call 31; (with_reducible refine (HCL.out _).mono ?_); rintro e wt ⟨rfl, rfl⟩)
              | ((with_reducible apply gS 300); refine wl_run rfl (.pointer (some ⟨g19, i, none⟩)) (ex_ixArr0 Tryz.underlying30 sizeI rfl (i := i) rfl rfl hlt) ?_)
              | ((with_reducible apply gT 300 299); refine wl_storeI rfl (.tmp 300) (.tmp 299) rfl g19 i z9 rfl rfl h19 (by rw [HSQ.out i hi]; exact hlt) ?_))
             have h199 := h19.set_ i (.int .i64 z9)
             rw [bv_set, HMS.out] at h199
             have hu9 : Upd (fun x => x = g19) wr (wr.setCell ⟨g19, i, none⟩ (.int .i64 z9)) := Upd.setCell (S := fun x => x = g19) (Upd.refl (fun x => x = g19) wr) (p := ⟨g19, i, none⟩) rfl (.int .i64 z9)
             have hR9 := hR.upd hu9 hor.out hor19
             generalize wr.setCell ⟨g19, i, none⟩ (.int .i64 z9) = W9 at *
             go_wp2_with fail
             go_roundw
             case rel => exact ⟨i + 1, by omega, by go_num, hR9, h199⟩
             case measure => simp [intOf]; omega
            ·obtain rfl : i = 64 := by omega
             have e9 : F.take 64 ++ X.drop 64 = F := by
              rw [List.take_of_length_le (by rw [HFL.out]; omega), List.drop_eq_nil_of_le (by rw [HXL.out]; omega), List.append_nil]
             rw [e9] at h19
             go_upto_region 74 with fail
             try simp only [Act.put, sA, sB, sC]
             have ho := hor.out
             have hRq := RD.ext hR ((Ext.refl wr).drew)
             have h19q : Blk wr.drew g19 30 (bv F) := h19
             have hI0 : Blk wr.drew g3 30 cb ∧ Blk wr.drew g4 30 cq ∧ Blk wr.drew g19 30 (bv F) := ⟨hRq.b3, hRq.b4, h19q⟩
             refine wp_region_oi (fun V => Blk V g3 30 cb ∧ Blk V g4 30 cq ∧ Blk V g19 30 (bv F)) (by kernel_rfl) ?_
             refine oi_fix (k := 0) (by kernel_rfl) rfl (by rfl) (.agg (bv F)) (fun V hV => ex_loadBk rfl rfl hV.2.2 _ Tryz.underlying30 rfl 64 size48 HF9.out) hI0 ?_
             simp only [Act.put, sA, sB, sC]
             refine oi_fix (k := 1) (by kernel_rfl) rfl (by rfl) (.agg cq) (fun V hV => ex_loadBk rfl rfl hV.2.1 _ Tryz.underlying30 rfl 64 size48 hsq.out) hI0 ?_
             simp only [Act.put, sA, sB, sC]
             refine oi_run (k := 2) (by kernel_rfl) rfl (by rfl) (.int .i64 0) (ex_move rfl rfl) hI0 ?_
             simp only [Act.put, sA, sB, sC]
             refine oi_run (k := 3) (by kernel_rfl) rfl (by rfl) (.string ⟨#[111, 107]⟩) (ex_assign rfl rfl) hI0 ?_
             simp only [Act.put, sA, sB, sC]
             refine oi_loud (k := 4) (by kernel_rfl) rfl ?_
             refine wStB rfl 30 (.tmp 7) (.tmp 302) rfl g7 (bv F) rfl rfl hRq.b7 64 size48 HF9.out hz.out HFO.out ?_
             intro wF hb7 hgF
             have huF := upd_of_grown hgF
             have hRF := hRq.st7 hb7 hgF hor.out
             have hIF := And.intro (huF.blk hI0.1 (by omega)) (And.intro (huF.blk hI0.2.1 (by omega)) (huF.blk hI0.2.2 (by omega)))
             refine oi_end ⟨hIF, ?_⟩
             simp only [Act.put, sA, sB, sC]
             refine oi_loud (k := 5) (by kernel_rfl) rfl ?_
             refine wStB rfl 30 (.tmp 8) (.tmp 303) rfl g8 cq rfl rfl hRF.2.2 64 size48 hsq.out hz.out hoq.out ?_
             intro wG hb8 hgG
             have huG := upd_of_grown hgG
             have hRG := st8 hRF hb8 hgG hor.out
             have hIG := And.intro (huG.blk hIF.1 (by omega)) (And.intro (huG.blk hIF.2.1 (by omega)) (huG.blk hIF.2.2 (by omega)))
             refine oi_end ⟨hIG, ?_⟩
             simp only [Act.put, sA, sB, sC]
             refine oi_run (k := 6) (by kernel_rfl) rfl (by rfl) (.int .i64 0) (ex_assign rfl rfl) hIG ?_
             simp only [Act.put, sA, sB, sC]
             refine oi_done (by kernel_rfl) ?_
             go_wp2_with fail
             exact ret_mix rfl rfl g7 g8 rfl rfl hRG.2.1 hRG.2.2 _ Tryz.underlying30 rfl 64 size48 HF9.out hsq.out (by rw [HZ.out]; exact ok_is rfl HCQ.out hRG.1)
          ·rw [if_neg hE] at HZk
           have HZ := HZk
           have HEN := hid_ hE
           have hb2 : (E != 0) = true := by simpa using hE
           clear hE HZk
           go_wp2_with (first
            | ((with_reducible apply gS 287); refine wl_enter (by rfl) (run_callv (.tmp 285) _ _ rfl rfl goesBad #[.int .i64 E, .pointer (some ⟨g3, 0, none⟩), .pointer (some ⟨g4, 0, none⟩)] (by simp [Act.eval])) ?_; refine (HBAD.out E _ hR9).mono ?_; rintro _ wE ⟨rfl, hxE⟩; refine ⟨_, rfl, ?_⟩; have hRE := RD.ext hR9 hxE)
            | ((with_reducible apply gT 7 289); refine wStB rfl 30 (.tmp 7) (.tmp 289) rfl g7 cb rfl rfl hRE.b7 64 size48 hsb.out hz.out hob.out ?_; intro wF hb7 hgF; have hRF := hRE.st7 hb7 hgF hor.out)
            | ((with_reducible apply gT 8 290); refine wStB rfl 30 (.tmp 8) (.tmp 290) rfl g8 cq rfl rfl hRF.2.2 64 size48 hsq.out hz.out hoq.out ?_; intro wG hb8 hgG; have hRG := st8 hRF hb8 hgG hor.out))
           exact ret_mix rfl rfl g7 g8 rfl rfl hRG.2.1 hRG.2.2 _ Tryz.underlying30 rfl 64 size48 hsb.out hsq.out (by rw [HZ.out]; exact bad_is HEN.out HCB.out HCQ.out hRG.1)
         ·have HY2 := hid_ (ba_eq (HYX.out.trans hxk))
          have HCYk : Hid (∀ W, Ext wz W → W.cell? (ad.add (0 * 1)) = some (.string ⟨#[115, 105, 122, 101]⟩)) := hid_ (fun W h => by have e := HCYz.out W h; rw [HY2.out] at e; exact e)
          clear HCYz
          have hl1 : zs.length = 1 := by simp [okM, manyZ] at hok; rw [HZL.out]; omega
          obtain ⟨az, dz, hBz, hd1, hd2, hlz, hz0⟩ := sl_one hl1 (by rw [HZL.out]; exact hslz)
          injection hBz with e1 e2 e3
          subst e1 e2 e3
          have HZk : Hid (Z = sizeZ b q zs) := hid_ HZ.out
          clear HZ
          unfold sizeZ at HZk
          generalize zs.getD 0 0 = X at *
          have HZ := HZk
          have HSB := hid_ (fun W => rsizeBits_any X W)
          have HNUM := num_lit [(bitsZ X).1, (bitsZ X).2.1] (by simp) (bits_good X)
          obtain ⟨T, hT⟩ : ∃ T, toldZ [(bitsZ X).1, (bitsZ X).2.1] = T := ⟨_, rfl⟩
          rw [hT] at HNUM HZ
          clear hT HZk
          generalize (bitsZ X).1 = b1 at *
          generalize (bitsZ X).2.1 = b2 at *
          generalize (bitsZ X).2.2 = b3 at *
          have HZ0' := hid_ hz0
          clear hz0
          go_upto_region 49 with (first
           | ((with_reducible apply gS 101); refine wl_run rfl (.pointer (some (ad.add (0 * 1)))) (ex_ixSl Tryz.underlying22 sizeStr rfl (i := 0) rfl rfl (by omega)) ?_)
           | ((with_reducible apply gS 102); refine wl_read rfl (.string ⟨#[115, 105, 122, 101]⟩) (ex_loadS1 rfl rfl (HCYk.out _ (Ext.refl _))) ?_)
           | ((with_reducible apply gS 110); refine wl_run rfl (.bool false) (ex_eqS rfl rfl rfl (by rw [str_eq]; rfl)) ?_)
           | ((with_reducible apply gS 142); refine wl_run rfl (.bool false) (ex_eqS rfl rfl rfl (by rw [str_eq]; rfl)) ?_)
           | ((with_reducible apply gS 166); refine wl_run rfl (.bool false) (ex_eqS rfl rfl rfl (by rw [str_eq]; rfl)) ?_)
           | ((with_reducible apply gS 173); refine wl_run rfl (.bool false) (ex_eqS rfl rfl rfl (by rw [str_eq]; rfl)) ?_)
           | ((with_reducible apply gS 197); refine wl_run rfl (.bool true) (ex_eqS rfl rfl rfl (by rw [str_eq]; rfl)) ?_)
           | ((with_reducible apply gS 200); refine wl_run rfl (.pointer (some (az.add (0 * 1)))) (ex_ixSl Tryz.underlying47 sizeI rfl (i := 0) rfl rfl (by omega)) ?_)
           | ((with_reducible apply gS 201); refine wl_read rfl (.int .i64 X) (ex_loadI rfl rfl HZ0'.out) ?_)
           | (go_at_call 23; (with_reducible refine (HSB.out _).mono ?_); rintro e wt ⟨rfl, rfl⟩))
          try simp only [Act.put, sA, sB, sC]
          have ho := hor.out
          have hRq := RD.ext hRz ((Ext.refl wz).drew)
          have h19q : Blk wz.drew g19 30 cb := hb19
          have hI0 : Blk wz.drew g3 30 cb ∧ Blk wz.drew g4 30 cq ∧ Blk wz.drew g19 30 cb := ⟨hRq.b3, hRq.b4, h19q⟩
          refine wp_region_oi (fun V => Blk V g3 30 cb ∧ Blk V g4 30 cq ∧ Blk V g19 30 cb) (by kernel_rfl) ?_
          refine oi_run (k := 0) (by kernel_rfl) rfl (by rfl) (.int .i64 b1) (ex_move rfl rfl) hI0 ?_
          simp only [Act.put, sA, sB, sC]
          refine oi_run (k := 1) (by kernel_rfl) rfl (by rfl) (.int .i64 b2) (ex_move rfl rfl) hI0 ?_
          simp only [Act.put, sA, sB, sC]
          refine oi_fix (k := 4) (by kernel_rfl) rfl (by rfl) (.agg cb) (fun V hV => ex_loadBk rfl rfl hV.1 _ Tryz.underlying30 rfl 64 size48 hsb.out) hI0 ?_
          simp only [Act.put, sA, sB, sC]
          refine oi_fix (k := 5) (by kernel_rfl) rfl (by rfl) (.agg cq) (fun V hV => ex_loadBk rfl rfl hV.2.1 _ Tryz.underlying30 rfl 64 size48 hsq.out) hI0 ?_
          simp only [Act.put, sA, sB, sC]
          refine oi_run (k := 6) (by kernel_rfl) rfl (by rfl) (.int .i64 b3) (ex_move rfl rfl) hI0 ?_
          simp only [Act.put, sA, sB, sC]
          refine oi_loud (k := 2) (by kernel_rfl) rfl ?_
          refine lit2I rfl _ _ rfl (some 208) rfl b1 b2 rfl rfl ?_
          intro wva ga hsa hxva hga
          have hIa := And.intro (hI0.1.ext hxva) (And.intro (hI0.2.1.ext hxva) (hI0.2.2.ext hxva))
          have hRa := hRq.ext hxva
          refine oi_end ⟨hIa, ?_⟩
          simp only [Act.put, sA, sB, sC]
          refine oi_loud (k := 3) (by kernel_rfl) rfl ?_
          refine wl_enter (by rfl) (run_callv _ _ _ rfl rfl goesNumbers #[.slice (some ⟨ga, 0, none⟩) 2 2] (by simp [Act.eval])) ?_
          refine (HNUM.out _ 2 _ rfl hsa).mono ?_
          rintro _ wvb ⟨rfl, hxvb⟩
          have hIb := And.intro (hIa.1.ext hxvb) (And.intro (hIa.2.1.ext hxvb) (hIa.2.2.ext hxvb))
          have hRb := hRa.ext hxvb
          refine ⟨_, rfl, oi_end ⟨hIb, ?_⟩⟩
          simp only [Act.put, sA, sB, sC]
          refine oi_run (k := 7) (by kernel_rfl) rfl (by rfl) (.string ⟨T.toArray⟩) (ex_assign rfl rfl) hIb ?_
          simp only [Act.put, sA, sB, sC]
          refine oi_loud (k := 8) (by kernel_rfl) rfl ?_
          refine wStB rfl 30 (.tmp 7) (.tmp 210) rfl g7 cb rfl rfl hRb.b7 64 size48 hsb.out hz.out hob.out ?_
          intro wF hb7 hgF
          have huF := upd_of_grown hgF
          have hRF := hRb.st7 hb7 hgF hor.out
          have hIF := And.intro (huF.blk hIb.1 (by omega)) (And.intro (huF.blk hIb.2.1 (by omega)) (huF.blk hIb.2.2 (by omega)))
          refine oi_end ⟨hIF, ?_⟩
          simp only [Act.put, sA, sB, sC]
          refine oi_loud (k := 9) (by kernel_rfl) rfl ?_
          refine wStB rfl 30 (.tmp 8) (.tmp 211) rfl g8 cq rfl rfl hRF.2.2 64 size48 hsq.out hz.out hoq.out ?_
          intro wG hb8 hgG
          have huG := upd_of_grown hgG
          have hRG := st8 hRF hb8 hgG hor.out
          have hIG := And.intro (huG.blk hIF.1 (by omega)) (And.intro (huG.blk hIF.2.1 (by omega)) (huG.blk hIF.2.2 (by omega)))
          refine oi_end ⟨hIG, ?_⟩
          simp only [Act.put, sA, sB, sC]
          refine oi_run (k := 10) (by kernel_rfl) rfl (by rfl) (.int .i64 b3) (ex_assign rfl rfl) hIG ?_
          simp only [Act.put, sA, sB, sC]
          refine oi_done (by kernel_rfl) ?_
          go_wp2_with fail
          exact ret_mix rfl rfl g7 g8 rfl rfl hRG.2.1 hRG.2.2 _ Tryz.underlying30 rfl 64 size48 hsb.out hsq.out (by rw [HZ.out]; exact said_if HCB.out HCQ.out hRG.1)
         ·have HY2 := hid_ (ba_eq (HYX.out.trans hxk))
          have HCYk : Hid (∀ W, Ext wz W → W.cell? (ad.add (0 * 1)) = some (.string ⟨#[116, 105, 110, 116]⟩)) := hid_ (fun W h => by have e := HCYz.out W h; rw [HY2.out] at e; exact e)
          clear HCYz
          have hl3 : zs.length = 3 := by simp [okM, manyZ] at hok; rw [HZL.out]; omega
          obtain ⟨az, dz, hBz, hd1, hd2, hlz, hz0, hz1, hz2⟩ := sl_three hl3 (by rw [HZL.out]; exact hslz)
          injection hBz with e1 e2 e3
          subst e1 e2 e3
          have HZk : Hid (Z = tintZ toM b q zs) := hid_ HZ.out
          clear HZ
          unfold tintZ at HZk
          have HNUM := num_lit [(tint3 toM zs).1, (tint3 toM zs).2.1, (tint3 toM zs).2.2.1] (by simp) (tint_good toM zs)
          have HTC := hid_ (fun W => rtintTo_any (zs.getD 0 0) (zs.getD 1 0) (zs.getD 2 0) W)
          unfold tint3 at *
          have HZ := HZk
          obtain ⟨T, hT⟩ : ∃ T, toldZ [(threeZ toM [zs.getD 0 0, zs.getD 1 0, zs.getD 2 0]).1, (threeZ toM [zs.getD 0 0, zs.getD 1 0, zs.getD 2 0]).2.1, (threeZ toM [zs.getD 0 0, zs.getD 1 0, zs.getD 2 0]).2.2.1] = T := ⟨_, rfl⟩
          rw [hT] at HNUM HZ
          clear hT HZk
          generalize threeZ toM [zs.getD 0 0, zs.getD 1 0, zs.getD 2 0] = R3 at *
          obtain ⟨r1, r2, r3, r4⟩ := R3
          dsimp only at HNUM HTC HZ
          generalize zs.getD 0 0 = X at *
          generalize zs.getD 1 0 = Y at *
          generalize zs.getD 2 0 = V0 at *
          have HC0 := hid_ (fun W (h : Ext wz W) => (h.cell (p := az.add (0 * 1)) (by rw [block_of_add]; exact hlz)).trans hz0)
          have HC1 := hid_ (fun W (h : Ext wz W) => (h.cell (p := az.add (1 * 1)) (by rw [block_of_add]; exact hlz)).trans hz1)
          have HC2 := hid_ (fun W (h : Ext wz W) => (h.cell (p := az.add (2 * 1)) (by rw [block_of_add]; exact hlz)).trans hz2)
          clear hz0 hz1 hz2
          go_upto_region 55 with (first
           | ((with_reducible apply gS 101); refine wl_run rfl (.pointer (some (ad.add (0 * 1)))) (ex_ixSl Tryz.underlying22 sizeStr rfl (i := 0) rfl rfl (by omega)) ?_)
           | ((with_reducible apply gS 102); refine wl_read rfl (.string ⟨#[116, 105, 110, 116]⟩) (ex_loadS1 rfl rfl (HCYk.out _ (Ext.refl _))) ?_)
           | ((with_reducible apply gS 110); refine wl_run rfl (.bool false) (ex_eqS rfl rfl rfl (by rw [str_eq]; rfl)) ?_)
           | ((with_reducible apply gS 142); refine wl_run rfl (.bool false) (ex_eqS rfl rfl rfl (by rw [str_eq]; rfl)) ?_)
           | ((with_reducible apply gS 166); refine wl_run rfl (.bool false) (ex_eqS rfl rfl rfl (by rw [str_eq]; rfl)) ?_)
           | ((with_reducible apply gS 173); refine wl_run rfl (.bool false) (ex_eqS rfl rfl rfl (by rw [str_eq]; rfl)) ?_)
           | ((with_reducible apply gS 197); refine wl_run rfl (.bool false) (ex_eqS rfl rfl rfl (by rw [str_eq]; rfl)) ?_)
           | ((with_reducible apply gS 214); refine wl_run rfl (.bool true) (ex_eqS rfl rfl rfl (by rw [str_eq]; rfl)) ?_)
           | ((with_reducible apply gS 217); refine wl_run rfl (.pointer (some (ad.add (0 * 1)))) (ex_ixSl Tryz.underlying22 sizeStr rfl (i := 0) rfl rfl (by omega)) ?_)
           | ((with_reducible apply gS 218); refine wl_read rfl (.string ⟨#[116, 105, 110, 116]⟩) (ex_loadS1 rfl rfl (HCYk.out _ (Ext.refl _))) ?_)
           | ((with_reducible apply gS 219); refine wl_run rfl (.bool false) (ex_eqS rfl rfl rfl (by rw [str_eq]; rfl)) ?_))
          have hxq7 := (Ext.refl wz).drew
          try simp only [Act.put, sA, sB, sC]
          refine wp_region_lx later_ext (by kernel_rfl) (by kernel_rfl) ?_
          refine lx_run (by rfl) (.func (.func 24) #[] #[]) (ex_move rfl rfl) ?_
          simp only [Act.put, sA, sB, sC]
          refine lx_run (by rfl) (.slice (some az) 3 d) (ex_move rfl rfl) ?_
          simp only [Act.put, sA, sB, sC]
          refine lx_run (by rfl) (.pointer (some (az.add (0 * 1)))) (ex_ixSl Tryz.underlying47 sizeI rfl (i := 0) rfl rfl (by omega)) ?_
          simp only [Act.put, sA, sB, sC]
          refine lx_read (by rfl) (.int .i64 X) (fun W hW => ex_loadI rfl rfl (HC0.out W (hxq7.trans hW))) ?_
          simp only [Act.put, sA, sB, sC]
          refine lx_run (by rfl) (.slice (some az) 3 d) (ex_move rfl rfl) ?_
          simp only [Act.put, sA, sB, sC]
          refine lx_run (by rfl) (.pointer (some (az.add (1 * 1)))) (ex_ixSl Tryz.underlying47 sizeI rfl (i := 1) rfl rfl (by omega)) ?_
          simp only [Act.put, sA, sB, sC]
          refine lx_read (by rfl) (.int .i64 Y) (fun W hW => ex_loadI rfl rfl (HC1.out W (hxq7.trans hW))) ?_
          simp only [Act.put, sA, sB, sC]
          refine lx_run (by rfl) (.slice (some az) 3 d) (ex_move rfl rfl) ?_
          simp only [Act.put, sA, sB, sC]
          refine lx_run (by rfl) (.pointer (some (az.add (2 * 1)))) (ex_ixSl Tryz.underlying47 sizeI rfl (i := 2) rfl rfl (by omega)) ?_
          simp only [Act.put, sA, sB, sC]
          refine lx_read (by rfl) (.int .i64 V0) (fun W hW => ex_loadI rfl rfl (HC2.out W (hxq7.trans hW))) ?_
          simp only [Act.put, sA, sB, sC]
          refine lx_callVt (by rfl) (.tmp 221) #[.tmp 224, .tmp 227, .tmp 230] _ rfl rfl ⟨_, Tryz.func24, rfl, rfl⟩ #[.int .i64 X, .int .i64 Y, .int .i64 V0] (by simp [Act.eval]) (.tuple #[.int .i64 r1, .int .i64 r2, .int .i64 r3, .int .i64 r4]) (fun W hW => HTC.out W) ?_
          simp only [Act.put, sA, sB, sC]
          refine lx_run (by rfl) (.tuple #[.int .i64 r1, .int .i64 r2, .int .i64 r3, .int .i64 r4]) (ex_move rfl rfl) ?_
          simp only [Act.put, sA, sB, sC]
          refine lx_run (by rfl) (.int .i64 r1) (ex_extract rfl rfl rfl) ?_
          simp only [Act.put, sA, sB, sC]
          refine lx_run (by rfl) (.int .i64 r2) (ex_extract rfl rfl rfl) ?_
          simp only [Act.put, sA, sB, sC]
          refine lx_run (by rfl) (.int .i64 r3) (ex_extract rfl rfl rfl) ?_
          simp only [Act.put, sA, sB, sC]
          refine lx_run (by rfl) (.int .i64 r4) (ex_extract rfl rfl rfl) ?_
          simp only [Act.put, sA, sB, sC]
          refine lx_run (by rfl) (.int .i64 r1) (ex_assign rfl rfl) ?_
          simp only [Act.put, sA, sB, sC]
          refine lx_run (by rfl) (.int .i64 r2) (ex_assign rfl rfl) ?_
          simp only [Act.put, sA, sB, sC]
          refine lx_run (by rfl) (.int .i64 r3) (ex_assign rfl rfl) ?_
          simp only [Act.put, sA, sB, sC]
          refine lx_run (by rfl) (.int .i64 r4) (ex_assign rfl rfl) ?_
          simp only [Act.put, sA, sB, sC]
          refine lx_nil ?_
          intro W hW
          have hR8 := hRz.ext (hxq7.trans hW)
          have h198 := hb19.ext (hxq7.trans hW)
          go_upto_region 56 with fail
          try simp only [Act.put, sA, sB, sC]
          have ho := hor.out
          have hRq := RD.ext hR8 ((Ext.refl W).drew)
          have h19q : Blk W.drew g19 30 cb := h198
          have hI0 : Blk W.drew g3 30 cb ∧ Blk W.drew g4 30 cq ∧ Blk W.drew g19 30 cb := ⟨hRq.b3, hRq.b4, h19q⟩
          refine wp_region_oi (fun V => Blk V g3 30 cb ∧ Blk V g4 30 cq ∧ Blk V g19 30 cb) (by kernel_rfl) ?_
          refine oi_run (k := 0) (by kernel_rfl) rfl (by rfl) (.int .i64 r1) (ex_move rfl rfl) hI0 ?_
          simp only [Act.put, sA, sB, sC]
          refine oi_run (k := 1) (by kernel_rfl) rfl (by rfl) (.int .i64 r2) (ex_move rfl rfl) hI0 ?_
          simp only [Act.put, sA, sB, sC]
          refine oi_run (k := 2) (by kernel_rfl) rfl (by rfl) (.int .i64 r3) (ex_move rfl rfl) hI0 ?_
          simp only [Act.put, sA, sB, sC]
          refine oi_fix (k := 5) (by kernel_rfl) rfl (by rfl) (.agg cb) (fun V hV => ex_loadBk rfl rfl hV.1 _ Tryz.underlying30 rfl 64 size48 hsb.out) hI0 ?_
          simp only [Act.put, sA, sB, sC]
          refine oi_fix (k := 6) (by kernel_rfl) rfl (by rfl) (.agg cq) (fun V hV => ex_loadBk rfl rfl hV.2.1 _ Tryz.underlying30 rfl 64 size48 hsq.out) hI0 ?_
          simp only [Act.put, sA, sB, sC]
          refine oi_run (k := 7) (by kernel_rfl) rfl (by rfl) (.int .i64 r4) (ex_move rfl rfl) hI0 ?_
          simp only [Act.put, sA, sB, sC]
          refine oi_loud (k := 3) (by kernel_rfl) rfl ?_
          refine lit3I rfl _ _ _ rfl (some 239) rfl r1 r2 r3 rfl rfl rfl ?_
          intro wva ga hsa hxva hga
          have hIa := And.intro (hI0.1.ext hxva) (And.intro (hI0.2.1.ext hxva) (hI0.2.2.ext hxva))
          have hRa := hRq.ext hxva
          refine oi_end ⟨hIa, ?_⟩
          simp only [Act.put, sA, sB, sC]
          refine oi_loud (k := 4) (by kernel_rfl) rfl ?_
          refine wl_enter (by rfl) (run_callv _ _ _ rfl rfl goesNumbers #[.slice (some ⟨ga, 0, none⟩) 3 3] (by simp [Act.eval])) ?_
          refine (HNUM.out _ 3 _ rfl hsa).mono ?_
          rintro _ wvb ⟨rfl, hxvb⟩
          have hIb := And.intro (hIa.1.ext hxvb) (And.intro (hIa.2.1.ext hxvb) (hIa.2.2.ext hxvb))
          have hRb := hRa.ext hxvb
          refine ⟨_, rfl, oi_end ⟨hIb, ?_⟩⟩
          simp only [Act.put, sA, sB, sC]
          refine oi_run (k := 8) (by kernel_rfl) rfl (by rfl) (.string ⟨T.toArray⟩) (ex_assign rfl rfl) hIb ?_
          simp only [Act.put, sA, sB, sC]
          refine oi_loud (k := 9) (by kernel_rfl) rfl ?_
          refine wStB rfl 30 (.tmp 7) (.tmp 241) rfl g7 cb rfl rfl hRb.b7 64 size48 hsb.out hz.out hob.out ?_
          intro wF hb7 hgF
          have huF := upd_of_grown hgF
          have hRF := hRb.st7 hb7 hgF hor.out
          have hIF := And.intro (huF.blk hIb.1 (by omega)) (And.intro (huF.blk hIb.2.1 (by omega)) (huF.blk hIb.2.2 (by omega)))
          refine oi_end ⟨hIF, ?_⟩
          simp only [Act.put, sA, sB, sC]
          refine oi_loud (k := 10) (by kernel_rfl) rfl ?_
          refine wStB rfl 30 (.tmp 8) (.tmp 242) rfl g8 cq rfl rfl hRF.2.2 64 size48 hsq.out hz.out hoq.out ?_
          intro wG hb8 hgG
          have huG := upd_of_grown hgG
          have hRG := st8 hRF hb8 hgG hor.out
          have hIG := And.intro (huG.blk hIF.1 (by omega)) (And.intro (huG.blk hIF.2.1 (by omega)) (huG.blk hIF.2.2 (by omega)))
          refine oi_end ⟨hIG, ?_⟩
          simp only [Act.put, sA, sB, sC]
          refine oi_run (k := 11) (by kernel_rfl) rfl (by rfl) (.int .i64 r4) (ex_assign rfl rfl) hIG ?_
          simp only [Act.put, sA, sB, sC]
          refine oi_done (by kernel_rfl) ?_
          go_wp2_with fail
          exact ret_mix rfl rfl g7 g8 rfl rfl hRG.2.1 hRG.2.2 _ Tryz.underlying30 rfl 64 size48 hsb.out hsq.out (by rw [HZ.out]; exact said_if HCB.out HCQ.out hRG.1)
         ·have HY2 := hid_ (ba_eq (HYX.out.trans hxk))
          have HCYk : Hid (∀ W, Ext wz W → W.cell? (ad.add (0 * 1)) = some (.string ⟨#[112, 108, 97, 105, 110]⟩)) := hid_ (fun W h => by have e := HCYz.out W h; rw [HY2.out] at e; exact e)
          clear HCYz
          have hl3 : zs.length = 3 := by simp [okM, manyZ] at hok; rw [HZL.out]; omega
          obtain ⟨az, dz, hBz, hd1, hd2, hlz, hz0, hz1, hz2⟩ := sl_three hl3 (by rw [HZL.out]; exact hslz)
          injection hBz with e1 e2 e3
          subst e1 e2 e3
          have HZk : Hid (Z = tintZ frM b q zs) := hid_ HZ.out
          clear HZ
          unfold tintZ at HZk
          have HNUM := num_lit [(tint3 frM zs).1, (tint3 frM zs).2.1, (tint3 frM zs).2.2.1] (by simp) (tint_good frM zs)
          have HTC := hid_ (fun W => rtintFrom_any (zs.getD 0 0) (zs.getD 1 0) (zs.getD 2 0) W)
          unfold tint3 at *
          have HZ := HZk
          obtain ⟨T, hT⟩ : ∃ T, toldZ [(threeZ frM [zs.getD 0 0, zs.getD 1 0, zs.getD 2 0]).1, (threeZ frM [zs.getD 0 0, zs.getD 1 0, zs.getD 2 0]).2.1, (threeZ frM [zs.getD 0 0, zs.getD 1 0, zs.getD 2 0]).2.2.1] = T := ⟨_, rfl⟩
          rw [hT] at HNUM HZ
          clear hT HZk
          generalize threeZ frM [zs.getD 0 0, zs.getD 1 0, zs.getD 2 0] = R3 at *
          obtain ⟨r1, r2, r3, r4⟩ := R3
          dsimp only at HNUM HTC HZ
          generalize zs.getD 0 0 = X at *
          generalize zs.getD 1 0 = Y at *
          generalize zs.getD 2 0 = V0 at *
          have HC0 := hid_ (fun W (h : Ext wz W) => (h.cell (p := az.add (0 * 1)) (by rw [block_of_add]; exact hlz)).trans hz0)
          have HC1 := hid_ (fun W (h : Ext wz W) => (h.cell (p := az.add (1 * 1)) (by rw [block_of_add]; exact hlz)).trans hz1)
          have HC2 := hid_ (fun W (h : Ext wz W) => (h.cell (p := az.add (2 * 1)) (by rw [block_of_add]; exact hlz)).trans hz2)
          clear hz0 hz1 hz2
          go_upto_region 55 with (first
           | ((with_reducible apply gS 101); refine wl_run rfl (.pointer (some (ad.add (0 * 1)))) (ex_ixSl Tryz.underlying22 sizeStr rfl (i := 0) rfl rfl (by omega)) ?_)
           | ((with_reducible apply gS 102); refine wl_read rfl (.string ⟨#[112, 108, 97, 105, 110]⟩) (ex_loadS1 rfl rfl (HCYk.out _ (Ext.refl _))) ?_)
           | ((with_reducible apply gS 110); refine wl_run rfl (.bool false) (ex_eqS rfl rfl rfl (by rw [str_eq]; rfl)) ?_)
           | ((with_reducible apply gS 142); refine wl_run rfl (.bool false) (ex_eqS rfl rfl rfl (by rw [str_eq]; rfl)) ?_)
           | ((with_reducible apply gS 166); refine wl_run rfl (.bool false) (ex_eqS rfl rfl rfl (by rw [str_eq]; rfl)) ?_)
           | ((with_reducible apply gS 173); refine wl_run rfl (.bool false) (ex_eqS rfl rfl rfl (by rw [str_eq]; rfl)) ?_)
           | ((with_reducible apply gS 197); refine wl_run rfl (.bool false) (ex_eqS rfl rfl rfl (by rw [str_eq]; rfl)) ?_)
           | ((with_reducible apply gS 214); refine wl_run rfl (.bool false) (ex_eqS rfl rfl rfl (by rw [str_eq]; rfl)) ?_)
           | ((with_reducible apply gS 215); refine wl_run rfl (.bool true) (ex_eqS rfl rfl rfl (by rw [str_eq]; rfl)) ?_)
           | ((with_reducible apply gS 217); refine wl_run rfl (.pointer (some (ad.add (0 * 1)))) (ex_ixSl Tryz.underlying22 sizeStr rfl (i := 0) rfl rfl (by omega)) ?_)
           | ((with_reducible apply gS 218); refine wl_read rfl (.string ⟨#[112, 108, 97, 105, 110]⟩) (ex_loadS1 rfl rfl (HCYk.out _ (Ext.refl _))) ?_)
           | ((with_reducible apply gS 219); refine wl_run rfl (.bool true) (ex_eqS rfl rfl rfl (by rw [str_eq]; rfl)) ?_))
          have hxq7 := (Ext.refl wz).drew
          try simp only [Act.put, sA, sB, sC]
          refine wp_region_lx later_ext (by kernel_rfl) (by kernel_rfl) ?_
          refine lx_run (by rfl) (.func (.func 25) #[] #[]) (ex_move rfl rfl) ?_
          simp only [Act.put, sA, sB, sC]
          refine lx_run (by rfl) (.slice (some az) 3 d) (ex_move rfl rfl) ?_
          simp only [Act.put, sA, sB, sC]
          refine lx_run (by rfl) (.pointer (some (az.add (0 * 1)))) (ex_ixSl Tryz.underlying47 sizeI rfl (i := 0) rfl rfl (by omega)) ?_
          simp only [Act.put, sA, sB, sC]
          refine lx_read (by rfl) (.int .i64 X) (fun W hW => ex_loadI rfl rfl (HC0.out W (hxq7.trans hW))) ?_
          simp only [Act.put, sA, sB, sC]
          refine lx_run (by rfl) (.slice (some az) 3 d) (ex_move rfl rfl) ?_
          simp only [Act.put, sA, sB, sC]
          refine lx_run (by rfl) (.pointer (some (az.add (1 * 1)))) (ex_ixSl Tryz.underlying47 sizeI rfl (i := 1) rfl rfl (by omega)) ?_
          simp only [Act.put, sA, sB, sC]
          refine lx_read (by rfl) (.int .i64 Y) (fun W hW => ex_loadI rfl rfl (HC1.out W (hxq7.trans hW))) ?_
          simp only [Act.put, sA, sB, sC]
          refine lx_run (by rfl) (.slice (some az) 3 d) (ex_move rfl rfl) ?_
          simp only [Act.put, sA, sB, sC]
          refine lx_run (by rfl) (.pointer (some (az.add (2 * 1)))) (ex_ixSl Tryz.underlying47 sizeI rfl (i := 2) rfl rfl (by omega)) ?_
          simp only [Act.put, sA, sB, sC]
          refine lx_read (by rfl) (.int .i64 V0) (fun W hW => ex_loadI rfl rfl (HC2.out W (hxq7.trans hW))) ?_
          simp only [Act.put, sA, sB, sC]
          refine lx_callVt (by rfl) (.tmp 221) #[.tmp 224, .tmp 227, .tmp 230] _ rfl rfl ⟨_, Tryz.func25, rfl, rfl⟩ #[.int .i64 X, .int .i64 Y, .int .i64 V0] (by simp [Act.eval]) (.tuple #[.int .i64 r1, .int .i64 r2, .int .i64 r3, .int .i64 r4]) (fun W hW => HTC.out W) ?_
          simp only [Act.put, sA, sB, sC]
          refine lx_run (by rfl) (.tuple #[.int .i64 r1, .int .i64 r2, .int .i64 r3, .int .i64 r4]) (ex_move rfl rfl) ?_
          simp only [Act.put, sA, sB, sC]
          refine lx_run (by rfl) (.int .i64 r1) (ex_extract rfl rfl rfl) ?_
          simp only [Act.put, sA, sB, sC]
          refine lx_run (by rfl) (.int .i64 r2) (ex_extract rfl rfl rfl) ?_
          simp only [Act.put, sA, sB, sC]
          refine lx_run (by rfl) (.int .i64 r3) (ex_extract rfl rfl rfl) ?_
          simp only [Act.put, sA, sB, sC]
          refine lx_run (by rfl) (.int .i64 r4) (ex_extract rfl rfl rfl) ?_
          simp only [Act.put, sA, sB, sC]
          refine lx_run (by rfl) (.int .i64 r1) (ex_assign rfl rfl) ?_
          simp only [Act.put, sA, sB, sC]
          refine lx_run (by rfl) (.int .i64 r2) (ex_assign rfl rfl) ?_
          simp only [Act.put, sA, sB, sC]
          refine lx_run (by rfl) (.int .i64 r3) (ex_assign rfl rfl) ?_
          simp only [Act.put, sA, sB, sC]
          refine lx_run (by rfl) (.int .i64 r4) (ex_assign rfl rfl) ?_
          simp only [Act.put, sA, sB, sC]
          refine lx_nil ?_
          intro W hW
          have hR8 := hRz.ext (hxq7.trans hW)
          have h198 := hb19.ext (hxq7.trans hW)
          go_upto_region 56 with fail
          try simp only [Act.put, sA, sB, sC]
          have ho := hor.out
          have hRq := RD.ext hR8 ((Ext.refl W).drew)
          have h19q : Blk W.drew g19 30 cb := h198
          have hI0 : Blk W.drew g3 30 cb ∧ Blk W.drew g4 30 cq ∧ Blk W.drew g19 30 cb := ⟨hRq.b3, hRq.b4, h19q⟩
          refine wp_region_oi (fun V => Blk V g3 30 cb ∧ Blk V g4 30 cq ∧ Blk V g19 30 cb) (by kernel_rfl) ?_
          refine oi_run (k := 0) (by kernel_rfl) rfl (by rfl) (.int .i64 r1) (ex_move rfl rfl) hI0 ?_
          simp only [Act.put, sA, sB, sC]
          refine oi_run (k := 1) (by kernel_rfl) rfl (by rfl) (.int .i64 r2) (ex_move rfl rfl) hI0 ?_
          simp only [Act.put, sA, sB, sC]
          refine oi_run (k := 2) (by kernel_rfl) rfl (by rfl) (.int .i64 r3) (ex_move rfl rfl) hI0 ?_
          simp only [Act.put, sA, sB, sC]
          refine oi_fix (k := 5) (by kernel_rfl) rfl (by rfl) (.agg cb) (fun V hV => ex_loadBk rfl rfl hV.1 _ Tryz.underlying30 rfl 64 size48 hsb.out) hI0 ?_
          simp only [Act.put, sA, sB, sC]
          refine oi_fix (k := 6) (by kernel_rfl) rfl (by rfl) (.agg cq) (fun V hV => ex_loadBk rfl rfl hV.2.1 _ Tryz.underlying30 rfl 64 size48 hsq.out) hI0 ?_
          simp only [Act.put, sA, sB, sC]
          refine oi_run (k := 7) (by kernel_rfl) rfl (by rfl) (.int .i64 r4) (ex_move rfl rfl) hI0 ?_
          simp only [Act.put, sA, sB, sC]
          refine oi_loud (k := 3) (by kernel_rfl) rfl ?_
          refine lit3I rfl _ _ _ rfl (some 239) rfl r1 r2 r3 rfl rfl rfl ?_
          intro wva ga hsa hxva hga
          have hIa := And.intro (hI0.1.ext hxva) (And.intro (hI0.2.1.ext hxva) (hI0.2.2.ext hxva))
          have hRa := hRq.ext hxva
          refine oi_end ⟨hIa, ?_⟩
          simp only [Act.put, sA, sB, sC]
          refine oi_loud (k := 4) (by kernel_rfl) rfl ?_
          refine wl_enter (by rfl) (run_callv _ _ _ rfl rfl goesNumbers #[.slice (some ⟨ga, 0, none⟩) 3 3] (by simp [Act.eval])) ?_
          refine (HNUM.out _ 3 _ rfl hsa).mono ?_
          rintro _ wvb ⟨rfl, hxvb⟩
          have hIb := And.intro (hIa.1.ext hxvb) (And.intro (hIa.2.1.ext hxvb) (hIa.2.2.ext hxvb))
          have hRb := hRa.ext hxvb
          refine ⟨_, rfl, oi_end ⟨hIb, ?_⟩⟩
          simp only [Act.put, sA, sB, sC]
          refine oi_run (k := 8) (by kernel_rfl) rfl (by rfl) (.string ⟨T.toArray⟩) (ex_assign rfl rfl) hIb ?_
          simp only [Act.put, sA, sB, sC]
          refine oi_loud (k := 9) (by kernel_rfl) rfl ?_
          refine wStB rfl 30 (.tmp 7) (.tmp 241) rfl g7 cb rfl rfl hRb.b7 64 size48 hsb.out hz.out hob.out ?_
          intro wF hb7 hgF
          have huF := upd_of_grown hgF
          have hRF := hRb.st7 hb7 hgF hor.out
          have hIF := And.intro (huF.blk hIb.1 (by omega)) (And.intro (huF.blk hIb.2.1 (by omega)) (huF.blk hIb.2.2 (by omega)))
          refine oi_end ⟨hIF, ?_⟩
          simp only [Act.put, sA, sB, sC]
          refine oi_loud (k := 10) (by kernel_rfl) rfl ?_
          refine wStB rfl 30 (.tmp 8) (.tmp 242) rfl g8 cq rfl rfl hRF.2.2 64 size48 hsq.out hz.out hoq.out ?_
          intro wG hb8 hgG
          have huG := upd_of_grown hgG
          have hRG := st8 hRF hb8 hgG hor.out
          have hIG := And.intro (huG.blk hIF.1 (by omega)) (And.intro (huG.blk hIF.2.1 (by omega)) (huG.blk hIF.2.2 (by omega)))
          refine oi_end ⟨hIG, ?_⟩
          simp only [Act.put, sA, sB, sC]
          refine oi_run (k := 11) (by kernel_rfl) rfl (by rfl) (.int .i64 r4) (ex_assign rfl rfl) hIG ?_
          simp only [Act.put, sA, sB, sC]
          refine oi_done (by kernel_rfl) ?_
          go_wp2_with fail
          exact ret_mix rfl rfl g7 g8 rfl rfl hRG.2.1 hRG.2.2 _ Tryz.underlying30 rfl 64 size48 hsb.out hsq.out (by rw [HZ.out]; exact said_if HCB.out HCQ.out hRG.1)
         ·have HY2 := hid_ (ba_eq (HYX.out.trans hxk))
          have HCYk : Hid (∀ W, Ext wz W → W.cell? (ad.add (0 * 1)) = some (.string ⟨#[98, 101, 115, 116]⟩)) := hid_ (fun W h => by have e := HCYz.out W h; rw [HY2.out] at e; exact e)
          clear HCYz
          have HZk : Hid (Z = bstZ b q zs) := hid_ HZ.out
          clear HZ
          unfold bstZ at HZk
          have HBC := hid_ (fun W (h : Ext wz W) => rbcheck_any zs (.slice B j d) W (by rw [HZL.out]; exact hslz.ext h))
          by_cases hbz : bcheckZ zs = 0
          ·rw [if_pos hbz] at HZk
           rw [hbz] at HBC
           have HZ := HZk
           rw [told_one] at HZ
           have HCO := hid_ (fun W (h : Ext wz W) => bestCost_any zs B j d HZL.out W (hslz.ext h) hbz)
           have HBO := hid_ (fun (ws : List Nat) (h1 : ws.Perm (0 :: BM.posN zs j)) (h2 : ws.Pairwise (· ≤ ·)) => BM.best_of (counts := zs) (by rw [HZL.out]; exact h1) h2)
           have HDI := hid_ (fun W => digits_any (BM.bestOf zs) (by have := BM.bestOf_bd hbz; omega) W)
           generalize BM.bestOf zs = BO at *
           clear HZk hbz
           go_upto_region 61 with (first
            | ((with_reducible apply gS 101); refine wl_run rfl (.pointer (some (ad.add (0 * 1)))) (ex_ixSl Tryz.underlying22 sizeStr rfl (i := 0) rfl rfl (by omega)) ?_)
            | ((with_reducible apply gS 102); refine wl_read rfl (.string ⟨#[98, 101, 115, 116]⟩) (ex_loadS1 rfl rfl (HCYk.out _ (Ext.refl _))) ?_)
            | ((with_reducible apply gS 110); refine wl_run rfl (.bool false) (ex_eqS rfl rfl rfl (by rw [str_eq]; rfl)) ?_)
            | ((with_reducible apply gS 142); refine wl_run rfl (.bool false) (ex_eqS rfl rfl rfl (by rw [str_eq]; rfl)) ?_)
            | ((with_reducible apply gS 166); refine wl_run rfl (.bool false) (ex_eqS rfl rfl rfl (by rw [str_eq]; rfl)) ?_)
            | ((with_reducible apply gS 173); refine wl_run rfl (.bool false) (ex_eqS rfl rfl rfl (by rw [str_eq]; rfl)) ?_)
            | ((with_reducible apply gS 197); refine wl_run rfl (.bool false) (ex_eqS rfl rfl rfl (by rw [str_eq]; rfl)) ?_)
            | ((with_reducible apply gS 214); refine wl_run rfl (.bool false) (ex_eqS rfl rfl rfl (by rw [str_eq]; rfl)) ?_)
            | ((with_reducible apply gS 215); refine wl_run rfl (.bool false) (ex_eqS rfl rfl rfl (by rw [str_eq]; rfl)) ?_)
            | ((with_reducible apply gS 245); refine wl_run rfl (.bool true) (ex_eqS rfl rfl rfl (by rw [str_eq]; rfl)) ?_)
            | (go_at_call 26; (with_reducible refine (HBC.out _ (Ext.refl _)).mono ?_); rintro e wt ⟨rfl, rfl⟩))
           try simp only [Act.put, sA, sB, sC]
           have ho := hor.out
           have hRq := RD.ext hRz ((Ext.refl wz).drew)
           have h19q : Blk wz.drew g19 30 cb := hb19
           have hI0 : Blk wz.drew g3 30 cb ∧ Blk wz.drew g4 30 cq ∧ Blk wz.drew g19 30 cb := ⟨hRq.b3, hRq.b4, h19q⟩
           refine wp_region_oi (fun V => Blk V g3 30 cb ∧ Blk V g4 30 cq ∧ Blk V g19 30 cb) (by kernel_rfl) ?_
           refine oi_run (k := 0) (by kernel_rfl) rfl (by rfl) (.slice B j d) (ex_move rfl rfl) hI0 ?_
           simp only [Act.put, sA, sB, sC]
           refine oi_fix (k := 3) (by kernel_rfl) rfl (by rfl) (.agg cb) (fun V hV => ex_loadBk rfl rfl hV.1 _ Tryz.underlying30 rfl 64 size48 hsb.out) hI0 ?_
           simp only [Act.put, sA, sB, sC]
           refine oi_fix (k := 4) (by kernel_rfl) rfl (by rfl) (.agg cq) (fun V hV => ex_loadBk rfl rfl hV.2.1 _ Tryz.underlying30 rfl 64 size48 hsq.out) hI0 ?_
           simp only [Act.put, sA, sB, sC]
           refine oi_run (k := 5) (by kernel_rfl) rfl (by rfl) (.int .i64 0) (ex_move rfl rfl) hI0 ?_
           simp only [Act.put, sA, sB, sC]
           refine oi_loud (k := 1) (by kernel_rfl) rfl ?_
           refine wl_enter (by rfl) (run_callv _ _ _ rfl rfl goesBestCost #[.slice B j d] (by simp [Act.eval])) ?_
           refine (HCO.out _ ((Ext.refl _).drew)).mono ?_
           rintro _ wva ⟨⟨ws, hw1, hw2, rfl⟩, hxva⟩
           rw [HBO.out ws hw1 hw2]
           have hIa := And.intro (hI0.1.ext hxva) (And.intro (hI0.2.1.ext hxva) (hI0.2.2.ext hxva))
           have hRa := hRq.ext hxva
           refine ⟨_, rfl, oi_end ⟨hIa, ?_⟩⟩
           simp only [Act.put, sA, sB, sC]
           refine oi_loud (k := 2) (by kernel_rfl) rfl ?_
           refine wl_enter (by rfl) (run_callv _ _ _ rfl rfl goesDigits #[.int .i64 BO] (by simp [Act.eval])) ?_
           refine (HDI.out _).mono ?_
           rintro _ wvb ⟨rfl, rfl⟩
           have hxvb := Ext.refl wva
           have hIb := And.intro (hIa.1.ext hxvb) (And.intro (hIa.2.1.ext hxvb) (hIa.2.2.ext hxvb))
           have hRb := hRa.ext hxvb
           refine ⟨_, rfl, oi_end ⟨hIb, ?_⟩⟩
           simp only [Act.put, sA, sB, sC]
           refine oi_run (k := 6) (by kernel_rfl) rfl (by rfl) (.string ⟨(Lib.itoa BO).toArray⟩) (ex_assign rfl rfl) hIb ?_
           simp only [Act.put, sA, sB, sC]
           refine oi_loud (k := 7) (by kernel_rfl) rfl ?_
           refine wStB rfl 30 (.tmp 7) (.tmp 260) rfl g7 cb rfl rfl hRb.b7 64 size48 hsb.out hz.out hob.out ?_
           intro wF hb7 hgF
           have huF := upd_of_grown hgF
           have hRF := hRb.st7 hb7 hgF hor.out
           have hIF := And.intro (huF.blk hIb.1 (by omega)) (And.intro (huF.blk hIb.2.1 (by omega)) (huF.blk hIb.2.2 (by omega)))
           refine oi_end ⟨hIF, ?_⟩
           simp only [Act.put, sA, sB, sC]
           refine oi_loud (k := 8) (by kernel_rfl) rfl ?_
           refine wStB rfl 30 (.tmp 8) (.tmp 261) rfl g8 cq rfl rfl hRF.2.2 64 size48 hsq.out hz.out hoq.out ?_
           intro wG hb8 hgG
           have huG := upd_of_grown hgG
           have hRG := st8 hRF hb8 hgG hor.out
           have hIG := And.intro (huG.blk hIF.1 (by omega)) (And.intro (huG.blk hIF.2.1 (by omega)) (huG.blk hIF.2.2 (by omega)))
           refine oi_end ⟨hIG, ?_⟩
           simp only [Act.put, sA, sB, sC]
           refine oi_run (k := 9) (by kernel_rfl) rfl (by rfl) (.int .i64 0) (ex_assign rfl rfl) hIG ?_
           simp only [Act.put, sA, sB, sC]
           refine oi_done (by kernel_rfl) ?_
           go_wp2_with fail
           exact ret_mix rfl rfl g7 g8 rfl rfl hRG.2.1 hRG.2.2 _ Tryz.underlying30 rfl 64 size48 hsb.out hsq.out (by rw [HZ.out]; exact ok_is HCB.out HCQ.out hRG.1)
          ·rw [if_neg hbz] at HZk
           have HZ := HZk
           have HBN := hid_ hbz
           have hb2 : (bcheckZ zs != 0) = true := by simpa using hbz
           generalize bcheckZ zs = E at *
           clear HZk hbz
           go_wp2_with (first
            | ((with_reducible apply gS 101); refine wl_run rfl (.pointer (some (ad.add (0 * 1)))) (ex_ixSl Tryz.underlying22 sizeStr rfl (i := 0) rfl rfl (by omega)) ?_)
            | ((with_reducible apply gS 102); refine wl_read rfl (.string ⟨#[98, 101, 115, 116]⟩) (ex_loadS1 rfl rfl (HCYk.out _ (Ext.refl _))) ?_)
            | ((with_reducible apply gS 110); refine wl_run rfl (.bool false) (ex_eqS rfl rfl rfl (by rw [str_eq]; rfl)) ?_)
            | ((with_reducible apply gS 142); refine wl_run rfl (.bool false) (ex_eqS rfl rfl rfl (by rw [str_eq]; rfl)) ?_)
            | ((with_reducible apply gS 166); refine wl_run rfl (.bool false) (ex_eqS rfl rfl rfl (by rw [str_eq]; rfl)) ?_)
            | ((with_reducible apply gS 173); refine wl_run rfl (.bool false) (ex_eqS rfl rfl rfl (by rw [str_eq]; rfl)) ?_)
            | ((with_reducible apply gS 197); refine wl_run rfl (.bool false) (ex_eqS rfl rfl rfl (by rw [str_eq]; rfl)) ?_)
            | ((with_reducible apply gS 214); refine wl_run rfl (.bool false) (ex_eqS rfl rfl rfl (by rw [str_eq]; rfl)) ?_)
            | ((with_reducible apply gS 215); refine wl_run rfl (.bool false) (ex_eqS rfl rfl rfl (by rw [str_eq]; rfl)) ?_)
            | ((with_reducible apply gS 245); refine wl_run rfl (.bool true) (ex_eqS rfl rfl rfl (by rw [str_eq]; rfl)) ?_)
            | (go_at_call 26; (with_reducible refine (HBC.out _ (Ext.refl _)).mono ?_); rintro e wt ⟨rfl, rfl⟩)
            | ((with_reducible apply gS 252); refine wl_enter (by rfl) (run_callv (.tmp 250) _ _ rfl rfl goesBad #[.int .i64 E, .pointer (some ⟨g3, 0, none⟩), .pointer (some ⟨g4, 0, none⟩)] (by simp [Act.eval])) ?_; refine (HBAD.out E _ hRz).mono ?_; rintro _ wE ⟨rfl, hxE⟩; refine ⟨_, rfl, ?_⟩; have hRE := RD.ext hRz hxE)
            | ((with_reducible apply gT 7 254); refine wStB rfl 30 (.tmp 7) (.tmp 254) rfl g7 cb rfl rfl hRE.b7 64 size48 hsb.out hz.out hob.out ?_; intro wF hb7 hgF; have hRF := hRE.st7 hb7 hgF hor.out)
            | ((with_reducible apply gT 8 255); refine wStB rfl 30 (.tmp 8) (.tmp 255) rfl g8 cq rfl rfl hRF.2.2 64 size48 hsq.out hz.out hoq.out ?_; intro wG hb8 hgG; have hRG := st8 hRF hb8 hgG hor.out))
           exact ret_mix rfl rfl g7 g8 rfl rfl hRG.2.1 hRG.2.2 _ Tryz.underlying30 rfl 64 size48 hsb.out hsq.out (by rw [HZ.out]; exact bad_is HBN.out HCB.out HCQ.out hRG.1)
end Go.Proofs.YtlhggcbpipmjhaaGreatDoor
