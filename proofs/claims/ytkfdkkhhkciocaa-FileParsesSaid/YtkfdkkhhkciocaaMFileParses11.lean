/- Contracts for the law FileParses, part 11: what the functions that it reaches answer, for all arguments that the theorems name. -/
import Derived.Test.YtkfdkkhhkciocaaMFileParses10
/- file.Pack: the good case. -/
namespace Go.Proofs.Ytkfdkkhhkciocaa
set_option linter.unusedVariables false
set_option linter.unusedSimpArgs false
open Go.RowKit
set_option maxRecDepth 20000 in
set_option maxHeartbeats 4000000 in
theorem pack_good (wd hi pt ev : Nat) (qs : List Int) (qn cn1 xn1 cn2 xn2 : List Nat) (s1 s2 : Value) (bs : List Nat) (A0 : Option Addr) (c0 : Nat) (w : World) (hq : qs.length = 64) (hqn : zto qs = natI qn) (hq8 : ∀ n ∈ qn, n < 256)
    (k1 : wd < 256) (k2 : hi < 256) (k3 : pt < 256) (k4 : ev < 256) (hl1 : cn1.length = 16) (hl2 : cn2.length = 16) (hc1 : ∀ n ∈ cn1, n ≤ 256) (hc2 : ∀ n ∈ cn2, n ≤ 256) (hx1 : ∀ n ∈ xn1, n < 256) (hx2 : ∀ n ∈ xn2, n < 256) (hy1 : xn1.length ≤ 256) (hy2 : xn2.length ≤ 256)
    (hs1 : SL w 1 s1 xn1.length (ints (natI xn1))) (hs2 : SL w 1 s2 xn2.length (ints (natI xn2))) (hsd : SL w 1 (.slice A0 bs.length c0) bs.length (bytesV bs)) (hbl : bs.length ≤ 90000)
    (o1 : (tblL (natI cn1) s1).toArray.all (·.oneCell') = true) (o2 : (tblL (natI cn2) s2).toArray.all (·.oneCell') = true)
    (HCHK : ∀ W, Ext w W → Calls Try.prog 17 #[.agg (fileL wd hi pt qs (tblL (natI cn1) s1) (tblL (natI cn2) s2) ev (.slice A0 bs.length c0)).toArray] W fun e W' => e = .returned (.int .i64 0) ∧ Ext W W') :
    Calls Try.prog 39 #[.agg (fileL wd hi pt qs (tblL (natI cn1) s1) (tblL (natI cn2) s2) ev (.slice A0 bs.length c0)).toArray] w fun e w' => ∃ A n c, e = .returned (.tuple #[.slice A n c, .int .i64 0]) ∧ n = (packN wd hi pt ev qn cn1 xn1 cn2 xn2 bs).length ∧ SL w' 1 (.slice A n c) n (bytesV (packN wd hi pt ev qn cn1 xn1 cn2 xn2 bs)) ∧ Ext w w' := by
  have t1l := tblL_len (natI cn1) s1 ((natI_len _).trans hl1)
  have t2l := tblL_len (natI cn2) s2 ((natI_len _).trans hl2)
  have HF := hid_ (fun W g (hb : Blk W g 45 (fileL wd hi pt qs (tblL (natI cn1) s1) (tblL (natI cn2) s2) ev (.slice A0 bs.length c0)).toArray) => fileB hb hq t1l t2l)
  have hfs := hid_ (fileL_len wd hi pt qs (tblL (natI cn1) s1) (tblL (natI cn2) s2) ev (.slice A0 bs.length c0) hq t1l t2l)
  have HCK := hid_ HCHK
  clear HCHK
  have HZT : Hid (∀ W, Calls Try.prog 79 #[.agg (ints qs).toArray] W fun e w' => e = .returned (.agg (bv (natI qn))) ∧ Ext W w') := hid_ (fun W => by have h := zto_any qs W hq; rw [hqn] at h; exact h)
  have hqn64 : qn.length = 64 := by have := zto_len qs; rw [hqn, natI_len] at this; exact this
  have HQA : Hid (∀ k (h : k < qn.length), (bv (natI qn))[k]? = some (.int .i64 ((qn[k] : Nat) : Int))) := hid_ (fun k h => by rw [show bv (natI qn) = (ints (natI qn)).toArray from rfl, List.getElem?_toArray]; exact natI_at h)
  have HQ8 := hid_ hq8
  have hbq := hid_ (bv_size (natI qn))
  clear hqn hq8
  have hql := hid_ ((ints_len qs).trans hq)
  have HB2 := hid_ (built2 _ _ t1l t2l)
  have HRT := hid_ (fun W g (hb : Blk W g 41 (tblL (natI cn1) s1 ++ tblL (natI cn2) s2).toArray) => range_two t1l hb)
  have hz17 : Hid ((ints (List.replicate 16 0) ++ [Value.slice none 0 0]).toArray.size = 17) := hid_ (by simp [ints])
  have HTB : Hid (∀ k, k < 2 → ∃ (cn xn : List Nat) (sl : Value), Hid (∀ W g, Blk W g 41 (tblL (natI cn1) s1 ++ tblL (natI cn2) s2).toArray → W.rangeAt g (0 + k * 17) (tblL (natI cn) sl)) ∧ Hid (cn.length = 16) ∧ Hid (∀ n ∈ cn, n ≤ 256) ∧ Hid (∀ n ∈ xn, n < 256) ∧ xn.length ≤ 256 ∧ SL w 1 sl xn.length (ints (natI xn)) ∧ Hid ((tblL (natI cn) sl).toArray.all (·.oneCell') = true) ∧
      Hid (([tabN cn1 xn1, tabN cn2 xn2].take (k + 1)).flatten = ([tabN cn1 xn1, tabN cn2 xn2].take k).flatten ++ tabN cn xn) ∧ ([tabN cn1 xn1, tabN cn2 xn2].take k).flatten.length ≤ 1000) := hid_ (fun k hk => by
    rcases (by omega : k = 0 ∨ k = 1) with rfl | rfl
    · exact ⟨cn1, xn1, s1, hid_ (fun W g hb => (range_two t1l hb).1), hid_ hl1, hid_ hc1, hid_ hx1, hy1, hs1, hid_ o1, hid_ (by simp), by simp⟩
    · exact ⟨cn2, xn2, s2, hid_ (fun W g hb => (range_two t1l hb).2), hid_ hl2, hid_ hc2, hid_ hx2, hy2, hs2, hid_ o2, hid_ (by simp), by simp [tabN_len]; omega⟩)
  have HLEN : Hid (∀ k, k ≤ 2 → ([tabN cn1 xn1, tabN cn2 xn2].take k).flatten.length ≤ 1000) := hid_ (fun k hk => by
    rcases (by omega : k = 0 ∨ k = 1 ∨ k = 2) with rfl | rfl | rfl <;> simp [tabN_len] <;> omega)
  have HPK : Hid (packN wd hi pt ev qn cn1 xn1 cn2 xn2 bs = [77, 90, wd, hi, pt, ev] ++ qn ++ ([tabN cn1 xn1, tabN cn2 xn2].take 2).flatten ++ bs) := hid_ (by simp [packN])
  have HBS := hid_ hbl
  generalize packN wd hi pt ev qn cn1 xn1 cn2 xn2 bs = PN at *
  generalize [tabN cn1 xn1, tabN cn2 xn2] = TT at *
  have hl17a : Hid ((tblL (natI cn1) s1).length = 17) := hid_ t1l
  have hl17b : Hid ((tblL (natI cn2) s2).length = 17) := hid_ t2l
  generalize tblL (natI cn1) s1 = t1 at *
  generalize tblL (natI cn2) s2 = t2 at *
  clear t1l t2l hc1 hc2 hx1 hx2 hl1 hl2 o1 o2
  generalize (fileL wd hi pt qs t1 t2 ev (.slice A0 bs.length c0)).toArray = fv at *
  have kc := fun (w : World) (C : Array Value) (n c : Nat) => Lib.run_convert_bytes_const (P := Try.prog) w 38 5 C n c Try.underlying38 Try.underlying5
  go_enter Try.func39, Try.ntmps39
  go_wp2_with (first
    | (refine wpList_box_abs rfl 45 (.tmp 0) rfl fv rfl ?_; intro w1 g hb1 hx1 hg)
    | (refine wpList_load_blk rfl 45 (.tmp 1) rfl _ rfl hb1 _ Try.underlying45 rfl 103 sizeFile hfs.out ?_)
    | (go_at_call 17; (with_reducible refine (HCK.out _ hx1).mono ?_); rintro e w2 ⟨rfl, hx2⟩; have hb2 := hb1.ext hx2; have hgl := hb2.lt; have hf2 := HF.out _ _ hb2; have d0 := hf2.c0; have d1 := hf2.c1; have d2 := hf2.c2; have d101 := hf2.c101; have hx12 := hx1.trans hx2)
    | (refine wl_run rfl (.int .u8 ((wd : Nat) : Int)) (ex_conv8 (n := wd) rfl rfl k1) ?_)
    | (refine wl_run rfl (.int .u8 ((hi : Nat) : Int)) (ex_conv8 (n := hi) rfl rfl k2) ?_)
    | (refine wl_run rfl (.int .u8 ((pt : Nat) : Int)) (ex_conv8 (n := pt) rfl rfl k3) ?_)
    | (refine wl_run rfl (.int .u8 ((ev : Nat) : Int)) (ex_conv8 (n := ev) rfl rfl k4) ?_)
    | (at_builtin; go_must (refine wpList_append_new elt_by rfl _ _ rfl 2 _ (bytesV [77, 90]) rfl rfl (mark_cells _ _ _) _ 4 (bytesV [wd, hi, pt, ev]) rfl (cells_sl' _ _ [.int .u8 (wd : Int), .int .u8 (hi : Int), .int .u8 (pt : Int), .int .u8 (ev : Int)] 4 _ (World.size_alloc _ _) rfl (by omega)) (byte_one _) (by omega) (by omega) (by omega) ?_); intro v3 w3 hown3' hx3'; have hx23 := (((Ext.refl w2).alloc _).alloc _).trans hx3'; have hb3 := hb2.ext hx23; have hf3 := HF.out _ _ hb3; have hx13 := hx12.trans hx23; have hown3 := own_base (B' := w.heap.size) hown3' (by have := hx12.size; simp; omega))
    | (go_at_call 79; (with_reducible refine (HZT.out _).mono ?_); rintro e w4 ⟨rfl, hx4⟩; have hb4 := hb3.ext hx4; have hown4 := own_keep hown3 hx4; have hx14 := hx13.trans hx4)
    | (refine wpList_load_mid rfl 24 (.tmp 35) rfl g 3 rfl (ints qs) _ hf3.q Try.underlying24 rfl (by rw [hql.out]; exact size48) ?_))
  have hgb : w.heap.size ≤ w.heap.size := Nat.le_refl _
  have hB0 := hx14.size
  have HHEAD : Hid (([77, 90, wd, hi, pt, ev] : List Nat).length = 6) := hid_ rfl
  generalize hHD : ([77, 90, wd, hi, pt, ev] : List Nat) = HD at *
  have hown4a : w4.ownsRow w.heap.size 5 1 v3 (6 + 0) (bytesV (HD ++ qn.take 0)) := by
    have h := hown4
    rw [List.take_zero, List.append_nil, ← hHD]
    first
      | exact h
      | simpa [bytesV] using h
  clear hHD
  clear hown4 hf3 hb3 hf2 hb2 hb1 d0 d1 d2 d101 HCK HZT
  go_loopw [5, 38] (fun v i wr => ∃ k : Nat, k ≤ 64 ∧ i = .int .i64 (k : Int) ∧ wr.ownsRow w.heap.size 5 1 v (6 + k) (bytesV (HD ++ qn.take k)) ∧ Blk wr g 45 fv ∧ Ext w wr) (fun _ i _ => 64 - (intOf i).toNat)
  case atStart => exact ⟨0, by omega, rfl, hown4a, hb4, hx14⟩
  case round =>
    clear hown4a hb4 hx14 hB0
    obtain ⟨k, hk, rfl, hown, hb, hx⟩ := hrel
    by_cases hlt : k < 64
    · have hkq : k < qn.length := by omega
      have hqk := HQ8.out qn[k] (List.getElem_mem hkq)
      have hqa := HQA.out k hkq
      have HN : Hid (qn.take (k + 1) = qn.take k ++ [qn[k]]) := hid_ (List.take_succ_eq_append_getElem hkq)
      have HQA1 := hid_ hqa
      clear hqa
      generalize qn[k] = q at *
      go_wp2_with (first
            | (refine wl_run rfl (.int .i64 ((q : Nat) : Int)) (ex_idx Try.underlying24 Try.underlying3 sizeI rfl rfl rfl hlt HQA1.out) ?_)
            | (refine wl_run rfl (.int .u8 ((q : Nat) : Int)) (ex_conv8 (n := q) rfl rfl hqk) ?_)
            | (at_builtin; go_must (refine wpList_append_slr elt_by rfl _ _ rfl w.heap.size _ _ _ rfl (hown.alloc _) _ 1 (bytesV [q]) rfl (cells_sl _ _ [.int .u8 ((q : Nat) : Int)] 1 rfl (by omega)) (byte_one _) (by omega) (by omega) (by have := hx.size; simp; omega) ?_); intro v' w9 hown9 hg9 ho9))
      go_roundw
      case rel =>
        refine ⟨k + 1, by omega, by go_num, ?_, (hb.alloc _).grown hg9 (own_blk hb hown (by decide)), ext_own' hx hown hg9⟩
        rw [HN.out, ← List.append_assoc, bytesV_app, ← Nat.add_assoc]
        exact hown9
      case measure => simp [intOf]; omega
    · have ek : k = 64 := by omega
      have hown0 : wr.ownsRow w.heap.size 5 1 u5 (70 + 0) (bytesV (HD ++ qn ++ (TT.take 0).flatten)) := by
        have h := hown
        rw [ek, List.take_of_length_le (by omega)] at h
        simpa using h
      have HQL : Hid ((HD ++ qn).length = 70) := hid_ (by rw [List.length_append, HHEAD.out, hqn64])
      generalize HD ++ qn = HQ at *
      clear hown ek HQA HQ8
      have hf := HF.out _ _ hb
      go_wp2_with (first
            | (refine wpList_load_mid rfl 41 (.tmp 48) rfl g 67 rfl t1 _ hf.ta Try.underlying41 rfl (by rw [hl17a.out]; exact sizeTbl) ?_)
            | (refine wpList_load_mid rfl 41 (.tmp 51) rfl g 84 rfl t2 _ hf.tb Try.underlying41 rfl (by rw [hl17b.out]; exact sizeTbl) ?_)
            | (refine Go.Great.wpList_buildSliceTo rfl 95 41 2 _ rfl _ rfl (some 53) rfl Try.underlying95 _ (by simp [Act.eval]; exact HB2.out) ?_))
      have hbn := Blk.new wr 41 (t1 ++ t2).toArray
      have hb1 := hb.alloc (.cells (t1 ++ t2).toArray 41)
      have hx1 := hx.alloc (.cells (t1 ++ t2).toArray 41)
      have hown1 := hown0.alloc (.cells (t1 ++ t2).toArray 41)
      clear hf hb hx hown0
      generalize wr.alloc (.cells (t1 ++ t2).toArray 41) = wq at *
      generalize wr.heap.size = gt at *
      go_loopw [5, 55] (fun v i w5 => ∃ k m : Nat, k ≤ 2 ∧ Hid (m = 70 + (TT.take k).flatten.length) ∧ m ≤ 2000 ∧ i = .int .i64 (k : Int) ∧ w5.ownsRow w.heap.size 5 1 v m (bytesV (HQ ++ (TT.take k).flatten)) ∧ Blk w5 g 45 fv ∧ Blk w5 gt 41 (t1 ++ t2).toArray ∧ Ext w w5) (fun _ i _ => 2 - (intOf i).toNat)
      case atStart => exact ⟨0, 70, by omega, hid_ (by simp), by omega, rfl, hown1, hb1, hbn, hx1⟩
      case round =>
        clear hb1 hx1 hown1 hbn
        obtain ⟨k, m, hk, HM, hm2, rfl, hown, hb, hbn, hx⟩ := hrel
        by_cases hlt : k < 2
        · obtain ⟨cn, xn, sl, HTV, HCL, HC6, HX6, hxl, hsl, HTVE, HNX, hfl⟩ := HTB.out k hlt
          have HFL : Hid (m ≤ 1070) := hid_ (by rw [HM.out]; omega)
          have hm1 := HFL.out
          have hsx := hsl.ext hx
          have hsl' := hsl
          obtain ⟨B, d, rfl, hd1, hd2, -, -⟩ := hsl'
          have hr := HTV.out _ _ hbn
          go_wp2_with (first
            | (refine wl_run rfl (.pointer (some ⟨gt, 0 + k * 17, none⟩)) (ex_ixSlG Try.underlying95 sizeTbl rfl rfl rfl hlt) ?_)
            | (refine wpList_load_mid rfl 41 (.tmp 57) rfl gt (0 + k * 17) rfl (tblL (natI cn) (.slice B xn.length d)) _ hr Try.underlying41 rfl (by rw [tblL_len _ _ ((natI_len _).trans HCL.out)]; exact sizeTbl) ?_)
            | (refine wpList_alloc_abs' rfl (some 9) rfl 41 rfl _ zeroTbl ?_; intro w4 ga hba4 hx4 hga)
            | (refine wpList_store_blk rfl 41 (.tmp 9) (.tmp 58) rfl _ _ rfl rfl hba4 17 sizeTbl (by simpa using tblL_len (natI cn) (.slice B xn.length d) ((natI_len _).trans HCL.out)) hz17.out HTVE.out ?_; intro w5 hba5 hg5; have hx45 := hx4.grown hg5 hga; have hx5 := hx.trans hx45; have hb5 := hb.ext hx45; have hown5 := own_keep hown hx45; have hbn5 := hbn.ext hx45)
            | (refine wpList_load_mid rfl 39 (.tmp 59) rfl ga 0 rfl (ints (natI cn)) _ (tblv_range hba5) Try.underlying39 rfl (by rw [ints_len, natI_len, HCL.out]; exact size16) ?_))
          have hgl5 := hba5.lt
          have hown50 : w5.ownsRow w.heap.size 5 1 u5 (m + 2 * 0) (bytesV (HQ ++ (TT.take k).flatten ++ (cn.take 0).flatMap (fun n => [n / 256, n % 256]))) := by simpa using hown5
          have hclen := HCL.out
          clear hown hb hx hx4 hba4 hg5 hown5 hbn hr
          have hbt5 : Blk w5 ga 41 (tblv (natI cn) (.slice B xn.length d)) := hba5
          clear hba5
          go_loopw [5, 61] (fun v i wr => ∃ j : Nat, j ≤ 16 ∧ i = .int .i64 (j : Int) ∧ wr.ownsRow w.heap.size 5 1 v (m + 2 * j) (bytesV (HQ ++ (TT.take k).flatten ++ (cn.take j).flatMap (fun n => [n / 256, n % 256]))) ∧ Blk wr g 45 fv ∧ Blk wr gt 41 (t1 ++ t2).toArray ∧ Blk wr ga 41 (tblv (natI cn) (.slice B xn.length d)) ∧ Ext w wr) (fun _ i _ => 16 - (intOf i).toNat)
          case atStart => exact ⟨0, by omega, rfl, hown50, hb5, hbn5, hbt5, hx5⟩
          case round =>
            clear hown50 hb5 hbt5 hx5 hx45 hbn5
            obtain ⟨j, hj, rfl, hown, hb, hbn, hbt, hx⟩ := hrel
            by_cases hltj : j < 16
            · have hjc : j < cn.length := by omega
              have hc6 := HC6.out cn[j] (List.getElem_mem hjc)
              have HCA : Hid ((ints (natI cn)).toArray[j]? = some (.int .i64 ((cn[j] : Nat) : Int))) := hid_ (by rw [List.getElem?_toArray]; exact natI_at hjc)
              have HN := hid_ (flat2_snoc cn j hjc)
              generalize cn[j] = c at *
              have hc1 : c / 256 < 256 := by omega
              have hc2 : c % 256 < 256 := by omega
              go_wp2_with (first
            | (refine wl_run rfl (.int .i64 ((c : Nat) : Int)) (ex_idx Try.underlying39 Try.underlying3 sizeI rfl rfl rfl hltj HCA.out) ?_)
            | (refine wl_run rfl (.int .i64 ((c / 256 : Nat) : Int)) (ex_shr8 (n := c) rfl rfl rfl) ?_)
            | (refine wl_run rfl (.int .u8 ((c / 256 : Nat) : Int)) (ex_conv8 (n := c / 256) rfl rfl hc1) ?_)
            | (refine wl_run rfl (.int .u8 ((c % 256 : Nat) : Int)) (ex_conv8m (n := c) rfl rfl) ?_)
            | (at_builtin; go_must (refine wpList_append_slr elt_by rfl _ _ rfl w.heap.size _ _ _ rfl (hown.alloc _) _ 2 (bytesV [c / 256, c % 256]) rfl (cells_sl _ _ [.int .u8 ((c / 256 : Nat) : Int), .int .u8 ((c % 256 : Nat) : Int)] 2 rfl (by omega)) (byte_one _) (by omega) (by omega) (by have := hx.size; simp; omega) ?_); intro v' w9 hown9 hg9 ho9))
              go_roundw
              case rel =>
                refine ⟨j + 1, by omega, by go_num, ?_, (hb.alloc _).grown hg9 (own_blk hb hown (by decide)), (hbn.alloc _).grown hg9 (own_blk hbn hown (by decide)), (hbt.alloc _).grown hg9 (own_blk hbt hown (by decide)), ext_own' hx hown hg9⟩
                rw [HN.out, ← List.append_assoc, bytesV_app, show m + 2 * (j + 1) = m + 2 * j + 2 by omega]
                exact hown9
              case measure => simp [intOf]; omega
            · have ej : j = 16 := by omega
              rw [ej, show cn.take 16 = cn from List.take_of_length_le (by omega)] at hown
              have hcl := tblv_last hbt ((natI_len _).trans HCL.out)
              have hown00 : wr.ownsRow w.heap.size 5 1 u5 (m + 32 + 0) (bytesV (HQ ++ (TT.take k).flatten ++ cn.flatMap (fun n => [n / 256, n % 256]) ++ xn.take 0)) := by simpa using hown
              clear hown ej
              go_wp2_with fail
              go_loopw [5, 76] (fun v i wr => ∃ j : Nat, j ≤ xn.length ∧ i = .int .i64 (j : Int) ∧ wr.ownsRow w.heap.size 5 1 v (m + 32 + j) (bytesV (HQ ++ (TT.take k).flatten ++ cn.flatMap (fun n => [n / 256, n % 256]) ++ xn.take j)) ∧ Blk wr g 45 fv ∧ Blk wr gt 41 (t1 ++ t2).toArray ∧ Ext w wr) (fun _ i _ => xn.length - (intOf i).toNat)
              case atStart => exact ⟨0, by omega, rfl, hown00, hb, hbn, hx⟩
              case round =>
                clear hown00 hb hbt hx hcl hbn
                obtain ⟨j, hj, rfl, hown, hb, hbn, hx⟩ := hrel
                by_cases hltx : j < xn.length
                · have hsn : SL wr 1 (.slice B xn.length d) xn.length (ints (natI xn)) := by have := hsl.ext hx; exact this
                  obtain ⟨ad, u, had, hab, hux, hcell⟩ := hsn.at1 hltx
                  rw [natI_at hltx] at hux
                  injection hux with hux
                  subst hux
                  subst had
                  have hx6 := HX6.out xn[j] (List.getElem_mem hltx)
                  have HN : Hid (xn.take (j + 1) = xn.take j ++ [xn[j]]) := hid_ (List.take_succ_eq_append_getElem hltx)
                  generalize xn[j] = x at *
                  go_wp2_with (first
            | (refine wl_run rfl (.int .u8 ((x : Nat) : Int)) (ex_conv8 (n := x) rfl rfl hx6) ?_)
            | (at_builtin; go_must (refine wpList_append_slr elt_by rfl _ _ rfl w.heap.size _ _ _ rfl (hown.alloc _) _ 1 (bytesV [x]) rfl (cells_sl _ _ [.int .u8 ((x : Nat) : Int)] 1 rfl (by omega)) (byte_one _) (by omega) (by omega) (by have := hx.size; simp; omega) ?_); intro v' w9 hown9 hg9 ho9))
                  go_roundw
                  case rel =>
                    refine ⟨j + 1, by omega, by go_num, ?_, (hb.alloc _).grown hg9 (own_blk hb hown (by decide)), (hbn.alloc _).grown hg9 (own_blk hbn hown (by decide)), ext_own' hx hown hg9⟩
                    rw [HN.out, ← List.append_assoc, bytesV_app, ← Nat.add_assoc]
                    exact hown9
                  case measure => simp [intOf]; omega
                · have ej : j = xn.length := by omega
                  rw [ej, List.take_length] at hown
                  clear ej
                  go_wp2_with fail
                  go_roundw
                  case rel =>
                    refine ⟨k + 1, m + 32 + xn.length, by omega, hid_ ?_, by omega, by go_num, ?_, hb, hbn, hx⟩
                    · rw [HNX.out, List.length_append, tabN_len, HM.out, HCL.out]; omega
                    · rw [HNX.out]; unfold tabN; rw [← List.append_assoc, ← List.append_assoc]; exact hown
                  case measure => simp [intOf]; omega
        · have ek : k = 2 := by omega
          have hf := HF.out _ _ hb
          have c102 := hf.c102
          have hsn := hsd.ext hx
          go_wp2_with (at_builtin; go_must (refine wpList_append_slr elt_by rfl _ _ rfl w.heap.size _ _ _ rfl hown _ bs.length (bytesV bs) rfl hsn (byte_one bs) (by omega) (by omega) (by have := hx.size; omega) ?_); intro v' w9 hown9 hg9 ho9)
          go_ret2
          obtain ⟨A', c', rfl, hsl, hfs⟩ := own_form hown9
          refine ⟨A', m + bs.length, c', rfl, ?_, ?_, ext_own hx hown hg9⟩
          · rw [HPK.out, HM.out, ek]; simp only [List.length_append, HQL.out]
          · rw [HPK.out, bytesV_app, ← ek]; exact hsl
end Go.Proofs.Ytkfdkkhhkciocaa
/- R.FilePack: the good case. -/
namespace Go.Proofs.Ytkfdkkhhkciocaa
set_option linter.unusedVariables false
set_option linter.unusedSimpArgs false
open Go.RowKit
set_option maxRecDepth 20000 in
set_option maxHeartbeats 4000000 in
theorem rpack_good (wd hi pt ev : Nat) (qs : List Int) (qn cn1 xn1 cn2 xn2 : List Nat) (s1 s2 : Value) (bs : List Nat) (A0 : Option Addr) (c0 : Nat) (w : World) (hq : qs.length = 64) (hqn : zto qs = natI qn) (hq8 : ∀ n ∈ qn, n < 256)
    (k1 : wd < 256) (k2 : hi < 256) (k3 : pt < 256) (k4 : ev < 256) (hl1 : cn1.length = 16) (hl2 : cn2.length = 16) (hc1 : ∀ n ∈ cn1, n ≤ 256) (hc2 : ∀ n ∈ cn2, n ≤ 256) (hx1 : ∀ n ∈ xn1, n < 256) (hx2 : ∀ n ∈ xn2, n < 256) (hy1 : xn1.length ≤ 256) (hy2 : xn2.length ≤ 256)
    (hs1 : SL w 1 s1 xn1.length (ints (natI xn1))) (hs2 : SL w 1 s2 xn2.length (ints (natI xn2))) (hsd : SL w 1 (.slice A0 bs.length c0) bs.length (bytesV bs)) (hbl : bs.length ≤ 90000)
    (o1 : (tblL (natI cn1) s1).toArray.all (·.oneCell') = true) (o2 : (tblL (natI cn2) s2).toArray.all (·.oneCell') = true)
    (HCHK : ∀ W, Ext w W → Calls Try.prog 80 #[.agg (fileL wd hi pt qs (tblL (natI cn1) s1) (tblL (natI cn2) s2) ev (.slice A0 bs.length c0)).toArray] W fun e W' => e = .returned (.int .i64 0) ∧ Ext W W') :
    Calls Try.prog 43 #[.agg (fileL wd hi pt qs (tblL (natI cn1) s1) (tblL (natI cn2) s2) ev (.slice A0 bs.length c0)).toArray] w fun e w' => ∃ A n c, e = .returned (.tuple #[.slice A n c, .int .i64 0]) ∧ n = (packN wd hi pt ev qn cn1 xn1 cn2 xn2 bs).length ∧ SL w' 1 (.slice A n c) n (bytesV (packN wd hi pt ev qn cn1 xn1 cn2 xn2 bs)) ∧ Ext w w' := by
  have t1l := tblL_len (natI cn1) s1 ((natI_len _).trans hl1)
  have t2l := tblL_len (natI cn2) s2 ((natI_len _).trans hl2)
  have HF := hid_ (fun W g (hb : Blk W g 45 (fileL wd hi pt qs (tblL (natI cn1) s1) (tblL (natI cn2) s2) ev (.slice A0 bs.length c0)).toArray) => fileB hb hq t1l t2l)
  have hfs := hid_ (fileL_len wd hi pt qs (tblL (natI cn1) s1) (tblL (natI cn2) s2) ev (.slice A0 bs.length c0) hq t1l t2l)
  have HCK := hid_ HCHK
  clear HCHK
  have HZT : Hid (∀ W, Calls Try.prog 76 #[.agg (ints qs).toArray] W fun e w' => e = .returned (.agg (bv (natI qn))) ∧ Ext W w') := hid_ (fun W => by have h := rzto_any qs W hq; rw [hqn] at h; exact h)
  have hqn64 : qn.length = 64 := by have := zto_len qs; rw [hqn, natI_len] at this; exact this
  have HQA : Hid (∀ k (h : k < qn.length), (bv (natI qn))[k]? = some (.int .i64 ((qn[k] : Nat) : Int))) := hid_ (fun k h => by rw [show bv (natI qn) = (ints (natI qn)).toArray from rfl, List.getElem?_toArray]; exact natI_at h)
  have HQ8 := hid_ hq8
  have hbq := hid_ (bv_size (natI qn))
  clear hqn hq8
  have hql := hid_ ((ints_len qs).trans hq)
  have HB2 := hid_ (built2 _ _ t1l t2l)
  have HRT := hid_ (fun W g (hb : Blk W g 41 (tblL (natI cn1) s1 ++ tblL (natI cn2) s2).toArray) => range_two t1l hb)
  have hz17 : Hid ((ints (List.replicate 16 0) ++ [Value.slice none 0 0]).toArray.size = 17) := hid_ (by simp [ints])
  have HTB : Hid (∀ k, k < 2 → ∃ (cn xn : List Nat) (sl : Value), Hid (∀ W g, Blk W g 41 (tblL (natI cn1) s1 ++ tblL (natI cn2) s2).toArray → W.rangeAt g (0 + k * 17) (tblL (natI cn) sl)) ∧ Hid (cn.length = 16) ∧ Hid (∀ n ∈ cn, n ≤ 256) ∧ Hid (∀ n ∈ xn, n < 256) ∧ xn.length ≤ 256 ∧ SL w 1 sl xn.length (ints (natI xn)) ∧ Hid ((tblL (natI cn) sl).toArray.all (·.oneCell') = true) ∧
      Hid (([tabN cn1 xn1, tabN cn2 xn2].take (k + 1)).flatten = ([tabN cn1 xn1, tabN cn2 xn2].take k).flatten ++ tabN cn xn) ∧ ([tabN cn1 xn1, tabN cn2 xn2].take k).flatten.length ≤ 1000) := hid_ (fun k hk => by
    rcases (by omega : k = 0 ∨ k = 1) with rfl | rfl
    · exact ⟨cn1, xn1, s1, hid_ (fun W g hb => (range_two t1l hb).1), hid_ hl1, hid_ hc1, hid_ hx1, hy1, hs1, hid_ o1, hid_ (by simp), by simp⟩
    · exact ⟨cn2, xn2, s2, hid_ (fun W g hb => (range_two t1l hb).2), hid_ hl2, hid_ hc2, hid_ hx2, hy2, hs2, hid_ o2, hid_ (by simp), by simp [tabN_len]; omega⟩)
  have HLEN : Hid (∀ k, k ≤ 2 → ([tabN cn1 xn1, tabN cn2 xn2].take k).flatten.length ≤ 1000) := hid_ (fun k hk => by
    rcases (by omega : k = 0 ∨ k = 1 ∨ k = 2) with rfl | rfl | rfl <;> simp [tabN_len] <;> omega)
  have HPK : Hid (packN wd hi pt ev qn cn1 xn1 cn2 xn2 bs = [77, 90, wd, hi, pt, ev] ++ qn ++ ([tabN cn1 xn1, tabN cn2 xn2].take 2).flatten ++ bs) := hid_ (by simp [packN])
  have HBS := hid_ hbl
  generalize packN wd hi pt ev qn cn1 xn1 cn2 xn2 bs = PN at *
  generalize [tabN cn1 xn1, tabN cn2 xn2] = TT at *
  have hl17a : Hid ((tblL (natI cn1) s1).length = 17) := hid_ t1l
  have hl17b : Hid ((tblL (natI cn2) s2).length = 17) := hid_ t2l
  generalize tblL (natI cn1) s1 = t1 at *
  generalize tblL (natI cn2) s2 = t2 at *
  clear t1l t2l hc1 hc2 hx1 hx2 hl1 hl2 o1 o2
  generalize (fileL wd hi pt qs t1 t2 ev (.slice A0 bs.length c0)).toArray = fv at *
  have kc := fun (w : World) (C : Array Value) (n c : Nat) => Lib.run_convert_bytes_const (P := Try.prog) w 38 5 C n c Try.underlying38 Try.underlying5
  have HZ0 := hid_ zero48
  have HBQ : Hid ((bv (natI qn)).size = 64) := hid_ (by rw [bv_size, natI_len, hqn64])
  have HBO := hid_ (bv_one (natI qn))
  go_enter Try.func43, Try.ntmps43
  go_wp2_with (first
    | (refine wpList_box_abs rfl 45 (.tmp 0) rfl fv rfl ?_; intro w1 g hb1 hx1 hg)
    | (refine wpList_load_blk rfl 45 (.tmp 1) rfl _ rfl hb1 _ Try.underlying45 rfl 103 sizeFile hfs.out ?_)
    | (go_at_call 80; (with_reducible refine (HCK.out _ hx1).mono ?_); rintro e w2 ⟨rfl, hx2⟩; have hb2 := hb1.ext hx2; have hgl := hb2.lt; have hf2 := HF.out _ _ hb2; have d0 := hf2.c0; have d1 := hf2.c1; have d2 := hf2.c2; have d101 := hf2.c101; have hx12 := hx1.trans hx2)
    | (refine wl_run rfl (.int .u8 ((wd : Nat) : Int)) (ex_conv8 (n := wd) rfl rfl k1) ?_)
    | (refine wl_run rfl (.int .u8 ((hi : Nat) : Int)) (ex_conv8 (n := hi) rfl rfl k2) ?_)
    | (refine wl_run rfl (.int .u8 ((pt : Nat) : Int)) (ex_conv8 (n := pt) rfl rfl k3) ?_)
    | (refine wl_run rfl (.int .u8 ((ev : Nat) : Int)) (ex_conv8 (n := ev) rfl rfl k4) ?_)
    | (refine wpList_load_mid rfl 24 (.tmp 33) rfl g 3 rfl (ints qs) _ ((HF.out _ _ (hb2.alloc _)).q) Try.underlying24 rfl (by rw [hql.out]; exact size48) ?_)
    | (go_at_call 76; (with_reducible refine (HZT.out _).mono ?_); rintro e w4 ⟨rfl, hx4'⟩; have hownz := own_keep (own_made (w := w2) (base := w.heap.size) 5 [.int .u8 77, .int .u8 90, .int .u8 (wd : Int), .int .u8 (hi : Int), .int .u8 (pt : Int), .int .u8 (ev : Int)] 6 rfl (by omega) hx12.size) hx4'; have hx24 := ((Ext.refl w2).alloc _).trans hx4'; have hbz := hb2.ext hx24)
    | (refine wpList_alloc_abs' rfl (some 6) rfl 24 rfl _ HZ0.out ?_; intro w5 g6 hb6 hx5 hg6)
    | (refine wpList_store_blk rfl 24 (.tmp 6) (.tmp 35) rfl _ _ rfl rfl hb6 64 size48 HBQ.out zero48c HBO.out ?_; intro w7 hb7 hg7; have hx47 := hx5.grown hg7 hg6; have hb4 := hbz.ext hx47; have hown4 := own_keep hownz hx47; have hx14 := (hx12.trans hx24).trans hx47)
    | (refine wpList_load_blk rfl 24 (.tmp 6) rfl _ rfl hb7 _ Try.underlying24 rfl 64 size48 HBQ.out ?_))
  have hgb : w.heap.size ≤ w.heap.size := Nat.le_refl _
  have hB0 := hx14.size
  have HHEAD : Hid (([77, 90, wd, hi, pt, ev] : List Nat).length = 6) := hid_ rfl
  generalize hHD : ([77, 90, wd, hi, pt, ev] : List Nat) = HD at *
  have hown4a : w7.ownsRow w.heap.size 5 1 (.slice (some ⟨w2.heap.size, 0, none⟩) 6 6) (6 + 0) (bytesV (HD ++ qn.take 0)) := by
    have h := hown4
    rw [List.take_zero, List.append_nil, ← hHD]
    first
      | exact h
      | simpa [bytesV] using h
  clear hHD
  clear hown4 hownz hf2 hb2 hb1 hbz hb6 hb7 d0 d1 d2 d101 HCK HZT
  go_loopw [5, 37] (fun v i wr => ∃ k : Nat, k ≤ 64 ∧ i = .int .i64 (k : Int) ∧ wr.ownsRow w.heap.size 5 1 v (6 + k) (bytesV (HD ++ qn.take k)) ∧ Blk wr g 45 fv ∧ Ext w wr) (fun _ i _ => 64 - (intOf i).toNat)
  case atStart => exact ⟨0, by omega, rfl, hown4a, hb4, hx14⟩
  case round =>
    clear hown4a hb4 hx14 hB0
    obtain ⟨k, hk, rfl, hown, hb, hx⟩ := hrel
    by_cases hlt : k < 64
    · have hkq : k < qn.length := by omega
      have hqk := HQ8.out qn[k] (List.getElem_mem hkq)
      have hqa := HQA.out k hkq
      have HN : Hid (qn.take (k + 1) = qn.take k ++ [qn[k]]) := hid_ (List.take_succ_eq_append_getElem hkq)
      have HQA1 := hid_ hqa
      clear hqa
      generalize qn[k] = q at *
      go_wp2_with (first
            | (refine wl_run rfl (.int .i64 ((q : Nat) : Int)) (ex_idx Try.underlying24 Try.underlying3 sizeI rfl rfl rfl hlt HQA1.out) ?_)
            | (refine wl_run rfl (.int .u8 ((q : Nat) : Int)) (ex_conv8 (n := q) rfl rfl hqk) ?_)
            | (at_builtin; go_must (refine wpList_append_slr elt_by rfl _ _ rfl w.heap.size _ _ _ rfl (hown.alloc _) _ 1 (bytesV [q]) rfl (cells_sl _ _ [.int .u8 ((q : Nat) : Int)] 1 rfl (by omega)) (byte_one _) (by omega) (by omega) (by have := hx.size; simp; omega) ?_); intro v' w9 hown9 hg9 ho9))
      go_roundw
      case rel =>
        refine ⟨k + 1, by omega, by go_num, ?_, (hb.alloc _).grown hg9 (own_blk hb hown (by decide)), ext_own' hx hown hg9⟩
        rw [HN.out, ← List.append_assoc, bytesV_app, ← Nat.add_assoc]
        exact hown9
      case measure => simp [intOf]; omega
    · have ek : k = 64 := by omega
      have hown0 : wr.ownsRow w.heap.size 5 1 u5 (70 + 0) (bytesV (HD ++ qn ++ (TT.take 0).flatten)) := by
        have h := hown
        rw [ek, List.take_of_length_le (by omega)] at h
        simpa using h
      have HQL : Hid ((HD ++ qn).length = 70) := hid_ (by rw [List.length_append, HHEAD.out, hqn64])
      generalize HD ++ qn = HQ at *
      clear hown ek HQA HQ8
      go_wp2_with fail
      have hb1 := hb
      have hx1 := hx
      have hown1 := hown0
      clear hb hx hown0
      go_loopw [5, 46] (fun v i w5 => ∃ k m : Nat, k ≤ 2 ∧ Hid (m = 70 + (TT.take k).flatten.length) ∧ m ≤ 2000 ∧ i = .int .i64 (k : Int) ∧ w5.ownsRow w.heap.size 5 1 v m (bytesV (HQ ++ (TT.take k).flatten)) ∧ Blk w5 g 45 fv ∧ Ext w w5) (fun _ i _ => 2 - (intOf i).toNat)
      case atStart => exact ⟨0, 70, by omega, hid_ (by simp), by omega, rfl, hown1, hb1, hx1⟩
      case round =>
        clear hb1 hx1 hown1
        obtain ⟨k, m, hk, HM, hm2, rfl, hown, hb, hx⟩ := hrel
        by_cases hlt : k < 2
        · obtain ⟨cn, xn, sl, HTV, HCL, HC6, HX6, hxl, hsl, HTVE, HNX, hfl⟩ := HTB.out k hlt
          have HFL : Hid (m ≤ 1070) := hid_ (by rw [HM.out]; omega)
          have hm1 := HFL.out
          have hsx := hsl.ext hx
          have hsl' := hsl
          obtain ⟨B, d, rfl, hd1, hd2, -, -⟩ := hsl'
          have hf := HF.out _ _ hb
          go_wp2_with (first
            | (refine wpList_load_mid rfl 41 (.tmp 50) rfl g 67 rfl t1 _ hf.ta Try.underlying41 rfl (by rw [hl17a.out]; exact sizeTbl) ?_)
            | (refine wpList_load_mid rfl 41 (.tmp 53) rfl g 84 rfl t2 _ hf.tb Try.underlying41 rfl (by rw [hl17b.out]; exact sizeTbl) ?_)
            | (refine Go.Great.wpList_buildSliceTo rfl 95 41 2 _ rfl _ rfl (some 55) rfl Try.underlying95 _ (by simp [Act.eval]; exact HB2.out) ?_)
            | (refine wl_run rfl (.pointer (some ⟨wr.heap.size, 0 + k * 17, none⟩)) (ex_ixSlG Try.underlying95 sizeTbl rfl rfl rfl hlt) ?_)
            | (refine wpList_load_mid rfl 41 (.tmp 57) rfl _ (0 + k * 17) rfl (tblL (natI cn) (.slice B xn.length d)) _ (HTV.out _ _ (Blk.new _ _ _)) Try.underlying41 rfl (by rw [tblL_len _ _ ((natI_len _).trans HCL.out)]; exact sizeTbl) ?_)
            | (refine wpList_alloc_abs' rfl (some 10) rfl 41 rfl _ zeroTbl ?_; intro w4 ga hba4 hx4 hga)
            | (refine wpList_store_blk rfl 41 (.tmp 10) (.tmp 58) rfl _ _ rfl rfl hba4 17 sizeTbl (by simpa using tblL_len (natI cn) (.slice B xn.length d) ((natI_len _).trans HCL.out)) hz17.out HTVE.out ?_; intro w5 hba5 hg5; have hx45 := hx4.grown hg5 hga; have hx5 := (hx.alloc _).trans hx45; have hb5 := (hb.alloc _).ext hx45; have hown5 := own_keep (hown.alloc _) hx45)
            | (refine wpList_load_mid rfl 39 (.tmp 59) rfl ga 0 rfl (ints (natI cn)) _ (tblv_range hba5) Try.underlying39 rfl (by rw [ints_len, natI_len, HCL.out]; exact size16) ?_))
          have hgl5 := hba5.lt
          have hown50 : w5.ownsRow w.heap.size 5 1 u5 (m + 2 * 0) (bytesV (HQ ++ (TT.take k).flatten ++ (cn.take 0).flatMap (fun n => [n / 256, n % 256]))) := by simpa using hown5
          have hclen := HCL.out
          clear hown hb hx hx4 hba4 hg5 hown5 hf
          have hbt5 : Blk w5 ga 41 (tblv (natI cn) (.slice B xn.length d)) := hba5
          clear hba5
          go_loopw [5, 61] (fun v i wr => ∃ j : Nat, j ≤ 16 ∧ i = .int .i64 (j : Int) ∧ wr.ownsRow w.heap.size 5 1 v (m + 2 * j) (bytesV (HQ ++ (TT.take k).flatten ++ (cn.take j).flatMap (fun n => [n / 256, n % 256]))) ∧ Blk wr g 45 fv ∧ Blk wr ga 41 (tblv (natI cn) (.slice B xn.length d)) ∧ Ext w wr) (fun _ i _ => 16 - (intOf i).toNat)
          case atStart => exact ⟨0, by omega, rfl, hown50, hb5, hbt5, hx5⟩
          case round =>
            clear hown50 hb5 hbt5 hx5 hx45
            obtain ⟨j, hj, rfl, hown, hb, hbt, hx⟩ := hrel
            by_cases hltj : j < 16
            · have hjc : j < cn.length := by omega
              have hc6 := HC6.out cn[j] (List.getElem_mem hjc)
              have HCA : Hid ((ints (natI cn)).toArray[j]? = some (.int .i64 ((cn[j] : Nat) : Int))) := hid_ (by rw [List.getElem?_toArray]; exact natI_at hjc)
              have HN := hid_ (flat2_snoc cn j hjc)
              generalize cn[j] = c at *
              have hc1 : c / 256 < 256 := by omega
              have hc2 : c % 256 < 256 := by omega
              go_wp2_with (first
            | (refine wl_run rfl (.int .i64 ((c : Nat) : Int)) (ex_idx Try.underlying39 Try.underlying3 sizeI rfl rfl rfl hltj HCA.out) ?_)
            | (refine wl_run rfl (.int .i64 ((c / 256 : Nat) : Int)) (ex_quoN (i := c) (d := 256) rfl rfl rfl (by omega) (by omega)) ?_)
            | (refine wl_run rfl (.int .i64 ((c % 256 : Nat) : Int)) (ex_remN (i := c) (d := 256) rfl rfl rfl (by omega) (by omega)) ?_)
            | (refine wl_run rfl (.int .u8 ((c / 256 : Nat) : Int)) (ex_conv8 (n := c / 256) rfl rfl hc1) ?_)
            | (refine wl_run rfl (.int .u8 ((c % 256 : Nat) : Int)) (ex_conv8 (n := c % 256) rfl rfl hc2) ?_)
            | (at_builtin; go_must (refine wpList_append_slr elt_by rfl _ _ rfl w.heap.size _ _ _ rfl (hown.alloc _) _ 2 (bytesV [c / 256, c % 256]) rfl (cells_sl _ _ [.int .u8 ((c / 256 : Nat) : Int), .int .u8 ((c % 256 : Nat) : Int)] 2 rfl (by omega)) (byte_one _) (by omega) (by omega) (by have := hx.size; simp; omega) ?_); intro v' w9 hown9 hg9 ho9))
              go_roundw
              case rel =>
                refine ⟨j + 1, by omega, by go_num, ?_, (hb.alloc _).grown hg9 (own_blk hb hown (by decide)), (hbt.alloc _).grown hg9 (own_blk hbt hown (by decide)), ext_own' hx hown hg9⟩
                rw [HN.out, ← List.append_assoc, bytesV_app, show m + 2 * (j + 1) = m + 2 * j + 2 by omega]
                exact hown9
              case measure => simp [intOf]; omega
            · have ej : j = 16 := by omega
              rw [ej, show cn.take 16 = cn from List.take_of_length_le (by omega)] at hown
              have hcl := tblv_last hbt ((natI_len _).trans HCL.out)
              have hown00 : wr.ownsRow w.heap.size 5 1 u5 (m + 32 + 0) (bytesV (HQ ++ (TT.take k).flatten ++ cn.flatMap (fun n => [n / 256, n % 256]) ++ xn.take 0)) := by simpa using hown
              clear hown ej
              go_wp2_with fail
              go_loopw [5, 77] (fun v i wr => ∃ j : Nat, j ≤ xn.length ∧ i = .int .i64 (j : Int) ∧ wr.ownsRow w.heap.size 5 1 v (m + 32 + j) (bytesV (HQ ++ (TT.take k).flatten ++ cn.flatMap (fun n => [n / 256, n % 256]) ++ xn.take j)) ∧ Blk wr g 45 fv ∧ Ext w wr) (fun _ i _ => xn.length - (intOf i).toNat)
              case atStart => exact ⟨0, by omega, rfl, hown00, hb, hx⟩
              case round =>
                clear hown00 hb hbt hx hcl
                obtain ⟨j, hj, rfl, hown, hb, hx⟩ := hrel
                by_cases hltx : j < xn.length
                · have hsn : SL wr 1 (.slice B xn.length d) xn.length (ints (natI xn)) := by have := hsl.ext hx; exact this
                  obtain ⟨ad, u, had, hab, hux, hcell⟩ := hsn.at1 hltx
                  rw [natI_at hltx] at hux
                  injection hux with hux
                  subst hux
                  subst had
                  have hx6 := HX6.out xn[j] (List.getElem_mem hltx)
                  have HN : Hid (xn.take (j + 1) = xn.take j ++ [xn[j]]) := hid_ (List.take_succ_eq_append_getElem hltx)
                  generalize xn[j] = x at *
                  go_wp2_with (first
            | (refine wl_run rfl (.int .u8 ((x : Nat) : Int)) (ex_conv8 (n := x) rfl rfl hx6) ?_)
            | (at_builtin; go_must (refine wpList_append_slr elt_by rfl _ _ rfl w.heap.size _ _ _ rfl (hown.alloc _) _ 1 (bytesV [x]) rfl (cells_sl _ _ [.int .u8 ((x : Nat) : Int)] 1 rfl (by omega)) (byte_one _) (by omega) (by omega) (by have := hx.size; simp; omega) ?_); intro v' w9 hown9 hg9 ho9))
                  go_roundw
                  case rel =>
                    refine ⟨j + 1, by omega, by go_num, ?_, (hb.alloc _).grown hg9 (own_blk hb hown (by decide)), ext_own' hx hown hg9⟩
                    rw [HN.out, ← List.append_assoc, bytesV_app, ← Nat.add_assoc]
                    exact hown9
                  case measure => simp [intOf]; omega
                · have ej : j = xn.length := by omega
                  rw [ej, List.take_length] at hown
                  clear ej
                  go_wp2_with fail
                  go_roundw
                  case rel =>
                    refine ⟨k + 1, m + 32 + xn.length, by omega, hid_ ?_, by omega, by go_num, ?_, hb, hx⟩
                    · rw [HNX.out, List.length_append, tabN_len, HM.out, HCL.out]; omega
                    · rw [HNX.out]; unfold tabN; rw [← List.append_assoc, ← List.append_assoc]; exact hown
                  case measure => simp [intOf]; omega
        · have ek : k = 2 := by omega
          have hf := HF.out _ _ hb
          have c102 := hf.c102
          have hsn := hsd.ext hx
          go_wp2_with (at_builtin; go_must (refine wpList_append_slr elt_by rfl _ _ rfl w.heap.size _ _ _ rfl hown _ bs.length (bytesV bs) rfl hsn (byte_one bs) (by omega) (by omega) (by have := hx.size; omega) ?_); intro v' w9 hown9 hg9 ho9)
          go_ret2
          obtain ⟨A', c', rfl, hsl, hfs⟩ := own_form hown9
          refine ⟨A', m + bs.length, c', rfl, ?_, ?_, ext_own hx hown hg9⟩
          · rw [HPK.out, HM.out, ek]; simp only [List.length_append, HQL.out]
          · rw [HPK.out, bytesV_app, ← ek]; exact hsl
end Go.Proofs.Ytkfdkkhhkciocaa
