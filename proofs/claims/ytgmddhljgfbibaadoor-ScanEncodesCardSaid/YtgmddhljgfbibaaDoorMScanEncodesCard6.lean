/- Contracts for the law ScanEncodesCard, part 6: what the functions that it reaches answer, for all arguments that the theorems name. -/
import Derived.Test.YtgmddhljgfbibaaDoorMScanEncodesCard5
import Derived.Test.YtgmddhljgfbibaaDoorMScanEncodesCard1
import Derived.Test.YtgmddhljgfbibaaDoorMScanEncodesCard3
import Derived.Test.YtgmddhljgfbibaaDoorMScanEncodesCard4
/- '==' on tokens; Eq and slices.Equal on lists of tokens. -/
namespace Go.Proofs.YtgmddhljgfbibaaDoor
set_option linter.unusedVariables false
set_option linter.unusedSimpArgs false
open Go.RowKit
theorem guardTok : Tryd.prog.eqGuardType Tryd.prog.depth 60 = false := by kernel_rfl
theorem run_guardTok (w : World) (op : BinOp) (x y : Operand) (xs ys : Array Value) : (eqGuard op 60 x y (.agg xs) (.agg ys)).run Tryd.prog w = .ok () w := run_eqGuard_agg w op _ x y xs ys guardTok
theorem stoodTok : Tryd.prog.stoodInHeld 60 = false := by kernel_rfl
theorem run_eqTok (w : World) (t u : Tok) : (Op.equalIn 10000 60 (.agg (tokv t).toArray) (.agg (tokv u).toArray)).run Tryd.prog w = .ok (decide (t = u)) w := by
  have p0 : ∀ (v : Tok), (part 3 (tokv v).toArray 0).run Tryd.prog w = .ok (.int .i64 v.1) w := fun v => run_part_int w 3 Tryd.underlying3 [v.1, v.2.1, v.2.2] 0 (by simp)
  have p1 : ∀ (v : Tok), (part 3 (tokv v).toArray 1).run Tryd.prog w = .ok (.int .i64 v.2.1) w := fun v => run_part_int w 3 Tryd.underlying3 [v.1, v.2.1, v.2.2] 1 (by simp)
  have p2 : ∀ (v : Tok), (part 3 (tokv v).toArray 2).run Tryd.prog w = .ok (.int .i64 v.2.2) w := fun v => run_part_int w 3 Tryd.underlying3 [v.1, v.2.1, v.2.2] 2 (by simp)
  have hi := fun a b => run_equalIn_int w 9998 3 .i64 .i64 a b Tryd.underlying3
  have hst : Tryd.prog.underlying 60 = some (.struct (Tryd.prog.fieldsOf 60)) := by kernel_rfl
  rw [run_equalIn_struct w 9999 60 _ _ hst stoodTok]
  have hf : (Tryd.prog.fieldsOf 60).toList = [{ name := "Sym", type := 3, offset := 0, embedded := false, tag := "", pkgPath := "", byteOffset := 0 }, { name := "Width", type := 3, offset := 1, embedded := false, tag := "", pkgPath := "", byteOffset := 8 }, { name := "Value", type := 3, offset := 2, embedded := false, tag := "", pkgPath := "", byteOffset := 16 }] := by kernel_rfl
  rw [hf]
  simp only [Op.eqFields, ne_eq, show ("Sym" = "_") = False by decide, show ("Width" = "_") = False by decide, show ("Value" = "_") = False by decide, not_false_eq_true, if_true, Sem.run_bind, p0, p1, p2, hi, Result.andThen_ok, Sem.run_ite, Sem.run_pure]
  obtain ⟨a, b, c⟩ := t
  obtain ⟨a', b', c'⟩ := u
  by_cases h1 : a = a' <;> by_cases h2 : b = b' <;> by_cases h3 : c = c' <;> simp [h1, h2, h3]
theorem run_neqTok (w : World) (t u : Tok) : (binOp .neq 60 (.agg (tokv t).toArray) (.agg (tokv u).toArray)).run Tryd.prog w = .ok (.bool (!decide (t = u))) w := by
  rw [run_neq_struct, run_eqTok]
  rfl
theorem tokv_len (t : Tok) : (tokv t).length = 3 := rfl
theorem toks_part (T : List Tok) (k : Nat) (h : k < T.length) : ((toks T).drop (k * 3)).take 3 = tokv T[k] := by
  refine List.ext_getElem? fun j => ?_
  obtain ⟨a, b, c⟩ := toks_at T k h
  by_cases hj : j < 3
  · rw [List.getElem?_take_of_lt hj, List.getElem?_drop]
    match j, hj with
    | 0, _ => simpa [tokv] using a
    | 1, _ => simpa [tokv] using b
    | 2, _ => simpa [tokv] using c
  · rw [List.getElem?_eq_none (by rw [List.length_take]; omega), List.getElem?_eq_none (by rw [tokv_len]; omega)]
theorem size74 : (Tryd.prog.info? 60).map (·.size) = some 3 := by kernel_rfl
theorem tok_take_iff (T U : List Tok) (k : Nat) (h1 : k < T.length) (h2 : k < U.length) : T.take (k + 1) = U.take (k + 1) ↔ T.take k = U.take k ∧ T[k] = U[k] := take_succ_iff T U k h1 h2
theorem tok_oneA (t : Tok) : (tokv t).toArray.all (·.oneCell') = true := by
  rw [Array.all_eq_true']
  intro x hx
  simp [tokv] at hx
  rcases hx with rfl | rfl | rfl <;> rfl
set_option maxHeartbeats 1000000 in
theorem eqTok_any (u v : Value) (T U : List Tok) (w : World) (hu : SL w 3 u T.length (toks T)) (hv : SL w 3 v U.length (toks U)) :
    Calls Tryd.prog 70 #[u, v] w fun e w' => e = .returned (.bool (decide (T = U))) ∧ Ext w w' := by
  have hu' := hu
  have hv' := hv
  obtain ⟨A, c, rfl, hc1, hc2, -, -⟩ := hu'
  obtain ⟨B, d, rfl, hd1, hd2, -, -⟩ := hv'
  by_cases hl : T.length = U.length
  · have HE : Hid (T.length = U.length) := hl
    obtain ⟨n, hn⟩ : ∃ n, n = T.length := ⟨_, rfl⟩
    have HTN : Hid (T.length = n) := hid_ hn.symm
    have HUN : Hid (U.length = n) := hid_ (by rw [← hl, hn])
    rw [← hl] at hv hd1 ⊢
    rw [← hn] at hu hv hc1 hd1 ⊢
    have e1 : ((n : Int) != (n : Int)) = false := by simp
    obtain ⟨res, hres⟩ : ∃ r, r = decide (T = U) := ⟨_, rfl⟩
    have HR := hid_ hres
    rw [← hres]
    clear hl hn hres
    go_enter Tryd.func70, Tryd.ntmps70
    go_wp2_with fail
    go_loopw [14] (fun i wr => ∃ k : Nat, k ≤ n ∧ i = .int .i64 k ∧ Hid (T.take k = U.take k) ∧ Ext w wr) (fun i _ => n - (intOf i).toNat)
    case atStart => exact ⟨0, by omega, rfl, hid_ (by simp), Ext.refl w⟩
    case round =>
      obtain ⟨k, hk, rfl, HT, hx⟩ := hrel
      by_cases hlt : k < n
      · obtain ⟨ad, rfl, hab, hca⟩ := (hu.ext hx).part hlt
        obtain ⟨bd, rfl, hbb, hcb⟩ := (hv.ext hx).part hlt
        have hkT : k < T.length := by rw [HTN.out]; exact hlt
        have hkU : k < U.length := by rw [HUN.out]; exact hlt
        rw [toks_part T k hkT] at hca
        rw [toks_part U k hkU] at hcb
        have HQ := hid_ (tok_take_iff T U k hkT hkU)
        generalize ht : T[k] = t at *
        generalize hu2 : U[k] = t' at *
        have HTt := hid_ ht
        have HTu := hid_ hu2
        clear ht hu2
        have HCA := hid_ hca
        clear hca
        go_wp2_with (first
          | (refine wpList_load_any (by rfl) 60 (.tmp 17) rfl (ad.add (k * 3)) rfl (tokv t) _ HCA.out Tryd.underlying60 rfl size74 ?_)
          | (refine wpList_alloc_abs' rfl (some 6) rfl 60 rfl (.agg (tokv (0, 0, 0)).toArray) (by kernel_rfl) ?_; intro w2 g2 hb2 hx2 hg2)
          | (refine wpList_store_blk rfl 60 (.tmp 6) (.tmp 18) rfl _ _ rfl rfl hb2 3 size74 rfl rfl (tok_oneA t) ?_; intro w3 hb3 hg3; have hx3 := hx2.grown hg3 (by omega)))
        have hx3' := hx3.drew
        have hb3' := hb3.drew
        have HCB : Hid (∀ W, Ext w3.drew W → CellsAt W (bd.add (k * 3)) (tokv t')) := hid_ (fun W hW j q hq => by
          rw [((hx3'.trans hW).cell (p := (bd.add (k * 3)).add j) (by rw [block_of_add, block_of_add]; exact hbb))]
          exact hcb j q hq)
        refine wp_region_lx later_ext (by kernel_rfl) (by kernel_rfl) ?_
        refine lx_load_blk (by rfl) 60 (.tmp 6) rfl g2 rfl (fun w h => hb3'.ext h) _ Tryd.underlying60 rfl 3 size74 rfl ?_
        simp only [Act.put, List.setIfInBounds_toArray, List.set_cons_succ, List.set_cons_zero]
        iterate 3 (refine lx_ex (by rfl) ?_; apply Exists.intro; refine ⟨fun w hw => ?_, ?_⟩; · (go_simp; with_reducible rfl)
                   simp only [Act.put, List.setIfInBounds_toArray, List.set_cons_succ, List.set_cons_zero])
        refine lx_load_any (by rfl) 60 (.tmp 22) rfl (bd.add (k * 3)) rfl (tokv t') _ HCB.out Tryd.underlying60 rfl size74 ?_
        simp only [Act.put, List.setIfInBounds_toArray, List.set_cons_succ, List.set_cons_zero]
        refine lx_binOp (by rfl) .neq 60 _ _ _ rfl (.agg (tokv t).toArray) (.agg (tokv t').toArray) rfl rfl (.bool (!decide (t = t'))) (fun W => run_guardTok W _ _ _ _ _) (fun W => run_neqTok W t t') ?_
        simp only [Act.put, List.setIfInBounds_toArray, List.set_cons_succ, List.set_cons_zero]
        refine lx_nil ?_
        intro w4 hx4
        by_cases hq : t = t'
        · have HH : Hid (T.take (k + 1) = U.take (k + 1)) := hid_ (HQ.out.2 ⟨HT.out, hq⟩)
          rw [decide_eq_true hq]
          clear hq
          go_wp2_with fail
          go_roundw
          case rel => exact ⟨k + 1, by omega, by go_num, HH, (hx.trans hx3').trans hx4⟩
          case measure => simp [intOf]; omega
        · have hne : T ≠ U := by
            intro h
            apply hq
            have h1 := HTt.out
            have h2 := HTu.out
            subst h
            exact h1.symm.trans h2
          have HN := hid_ hne
          rw [decide_eq_false hq]
          clear hq hne
          go_wp2_with fail
          go_ret
          refine ⟨?_, (hx.trans hx3').trans hx4⟩
          rw [HR.out, decide_eq_false HN.out]; rfl
      · go_wp2_with fail
        go_ret
        refine ⟨?_, hx⟩
        have e : T = U := by
          have := HT.out
          rwa [List.take_of_length_le (by rw [HTN.out]; omega), List.take_of_length_le (by rw [HUN.out]; omega)] at this
        rw [HR.out, decide_eq_true e]; rfl
  · have hne : decide (T = U) = false := decide_eq_false (fun h => hl (by rw [h]))
    have e1 : ((T.length : Int) != (U.length : Int)) = true := by simp; omega
    rw [hne]
    clear hne hl
    go_enter Tryd.func70, Tryd.ntmps70
    go_wp2_with fail
    go_ret
    exact ⟨rfl, Ext.refl w⟩
set_option maxHeartbeats 1000000 in
theorem seqTok_any (u v : Value) (T U : List Tok) (w : World) (hu : SL w 3 u T.length (toks T)) (hv : SL w 3 v U.length (toks U)) :
    Calls Tryd.prog 66 #[u, v] w fun e w' => e = .returned (.bool (decide (T = U))) ∧ Ext w w' := by
  have hu' := hu
  have hv' := hv
  obtain ⟨A, c, rfl, hc1, hc2, -, -⟩ := hu'
  obtain ⟨B, d, rfl, hd1, hd2, -, -⟩ := hv'
  by_cases hl : T.length = U.length
  · have HE : Hid (T.length = U.length) := hl
    obtain ⟨n, hn⟩ : ∃ n, n = T.length := ⟨_, rfl⟩
    have HTN : Hid (T.length = n) := hid_ hn.symm
    have HUN : Hid (U.length = n) := hid_ (by rw [← hl, hn])
    rw [← hl] at hv hd1 ⊢
    rw [← hn] at hu hv hc1 hd1 ⊢
    have e1 : ((n : Int) != (n : Int)) = false := by simp
    obtain ⟨res, hres⟩ : ∃ r, r = decide (T = U) := ⟨_, rfl⟩
    have HR := hid_ hres
    rw [← hres]
    clear hl hn hres
    go_enter Tryd.func66, Tryd.ntmps66
    go_wp2_with fail
    go_loopw [13] (fun i wr => ∃ k : Nat, k ≤ n ∧ i = .int .i64 k ∧ Hid (T.take k = U.take k) ∧ Ext w wr) (fun i _ => n - (intOf i).toNat)
    case atStart => exact ⟨0, by omega, rfl, hid_ (by simp), Ext.refl w⟩
    case round =>
      obtain ⟨k, hk, rfl, HT, hx⟩ := hrel
      by_cases hlt : k < n
      · obtain ⟨ad, rfl, hab, hca⟩ := (hu.ext hx).part hlt
        obtain ⟨bd, rfl, hbb, hcb⟩ := (hv.ext hx).part hlt
        have hkT : k < T.length := by rw [HTN.out]; exact hlt
        have hkU : k < U.length := by rw [HUN.out]; exact hlt
        rw [toks_part T k hkT] at hca
        rw [toks_part U k hkU] at hcb
        have HQ := hid_ (tok_take_iff T U k hkT hkU)
        generalize ht : T[k] = t at *
        generalize hu2 : U[k] = t' at *
        have HTt := hid_ ht
        have HTu := hid_ hu2
        clear ht hu2
        have HCA := hid_ hca
        clear hca
        have HCA' : Hid (∀ W, Ext wr.drew W → CellsAt W (ad.add (k * 3)) (tokv t)) := hid_ (fun W hW j q hq => by
          rw [(hW.cell (p := (ad.add (k * 3)).add j) (by rw [block_of_add, block_of_add]; exact hab))]
          exact HCA.out j q hq)
        have HCB : Hid (∀ W, Ext wr.drew W → CellsAt W (bd.add (k * 3)) (tokv t')) := hid_ (fun W hW j q hq => by
          rw [(hW.cell (p := (bd.add (k * 3)).add j) (by rw [block_of_add, block_of_add]; exact hbb))]
          exact hcb j q hq)
        have hx3' := hx.drew
        go_wp2_with fail
        refine wp_region_lx later_ext (by kernel_rfl) (by kernel_rfl) ?_
        iterate 3 (refine lx_ex (by rfl) ?_; apply Exists.intro; refine ⟨fun w hw => ?_, ?_⟩; · (go_simp; with_reducible rfl)
                   simp only [Act.put, List.setIfInBounds_toArray, List.set_cons_succ, List.set_cons_zero])
        refine lx_load_any (by rfl) 60 (.tmp 18) rfl (ad.add (k * 3)) rfl (tokv t) _ HCA'.out Tryd.underlying60 rfl size74 ?_
        simp only [Act.put, List.setIfInBounds_toArray, List.set_cons_succ, List.set_cons_zero]
        iterate 3 (refine lx_ex (by rfl) ?_; apply Exists.intro; refine ⟨fun w hw => ?_, ?_⟩; · (go_simp; with_reducible rfl)
                   simp only [Act.put, List.setIfInBounds_toArray, List.set_cons_succ, List.set_cons_zero])
        refine lx_load_any (by rfl) 60 (.tmp 22) rfl (bd.add (k * 3)) rfl (tokv t') _ HCB.out Tryd.underlying60 rfl size74 ?_
        simp only [Act.put, List.setIfInBounds_toArray, List.set_cons_succ, List.set_cons_zero]
        refine lx_binOp (by rfl) .neq 60 _ _ _ rfl (.agg (tokv t).toArray) (.agg (tokv t').toArray) rfl rfl (.bool (!decide (t = t'))) (fun W => run_guardTok W _ _ _ _ _) (fun W => run_neqTok W t t') ?_
        simp only [Act.put, List.setIfInBounds_toArray, List.set_cons_succ, List.set_cons_zero]
        refine lx_nil ?_
        intro w4 hx4
        by_cases hq : t = t'
        · have HH : Hid (T.take (k + 1) = U.take (k + 1)) := hid_ (HQ.out.2 ⟨HT.out, hq⟩)
          rw [decide_eq_true hq]
          clear hq
          go_wp2_with fail
          go_roundw
          case rel => exact ⟨k + 1, by omega, by go_num, HH, hx3'.trans hx4⟩
          case measure => simp [intOf]; omega
        · have hne : T ≠ U := by
            intro h
            apply hq
            have h1 := HTt.out
            have h2 := HTu.out
            subst h
            exact h1.symm.trans h2
          have HN := hid_ hne
          rw [decide_eq_false hq]
          clear hq hne
          go_wp2_with fail
          go_ret
          refine ⟨?_, hx3'.trans hx4⟩
          rw [HR.out, decide_eq_false HN.out]; rfl
      · go_wp2_with fail
        go_ret
        refine ⟨?_, hx⟩
        have e : T = U := by
          have := HT.out
          rwa [List.take_of_length_le (by rw [HTN.out]; omega), List.take_of_length_le (by rw [HUN.out]; omega)] at this
        rw [HR.out, decide_eq_true e]; rfl
  · have hne : decide (T = U) = false := decide_eq_false (fun h => hl (by rw [h]))
    have e1 : ((T.length : Int) != (U.length : Int)) = true := by simp; omega
    rw [hne]
    clear hne hl
    go_enter Tryd.func66, Tryd.ntmps66
    go_wp2_with fail
    go_ret
    exact ⟨rfl, Ext.refl w⟩
end Go.Proofs.YtgmddhljgfbibaaDoor
/- run.token, token of the reference. -/
namespace Go.Proofs.YtgmddhljgfbibaaDoor
set_option linter.unusedVariables false
set_option linter.unusedSimpArgs false
open Go.RowKit
theorem sizeTok : (Tryd.prog.info? 60).map (·.size) = some 3 := by kernel_rfl
theorem zeroTok : (Tryd.prog.info? 60).bind (·.zero) = some (.agg (tokv (0, 0, 0)).toArray) := by kernel_rfl
theorem elt_tok : Elt Tryd.prog 72 60 3 24 := ⟨Tryd.underlying72, by kernel_rfl, by omega⟩
theorem bitsZ_bd (n : Int) : 0 ≤ (bitsZ n).1 ∧ (bitsZ n).1 ≤ 12 := by
  unfold bitsZ
  split
  · next h => have := (szN_spec n h.1 h.2).1; simp; omega
  · simp
theorem three_one (a b c : Int) : (#[Value.int .i64 a, .int .i64 b, .int .i64 c] : Array Value).all (·.oneCell') = true := by
  rw [Array.all_eq_true']
  intro x hx
  simp at hx
  rcases hx with rfl | rfl | rfl <;> rfl
theorem or_add : ∀ r : Fin 16, ∀ x : Fin 13, bits .or .i64 ((r.val : Int) * 16) (x.val : Int) = 16 * (r.val : Int) + (x.val : Int) := by decide
theorem rtoken_any (r n : Int) (w : World) (h0 : 0 ≤ r) (h1 : r ≤ 15) : Calls Tryd.prog 59 #[.int .i64 r, .int .i64 n] w fun e w' => e = .returned (.agg (tokv (tokZ r n)).toArray) ∧ Ext w w' := by
  have HB := hid_ (fun W => rsizeBits_any n W)
  obtain ⟨b1, b2⟩ := bitsZ_bd n
  have HT := hid_ (show tokv (tokZ r n) = [.int .i64 (16 * r + (bitsZ n).1), .int .i64 (bitsZ n).1, .int .i64 (bitsZ n).2.1] from rfl)
  generalize tokZ r n = tk at *
  generalize bitsZ n = b at *
  obtain ⟨x1, x2, x3⟩ := b
  go_enter Tryd.func59, Tryd.ntmps59
  go_wp2_with (first
    | (refine wpList_alloc_abs' rfl (some 4) rfl 60 rfl _ zeroTok ?_; intro w1 g1 hb1 hx1 hg1)
    | (go_at_call 83; (with_reducible refine (HB.out _).mono ?_); rintro e w' ⟨rfl, rfl⟩)
    | (refine wpList_store_blk rfl 60 (.tmp 4) (.tmp 20) rfl _ _ rfl rfl hb1 3 sizeTok rfl rfl (three_one _ _ _) ?_; intro w5 hb5 hg5))
  refine ret_cell rfl rfl _ rfl hb5 _ Tryd.underlying60 rfl 3 sizeTok rfl ⟨by rw [HT.out], hx1.grown hg5 hg1⟩
theorem token_any (r : Nat) (m : Int) (w : World) (h1 : r ≤ 15) : Calls Tryd.prog 88 #[.int .i64 r, .int .i64 m] w fun e w' => e = .returned (.agg (tokv (tokZ r m)).toArray) ∧ Ext w w' := by
  have HB := hid_ (fun W => sizeBits_any m W)
  obtain ⟨b1, b2⟩ := bitsZ_bd m
  have HT := hid_ (show tokv (tokZ r m) = [.int .i64 (16 * r + (bitsZ m).1), .int .i64 (bitsZ m).1, .int .i64 (bitsZ m).2.1] from rfl)
  generalize tokZ r m = tk at *
  generalize bitsZ m = b at *
  obtain ⟨x1, x2, x3⟩ := b
  obtain ⟨x1, rfl⟩ : ∃ k : Nat, x1 = k := ⟨x1.toNat, by simp at b1; omega⟩
  have HO : bits .or .i64 ((r : Int) * 16) (x1 : Int) = 16 * (r : Int) + (x1 : Int) := or_add ⟨r, by omega⟩ ⟨x1, by simp at b2; omega⟩
  go_enter Tryd.func88, Tryd.ntmps88
  go_wp2_with (first
    | (refine wpList_alloc_abs' rfl (some 4) rfl 60 rfl _ zeroTok ?_; intro w1 g1 hb1 hx1 hg1)
    | (go_at_call 100; (with_reducible refine (HB.out _).mono ?_); rintro e w' ⟨rfl, rfl⟩)
    | (refine wpList_store_blk rfl 60 (.tmp 4) (.tmp 20) rfl _ _ rfl rfl hb1 3 sizeTok rfl rfl (three_one _ _ _) ?_; intro w5 hb5 hg5))
  refine ret_cell rfl rfl _ rfl hb5 _ Tryd.underlying60 rfl 3 sizeTok rfl ⟨by rw [HT.out], hx1.grown hg5 hg1⟩
theorem own_ext {w w' : World} {base : Nat} {e : TypeId} {size n : Nat} {v : Value} {xs : List Value} (h : w.ownsRow base e size v n xs) (hb : Ext w w') : w'.ownsRow base e size v n xs := by
  obtain ⟨hl, hh⟩ := h
  refine ⟨hl, ?_⟩
  rcases hh with ⟨rfl, rfl⟩ | ⟨g, cap, cur, rfl, h1, hg, h2⟩
  · exact .inl ⟨rfl, rfl⟩
  · exact .inr ⟨g, cap, cur, rfl, h1, (hb.block g (Blk.lt (w := w) (t := e) (cs := cur) hg)).trans hg, h2⟩
theorem one_sl3 (w : World) (T : TypeId) (a b c : Value) : SL (w.alloc (.cells #[a, b, c] T)) 3 (.slice (some ⟨w.heap.size, 0, none⟩) 1 1) 1 [a, b, c] := by
  have := (Blk.new w T #[a, b, c]).sl (size := 3) (n := 1) (c := 1) rfl (by omega) (by omega)
  simpa using this
theorem own_built3 {w : World} {base : Nat} (e : TypeId) (a b c : Value) (hb : base ≤ w.heap.size) :
    (w.alloc (.cells #[a, b, c] e)).ownsRow base e 3 (.slice (some ⟨w.heap.size, 0, none⟩) 1 1) 1 [a, b, c] :=
  ⟨rfl, .inr ⟨w.heap.size, 1, #[a, b, c], rfl, hb, heap_alloc_new w _, by omega, by unfold maxLen; omega, rfl, by simp⟩⟩
theorem tok_one (a b c : Int) : ∀ u ∈ [Value.int .i64 a, .int .i64 b, .int .i64 c], u.oneCell' = true := by
  intro u hu
  simp at hu
  rcases hu with rfl | rfl | rfl <;> rfl
theorem own_tok {w : World} {base : Nat} {e : TypeId} {v : Value} {T : List Tok} {a b c : Int} (h : w.ownsRow base e 3 v (T.length + 1) (toks T ++ [.int .i64 a, .int .i64 b, .int .i64 c])) : w.ownsRow base e 3 v (T ++ [(a, b, c)]).length (toks (T ++ [(a, b, c)])) := by
  simpa [toks, tokv] using h
/-- the contract of 'token' with its cells written out -/
theorem tokv_out (t : Tok) : (tokv t).toArray = #[.int .i64 t.1, .int .i64 t.2.1, .int .i64 t.2.2] := rfl
end Go.Proofs.YtgmddhljgfbibaaDoor
/- zig.order, zig.Order, ZigOrder of the reference. -/
namespace Go.Proofs.YtgmddhljgfbibaaDoor
set_option linter.unusedVariables false
set_option linter.unusedSimpArgs false
open Go.RowKit
theorem size47 : (Tryd.prog.info? 42).map (·.size) = some 64 := by kernel_rfl
theorem zero47 : (Tryd.prog.info? 42).bind (·.zero) = some (.agg (bv (List.replicate 64 0))) := by kernel_rfl
theorem elt_int : Elt Tryd.prog 30 3 1 8 := ⟨Tryd.underlying30, by kernel_rfl, by omega⟩
theorem zord_set (k : Nat) (h : k < 64) (z : Int) : (zigL.take k ++ List.replicate (64 - k) 0).set k z = zigL.take k ++ [z] ++ List.replicate (64 - (k + 1)) 0 := by
  have hl : (zigL.take k).length = k := by rw [List.length_take, zigL_len]; omega
  rw [List.set_append_right _ _ (by omega), hl, Nat.sub_self]
  obtain ⟨m, hm⟩ : ∃ m, 64 - k = m + 1 := ⟨64 - k - 1, by omega⟩
  have hm2 : 64 - (k + 1) = m := by omega
  rw [hm, hm2, List.replicate_succ, List.set_cons_zero]
  simp
theorem tup {s : Int × Int × Bool} {a b : Int} {c : Bool} (h : s = (a, b, c)) : s.1 = a ∧ s.2.1 = b ∧ s.2.2 = c := by subst h; exact ⟨rfl, rfl, rfl⟩
set_option maxHeartbeats 800000 in
theorem order_any (w : World) : Calls Tryd.prog 86 #[] w fun e w' => e = .returned (.agg (bv zigL)) ∧ Ext w w' := by
  go_enter Tryd.func86, Tryd.ntmps86
  go_wp2_with (refine wpList_alloc_abs rfl 42 rfl _ zero47 ?_; intro w1 g hb1 hx1 hg)
  go_loopw [1, 2, 3, 5] (fun r c u i wr => ∃ k : Nat, k ≤ 64 ∧ i = .int .i64 k ∧ r = .int .i64 (zst k).1 ∧ c = .int .i64 (zst k).2.1 ∧ u = .bool (zst k).2.2 ∧ Blk wr g 42 (bv (zigL.take k ++ List.replicate (64 - k) 0)) ∧ Ext w wr) (fun _ _ _ i _ => 64 - (intOf i).toNat)
  case atStart => exact ⟨0, by omega, rfl, rfl, rfl, rfl, hb1, hx1⟩
  case round =>
    obtain ⟨k, hk, rfl, rfl, rfl, rfl, hb, hx⟩ := hrel
    by_cases hlt : k < 64
    · obtain ⟨b1, b2, b3, b4⟩ := zst_bd k hlt
      have HS : Hid (zst (k + 1) = zstep (zst k)) := hid_ rfl
      have HZ : Hid (zigAt k = 8 * (zst k).1 + (zst k).2.1) := hid_ rfl
      obtain ⟨old, hold⟩ : ∃ u, wr.cell? ⟨g, k, none⟩ = some u := by
        rw [hb.cell k]
        exact ⟨_, bv_at _ k (by simp [zigL_len]; omega)⟩
      have hfr := hb.frozen k
      have hnew := hid_ (hb.set_ k (.int .i64 (8 * (zst k).1 + (zst k).2.1)))
      generalize hst : zst k = st at *
      obtain ⟨r, c, u⟩ := st
      have HST := hid_ hst
      clear hst
      simp only at b1 b2 b3 b4 HZ hnew
      have fin : ∀ (a b : Int) (d : Bool), zstep (r, c, u) = (a, b, d) → zst (k + 1) = (a, b, d) := fun a b d h => by rw [HS.out, h]
      have FIN := hid_ fin
      have hblk : Hid (Blk (wr.setCell ⟨g, k, none⟩ (.int .i64 (8 * r + c))) g 42 (bv (zigL.take (k + 1) ++ List.replicate (64 - (k + 1)) 0))) := by
        have := hnew.out
        rw [bv_set, zord_set k hlt] at this
        rw [zigL_take_succ k hlt, HZ.out]
        exact this
      have hxx := hid_ (hx.setCell (p := ⟨g, k, none⟩) hg (.int .i64 (8 * r + c)))
      clear fin hnew hb hx
      cases u with
      | true =>
        by_cases h7 : c = 7
        · obtain ⟨f1, f2, f3⟩ := tup (FIN.out (r + 1) c false (by simp [zstep, h7]))
          have F := hid_ f1; have F2 := hid_ f2; have F3 := hid_ f3
          have h7' : (c == 7) = true := by simpa using h7
          clear f1 f2 f3 h7
          go_wp2_with fail
          go_roundw
          case rel => exact ⟨k + 1, by omega, by go_num, by rw [F.out], by rw [F2.out], by rw [F3.out], hblk.out, hxx.out⟩
          case measure => simp [intOf]; omega
        · have h7' : (c == 7) = false := by simpa using h7
          by_cases h0 : r = 0
          · obtain ⟨f1, f2, f3⟩ := tup (FIN.out r (c + 1) false (by simp [zstep, h7, h0]))
            have F := hid_ f1; have F2 := hid_ f2; have F3 := hid_ f3
            have h0' : (r == 0) = true := by simpa using h0
            clear f1 f2 f3 h7 h0
            go_wp2_with fail
            go_roundw
            case rel => exact ⟨k + 1, by omega, by go_num, by rw [F.out], by rw [F2.out], by rw [F3.out], hblk.out, hxx.out⟩
            case measure => simp [intOf]; omega
          · obtain ⟨f1, f2, f3⟩ := tup (FIN.out (r - 1) (c + 1) true (by simp [zstep, h7, h0]))
            have F := hid_ f1; have F2 := hid_ f2; have F3 := hid_ f3
            have h0' : (r == 0) = false := by simpa using h0
            clear f1 f2 f3 h7 h0
            go_wp2_with fail
            go_roundw
            case rel => exact ⟨k + 1, by omega, by go_num, by rw [F.out], by rw [F2.out], by rw [F3.out], hblk.out, hxx.out⟩
            case measure => simp [intOf]; omega
      | false =>
        by_cases h7 : r = 7
        · obtain ⟨f1, f2, f3⟩ := tup (FIN.out r (c + 1) true (by simp [zstep, h7]))
          have F := hid_ f1; have F2 := hid_ f2; have F3 := hid_ f3
          have h7' : (r == 7) = true := by simpa using h7
          clear f1 f2 f3 h7
          go_wp2_with fail
          go_roundw
          case rel => exact ⟨k + 1, by omega, by go_num, by rw [F.out], by rw [F2.out], by rw [F3.out], hblk.out, hxx.out⟩
          case measure => simp [intOf]; omega
        · have h7' : (r == 7) = false := by simpa using h7
          by_cases h0 : c = 0
          · obtain ⟨f1, f2, f3⟩ := tup (FIN.out (r + 1) c true (by simp [zstep, h7, h0]))
            have F := hid_ f1; have F2 := hid_ f2; have F3 := hid_ f3
            have h0' : (c == 0) = true := by simpa using h0
            clear f1 f2 f3 h7 h0
            go_wp2_with fail
            go_roundw
            case rel => exact ⟨k + 1, by omega, by go_num, by rw [F.out], by rw [F2.out], by rw [F3.out], hblk.out, hxx.out⟩
            case measure => simp [intOf]; omega
          · obtain ⟨f1, f2, f3⟩ := tup (FIN.out (r + 1) (c - 1) false (by simp [zstep, h7, h0]))
            have F := hid_ f1; have F2 := hid_ f2; have F3 := hid_ f3
            have h0' : (c == 0) = false := by simpa using h0
            clear f1 f2 f3 h7 h0
            go_wp2_with fail
            go_roundw
            case rel => exact ⟨k + 1, by omega, by go_num, by rw [F.out], by rw [F2.out], by rw [F3.out], hblk.out, hxx.out⟩
            case measure => simp [intOf]; omega
    · obtain rfl : k = 64 := by omega
      have hs : Hid ((bv zigL).size = 64) := hid_ (by rw [bv_size, zigL_len])
      have ho := hid_ (bv_one zigL)
      have e : zigL.take 64 ++ List.replicate (64 - 64) 0 = zigL := by rw [List.take_of_length_le (by rw [zigL_len]; omega)]; simp
      rw [e] at hb
      clear e
      generalize hcz : bv zigL = cz at *
      have HCZ := hid_ hcz
      clear hcz
      go_wp2_with (first
        | (refine wpList_load_blk rfl 42 (.tmp 0) rfl _ rfl hb _ Tryd.underlying42 rfl 64 size47 hs.out ?_)
        | (refine wpList_store_blk rfl 42 (.tmp 0) (.tmp 51) rfl _ _ rfl rfl hb 64 size47 hs.out hs.out ho.out ?_; intro w7 hb7 hg7))
      exact ret_cell rfl rfl _ rfl hb7 _ Tryd.underlying42 rfl 64 size47 hs.out ⟨by rw [HCZ.out], hx.grown hg7 hg⟩
set_option maxHeartbeats 800000 in
theorem rzigOrder_own (w : World) : Calls Tryd.prog 82 #[] w fun e w' => ∃ v, e = .returned v ∧ w'.ownsRow w.heap.size 3 1 v 64 (ints zigL) ∧ Ext w w' := by
  go_enter Tryd.func82, Tryd.ntmps82
  go_wp2_with fail
  go_loopw [1, 6] (fun v i wr => ∃ s : Nat, s ≤ 15 ∧ i = .int .i64 s ∧ wr.ownsRow w.heap.size 3 1 v (zall s).length (ints (zall s)) ∧ Ext w wr) (fun _ i _ => 15 - (intOf i).toNat)
  case atStart => exact ⟨0, by omega, rfl, World.ownsRow_nil _ _ _ _, Ext.refl w⟩
  case round =>
    obtain ⟨s, hs, rfl, hown, hx⟩ := hrel
    by_cases hlt : s < 15
    · have hsd : decide ((s : Int) < 15) = true := by simp; omega
      go_wp2_with fail
      obtain ⟨wo, rfl⟩ : ∃ wo : World, wo = wr := ⟨_, rfl⟩
      go_loopw [1, 9] (fun v i wr => ∃ k : Nat, k ≤ 8 ∧ i = .int .i64 k ∧ wr.ownsRow w.heap.size 3 1 v (zall s ++ zrow s k).length (ints (zall s ++ zrow s k)) ∧ Ext w wr) (fun _ i _ => 8 - (intOf i).toNat)
      case atStart => exact ⟨0, by omega, rfl, by simpa [zrow] using hown, hx⟩
      case round =>
        obtain ⟨k, hk, rfl, hown2, hx2⟩ := hrel
        by_cases hlk : k < 8
        · have hzl := zlen s k hs hk
          have hlen : (ints (zall s ++ zrow s k)).length = (zall s ++ zrow s k).length := ints_len _
          have HZ := hid_ (zrow_succ s k)
          by_cases hp : s % 2 = 0
          · have hp' : ((s : Int) % 2 == 0) = true := by simp; omega
            rw [if_pos hp] at HZ
            cases hq : inB ((s : Int) - (7 - (k : Int))) 0 7 with
            | true =>
              have hin := inB_iff.1 hq
              have HZ2 := hid_ (HZ.out.trans (by rw [if_pos hin]))
              clear HZ hin hp hlen
              go_wp2_with (first
                | (go_at_call 41; refine (outside_any _ _ _ _).mono ?_; rintro e w' ⟨rfl, rfl⟩)
                | (at_builtin; go_must (refine wpList_append_sl elt_int rfl _ _ rfl w.heap.size _ _ _ rfl (hown2.alloc _) _ 1 [.int .i64 _] rfl (one_sl _ _ _) (int_one _) (by omega) (by omega) (by have := hx2.size; simp; omega) ?_); intro v' w7 hown7 hb7))
              go_roundw
              case rel =>
                refine ⟨k + 1, by omega, by go_num, ?_, (hx2.alloc _).trans' hb7⟩
                rw [HZ2.out, ← List.append_assoc]
                exact own_snoc hown7
              case measure => simp [intOf]; omega
            | false =>
              have hin := inB_not.1 hq
              have HZ2 := hid_ (HZ.out.trans (by rw [if_neg (by omega)]))
              clear HZ hin hp hlen
              go_wp2_with (go_at_call 41; refine (outside_any _ _ _ _).mono ?_; rintro e w' ⟨rfl, rfl⟩)
              go_roundw
              case rel => exact ⟨k + 1, by omega, by go_num, by rw [HZ2.out, List.append_nil]; exact hown2, hx2⟩
              case measure => simp [intOf]; omega
          · have hp' : ((s : Int) % 2 == 0) = false := by simp; omega
            rw [if_neg hp] at HZ
            cases hq : inB ((s : Int) - (k : Int)) 0 7 with
            | true =>
              have hin := inB_iff.1 hq
              have HZ2 := hid_ (HZ.out.trans (by rw [if_pos hin]))
              clear HZ hin hp hlen
              go_wp2_with (first
                | (go_at_call 41; refine (outside_any _ _ _ _).mono ?_; rintro e w' ⟨rfl, rfl⟩)
                | (at_builtin; go_must (refine wpList_append_sl elt_int rfl _ _ rfl w.heap.size _ _ _ rfl (hown2.alloc _) _ 1 [.int .i64 _] rfl (one_sl _ _ _) (int_one _) (by omega) (by omega) (by have := hx2.size; simp; omega) ?_); intro v' w7 hown7 hb7))
              go_roundw
              case rel =>
                refine ⟨k + 1, by omega, by go_num, ?_, (hx2.alloc _).trans' hb7⟩
                rw [HZ2.out, ← List.append_assoc]
                exact own_snoc hown7
              case measure => simp [intOf]; omega
            | false =>
              have hin := inB_not.1 hq
              have HZ2 := hid_ (HZ.out.trans (by rw [if_neg (by omega)]))
              clear HZ hin hp hlen
              go_wp2_with (go_at_call 41; refine (outside_any _ _ _ _).mono ?_; rintro e w' ⟨rfl, rfl⟩)
              go_roundw
              case rel => exact ⟨k + 1, by omega, by go_num, by rw [HZ2.out, List.append_nil]; exact hown2, hx2⟩
              case measure => simp [intOf]; omega
        · obtain rfl : k = 8 := by omega
          have HS := hid_ (zall_succ s)
          go_wp2_with fail
          go_roundw
          case rel => exact ⟨s + 1, by omega, by go_num, by rw [HS.out]; exact hown2, hx2⟩
          case measure => simp [intOf]; omega
    · obtain rfl : s = 15 := by omega
      rw [zall_15] at hown
      rw [zigL_len] at hown
      have HSL := hid_ hown
      clear hown
      go_wp2_with fail
      go_ret
      exact ⟨_, rfl, HSL.out, hx⟩
theorem rzigOrder_any (w : World) : Calls Tryd.prog 82 #[] w fun e w' => ∃ v, e = .returned v ∧ SL w' 1 v 64 (ints zigL) ∧ Ext w w' :=
  (rzigOrder_own w).mono fun _ _ ⟨v, he, hs, hx⟩ => ⟨v, he, own_sl hs, hx⟩
theorem rzigOrder_sl (w : World) : Calls Tryd.prog 82 #[] w fun e w' => ∃ A c, e = .returned (.slice A 64 c) ∧ SL w' 1 (.slice A 64 c) 64 (ints zigL) ∧ (∀ ad, A = some ad → w.heap.size ≤ ad.block) ∧ Ext w w' :=
  (rzigOrder_own w).mono fun e w' ⟨v, he, hs, hx⟩ => by
    obtain ⟨A, c, rfl, h1, h2⟩ := own_form hs
    exact ⟨A, c, he, h1, h2, hx⟩
theorem run_index47 (cs : Array Value) (i : Nat) (u : Value) (hi : i < 64) (hu : cs[i]? = some u) (w : World) : (Instr.index 42 (.agg cs) (.int .i64 (i : Int))).run Tryd.prog w = .ok u w :=
  run_index_agg _ _ 64 cs i u Tryd.underlying42 _ Tryd.underlying3 sizeInt hi hu w
theorem zigN (k : Nat) (h : k < 64) : ∃ n : Nat, zigAt k = (n : Int) ∧ n < 64 := by
  have := zigAt_bd k h
  exact ⟨(zigAt k).toNat, by omega, by omega⟩
end Go.Proofs.YtgmddhljgfbibaaDoor
/- The block of noughts. -/
namespace Go.Proofs.YtgmddhljgfbibaaDoor
set_option linter.unusedVariables false
set_option linter.unusedSimpArgs false
open Go.RowKit
def zeros64 : List Int := List.replicate 64 0
theorem built48 : Tryd.prog.built 43 [] = some (bv zeros64) := by kernel_rfl
theorem zero48 : (Tryd.prog.info? 43).bind (·.zero) = some (.agg (bv zeros64)) := by kernel_rfl
end Go.Proofs.YtgmddhljgfbibaaDoor
