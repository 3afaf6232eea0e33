/- Contracts for the law ScanDecodesUptoCard, part 17: what the functions that it reaches answer, for all arguments that the theorems name. -/
import Derived.Test.YtgmddhljgfbibaaGreatDoorMScanDecodesUptoCard16
import Derived.Test.YtgmddhljgfbibaaGreatDoorMScanDecodesUptoCard12
import Derived.Test.YtgmddhljgfbibaaGreatDoorMScanDecodesUptoCard13
import Derived.Test.YtgmddhljgfbibaaGreatDoorMScanDecodesUptoCard7
import Derived.Test.YtgmddhljgfbibaaGreatDoorMScanDecodesUptoCard6
import Derived.Test.YtgmddhljgfbibaaGreatDoorMScanDecodesUptoCard4
/- seg.each: whoever eats the tokens of blocks. -/
namespace Go.Proofs.YtgmddhljgfbibaaGreatDoor
set_option linter.unusedVariables false
set_option linter.unusedSimpArgs false
open Go.RowKit
section
variable {σ : Type} {C : σ → Prop}
/-- called through f, with what is captured behind the token and the flag, it steps; what it holds stands in the blocks F, which may grow by new ones -/
structure Eat (f : FuncId) (cap : Array Value) (Inv : World → σ → (Nat → Prop) → Prop) (step : σ → Tok → Bool → Int × σ) (C : σ → Prop) : Prop where
  goes : Goes Tryz.prog f
  back : ∀ l s, C (eatGo step l s).2 → C s
  ask : ∀ t b s F W, C (step s t b).2 → tokWf t → Inv W s F → Calls Tryz.prog f (#[.agg (tokv t).toArray, .bool b] ++ cap) W fun e w' => e = .returned (.int .i64 (step s t b).1) ∧ Upd F W w' ∧ ∃ F', Inv w' (step s t b).2 F' ∧ ∀ x, F' x → F x ∨ W.heap.size ≤ x
  keep : ∀ s F W W', Inv W s F → Ext W W' → Inv W' s F
  old : ∀ s F W x, Inv W s F → F x → x < W.heap.size
variable {f : FuncId} {cap : Array Value} {Inv : World → σ → (Nat → Prop) → Prop} {step : σ → Tok → Bool → Int × σ}
theorem Eat.ext (E : Eat f cap Inv step C) {s : σ} {F : Nat → Prop} {W W' : World} (h : Inv W s F) (hx : Ext W W') : Inv W' s F := E.keep s F W W' h hx
/-- what each hands back -/
def EachIs (Inv : World → σ → (Nat → Prop) → Prop) (F : Nat → Prop) (w : World) (r : Int × σ) (e : Ending) (w' : World) : Prop :=
  e = .returned (.int .i64 r.1) ∧ Upd F w w' ∧ ∃ F', Inv w' r.2 F' ∧ ∀ x, F' x → F x ∨ w.heap.size ≤ x
theorem EachIs.mk {F F' : Nat → Prop} {w w' : World} {r : Int × σ} {n : Int} {s : σ} (hr : r = (n, s)) (hu : Upd F w w') (hi : Inv w' s F') (hF : ∀ x, F' x → F x ∨ w.heap.size ≤ x) : EachIs Inv F w r (.returned (.int .i64 n)) w' := by
  subst hr
  exact ⟨rfl, hu, F', hi, hF⟩
theorem bv_out (zs : List Int) : (ints zs).toArray = bv zs := rfl
theorem SL.updq {S : Nat → Prop} {w w' : World} {size n c : Nat} {A : Option Addr} {xs : List Value} (h : SL w size (.slice A n c) n xs) (hu : Upd S w w') (hS : ∀ ad, A = some ad → 0 < n → ¬ S ad.block) : SL w' size (.slice A n c) n xs := by
  obtain ⟨A', c', e, h1, h2, h3, h4⟩ := h
  injection e with e1 e2 e3
  subst e1 e3
  refine ⟨_, _, rfl, h1, h2, h3, fun h0 => ?_⟩
  obtain ⟨ad, rfl, hb, hc⟩ := h4 h0
  refine ⟨ad, rfl, Nat.lt_of_lt_of_le hb hu.size, fun j u hj => ?_⟩
  rw [← hc j u hj]
  unfold World.cell?
  rw [block_of_add, hu.block _ hb (hS ad rfl h0)]
theorem zigAt_0 : zigAt 0 = 0 := by decide
theorem zto_head (zs : List Int) : (zto zs).getD 0 0 = zs.getD 0 0 := by
  have h : 0 < (zto zs).length := by rw [zto_len]; omega
  rw [List.getD_eq_getElem?_getD, List.getElem?_eq_getElem h]
  simp [zto, zigAt_0]
theorem getD_inZ {zs : List Int} {lo hi : Int} (h : allIn zs lo hi = true) (k : Nat) (h1 : lo ≤ 0) (h2 : 0 ≤ hi) : lo ≤ zs.getD k 0 ∧ zs.getD k 0 ≤ hi := by
  rw [List.getD_eq_getElem?_getD]
  cases hq : zs[k]? with
  | none => exact ⟨h1, h2⟩
  | some y => exact allIn_iff.1 h y (List.mem_of_getElem? hq)
theorem befAt_in {Z : List Int} {k : Nat} (h : ∀ j, j < k → allIn (blkAt Z j) (-2047) 2047 = true) : -2047 ≤ befAt Z k ∧ befAt Z k ≤ 2047 := by
  unfold befAt
  split
  · omega
  · exact getD_inZ (h (k - 1) (by omega)) 0 (by omega) (by omega)
theorem befAt_0 (Z : List Int) : befAt Z 0 = 0 := if_pos rfl
theorem befAt_succ (Z : List Int) (k : Nat) : befAt Z (k + 1) = (blkAt Z k).getD 0 0 := if_neg (by omega)
theorem toksAt_out (Z : List Int) (k : Nat) : toksAt Z k = tokensZ (befAt Z k) (zto (blkAt Z k)) := rfl
attribute [local irreducible] tokensZ zto bv toks accT eatGo flagsAt toksAt befAt blkAt
set_option maxRecDepth 20000 in
set_option maxHeartbeats 4000000 in
theorem each_any (E : Eat f cap Inv step C) (A : Option Addr) (n c : Nat) (Z : List Int) (hZ : Z.length = n * 64) (w : World) (hs : SL w 64 (.slice A n c) n (ints Z)) (s : σ) (F : Nat → Prop) (hI : Inv w s F) (hA : ∀ ad, A = some ad → 0 < n → ¬ F ad.block) (hCR : C (eachZ step n Z s).2) :
    Calls Tryz.prog 40 #[.slice A n c, .func (.func f) #[] cap] w (EachIs Inv F w (eachZ step n Z s)) := by
  have hs' := hs
  obtain ⟨A', c', he, hnc, hc2, -, -⟩ := hs'
  injection he with he1 he2 he3
  subst he1 he3
  by_cases hn : 400 < n
  · have hR : eachZ step n Z s = (2, s) := if_pos hn
    have HR := hid_ hR
    generalize eachZ step n Z s = R at *
    clear hR hs
    go_enter Tryz.func40, Tryz.ntmps40
    go_wp2_with fail
    go_ret
    exact EachIs.mk HR.out (Upd.refl _ _) hI (fun x h => .inl h)
  · have hR : eachZ step n Z s = if allIn Z (-2047) 2047 = false then (1, s) else eatGo step (flagsAt Z n 0) s := if_neg hn
    have HR := hid_ hR
    have HCR := hid_ hCR
    generalize eachZ step n Z s = R at *
    clear hR hCR
    have hn4 : n ≤ 400 := by omega
    have HZ := hid_ hZ
    clear hn hZ
    have HAL := hid_ (show (Tryz.prog.info? 37).bind (·.zero) = some (.agg (bv (List.replicate 64 0))) from zero48)
    have hz0 := hid_ (show (Value.agg (bv (List.replicate 64 0))).cells.size = 64 by rw [show (Value.agg (bv (List.replicate 64 0))).cells = bv (List.replicate 64 0) from rfl, bv_size]; rfl)
    generalize bv (List.replicate 64 0) = cz at *
    go_enter Tryz.func40, Tryz.ntmps40
    go_wp2_with fail
    go_loopw [22] (fun i wr => ∃ k : Nat, k ≤ n ∧ i = .int .i64 (k : Int) ∧ Ext w wr ∧ Hid (∀ j, j < k → allIn (blkAt Z j) (-2047) 2047 = true)) (fun i _ => n - (intOf i).toNat)
    case atStart => exact ⟨0, by omega, rfl, Ext.refl w, hid_ (fun j h => by omega)⟩
    case round =>
      obtain ⟨k, hk, rfl, hx, HP⟩ := hrel
      by_cases hlt : k < n
      · obtain ⟨ad, rfl, hab, hca⟩ := (hs.ext hx).part hlt
        have hbl := blkAt_len Z n k HZ.out hlt
        have e : ((ints Z).drop (k * 64)).take 64 = ints (blkAt Z k) := by simp [ints, blkAt, List.map_drop, List.map_take]
        rw [e] at hca
        clear e
        have HCA := hid_ hca
        have HB := hid_ hbl
        have HSZ := hid_ (show (bv (blkAt Z k)).size = 64 by rw [bv_size]; exact hbl)
        have HO1 := hid_ (bv_one (blkAt Z k))
        have HBV := hid_ (bv_out (blkAt Z k))
        clear hca hbl
        cases hal : allIn (blkAt Z k) (-2047) 2047 with
        | false =>
          have HT := hid_ (fun W => rtok_bad 0 (blkAt Z k) W HB.out (.inr ⟨by decide, hal⟩))
          have HRE : Hid (R = (1, s)) := hid_ (by
            rw [HR.out, if_pos]
            cases hq : allIn Z (-2047) 2047 with
            | false => rfl
            | true => have := (blkAt_in Z n HZ.out).1 hq k hlt; rw [hal] at this; cases this)
          have HCB : Hid (∀ W, CellsAt W (ad.add (k * 64)) (ints (blkAt Z k)) → CellsAt W (ad.add (k * 64)) (bv (blkAt Z k)).toList) := hid_ (fun W h => by rw [← HBV.out]; simpa using h)
          clear hal
          go_wp2_with (first
            | (show wpList _ _ _ (⟨some 25, _, _, _, _, _⟩ :: _) _ _; refine wpList_load_any (by rfl) 37 (.tmp 24) rfl (ad.add (k * 64)) rfl (ints (blkAt Z k)) _ HCA.out Tryz.underlying37 rfl (by rw [ints_len, HB.out]; exact size48) ?_; rw [HBV.out])
            | (show wpList _ _ _ (⟨some 6, _, _, _, _, _⟩ :: _) _ _; refine wpList_alloc_abs' rfl (some 6) rfl 37 rfl _ HAL.out ?_; intro w1 g1 hb1 hx1 hg1)
            | (show wpList _ _ _ (⟨none, .store _ (.tmp 6) (.tmp 25), _, _, _, _⟩ :: _) _ _; refine wpList_store_blk rfl 37 (.tmp 6) (.tmp 25) rfl _ _ rfl rfl hb1 64 size48 HSZ.out hz0.out HO1.out ?_; intro w2 hb2 hg2)
            | (show wpList _ _ _ (⟨some 27, _, _, _, _, _⟩ :: _) _ _; refine wpList_load_blk rfl 37 (.tmp 6) rfl g1 rfl hb2 _ Tryz.underlying37 rfl 64 size48 HSZ.out ?_)
            | (go_at_call 68; (with_reducible refine (HT.out _).mono ?_); rintro e w3 ⟨rfl, hx3⟩))
          go_ret
          have hx4 := (hx.trans (hx1.grown hg2 hg1)).trans hx3
          exact EachIs.mk HRE.out (upd_of_ext hx4) (E.ext hI hx4) (fun x h => .inl h)
        | true =>
          have hzh := getD_inZ hal 0 (by omega) (by omega)
          rw [← zto_head] at hzh
          have HT := hid_ (fun W => rtok_good 0 (blkAt Z k) W HB.out (by omega) (by omega) hal hzh.1 hzh.2)
          have HP' : Hid (∀ j, j < k + 1 → allIn (blkAt Z j) (-2047) 2047 = true) := hid_ (fun j hj => by
            rcases Nat.lt_or_ge j k with h1 | h1
            · exact HP.out j h1
            · obtain rfl : j = k := by omega
              exact hal)
          clear hal hzh HP
          generalize tokensZ 0 (zto (blkAt Z k)) = T0 at *
          go_wp2_with (first
            | (show wpList _ _ _ (⟨some 25, _, _, _, _, _⟩ :: _) _ _; refine wpList_load_any (by rfl) 37 (.tmp 24) rfl (ad.add (k * 64)) rfl (ints (blkAt Z k)) _ HCA.out Tryz.underlying37 rfl (by rw [ints_len, HB.out]; exact size48) ?_; rw [HBV.out])
            | (show wpList _ _ _ (⟨some 6, _, _, _, _, _⟩ :: _) _ _; refine wpList_alloc_abs' rfl (some 6) rfl 37 rfl _ HAL.out ?_; intro w1 g1 hb1 hx1 hg1)
            | (show wpList _ _ _ (⟨none, .store _ (.tmp 6) (.tmp 25), _, _, _, _⟩ :: _) _ _; refine wpList_store_blk rfl 37 (.tmp 6) (.tmp 25) rfl _ _ rfl rfl hb1 64 size48 HSZ.out hz0.out HO1.out ?_; intro w2 hb2 hg2)
            | (show wpList _ _ _ (⟨some 27, _, _, _, _, _⟩ :: _) _ _; refine wpList_load_blk rfl 37 (.tmp 6) rfl g1 rfl hb2 _ Tryz.underlying37 rfl 64 size48 HSZ.out ?_)
            | (go_at_call 68; (with_reducible refine (HT.out _).mono ?_); rintro e w3 ⟨D, d, rfl, -, hx3⟩))
          go_roundw
          case rel => exact ⟨k + 1, by omega, by go_num, (hx.trans (hx1.grown hg2 hg1)).trans hx3, HP'⟩
          case measure => simp [intOf]; omega
      · obtain rfl : n = k := by omega
        have HR2 : Hid (eatGo step (flagsAt Z n 0) s = R) := hid_ (by rw [HR.out, if_neg]; rw [(blkAt_in Z n HZ.out).2 HP.out]; simp)
        have HPA : Hid (∀ j, j < n → allIn (blkAt Z j) (-2047) 2047 = true) := hid_ HP.out
        have hI1 := E.ext hI hx
        have hs1 := hs.ext hx
        have hb0 := befAt_0 Z
        have HB0 := hid_ hb0
        clear HR hb0 hlt
        have hA1 : Hid (∀ (F' : Nat → Prop), (∀ x, F' x → F x ∨ w.heap.size ≤ x) → ∀ ad, A = some ad → 0 < n → ¬ F' ad.block) := hid_ (fun F' h ad e h0 k => by
          rcases h _ k with h1 | h1
          · exact hA ad e h0 h1
          · obtain ⟨A'', c'', e2, -, -, -, h5⟩ := hs
            injection e2 with e3 _ _
            subst e3
            obtain ⟨ad', e4, h6, -⟩ := h5 h0
            rw [e] at e4
            injection e4 with e4
            subst e4
            omega)
        have hu0 : Upd F w wr := upd_of_ext hx
        have hsw := hx.size
        clear hx hI hA hs HP
        go_wp2_with fail
        obtain ⟨wo, rfl⟩ : ∃ wo : World, wo = wr := ⟨_, rfl⟩
        go_loopw [9, 37] (fun b i wr => ∃ (k : Nat) (q : σ) (G : Nat → Prop), k ≤ n ∧ i = .int .i64 (k : Int) ∧ b = .int .i64 (befAt Z k) ∧ Upd F w wr ∧ w.heap.size ≤ wr.heap.size ∧ Inv wr q G ∧ Hid (∀ x, G x → F x ∨ w.heap.size ≤ x) ∧ SL wr 64 (.slice A n c) n (ints Z) ∧ Hid (eatGo step (flagsAt Z n k) q = R)) (fun _ i _ => n - (intOf i).toNat)
        case atStart => exact ⟨0, s, F, by omega, rfl, by rw [HB0.out], hu0, hsw, hI1, hid_ (fun x h => .inl h), hs1, HR2⟩
        case round =>
          clear hu0 hsw hI1 hs1 HR2
          obtain ⟨k, q, G, hk, rfl, rfl, hu, hsw, hI, HG, hs, HR⟩ := hrel
          by_cases hlt : k < n
          · have hAG : ∀ ad, A = some ad → 0 < n → ¬ G ad.block := hA1.out G HG.out
            have HAG := hid_ hAG
            clear hAG
            obtain ⟨ad, rfl, hab, hca⟩ := hs.part hlt
            have hbl := blkAt_len Z n k HZ.out hlt
            have e : ((ints Z).drop (k * 64)).take 64 = ints (blkAt Z k) := by simp [ints, blkAt, List.map_drop, List.map_take]
            rw [e] at hca
            clear e
            have HCA := hid_ hca
            have HB := hid_ hbl
            have HSZ := hid_ (show (bv (blkAt Z k)).size = 64 by rw [bv_size]; exact hbl)
            have HO1 := hid_ (bv_one (blkAt Z k))
            have HBV := hid_ (bv_out (blkAt Z k))
            have hal := HPA.out k hlt
            have hzh := getD_inZ hal 0 (by omega) (by omega)
            rw [← zto_head] at hzh
            have hbf := befAt_in (Z := Z) (k := k) (fun j hj => HPA.out j (by omega))
            have HT := hid_ (fun W => rtok_fresh (befAt Z k) (blkAt Z k) W HB.out hbf.1 hbf.2 hal hzh.1 hzh.2)
            rw [← toksAt_out] at HT
            have HWF : Hid (∀ t ∈ toksAt Z k, tokWf t) := hid_ (by rw [toksAt_out]; exact tokensZ_wf _ _ (zto_len _))
            have HR1 : Hid (eatGo step ((flagT (toksAt Z k)).drop 0 ++ flagsAt Z n (k + 1)) q = R) := hid_ (by rw [List.drop_zero, ← flagsAt_succ Z n k hlt]; exact HR.out)
            have HBS := hid_ (befAt_succ Z k)
            have HB1 : Hid ((bv (blkAt Z k))[0]? = some (.int .i64 ((blkAt Z k).getD 0 0))) := hid_ (by rw [bv_at _ 0 (by omega)]; simp [List.getD_eq_getElem?_getD, hbl])
            obtain ⟨T, hT⟩ : ∃ T, T = toksAt Z k := ⟨_, rfl⟩
            rw [← hT] at HT HWF HR1
            obtain ⟨m, hm⟩ : ∃ m, T.length = m := ⟨_, rfl⟩
            have HM := hid_ hm
            rw [hm] at HT
            clear hT hm hca hbl hal hzh hbf HR
            generalize befAt Z k = bf at *
            go_wp2_with (first
              | (show wpList _ _ _ (⟨some 40, _, _, _, _, _⟩ :: _) _ _; refine wpList_load_any (by rfl) 37 (.tmp 39) rfl (ad.add (k * 64)) rfl (ints (blkAt Z k)) _ HCA.out Tryz.underlying37 rfl (by rw [ints_len, HB.out]; exact size48) ?_; rw [HBV.out])
              | (show wpList _ _ _ (⟨some 11, _, _, _, _, _⟩ :: _) _ _; refine wpList_alloc_abs' rfl (some 11) rfl 37 rfl _ HAL.out ?_; intro w1 g1 hb1 hx1 hg1)
              | (show wpList _ _ _ (⟨none, .store _ (.tmp 11) (.tmp 40), _, _, _, _⟩ :: _) _ _; refine wpList_store_blk rfl 37 (.tmp 11) (.tmp 40) rfl _ _ rfl rfl hb1 64 size48 HSZ.out hz0.out HO1.out ?_; intro w2 hb2 hg2; have hx2 := hx1.grown hg2 hg1)
              | (show wpList _ _ _ (⟨some 43, _, _, _, _, _⟩ :: _) _ _; refine wpList_load_blk rfl 37 (.tmp 11) rfl g1 rfl hb2 _ Tryz.underlying37 rfl 64 size48 HSZ.out ?_)
              | (go_at_call 68; (with_reducible refine (HT.out _).mono ?_); rintro e w3 ⟨D, d, rfl, hs3, hf3, hx3⟩))
            have hG2 : ∀ x, G x → x < wr.heap.size := fun x h => E.old q G wr x hI h
            have HG1 : Hid (¬ G g1) := hid_ (fun h => by have := hG2 g1 h; omega)
            have hx3' : Ext wr w3 := hx2.trans hx3
            have hI3 := E.ext hI hx3'
            have hb3 := hb2.ext hx3
            have hu3 : Upd F w w3 := hu.trans (upd_of_ext (S := fun _ => False) hx3') (fun _ h => h.elim)
            have hs3' := hs.ext hx3'
            have hsw3 : w.heap.size ≤ w3.heap.size := by have := hx3'.size; omega
            have HD3 : Hid (∀ ad, D = some ad → ¬ G ad.block) := hid_ (fun ad e h => by have := hf3 ad e; have := hG2 _ h; have := hx2.size; omega)
            have hs3c := hs3
            obtain ⟨D', d'', he3, hmd, hd2, -, -⟩ := hs3c
            injection he3 with q1 q2 q3
            subst q1 q3
            have hm1 : m ≤ 9223372036854775807 := by omega
            clear hu hsw hI hs hb1 hx1 hg1 hb2 hg2 hx2 hx3 hf3 hG2 hx3'
            clear q2
            go_loopw [49] (fun i wi => ∃ (j : Nat) (p : σ) (G' : Nat → Prop), j ≤ m ∧ i = .int .i64 (j : Int) ∧ Upd F w wi ∧ w.heap.size ≤ wi.heap.size ∧ Inv wi p G' ∧ Hid (∀ x, G' x → F x ∨ w.heap.size ≤ x) ∧ Hid (¬ G' g1) ∧ Hid (∀ ad, D = some ad → ¬ G' ad.block) ∧ SL wi 64 (.slice (some ad) n c) n (ints Z) ∧ Blk wi g1 37 (bv (blkAt Z k)) ∧ SL wi 3 (.slice D m d) m (toks T) ∧ Hid (eatGo step ((flagT T).drop j ++ flagsAt Z n (k + 1)) p = R)) (fun i _ => m - (intOf i).toNat)
            case atStart => exact ⟨0, q, G, by omega, rfl, hu3, hsw3, hI3, HG, HG1, HD3, hs3', hb3, hs3, HR1⟩
            case round =>
              clear hu3 hsw3 hI3 HG HG1 HD3 hs3' hb3 hs3 HR1
              obtain ⟨wo2, rfl⟩ : ∃ wo2 : World, wo2 = w3 := ⟨_, rfl⟩
              obtain ⟨j, p, G', hj, rfl, hu, hsw, hI, HG, HG1, HD, hs, hb, hst, HR⟩ := hrel
              by_cases hlj : j < m
              · obtain ⟨td, rfl, htb, htc⟩ := hst.part hlj
                have hjT : j < T.length := by rw [HM.out]; exact hlj
                rw [toks_part T j hjT] at htc
                have HTC := hid_ htc
                have HRj : Hid (eatGo step ((T[j], j == 0) :: ((flagT T).drop (j + 1) ++ flagsAt Z n (k + 1))) p = R) := hid_ (by have := HR.out; rw [flagT_drop T j hjT, List.cons_append] at this; exact this)
                have hwf := HWF.out T[j] (List.getElem_mem hjT)
                obtain ⟨b, hbq⟩ : ∃ b, b = (j == 0) := ⟨_, rfl⟩
                rw [← hbq] at HRj
                have hjb : ((j : Int) == 0) = b := by rw [hbq]; cases j <;> simp <;> omega
                generalize T[j] = t at *
                have hC2 : C (step p t b).2 := by
                  by_cases h0 : (step p t b).1 = 0
                  · have h := HRj.out
                    rw [eatGo_ok h0] at h
                    have h2 := HCR.out
                    rw [← h] at h2
                    exact E.back _ _ h2
                  · have h := HRj.out
                    rw [eatGo_err h0] at h
                    rw [h]
                    exact HCR.out
                have HAS := hid_ (fun W (h : Inv W p G') => E.ask t b p G' W hC2 hwf h)
                have hold : ∀ x, G' x → x < wr.heap.size := fun x h => E.old p G' wr x hI h
                have HOLD := hid_ hold
                have HAD : Hid (¬ G' ad.block) := hid_ (hA1.out G' HG.out ad rfl (by omega))
                clear hbq hwf hold htc HR hC2
                rcases hst2 : step p t b with ⟨e2, s2⟩
                have HS2 := hid_ hst2
                rw [hst2] at HAS
                clear hst2
                dsimp only at HAS
                by_cases he2 : e2 = 0
                · subst he2
                  have HRn : Hid (eatGo step ((flagT T).drop (j + 1) ++ flagsAt Z n (k + 1)) s2 = R) := hid_ (by have h := HRj.out; rw [eatGo_ok (by rw [HS2.out])] at h; rw [HS2.out] at h; exact h)
                  go_wp2_with (first
                    | (show wpList _ _ _ (⟨some 53, _, _, _, _, _⟩ :: _) _ _; refine wpList_load_any (by rfl) 80 (.tmp 52) rfl (td.add (j * 3)) rfl (tokv t) _ HTC.out Tryz.underlying80 rfl size74 ?_)
                    | (show wpList _ _ _ (⟨some 15, _, _, _, _, _⟩ :: _) _ _; refine wpList_alloc_abs' rfl (some 15) rfl 80 rfl (.agg (tokv (0, 0, 0)).toArray) (by kernel_rfl) ?_; intro w4 g15 hb4 hx4 hg4)
                    | (show wpList _ _ _ (⟨none, .store _ (.tmp 15) (.tmp 53), _, _, _, _⟩ :: _) _ _; refine wpList_store_blk rfl 80 (.tmp 15) (.tmp 53) rfl _ _ rfl rfl hb4 3 sizeTok rfl rfl (tok_oneA t) ?_; intro w5 hb5 hg5; have hx5 : Ext wr w5 := hx4.grown hg5 hg4; have hI5 := E.ext hI hx5; have hsw5 := hx5.size)
                    | (show wpList _ _ _ (⟨some 55, _, _, _, _, _⟩ :: _) _ _; refine wpList_load_blk rfl 80 (.tmp 15) rfl g15 rfl hb5 _ Tryz.underlying80 rfl 3 sizeTok rfl ?_)
                    | (show wpList _ _ _ (⟨some 58, _, _, _, _, _⟩ :: _) _ _; refine wl_enter (by rfl) (run_callv (.tmp 54) _ _ rfl rfl E.goes (#[.agg (tokv t).toArray, .bool b] ++ cap) (by simp [Act.eval])) ?_; (with_reducible refine (HAS.out _ hI5).mono ?_); rintro e w6 ⟨rfl, hu6, G2, hI6, hG6⟩; refine ⟨_, rfl, ?_⟩; have hsw6 := hu6.size))
                  go_roundw
                  case rel =>
                    refine ⟨j + 1, s2, G2, by omega, by go_num, ?_, by omega, hI6, hid_ ?_, hid_ ?_, hid_ ?_, (hs.ext hx5).updq hu6 (fun ad' e' _ k => by injection e' with e'; rw [← e'] at k; exact HAD.out k), hu6.blk (hb.ext hx5) HG1.out, (hst.ext hx5).updq hu6 (fun ad' e' _ => HD.out ad' e'), HRn⟩
                    · exact (hu.trans (upd_of_ext (S := fun _ => False) hx5) (fun _ h => h.elim)).trans hu6 (fun x h => HG.out x h)
                    · exact fun x h => by
                        rcases hG6 x h with h1 | h1
                        · exact HG.out x h1
                        · exact .inr (by omega)
                    · exact fun h => by
                        rcases hG6 _ h with h1 | h1
                        · exact HG1.out h1
                        · have := (hb.ext hx5).lt; omega
                    · exact fun ad' e' h => by
                        rcases hG6 _ h with h1 | h1
                        · exact HD.out ad' e' h1
                        · injection e' with e'; rw [← e'] at h1; have := hx5.size; omega
                  case measure => simp [intOf]; omega
                · have hxb : (e2 != 0) = true := by simpa using he2
                  have HRE : Hid (R = (e2, s2)) := hid_ (by rw [← HRj.out, eatGo_err (by rw [HS2.out]; exact he2), HS2.out])
                  clear he2
                  go_wp2_with (first
                    | (show wpList _ _ _ (⟨some 53, _, _, _, _, _⟩ :: _) _ _; refine wpList_load_any (by rfl) 80 (.tmp 52) rfl (td.add (j * 3)) rfl (tokv t) _ HTC.out Tryz.underlying80 rfl size74 ?_)
                    | (show wpList _ _ _ (⟨some 15, _, _, _, _, _⟩ :: _) _ _; refine wpList_alloc_abs' rfl (some 15) rfl 80 rfl (.agg (tokv (0, 0, 0)).toArray) (by kernel_rfl) ?_; intro w4 g15 hb4 hx4 hg4)
                    | (show wpList _ _ _ (⟨none, .store _ (.tmp 15) (.tmp 53), _, _, _, _⟩ :: _) _ _; refine wpList_store_blk rfl 80 (.tmp 15) (.tmp 53) rfl _ _ rfl rfl hb4 3 sizeTok rfl rfl (tok_oneA t) ?_; intro w5 hb5 hg5; have hx5 : Ext wr w5 := hx4.grown hg5 hg4; have hI5 := E.ext hI hx5; have hsw5 := hx5.size)
                    | (show wpList _ _ _ (⟨some 55, _, _, _, _, _⟩ :: _) _ _; refine wpList_load_blk rfl 80 (.tmp 15) rfl g15 rfl hb5 _ Tryz.underlying80 rfl 3 sizeTok rfl ?_)
                    | (show wpList _ _ _ (⟨some 58, _, _, _, _, _⟩ :: _) _ _; refine wl_enter (by rfl) (run_callv (.tmp 54) _ _ rfl rfl E.goes (#[.agg (tokv t).toArray, .bool b] ++ cap) (by simp [Act.eval])) ?_; (with_reducible refine (HAS.out _ hI5).mono ?_); rintro e w6 ⟨rfl, hu6, G2, hI6, hG6⟩; refine ⟨_, rfl, ?_⟩; have hsw6 := hu6.size))
                  go_ret
                  refine EachIs.mk HRE.out ((hu.trans (upd_of_ext (S := fun _ => False) hx5) (fun _ h => h.elim)).trans hu6 (fun x h => HG.out x h)) hI6 (fun x h => ?_)
                  rcases hG6 x h with h1 | h1
                  · exact HG.out x h1
                  · exact .inr (by omega)
              · have hjm : j = m := by omega
                have HRn : Hid (eatGo step (flagsAt Z n (k + 1)) p = R) := hid_ (by have h := HR.out; rw [List.drop_eq_nil_of_le (by rw [flagT_len, HM.out]; omega), List.nil_append] at h; exact h)
                have hc0 : wr.cell? ⟨g1, 0, none⟩ = some (.int .i64 ((blkAt Z k).getD 0 0)) := (hb.cell 0).trans HB1.out
                go_wp2_with fail
                go_roundw
                case rel => exact ⟨k + 1, p, G', by omega, by go_num, by rw [HBS.out, List.getD_eq_getElem?_getD], hu, hsw, hI, HG, hs, HRn⟩
                case measure => simp [intOf]; omega
          · have hkn : k = n := by omega
            have HRE : Hid (R = (0, q)) := hid_ (by rw [← HR.out, hkn, flagsAt_end]; unfold eatGo; rfl)
            go_wp2_with fail
            go_ret
            exact EachIs.mk HRE.out hu hI HG.out
end
end Go.Proofs.YtgmddhljgfbibaaGreatDoor
/- table.NewCoder, Coder.Put. -/
namespace Go.Proofs.YtgmddhljgfbibaaGreatDoor
set_option linter.unusedVariables false
set_option linter.unusedSimpArgs false
open Go.RowKit Go.Maps Go.WideMaps
set_option maxRecDepth 20000 in
set_option maxHeartbeats 1000000 in
theorem newCoder_any (cs xs : List Int) (sl : Value) (w : World) (hl : cs.length = 16) (hs : SL w 1 sl xs.length (ints xs)) (h : checkZ cs xs = 0) :
    Calls Tryz.prog 49 #[.agg (tblv cs sl)] w fun e w' => ∃ gc, e = .returned (.pointer (some ⟨gc, 0, none⟩)) ∧ CoderS w' gc (zipC (codesW cs 16) xs) ∧ Ext w w' := by
  obtain ⟨q1, q2, q3, q4, q5, q6⟩ := checkZ_zero h
  have HW := hid_ (fun W h => words_any cs xs sl W hl h q1 q4 q2 q3)
  have hts := hid_ (tblv_size cs sl hl)
  have hlen : (codesW cs 16).length = xs.length := by have := codesW_len cs (fun z hz => (allIn_iff.1 q1 z hz).1) 16 (by omega); omega
  have hZl : (zipC (codesW cs 16) xs).length = xs.length := by rw [zipC_len _ _ (by omega), hlen]
  have HAP := hid_ (zipC_apart cs xs q6 hlen)
  have HFIT := hid_ (codesW_fit cs q4 hl 16 (by omega))
  have HIN := hid_ (allIn_iff.1 q5)
  have HAT := hid_ (fun k (h1 : k < (codesW cs 16).length) (h2 : k < xs.length) hk => zipC_at (codesW cs 16) xs k h1 h2 hk)
  have hmm := @run_makeMap Tryz.prog
  generalize tblv cs sl = tv at *
  have HBD : Hid (∀ k (hk : k < (zipC (codesW cs 16) xs).length), 0 ≤ ((zipC (codesW cs 16) xs)[k]).1 ∧ ((zipC (codesW cs 16) xs)[k]).1 ≤ 255 ∧ okP ((zipC (codesW cs 16) xs)[k]).2) := hid_ (fun k hk => by
    have hk1 : k < (codesW cs 16).length := by omega
    have hk2 : k < xs.length := by omega
    rw [HAT.out k hk1 hk2 hk]
    have h1 := HIN.out _ (List.getElem_mem hk2)
    obtain ⟨f1, f2, f3⟩ := HFIT.out _ (List.getElem_mem hk1)
    have h2 := Nat.pow_le_pow_right (n := 2) (by omega) f2
    refine ⟨h1.1, h1.2, ⟨by simp only; omega, by simp only; omega⟩, by simp only; omega, by simp only; omega⟩)
  clear HAT HIN HFIT hlen
  generalize zipC (codesW cs 16) xs = Z at *
  have HZL := hid_ hZl
  clear h q1 q2 q4 q5 q6 hZl
  go_enter Tryz.func49, Tryz.ntmps49
  go_wp2_with (first
    | (refine wpList_box_abs rfl 25 (.tmp 0) rfl tv rfl ?_; intro w1 g hb1 hx1 hg; have hs1 := hs.ext hx1)
    | (refine wpList_box_abs rfl 138 (.tmp 8) rfl _ rfl ?_; intro w3 gc hbc hx3 hgc; have hb3 := ((hb1.alloc (.map #[] 0)).alloc (.map #[] 0)).ext hx3; have hs3 := (hs1.ext (((Ext.refl w1).alloc (.map #[] 0)).alloc (.map #[] 0))).ext hx3)
    | (refine wpList_load_blk rfl 25 (.tmp 1) rfl _ rfl hb3 _ Tryz.underlying25 rfl 17 sizeTbl hts.out ?_)
    | (go_at_call 69; (with_reducible refine (HW.out _ hs3).mono ?_); rintro e w4 ⟨A, c, rfl, hsl, hfr, hx4⟩))
  have hm1 : MapI Tryz.prog 3 w4 w1.heap.size 0 (symF []) := (((MapG.made w1).alloc (.map #[] 0)).ext hx3).ext hx4
  have hm2 : MapP w4 (w1.heap.size + 1) 0 (codeF []) := by
    have := (((MapG.made (P := Tryz.prog) (k := 141) (kl := klP) (ok := okP) (w1.alloc (.map #[] 0))).ext hx3).ext hx4)
    rwa [World.size_alloc] at this
  have hbc4 := hbc.ext hx4
  have hxw : Ext w w4 := ((((hx1.alloc (.map #[] 0)).alloc (.map #[] 0)).trans hx3).trans hx4)
  have hz1 := hx1.size
  have hz3 := hx3.size
  simp only [World.size_alloc] at hz3 hgc
  have hz4 := hx4.size
  have hc1 : xs.length ≤ c ∧ c ≤ 9223372036854775807 := by obtain ⟨A', c', e, h1, h2, -⟩ := hsl; injection e with e1 e2 e3; subst e3; exact ⟨h1, h2⟩
  obtain ⟨hc1, hc2⟩ := hc1
  generalize hM : w1.heap.size = M at *
  clear hM hmm hb1 hb3 hs1 hs3 hbc hx1 hx3 hx4 hs
  go_loopw [13] (fun i wr => ∃ k : Nat, k ≤ xs.length ∧ i = .int .i64 (k : Int) ∧ MapI Tryz.prog 3 wr M k (symF (Z.take k)) ∧ MapP wr (M + 1) k (codeF (Z.take k)) ∧ Upd (fun b => b = M ∨ b = M + 1) w4 wr) (fun i _ => xs.length - (intOf i).toNat)
  case atStart => exact ⟨0, by omega, rfl, hm1, hm2, Upd.refl _ _⟩
  case round =>
    clear hm1 hm2
    obtain ⟨k, hk, rfl, hm1, hm2, hu⟩ := hrel
    by_cases hlt : k < xs.length
    · have hkZ : k < Z.length := by have := HZL.out; omega
      have hslr := hsl.upd hu (fun ad h => by have := hfr ad h; omega)
      obtain ⟨ad, rfl, hbl, h1, h2, h3⟩ := hslr.tok hlt HZL.out hkZ
      have hbcr := hu.blk hbc4 (by omega)
      obtain ⟨a1, a2⟩ := HAP.out k hkZ
      obtain ⟨b1, b2, b3⟩ := HBD.out k hkZ
      have HS1 := hid_ (symF_snoc_same (Z.take k) Z[k] a1)
      have HS2 := hid_ (fun s => symF_snoc_other (Z.take k) Z[k] s)
      have HC1 := hid_ (codeF_snoc_same (Z.take k) Z[k] a2)
      have HC2 := hid_ (fun p => codeF_snoc_other (Z.take k) Z[k] p)
      have HTS := hid_ (toks_take_succ Z k hkZ)
      generalize Z[k] = t at *
      obtain ⟨t1, t2, t3⟩ := t
      simp only at b1 b2
      clear a1 a2
      have hkey1 := hid_ (keyOf_i64 (P := Tryz.prog) Tryz.underlying3 (a := t1) (by omega) (by omega))
      have hkey2 := hid_ (keyOf_P (t2, t3) b3)
      have HB3 := hid_ b3
      clear b3
      simp only at h1 h2 h3
      go_wp2_with fail
      have hn := Blk.new wr 133 #[.int .i64 t1, .int .i64 t2, .int .i64 t3]
      have hxa := Ext.alloc (Ext.refl wr) (.cells #[.int .i64 t1, .int .i64 t2, .int .i64 t3] 133)
      have hm1a := hm1.alloc (.cells #[.int .i64 t1, .int .i64 t2, .int .i64 t3] 133)
      have hm2a := hm2.alloc (.cells #[.int .i64 t1, .int .i64 t2, .int .i64 t3] 133)
      have hbca := hbcr.ext hxa
      have hua := hu.trans (Upd.of_ext (S := fun _ => False) hxa) (fun x hx => hx.elim)
      have hnz : wr.heap.size ≠ M ∧ wr.heap.size ≠ M + 1 := by have := hm1.lt; have := hm2.lt; omega
      generalize hw2 : wr.alloc (.cells #[.int .i64 t1, .int .i64 t2, .int .i64 t3] 133) = w5 at *
      generalize wr.heap.size = gn at *
      clear hw2 h1 h2 h3 hxa hm1 hm2 hbcr hu hslr
      have hcv : ∀ W, Blk W gn 133 #[.int .i64 t1, .int .i64 t2, .int .i64 t3] → W.cell? ⟨gn, 0, none⟩ = some (.int .i64 t1) ∧ W.cell? ⟨gn, 1, none⟩ = some (.int .i64 t2) ∧ W.cell? ⟨gn, 2, none⟩ = some (.int .i64 t3) := fun W h => ⟨h.cell 0, h.cell 1, h.cell 2⟩
      have hcc : ∀ W, Blk W gc 138 #[.map (some M), .map (some (M + 1))] → W.cell? ⟨gc, 0, none⟩ = some (.map (some M)) ∧ W.cell? ⟨gc, 1, none⟩ = some (.map (some (M + 1))) := fun W h => ⟨h.cell 0, h.cell 1⟩
      have HCV := hid_ hcv
      have HCC := hid_ hcc
      clear hcv hcc
      obtain ⟨n1, n2, n3⟩ := HCV.out _ hn
      obtain ⟨g1, g2⟩ := HCC.out _ hbca
      refine wp_region_lxt later_eq 7 (by kernel_rfl) (by kernel_rfl) ?_
      simp only [List.take_succ_cons, List.take_zero]
      iterate 7 (refine lx_ex (by rfl) ?_; apply Exists.intro; refine ⟨fun w hw => ?_, ?_⟩; · (subst hw; go_simp; with_reducible rfl)
                 simp only [Act.put, List.setIfInBounds_toArray, List.set_cons_succ, List.set_cons_zero])
      refine lx_nil ?_
      rintro w6 rfl
      try simp only [List.drop_succ_cons, List.drop_zero]
      clear n1 n2 n3 g1 g2
      have hm1d := hm1a.ext (w' := w5.drew) (Ext.refl w5).drew
      have hm2d := hm2a.ext (w' := w5.drew) (Ext.refl w5).drew
      go_wp2_with (at_mapUpdate; refine wpList_upd_g (by rfl) _ _ _ 135 133 rfl keyed_int Tryz.underlying135 rfl hm1d (by omega) _ rfl _ rfl t1 hkey1.out (symF (Z.take k ++ [(t1, t2, t3)])) HS1.out (fun j _ hj => HS2.out j (fun e => hj (by rw [e]))) (fun j _ hj => by injection hj) ?_; intro w7 hm7 hg7)
      have hn7 := hn.drew.grown hg7 (by simp; omega)
      have hb7 := hbca.drew.grown hg7 (by simp; omega)
      have hm27 := hm2d.grown hg7 (by simp)
      have hu7 := hua.drew.grown hg7 (fun b hb => .inl (by injection hb with hb; exact .inl hb.symm))
      obtain ⟨n1, n2, n3⟩ := HCV.out _ hn7
      obtain ⟨g1, g2⟩ := HCC.out _ hb7
      clear hm1d hm2d hm1a hm2a hua hg7
      simp only [Act.put, List.setIfInBounds_toArray, List.set_cons_succ, List.set_cons_zero]
      refine wp_region_lxt later_eq 11 (by kernel_rfl) (by kernel_rfl) ?_
      simp only [List.take_succ_cons, List.take_zero]
      iterate 11 (refine lx_ex (by rfl) ?_; apply Exists.intro; refine ⟨fun w hw => ?_, ?_⟩; · (subst hw; go_simp; with_reducible rfl)
                  simp only [Act.put, List.setIfInBounds_toArray, List.set_cons_succ, List.set_cons_zero])
      refine lx_nil ?_
      rintro w8 rfl
      try simp only [List.drop_succ_cons, List.drop_zero]
      clear n1 n2 n3 g1 g2
      have hm2e := hm27.ext (w' := w7.drew) (Ext.refl w7).drew
      have hm1e := hm7.ext (w' := w7.drew) (Ext.refl w7).drew
      go_wp2_with (at_mapUpdate; refine wpList_upd_g (by rfl) _ _ _ 136 3 rfl keyed_pair Tryz.underlying136 rfl hm2e (by omega) _ rfl _ rfl (t2, t3) hkey2.out (codeF (Z.take k ++ [(t1, t2, t3)])) HC1.out (fun j hj0 hj => HC2.out j (fun e => hj (by rw [e]))) (fun j hj0 hj => klP_inj hj0 HB3.out hj) ?_; intro w9 hm9 hg9)
      go_roundw
      case rel =>
        refine ⟨k + 1, by omega, by go_num, ?_, ?_, ?_⟩
        · rw [HTS.out]; exact hm1e.grown hg9 (by simp)
        · rw [HTS.out]; exact hm9
        · exact hu7.drew.grown hg9 (fun b hb => .inl (by injection hb with hb; exact .inr hb.symm))
      case measure => simp [intOf]; omega
    · have ek : k = xs.length := by omega
      have HF : Hid (Z.take k = Z) := hid_ (List.take_of_length_le (by have := HZL.out; omega))
      rw [HF.out] at hm1 hm2
      go_wp2_with fail
      go_ret
      exact ⟨gc, rfl, ⟨M, M + 1, k, hu.blk hbc4 (by omega), hm1, hm2⟩, hu.ext hxw (by omega)⟩
end Go.Proofs.YtgmddhljgfbibaaGreatDoor
/- bits.Writer.Bytes. -/
namespace Go.Proofs.YtgmddhljgfbibaaGreatDoor
set_option linter.unusedVariables false
set_option linter.unusedSimpArgs false
open Go.RowKit
theorem padB_zero {L : List Bool} (h : L.length % 8 = 0) : padB L = L := by simp [padB, h]
theorem padB_digs {L : List Bool} {k : Nat} (h : L.length % 8 + k = 8) (h2 : 0 < L.length % 8) : padB L = L ++ digs (2 ^ k - 1) k := by
  rw [digs_ones]
  unfold padB
  congr 2
  omega
theorem own_nilc {w : World} {base : Nat} {e : TypeId} {size n d : Nat} {B : Option Addr} {xs : List Value} (h : w.ownsRow base e size (.slice B n d) n xs) : B = none → d = 0 := by
  rintro rfl
  obtain ⟨-, hh⟩ := h
  rcases hh with ⟨e1, -⟩ | ⟨g, cap, cur, e1, -⟩
  · injection e1
  · injection e1 with e2
    cases e2
set_option maxRecDepth 20000 in
set_option maxHeartbeats 1000000 in
theorem bytes_anyN (gw : Nat) (L : List Bool) (r : Option Nat) (w : World) (h : WrS w gw L r) (hl : L.length ≤ 1000000000000) :
    Calls Tryz.prog 47 #[.pointer (some ⟨gw, 0, none⟩)] w fun e w' => ∃ A c, e = .returned (.slice A (packB (padB L)).length c) ∧ SL w' 1 (.slice A (packB (padB L)).length c) (packB (padB L)).length (bytesV (packB (padB L))) ∧
      (∀ ad, A = some ad → gw < ad.block) ∧ (A = none → c = 0) ∧ Upd (fun b => b = gw ∨ r = some b) w w' := by
  by_cases hm0 : L.length % 8 = 0
  · rw [padB_zero hm0]
    obtain ⟨A, c, hr, hB, hown⟩ := h
    have HPL := hid_ (packB_len L)
    rw [hm0] at hB
    generalize packB L = T at *
    generalize L.length / 8 = n at *
    have c0 := hB.cell 0
    have c2 := hB.cell 2
    simp only [List.getElem?_toArray, List.getElem?_cons_zero, List.getElem?_cons_succ] at c0 c2
    clear hm0
    go_enter Tryz.func47, Tryz.ntmps47
    go_wp2_with fail
    go_ret
    rw [HPL.out]
    obtain ⟨h1, h2⟩ := own_out' hown
    exact ⟨A, c, rfl, h1, (fun ad h => by have := h2 ad h; omega), own_nilc hown, Upd.refl _ _⟩
  · have hw := h
    obtain ⟨A, c, hr, hB, hown⟩ := h
    obtain ⟨k, hk⟩ : ∃ k, L.length % 8 + k = 8 := ⟨8 - L.length % 8, by omega⟩
    rw [padB_digs hk (by omega)]
    have hPk := Nat.two_pow_pos k
    have hP8 : (2 : Nat) ^ k ≤ 2 ^ 8 := Nat.pow_le_pow_right (by omega) (by omega)
    have HPUT := hid_ (fun W (hW : WrS W gw L r) => put_any gw L r (2 ^ k - 1) k W hW (by omega) (by omega) hl)
    have HW1 : Hid (IntKind.i64.wrap (8 - ((L.length % 8 : Nat) : Int)) = (k : Int)) := hid_ (by rw [IntWalk.i64_in _ (by omega)]; omega)
    have HW2 : Hid (IntKind.i64.wrap ((2 : Int) ^ k) = ((2 ^ k : Nat) : Int)) := hid_ (by
      have : ((2 : Int) ^ k) = ((2 ^ k : Nat) : Int) := by push_cast; rfl
      rw [this, IntWalk.i64_in _ (by omega)])
    have HW3 : Hid (IntKind.i64.wrap (((2 ^ k : Nat) : Int) - 1) = ((2 ^ k - 1 : Nat) : Int)) := hid_ (by rw [IntWalk.i64_in _ (by omega)]; omega)
    have c0 := hB.cell 0
    have c2 := hB.cell 2
    simp only [List.getElem?_toArray, List.getElem?_cons_zero, List.getElem?_cons_succ] at c0 c2
    have HL8 := hid_ (packB_len (L ++ digs (2 ^ k - 1) k))
    generalize L ++ digs (2 ^ k - 1) k = L' at *
    generalize (2 : Nat) ^ k - 1 = p1 at *
    generalize hP : (2 : Nat) ^ k = P at *
    have hm1 : 0 < L.length % 8 := by omega
    generalize L.length % 8 = m at *
    clear hm0 hP hown hB hr
    go_enter Tryz.func47, Tryz.ntmps47
    go_wp2_with fail
    refine wp_region_lxt later_eq 13 (by kernel_rfl) (by kernel_rfl) ?_
    simp only [List.take_succ_cons, List.take_zero]
    iterate 13 (refine lx_ex (by rfl) ?_; apply Exists.intro; refine ⟨fun w hw => ?_, ?_⟩; · (subst hw; have h1 := HW1.out; have h2 := HW2.out; have h3 := HW3.out; go_simp; with_reducible rfl)
                simp only [Act.put, List.setIfInBounds_toArray, List.set_cons_succ, List.set_cons_zero])
    refine lx_nil ?_
    rintro w3 rfl
    try simp only [List.drop_succ_cons, List.drop_zero]
    have hwd := hw.drew
    clear c0 c2 HW1 HW2 HW3
    go_wp2_with (go_at_call 45; (with_reducible refine (HPUT.out _ hwd).mono ?_); rintro e w5 ⟨rfl, r', ⟨A5, c5, hr5, hB5, hown5⟩, hrr, hu5⟩; have c0 := hB5.cell 0; simp only [List.getElem?_toArray, List.getElem?_cons_zero] at c0)
    go_ret
    obtain ⟨h1, h2⟩ := own_out' hown5
    rw [HL8.out]
    exact ⟨A5, c5, rfl, h1, (fun ad h => by have := h2 ad h; omega), own_nilc hown5, (Upd.refl _ w).drew.trans hu5 (fun x hx => .inl hx)⟩
theorem bytes_any (gw : Nat) (L : List Bool) (r : Option Nat) (w : World) (h : WrS w gw L r) (hl : L.length ≤ 1000000000000) :
    Calls Tryz.prog 47 #[.pointer (some ⟨gw, 0, none⟩)] w fun e w' => ∃ A c, e = .returned (.slice A (packB (padB L)).length c) ∧ SL w' 1 (.slice A (packB (padB L)).length c) (packB (padB L)).length (bytesV (packB (padB L))) ∧
      (∀ ad, A = some ad → gw < ad.block) ∧ Upd (fun b => b = gw ∨ r = some b) w w' :=
  (bytes_anyN gw L r w h hl).mono fun _ _ ⟨A, c, e, h1, h2, _, h3⟩ => ⟨A, c, e, h1, h2, h3⟩
end Go.Proofs.YtgmddhljgfbibaaGreatDoor
/- Coder.Put, table.Encode. -/
namespace Go.Proofs.YtgmddhljgfbibaaGreatDoor
set_option linter.unusedVariables false
set_option linter.unusedSimpArgs false
open Go.RowKit Go.Maps Go.WideMaps
theorem zero_word (w : World) : (zeroValue 133).run Tryz.prog w = .ok (.agg #[.int .i64 0, .int .i64 0, .int .i64 0]) w := by kernel_rfl
theorem symF_some {T : List Tok} {s : Int} {t : Tok} (h : findT T s = some t) : symF T s = some (.agg #[.int .i64 t.1, .int .i64 t.2.1, .int .i64 t.2.2]) := by
  unfold symF; unfold findT at h; rw [h]; rfl
theorem symF_none {T : List Tok} {s : Int} (h : findT T s = none) : symF T s = none := by
  unfold symF; unfold findT at h; rw [h]; rfl
set_option maxHeartbeats 400000 in
theorem coderPut_no (gc gw : Nat) (T : List Tok) (s : Int) (w : World) (hc : CoderS w gc T) (hf : findT T s = none) (h0 : -9223372036854775808 ≤ s) (h1 : s ≤ 9223372036854775807) :
    Calls Tryz.prog 44 #[.pointer (some ⟨gc, 0, none⟩), .pointer (some ⟨gw, 0, none⟩), .int .i64 s] w fun e w' => e = .returned (.bool false) ∧ Ext w w' := by
  obtain ⟨m1, m2, n, hB, hm1, hm2⟩ := hc
  have c0 := hB.cell 0
  simp only [List.getElem?_toArray, List.getElem?_cons_zero] at c0
  have HS := hid_ (symF_none hf)
  have hkey := hid_ (keyOf_i64 (P := Tryz.prog) Tryz.underlying3 h0 h1)
  clear hf
  go_enter Tryz.func44, Tryz.ntmps44
  go_wp2_with (at_lookup; refine wpList_look_ok_g (by rfl) _ _ 135 133 rfl keyed_int Tryz.underlying135 _ (zero_word _) rfl hm1 _ rfl s trivial hkey.out (.agg #[.int .i64 0, .int .i64 0, .int .i64 0]) (by rw [HS.out]; rfl) false (by rw [HS.out]; rfl) ?_)
  go_ret
  exact ⟨rfl, (Ext.refl w).alloc _⟩
set_option maxHeartbeats 400000 in
theorem coderPut_yes (gc gw : Nat) (T : List Tok) (L : List Bool) (r : Option Nat) (s : Int) (long code : Nat) (w : World) (hc : CoderS w gc T) (hw : WrS w gw L r) (hf : findT T s = some (s, (long : Int), (code : Int))) (h0 : -9223372036854775808 ≤ s) (h1 : s ≤ 9223372036854775807)
    (hlong : long ≤ 24) (hcode : code < 2 ^ long) (hl : L.length ≤ 1000000000000) :
    Calls Tryz.prog 44 #[.pointer (some ⟨gc, 0, none⟩), .pointer (some ⟨gw, 0, none⟩), .int .i64 s] w fun e w' => e = .returned (.bool true) ∧
      ∃ r', WrS w' gw (L ++ digs code long) r' ∧ (r' = r ∨ ∃ b, r' = some b ∧ w.heap.size ≤ b) ∧ Upd (fun b => b = gw ∨ r = some b) w w' := by
  obtain ⟨m1, m2, n, hB, hm1, hm2⟩ := hc
  have c0 := hB.cell 0
  simp only [List.getElem?_toArray, List.getElem?_cons_zero] at c0
  have HS := hid_ (symF_some hf)
  simp only at HS
  have HP := hid_ (fun W (hW : WrS W gw L r) => put_any gw L r code long W hW hlong hcode hl)
  have hkey := hid_ (keyOf_i64 (P := Tryz.prog) Tryz.underlying3 h0 h1)
  clear hf hcode
  generalize digs code long = D at *
  go_enter Tryz.func44, Tryz.ntmps44
  go_wp2_with (first
    | (at_lookup; refine wpList_look_ok_g (by rfl) _ _ 135 133 rfl keyed_int Tryz.underlying135 _ (zero_word _) rfl hm1 _ rfl s trivial hkey.out (.agg #[.int .i64 s, .int .i64 (long : Int), .int .i64 (code : Int)]) (by rw [HS.out]; rfl) true (by rw [HS.out]; rfl) ?_)
    | (go_at_call 45; (with_reducible refine (HP.out _ (hw.ext ((Ext.refl w).alloc _))).mono ?_); rintro e w5 ⟨rfl, r', hW5, hrr, hu5⟩))
  go_ret
  exact ⟨rfl, r', hW5, hrr.imp id (fun ⟨b, h1, h2⟩ => ⟨b, h1, by rw [World.size_alloc] at h2; omega⟩), (Upd.of_ext (S := fun b => b = gw ∨ r = some b) ((Ext.refl w).alloc _)).trans hu5 (fun x hx => .inl hx)⟩
def encL (T : List Tok) (syms : List Int) : List Bool := syms.flatMap (bitsT T)
theorem encL_succ (T : List Tok) (syms : List Int) (k : Nat) (h : k < syms.length) : encL T (syms.take (k + 1)) = encL T (syms.take k) ++ bitsT T syms[k] := by
  unfold encL
  rw [List.take_succ_eq_append_getElem h, List.flatMap_append]
  simp
theorem encL_len {T : List Tok} (hf : FitT T) (syms : List Int) : (encL T syms).length ≤ 16 * syms.length := by
  induction syms with
  | nil => simp [encL]
  | cons s l ih =>
    have := bitsT_len hf s
    simp only [encL, List.flatMap_cons, List.length_append, List.length_cons] at ih ⊢
    omega
def allT (T : List Tok) (syms : List Int) : Bool := syms.all fun s => (findT T s).isSome
/-- what Encode answers -/
def encZ (cs xs syms : List Int) : List Nat × Int :=
  if checkZ cs xs = 0 then (if syms.length ≤ 20000 then (if allT (zipC (codesW cs 16) xs) syms then (packB (padB (encL (zipC (codesW cs 16) xs) syms)), 0) else ([], 5)) else ([], 2)) else ([], checkZ cs xs)
theorem allT_no {T : List Tok} {syms : List Int} {k : Nat} (hk : k < syms.length) (h : findT T syms[k] = none) : allT T syms = false := by
  rw [← Bool.not_eq_true]
  intro h2
  have := List.all_eq_true.1 h2 _ (List.getElem_mem hk)
  simp [h] at this
theorem allT_yes {T : List Tok} {syms : List Int} (h : ∀ s ∈ syms, (findT T s).isSome = true) : allT T syms = true := List.all_eq_true.2 h
end Go.Proofs.YtgmddhljgfbibaaGreatDoor
