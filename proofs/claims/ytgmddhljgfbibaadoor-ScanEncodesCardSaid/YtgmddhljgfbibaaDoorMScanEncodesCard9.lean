/- Contracts for the law ScanEncodesCard, part 9: what the functions that it reaches answer, for all arguments that the theorems name. -/
import Derived.Test.YtgmddhljgfbibaaDoorMScanEncodesCard3
import Derived.Test.YtgmddhljgfbibaaDoorMScanEncodesCard8
import Derived.Maps.OwnSet
import Derived.Test.YtgmddhljgfbibaaDoorMScanEncodesCard1
import Derived.WalkKit
/- seg.each: whoever eats the tokens of blocks. -/
namespace Go.Proofs.YtgmddhljgfbibaaDoor
set_option linter.unusedVariables false
set_option linter.unusedSimpArgs false
open Go.RowKit
section
variable {σ : Type} {C : σ → Prop}
/-- called through f, with what is captured behind the token and the flag, it steps; what it holds stands in the blocks F, which may grow by new ones -/
structure Eat (f : FuncId) (cap : Array Value) (Inv : World → σ → (Nat → Prop) → Prop) (step : σ → Tok → Bool → Int × σ) (C : σ → Prop) : Prop where
  goes : Goes Tryd.prog f
  back : ∀ l s, C (eatGo step l s).2 → C s
  ask : ∀ t b s F W, C (step s t b).2 → tokWf t → Inv W s F → Calls Tryd.prog f (#[.agg (tokv t).toArray, .bool b] ++ cap) W fun e w' => e = .returned (.int .i64 (step s t b).1) ∧ Upd F W w' ∧ ∃ F', Inv w' (step s t b).2 F' ∧ ∀ x, F' x → F x ∨ W.heap.size ≤ x
  keep : ∀ s F W W', Inv W s F → Ext W W' → Inv W' s F
  old : ∀ s F W x, Inv W s F → F x → x < W.heap.size
variable {f : FuncId} {cap : Array Value} {Inv : World → σ → (Nat → Prop) → Prop} {step : σ → Tok → Bool → Int × σ}
theorem Eat.ext (E : Eat f cap Inv step C) {s : σ} {F : Nat → Prop} {W W' : World} (h : Inv W s F) (hx : Ext W W') : Inv W' s F := E.keep s F W W' h hx
/-- what each hands back -/
def EachIs (Inv : World → σ → (Nat → Prop) → Prop) (F : Nat → Prop) (w : World) (r : Int × σ) (e : Ending) (w' : World) : Prop :=
  e = .returned (.int .i64 r.1) ∧ Upd F w w' ∧ ∃ F', Inv w' r.2 F' ∧ ∀ x, F' x → F x ∨ w.heap.size ≤ x
theorem EachIs.mk {F F' : Nat → Prop} {w w' : World} {r : Int × σ} {n : Int} {s : σ} (hr : r = (n, s)) (hu : Upd F w w') (hi : Inv w' s F') (hF : ∀ x, F' x → F x ∨ w.heap.size ≤ x) : EachIs Inv F w r (.returned (.int .i64 n)) w' := by
  subst hr
  exact ⟨rfl, hu, F', hi, hF⟩
theorem bv_out (zs : List Int) : (ints zs).toArray = bv zs := rfl
theorem SL.updq {S : Nat → Prop} {w w' : World} {size n c : Nat} {A : Option Addr} {xs : List Value} (h : SL w size (.slice A n c) n xs) (hu : Upd S w w') (hS : ∀ ad, A = some ad → 0 < n → ¬ S ad.block) : SL w' size (.slice A n c) n xs := by
  obtain ⟨A', c', e, h1, h2, h3, h4⟩ := h
  injection e with e1 e2 e3
  subst e1 e3
  refine ⟨_, _, rfl, h1, h2, h3, fun h0 => ?_⟩
  obtain ⟨ad, rfl, hb, hc⟩ := h4 h0
  refine ⟨ad, rfl, Nat.lt_of_lt_of_le hb hu.size, fun j u hj => ?_⟩
  rw [← hc j u hj]
  unfold World.cell?
  rw [block_of_add, hu.block _ hb (hS ad rfl h0)]
theorem zigAt_0 : zigAt 0 = 0 := by decide
theorem zto_head (zs : List Int) : (zto zs).getD 0 0 = zs.getD 0 0 := by
  have h : 0 < (zto zs).length := by rw [zto_len]; omega
  rw [List.getD_eq_getElem?_getD, List.getElem?_eq_getElem h]
  simp [zto, zigAt_0]
theorem getD_inZ {zs : List Int} {lo hi : Int} (h : allIn zs lo hi = true) (k : Nat) (h1 : lo ≤ 0) (h2 : 0 ≤ hi) : lo ≤ zs.getD k 0 ∧ zs.getD k 0 ≤ hi := by
  rw [List.getD_eq_getElem?_getD]
  cases hq : zs[k]? with
  | none => exact ⟨h1, h2⟩
  | some y => exact allIn_iff.1 h y (List.mem_of_getElem? hq)
theorem befAt_in {Z : List Int} {k : Nat} (h : ∀ j, j < k → allIn (blkAt Z j) (-2047) 2047 = true) : -2047 ≤ befAt Z k ∧ befAt Z k ≤ 2047 := by
  unfold befAt
  split
  · omega
  · exact getD_inZ (h (k - 1) (by omega)) 0 (by omega) (by omega)
theorem befAt_0 (Z : List Int) : befAt Z 0 = 0 := if_pos rfl
theorem befAt_succ (Z : List Int) (k : Nat) : befAt Z (k + 1) = (blkAt Z k).getD 0 0 := if_neg (by omega)
theorem toksAt_out (Z : List Int) (k : Nat) : toksAt Z k = tokensZ (befAt Z k) (zto (blkAt Z k)) := rfl
attribute [local irreducible] tokensZ zto bv toks accT eatGo flagsAt toksAt befAt blkAt
set_option maxRecDepth 20000 in
set_option maxHeartbeats 4000000 in
theorem each_any (E : Eat f cap Inv step C) (A : Option Addr) (n c : Nat) (Z : List Int) (hZ : Z.length = n * 64) (w : World) (hs : SL w 64 (.slice A n c) n (ints Z)) (s : σ) (F : Nat → Prop) (hI : Inv w s F) (hA : ∀ ad, A = some ad → 0 < n → ¬ F ad.block) (hCR : C (eachZ step n Z s).2) :
    Calls Tryd.prog 23 #[.slice A n c, .func (.func f) #[] cap] w (EachIs Inv F w (eachZ step n Z s)) := by
  have hs' := hs
  obtain ⟨A', c', he, hnc, hc2, -, -⟩ := hs'
  injection he with he1 he2 he3
  subst he1 he3
  by_cases hn : 400 < n
  · have hR : eachZ step n Z s = (2, s) := if_pos hn
    have HR := hid_ hR
    generalize eachZ step n Z s = R at *
    clear hR hs
    go_enter Tryd.func23, Tryd.ntmps23
    go_wp2_with fail
    go_ret
    exact EachIs.mk HR.out (Upd.refl _ _) hI (fun x h => .inl h)
  · have hR : eachZ step n Z s = if allIn Z (-2047) 2047 = false then (1, s) else eatGo step (flagsAt Z n 0) s := if_neg hn
    have HR := hid_ hR
    have HCR := hid_ hCR
    generalize eachZ step n Z s = R at *
    clear hR hCR
    have hn4 : n ≤ 400 := by omega
    have HZ := hid_ hZ
    clear hn hZ
    have HAL := hid_ (show (Tryd.prog.info? 43).bind (·.zero) = some (.agg (bv (List.replicate 64 0))) from zero48)
    have hz0 := hid_ (show (Value.agg (bv (List.replicate 64 0))).cells.size = 64 by rw [show (Value.agg (bv (List.replicate 64 0))).cells = bv (List.replicate 64 0) from rfl, bv_size]; rfl)
    generalize bv (List.replicate 64 0) = cz at *
    go_enter Tryd.func23, Tryd.ntmps23
    go_wp2_with fail
    go_loopw [22] (fun i wr => ∃ k : Nat, k ≤ n ∧ i = .int .i64 (k : Int) ∧ Ext w wr ∧ Hid (∀ j, j < k → allIn (blkAt Z j) (-2047) 2047 = true)) (fun i _ => n - (intOf i).toNat)
    case atStart => exact ⟨0, by omega, rfl, Ext.refl w, hid_ (fun j h => by omega)⟩
    case round =>
      obtain ⟨k, hk, rfl, hx, HP⟩ := hrel
      by_cases hlt : k < n
      · obtain ⟨ad, rfl, hab, hca⟩ := (hs.ext hx).part hlt
        have hbl := blkAt_len Z n k HZ.out hlt
        have e : ((ints Z).drop (k * 64)).take 64 = ints (blkAt Z k) := by simp [ints, blkAt, List.map_drop, List.map_take]
        rw [e] at hca
        clear e
        have HCA := hid_ hca
        have HB := hid_ hbl
        have HSZ := hid_ (show (bv (blkAt Z k)).size = 64 by rw [bv_size]; exact hbl)
        have HO1 := hid_ (bv_one (blkAt Z k))
        have HBV := hid_ (bv_out (blkAt Z k))
        clear hca hbl
        cases hal : allIn (blkAt Z k) (-2047) 2047 with
        | false =>
          have HT := hid_ (fun W => rtok_bad 0 (blkAt Z k) W HB.out (.inr ⟨by decide, hal⟩))
          have HRE : Hid (R = (1, s)) := hid_ (by
            rw [HR.out, if_pos]
            cases hq : allIn Z (-2047) 2047 with
            | false => rfl
            | true => have := (blkAt_in Z n HZ.out).1 hq k hlt; rw [hal] at this; cases this)
          have HCB : Hid (∀ W, CellsAt W (ad.add (k * 64)) (ints (blkAt Z k)) → CellsAt W (ad.add (k * 64)) (bv (blkAt Z k)).toList) := hid_ (fun W h => by rw [← HBV.out]; simpa using h)
          clear hal
          go_wp2_with (first
            | (show wpList _ _ _ (⟨some 25, _, _, _, _, _⟩ :: _) _ _; refine wpList_load_any (by rfl) 43 (.tmp 24) rfl (ad.add (k * 64)) rfl (ints (blkAt Z k)) _ HCA.out Tryd.underlying43 rfl (by rw [ints_len, HB.out]; exact size48) ?_; rw [HBV.out])
            | (show wpList _ _ _ (⟨some 6, _, _, _, _, _⟩ :: _) _ _; refine wpList_alloc_abs' rfl (some 6) rfl 43 rfl _ HAL.out ?_; intro w1 g1 hb1 hx1 hg1)
            | (show wpList _ _ _ (⟨none, .store _ (.tmp 6) (.tmp 25), _, _, _, _⟩ :: _) _ _; refine wpList_store_blk rfl 43 (.tmp 6) (.tmp 25) rfl _ _ rfl rfl hb1 64 size48 HSZ.out hz0.out HO1.out ?_; intro w2 hb2 hg2)
            | (show wpList _ _ _ (⟨some 27, _, _, _, _, _⟩ :: _) _ _; refine wpList_load_blk rfl 43 (.tmp 6) rfl g1 rfl hb2 _ Tryd.underlying43 rfl 64 size48 HSZ.out ?_)
            | (go_at_call 55; (with_reducible refine (HT.out _).mono ?_); rintro e w3 ⟨rfl, hx3⟩))
          go_ret
          have hx4 := (hx.trans (hx1.grown hg2 hg1)).trans hx3
          exact EachIs.mk HRE.out (upd_of_ext hx4) (E.ext hI hx4) (fun x h => .inl h)
        | true =>
          have hzh := getD_inZ hal 0 (by omega) (by omega)
          rw [← zto_head] at hzh
          have HT := hid_ (fun W => rtok_good 0 (blkAt Z k) W HB.out (by omega) (by omega) hal hzh.1 hzh.2)
          have HP' : Hid (∀ j, j < k + 1 → allIn (blkAt Z j) (-2047) 2047 = true) := hid_ (fun j hj => by
            rcases Nat.lt_or_ge j k with h1 | h1
            · exact HP.out j h1
            · obtain rfl : j = k := by omega
              exact hal)
          clear hal hzh HP
          generalize tokensZ 0 (zto (blkAt Z k)) = T0 at *
          go_wp2_with (first
            | (show wpList _ _ _ (⟨some 25, _, _, _, _, _⟩ :: _) _ _; refine wpList_load_any (by rfl) 43 (.tmp 24) rfl (ad.add (k * 64)) rfl (ints (blkAt Z k)) _ HCA.out Tryd.underlying43 rfl (by rw [ints_len, HB.out]; exact size48) ?_; rw [HBV.out])
            | (show wpList _ _ _ (⟨some 6, _, _, _, _, _⟩ :: _) _ _; refine wpList_alloc_abs' rfl (some 6) rfl 43 rfl _ HAL.out ?_; intro w1 g1 hb1 hx1 hg1)
            | (show wpList _ _ _ (⟨none, .store _ (.tmp 6) (.tmp 25), _, _, _, _⟩ :: _) _ _; refine wpList_store_blk rfl 43 (.tmp 6) (.tmp 25) rfl _ _ rfl rfl hb1 64 size48 HSZ.out hz0.out HO1.out ?_; intro w2 hb2 hg2)
            | (show wpList _ _ _ (⟨some 27, _, _, _, _, _⟩ :: _) _ _; refine wpList_load_blk rfl 43 (.tmp 6) rfl g1 rfl hb2 _ Tryd.underlying43 rfl 64 size48 HSZ.out ?_)
            | (go_at_call 55; (with_reducible refine (HT.out _).mono ?_); rintro e w3 ⟨D, d, rfl, -, hx3⟩))
          go_roundw
          case rel => exact ⟨k + 1, by omega, by go_num, (hx.trans (hx1.grown hg2 hg1)).trans hx3, HP'⟩
          case measure => simp [intOf]; omega
      · obtain rfl : n = k := by omega
        have HR2 : Hid (eatGo step (flagsAt Z n 0) s = R) := hid_ (by rw [HR.out, if_neg]; rw [(blkAt_in Z n HZ.out).2 HP.out]; simp)
        have HPA : Hid (∀ j, j < n → allIn (blkAt Z j) (-2047) 2047 = true) := hid_ HP.out
        have hI1 := E.ext hI hx
        have hs1 := hs.ext hx
        have hb0 := befAt_0 Z
        have HB0 := hid_ hb0
        clear HR hb0 hlt
        have hA1 : Hid (∀ (F' : Nat → Prop), (∀ x, F' x → F x ∨ w.heap.size ≤ x) → ∀ ad, A = some ad → 0 < n → ¬ F' ad.block) := hid_ (fun F' h ad e h0 k => by
          rcases h _ k with h1 | h1
          · exact hA ad e h0 h1
          · obtain ⟨A'', c'', e2, -, -, -, h5⟩ := hs
            injection e2 with e3 _ _
            subst e3
            obtain ⟨ad', e4, h6, -⟩ := h5 h0
            rw [e] at e4
            injection e4 with e4
            subst e4
            omega)
        have hu0 : Upd F w wr := upd_of_ext hx
        have hsw := hx.size
        clear hx hI hA hs HP
        go_wp2_with fail
        obtain ⟨wo, rfl⟩ : ∃ wo : World, wo = wr := ⟨_, rfl⟩
        go_loopw [9, 37] (fun b i wr => ∃ (k : Nat) (q : σ) (G : Nat → Prop), k ≤ n ∧ i = .int .i64 (k : Int) ∧ b = .int .i64 (befAt Z k) ∧ Upd F w wr ∧ w.heap.size ≤ wr.heap.size ∧ Inv wr q G ∧ Hid (∀ x, G x → F x ∨ w.heap.size ≤ x) ∧ SL wr 64 (.slice A n c) n (ints Z) ∧ Hid (eatGo step (flagsAt Z n k) q = R)) (fun _ i _ => n - (intOf i).toNat)
        case atStart => exact ⟨0, s, F, by omega, rfl, by rw [HB0.out], hu0, hsw, hI1, hid_ (fun x h => .inl h), hs1, HR2⟩
        case round =>
          clear hu0 hsw hI1 hs1 HR2
          obtain ⟨k, q, G, hk, rfl, rfl, hu, hsw, hI, HG, hs, HR⟩ := hrel
          by_cases hlt : k < n
          · have hAG : ∀ ad, A = some ad → 0 < n → ¬ G ad.block := hA1.out G HG.out
            have HAG := hid_ hAG
            clear hAG
            obtain ⟨ad, rfl, hab, hca⟩ := hs.part hlt
            have hbl := blkAt_len Z n k HZ.out hlt
            have e : ((ints Z).drop (k * 64)).take 64 = ints (blkAt Z k) := by simp [ints, blkAt, List.map_drop, List.map_take]
            rw [e] at hca
            clear e
            have HCA := hid_ hca
            have HB := hid_ hbl
            have HSZ := hid_ (show (bv (blkAt Z k)).size = 64 by rw [bv_size]; exact hbl)
            have HO1 := hid_ (bv_one (blkAt Z k))
            have HBV := hid_ (bv_out (blkAt Z k))
            have hal := HPA.out k hlt
            have hzh := getD_inZ hal 0 (by omega) (by omega)
            rw [← zto_head] at hzh
            have hbf := befAt_in (Z := Z) (k := k) (fun j hj => HPA.out j (by omega))
            have HT := hid_ (fun W => rtok_fresh (befAt Z k) (blkAt Z k) W HB.out hbf.1 hbf.2 hal hzh.1 hzh.2)
            rw [← toksAt_out] at HT
            have HWF : Hid (∀ t ∈ toksAt Z k, tokWf t) := hid_ (by rw [toksAt_out]; exact tokensZ_wf _ _ (zto_len _))
            have HR1 : Hid (eatGo step ((flagT (toksAt Z k)).drop 0 ++ flagsAt Z n (k + 1)) q = R) := hid_ (by rw [List.drop_zero, ← flagsAt_succ Z n k hlt]; exact HR.out)
            have HBS := hid_ (befAt_succ Z k)
            have HB1 : Hid ((bv (blkAt Z k))[0]? = some (.int .i64 ((blkAt Z k).getD 0 0))) := hid_ (by rw [bv_at _ 0 (by omega)]; simp [List.getD_eq_getElem?_getD, hbl])
            obtain ⟨T, hT⟩ : ∃ T, T = toksAt Z k := ⟨_, rfl⟩
            rw [← hT] at HT HWF HR1
            obtain ⟨m, hm⟩ : ∃ m, T.length = m := ⟨_, rfl⟩
            have HM := hid_ hm
            rw [hm] at HT
            clear hT hm hca hbl hal hzh hbf HR
            generalize befAt Z k = bf at *
            go_wp2_with (first
              | (show wpList _ _ _ (⟨some 40, _, _, _, _, _⟩ :: _) _ _; refine wpList_load_any (by rfl) 43 (.tmp 39) rfl (ad.add (k * 64)) rfl (ints (blkAt Z k)) _ HCA.out Tryd.underlying43 rfl (by rw [ints_len, HB.out]; exact size48) ?_; rw [HBV.out])
              | (show wpList _ _ _ (⟨some 11, _, _, _, _, _⟩ :: _) _ _; refine wpList_alloc_abs' rfl (some 11) rfl 43 rfl _ HAL.out ?_; intro w1 g1 hb1 hx1 hg1)
              | (show wpList _ _ _ (⟨none, .store _ (.tmp 11) (.tmp 40), _, _, _, _⟩ :: _) _ _; refine wpList_store_blk rfl 43 (.tmp 11) (.tmp 40) rfl _ _ rfl rfl hb1 64 size48 HSZ.out hz0.out HO1.out ?_; intro w2 hb2 hg2; have hx2 := hx1.grown hg2 hg1)
              | (show wpList _ _ _ (⟨some 43, _, _, _, _, _⟩ :: _) _ _; refine wpList_load_blk rfl 43 (.tmp 11) rfl g1 rfl hb2 _ Tryd.underlying43 rfl 64 size48 HSZ.out ?_)
              | (go_at_call 55; (with_reducible refine (HT.out _).mono ?_); rintro e w3 ⟨D, d, rfl, hs3, hf3, hx3⟩))
            have hG2 : ∀ x, G x → x < wr.heap.size := fun x h => E.old q G wr x hI h
            have HG1 : Hid (¬ G g1) := hid_ (fun h => by have := hG2 g1 h; omega)
            have hx3' : Ext wr w3 := hx2.trans hx3
            have hI3 := E.ext hI hx3'
            have hb3 := hb2.ext hx3
            have hu3 : Upd F w w3 := hu.trans (upd_of_ext (S := fun _ => False) hx3') (fun _ h => h.elim)
            have hs3' := hs.ext hx3'
            have hsw3 : w.heap.size ≤ w3.heap.size := by have := hx3'.size; omega
            have HD3 : Hid (∀ ad, D = some ad → ¬ G ad.block) := hid_ (fun ad e h => by have := hf3 ad e; have := hG2 _ h; have := hx2.size; omega)
            have hs3c := hs3
            obtain ⟨D', d'', he3, hmd, hd2, -, -⟩ := hs3c
            injection he3 with q1 q2 q3
            subst q1 q3
            have hm1 : m ≤ 9223372036854775807 := by omega
            clear hu hsw hI hs hb1 hx1 hg1 hb2 hg2 hx2 hx3 hf3 hG2 hx3'
            clear q2
            go_loopw [49] (fun i wi => ∃ (j : Nat) (p : σ) (G' : Nat → Prop), j ≤ m ∧ i = .int .i64 (j : Int) ∧ Upd F w wi ∧ w.heap.size ≤ wi.heap.size ∧ Inv wi p G' ∧ Hid (∀ x, G' x → F x ∨ w.heap.size ≤ x) ∧ Hid (¬ G' g1) ∧ Hid (∀ ad, D = some ad → ¬ G' ad.block) ∧ SL wi 64 (.slice (some ad) n c) n (ints Z) ∧ Blk wi g1 43 (bv (blkAt Z k)) ∧ SL wi 3 (.slice D m d) m (toks T) ∧ Hid (eatGo step ((flagT T).drop j ++ flagsAt Z n (k + 1)) p = R)) (fun i _ => m - (intOf i).toNat)
            case atStart => exact ⟨0, q, G, by omega, rfl, hu3, hsw3, hI3, HG, HG1, HD3, hs3', hb3, hs3, HR1⟩
            case round =>
              clear hu3 hsw3 hI3 HG HG1 HD3 hs3' hb3 hs3 HR1
              obtain ⟨wo2, rfl⟩ : ∃ wo2 : World, wo2 = w3 := ⟨_, rfl⟩
              obtain ⟨j, p, G', hj, rfl, hu, hsw, hI, HG, HG1, HD, hs, hb, hst, HR⟩ := hrel
              by_cases hlj : j < m
              · obtain ⟨td, rfl, htb, htc⟩ := hst.part hlj
                have hjT : j < T.length := by rw [HM.out]; exact hlj
                rw [toks_part T j hjT] at htc
                have HTC := hid_ htc
                have HRj : Hid (eatGo step ((T[j], j == 0) :: ((flagT T).drop (j + 1) ++ flagsAt Z n (k + 1))) p = R) := hid_ (by have := HR.out; rw [flagT_drop T j hjT, List.cons_append] at this; exact this)
                have hwf := HWF.out T[j] (List.getElem_mem hjT)
                obtain ⟨b, hbq⟩ : ∃ b, b = (j == 0) := ⟨_, rfl⟩
                rw [← hbq] at HRj
                have hjb : ((j : Int) == 0) = b := by rw [hbq]; cases j <;> simp <;> omega
                generalize T[j] = t at *
                have hC2 : C (step p t b).2 := by
                  by_cases h0 : (step p t b).1 = 0
                  · have h := HRj.out
                    rw [eatGo_ok h0] at h
                    have h2 := HCR.out
                    rw [← h] at h2
                    exact E.back _ _ h2
                  · have h := HRj.out
                    rw [eatGo_err h0] at h
                    rw [h]
                    exact HCR.out
                have HAS := hid_ (fun W (h : Inv W p G') => E.ask t b p G' W hC2 hwf h)
                have hold : ∀ x, G' x → x < wr.heap.size := fun x h => E.old p G' wr x hI h
                have HOLD := hid_ hold
                have HAD : Hid (¬ G' ad.block) := hid_ (hA1.out G' HG.out ad rfl (by omega))
                clear hbq hwf hold htc HR hC2
                rcases hst2 : step p t b with ⟨e2, s2⟩
                have HS2 := hid_ hst2
                rw [hst2] at HAS
                clear hst2
                dsimp only at HAS
                by_cases he2 : e2 = 0
                · subst he2
                  have HRn : Hid (eatGo step ((flagT T).drop (j + 1) ++ flagsAt Z n (k + 1)) s2 = R) := hid_ (by have h := HRj.out; rw [eatGo_ok (by rw [HS2.out])] at h; rw [HS2.out] at h; exact h)
                  go_wp2_with (first
                    | (show wpList _ _ _ (⟨some 53, _, _, _, _, _⟩ :: _) _ _; refine wpList_load_any (by rfl) 60 (.tmp 52) rfl (td.add (j * 3)) rfl (tokv t) _ HTC.out Tryd.underlying60 rfl size74 ?_)
                    | (show wpList _ _ _ (⟨some 15, _, _, _, _, _⟩ :: _) _ _; refine wpList_alloc_abs' rfl (some 15) rfl 60 rfl (.agg (tokv (0, 0, 0)).toArray) (by kernel_rfl) ?_; intro w4 g15 hb4 hx4 hg4)
                    | (show wpList _ _ _ (⟨none, .store _ (.tmp 15) (.tmp 53), _, _, _, _⟩ :: _) _ _; refine wpList_store_blk rfl 60 (.tmp 15) (.tmp 53) rfl _ _ rfl rfl hb4 3 sizeTok rfl rfl (tok_oneA t) ?_; intro w5 hb5 hg5; have hx5 : Ext wr w5 := hx4.grown hg5 hg4; have hI5 := E.ext hI hx5; have hsw5 := hx5.size)
                    | (show wpList _ _ _ (⟨some 55, _, _, _, _, _⟩ :: _) _ _; refine wpList_load_blk rfl 60 (.tmp 15) rfl g15 rfl hb5 _ Tryd.underlying60 rfl 3 sizeTok rfl ?_)
                    | (show wpList _ _ _ (⟨some 58, _, _, _, _, _⟩ :: _) _ _; refine wl_enter (by rfl) (run_callv (.tmp 54) _ _ rfl rfl E.goes (#[.agg (tokv t).toArray, .bool b] ++ cap) (by simp [Act.eval])) ?_; (with_reducible refine (HAS.out _ hI5).mono ?_); rintro e w6 ⟨rfl, hu6, G2, hI6, hG6⟩; refine ⟨_, rfl, ?_⟩; have hsw6 := hu6.size))
                  go_roundw
                  case rel =>
                    refine ⟨j + 1, s2, G2, by omega, by go_num, ?_, by omega, hI6, hid_ ?_, hid_ ?_, hid_ ?_, (hs.ext hx5).updq hu6 (fun ad' e' _ k => by injection e' with e'; rw [← e'] at k; exact HAD.out k), hu6.blk (hb.ext hx5) HG1.out, (hst.ext hx5).updq hu6 (fun ad' e' _ => HD.out ad' e'), HRn⟩
                    · exact (hu.trans (upd_of_ext (S := fun _ => False) hx5) (fun _ h => h.elim)).trans hu6 (fun x h => HG.out x h)
                    · exact fun x h => by
                        rcases hG6 x h with h1 | h1
                        · exact HG.out x h1
                        · exact .inr (by omega)
                    · exact fun h => by
                        rcases hG6 _ h with h1 | h1
                        · exact HG1.out h1
                        · have := (hb.ext hx5).lt; omega
                    · exact fun ad' e' h => by
                        rcases hG6 _ h with h1 | h1
                        · exact HD.out ad' e' h1
                        · injection e' with e'; rw [← e'] at h1; have := hx5.size; omega
                  case measure => simp [intOf]; omega
                · have hxb : (e2 != 0) = true := by simpa using he2
                  have HRE : Hid (R = (e2, s2)) := hid_ (by rw [← HRj.out, eatGo_err (by rw [HS2.out]; exact he2), HS2.out])
                  clear he2
                  go_wp2_with (first
                    | (show wpList _ _ _ (⟨some 53, _, _, _, _, _⟩ :: _) _ _; refine wpList_load_any (by rfl) 60 (.tmp 52) rfl (td.add (j * 3)) rfl (tokv t) _ HTC.out Tryd.underlying60 rfl size74 ?_)
                    | (show wpList _ _ _ (⟨some 15, _, _, _, _, _⟩ :: _) _ _; refine wpList_alloc_abs' rfl (some 15) rfl 60 rfl (.agg (tokv (0, 0, 0)).toArray) (by kernel_rfl) ?_; intro w4 g15 hb4 hx4 hg4)
                    | (show wpList _ _ _ (⟨none, .store _ (.tmp 15) (.tmp 53), _, _, _, _⟩ :: _) _ _; refine wpList_store_blk rfl 60 (.tmp 15) (.tmp 53) rfl _ _ rfl rfl hb4 3 sizeTok rfl rfl (tok_oneA t) ?_; intro w5 hb5 hg5; have hx5 : Ext wr w5 := hx4.grown hg5 hg4; have hI5 := E.ext hI hx5; have hsw5 := hx5.size)
                    | (show wpList _ _ _ (⟨some 55, _, _, _, _, _⟩ :: _) _ _; refine wpList_load_blk rfl 60 (.tmp 15) rfl g15 rfl hb5 _ Tryd.underlying60 rfl 3 sizeTok rfl ?_)
                    | (show wpList _ _ _ (⟨some 58, _, _, _, _, _⟩ :: _) _ _; refine wl_enter (by rfl) (run_callv (.tmp 54) _ _ rfl rfl E.goes (#[.agg (tokv t).toArray, .bool b] ++ cap) (by simp [Act.eval])) ?_; (with_reducible refine (HAS.out _ hI5).mono ?_); rintro e w6 ⟨rfl, hu6, G2, hI6, hG6⟩; refine ⟨_, rfl, ?_⟩; have hsw6 := hu6.size))
                  go_ret
                  refine EachIs.mk HRE.out ((hu.trans (upd_of_ext (S := fun _ => False) hx5) (fun _ h => h.elim)).trans hu6 (fun x h => HG.out x h)) hI6 (fun x h => ?_)
                  rcases hG6 x h with h1 | h1
                  · exact HG.out x h1
                  · exact .inr (by omega)
              · have hjm : j = m := by omega
                have HRn : Hid (eatGo step (flagsAt Z n (k + 1)) p = R) := hid_ (by have h := HR.out; rw [List.drop_eq_nil_of_le (by rw [flagT_len, HM.out]; omega), List.nil_append] at h; exact h)
                have hc0 : wr.cell? ⟨g1, 0, none⟩ = some (.int .i64 ((blkAt Z k).getD 0 0)) := (hb.cell 0).trans HB1.out
                go_wp2_with fail
                go_roundw
                case rel => exact ⟨k + 1, p, G', by omega, by go_num, by rw [HBS.out, List.getD_eq_getElem?_getD], hu, hsw, hI, HG, hs, HRn⟩
                case measure => simp [intOf]; omega
          · have hkn : k = n := by omega
            have HRE : Hid (R = (0, q)) := hid_ (by rw [← HR.out, hkn, flagsAt_end]; unfold eatGo; rfl)
            go_wp2_with fail
            go_ret
            exact EachIs.mk HRE.out hu hI HG.out
end
end Go.Proofs.YtgmddhljgfbibaaDoor
/- Maps that the call makes: elements as they are, read as a function of the keys. -/
namespace Go.Proofs.YtgmddhljgfbibaaDoor
set_option linter.unusedVariables false
set_option linter.unusedSimpArgs false
open Go.RowKit Go.Maps
/-- an element reads as itself -/
def VR (v : Value) : Option (DataW Value × List MemPlace) := some (.held v, [])
/-- block b is a map of at most n entries; at the key of i it holds g i -/
def MapG {ι : Type} (P : Program) (k : TypeId) (kl : ι → Lit) (ok : ι → Prop) (w : World) (b n : Nat) (g : ι → Option Value) : Prop :=
  ∃ D : DataW Value, w.ownsMap P k VR b n D ∧ IsMap D ∧ ∀ i, ok i → Maps.has D (kl i) = (g i).isSome ∧ ∀ z, D.atKey (kl i) (.held z) = .held ((g i).getD z)
section
variable {ι : Type} {P : Program} {k : TypeId} {kl : ι → Lit} {ok : ι → Prop} {w w' : World} {b n : Nat} {g : ι → Option Value}
theorem MapG.made (w : World) : MapG P k kl ok (w.alloc (.map #[] 0)) w.heap.size 0 (fun _ => none) :=
  ⟨.map [], World.ownsMap_made _ _ _ _, isMap_empty, fun _ _ => ⟨rfl, fun _ => rfl⟩⟩
theorem MapG.lt (h : MapG P k kl ok w b n g) : b < w.heap.size := by obtain ⟨D, h1, -⟩ := h; exact h1.lt
theorem MapG.alloc (h : MapG P k kl ok w b n g) (o : Obj) : MapG P k kl ok (w.alloc o) b n g := by
  obtain ⟨D, h1, h2⟩ := h; exact ⟨D, h1.alloc o, h2⟩
theorem MapG.ext (h : MapG P k kl ok w b n g) (hx : Ext w w') : MapG P k kl ok w' b n g := by
  obtain ⟨D, ⟨es, clock, hb, r⟩, h2⟩ := h
  refine ⟨D, ⟨es, clock, (hx.block b ?_).trans hb, r⟩, h2⟩
  exact World.ownsMap.lt (R := VR) ⟨es, clock, hb, r⟩
theorem MapG.grown {row : Option Nat} (h : MapG P k kl ok w b n g) (hg : w.grownBy w' row) (hne : some b ≠ row) : MapG P k kl ok w' b n g := by
  obtain ⟨D, h1, h2⟩ := h; exact ⟨D, h1.kept hg hne, h2⟩
theorem MapG.below {B : Nat} (h : MapG P k kl ok w b n g) (hx : Below B w w') (hb : b < B) : MapG P k kl ok w' b n g := by
  obtain ⟨D, ⟨es, clock, h3, r⟩, h2⟩ := h
  exact ⟨D, ⟨es, clock, (hx.block b hb).trans h3, r⟩, h2⟩
theorem MapG.setCell (h : MapG P k kl ok w b n g) {a : Addr} (ha : b ≠ a.block) (u : Value) : MapG P k kl ok (w.setCell a u) b n g := by
  obtain ⟨D, h1, h2⟩ := h; exact ⟨D, h1.setCell ha u, h2⟩
theorem MapG.mono (h : MapG P k kl ok w b n g) {m : Nat} (hm : n ≤ m) : MapG P k kl ok w b m g := by
  obtain ⟨D, h1, h2⟩ := h; exact ⟨D, h1.mono hm, h2⟩
variable {ops : Array Oper} {rest : List Oper} {o : Oper} {a : Act} {Q : Exit → Act → World → Prop}
theorem wpList_look_g (hw : Region.wanted o (yielded ops a.tmps) = true) (m x : Operand) (t e : TypeId) (hop : o.op = Op.lookup t m x false) (K : Keyed P k) (ht : P.underlying t = some (.map k e))
    (z : Value) (hz : (zeroValue e).run P w = .ok z w) (hm : a.eval m = .map (some b)) (h : MapG P k kl ok w b n g) (key : Value) (hx : a.eval x = key)
    (i : ι) (hi : ok i) (hk : keyOf P k key = some (kl i)) (u : Value) (hu : (g i).getD z = u) (hK : wpList P ops Q rest (a.put o.dst u) w) : wpList P ops Q (o :: rest) a w := by
  refine wpList_wanted hw fun K' hK' => ?_
  obtain ⟨D, h1, -, h2⟩ := h
  obtain ⟨v, ps, hrun, hv⟩ := h1.lookup K ht hz (zd := .held z) (zp := []) rfl hk
  rw [(h2 i hi).2 z, hu] at hv
  have : v = u := by unfold VR at hv; injection hv with hv; injection hv with hv _; injection hv
  subst this
  unfold Oper.wp
  simp [execOp, hop, hm, hx, hrun, Result.andThen]
  exact hK' _ _ hK
theorem wpList_look_ok_g (hw : Region.wanted o (yielded ops a.tmps) = true) (m x : Operand) (t e : TypeId) (hop : o.op = Op.lookup t m x true) (K : Keyed P k) (ht : P.underlying t = some (.map k e))
    (z : Value) (hz : (zeroValue e).run P w = .ok z w) (hm : a.eval m = .map (some b)) (h : MapG P k kl ok w b n g) (key : Value) (hx : a.eval x = key)
    (i : ι) (hi : ok i) (hk : keyOf P k key = some (kl i)) (u : Value) (hu : (g i).getD z = u) (c : Bool) (hc : (g i).isSome = c) (hK : wpList P ops Q rest (a.put o.dst (.tuple #[u, .bool c])) w) : wpList P ops Q (o :: rest) a w := by
  refine wpList_wanted hw fun K' hK' => ?_
  obtain ⟨D, h1, -, h2⟩ := h
  obtain ⟨v, ps, hrun, hv⟩ := h1.look_ok K ht hz (zd := .held z) (zp := []) rfl hk
  rw [(h2 i hi).2 z, hu] at hv
  rw [(h2 i hi).1, hc] at hrun
  have : v = u := by unfold VR at hv; injection hv with hv; injection hv with hv _; injection hv
  subst this
  unfold Oper.wp
  simp [execOp, hop, hm, hx, hrun, Result.andThen]
  exact hK' _ _ hK
theorem wpList_upd_g (hw : Region.wanted o (yielded ops a.tmps) = true) (m x y : Operand) (t e : TypeId) (hop : o.op = Op.mapUpdate t m x y) (K : Keyed P k) (ht : P.underlying t = some (.map k e))
    (hm : a.eval m = .map (some b)) (h : MapG P k kl ok w b n g) (hn : n < 9223372036854775807) (key : Value) (hx : a.eval x = key) (v : Value) (hy : a.eval y = v)
    (i : ι) (hk : keyOf P k key = some (kl i)) (g' : ι → Option Value) (h1 : g' i = some v) (h2 : ∀ j, ok j → kl j ≠ kl i → g' j = g j) (h3 : ∀ j, ok j → kl j = kl i → j = i)
    (hK : ∀ w', MapG P k kl ok w' b (n + 1) g' → w.grownBy w' (some b) → wpList P ops Q rest (a.put o.dst undef) w') : wpList P ops Q (o :: rest) a w := by
  refine wpList_wanted hw fun K' hK' => ?_
  obtain ⟨D, d1, d3, d2⟩ := h
  obtain ⟨w', hrun, r1, r2⟩ := d1.update K ht (by unfold maxLen; omega) hk (val := v) (d := .held v) (ps := []) rfl
  unfold Oper.wp
  simp [execOp, hop, hm, hx, hy, hrun, Result.andThen]
  refine hK' _ _ (hK w' ⟨_, r1, d3.put _ _, fun j hj => ?_⟩ r2)
  by_cases e1 : kl j = kl i
  · obtain rfl := h3 j hj e1
    rw [has_put_same d3 (K.key hk), h1]
    exact ⟨rfl, fun z => atKey_put_same d3 (K.key hk) _ _⟩
  · rw [has_put_other e1, h2 j hj e1]
    exact ⟨(d2 j hj).1, fun z => by rw [atKey_put_other e1]; exact (d2 j hj).2 z⟩
end
/-- integer keys -/
abbrev MapI (P : Program) (k : TypeId) (w : World) (b n : Nat) (g : Int → Option Value) : Prop := MapG P k (fun x : Int => Lit.int .i64 x) (fun _ => True) w b n g
theorem keyOf_i64 {P : Program} {k : TypeId} (hk : P.underlying k = some (.int .i64)) {a : Int} (h0 : -9223372036854775808 ≤ a) (h1 : a ≤ 9223372036854775807) : keyOf P k (.int .i64 a) = some (.int .i64 a) :=
  keyOf_int_mk hk (WalkArith.wf_i64 ⟨by omega, by omega⟩)
theorem ext_grown_new {a w w' : World} (h : Ext a w) {g : Nat} (hg : w.grownBy w' (some g)) (hB : a.heap.size ≤ g) : Ext a w' := h.grown hg hB
end Go.Proofs.YtgmddhljgfbibaaDoor
/- Binary digits, numbers and bytes: plain. -/
namespace Go.Proofs.YtgmddhljgfbibaaDoor
set_option linter.unusedVariables false
set_option linter.unusedSimpArgs false
/-- the last k binary digits of n, the highest first -/
def digs (n : Nat) : Nat → List Bool
  | 0 => []
  | k + 1 => (n / 2 ^ k % 2 == 1) :: digs n k
/-- the number that digits tell -/
def numB : List Bool → Nat
  | [] => 0
  | b :: l => b.toNat * 2 ^ l.length + numB l
theorem digs_len (n k : Nat) : (digs n k).length = k := by
  induction k with
  | zero => rfl
  | succ k ih => simp [digs, ih]
theorem numB_lt (l : List Bool) : numB l < 2 ^ l.length := by
  induction l with
  | nil => simp [numB]
  | cons b l ih =>
    simp only [numB, List.length_cons, Nat.pow_succ]
    cases b <;> simp <;> omega
theorem numB_append (a b : List Bool) : numB (a ++ b) = numB a * 2 ^ b.length + numB b := by
  induction a with
  | nil => simp [numB]
  | cons x a ih =>
    simp only [List.cons_append, numB, List.length_append, ih, Nat.pow_add, Nat.add_mul, Nat.mul_assoc]
    omega
theorem numB_digs (n k : Nat) : numB (digs n k) = n % 2 ^ k := by
  induction k with
  | zero => simp [digs, numB, Nat.mod_one]
  | succ k ih =>
    simp only [digs, numB, digs_len, ih]
    have e : (n / 2 ^ k % 2 == 1).toNat = n / 2 ^ k % 2 := by
      rcases (show n / 2 ^ k % 2 = 0 ∨ n / 2 ^ k % 2 = 1 by omega) with h | h <;> simp [h]
    rw [e, Nat.pow_succ, Nat.mod_mul, Nat.mul_comm]
    omega
theorem numB_digs_lt {n k : Nat} (h : n < 2 ^ k) : numB (digs n k) = n := by rw [numB_digs, Nat.mod_eq_of_lt h]
theorem numB_inj {a b : List Bool} (hl : a.length = b.length) (h : numB a = numB b) : a = b := by
  induction a generalizing b with
  | nil => cases b with | nil => rfl | cons _ _ => simp at hl
  | cons x a ih =>
    cases b with
    | nil => simp at hl
    | cons y b =>
      have hl' : a.length = b.length := by simpa using hl
      simp only [numB, hl'] at h
      have h1 := numB_lt a
      have h2 := numB_lt b
      rw [hl'] at h1
      have hxy : x = y := by
        cases x <;> cases y <;> simp at h ⊢ <;> omega
      subst hxy
      rw [ih hl' (by omega)]
theorem digs_numB (l : List Bool) : digs (numB l) l.length = l := numB_inj (digs_len _ _) (numB_digs_lt (numB_lt l))
theorem digs_mod (n k m : Nat) (h : k ≤ m) : digs (n % 2 ^ m) k = digs n k := by
  apply numB_inj (by simp [digs_len])
  rw [numB_digs, numB_digs, Nat.mod_mod_of_dvd _ (Nat.pow_dvd_pow 2 h)]
theorem digs_add (x y j k : Nat) (hy : y < 2 ^ j) : digs (x * 2 ^ j + y) (k + j) = digs x k ++ digs y j := by
  apply numB_inj (by simp [digs_len])
  rw [numB_append, digs_len, numB_digs, numB_digs, numB_digs, Nat.mod_eq_of_lt hy, Nat.add_comm k j, Nat.pow_add]
  rw [Nat.mod_mul, Nat.mul_comm x, Nat.mul_add_mod, Nat.mod_eq_of_lt hy, Nat.mul_add_div (Nat.two_pow_pos j), Nat.div_eq_of_lt hy, Nat.add_zero, Nat.mul_comm (2 ^ j), Nat.add_comm]
theorem numB_drop (l : List Bool) (k : Nat) : numB (l.drop k) = numB l % 2 ^ (l.length - k) := by
  have h := numB_append (l.take k) (l.drop k)
  rw [List.take_append_drop] at h
  have h2 := numB_lt (l.drop k)
  rw [List.length_drop] at h h2
  rw [h, Nat.mul_comm, Nat.mul_add_mod, Nat.mod_eq_of_lt h2]
theorem numB_take (l : List Bool) (k : Nat) : numB (l.take k) = numB l / 2 ^ (l.length - k) := by
  have h := numB_append (l.take k) (l.drop k)
  rw [List.take_append_drop] at h
  have h2 := numB_lt (l.drop k)
  rw [List.length_drop] at h h2
  rw [h, Nat.mul_comm, Nat.mul_add_div (Nat.two_pow_pos _), Nat.div_eq_of_lt h2, Nat.add_zero]
/-- the k digits from i on, as a number -/
theorem numB_mid (l : List Bool) (i k : Nat) (h : i + k ≤ l.length) : numB ((l.drop i).take k) = numB l / 2 ^ (l.length - (i + k)) % 2 ^ k := by
  have e : (l.drop i).take k = (l.take (i + k)).drop i := by rw [List.drop_take]; congr 1; omega
  rw [e, numB_drop, numB_take l, List.length_take]
  congr 2
  omega
theorem numB_snoc (l : List Bool) (b : Bool) : numB (l ++ [b]) = 2 * numB l + b.toNat := by
  rw [numB_append]; simp [numB]; omega
/-- whole bytes of digits -/
def packB (l : List Bool) : List Nat := (List.range (l.length / 8)).map fun i => numB ((l.drop (8 * i)).take 8)
/-- the digits behind the whole bytes -/
def restB (l : List Bool) : List Bool := l.drop (8 * (l.length / 8))
theorem packB_len (l : List Bool) : (packB l).length = l.length / 8 := by simp [packB]
theorem restB_len (l : List Bool) : (restB l).length = l.length % 8 := by simp [restB]; omega
theorem packB_lt (l : List Bool) : ∀ x ∈ packB l, x < 256 := by
  intro x hx
  simp only [packB, List.mem_map, List.mem_range] at hx
  obtain ⟨i, hi, rfl⟩ := hx
  have h := numB_lt ((l.drop (8 * i)).take 8)
  have h2 : ((l.drop (8 * i)).take 8).length ≤ 8 := List.length_take_le _ _
  have := Nat.pow_le_pow_right (n := 2) (by omega) h2
  omega
theorem packB_append (l m : List Bool) : packB (l ++ m) = packB l ++ packB (restB l ++ m) := by
  have e : (l ++ m).length / 8 = l.length / 8 + (restB l ++ m).length / 8 := by
    rw [List.length_append, List.length_append, restB_len]; omega
  have key : (l ++ m).drop (8 * (l.length / 8)) = restB l ++ m := by
    rw [List.drop_append_of_le_length (by omega)]; rfl
  unfold packB
  rw [e, List.range_add, List.map_append, List.map_map]
  congr 1
  · apply List.map_congr_left
    intro i hi
    have := List.mem_range.1 hi
    rw [List.drop_append_of_le_length (by omega), List.take_append_of_le_length (by rw [List.length_drop]; omega)]
  · apply List.map_congr_left
    intro i _
    simp only [Function.comp]
    rw [Nat.mul_add, ← List.drop_drop, key]
theorem restB_append (l m : List Bool) : restB (l ++ m) = restB (restB l ++ m) := by
  have key : (l ++ m).drop (8 * (l.length / 8)) = restB l ++ m := by
    rw [List.drop_append_of_le_length (by omega)]; rfl
  rw [restB, restB, ← key, List.drop_drop]
  congr 1
  rw [List.length_drop]
  rw [List.length_append]
  omega
/-- filled up with ones to whole bytes -/
def padB (l : List Bool) : List Bool := l ++ List.replicate ((8 - l.length % 8) % 8) true
theorem padB_len (l : List Bool) : (padB l).length % 8 = 0 := by simp [padB]; omega
theorem numB_ones (k : Nat) : numB (List.replicate k true) = 2 ^ k - 1 := by
  induction k with
  | zero => rfl
  | succ k ih =>
    rw [List.replicate_succ, numB, ih, Nat.pow_succ]
    have := Nat.two_pow_pos k
    simp
    omega
theorem digs_ones (k : Nat) : digs (2 ^ k - 1) k = List.replicate k true := by
  apply numB_inj (by simp [digs_len])
  rw [numB_ones, numB_digs_lt (by have := Nat.two_pow_pos k; omega)]
/-- the digits of bytes -/
def digsOf (b : List Nat) : List Bool := b.flatMap fun x => digs x 8
theorem digsOf_len (b : List Nat) : (digsOf b).length = 8 * b.length := by
  induction b with
  | nil => rfl
  | cons x b ih => simp only [digsOf, List.flatMap_cons, List.length_append, digs_len, List.length_cons] at ih ⊢; omega
theorem digsOf_at (b : List Nat) (i : Nat) (h2 : i < b.length) : ((digsOf b).drop (8 * i)).take 8 = digs b[i] 8 := by
  induction b generalizing i with
  | nil => simp at h2
  | cons x b ih =>
    have e : digsOf (x :: b) = digs x 8 ++ digsOf b := rfl
    rw [e]
    cases i with
    | zero => simp [digs_len]
    | succ i =>
      rw [List.drop_append, List.drop_of_length_le (by rw [digs_len]; omega), digs_len, List.nil_append, show 8 * (i + 1) - 8 = 8 * i by omega]
      have h3 : i < b.length := by simpa using h2
      rw [ih i h3]
      simp
theorem packB_digsOf (b : List Nat) (h : ∀ x ∈ b, x < 256) : packB (digsOf b) = b := by
  have hl := digsOf_len b
  apply List.ext_getElem
  · rw [packB_len, hl]; omega
  · intro i h1 h2
    simp only [packB, List.getElem_map, List.getElem_range]
    rw [digsOf_at b i h2, numB_digs_lt (h _ (List.getElem_mem h2))]
theorem digsOf_append (a b : List Nat) : digsOf (a ++ b) = digsOf a ++ digsOf b := by simp [digsOf]
theorem digsOf_packB (l : List Bool) (h : l.length % 8 = 0) : digsOf (packB l) = l := by
  have key : ∀ k, k ≤ l.length / 8 → digsOf ((List.range k).map fun i => numB ((l.drop (8 * i)).take 8)) = l.take (8 * k) := by
    intro k
    induction k with
    | zero => intro _; simp [digsOf]
    | succ k ih =>
      intro hk
      rw [List.range_succ, List.map_append, digsOf_append, ih (by omega)]
      have e : (l.drop (8 * k)).take 8 = digs (numB ((l.drop (8 * k)).take 8)) 8 := by
        have h1 : ((l.drop (8 * k)).take 8).length = 8 := by simp; omega
        have h2 := digs_numB ((l.drop (8 * k)).take 8)
        rw [h1] at h2
        exact h2.symm
      simp only [List.map_cons, List.map_nil, digsOf, List.flatMap_cons, List.flatMap_nil, List.append_nil]
      rw [← e, show 8 * (k + 1) = 8 * k + 8 by omega, List.take_add]
  unfold packB
  rw [key _ (Nat.le_refl _), List.take_of_length_le (by omega)]
end Go.Proofs.YtgmddhljgfbibaaDoor
/- binary of the reference. -/
namespace Go.Proofs.YtgmddhljgfbibaaDoor
set_option linter.unusedVariables false
set_option linter.unusedSimpArgs false
open Go.RowKit
/-- the last k binary digits of n, as a string -/
def binS (n : Nat) : Nat → ByteArray
  | 0 => ⟨#[]⟩
  | k + 1 => Utf8.encode (48 + (((n / 2 ^ k) % 2 : Nat) : Int)) ++ binS n k
theorem digit_size (m : Nat) : (Utf8.encode (48 + ((m % 2 : Nat) : Int))).size = 1 := by
  rcases (show m % 2 = 0 ∨ m % 2 = 1 by omega) with h | h <;> rw [h] <;> decide
theorem binS_size (n k : Nat) : (binS n k).size = k := by
  induction k with
  | zero => rfl
  | succ k ih => unfold binS; rw [ByteArray.size_append, digit_size, ih]; omega
set_option maxHeartbeats 400000 in
theorem binary_any (width n : Nat) (w : World) (hw : width ≤ 1000) (hn : n ≤ 1000000000) :
    Calls Tryd.prog 34 #[.int .i64 (width : Int), .int .i64 (n : Int)] w fun e w' => e = .returned (.string (binS n width)) ∧ w = w' := by
  have HB := hid_ (binS_size n)
  have HN : Hid (∀ k, binS n (k + 1) = Utf8.encode (48 + (((n / 2 ^ k) % 2 : Nat) : Int)) ++ binS n k) := hid_ (fun k => rfl)
  go_enter Tryd.func34, Tryd.ntmps34
  go_wp2_with fail
  go_loop [1, 5, 7] (fun v s i => ∃ k m : Nat, k ≤ width ∧ m ≤ 1000000000 ∧ m = n / 2 ^ k ∧ i = .int .i64 (k : Int) ∧ v = .int .i64 (m : Int) ∧ s = .string (binS n k)) (fun _ _ i => width - (intOf i).toNat)
  case atStart => exact ⟨0, n, by omega, hn, by simp, rfl, rfl, rfl⟩
  case round =>
    obtain ⟨k, m, hk, hm, hmn, rfl, rfl, rfl⟩ := hrel
    have HM := hid_ hmn
    clear hmn
    by_cases hlt : k < width
    · have hd := digit_size m
      have hbs := HB.out k
      have HNK := hid_ (HN.out k)
      rw [← HM.out] at HNK
      have em : ((m % 2 : Nat) : Int) = (m : Int) % 2 := by omega
      rw [em] at hd HNK
      clear em
      generalize binS n k = b at *
      generalize hu : Utf8.encode (48 + (m : Int) % 2) = u at *
      have hlim : ¬ 9223372036854775807 < u.size + b.size := by omega
      go_wp2_with fail
      go_round
      case rel => exact ⟨k + 1, m / 2, by omega, by omega, by rw [HM.out, Nat.div_div_eq_div_mul, Nat.pow_succ], by go_num, by simp, by rw [HNK.out]⟩
      case measure => simp [intOf]; omega
    · obtain rfl : k = width := by omega
      go_wp2_with fail
      go_ret
      exact ⟨rfl, rfl⟩
end Go.Proofs.YtgmddhljgfbibaaDoor
