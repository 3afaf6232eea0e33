/- Contracts for the law SegCounts, part 9: what the functions that it reaches answer, for all arguments that the theorems name. -/
import Derived.Test.YtkfdkkhhkciocaaMSegCounts2
import Derived.Test.YtkfdkkhhkciocaaMSegCounts7
import Derived.Test.YtkfdkkhhkciocaaMSegCounts8
import Derived.Test.YtkfdkkhhkciocaaMSegCounts4
import Derived.Laws.MakeOwn
import Derived.Test.YtkfdkkhhkciocaaMSegCounts6
/- seg.each: whoever eats the tokens of blocks. -/
namespace Go.Proofs.Ytkfdkkhhkciocaa
set_option linter.unusedVariables false
set_option linter.unusedSimpArgs false
open Go.RowKit
section
variable {σ : Type}
/-- called through f, with what is captured behind the token and the flag, it steps; what it holds stands in the blocks F, which may grow by new ones -/
structure Eat (f : FuncId) (cap : Array Value) (Inv : World → σ → (Nat → Prop) → Prop) (step : σ → Tok → Bool → Int × σ) : Prop where
  goes : Goes Try.prog f
  ask : ∀ t b s F W, tokWf t → Inv W s F → Calls Try.prog f (#[.agg (tokv t).toArray, .bool b] ++ cap) W fun e w' => e = .returned (.int .i64 (step s t b).1) ∧ Upd F W w' ∧ ∃ F', Inv w' (step s t b).2 F' ∧ ∀ x, F' x → F x ∨ W.heap.size ≤ x
  keep : ∀ s F W W' (T : Nat → Prop), Inv W s F → Upd T W W' → (∀ x, T x → ¬ F x) → Inv W' s F
  old : ∀ s F W x, Inv W s F → F x → x < W.heap.size
variable {f : FuncId} {cap : Array Value} {Inv : World → σ → (Nat → Prop) → Prop} {step : σ → Tok → Bool → Int × σ}
theorem Eat.ext (E : Eat f cap Inv step) {s : σ} {F : Nat → Prop} {W W' : World} (h : Inv W s F) (hx : Ext W W') : Inv W' s F := E.keep s F W W' (fun _ => False) h (upd_of_ext hx) (fun _ k => k.elim)
theorem Eat.grown (E : Eat f cap Inv step) {s : σ} {F : Nat → Prop} {W W' : World} (h : Inv W s F) {g : Nat} (hg : W.grownBy W' (some g)) (hn : ¬ F g) : Inv W' s F :=
  E.keep s F W W' _ h (upd_grown hg) (fun x k => by have := Option.some.inj k; subst this; exact hn)
/-- what each hands back -/
def EachIs (Inv : World → σ → (Nat → Prop) → Prop) (F : Nat → Prop) (w : World) (r : Int × σ) (e : Ending) (w' : World) : Prop :=
  e = .returned (.int .i64 r.1) ∧ Upd F w w' ∧ ∃ F', Inv w' r.2 F' ∧ ∀ x, F' x → F x ∨ w.heap.size ≤ x
theorem EachIs.mk {F F' : Nat → Prop} {w w' : World} {r : Int × σ} {n : Int} {s : σ} (hr : r = (n, s)) (hu : Upd F w w') (hi : Inv w' s F') (hF : ∀ x, F' x → F x ∨ w.heap.size ≤ x) : EachIs Inv F w r (.returned (.int .i64 n)) w' := by
  subst hr
  exact ⟨rfl, hu, F', hi, hF⟩
theorem bv_out (zs : List Int) : (ints zs).toArray = bv zs := rfl
theorem SL.updq {S : Nat → Prop} {w w' : World} {size n c : Nat} {A : Option Addr} {xs : List Value} (h : SL w size (.slice A n c) n xs) (hu : Upd S w w') (hS : ∀ ad, A = some ad → 0 < n → ¬ S ad.block) : SL w' size (.slice A n c) n xs := by
  obtain ⟨A', c', e, h1, h2, h3, h4⟩ := h
  injection e with e1 e2 e3
  subst e1 e3
  refine ⟨_, _, rfl, h1, h2, h3, fun h0 => ?_⟩
  obtain ⟨ad, rfl, hb, hc⟩ := h4 h0
  refine ⟨ad, rfl, Nat.lt_of_lt_of_le hb hu.size, fun j u hj => ?_⟩
  rw [← hc j u hj]
  unfold World.cell?
  rw [block_of_add, hu.block _ hb (hS ad rfl h0)]
theorem zigAt_0 : zigAt 0 = 0 := by decide
theorem zto_head (zs : List Int) : (zto zs).getD 0 0 = zs.getD 0 0 := by
  have h : 0 < (zto zs).length := by rw [zto_len]; omega
  rw [List.getD_eq_getElem?_getD, List.getElem?_eq_getElem h]
  simp [zto, zigAt_0]
theorem getD_in {zs : List Int} {lo hi : Int} (h : allIn zs lo hi = true) (k : Nat) (h1 : lo ≤ 0) (h2 : 0 ≤ hi) : lo ≤ zs.getD k 0 ∧ zs.getD k 0 ≤ hi := by
  rw [List.getD_eq_getElem?_getD]
  cases hq : zs[k]? with
  | none => exact ⟨h1, h2⟩
  | some y => exact allIn_iff.1 h y (List.mem_of_getElem? hq)
theorem befAt_in {Z : List Int} {k : Nat} (h : ∀ j, j < k → allIn (blkAt Z j) (-2047) 2047 = true) : -2047 ≤ befAt Z k ∧ befAt Z k ≤ 2047 := by
  unfold befAt
  split
  · omega
  · exact getD_in (h (k - 1) (by omega)) 0 (by omega) (by omega)
theorem befAt_0 (Z : List Int) : befAt Z 0 = 0 := if_pos rfl
theorem befAt_succ (Z : List Int) (k : Nat) : befAt Z (k + 1) = (blkAt Z k).getD 0 0 := if_neg (by omega)
theorem toksAt_out (Z : List Int) (k : Nat) : toksAt Z k = tokensZ (befAt Z k) (zto (blkAt Z k)) := rfl
attribute [local irreducible] tokensZ zto bv toks accT eatGo flagsAt toksAt befAt blkAt
set_option maxRecDepth 20000 in
set_option maxHeartbeats 4000000 in
theorem each_any (E : Eat f cap Inv step) (A : Option Addr) (n c : Nat) (Z : List Int) (hZ : Z.length = n * 64) (w : World) (hs : SL w 64 (.slice A n c) n (ints Z)) (s : σ) (F : Nat → Prop) (hI : Inv w s F) (hA : ∀ ad, A = some ad → 0 < n → ¬ F ad.block) :
    Calls Try.prog 31 #[.slice A n c, .func (.func f) #[] cap] w (EachIs Inv F w (eachZ step n Z s)) := by
  have hs' := hs
  obtain ⟨A', c', he, hnc, hc2, -, -⟩ := hs'
  injection he with he1 he2 he3
  subst he1 he3
  by_cases hn : 400 < n
  · have hR : eachZ step n Z s = (2, s) := if_pos hn
    have HR := hid_ hR
    generalize eachZ step n Z s = R at *
    clear hR hs
    go_enter Try.func31, Try.ntmps31
    go_wp2_with fail
    go_ret
    exact EachIs.mk HR.out (Upd.refl _ _) hI (fun x h => .inl h)
  · have hR : eachZ step n Z s = if allIn Z (-2047) 2047 = false then (1, s) else eatGo step (flagsAt Z n 0) s := if_neg hn
    have HR := hid_ hR
    generalize eachZ step n Z s = R at *
    clear hR
    have hn4 : n ≤ 400 := by omega
    have HZ := hid_ hZ
    clear hn hZ
    have HAL := hid_ (show (Try.prog.info? 24).bind (·.zero) = some (.agg (bv (List.replicate 64 0))) from zero48)
    have hz0 := hid_ (show (Value.agg (bv (List.replicate 64 0))).cells.size = 64 by rw [show (Value.agg (bv (List.replicate 64 0))).cells = bv (List.replicate 64 0) from rfl, bv_size]; rfl)
    generalize bv (List.replicate 64 0) = cz at *
    go_enter Try.func31, Try.ntmps31
    go_wp2_with fail
    go_loopw [22] (fun i wr => ∃ k : Nat, k ≤ n ∧ i = .int .i64 (k : Int) ∧ Ext w wr ∧ Hid (∀ j, j < k → allIn (blkAt Z j) (-2047) 2047 = true)) (fun i _ => n - (intOf i).toNat)
    case atStart => exact ⟨0, by omega, rfl, Ext.refl w, hid_ (fun j h => by omega)⟩
    case round =>
      obtain ⟨k, hk, rfl, hx, HP⟩ := hrel
      by_cases hlt : k < n
      · obtain ⟨ad, rfl, hab, hca⟩ := (hs.ext hx).part hlt
        have hbl := blkAt_len Z n k HZ.out hlt
        have e : ((ints Z).drop (k * 64)).take 64 = ints (blkAt Z k) := by simp [ints, blkAt, List.map_drop, List.map_take]
        rw [e] at hca
        clear e
        have HCA := hid_ hca
        have HB := hid_ hbl
        have HSZ := hid_ (show (bv (blkAt Z k)).size = 64 by rw [bv_size]; exact hbl)
        have HO1 := hid_ (bv_one (blkAt Z k))
        have HBV := hid_ (bv_out (blkAt Z k))
        clear hca hbl
        cases hal : allIn (blkAt Z k) (-2047) 2047 with
        | false =>
          have HT := hid_ (fun W => rtok_bad 0 (blkAt Z k) W HB.out (.inr ⟨by decide, hal⟩))
          have HRE : Hid (R = (1, s)) := hid_ (by
            rw [HR.out, if_pos]
            cases hq : allIn Z (-2047) 2047 with
            | false => rfl
            | true => have := (blkAt_in Z n HZ.out).1 hq k hlt; rw [hal] at this; cases this)
          have HCB : Hid (∀ W, CellsAt W (ad.add (k * 64)) (ints (blkAt Z k)) → CellsAt W (ad.add (k * 64)) (bv (blkAt Z k)).toList) := hid_ (fun W h => by rw [← HBV.out]; simpa using h)
          clear hal
          go_wp2_with (first
            | (show wpList _ _ _ (⟨some 25, _, _, _, _, _⟩ :: _) _ _; refine wpList_load_any (by rfl) 24 (.tmp 24) rfl (ad.add (k * 64)) rfl (ints (blkAt Z k)) _ HCA.out Try.underlying24 rfl (by rw [ints_len, HB.out]; exact size48) ?_; rw [HBV.out])
            | (show wpList _ _ _ (⟨some 6, _, _, _, _, _⟩ :: _) _ _; refine wpList_alloc_abs' rfl (some 6) rfl 24 rfl _ HAL.out ?_; intro w1 g1 hb1 hx1 hg1)
            | (show wpList _ _ _ (⟨none, .store _ (.tmp 6) (.tmp 25), _, _, _, _⟩ :: _) _ _; refine wpList_store_blk rfl 24 (.tmp 6) (.tmp 25) rfl _ _ rfl rfl hb1 64 size48 HSZ.out hz0.out HO1.out ?_; intro w2 hb2 hg2)
            | (show wpList _ _ _ (⟨some 27, _, _, _, _, _⟩ :: _) _ _; refine wpList_load_blk rfl 24 (.tmp 6) rfl g1 rfl hb2 _ Try.underlying24 rfl 64 size48 HSZ.out ?_)
            | (go_at_call 75; (with_reducible refine (HT.out _).mono ?_); rintro e w3 ⟨rfl, hx3⟩))
          go_ret
          have hx4 := (hx.trans (hx1.grown hg2 hg1)).trans hx3
          exact EachIs.mk HRE.out (upd_of_ext hx4) (E.ext hI hx4) (fun x h => .inl h)
        | true =>
          have hzh := getD_in hal 0 (by omega) (by omega)
          rw [← zto_head] at hzh
          have HT := hid_ (fun W => rtok_good 0 (blkAt Z k) W HB.out (by omega) (by omega) hal hzh.1 hzh.2)
          have HP' : Hid (∀ j, j < k + 1 → allIn (blkAt Z j) (-2047) 2047 = true) := hid_ (fun j hj => by
            rcases Nat.lt_or_ge j k with h1 | h1
            · exact HP.out j h1
            · obtain rfl : j = k := by omega
              exact hal)
          clear hal hzh HP
          generalize tokensZ 0 (zto (blkAt Z k)) = T0 at *
          go_wp2_with (first
            | (show wpList _ _ _ (⟨some 25, _, _, _, _, _⟩ :: _) _ _; refine wpList_load_any (by rfl) 24 (.tmp 24) rfl (ad.add (k * 64)) rfl (ints (blkAt Z k)) _ HCA.out Try.underlying24 rfl (by rw [ints_len, HB.out]; exact size48) ?_; rw [HBV.out])
            | (show wpList _ _ _ (⟨some 6, _, _, _, _, _⟩ :: _) _ _; refine wpList_alloc_abs' rfl (some 6) rfl 24 rfl _ HAL.out ?_; intro w1 g1 hb1 hx1 hg1)
            | (show wpList _ _ _ (⟨none, .store _ (.tmp 6) (.tmp 25), _, _, _, _⟩ :: _) _ _; refine wpList_store_blk rfl 24 (.tmp 6) (.tmp 25) rfl _ _ rfl rfl hb1 64 size48 HSZ.out hz0.out HO1.out ?_; intro w2 hb2 hg2)
            | (show wpList _ _ _ (⟨some 27, _, _, _, _, _⟩ :: _) _ _; refine wpList_load_blk rfl 24 (.tmp 6) rfl g1 rfl hb2 _ Try.underlying24 rfl 64 size48 HSZ.out ?_)
            | (go_at_call 75; (with_reducible refine (HT.out _).mono ?_); rintro e w3 ⟨D, d, rfl, -, hx3⟩))
          go_roundw
          case rel => exact ⟨k + 1, by omega, by go_num, (hx.trans (hx1.grown hg2 hg1)).trans hx3, HP'⟩
          case measure => simp [intOf]; omega
      · obtain rfl : n = k := by omega
        have HR2 : Hid (eatGo step (flagsAt Z n 0) s = R) := hid_ (by rw [HR.out, if_neg]; rw [(blkAt_in Z n HZ.out).2 HP.out]; simp)
        have HPA : Hid (∀ j, j < n → allIn (blkAt Z j) (-2047) 2047 = true) := hid_ HP.out
        have hI1 := E.ext hI hx
        have hs1 := hs.ext hx
        have hb0 := befAt_0 Z
        have HB0 := hid_ hb0
        clear HR hb0 hlt
        have hA1 : Hid (∀ (F' : Nat → Prop), (∀ x, F' x → F x ∨ w.heap.size ≤ x) → ∀ ad, A = some ad → 0 < n → ¬ F' ad.block) := hid_ (fun F' h ad e h0 k => by
          rcases h _ k with h1 | h1
          · exact hA ad e h0 h1
          · obtain ⟨A'', c'', e2, -, -, -, h5⟩ := hs
            injection e2 with e3 _ _
            subst e3
            obtain ⟨ad', e4, h6, -⟩ := h5 h0
            rw [e] at e4
            injection e4 with e4
            subst e4
            omega)
        have hu0 : Upd F w wr := upd_of_ext hx
        have hsw := hx.size
        clear hx hI hA hs HP
        go_wp2_with fail
        obtain ⟨wo, rfl⟩ : ∃ wo : World, wo = wr := ⟨_, rfl⟩
        go_loopw [9, 37] (fun b i wr => ∃ (k : Nat) (q : σ) (G : Nat → Prop), k ≤ n ∧ i = .int .i64 (k : Int) ∧ b = .int .i64 (befAt Z k) ∧ Upd F w wr ∧ w.heap.size ≤ wr.heap.size ∧ Inv wr q G ∧ Hid (∀ x, G x → F x ∨ w.heap.size ≤ x) ∧ SL wr 64 (.slice A n c) n (ints Z) ∧ Hid (eatGo step (flagsAt Z n k) q = R)) (fun _ i _ => n - (intOf i).toNat)
        case atStart => exact ⟨0, s, F, by omega, rfl, by rw [HB0.out], hu0, hsw, hI1, hid_ (fun x h => .inl h), hs1, HR2⟩
        case round =>
          clear hu0 hsw hI1 hs1 HR2
          obtain ⟨k, q, G, hk, rfl, rfl, hu, hsw, hI, HG, hs, HR⟩ := hrel
          by_cases hlt : k < n
          · have hAG : ∀ ad, A = some ad → 0 < n → ¬ G ad.block := hA1.out G HG.out
            have HAG := hid_ hAG
            clear hAG
            obtain ⟨ad, rfl, hab, hca⟩ := hs.part hlt
            have hbl := blkAt_len Z n k HZ.out hlt
            have e : ((ints Z).drop (k * 64)).take 64 = ints (blkAt Z k) := by simp [ints, blkAt, List.map_drop, List.map_take]
            rw [e] at hca
            clear e
            have HCA := hid_ hca
            have HB := hid_ hbl
            have HSZ := hid_ (show (bv (blkAt Z k)).size = 64 by rw [bv_size]; exact hbl)
            have HO1 := hid_ (bv_one (blkAt Z k))
            have HBV := hid_ (bv_out (blkAt Z k))
            have hal := HPA.out k hlt
            have hzh := getD_in hal 0 (by omega) (by omega)
            rw [← zto_head] at hzh
            have hbf := befAt_in (Z := Z) (k := k) (fun j hj => HPA.out j (by omega))
            have HT := hid_ (fun W => rtok_fresh (befAt Z k) (blkAt Z k) W HB.out hbf.1 hbf.2 hal hzh.1 hzh.2)
            rw [← toksAt_out] at HT
            have HWF : Hid (∀ t ∈ toksAt Z k, tokWf t) := hid_ (by rw [toksAt_out]; exact tokensZ_wf _ _ (zto_len _))
            have HR1 : Hid (eatGo step ((flagT (toksAt Z k)).drop 0 ++ flagsAt Z n (k + 1)) q = R) := hid_ (by rw [List.drop_zero, ← flagsAt_succ Z n k hlt]; exact HR.out)
            have HBS := hid_ (befAt_succ Z k)
            have HB1 : Hid ((bv (blkAt Z k))[0]? = some (.int .i64 ((blkAt Z k).getD 0 0))) := hid_ (by rw [bv_at _ 0 (by omega)]; simp [List.getD_eq_getElem?_getD, hbl])
            obtain ⟨T, hT⟩ : ∃ T, T = toksAt Z k := ⟨_, rfl⟩
            rw [← hT] at HT HWF HR1
            obtain ⟨m, hm⟩ : ∃ m, T.length = m := ⟨_, rfl⟩
            have HM := hid_ hm
            rw [hm] at HT
            clear hT hm hca hbl hal hzh hbf HR
            generalize befAt Z k = bf at *
            go_wp2_with (first
              | (show wpList _ _ _ (⟨some 40, _, _, _, _, _⟩ :: _) _ _; refine wpList_load_any (by rfl) 24 (.tmp 39) rfl (ad.add (k * 64)) rfl (ints (blkAt Z k)) _ HCA.out Try.underlying24 rfl (by rw [ints_len, HB.out]; exact size48) ?_; rw [HBV.out])
              | (show wpList _ _ _ (⟨some 11, _, _, _, _, _⟩ :: _) _ _; refine wpList_alloc_abs' rfl (some 11) rfl 24 rfl _ HAL.out ?_; intro w1 g1 hb1 hx1 hg1)
              | (show wpList _ _ _ (⟨none, .store _ (.tmp 11) (.tmp 40), _, _, _, _⟩ :: _) _ _; refine wpList_store_blk rfl 24 (.tmp 11) (.tmp 40) rfl _ _ rfl rfl hb1 64 size48 HSZ.out hz0.out HO1.out ?_; intro w2 hb2 hg2; have hx2 := hx1.grown hg2 hg1)
              | (show wpList _ _ _ (⟨some 43, _, _, _, _, _⟩ :: _) _ _; refine wpList_load_blk rfl 24 (.tmp 11) rfl g1 rfl hb2 _ Try.underlying24 rfl 64 size48 HSZ.out ?_)
              | (go_at_call 75; (with_reducible refine (HT.out _).mono ?_); rintro e w3 ⟨D, d, rfl, hs3, hf3, hx3⟩))
            have hG2 : ∀ x, G x → x < wr.heap.size := fun x h => E.old q G wr x hI h
            have HG1 : Hid (¬ G g1) := hid_ (fun h => by have := hG2 g1 h; omega)
            have hx3' : Ext wr w3 := hx2.trans hx3
            have hI3 := E.ext hI hx3'
            have hb3 := hb2.ext hx3
            have hu3 : Upd F w w3 := hu.trans (upd_of_ext (S := fun _ => False) hx3') (fun _ h => h.elim)
            have hs3' := hs.ext hx3'
            have hsw3 : w.heap.size ≤ w3.heap.size := by have := hx3'.size; omega
            have HD3 : Hid (∀ ad, D = some ad → ¬ G ad.block) := hid_ (fun ad e h => by have := hf3 ad e; have := hG2 _ h; have := hx2.size; omega)
            have hs3c := hs3
            obtain ⟨D', d'', he3, hmd, hd2, -, -⟩ := hs3c
            injection he3 with q1 q2 q3
            subst q1 q3
            have hm1 : m ≤ 9223372036854775807 := by omega
            clear hu hsw hI hs hb1 hx1 hg1 hb2 hg2 hx2 hx3 hf3 hG2 hx3'
            clear q2
            go_loopw [49] (fun i wi => ∃ (j : Nat) (p : σ) (G' : Nat → Prop), j ≤ m ∧ i = .int .i64 (j : Int) ∧ Upd F w wi ∧ w.heap.size ≤ wi.heap.size ∧ Inv wi p G' ∧ Hid (∀ x, G' x → F x ∨ w.heap.size ≤ x) ∧ Hid (¬ G' g1) ∧ Hid (∀ ad, D = some ad → ¬ G' ad.block) ∧ SL wi 64 (.slice (some ad) n c) n (ints Z) ∧ Blk wi g1 24 (bv (blkAt Z k)) ∧ SL wi 3 (.slice D m d) m (toks T) ∧ Hid (eatGo step ((flagT T).drop j ++ flagsAt Z n (k + 1)) p = R)) (fun i _ => m - (intOf i).toNat)
            case atStart => exact ⟨0, q, G, by omega, rfl, hu3, hsw3, hI3, HG, HG1, HD3, hs3', hb3, hs3, HR1⟩
            case round =>
              clear hu3 hsw3 hI3 HG HG1 HD3 hs3' hb3 hs3 HR1
              obtain ⟨wo2, rfl⟩ : ∃ wo2 : World, wo2 = w3 := ⟨_, rfl⟩
              obtain ⟨j, p, G', hj, rfl, hu, hsw, hI, HG, HG1, HD, hs, hb, hst, HR⟩ := hrel
              by_cases hlj : j < m
              · obtain ⟨td, rfl, htb, htc⟩ := hst.part hlj
                have hjT : j < T.length := by rw [HM.out]; exact hlj
                rw [toks_part T j hjT] at htc
                have HTC := hid_ htc
                have HRj : Hid (eatGo step ((T[j], j == 0) :: ((flagT T).drop (j + 1) ++ flagsAt Z n (k + 1))) p = R) := hid_ (by have := HR.out; rw [flagT_drop T j hjT, List.cons_append] at this; exact this)
                have hwf := HWF.out T[j] (List.getElem_mem hjT)
                obtain ⟨b, hbq⟩ : ∃ b, b = (j == 0) := ⟨_, rfl⟩
                rw [← hbq] at HRj
                have hjb : ((j : Int) == 0) = b := by rw [hbq]; cases j <;> simp <;> omega
                generalize T[j] = t at *
                have HAS := hid_ (fun W (h : Inv W p G') => E.ask t b p G' W hwf h)
                have hold : ∀ x, G' x → x < wr.heap.size := fun x h => E.old p G' wr x hI h
                have HOLD := hid_ hold
                have HAD : Hid (¬ G' ad.block) := hid_ (hA1.out G' HG.out ad rfl (by omega))
                clear hbq hwf hold htc HR
                rcases hst2 : step p t b with ⟨e2, s2⟩
                have HS2 := hid_ hst2
                rw [hst2] at HAS
                clear hst2
                dsimp only at HAS
                by_cases he2 : e2 = 0
                · subst he2
                  have HRn : Hid (eatGo step ((flagT T).drop (j + 1) ++ flagsAt Z n (k + 1)) s2 = R) := hid_ (by have h := HRj.out; rw [eatGo_ok (by rw [HS2.out])] at h; rw [HS2.out] at h; exact h)
                  go_wp2_with (first
                    | (show wpList _ _ _ (⟨some 53, _, _, _, _, _⟩ :: _) _ _; refine wpList_load_any (by rfl) 74 (.tmp 52) rfl (td.add (j * 3)) rfl (tokv t) _ HTC.out Try.underlying74 rfl size74 ?_)
                    | (show wpList _ _ _ (⟨some 15, _, _, _, _, _⟩ :: _) _ _; refine wpList_alloc_abs' rfl (some 15) rfl 74 rfl (.agg (tokv (0, 0, 0)).toArray) (by kernel_rfl) ?_; intro w4 g15 hb4 hx4 hg4)
                    | (show wpList _ _ _ (⟨none, .store _ (.tmp 15) (.tmp 53), _, _, _, _⟩ :: _) _ _; refine wpList_store_blk rfl 74 (.tmp 15) (.tmp 53) rfl _ _ rfl rfl hb4 3 sizeTok rfl rfl (tok_oneA t) ?_; intro w5 hb5 hg5; have hx5 : Ext wr w5 := hx4.grown hg5 hg4; have hI5 := E.ext hI hx5; have hsw5 := hx5.size)
                    | (show wpList _ _ _ (⟨some 55, _, _, _, _, _⟩ :: _) _ _; refine wpList_load_blk rfl 74 (.tmp 15) rfl g15 rfl hb5 _ Try.underlying74 rfl 3 sizeTok rfl ?_)
                    | (show wpList _ _ _ (⟨some 58, _, _, _, _, _⟩ :: _) _ _; refine wl_enter (by rfl) (run_callv (.tmp 54) _ _ rfl rfl E.goes (#[.agg (tokv t).toArray, .bool b] ++ cap) (by simp [Act.eval])) ?_; (with_reducible refine (HAS.out _ hI5).mono ?_); rintro e w6 ⟨rfl, hu6, G2, hI6, hG6⟩; refine ⟨_, rfl, ?_⟩; have hsw6 := hu6.size))
                  go_roundw
                  case rel =>
                    refine ⟨j + 1, s2, G2, by omega, by go_num, ?_, by omega, hI6, hid_ ?_, hid_ ?_, hid_ ?_, (hs.ext hx5).updq hu6 (fun ad' e' _ k => by injection e' with e'; rw [← e'] at k; exact HAD.out k), hu6.blk (hb.ext hx5) HG1.out, (hst.ext hx5).updq hu6 (fun ad' e' _ => HD.out ad' e'), HRn⟩
                    · exact (hu.trans (upd_of_ext (S := fun _ => False) hx5) (fun _ h => h.elim)).trans hu6 (fun x h => HG.out x h)
                    · exact fun x h => by
                        rcases hG6 x h with h1 | h1
                        · exact HG.out x h1
                        · exact .inr (by omega)
                    · exact fun h => by
                        rcases hG6 _ h with h1 | h1
                        · exact HG1.out h1
                        · have := (hb.ext hx5).lt; omega
                    · exact fun ad' e' h => by
                        rcases hG6 _ h with h1 | h1
                        · exact HD.out ad' e' h1
                        · injection e' with e'; rw [← e'] at h1; have := hx5.size; omega
                  case measure => simp [intOf]; omega
                · have hxb : (e2 != 0) = true := by simpa using he2
                  have HRE : Hid (R = (e2, s2)) := hid_ (by rw [← HRj.out, eatGo_err (by rw [HS2.out]; exact he2), HS2.out])
                  clear he2
                  go_wp2_with (first
                    | (show wpList _ _ _ (⟨some 53, _, _, _, _, _⟩ :: _) _ _; refine wpList_load_any (by rfl) 74 (.tmp 52) rfl (td.add (j * 3)) rfl (tokv t) _ HTC.out Try.underlying74 rfl size74 ?_)
                    | (show wpList _ _ _ (⟨some 15, _, _, _, _, _⟩ :: _) _ _; refine wpList_alloc_abs' rfl (some 15) rfl 74 rfl (.agg (tokv (0, 0, 0)).toArray) (by kernel_rfl) ?_; intro w4 g15 hb4 hx4 hg4)
                    | (show wpList _ _ _ (⟨none, .store _ (.tmp 15) (.tmp 53), _, _, _, _⟩ :: _) _ _; refine wpList_store_blk rfl 74 (.tmp 15) (.tmp 53) rfl _ _ rfl rfl hb4 3 sizeTok rfl rfl (tok_oneA t) ?_; intro w5 hb5 hg5; have hx5 : Ext wr w5 := hx4.grown hg5 hg4; have hI5 := E.ext hI hx5; have hsw5 := hx5.size)
                    | (show wpList _ _ _ (⟨some 55, _, _, _, _, _⟩ :: _) _ _; refine wpList_load_blk rfl 74 (.tmp 15) rfl g15 rfl hb5 _ Try.underlying74 rfl 3 sizeTok rfl ?_)
                    | (show wpList _ _ _ (⟨some 58, _, _, _, _, _⟩ :: _) _ _; refine wl_enter (by rfl) (run_callv (.tmp 54) _ _ rfl rfl E.goes (#[.agg (tokv t).toArray, .bool b] ++ cap) (by simp [Act.eval])) ?_; (with_reducible refine (HAS.out _ hI5).mono ?_); rintro e w6 ⟨rfl, hu6, G2, hI6, hG6⟩; refine ⟨_, rfl, ?_⟩; have hsw6 := hu6.size))
                  go_ret
                  refine EachIs.mk HRE.out ((hu.trans (upd_of_ext (S := fun _ => False) hx5) (fun _ h => h.elim)).trans hu6 (fun x h => HG.out x h)) hI6 (fun x h => ?_)
                  rcases hG6 x h with h1 | h1
                  · exact HG.out x h1
                  · exact .inr (by omega)
              · have hjm : j = m := by omega
                have HRn : Hid (eatGo step (flagsAt Z n (k + 1)) p = R) := hid_ (by have h := HR.out; rw [List.drop_eq_nil_of_le (by rw [flagT_len, HM.out]; omega), List.nil_append] at h; exact h)
                have hc0 : wr.cell? ⟨g1, 0, none⟩ = some (.int .i64 ((blkAt Z k).getD 0 0)) := (hb.cell 0).trans HB1.out
                go_wp2_with fail
                go_roundw
                case rel => exact ⟨k + 1, p, G', by omega, by go_num, by rw [HBS.out, List.getD_eq_getElem?_getD], hu, hsw, hI, HG, hs, HRn⟩
                case measure => simp [intOf]; omega
          · have hkn : k = n := by omega
            have HRE : Hid (R = (0, q)) := hid_ (by rw [← HR.out, hkn, flagsAt_end]; unfold eatGo; rfl)
            go_wp2_with fail
            go_ret
            exact EachIs.mk HRE.out hu hI HG.out
end
end Go.Proofs.Ytkfdkkhhkciocaa
/- The closure of seg.Counts as one that eats tokens. -/
namespace Go.Proofs.Ytkfdkkhhkciocaa
set_option linter.unusedVariables false
set_option linter.unusedSimpArgs false
open Go.RowKit
/-- one more of number k -/
def incAt (l : List Int) (k : Nat) : List Int := l.set k (wrap64 (l.getD k 0 + 1))
def cntStep (s : List Int × List Int) (t : Tok) (b : Bool) : Int × (List Int × List Int) := (0, if b then (incAt s.1 t.1.toNat, s.2) else (s.1, incAt s.2 t.1.toNat))
theorem incAt_len (l : List Int) (k : Nat) : (incAt l k).length = l.length := by simp [incAt]
/-- two cells that hold two rows of 256 counts -/
structure CntIn (p q gA gB : Nat) (W : World) (s : List Int × List Int) (F : Nat → Prop) : Prop where
  hp : Blk W p 30 #[.slice (some ⟨gA, 0, none⟩) 256 256]
  hq : Blk W q 30 #[.slice (some ⟨gB, 0, none⟩) 256 256]
  ha : Blk W gA 3 (bv s.1)
  hb : Blk W gB 3 (bv s.2)
  la : s.1.length = 256
  lb : s.2.length = 256
  ne : gA ≠ gB
  hF : ∀ x, F x ↔ x = p ∨ x = q ∨ x = gA ∨ x = gB
theorem CntIn.keep {p q gA gB : Nat} {W W' : World} {s : List Int × List Int} {F T : Nat → Prop} (h : CntIn p q gA gB W s F) (hu : Upd T W W') (hT : ∀ x, T x → ¬ F x) : CntIn p q gA gB W' s F := by
  have k : ∀ x, F x → ¬ T x := fun x hf ht => hT x ht hf
  exact ⟨hu.blk h.hp (k _ ((h.hF _).2 (.inl rfl))), hu.blk h.hq (k _ ((h.hF _).2 (.inr (.inl rfl)))), hu.blk h.ha (k _ ((h.hF _).2 (.inr (.inr (.inl rfl))))), hu.blk h.hb (k _ ((h.hF _).2 (.inr (.inr (.inr rfl))))), h.la, h.lb, h.ne, h.hF⟩
theorem tInt_ne : 30 ≠ 3 := by decide
theorem CntIn.setA {p q gA gB : Nat} {W : World} {s : List Int × List Int} {F : Nat → Prop} (h : CntIn p q gA gB W s F) (k : Nat) (x : Int) : CntIn p q gA gB (W.setCell ⟨gA, k, none⟩ (.int .i64 x)) (s.1.set k x, s.2) F := by
  have n1 := h.hp.ne_ h.ha tInt_ne
  have n2 := h.hq.ne_ h.ha tInt_ne
  have := h.ha.set_ k (.int .i64 x)
  rw [bv_set] at this
  exact ⟨h.hp.far (p := ⟨gA, k, none⟩) n1 _, h.hq.far (p := ⟨gA, k, none⟩) n2 _, this, h.hb.far (p := ⟨gA, k, none⟩) h.ne.symm _, by simpa using h.la, h.lb, h.ne, h.hF⟩
theorem CntIn.setB {p q gA gB : Nat} {W : World} {s : List Int × List Int} {F : Nat → Prop} (h : CntIn p q gA gB W s F) (k : Nat) (x : Int) : CntIn p q gA gB (W.setCell ⟨gB, k, none⟩ (.int .i64 x)) (s.1, s.2.set k x) F := by
  have n1 := h.hp.ne_ h.hb tInt_ne
  have n2 := h.hq.ne_ h.hb tInt_ne
  have := h.hb.set_ k (.int .i64 x)
  rw [bv_set] at this
  exact ⟨h.hp.far (p := ⟨gB, k, none⟩) n1 _, h.hq.far (p := ⟨gB, k, none⟩) n2 _, h.ha.far (p := ⟨gB, k, none⟩) h.ne _, this, h.la, by simpa using h.lb, h.ne, h.hF⟩
theorem run_inc (x : Int) (w : World) : (binOp .add 3 (.int .i64 x) (.int .i64 1)).run Try.prog w = .ok (.int .i64 (wrap64 (x + 1))) w := by
  have e : IntKind.i64.wrap (x + 1) = wrap64 (x + 1) := by simp [IntKind.wrap_i64, wrap64]
  go_simp
attribute [local irreducible] bv
set_option maxHeartbeats 2000000 in
theorem countFn_any (p q gA gB : Nat) (t : Tok) (b : Bool) (s : List Int × List Int) (F : Nat → Prop) (w : World) (hw : tokWf t) (h : CntIn p q gA gB w s F) :
    Calls Try.prog 32 #[.agg (tokv t).toArray, .bool b, .pointer (some ⟨p, 0, none⟩), .pointer (some ⟨q, 0, none⟩)] w fun e w' => e = .returned (.int .i64 (cntStep s t b).1) ∧ Upd F w w' ∧ ∃ F', CntIn p q gA gB w' (cntStep s t b).2 F' ∧ ∀ x, F' x → F x ∨ w.heap.size ≤ x := by
  obtain ⟨t1, t2, t3⟩ := t
  obtain ⟨h1, h2, -⟩ := hw
  dsimp only at h1 h2
  obtain ⟨m, hm⟩ : ∃ m : Nat, t1 = (m : Int) := ⟨t1.toNat, by omega⟩
  subst hm
  have hm2 : m < 256 := by omega
  obtain ⟨f, r⟩ := s
  have hfa : F gA := (h.hF _).2 (.inr (.inr (.inl rfl)))
  have hfb : F gB := (h.hF _).2 (.inr (.inr (.inr rfl)))
  have HS : Hid (cntStep (f, r) ((m : Int), t2, t3) b = (0, if b then (incAt f m, r) else (f, incAt r m))) := hid_ (by simp [cntStep])
  generalize cntStep (f, r) ((m : Int), t2, t3) b = R at *
  cases b with
  | true =>
    have hl : m < f.length := by rw [h.la]; exact hm2
    have HF := hid_ (show f.getD m 0 = f[m] by simp [List.getD_eq_getElem?_getD, hl])
    have hm3 : (m : Int) < 256 := by omega
    go_enter Try.func32, Try.ntmps32
    go_wp2_with (first
      | (show wpList _ _ _ (⟨some 4, _, _, _, _, _⟩ :: _) _ _; refine wpList_box_abs rfl 74 (.tmp 0) rfl #[.int .i64 (m : Int), .int .i64 t2, .int .i64 t3] rfl ?_; intro w1 g1 hb1 hx1 hg1; have h1' := h.keep (upd_of_ext (S := fun _ => False) hx1) (fun _ k => k.elim); have q0 : w1.cell? ⟨g1, 0, none⟩ = some (.int .i64 (m : Int)) := hb1.cell 0; have hp1 := (h1'.hp.cell 0).trans (show (#[Value.slice (some ⟨gA, 0, none⟩) 256 256] : Array Value)[0]? = some (.slice (some ⟨gA, 0, none⟩) 256 256) from rfl); have hc1 : w1.cell? ⟨gA, m, none⟩ = some (.int .i64 f[m]) := (h1'.ha.cell m).trans (bv_at f m hl); have hz1 := h1'.ha.frozen m)
      | (show wpList _ _ _ (⟨some 13, _, _, _, _, _⟩ :: _) _ _; refine wl_run rfl (.int .i64 (wrap64 (f[m] + 1))) (ex_bin rfl rfl rfl (run_inc _)) ?_))
    go_ret
    have hs := h1'.setA m (wrap64 (f[m] + 1))
    rw [HS.out]
    refine ⟨rfl, ?_, F, ?_, fun x k => .inl k⟩
    · exact Upd.setCell (S := F) (upd_of_ext hx1) (p := ⟨gA, m, none⟩) hfa _
    · have e : incAt f m = f.set m (wrap64 (f[m] + 1)) := by unfold incAt; rw [HF.out]
      simp only [if_true, Bool.false_eq_true, if_false, e]
      exact hs
  | false =>
    have hl : m < r.length := by rw [h.lb]; exact hm2
    have HF := hid_ (show r.getD m 0 = r[m] by simp [List.getD_eq_getElem?_getD, hl])
    have hm3 : (m : Int) < 256 := by omega
    go_enter Try.func32, Try.ntmps32
    go_wp2_with (first
      | (show wpList _ _ _ (⟨some 4, _, _, _, _, _⟩ :: _) _ _; refine wpList_box_abs rfl 74 (.tmp 0) rfl #[.int .i64 (m : Int), .int .i64 t2, .int .i64 t3] rfl ?_; intro w1 g1 hb1 hx1 hg1; have h1' := h.keep (upd_of_ext (S := fun _ => False) hx1) (fun _ k => k.elim); have q0 : w1.cell? ⟨g1, 0, none⟩ = some (.int .i64 (m : Int)) := hb1.cell 0; have hp1 := (h1'.hq.cell 0).trans (show (#[Value.slice (some ⟨gB, 0, none⟩) 256 256] : Array Value)[0]? = some (.slice (some ⟨gB, 0, none⟩) 256 256) from rfl); have hc1 : w1.cell? ⟨gB, m, none⟩ = some (.int .i64 r[m]) := (h1'.hb.cell m).trans (bv_at r m hl); have hz1 := h1'.hb.frozen m)
      | (show wpList _ _ _ (⟨some 20, _, _, _, _, _⟩ :: _) _ _; refine wl_run rfl (.int .i64 (wrap64 (r[m] + 1))) (ex_bin rfl rfl rfl (run_inc _)) ?_))
    go_ret
    have hs := h1'.setB m (wrap64 (r[m] + 1))
    rw [HS.out]
    refine ⟨rfl, ?_, F, ?_, fun x k => .inl k⟩
    · exact Upd.setCell (S := F) (upd_of_ext hx1) (p := ⟨gB, m, none⟩) hfb _
    · have e : incAt r m = r.set m (wrap64 (r[m] + 1)) := by unfold incAt; rw [HF.out]
      simp only [if_true, Bool.false_eq_true, if_false, e]
      exact hs
theorem goesCnt : Goes Try.prog 32 := ⟨_, Try.func32, by kernel_rfl, by kernel_rfl⟩
theorem countEat (p q gA gB : Nat) : Eat 32 #[.pointer (some ⟨p, 0, none⟩), .pointer (some ⟨q, 0, none⟩)] (CntIn p q gA gB) cntStep :=
  ⟨goesCnt, fun t b s F W hw h => by simpa using countFn_any p q gA gB t b s F W hw h, fun s F W W' T h hu hT => h.keep hu hT, fun s F W x h hx => by
    rcases (h.hF x).1 hx with rfl | rfl | rfl | rfl
    · exact h.hp.lt
    · exact h.hq.lt
    · exact h.ha.lt
    · exact h.hb.lt⟩
end Go.Proofs.Ytkfdkkhhkciocaa
/- A region that draws its order, by an invariant: J of what has come, the frame and the world; each operation that may come up keeps it. -/
namespace Go.Proofs.Ytkfdkkhhkciocaa
set_option linter.unusedVariables false
set_option linter.unusedSimpArgs false
open Go.RowKit
section
variable {P : Program} {md : Region.Mode} {ops : Array Oper} {J : Array Bool → Act → World → Prop} {QN : Act → World → Prop}
theorem count_set (l : Array Bool) (i : Nat) (h : l.getD i true = false) : (l.setIfInBounds i true).toList.count false + 1 = l.toList.count false := by
  have hi : i < l.size := by
    rcases Nat.lt_or_ge i l.size with h1 | h1
    · exact h1
    · rw [Array.getD_eq_getD_getElem?, Array.getElem?_eq_none h1] at h; cases h
  have h0 : l.toList[i]'(by simpa using hi) = false := by
    rw [Array.getD_eq_getD_getElem?, Array.getElem?_eq_getElem hi] at h
    simpa using h
  rw [Array.toList_setIfInBounds]
  rw [List.count_set (by simpa using hi), h0]
  have : 0 < l.toList.count false := List.count_pos_iff.2 (h0 ▸ List.getElem_mem _)
  simp only [show ((false : Bool) == false) = true from rfl, show ((true : Bool) == false) = false from rfl, if_true, Bool.false_eq_true, if_false]
  omega
theorem wpAny_inv (hstep : ∀ listed a w, J listed a w → ∀ i ∈ Region.ready md ops listed, wpOp P ops (onlyN QN) i (fun a' w' => J (listed.setIfInBounds i true) a' w') a w)
    (hdone : ∀ listed a w, J listed a w → Region.ready md ops listed = [] → QN a w) : ∀ (f : Nat) (listed : Array Bool) (a : Act) (w : World), listed.toList.count false ≤ f → J listed a w → wpAny P md ops (onlyN QN) f listed a w
  | 0, listed, a, w, hf, h => by
    have hr : Region.ready md ops listed = [] := by
      cases hq : Region.ready md ops listed with
      | nil => rfl
      | cons i r =>
        have hi : i ∈ Region.ready md ops listed := by rw [hq]; simp
        have := count_set listed i (mem_ready.1 hi).1
        omega
    exact ⟨hr, hdone _ _ _ h hr⟩
  | f + 1, listed, a, w, hf, h => ⟨fun h0 => hdone _ _ _ h h0, fun i hi => wpOp_mono (fun a' w' h' => wpAny_inv hstep hdone f _ a' w' (by have := count_set listed i (mem_ready.1 hi).1; omega) h') (hstep _ _ _ h i hi)⟩
theorem wp_region_inv (J : Array Bool → Act → World → Prop) {id : Nat} {a : Act} {w : World} {l : List Oper} {Q : Exit → Act → World → Prop} (hm : P.follows .mixedOrders = true) (h0 : J (Array.replicate l.length false) a w.drew)
    (hstep : ∀ listed a w, J listed a w → ∀ i ∈ Region.ready .any l.toArray listed, wpOp P l.toArray (onlyN fun a w => Q .normal a w) i (fun a' w' => J (listed.setIfInBounds i true) a' w') a w)
    (hdone : ∀ listed a w, J listed a w → Region.ready .any l.toArray listed = [] → Q .normal a w) : (Code.region id l.toArray true).wp P Q a w := by
  refine Code.wp_mono (Q := onlyN (fun a w => Q .normal a w)) (fun e a w h => ?_) (wp_region_any hm (wpAny_inv hstep hdone _ _ _ _ ?_ ?_))
  · cases e <;> first | exact h | exact (h : False).elim
  · simp
  · simpa using h0
end
end Go.Proofs.Ytkfdkkhhkciocaa
/- make([]api.Block, n): a block of noughts. -/
namespace Go.Proofs.Ytkfdkkhhkciocaa
set_option linter.unusedVariables false
set_option linter.unusedSimpArgs false
open Go.RowKit
theorem madeCells_rep (k m : Nat) (hk : 0 < k) : madeCells (bv (List.replicate k 0)) m = bv (List.replicate m 0) := by
  apply Array.ext
  · rw [size_madeCells, bv_size, List.length_replicate]
  · intro i h1 h2
    have hm : i < m := by simpa [size_madeCells] using h1
    have h64 : i % k < k := Nat.mod_lt _ hk
    simp [madeCells, bv, ints, h64]
theorem infoBlk : ∃ i, Try.prog.info? 24 = some i ∧ i.zero = some (.agg (bv zeros64)) ∧ i.size = 64 ∧ i.bytes = 512 := by
  have h1 := size48
  have h2 := zero48
  have h3 : (Try.prog.info? 24).map (·.bytes) = some 512 := by kernel_rfl
  cases hq : Try.prog.info? 24 with
  | none => rw [hq] at h1; cases h1
  | some i =>
    rw [hq] at h1 h2 h3
    exact ⟨i, rfl, by simpa using h2, by simpa using h1, by simpa using h3⟩
theorem wpList_makeBlocks {ops : Array Oper} {rest : List Oper} {o : Oper} {a : Act} {w : World} {Q : Exit → Act → World → Prop} (hg : o.guard = none) (dst : Option Tmp) (hdst : o.dst = dst) (x y : Operand) (ho : o.op = .makeSlice 29 x y) (n : Nat) (hn : n ≤ 100000)
    (hx : a.eval x = .int .i64 (n : Int)) (hy : a.eval y = .int .i64 (n : Int))
    (h : ∀ w1 g, Blk w1 g 24 (bv (List.replicate (n * 64) 0)) → Ext w w1 → w.heap.size ≤ g → wpList Try.prog ops Q rest (a.put dst (.slice (some ⟨g, 0, none⟩) n n)) w1) : wpList Try.prog ops Q (o :: rest) a w := by
  subst hdst
  obtain ⟨i, hi, hz, hs, hb⟩ := infoBlk
  have hr := run_makeSlice (P := Try.prog) w 29 24 i (.agg (bv zeros64)) Try.underlying29 hi hz .i64 .i64 (n : Int) (n : Int) (by omega) (Int.le_refl _) (by rw [hs]; omega) (by rw [hb]; omega) (by omega)
  rw [Int.toNat_natCast, hs, show (Value.agg (bv zeros64)).cells = bv (List.replicate 64 0) from rfl, madeCells_rep 64 _ (by omega)] at hr
  refine wpList_plain hg fun _ hK => ?_
  unfold Oper.wp execOp
  simp only [ho, hx, hy, Sem.run_bind, hr, Result.andThen_ok, Sem.run_pure]
  exact hK _ _ (h _ _ (Blk.new w _ _) ((Ext.refl w).alloc _) (Nat.le_refl _))
end Go.Proofs.Ytkfdkkhhkciocaa
/- make([]int, n): a block of noughts. -/
namespace Go.Proofs.Ytkfdkkhhkciocaa
set_option linter.unusedVariables false
set_option linter.unusedSimpArgs false
open Go.RowKit
theorem infoInt : ∃ i, Try.prog.info? 3 = some i ∧ i.zero = some (.int .i64 0) ∧ i.size = 1 ∧ i.bytes = 8 := by
  have h1 : (Try.prog.info? 3).map (fun i => (i.zero, i.size, i.bytes)) = some (some (.int .i64 0), 1, 8) := by kernel_rfl
  cases hq : Try.prog.info? 3 with
  | none => rw [hq] at h1; cases h1
  | some i =>
    rw [hq] at h1
    simp at h1
    exact ⟨i, rfl, h1.1, h1.2.1, h1.2.2⟩
theorem wpList_makeInts {ops : Array Oper} {rest : List Oper} {o : Oper} {a : Act} {w : World} {Q : Exit → Act → World → Prop} (hg : o.guard = none) (dst : Option Tmp) (hdst : o.dst = dst) (x y : Operand) (ho : o.op = .makeSlice 30 x y) (n : Nat) (hn : n ≤ 1000000)
    (hx : a.eval x = .int .i64 (n : Int)) (hy : a.eval y = .int .i64 (n : Int))
    (h : ∀ w1 g, Blk w1 g 3 (bv (List.replicate n 0)) → Ext w w1 → w.heap.size ≤ g → wpList Try.prog ops Q rest (a.put dst (.slice (some ⟨g, 0, none⟩) n n)) w1) : wpList Try.prog ops Q (o :: rest) a w := by
  subst hdst
  obtain ⟨i, hi, hz, hs, hb⟩ := infoInt
  have hr := run_makeSlice (P := Try.prog) w 30 3 i (.int .i64 0) Try.underlying30 hi hz .i64 .i64 (n : Int) (n : Int) (by omega) (Int.le_refl _) (by rw [hs]; omega) (by rw [hb]; omega) (by omega)
  rw [Int.toNat_natCast, hs, show (Value.int .i64 0).cells = bv (List.replicate 1 0) from rfl, madeCells_rep 1 _ (by omega), Nat.mul_one] at hr
  refine wpList_plain hg fun _ hK => ?_
  unfold Oper.wp execOp
  simp only [ho, hx, hy, Sem.run_bind, hr, Result.andThen_ok, Sem.run_pure]
  exact hK _ _ (h _ _ (Blk.new w _ _) ((Ext.refl w).alloc _) (Nat.le_refl _))
end Go.Proofs.Ytkfdkkhhkciocaa
