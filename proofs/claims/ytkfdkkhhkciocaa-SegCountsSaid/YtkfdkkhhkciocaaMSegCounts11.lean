/- Contracts for the law SegCounts, part 11: what the functions that it reaches answer, for all arguments that the theorems name. -/
import Derived.Test.YtkfdkkhhkciocaaMSegCounts10
import Derived.Test.YtkfdkkhhkciocaaMSegCounts8
import Derived.Deep.MidRow
import Derived.Test.YtkfdkkhhkciocaaMSegCounts4
import Derived.Test.YtkfdkkhhkciocaaMSegCounts1
import Derived.ChangeSlices
import Derived.Deep.SlicePairs
/- Counts of the reference. -/
namespace Go.Proofs.Ytkfdkkhhkciocaa
set_option linter.unusedVariables false
set_option linter.unusedSimpArgs false
open Go.RowKit
attribute [local irreducible] bv z256 toks flagsAt eatGo tokensZ zto blkAt befAt toksAt
theorem ints_head (l : List Int) (h : 0 < l.length) : (ints l)[0]? = some (.int .i64 (l.getD 0 0)) := by
  cases l with
  | nil => simp at h
  | cons => rfl
theorem cellAt_ext {w w' : World} {p : Addr} {k : Nat} {v : Value} (h : Ext w w') (hb : p.block < w.heap.size) (hc : w.cell? (p.add k) = some v) : w'.cell? (p.add k) = some v := by
  rw [← hc]
  unfold World.cell?
  rw [block_of_add, h.block p.block hb]
def RcFrame (v0 u4 u5 u13 u14 : Value) : Act := ⟨#[v0, undef, .slice none 0 0, .slice none 0 0, u4, u5, undef, undef, undef, undef, undef, undef, undef, u13, u14, undef, undef, undef, undef, undef, undef, undef, undef, undef, undef, undef, undef, undef, undef, undef, undef, undef, undef, undef, undef, undef, undef, undef, undef, undef, undef, undef, undef, undef, undef, undef, undef, undef, undef, undef, undef, undef, undef, undef, undef, undef, undef, undef, undef, undef, undef, undef, undef], []⟩
def RcJ (w0 : World) (v0 : Value) (l : Array Bool) (a : Act) (w : World) : Prop :=
  ∃ b0 b1 b2 b3 u4 u5 u13 u14, l = #[b0, b1, b2, b3] ∧ a = RcFrame v0 u4 u5 u13 u14 ∧ Ext w0 w ∧ MadeAt w0 w b0 u13 ∧ MadeAt w0 w b1 u14 ∧ (b0 = true → b1 = true → u13 ≠ u14) ∧ (b2 = true → b0 = true ∧ u4 = u13) ∧ (b3 = true → b1 = true ∧ u5 = u14)
set_option maxRecDepth 20000 in
set_option maxHeartbeats 4000000 in
theorem rcounts_any (A : Option Addr) (n c : Nat) (Z : List Int) (hZ : Z.length = n * 64) (hn4 : n ≤ 400) (hal : allIn Z (-2047) 2047 = true) (w : World) (hs : SL w 64 (.slice A n c) n (ints Z)) :
    Calls Try.prog 12 #[.slice A n c] w fun e w' => Ext w w' ∧ ∃ gA gB, e = .returned (.tuple #[.slice (some ⟨gA, 0, none⟩) 256 256, .slice (some ⟨gB, 0, none⟩) 256 256]) ∧ Blk w' gA 3 (bv (eatGo cntStep (flagsAt Z n 0) (z256, z256)).2.1) ∧ Blk w' gB 3 (bv (eatGo cntStep (flagsAt Z n 0) (z256, z256)).2.2) ∧ (eatGo cntStep (flagsAt Z n 0) (z256, z256)).2.1.length = 256 ∧ (eatGo cntStep (flagsAt Z n 0) (z256, z256)).2.2.length = 256 := by
  obtain ⟨R, hR⟩ : ∃ R, eatGo cntStep (flagsAt Z n 0) (z256, z256) = R := ⟨_, rfl⟩
  have HR0 := hid_ hR
  rw [hR]
  have hs' := hs
  obtain ⟨A', c', he, hnc, hc2, -, -⟩ := hs'
  injection he with he1 he2 he3
  subst he1 he3
  have HP : Hid (∀ j, j < n → allIn (blkAt Z j) (-2047) 2047 = true) := hid_ ((blkAt_in Z n hZ).1 hal)
  have HZ := hid_ hZ
  clear hR hal hZ
  go_enter Try.func12, Try.ntmps12
  go_upto_region 1 with fail
  refine wp_region_inv (RcJ w (.slice A n c)) (by kernel_rfl) ?_ ?_ ?_
  · exact ⟨false, false, false, false, undef, undef, undef, undef, rfl, rfl, (Ext.refl w).drew, (fun h => by cases h), (fun h => by cases h), (fun h => by cases h), (fun h => by cases h), (fun h => by cases h)⟩
  · rintro l a w1 ⟨b0, b1, b2, b3, u4, u5, u13, u14, rfl, rfl, hx, h13, h14, d, k2, k3⟩ i hi
    have hi4 : i = 0 ∨ i = 1 ∨ i = 2 ∨ i = 3 := by
      obtain ⟨h1, o, ho, -⟩ := mem_ready.1 hi
      have : i < 4 := by
        rcases Nat.lt_or_ge i 4 with h | h
        · exact h
        · rw [Array.getElem?_eq_none (by simpa using h)] at ho; cases ho
      omega
    unfold RcFrame
    rcases hi4 with rfl | rfl | rfl | rfl
    · have r0 : b0 = false := (ready_at hi rfl).1
      subst r0
      have r2 : b2 = false := by cases b2 with | false => rfl | true => exact absurd (k2 rfl).1 (by simp)
      subst r2
      refine wpOp_of_list rfl ?_
      refine wpList_makeInts rfl (some 13) rfl _ _ rfl 256 (by omega) rfl rfl ?_
      intro w2 g hb hx2 hg
      rw [z256_out] at hb
      exact ⟨true, b1, false, b3, u4, u5, _, u14, rfl, rfl, hx.trans hx2, fun _ => ⟨g, rfl, hb, by have := hx.size; omega⟩, h14.ext hx2, fun _ e => (h14.ne hg e).symm, (fun e => by cases e), k3⟩
    · have r1 : b1 = false := (ready_at hi rfl).1
      subst r1
      have r3 : b3 = false := by cases b3 with | false => rfl | true => exact absurd (k3 rfl).1 (by simp)
      subst r3
      refine wpOp_of_list rfl ?_
      refine wpList_makeInts rfl (some 14) rfl _ _ rfl 256 (by omega) rfl rfl ?_
      intro w2 g hb hx2 hg
      rw [z256_out] at hb
      exact ⟨b0, true, b2, false, u4, u5, u13, _, rfl, rfl, hx.trans hx2, h13.ext hx2, fun _ => ⟨g, rfl, hb, by have := hx.size; omega⟩, fun e _ => h13.ne hg e, k2, (fun e => by cases e)⟩
    · have e := (ready_at hi rfl).2
      simp [Region.binds] at e
      have e0 : b0 = true := by simp_all
      refine wpOp_of_list rfl ?_
      refine wl_run rfl u13 (ex_assign rfl rfl) ?_
      exact ⟨b0, b1, true, b3, _, u5, u13, u14, rfl, rfl, hx, h13, h14, d, fun _ => ⟨e0, rfl⟩, k3⟩
    · have e := (ready_at hi rfl).2
      simp [Region.binds] at e
      have e0 : b1 = true := by simp_all
      refine wpOp_of_list rfl ?_
      refine wl_run rfl u14 (ex_assign rfl rfl) ?_
      exact ⟨b0, b1, b2, true, u4, _, u13, u14, rfl, rfl, hx, h13, h14, d, k2, fun _ => ⟨e0, rfl⟩⟩
  · rintro l a w1 ⟨b0, b1, b2, b3, u4, u5, u13, u14, rfl, rfl, hx, h13, h14, d, k2, k3⟩ hr
    have no : ∀ i, ¬ i ∈ Region.ready .any _ #[b0, b1, b2, b3] := fun i hi => by rw [hr] at hi; cases hi
    have r0 : b0 = true := by
      cases b0 with
      | true => rfl
      | false => exact absurd (mem_ready.2 ⟨rfl, _, rfl, by simp⟩) (no 0)
    have r1 : b1 = true := by
      cases b1 with
      | true => rfl
      | false => exact absurd (mem_ready.2 ⟨rfl, _, rfl, by simp⟩) (no 1)
    subst r0 r1
    have r2 : b2 = true := by
      cases b2 with
      | true => rfl
      | false => exact absurd (mem_ready.2 ⟨rfl, _, rfl, by simp [Region.binds]⟩) (no 2)
    subst r2
    have r3 : b3 = true := by
      cases b3 with
      | true => rfl
      | false => exact absurd (mem_ready.2 ⟨rfl, _, rfl, by simp [Region.binds]⟩) (no 3)
    subst r3
    obtain ⟨-, rfl⟩ := k2 rfl
    obtain ⟨-, rfl⟩ := k3 rfl
    obtain ⟨gA, rfl, hbA, hlA⟩ := h13 rfl
    obtain ⟨gB, rfl, hbB, hlB⟩ := h14 rfl
    have hne : gA ≠ gB := fun e => d rfl rfl (by rw [e])
    unfold RcFrame
    clear h13 h14 d k2 k3 hr no
    have HAL := hid_ (show (Try.prog.info? 24).bind (·.zero) = some (.agg (bv (List.replicate 64 0))) from zero48)
    have hz0 := hid_ (show (Value.agg (bv (List.replicate 64 0))).cells.size = 64 by rw [show (Value.agg (bv (List.replicate 64 0))).cells = bv (List.replicate 64 0) from rfl, bv_size]; rfl)
    generalize bv (List.replicate 64 0) = cz at *
    go_wp2_with fail
    obtain ⟨wo, rfl⟩ : ∃ wo : World, wo = w1 := ⟨_, rfl⟩
    go_loopw [17] (fun i wr => ∃ (k : Nat) (s : List Int × List Int), k ≤ n ∧ i = .int .i64 (k : Int) ∧ Blk wr gA 3 (bv s.1) ∧ Blk wr gB 3 (bv s.2) ∧ Hid (s.1.length = 256) ∧ Hid (s.2.length = 256) ∧ Ext w wr ∧ Hid (eatGo cntStep (flagsAt Z n k) s = R)) (fun i _ => n - (intOf i).toNat)
    case atStart => exact ⟨0, (z256, z256), by omega, rfl, hbA, hbB, hid_ z256_len, hid_ z256_len, hx, HR0⟩
    case round =>
      clear hbA hbB hx HR0
      obtain ⟨k, s, hk, rfl, hbA, hbB, HLA, HLB, hx, HR⟩ := hrel
      by_cases hlt : k < n
      · obtain ⟨ad, rfl, hab, hca⟩ := (hs.ext hx).part hlt
        have hbl := blkAt_len Z n k HZ.out hlt
        have e : ((ints Z).drop (k * 64)).take 64 = ints (blkAt Z k) := by unfold blkAt; simp [ints, List.map_drop, List.map_take]
        rw [e] at hca
        clear e
        have HCA := hid_ hca
        have HB := hid_ hbl
        have HSZ := hid_ (show (bv (blkAt Z k)).size = 64 by rw [bv_size]; exact hbl)
        have HO1 := hid_ (bv_one (blkAt Z k))
        have HBV := hid_ (bv_out (blkAt Z k))
        have hal := HP.out k hlt
        have hzh := getD_in hal 0 (by omega) (by omega)
        rw [← zto_head] at hzh
        have hbf := befAt_in (Z := Z) (k := k) (fun j hj => HP.out j (by omega))
        have HT := hid_ (fun W => rtokens_fresh (befAt Z k) (blkAt Z k) W HB.out hbf.1 hbf.2 hal hzh.1 hzh.2)
        rw [← toksAt_out] at HT
        have HWF : Hid (∀ t ∈ toksAt Z k, tokWf t) := hid_ (by rw [toksAt_out]; exact tokensZ_wf _ _ (zto_len _))
        have HR1 : Hid (eatGo cntStep ((flagT (toksAt Z k)).drop 0 ++ flagsAt Z n (k + 1)) s = R) := hid_ (by rw [List.drop_zero, ← flagsAt_succ Z n k hlt]; exact HR.out)
        obtain ⟨T, hT⟩ : ∃ T, T = toksAt Z k := ⟨_, rfl⟩
        rw [← hT] at HT HWF HR1
        obtain ⟨m, hm⟩ : ∃ m, T.length = m := ⟨_, rfl⟩
        have HM := hid_ hm
        rw [hm] at HT
        clear hT hm hca hbl hal hzh hbf HR
        by_cases hk0 : k = 0
        · have HB0 : Hid (befAt Z k = 0) := hid_ (by rw [hk0, befAt_0])
          rw [HB0.out] at HT
          have HKB : Hid (decide ((0 : Int) < (k : Int)) = false) := hid_ (by rw [decide_eq_false]; omega)
          clear hk0
          go_wp2_with (first
            | (show wpList _ _ _ (⟨some 23, _, _, _, _, _⟩ :: _) _ _; refine wl_run rfl _ (ex_gtr rfl rfl rfl HKB.out) ?_)
            | (show wpList _ _ _ (⟨some 21, _, _, _, _, _⟩ :: _) _ _; refine wpList_load_any (by rfl) 24 (.tmp 20) rfl (ad.add (k * 64)) rfl (ints (blkAt Z k)) _ HCA.out Try.underlying24 rfl (by rw [ints_len, HB.out]; exact size48) ?_; rw [HBV.out])
            | (show wpList _ _ _ (⟨some 7, _, _, _, _, _⟩ :: _) _ _; refine wpList_alloc_abs' rfl (some 7) rfl 24 rfl _ HAL.out ?_; intro w1 g1 hb1 hx1 hg1)
            | (show wpList _ _ _ (⟨none, .store _ (.tmp 7) (.tmp 21), _, _, _, _⟩ :: _) _ _; refine wpList_store_blk rfl 24 (.tmp 7) (.tmp 21) rfl _ _ rfl rfl hb1 64 size48 HSZ.out hz0.out HO1.out ?_; intro w2 hb2 hg2; have hx2 := hx1.grown hg2 hg1)
            | (show wpList _ _ _ (⟨some 32, _, _, _, _, _⟩ :: _) _ _; refine wpList_load_blk rfl 24 (.tmp 7) rfl g1 rfl hb2 _ Try.underlying24 rfl 64 size48 HSZ.out ?_)
            | (go_at_call 34; (with_reducible refine (HT.out _).mono ?_); rintro e w3 ⟨D, d, rfl, hs3, hf3, hx3⟩))
          have hx3' : Ext wr w3 := hx2.trans hx3
          have hA3 := hbA.ext hx3'
          have hB3 := hbB.ext hx3'
          have hxw := hx.trans hx3'
          have HDA : Hid (∀ ad, D = some ad → ad.block ≠ gA ∧ ad.block ≠ gB) := hid_ (fun ad e => by have := hf3 ad e; have := hbA.lt; have := hbB.lt; have := hx2.size; omega)
          have hs3c := hs3
          obtain ⟨D', d'', he3, hmd, hd2, -, -⟩ := hs3c
          injection he3 with q1 q2 q3
          subst q1 q3
          have hm1 : m ≤ 9223372036854775807 := by omega
          clear hx hbA hbB hb1 hx1 hg1 hb2 hg2 hx2 hx3 hf3 hx3' q2 HT HCA HB HSZ HO1 HBV
          go_loopw [38] (fun i wi => ∃ (j : Nat) (p : List Int × List Int), j ≤ m ∧ i = .int .i64 (j : Int) ∧ Blk wi gA 3 (bv p.1) ∧ Blk wi gB 3 (bv p.2) ∧ Hid (p.1.length = 256) ∧ Hid (p.2.length = 256) ∧ Ext w wi ∧ SL wi 3 (.slice D m d) m (toks T) ∧ Hid (eatGo cntStep ((flagT T).drop j ++ flagsAt Z n (k + 1)) p = R)) (fun i _ => m - (intOf i).toNat)
          case atStart => exact ⟨0, s, by omega, rfl, hA3, hB3, HLA, HLB, hxw, hs3, HR1⟩
          case round =>
            clear hA3 hB3 HLA HLB hxw hs3 HR1
            obtain ⟨wo2, rfl⟩ : ∃ wo2 : World, wo2 = w3 := ⟨_, rfl⟩
            obtain ⟨j, p, hj, rfl, hbA, hbB, HLA, HLB, hx, hst, HR⟩ := hrel
            by_cases hlj : j < m
            · obtain ⟨td, rfl, htb, htc⟩ := hst.part hlj
              have hjT : j < T.length := by rw [HM.out]; exact hlj
              rw [toks_part T j hjT] at htc
              have HTC := hid_ htc
              have HRj : Hid (eatGo cntStep ((T[j], j == 0) :: ((flagT T).drop (j + 1) ++ flagsAt Z n (k + 1))) p = R) := hid_ (by have := HR.out; rw [flagT_drop T j hjT, List.cons_append] at this; exact this)
              have hwf := HWF.out T[j] (List.getElem_mem hjT)
              generalize T[j] = t at *
              obtain ⟨t1, t2, t3⟩ := t
              obtain ⟨hw1, hw2, -⟩ := hwf
              dsimp only at hw1 hw2
              obtain ⟨y, hy⟩ : ∃ y : Nat, t1 = (y : Int) := ⟨t1.toNat, by omega⟩
              subst hy
              have hy2 : y < 256 := by omega
              have hy3 : (y : Int) < 256 := by omega
              have hyA : y < p.1.length := by rw [HLA.out]; exact hy2
              have hyB : y < p.2.length := by rw [HLB.out]; exact hy2
              have HFA := hid_ (show p.1.getD y 0 = p.1[y] by simp [List.getD_eq_getElem?_getD, hyA])
              have HFB := hid_ (show p.2.getD y 0 = p.2[y] by simp [List.getD_eq_getElem?_getD, hyB])
              have HDD := hid_ (HDA.out td rfl)
              clear htc HR
              by_cases hj0 : j = 0
              · have HJB : Hid (decide ((j : Int) = 0) = true) := hid_ (by rw [decide_eq_true]; omega)
                have HRn : Hid (eatGo cntStep ((flagT T).drop (j + 1) ++ flagsAt Z n (k + 1)) (incAt p.1 y, p.2) = R) := hid_ (by
                  have h := HRj.out
                  rw [show (j == 0) = true by simp [hj0], eatGo_ok rfl] at h
                  simpa [cntStep] using h)
                clear hj0
                go_wp2_with (first
                  | (show wpList _ _ _ (⟨some 44, _, _, _, _, _⟩ :: _) _ _; refine wl_run rfl _ (ex_eql rfl rfl rfl HJB.out) ?_)
                  | (show wpList _ _ _ (⟨some 42, _, _, _, _, _⟩ :: _) _ _; refine wpList_load_any (by rfl) 74 (.tmp 41) rfl (td.add (j * 3)) rfl (tokv ((y : Int), t2, t3)) _ HTC.out Try.underlying74 rfl size74 ?_)
                  | (show wpList _ _ _ (⟨some 12, _, _, _, _, _⟩ :: _) _ _; refine wpList_alloc_abs' rfl (some 12) rfl 74 rfl (.agg (tokv (0, 0, 0)).toArray) (by kernel_rfl) ?_; intro w4 g12 hb4 hx4 hg4)
                  | (show wpList _ _ _ (⟨none, .store _ (.tmp 12) (.tmp 42), _, _, _, _⟩ :: _) _ _; refine wpList_store_blk rfl 74 (.tmp 12) (.tmp 42) rfl _ _ rfl rfl hb4 3 sizeTok rfl rfl (tok_oneA _) ?_; intro w5 hb5 hg5; have hx5 : Ext wr w5 := hx4.grown hg5 hg4; have hbA5 := hbA.ext hx5; have q0 : w5.cell? ⟨g12, 0, none⟩ = some (.int .i64 (y : Int)) := hb5.cell 0; have hc1 : w5.cell? ⟨gA, y, none⟩ = some (.int .i64 p.1[y]) := (hbA5.cell y).trans (bv_at p.1 y hyA); have hz1 := hbA5.frozen y)
                  | (show wpList _ _ _ (⟨some 50, _, _, _, _, _⟩ :: _) _ _; refine wl_run rfl (.int .i64 (wrap64 (p.1[y] + 1))) (ex_bin rfl rfl rfl (run_inc _)) ?_))
                go_roundw
                case rel =>
                  have hbA7 := hbA5.set_ y (.int .i64 (wrap64 (p.1[y] + 1)))
                  rw [bv_set] at hbA7
                  refine ⟨j + 1, (incAt p.1 y, p.2), by omega, by go_num, ?_, (hbB.ext hx5).far (p := ⟨gA, y, none⟩) hne.symm _, hid_ (by rw [incAt_len]; exact HLA.out), HLB, (hx.trans hx5).setCell hlA _, ?_, HRn⟩
                  · have e : incAt p.1 y = p.1.set y (wrap64 (p.1[y] + 1)) := by unfold incAt; rw [HFA.out]
                    rw [e]
                    exact hbA7
                  · exact (hst.ext hx5).updq (Upd.setCell (S := fun x => x = gA) (Upd.refl _ _) (p := ⟨gA, y, none⟩) rfl _) (fun ad' e' _ => by injection e' with e'; rw [← e']; exact HDD.out.1)
                case measure => simp [intOf]; omega
              · have HJB : Hid (decide ((j : Int) = 0) = false) := hid_ (by rw [decide_eq_false]; omega)
                have HRn : Hid (eatGo cntStep ((flagT T).drop (j + 1) ++ flagsAt Z n (k + 1)) (p.1, incAt p.2 y) = R) := hid_ (by
                  have h := HRj.out
                  rw [show (j == 0) = false by simp [hj0], eatGo_ok rfl] at h
                  simpa [cntStep] using h)
                clear hj0
                go_wp2_with (first
                  | (show wpList _ _ _ (⟨some 44, _, _, _, _, _⟩ :: _) _ _; refine wl_run rfl _ (ex_eql rfl rfl rfl HJB.out) ?_)
                  | (show wpList _ _ _ (⟨some 42, _, _, _, _, _⟩ :: _) _ _; refine wpList_load_any (by rfl) 74 (.tmp 41) rfl (td.add (j * 3)) rfl (tokv ((y : Int), t2, t3)) _ HTC.out Try.underlying74 rfl size74 ?_)
                  | (show wpList _ _ _ (⟨some 12, _, _, _, _, _⟩ :: _) _ _; refine wpList_alloc_abs' rfl (some 12) rfl 74 rfl (.agg (tokv (0, 0, 0)).toArray) (by kernel_rfl) ?_; intro w4 g12 hb4 hx4 hg4)
                  | (show wpList _ _ _ (⟨none, .store _ (.tmp 12) (.tmp 42), _, _, _, _⟩ :: _) _ _; refine wpList_store_blk rfl 74 (.tmp 12) (.tmp 42) rfl _ _ rfl rfl hb4 3 sizeTok rfl rfl (tok_oneA _) ?_; intro w5 hb5 hg5; have hx5 : Ext wr w5 := hx4.grown hg5 hg4; have hbA5 := hbB.ext hx5; have q0 : w5.cell? ⟨g12, 0, none⟩ = some (.int .i64 (y : Int)) := hb5.cell 0; have hc1 : w5.cell? ⟨gB, y, none⟩ = some (.int .i64 p.2[y]) := (hbA5.cell y).trans (bv_at p.2 y hyB); have hz1 := hbA5.frozen y)
                  | (show wpList _ _ _ (⟨some 57, _, _, _, _, _⟩ :: _) _ _; refine wl_run rfl (.int .i64 (wrap64 (p.2[y] + 1))) (ex_bin rfl rfl rfl (run_inc _)) ?_))
                go_roundw
                case rel =>
                  have hbA7 := hbA5.set_ y (.int .i64 (wrap64 (p.2[y] + 1)))
                  rw [bv_set] at hbA7
                  refine ⟨j + 1, (p.1, incAt p.2 y), by omega, by go_num, (hbA.ext hx5).far (p := ⟨gB, y, none⟩) hne _, ?_, HLA, hid_ (by rw [incAt_len]; exact HLB.out), (hx.trans hx5).setCell hlB _, ?_, HRn⟩
                  · have e : incAt p.2 y = p.2.set y (wrap64 (p.2[y] + 1)) := by unfold incAt; rw [HFB.out]
                    rw [e]
                    exact hbA7
                  · exact (hst.ext hx5).updq (Upd.setCell (S := fun x => x = gB) (Upd.refl _ _) (p := ⟨gB, y, none⟩) rfl _) (fun ad' e' _ => by injection e' with e'; rw [← e']; exact HDD.out.2)
                case measure => simp [intOf]; omega
            · have hjm : j = m := by omega
              have HRn : Hid (eatGo cntStep (flagsAt Z n (k + 1)) p = R) := hid_ (by have h := HR.out; rw [List.drop_eq_nil_of_le (by rw [flagT_len, HM.out]; omega), List.nil_append] at h; exact h)
              go_wp2_with fail
              go_roundw
              case rel => exact ⟨k + 1, p, by omega, by go_num, hbA, hbB, HLA, HLB, hx, HRn⟩
              case measure => simp [intOf]; omega
        · have HKB : Hid (decide ((0 : Int) < (k : Int)) = true) := hid_ (by rw [decide_eq_true]; omega)
          have hk1 : 1 ≤ k := by omega
          have HBS : Hid (befAt Z k = (blkAt Z (k - 1)).getD 0 0) := hid_ (by rw [← befAt_succ, show k - 1 + 1 = k by omega])
          have HPR : Hid (∃ ad', some ad = some ad' ∧ CellsAt wr (ad'.add ((k - 1) * 64)) (ints (blkAt Z (k - 1)))) := hid_ (by
            obtain ⟨ad', e1, -, h2⟩ := (hs.ext hx).part (k := k - 1) (by omega)
            have e : ((ints Z).drop ((k - 1) * 64)).take 64 = ints (blkAt Z (k - 1)) := by unfold blkAt; simp [ints, List.map_drop, List.map_take]
            rw [e] at h2
            exact ⟨ad', e1, h2⟩)
          have hcp : wr.cell? (ad.add ((k - 1) * 64)) = some (.int .i64 (befAt Z k)) := by
            obtain ⟨ad', e1, h2⟩ := HPR.out
            injection e1 with e1
            subst e1
            have hl1 := blkAt_len Z n (k - 1) HZ.out (by omega)
            have h3 := h2 0 (.int .i64 (befAt Z k)) (by rw [HBS.out]; exact ints_head _ (by omega))
            exact h3
          have HCP := hid_ hcp
          clear hcp HPR HBS
          generalize befAt Z k = bf at *
          clear hk0
          go_wp2_with (first
            | (show wpList _ _ _ (⟨some 23, _, _, _, _, _⟩ :: _) _ _; refine wl_run rfl _ (ex_gtr rfl rfl rfl HKB.out) ?_)
            | (show wpList _ _ _ (⟨some 21, _, _, _, _, _⟩ :: _) _ _; refine wpList_load_any (by rfl) 24 (.tmp 20) rfl (ad.add (k * 64)) rfl (ints (blkAt Z k)) _ HCA.out Try.underlying24 rfl (by rw [ints_len, HB.out]; exact size48) ?_; rw [HBV.out])
            | (show wpList _ _ _ (⟨some 7, _, _, _, _, _⟩ :: _) _ _; refine wpList_alloc_abs' rfl (some 7) rfl 24 rfl _ HAL.out ?_; intro w1 g1 hb1 hx1 hg1)
            | (show wpList _ _ _ (⟨none, .store _ (.tmp 7) (.tmp 21), _, _, _, _⟩ :: _) _ _; refine wpList_store_blk rfl 24 (.tmp 7) (.tmp 21) rfl _ _ rfl rfl hb1 64 size48 HSZ.out hz0.out HO1.out ?_; intro w2 hb2 hg2; have hx2 := hx1.grown hg2 hg1; have hcp2 : w2.cell? (ad.add ((k - 1) * 64)) = some (.int .i64 bf) := cellAt_ext hx2 hab HCP.out)
            | (show wpList _ _ _ (⟨some 26, _, _, _, _, _⟩ :: _) _ _; refine wl_run rfl (.int .i64 ((k - 1 : Nat) : Int)) (ex_bin rfl rfl rfl (run_subN k 1 (by omega) (by omega))) ?_)
            | (show wpList _ _ _ (⟨some 29, _, _, _, _, _⟩ :: _) _ _; refine wl_read rfl (.int .i64 bf) (ex_loadI rfl rfl hcp2) ?_)
            | (show wpList _ _ _ (⟨some 32, _, _, _, _, _⟩ :: _) _ _; refine wpList_load_blk rfl 24 (.tmp 7) rfl g1 rfl hb2 _ Try.underlying24 rfl 64 size48 HSZ.out ?_)
            | (go_at_call 34; (with_reducible refine (HT.out _).mono ?_); rintro e w3 ⟨D, d, rfl, hs3, hf3, hx3⟩))
          have hx3' : Ext wr w3 := hx2.trans hx3
          have hA3 := hbA.ext hx3'
          have hB3 := hbB.ext hx3'
          have hxw := hx.trans hx3'
          have HDA : Hid (∀ ad, D = some ad → ad.block ≠ gA ∧ ad.block ≠ gB) := hid_ (fun ad e => by have := hf3 ad e; have := hbA.lt; have := hbB.lt; have := hx2.size; omega)
          have hs3c := hs3
          obtain ⟨D', d'', he3, hmd, hd2, -, -⟩ := hs3c
          injection he3 with q1 q2 q3
          subst q1 q3
          have hm1 : m ≤ 9223372036854775807 := by omega
          clear hx hbA hbB hb1 hx1 hg1 hb2 hg2 hx2 hx3 hf3 hx3' q2 HT HCA HB HSZ HO1 HBV
          go_loopw [38] (fun i wi => ∃ (j : Nat) (p : List Int × List Int), j ≤ m ∧ i = .int .i64 (j : Int) ∧ Blk wi gA 3 (bv p.1) ∧ Blk wi gB 3 (bv p.2) ∧ Hid (p.1.length = 256) ∧ Hid (p.2.length = 256) ∧ Ext w wi ∧ SL wi 3 (.slice D m d) m (toks T) ∧ Hid (eatGo cntStep ((flagT T).drop j ++ flagsAt Z n (k + 1)) p = R)) (fun i _ => m - (intOf i).toNat)
          case atStart => exact ⟨0, s, by omega, rfl, hA3, hB3, HLA, HLB, hxw, hs3, HR1⟩
          case round =>
            clear hA3 hB3 HLA HLB hxw hs3 HR1
            obtain ⟨wo2, rfl⟩ : ∃ wo2 : World, wo2 = w3 := ⟨_, rfl⟩
            obtain ⟨j, p, hj, rfl, hbA, hbB, HLA, HLB, hx, hst, HR⟩ := hrel
            by_cases hlj : j < m
            · obtain ⟨td, rfl, htb, htc⟩ := hst.part hlj
              have hjT : j < T.length := by rw [HM.out]; exact hlj
              rw [toks_part T j hjT] at htc
              have HTC := hid_ htc
              have HRj : Hid (eatGo cntStep ((T[j], j == 0) :: ((flagT T).drop (j + 1) ++ flagsAt Z n (k + 1))) p = R) := hid_ (by have := HR.out; rw [flagT_drop T j hjT, List.cons_append] at this; exact this)
              have hwf := HWF.out T[j] (List.getElem_mem hjT)
              generalize T[j] = t at *
              obtain ⟨t1, t2, t3⟩ := t
              obtain ⟨hw1, hw2, -⟩ := hwf
              dsimp only at hw1 hw2
              obtain ⟨y, hy⟩ : ∃ y : Nat, t1 = (y : Int) := ⟨t1.toNat, by omega⟩
              subst hy
              have hy2 : y < 256 := by omega
              have hy3 : (y : Int) < 256 := by omega
              have hyA : y < p.1.length := by rw [HLA.out]; exact hy2
              have hyB : y < p.2.length := by rw [HLB.out]; exact hy2
              have HFA := hid_ (show p.1.getD y 0 = p.1[y] by simp [List.getD_eq_getElem?_getD, hyA])
              have HFB := hid_ (show p.2.getD y 0 = p.2[y] by simp [List.getD_eq_getElem?_getD, hyB])
              have HDD := hid_ (HDA.out td rfl)
              clear htc HR
              by_cases hj0 : j = 0
              · have HJB : Hid (decide ((j : Int) = 0) = true) := hid_ (by rw [decide_eq_true]; omega)
                have HRn : Hid (eatGo cntStep ((flagT T).drop (j + 1) ++ flagsAt Z n (k + 1)) (incAt p.1 y, p.2) = R) := hid_ (by
                  have h := HRj.out
                  rw [show (j == 0) = true by simp [hj0], eatGo_ok rfl] at h
                  simpa [cntStep] using h)
                clear hj0
                go_wp2_with (first
                  | (show wpList _ _ _ (⟨some 44, _, _, _, _, _⟩ :: _) _ _; refine wl_run rfl _ (ex_eql rfl rfl rfl HJB.out) ?_)
                  | (show wpList _ _ _ (⟨some 42, _, _, _, _, _⟩ :: _) _ _; refine wpList_load_any (by rfl) 74 (.tmp 41) rfl (td.add (j * 3)) rfl (tokv ((y : Int), t2, t3)) _ HTC.out Try.underlying74 rfl size74 ?_)
                  | (show wpList _ _ _ (⟨some 12, _, _, _, _, _⟩ :: _) _ _; refine wpList_alloc_abs' rfl (some 12) rfl 74 rfl (.agg (tokv (0, 0, 0)).toArray) (by kernel_rfl) ?_; intro w4 g12 hb4 hx4 hg4)
                  | (show wpList _ _ _ (⟨none, .store _ (.tmp 12) (.tmp 42), _, _, _, _⟩ :: _) _ _; refine wpList_store_blk rfl 74 (.tmp 12) (.tmp 42) rfl _ _ rfl rfl hb4 3 sizeTok rfl rfl (tok_oneA _) ?_; intro w5 hb5 hg5; have hx5 : Ext wr w5 := hx4.grown hg5 hg4; have hbA5 := hbA.ext hx5; have q0 : w5.cell? ⟨g12, 0, none⟩ = some (.int .i64 (y : Int)) := hb5.cell 0; have hc1 : w5.cell? ⟨gA, y, none⟩ = some (.int .i64 p.1[y]) := (hbA5.cell y).trans (bv_at p.1 y hyA); have hz1 := hbA5.frozen y)
                  | (show wpList _ _ _ (⟨some 50, _, _, _, _, _⟩ :: _) _ _; refine wl_run rfl (.int .i64 (wrap64 (p.1[y] + 1))) (ex_bin rfl rfl rfl (run_inc _)) ?_))
                go_roundw
                case rel =>
                  have hbA7 := hbA5.set_ y (.int .i64 (wrap64 (p.1[y] + 1)))
                  rw [bv_set] at hbA7
                  refine ⟨j + 1, (incAt p.1 y, p.2), by omega, by go_num, ?_, (hbB.ext hx5).far (p := ⟨gA, y, none⟩) hne.symm _, hid_ (by rw [incAt_len]; exact HLA.out), HLB, (hx.trans hx5).setCell hlA _, ?_, HRn⟩
                  · have e : incAt p.1 y = p.1.set y (wrap64 (p.1[y] + 1)) := by unfold incAt; rw [HFA.out]
                    rw [e]
                    exact hbA7
                  · exact (hst.ext hx5).updq (Upd.setCell (S := fun x => x = gA) (Upd.refl _ _) (p := ⟨gA, y, none⟩) rfl _) (fun ad' e' _ => by injection e' with e'; rw [← e']; exact HDD.out.1)
                case measure => simp [intOf]; omega
              · have HJB : Hid (decide ((j : Int) = 0) = false) := hid_ (by rw [decide_eq_false]; omega)
                have HRn : Hid (eatGo cntStep ((flagT T).drop (j + 1) ++ flagsAt Z n (k + 1)) (p.1, incAt p.2 y) = R) := hid_ (by
                  have h := HRj.out
                  rw [show (j == 0) = false by simp [hj0], eatGo_ok rfl] at h
                  simpa [cntStep] using h)
                clear hj0
                go_wp2_with (first
                  | (show wpList _ _ _ (⟨some 44, _, _, _, _, _⟩ :: _) _ _; refine wl_run rfl _ (ex_eql rfl rfl rfl HJB.out) ?_)
                  | (show wpList _ _ _ (⟨some 42, _, _, _, _, _⟩ :: _) _ _; refine wpList_load_any (by rfl) 74 (.tmp 41) rfl (td.add (j * 3)) rfl (tokv ((y : Int), t2, t3)) _ HTC.out Try.underlying74 rfl size74 ?_)
                  | (show wpList _ _ _ (⟨some 12, _, _, _, _, _⟩ :: _) _ _; refine wpList_alloc_abs' rfl (some 12) rfl 74 rfl (.agg (tokv (0, 0, 0)).toArray) (by kernel_rfl) ?_; intro w4 g12 hb4 hx4 hg4)
                  | (show wpList _ _ _ (⟨none, .store _ (.tmp 12) (.tmp 42), _, _, _, _⟩ :: _) _ _; refine wpList_store_blk rfl 74 (.tmp 12) (.tmp 42) rfl _ _ rfl rfl hb4 3 sizeTok rfl rfl (tok_oneA _) ?_; intro w5 hb5 hg5; have hx5 : Ext wr w5 := hx4.grown hg5 hg4; have hbA5 := hbB.ext hx5; have q0 : w5.cell? ⟨g12, 0, none⟩ = some (.int .i64 (y : Int)) := hb5.cell 0; have hc1 : w5.cell? ⟨gB, y, none⟩ = some (.int .i64 p.2[y]) := (hbA5.cell y).trans (bv_at p.2 y hyB); have hz1 := hbA5.frozen y)
                  | (show wpList _ _ _ (⟨some 57, _, _, _, _, _⟩ :: _) _ _; refine wl_run rfl (.int .i64 (wrap64 (p.2[y] + 1))) (ex_bin rfl rfl rfl (run_inc _)) ?_))
                go_roundw
                case rel =>
                  have hbA7 := hbA5.set_ y (.int .i64 (wrap64 (p.2[y] + 1)))
                  rw [bv_set] at hbA7
                  refine ⟨j + 1, (p.1, incAt p.2 y), by omega, by go_num, (hbA.ext hx5).far (p := ⟨gB, y, none⟩) hne _, ?_, HLA, hid_ (by rw [incAt_len]; exact HLB.out), (hx.trans hx5).setCell hlB _, ?_, HRn⟩
                  · have e : incAt p.2 y = p.2.set y (wrap64 (p.2[y] + 1)) := by unfold incAt; rw [HFB.out]
                    rw [e]
                    exact hbA7
                  · exact (hst.ext hx5).updq (Upd.setCell (S := fun x => x = gB) (Upd.refl _ _) (p := ⟨gB, y, none⟩) rfl _) (fun ad' e' _ => by injection e' with e'; rw [← e']; exact HDD.out.2)
                case measure => simp [intOf]; omega
            · have hjm : j = m := by omega
              have HRn : Hid (eatGo cntStep (flagsAt Z n (k + 1)) p = R) := hid_ (by have h := HR.out; rw [List.drop_eq_nil_of_le (by rw [flagT_len, HM.out]; omega), List.nil_append] at h; exact h)
              go_wp2_with fail
              go_roundw
              case rel => exact ⟨k + 1, p, by omega, by go_num, hbA, hbB, HLA, HLB, hx, HRn⟩
              case measure => simp [intOf]; omega
      · have hkn : k = n := by omega
        have HRE : Hid (R = (0, s)) := hid_ (by rw [← HR.out, hkn, flagsAt_end]; unfold eatGo; rfl)
        go_wp2_with fail
        refine bodyPost_ret (results_tmp2 rfl _ _ _) rfl ?_
        rw [HRE.out]
        exact ⟨hx, gA, gB, rfl, hbA, hbB, HLA.out, HLB.out⟩
end Go.Proofs.Ytkfdkkhhkciocaa
/- Tables: table.total, Has of the reference. -/
namespace Go.Proofs.Ytkfdkkhhkciocaa
set_option linter.unusedVariables false
set_option linter.unusedSimpArgs false
open Go.RowKit
def tblv (cs : List Int) (sl : Value) : Array Value := (ints cs ++ [sl]).toArray
theorem sizeTbl : (Try.prog.info? 41).map (·.size) = some 17 := by kernel_rfl
theorem size16 : (Try.prog.info? 39).map (·.size) = some 16 := by kernel_rfl
theorem tblv_size (cs : List Int) (sl : Value) (h : cs.length = 16) : (tblv cs sl).size = 17 := by simp [tblv, ints_len, h]
theorem tblv_range {w : World} {g : Nat} {T : TypeId} {cs : List Int} {sl : Value} (h : Blk w g T (tblv cs sl)) : w.rangeAt g 0 (ints cs) := by
  intro j v hv
  rw [Nat.zero_add, h.cell]
  unfold tblv
  rw [List.getElem?_toArray, List.getElem?_append_left (List.getElem?_eq_some_iff.1 hv).1]
  exact hv
theorem tblv_last {w : World} {g : Nat} {T : TypeId} {cs : List Int} {sl : Value} (h : Blk w g T (tblv cs sl)) (hl : cs.length = 16) : w.cell? ⟨g, 16, none⟩ = some sl := by
  rw [h.cell]
  simp [tblv, ints_len, hl]
theorem run_index16 (cs : Array Value) (i : Nat) (u : Value) (hi : i < 16) (hu : cs[i]? = some u) (w : World) : (Instr.index 39 (.agg cs) (.int .i64 (i : Int))).run Try.prog w = .ok u w :=
  run_index_agg _ _ 16 cs i u Try.underlying39 _ Try.underlying3 sizeInt hi hu w
def sumL (cs : List Int) (k : Nat) : Int := (cs.take k).sum
theorem sumL_succ (cs : List Int) (k : Nat) (h : k < cs.length) : sumL cs (k + 1) = sumL cs k + cs[k] := by
  unfold sumL
  rw [List.take_succ_eq_append_getElem h, List.sum_append]
  simp
def totalZ (cs : List Int) : Int × Bool := if allIn cs 0 256 then (sumL cs 16, decide (sumL cs 16 ≤ 256)) else (0, false)
set_option maxHeartbeats 400000 in
theorem total_any (cs : List Int) (sl : Value) (w : World) (hl : cs.length = 16) :
    Calls Try.prog 82 #[.agg (tblv cs sl)] w fun e w' => e = .returned (.tuple #[.int .i64 (totalZ cs).1, .bool (totalZ cs).2]) ∧ Ext w w' := by
  have HL := hid_ hl
  have HRG := hid_ (fun W g (h : Blk W g 41 (tblv cs sl)) => tblv_range h)
  have hcl := hid_ ((ints_len cs).trans hl)
  have HIX := hid_ (fun k (hk : k < cs.length) (h16 : k < 16) => fun W => run_index16 (bv cs) k (.int .i64 cs[k]) h16 (bv_at cs k hk) W)
  generalize tblv cs sl = tv at *
  have hbv : (ints cs).toArray = bv cs := rfl
  go_enter Try.func82, Try.ntmps82
  go_wp2_with (first
    | (refine wpList_box_abs rfl 41 (.tmp 0) rfl tv rfl ?_; intro w1 g hb1 hx1 hg)
    | (refine wpList_load_mid rfl 39 (.tmp 7) rfl g 0 rfl (ints cs) _ (HRG.out _ _ hb1) Try.underlying39 rfl (by rw [hcl.out]; exact size16) ?_))
  go_loop [4, 9] (fun v i => ∃ k : Nat, k ≤ 16 ∧ i = .int .i64 (k : Int) ∧ v = .int .i64 (sumL cs k) ∧ (∀ z ∈ cs.take k, 0 ≤ z ∧ z ≤ 256) ∧ 0 ≤ sumL cs k ∧ sumL cs k ≤ 256 * k) (fun _ i => 16 - (intOf i).toNat)
  case atStart => exact ⟨0, by omega, rfl, rfl, by simp, by simp [sumL], by simp [sumL]⟩
  case round =>
    obtain ⟨k, hk, rfl, rfl, hin, s1, s2⟩ := hrel
    by_cases hlt : k < 16
    · have hkl : k < cs.length := by have := HL.out; omega
      have hix := HIX.out k hkl hlt
      have HS := hid_ (sumL_succ cs k hkl)
      have HIN := hid_ hin
      clear hin
      cases hq : inB cs[k] 0 256 with
      | true =>
        obtain ⟨q1, q2⟩ := inB_iff.1 hq
        have HN := hid_ (allIn_take HIN.out hkl ⟨q1, q2⟩)
        generalize sumL cs k = s at *
        go_wp2_with fail
        go_round
        case rel => exact ⟨k + 1, by omega, by go_num, by rw [HS.out], HN.out, by rw [HS.out]; omega, by rw [HS.out]; omega⟩
        case measure => simp [intOf]; omega
      | false =>
        have HF := hid_ (show totalZ cs = (0, false) by unfold totalZ; rw [allIn_no hkl hq]; rfl)
        rcases Int.lt_or_le cs[k] 0 with h0 | h0
        · have h0' : decide (cs[k] < 0) = true := by simpa using h0
          clear hq
          go_wp2_with fail
          go_ret2
          exact ⟨by rw [HF.out]; rfl, hx1⟩
        · have h0' : decide (cs[k] < 0) = false := by simpa using h0
          have h1' : decide (256 < cs[k]) = true := by have := inB_not.1 hq; simp; omega
          clear hq
          go_wp2_with fail
          go_ret2
          exact ⟨by rw [HF.out]; rfl, hx1⟩
    · have ek : k = 16 := by omega
      have HF := hid_ (show totalZ cs = (sumL cs 16, decide (sumL cs 16 ≤ 256)) by
        unfold totalZ
        rw [allIn_iff.2 (fun z hz => hin z (by rwa [List.take_of_length_le (by have := HL.out; omega)]))]
        rfl)
      rw [ek]
      rw [ek] at s1 s2
      clear hin ek hk hlt
      go_wp2_with fail
      go_ret2
      exact ⟨by rw [HF.out]; rfl, hx1⟩
theorem has_any (xs : List Int) (A : Option Addr) (c n : Nat) (x : Int) (w : World) (hn : xs.length = n) (hs : SL w 1 (.slice A n c) n (ints xs)) :
    Calls Try.prog 106 #[.slice A n c, .int .i64 x] w fun e w' => e = .returned (.bool (decide (x ∈ xs))) ∧ w = w' := by
  subst hn
  have hc1 : xs.length ≤ c ∧ c ≤ 9223372036854775807 := by obtain ⟨A', c', e, h1, h2, -⟩ := hs; injection e with e1 e2 e3; subst e3; exact ⟨h1, h2⟩
  obtain ⟨hc1, hc2⟩ := hc1
  go_enter Try.func106, Try.ntmps106
  go_wp2_with fail
  go_loop [9] (fun i => ∃ k : Nat, k ≤ xs.length ∧ i = .int .i64 k ∧ x ∉ xs.take k) (fun i => xs.length - (intOf i).toNat)
  case atStart => exact ⟨0, by omega, rfl, by simp⟩
  case round =>
    obtain ⟨k, hk, rfl, ht⟩ := hrel
    have HT := hid_ ht
    clear ht
    by_cases hlt : k < xs.length
    · obtain ⟨ad, u, rfl, -, hx, hcell⟩ := hs.at1 hlt
      obtain ⟨_, rfl⟩ := ints_at _ _ _ hx
      clear hx
      by_cases hq : x = xs[k]
      · have hq' : (x == xs[k]) = true := by simpa using hq
        have HC := hid_ (show decide (x ∈ xs) = true by rw [decide_eq_true_eq, hq]; exact List.getElem_mem hlt)
        clear hq
        go_wp2_with fail
        go_ret
        exact ⟨by rw [HC.out]; rfl, rfl⟩
      · have hq' : (x == xs[k]) = false := by simpa using hq
        have HN := hid_ (show x ∉ xs.take (k + 1) by rw [List.take_succ_eq_append_getElem hlt, List.mem_append]; exact fun h => h.elim HT.out (fun h => hq (by simpa using h)))
        clear hq
        go_wp2_with fail
        go_round
        case rel => exact ⟨k + 1, by omega, by go_num, HN.out⟩
        case measure => simp [intOf]; omega
    · have HC := hid_ (show decide (x ∈ xs) = false by
        have := HT.out
        rw [List.take_of_length_le (by omega)] at this
        simpa using this)
      go_wp2_with fail
      go_ret
      exact ⟨by rw [HC.out]; rfl, rfl⟩
end Go.Proofs.Ytkfdkkhhkciocaa
/- Opening a parameter: a list of integers, a table. -/
namespace Go.Proofs.Ytkfdkkhhkciocaa
set_option linter.unusedVariables false
set_option linter.unusedSimpArgs false
open Go.RowKit Go.ChangeShapes Go.WideShapes Go.ChangeAt
section
variable {H : Type} {enc : TypeId × Value → H} {w : World} {base : Nat} {spare : Nat → Bool} {held : Bool}
theorem open_intsX {fuel : Nat} {cs : List Value} {x : DataW H × List MemPlace} (h : DataW.trod enc Try.prog w base spare held fuel 30 cs = some x) :
    ∃ (zs : List Int) (v : Value), cs = [v] ∧ SL w 1 v zs.length (ints zs) ∧ ∀ z ∈ zs, inI64 z := by
  rcases open_ints Try.underlying30 Try.underlying3 cellsInt h with ⟨rfl, -⟩ | ⟨a, len, cap, zs, rfl, -, hlc, hcm, hzl, -, hcell, hwf⟩
  · exact ⟨[], _, rfl, SL.nil w 1, by simp⟩
  · have hlen : len ≤ zs.length := by rw [hzl]; split <;> omega
    refine ⟨zs.take len, _, rfl, ?_, fun z hz => inI64_of_wf (hwf z (List.mem_of_mem_take hz))⟩
    have hl : (zs.take len).length = len := by rw [List.length_take]; omega
    rw [hl]
    refine ⟨some a, cap, rfl, hlc, by unfold maxLen at hcm; omega, by rw [ints_len, hl]; omega, fun h0 => ⟨a, rfl, ?_, fun j u hu => ?_⟩⟩
    · have := hcell 0 (by omega)
      have h2 := World.block_lt_of_cell? w _ this
      rwa [block_of_add] at h2
    · obtain ⟨hj, rfl⟩ := ints_at _ _ _ hu
      have hj2 : j < len := by omega
      rw [hcell j (by omega)]
      simp [List.getD_eq_getElem?_getD, show j < zs.length by omega]
theorem cells16 : Try.prog.cellsOf 39 = 16 := by kernel_rfl
theorem cellsSl : Try.prog.cellsOf 30 = 1 := by kernel_rfl
theorem cellsTbl : Try.prog.cellsOf 41 = 17 := by kernel_rfl
set_option maxRecDepth 20000 in
theorem open_table {b0 : Nat} {r : Reach} {v : Value} {d : DataW H} {p : List MemPlace} (hv : Value.okWide Try.prog w r b0 41 v) (h : DataW.Trod enc Try.prog w base spare held 41 v d p) :
    ∃ (zs xs : List Int) (sl : Value), v = .agg (tblv zs sl) ∧ zs.length = 16 ∧ (∀ z ∈ zs, inI64 z) ∧ SL w 1 sl xs.length (ints xs) ∧ ∀ z ∈ xs, inI64 z := by
  obtain ⟨cs, rfl, hsz⟩ := okWide_struct Try.underlying41 hv
  obtain ⟨fuel, hf⟩ := h
  obtain ⟨y0, y1, n, -, hlen, h0, h1⟩ := trod_struct2 Try.underlying41 hf
  have hL : cs.toList.length = 17 := by rw [show cs.toList.length = cs.size by simp, hsz, cellsTbl]
  have hcs : (Value.agg cs).cells.toList = cs.toList := rfl
  rw [hcs] at h0 h1
  dsimp only at h0 h1
  obtain ⟨zs, hz, hc, hq⟩ := trod_ints_arr Try.underlying39 Try.underlying3 cellsInt cells16 h0
  obtain ⟨xs, sl, hs, hsl, hxq⟩ := open_intsX h1
  rw [cells16, List.drop_zero] at hc
  rw [cellsSl] at hs
  refine ⟨zs, xs, sl, ?_, hz, hq, hsl, hxq⟩
  have e2 : cs.toList.drop 16 = [sl] := by
    rw [← hs]
    rw [List.take_of_length_le (by rw [List.length_drop, hL]; omega)]
  have e : cs.toList = ints zs ++ [sl] := by
    rw [← hc, ← e2, List.take_append_drop]
  congr 1
  apply Array.ext'
  rw [e]
  simp [tblv]
end
end Go.Proofs.Ytkfdkkhhkciocaa
/- A row of bytes, as values. -/
namespace Go.Proofs.Ytkfdkkhhkciocaa
set_option linter.unusedVariables false
set_option linter.unusedSimpArgs false
open Go.RowKit
def bytesV (l : List Nat) : List Value := l.map fun x : Nat => Value.int .u8 (x : Int)
theorem bytesV_len (l : List Nat) : (bytesV l).length = l.length := by simp [bytesV]
theorem bytesV_snoc (l : List Nat) (x : Nat) : bytesV (l ++ [x]) = bytesV l ++ [.int .u8 (x : Int)] := by simp [bytesV]
end Go.Proofs.Ytkfdkkhhkciocaa
/- Opening a parameter that is a slice. -/
namespace Go.Proofs.Ytkfdkkhhkciocaa
set_option linter.unusedVariables false
set_option linter.unusedSimpArgs false
open Go.RowKit Go.ChangeShapes Go.WideShapes Go.ChangeAt
section
variable {H : Type} {enc : TypeId × Value → H} {w : World} {base : Nat} {spare : Nat → Bool} {held : Bool}
theorem slice_value {P : Program} {r : Reach} {b0 : Nat} {t e : TypeId} {v : Value} {u : Value} (ht : P.underlying t = some (.slice e)) (hv : Value.okWide P w r b0 t v) (hc : v.cells.toList = [u]) (hu : ∀ cs, u ≠ .agg cs) : v = u := by
  cases v with
  | agg cs =>
    simp [Value.okWide, ht, Cell.okWide, Cell.ok] at hv
  | _ => simpa [Value.cells] using hc
set_option maxRecDepth 20000 in
theorem open_ints_v {b0 : Nat} {r : Reach} {v : Value} {d : DataW H} {p : List MemPlace} (hv : Value.okWide Try.prog w r b0 30 v) (h : DataW.Trod enc Try.prog w base spare held 30 v d p) :
    ∃ zs : List Int, SL w 1 v zs.length (ints zs) ∧ ∀ z ∈ zs, inI64 z := by
  obtain ⟨fuel, hf⟩ := h
  obtain ⟨zs, u, hcs, hs, hz⟩ := open_intsX hf
  have : v = u := slice_value Try.underlying30 hv hcs (by obtain ⟨A, c, rfl, -⟩ := hs; simp)
  subst this
  exact ⟨zs, hs, hz⟩
theorem bytes_of (zs : List Int) (h : ∀ n ∈ zs, (Lit.int .u8 n).wf = true) : ∃ bs : List Nat, zs.map (Value.int .u8) = bytesV bs ∧ ∀ b ∈ bs, b < 256 := by
  refine ⟨zs.map Int.toNat, ?_, ?_⟩
  · unfold bytesV
    rw [List.map_map]
    apply List.map_congr_left
    intro z hz
    have := h z hz
    simp [Lit.wf, IntKind.min, IntKind.max, IntKind.signed, IntKind.bits] at this
    simp; omega
  · intro b hb
    obtain ⟨z, hz, rfl⟩ := List.mem_map.1 hb
    have := h z hz
    simp [Lit.wf, IntKind.min, IntKind.max, IntKind.signed, IntKind.bits] at this
    omega
set_option maxRecDepth 20000 in
theorem open_bytes_v {b0 : Nat} {r : Reach} {v : Value} {d : DataW H} {p : List MemPlace} (hv : Value.okWide Try.prog w r b0 38 v) (h : DataW.Trod enc Try.prog w base spare held 38 v d p) :
    ∃ bs : List Nat, SL w 1 v bs.length (bytesV bs) ∧ ∀ b ∈ bs, b < 256 := by
  obtain ⟨fuel, hf⟩ := h
  rcases open_ints Try.underlying38 Try.underlying5 (by kernel_rfl) hf with ⟨hcs, -⟩ | ⟨a, len, cap, zs, hcs, -, hlc, hcm, hzl, -, hcell, hwf⟩
  · obtain rfl := slice_value Try.underlying38 hv hcs (by simp)
    exact ⟨[], SL.nil w 1, by simp⟩
  · obtain rfl := slice_value Try.underlying38 hv hcs (by simp)
    have hlen : len ≤ zs.length := by rw [hzl]; split <;> omega
    obtain ⟨bs, hbs, hlt⟩ := bytes_of (zs.take len) (fun n hn => hwf n (List.mem_of_mem_take hn))
    have hl : bs.length = len := by
      have := congrArg List.length hbs
      simp [bytesV] at this
      omega
    refine ⟨bs, ?_, hlt⟩
    rw [hl]
    refine ⟨some a, cap, rfl, hlc, by unfold maxLen at hcm; omega, by rw [bytesV_len, hl]; omega, fun h0 => ⟨a, rfl, ?_, fun j u hu => ?_⟩⟩
    · have := hcell 0 (by omega)
      have h2 := World.block_lt_of_cell? w _ this
      rwa [block_of_add] at h2
    · rw [← hbs, List.getElem?_map] at hu
      obtain ⟨z, hz, rfl⟩ := Option.map_eq_some_iff.1 hu
      have hj : j < len := by have := (List.getElem?_eq_some_iff.1 hz).1; simp at this; omega
      rw [List.getElem?_take_of_lt hj] at hz
      rw [hcell j (by omega)]
      simp [List.getD_eq_getElem?_getD, hz]
end
end Go.Proofs.Ytkfdkkhhkciocaa
