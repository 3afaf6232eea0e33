/- Contracts for the law ScanEncodesCard, part 29: what the functions that it reaches answer, for all arguments that the theorems name. -/
import Derived.Test.YtgmddhljgfbibaaDoorMScanEncodesCard18
import Derived.Test.YtgmddhljgfbibaaDoorMScanEncodesCard25
import Derived.Test.YtgmddhljgfbibaaDoorMScanEncodesCard28
import Derived.Test.YtgmddhljgfbibaaDoorMScanEncodesCard27
import Derived.Test.YtgmddhljgfbibaaDoorMScanEncodesCard9
import Derived.Test.YtgmddhljgfbibaaDoorMScanEncodesCard17
/- SegEncode of the reference. -/
namespace Go.Proofs.YtgmddhljgfbibaaDoor
set_option linter.unusedVariables false
set_option linter.unusedSimpArgs false
open Go.RowKit
theorem bld_ne {w : World} {g b : Nat} {T : TypeId} {cs : Array Value} {fz : Nat × Nat} {L : List Bool} {r : Option Nat} (h : w.heap[g]? = some (.cells cs T fz)) (hw : BldS w b L r) (h1 : T ≠ 71) (h2 : T ≠ 5) : ¬ (g = b ∨ r = some g) := by
  obtain ⟨p, v, -, hB, ho, hr, -⟩ := hw
  rintro (rfl | e)
  · rw [h] at hB
    injection hB with hB
    injection hB with e1 e2 e3
    exact h1 e2
  · rcases ho.2 with ⟨rfl, -⟩ | ⟨k, cap, cur, fz', rfl, -, hg, -⟩
    · rw [← hr] at e; simp [Value.ownBlock] at e
    · rw [← hr] at e
      have : k = g := by simpa [Value.ownBlock] using e
      subst this
      rw [h] at hg
      injection hg with hg
      injection hg with e1 e2 e3
      exact h2 e2
/-- as SegIs, in new memory -/
def SegIsF (r : Int × List Nat) (w : World) (e : Ending) (w' : World) : Prop :=
  Ext w w' ∧ if r.1 = 0 then ∃ B k d, e = .returned (.tuple #[.slice B k d, .int .i64 0]) ∧ r.2.length = k ∧ SL w' 1 (.slice B k d) k (bytesV r.2) ∧ (B = none → d = 0) ∧ ∀ ad, B = some ad → w.heap.size ≤ ad.block
    else e = .returned (.tuple #[.slice none 0 0, .int .i64 r.1])
theorem SegIsF.is {r : Int × List Nat} {w w' : World} {e : Ending} (h : SegIsF r w e w') : SegIs r w e w' := by
  obtain ⟨hx, h⟩ := h
  refine ⟨hx, ?_⟩
  by_cases h0 : r.1 = 0
  · rw [if_pos h0] at h ⊢
    obtain ⟨B, k, d, h1, h2, h3, h4, -⟩ := h
    exact ⟨B, k, d, h1, h2, h3, h4⟩
  · rw [if_neg h0] at h ⊢
    exact h
theorem types_apart : 34 ≠ 71 ∧ 34 ≠ 5 ∧ 60 ≠ 71 ∧ 60 ≠ 5 := by decide
theorem blocksE_each {σ : Type} (step : σ → Tok → Bool → Int × σ) (n : Nat) (Z : List Int) (s : σ) (h : blocksE n Z ≠ 0) : eachZ step n Z s = (blocksE n Z, s) := by
  unfold blocksE at h ⊢
  unfold eachZ
  split
  · rfl
  · next h1 =>
    rw [if_neg h1] at h
    split
    · rfl
    · next h2 => rw [if_neg h2] at h; exact absurd rfl h
theorem blocksE_zero {σ : Type} (step : σ → Tok → Bool → Int × σ) (n : Nat) (Z : List Int) (s : σ) (h : blocksE n Z = 0) : n ≤ 400 ∧ allIn Z (-2047) 2047 = true ∧ eachZ step n Z s = eatGo step (flagsAt Z n 0) s := by
  unfold blocksE at h
  unfold eachZ
  by_cases h1 : 400 < n
  · rw [if_pos h1] at h; cases h
  · rw [if_neg h1] at h ⊢
    cases h2 : allIn Z (-2047) 2047 with
    | false => rw [h2] at h; cases h
    | true => exact ⟨by omega, rfl, by simp⟩
attribute [local irreducible] bv bytesV stuffZ packB padB bitsT digs toks flagsAt eatGo eachZ blocksE tokensZ zto blkAt befAt toksAt
set_option maxRecDepth 20000 in
set_option maxHeartbeats 2000000 in
theorem rsegEnc_bad (t1 t2 : List Value) (z1 z2 : Int) (v : Value) (w : World) (h1 : t1.length = 17) (h2 : t2.length = 17)
    (C1 : ∀ W, Ext w W → Calls Tryd.prog 56 #[.agg t1.toArray] W fun e W' => e = .returned (.int .i64 z1) ∧ Ext W W')
    (C2 : ∀ W, Ext w W → Calls Tryd.prog 56 #[.agg t2.toArray] W fun e W' => e = .returned (.int .i64 z2) ∧ Ext W W')
    (hne : (if z1 = 0 then z2 else z1) ≠ 0) :
    Calls Tryd.prog 13 #[.agg (t1 ++ t2).toArray, v] w (SegIs (if z1 = 0 then z2 else z1, []) w) := by
  have HM := hid_ (fun W (h : Ext w W) => tablesCheck_any t1 t2 z1 z2 W h1 h2 (fun W' h' => C1 W' (h.trans h')) (fun W' h' => C2 W' (h.trans h')))
  have hsz := hid_ (tblsWhole h1 h2)
  generalize (if z1 = 0 then z2 else z1) = R at *
  generalize (t1 ++ t2).toArray = tt at *
  have hxb : (R != 0) = true := by simpa using hne
  have HNE := hid_ hne
  clear C1 C2 hne h1 h2
  go_enter Tryd.func13, Tryd.ntmps13
  go_wp2_with (first
    | (show wpList _ _ _ (⟨some 2, _, _, _, _, _⟩ :: _) _ _; refine wpList_box_abs rfl 34 (.tmp 0) rfl tt rfl ?_; intro w1 g hb1 hx1 hg1)
    | (show wpList _ _ _ (⟨some 19, _, _, _, _, _⟩ :: _) _ _; refine wpList_load_blk rfl 34 (.tmp 2) rfl g rfl hb1 _ Tryd.underlying34 rfl 34 sizeTbls hsz.out ?_)
    | (go_at_call 29; (with_reducible refine (HM.out _ hx1).mono ?_); rintro e w2 ⟨rfl, hx2⟩))
  refine bodyPost_ret (results_tmp2 rfl _ _ _) rfl ?_
  refine ⟨hx1.trans hx2, ?_⟩
  rw [if_neg HNE.out]
  rfl
set_option maxRecDepth 20000 in
set_option maxHeartbeats 8000000 in
theorem rsegEnc_goodF (cs1 xs1 cs2 xs2 : List Int) (s1 s2 : Value) (A : Option Addr) (n c : Nat) (Z : List Int) (hZ : Z.length = n * 64) (w : World) (hs : SL w 64 (.slice A n c) n (ints Z)) (l1 : cs1.length = 16) (l2 : cs2.length = 16)
    (hs1 : SL w 1 s1 xs1.length (ints xs1)) (hs2 : SL w 1 s2 xs2.length (ints xs2)) (z1 : checkZ cs1 xs1 = 0) (z2 : checkZ cs2 xs2 = 0) :
    Calls Tryd.prog 13 #[.agg (tblL cs1 s1 ++ tblL cs2 s2).toArray, .slice A n c] w (SegIsF (segR (zipC (codesW cs1 16) xs1) (zipC (codesW cs2 16) xs2) n Z) w) := by
  have h1 := tblL_len cs1 s1 l1
  have h2 := tblL_len cs2 s2 l2
  have HM := hid_ (fun W (h : Ext w W) => tablesCheck_any (tblL cs1 s1) (tblL cs2 s2) 0 0 W h1 h2 (fun W' h' => by have := rcheck_any cs1 xs1 s1 W' l1 ((hs1.ext h).ext h'); rw [z1] at this; exact this) (fun W' h' => by have := rcheck_any cs2 xs2 s2 W' l2 ((hs2.ext h).ext h'); rw [z2] at this; exact this))
  rw [if_pos rfl] at HM
  have hsz := hid_ (tblsWhole h1 h2)
  have HW1 := hid_ (fun W s (h : Ext w W) => wordOf_any cs1 xs1 s1 s W l1 (hs1.ext h) z1)
  have HW2 := hid_ (fun W s (h : Ext w W) => wordOf_any cs2 xs2 s2 s W l2 (hs2.ext h) z2)
  have f1 := fitT_of cs1 xs1 l1 z1
  have f2 := fitT_of cs2 xs2 l2 z2
  have hbd := encZ_bd f1 f2 n Z
  have HRU := hid_ (fun W g (hb : Blk W g 34 (tblL cs1 s1 ++ tblL cs2 s2).toArray) => range_two h1 hb)
  have HBC := hid_ (fun W (h : Ext w W) => blocksCheck_any A n c Z hZ W (hs.ext h))
  have HO1 := hid_ (tblL_oneS cs1 s1 hs1)
  have HO2 := hid_ (tblL_oneS cs2 s2 hs2)
  have HT1 : Hid ((tblL cs1 s1).toArray.size = 17) := hid_ (by simpa using h1)
  have HT2 : Hid ((tblL cs2 s2).toArray.size = 17) := hid_ (by simpa using h2)
  have HL1 := hid_ h1
  have HL2 := hid_ h2
  have hz17 : Hid ((ints (List.replicate 16 0) ++ [Value.slice none 0 0]).toArray.size = 17) := hid_ (by simp [ints])
  simp only [tblv_tblL] at HW1 HW2
  generalize tblL cs1 s1 = tA at *
  generalize tblL cs2 s2 = tB at *
  generalize (tA ++ tB).toArray = tt at *
  generalize zipC (codesW cs1 16) xs1 = T1 at *
  generalize zipC (codesW cs2 16) xs2 = T2 at *
  unfold segR
  have hnc : n ≤ c ∧ c ≤ 9223372036854775807 := by
    obtain ⟨A', c', e, q1, q2, -, -⟩ := hs
    injection e with e1 e2 e3
    omega
  obtain ⟨hnc, hcc⟩ := hnc
  have HF1 := hid_ f1
  have HF2 := hid_ f2
  clear z1 z2 l1 l2 hs1 hs2 h1 h2 f1 f2
  by_cases hbe : blocksE n Z = 0
  · obtain ⟨hn4, hal, heq⟩ := blocksE_zero (encStep T1 T2) n Z [] hbe
    rw [heq] at hbd ⊢
    rw [hbe] at HBC
    obtain ⟨R, hR⟩ : ∃ R, eatGo (encStep T1 T2) (flagsAt Z n 0) [] = R := ⟨_, rfl⟩
    have HR0 := hid_ hR
    rw [hR] at hbd ⊢
    have HBD := hid_ hbd
    have HP : Hid (∀ j, j < n → allIn (blkAt Z j) (-2047) 2047 = true) := hid_ ((blkAt_in Z n hZ).1 hal)
    have HZ := hid_ hZ
    have HS := hid_ hs
    clear hR hal hZ heq hbe hbd hs
    have HAL := hid_ (show (Tryd.prog.info? 43).bind (·.zero) = some (.agg (bv (List.replicate 64 0))) from zero48)
    have hz0 := hid_ (show (Value.agg (bv (List.replicate 64 0))).cells.size = 64 by rw [show (Value.agg (bv (List.replicate 64 0))).cells = bv (List.replicate 64 0) from rfl, bv_size]; rfl)
    generalize bv (List.replicate 64 0) = cz at *
    go_enter Tryd.func13, Tryd.ntmps13
    go_wp2_with (first
      | (show wpList _ _ _ (⟨some 2, _, _, _, _, _⟩ :: _) _ _; refine wpList_box_abs rfl 34 (.tmp 0) rfl tt rfl ?_; intro w1 g hb1 hx1 hg1)
      | (show wpList _ _ _ (⟨some 19, _, _, _, _, _⟩ :: _) _ _; refine wpList_load_blk rfl 34 (.tmp 2) rfl g rfl hb1 _ Tryd.underlying34 rfl 34 sizeTbls hsz.out ?_)
      | (go_at_call 29; (with_reducible refine (HM.out _ hx1).mono ?_); rintro e w2 ⟨rfl, hx2⟩; have hx2' := hx1.trans hx2)
      | (go_at_call 30; (with_reducible refine (HBC.out _ hx2').mono ?_); rintro e w3 ⟨rfl, hx3⟩; have hx3' := hx2'.trans hx3)
      | (show wpList _ _ _ (⟨some 8, _, _, _, _, _⟩ :: _) _ _; refine wpList_alloc_abs' rfl (some 8) rfl 71 rfl _ zeroBld ?_; intro w4 b hb4 hx4 hg4))
    have hbb : w.heap.size ≤ b := Nat.le_trans hx3'.size hg4
    have hB0 := BldS.new w4 b hb4
    have hg0 := ((hb1.ext hx2).ext hx3).ext hx4
    have hxw := hx3'.trans hx4
    have HBB := hid_ hbb
    clear hb1 hx1 hg1 hx2 hx2' hx3 hx3' hb4 hx4 hg4 hbb
    obtain ⟨wo, rfl⟩ : ∃ wo : World, wo = w4 := ⟨_, rfl⟩
    go_loopw [31] (fun i wr => ∃ (k : Nat) (L : List Bool) (r : Option Nat), k ≤ n ∧ i = .int .i64 (k : Int) ∧ BldS wr b L r ∧ Blk wr g 34 tt ∧ Ext w wr ∧ Hid (eatGo (encStep T1 T2) (flagsAt Z n k) L = R)) (fun i _ => n - (intOf i).toNat)
    case atStart => exact ⟨0, [], none, by omega, rfl, hB0, hg0, hxw, HR0⟩
    case round =>
      clear hB0 hg0 hxw HR0
      obtain ⟨k, L, r, hk, rfl, hB, hgT, hx, HR⟩ := hrel
      have hbw := hB.lt
      by_cases hlt : k < n
      · obtain ⟨ad, rfl, hab, hca⟩ := (HS.out.ext hx).part hlt
        have hbl := blkAt_len Z n k HZ.out hlt
        have e : ((ints Z).drop (k * 64)).take 64 = ints (blkAt Z k) := by unfold blkAt; simp [ints, List.map_drop, List.map_take]
        rw [e] at hca
        clear e
        have HCA := hid_ hca
        have HB := hid_ hbl
        have HSZ := hid_ (show (bv (blkAt Z k)).size = 64 by rw [bv_size]; exact hbl)
        have HOB := hid_ (bv_one (blkAt Z k))
        have HBV := hid_ (bv_out (blkAt Z k))
        have hal := HP.out k hlt
        have hzh := getD_inZ hal 0 (by omega) (by omega)
        rw [← zto_head] at hzh
        have hbf := befAt_in (Z := Z) (k := k) (fun j hj => HP.out j (by omega))
        have HT := hid_ (fun W => rtokens_own (befAt Z k) (blkAt Z k) W HB.out hbf.1 hbf.2 hal hzh.1 hzh.2)
        rw [← toksAt_out] at HT
        have HWF : Hid (∀ t ∈ toksAt Z k, tokWf t) := hid_ (by rw [toksAt_out]; exact tokensZ_wf _ _ (zto_len _))
        have HR1 : Hid (eatGo (encStep T1 T2) ((flagT (toksAt Z k)).drop 0 ++ flagsAt Z n (k + 1)) L = R) := hid_ (by rw [List.drop_zero, ← flagsAt_succ Z n k hlt]; exact HR.out)
        obtain ⟨T, hT⟩ : ∃ T, T = toksAt Z k := ⟨_, rfl⟩
        rw [← hT] at HT HWF HR1
        obtain ⟨m, hm⟩ : ∃ m, T.length = m := ⟨_, rfl⟩
        have HM2 := hid_ hm
        rw [hm] at HT
        clear hT hm hca hbl hal hzh hbf HR
        by_cases hk0 : k = 0
        · have HB0 : Hid (befAt Z k = 0) := hid_ (by rw [hk0, befAt_0])
          rw [HB0.out] at HT
          have HKB : Hid (decide ((0 : Int) < (k : Int)) = false) := hid_ (by rw [decide_eq_false]; omega)
          clear hk0
          go_wp2_with (first
            | (show wpList _ _ _ (⟨some 37, _, _, _, _, _⟩ :: _) _ _; refine wl_run rfl _ (ex_gtr rfl rfl rfl HKB.out) ?_)
            | (show wpList _ _ _ (⟨some 35, _, _, _, _, _⟩ :: _) _ _; refine wpList_load_any (by rfl) 43 (.tmp 34) rfl (ad.add (k * 64)) rfl (ints (blkAt Z k)) _ HCA.out Tryd.underlying43 rfl (by rw [ints_len, HB.out]; exact size48) ?_; rw [HBV.out])
            | (show wpList _ _ _ (⟨some 10, _, _, _, _, _⟩ :: _) _ _; refine wpList_alloc_abs' rfl (some 10) rfl 43 rfl _ HAL.out ?_; intro w1 g1 hb1 hx1 hg1)
            | (show wpList _ _ _ (⟨none, .store _ (.tmp 10) (.tmp 35), _, _, _, _⟩ :: _) _ _; refine wpList_store_blk rfl 43 (.tmp 10) (.tmp 35) rfl _ _ rfl rfl hb1 64 size48 HSZ.out hz0.out HOB.out ?_; intro w2 hb2 hg2; have hx2 := hx1.grown hg2 hg1)
            | (show wpList _ _ _ (⟨some 46, _, _, _, _, _⟩ :: _) _ _; refine wpList_load_blk rfl 43 (.tmp 10) rfl g1 rfl hb2 _ Tryd.underlying43 rfl 64 size48 HSZ.out ?_)
            | (go_at_call 31; (with_reducible refine (HT.out _).mono ?_); rintro e w3 ⟨D, d, rfl, ho3, hx3⟩))
          have hx3' : Ext wr w3 := hx2.trans hx3
          have hB3 := hB.ext hx3'
          have hg3 := hgT.ext hx3'
          have hxw := hx.trans hx3'
          have ho3' := own_lower ho3 hx2.size
          have hs3c := own_out' ho3
          obtain ⟨D', d'', he3, hmd, hd2, -, -⟩ := hs3c.1
          injection he3 with q1 q2 q3
          subst q1 q3
          have hm1 : m ≤ 9223372036854775807 := by omega
          clear hx hB hgT hbw hb1 hx1 hg1 hb2 hg2 hx2 hx3 hx3' q2 HT HCA HB HSZ HOB HBV hs3c
          go_loopw [52] (fun i wi => ∃ (j : Nat) (p : List Bool) (r : Option Nat), j ≤ m ∧ i = .int .i64 (j : Int) ∧ BldS wi b p r ∧ Blk wi g 34 tt ∧ Ext w wi ∧ wi.ownsRow wr.heap.size 60 3 (.slice D m d) m (toks T) ∧ Hid (eatGo (encStep T1 T2) ((flagT T).drop j ++ flagsAt Z n (k + 1)) p = R)) (fun i _ => m - (intOf i).toNat)
          case atStart => exact ⟨0, L, r, by omega, rfl, hB3, hg3, hxw, ho3', HR1⟩
          case round =>
            clear hB3 hg3 hxw ho3 ho3' HR1
            obtain ⟨wo2, rfl⟩ : ∃ wo2 : World, wo2 = w3 := ⟨_, rfl⟩
            obtain ⟨j, p, r, hj, rfl, hB, hgT, hx, hot, HR⟩ := hrel
            by_cases hlj : j < m
            · obtain ⟨td, rfl, htb, htc⟩ := (own_out' hot).1.part hlj
              have hjT : j < T.length := by rw [HM2.out]; exact hlj
              rw [toks_part T j hjT] at htc
              have HTC := hid_ htc
              have HRj : Hid (eatGo (encStep T1 T2) ((T[j], j == 0) :: ((flagT T).drop (j + 1) ++ flagsAt Z n (k + 1))) p = R) := hid_ (by have := HR.out; rw [flagT_drop T j hjT, List.cons_append] at this; exact this)
              have hwf := HWF.out T[j] (List.getElem_mem hjT)
              have hsl := (own_out' hot).2
              obtain ⟨cst, hty⟩ := own_typed hot td.block rfl
              have HTY := hid_ hty
              generalize T[j] = t at *
              obtain ⟨t1, t2, t3⟩ := t
              obtain ⟨w1', w2', w3', w4', w5', w6'⟩ := hwf
              dsimp only at w1' w2' w3' w4' w5' w6'
              obtain ⟨wd, hwd⟩ : ∃ q : Nat, t2 = (q : Int) := ⟨t2.toNat, by omega⟩
              obtain ⟨vl, hvl⟩ : ∃ q : Nat, t3 = (q : Int) := ⟨t3.toNat, by omega⟩
              subst hwd hvl
              have hv2 : vl < 2 ^ wd := by rw [Int.toNat_natCast] at w6'; exact_mod_cast w6'
              have hv3 : vl < 4096 := Nat.lt_of_lt_of_le hv2 (by have := Nat.pow_le_pow_right (n := 2) (by omega) (show wd ≤ 12 by omega); simpa using this)
              have hgt := bld_ne (w := wr) hgT hB types_apart.1 types_apart.2.1
              have htt := bld_ne (w := wr) hty hB types_apart.2.2.1 types_apart.2.2.2
              have HGT := hid_ hgt
              have HTT := hid_ htt
              have hblt := hB.lt
              clear htc HR hty hsl
              by_cases hj0 : j = 0
              · have HJB : Hid (decide ((j : Int) = 0) = true) := hid_ (by rw [decide_eq_true]; omega)
                rw [show (j == 0) = true by simp [hj0]] at HRj
                clear hj0
                cases hf : findT T1 t1 with
                | none =>
                  have HF := hid_ (show (findT T1 t1).isSome = false by rw [hf]; rfl)
                  have HRE : Hid (R = (5, p)) := hid_ (by rw [← HRj.out, eatGo_err (by unfold encStep; simp [hf])]; unfold encStep; simp [hf])
                  clear hf
                  go_wp2_with (first
                      | (show wpList _ _ _ (⟨some 56, _, _, _, _, _⟩ :: _) _ _; refine wpList_load_any (by rfl) 60 (.tmp 55) rfl (td.add (j * 3)) rfl (tokv (t1, (wd : Int), (vl : Int))) _ HTC.out Tryd.underlying60 rfl size74 ?_)
                      | (show wpList _ _ _ (⟨some 15, _, _, _, _, _⟩ :: _) _ _; refine wpList_alloc_abs' rfl (some 15) rfl 60 rfl (.agg (tokv (0, 0, 0)).toArray) (by kernel_rfl) ?_; intro w4 g15 hb4 hx4 hg4)
                      | (show wpList _ _ _ (⟨none, .store _ (.tmp 15) (.tmp 56), _, _, _, _⟩ :: _) _ _; refine wpList_store_blk rfl 60 (.tmp 15) (.tmp 56) rfl _ _ rfl rfl hb4 3 sizeTok rfl rfl (tok_oneA _) ?_; intro w5 hb5 hg5; have hx5 : Ext wr w5 := hx4.grown hg5 hg4; have hr5 := HRU.out _ _ (hgT.ext hx5))
                      | (show wpList _ _ _ (⟨some 58, _, _, _, _, _⟩ :: _) _ _; refine wpList_load_mid rfl 32 (.tmp 57) rfl g 17 rfl tB _ hr5.2 Tryd.underlying32 rfl (by rw [HL2.out]; exact sizeTbl) ?_)
                      | (show wpList _ _ _ (⟨some 16, _, _, _, _, _⟩ :: _) _ _; refine wpList_alloc_abs' rfl (some 16) rfl 32 rfl _ zeroTbl ?_; intro w6 g16 hb6 hx6 hg6)
                      | (show wpList _ _ _ (⟨none, .store _ (.tmp 16) (.tmp 58), _, _, _, _⟩ :: _) _ _; refine wpList_store_blk rfl 32 (.tmp 16) (.tmp 58) rfl _ _ rfl rfl hb6 17 sizeTbl HT2.out hz17.out HO2.out ?_; intro w7 hb7 hg7; have hx7 : Ext w5 w7 := hx6.grown hg7 hg6; have hx57 := hx5.trans hx7; have hr7 := HRU.out _ _ (hgT.ext hx57))
                      | (show wpList _ _ _ (⟨some 60, _, _, _, _, _⟩ :: _) _ _; refine wl_run rfl _ (ex_eql rfl rfl rfl HJB.out) ?_)
                      | (show wpList _ _ _ (⟨some 62, _, _, _, _, _⟩ :: _) _ _; refine wpList_load_mid rfl 32 (.tmp 61) rfl g 0 rfl tA _ hr7.1 Tryd.underlying32 rfl (by rw [HL1.out]; exact sizeTbl) ?_)
                      | (show wpList _ _ _ (⟨none, .store _ (.tmp 16) (.tmp 62), _, _, _, _⟩ :: _) _ _; refine wpList_store_blk rfl 32 (.tmp 16) (.tmp 62) rfl _ _ rfl rfl hb7 17 sizeTbl HT1.out HT2.out HO1.out ?_; intro w8 hb8 hg8; have hx8 : Ext w5 w8 := hx7.grown hg8 hg6; have hx58 := hx5.trans hx8)
                      | (show wpList _ _ _ (⟨some 64, _, _, _, _, _⟩ :: _) _ _; refine wpList_load_blk rfl 32 (.tmp 16) rfl g16 rfl hb8 _ Tryd.underlying32 rfl 17 sizeTbl HT1.out ?_; have hb15 := (hb5.ext hx8); have p0 : w8.cell? ⟨g15, 0, none⟩ = some (.int .i64 t1) := hb15.cell 0)
                      | (go_at_call 32; (with_reducible refine (HW1.out _ t1 (hx.trans hx58)).mono ?_); rintro e w9 ⟨rfl, hx9⟩; rw [HF.out]; have hx19 := (hx58).trans hx9; have hb9 := hb15.ext hx9; have p1 : w9.cell? ⟨g15, 1, none⟩ = some (.int .i64 (wd : Int)) := hb9.cell 1; have p2 : w9.cell? ⟨g15, 2, none⟩ = some (.int .i64 (vl : Int)) := hb9.cell 2))
                  refine bodyPost_ret (results_tmp2 rfl _ _ _) rfl ?_
                  refine ⟨hx.trans hx19, ?_⟩
                  rw [HRE.out, if_neg (show ¬ (5 : Int) = 0 by decide)]
                  rfl
                | some u =>
                  have HF := hid_ (show (findT T1 t1).isSome = true by rw [hf]; rfl)
                  have HSA := hid_ (show (strB (bitsT T1 t1)).size ≤ 1000000 by rw [strB_size]; have := bitsT_len HF1.out t1; omega)
                  have HSB := hid_ (show (strB (digs vl wd)).size ≤ 1000000 by rw [strB_size, digs_len]; omega)
                  have hst : encStep T1 T2 p (t1, (wd : Int), (vl : Int)) true = (0, p ++ bitsT T1 t1 ++ digs vl wd) := by unfold encStep; simp [hf]
                  have HRn : Hid (eatGo (encStep T1 T2) ((flagT T).drop (j + 1) ++ flagsAt Z n (k + 1)) (p ++ (bitsT T1 t1 ++ digs vl wd)) = R) := hid_ (by have h := HRj.out; rw [eatGo_ok (by rw [hst])] at h; rw [hst] at h; rw [← List.append_assoc]; exact h)
                  have hlb : (p ++ (bitsT T1 t1 ++ digs vl wd)).length ≤ 1000000000 := by
                    have h1 := encGo_len T1 T2 ((flagT T).drop (j + 1) ++ flagsAt Z n (k + 1)) (p ++ (bitsT T1 t1 ++ digs vl wd))
                    rw [HRn.out] at h1
                    exact Nat.le_trans h1 HBD.out
                  rw [List.length_append] at hlb
                  have HWS := hid_ (fun W (h : BldS W b p r) => writeString_any b p (bitsT T1 t1 ++ digs vl wd) r W h (by omega))
                  clear hf hst hlb
                  go_wp2_with (first
                      | (show wpList _ _ _ (⟨some 56, _, _, _, _, _⟩ :: _) _ _; refine wpList_load_any (by rfl) 60 (.tmp 55) rfl (td.add (j * 3)) rfl (tokv (t1, (wd : Int), (vl : Int))) _ HTC.out Tryd.underlying60 rfl size74 ?_)
                      | (show wpList _ _ _ (⟨some 15, _, _, _, _, _⟩ :: _) _ _; refine wpList_alloc_abs' rfl (some 15) rfl 60 rfl (.agg (tokv (0, 0, 0)).toArray) (by kernel_rfl) ?_; intro w4 g15 hb4 hx4 hg4)
                      | (show wpList _ _ _ (⟨none, .store _ (.tmp 15) (.tmp 56), _, _, _, _⟩ :: _) _ _; refine wpList_store_blk rfl 60 (.tmp 15) (.tmp 56) rfl _ _ rfl rfl hb4 3 sizeTok rfl rfl (tok_oneA _) ?_; intro w5 hb5 hg5; have hx5 : Ext wr w5 := hx4.grown hg5 hg4; have hr5 := HRU.out _ _ (hgT.ext hx5))
                      | (show wpList _ _ _ (⟨some 58, _, _, _, _, _⟩ :: _) _ _; refine wpList_load_mid rfl 32 (.tmp 57) rfl g 17 rfl tB _ hr5.2 Tryd.underlying32 rfl (by rw [HL2.out]; exact sizeTbl) ?_)
                      | (show wpList _ _ _ (⟨some 16, _, _, _, _, _⟩ :: _) _ _; refine wpList_alloc_abs' rfl (some 16) rfl 32 rfl _ zeroTbl ?_; intro w6 g16 hb6 hx6 hg6)
                      | (show wpList _ _ _ (⟨none, .store _ (.tmp 16) (.tmp 58), _, _, _, _⟩ :: _) _ _; refine wpList_store_blk rfl 32 (.tmp 16) (.tmp 58) rfl _ _ rfl rfl hb6 17 sizeTbl HT2.out hz17.out HO2.out ?_; intro w7 hb7 hg7; have hx7 : Ext w5 w7 := hx6.grown hg7 hg6; have hx57 := hx5.trans hx7; have hr7 := HRU.out _ _ (hgT.ext hx57))
                      | (show wpList _ _ _ (⟨some 60, _, _, _, _, _⟩ :: _) _ _; refine wl_run rfl _ (ex_eql rfl rfl rfl HJB.out) ?_)
                      | (show wpList _ _ _ (⟨some 62, _, _, _, _, _⟩ :: _) _ _; refine wpList_load_mid rfl 32 (.tmp 61) rfl g 0 rfl tA _ hr7.1 Tryd.underlying32 rfl (by rw [HL1.out]; exact sizeTbl) ?_)
                      | (show wpList _ _ _ (⟨none, .store _ (.tmp 16) (.tmp 62), _, _, _, _⟩ :: _) _ _; refine wpList_store_blk rfl 32 (.tmp 16) (.tmp 62) rfl _ _ rfl rfl hb7 17 sizeTbl HT1.out HT2.out HO1.out ?_; intro w8 hb8 hg8; have hx8 : Ext w5 w8 := hx7.grown hg8 hg6; have hx58 := hx5.trans hx8)
                      | (show wpList _ _ _ (⟨some 64, _, _, _, _, _⟩ :: _) _ _; refine wpList_load_blk rfl 32 (.tmp 16) rfl g16 rfl hb8 _ Tryd.underlying32 rfl 17 sizeTbl HT1.out ?_; have hb15 := (hb5.ext hx8); have p0 : w8.cell? ⟨g15, 0, none⟩ = some (.int .i64 t1) := hb15.cell 0)
                      | (go_at_call 32; (with_reducible refine (HW1.out _ t1 (hx.trans hx58)).mono ?_); rintro e w9 ⟨rfl, hx9⟩; rw [HF.out]; have hx19 := (hx58).trans hx9; have hb9 := hb15.ext hx9; have p1 : w9.cell? ⟨g15, 1, none⟩ = some (.int .i64 (wd : Int)) := hb9.cell 1; have p2 : w9.cell? ⟨g15, 2, none⟩ = some (.int .i64 (vl : Int)) := hb9.cell 2)
                      | (go_at_call 34; (with_reducible refine (binary_any wd vl _ (by omega) (by omega)).mono ?_); rintro e w10 ⟨rfl, rfl⟩; rw [binS_strB])
                      | (show wpList _ _ _ (⟨some 78, _, _, _, _, _⟩ :: _) _ _; refine wl_run rfl _ (ex_strAdd rfl rfl rfl HSA.out HSB.out) ?_)
                      | (go_at_call 33; go_must (rw [← strB_append]; (with_reducible refine (HWS.out _ (hB.ext hx19)).mono ?_); rintro e w11 ⟨rfl, r11, hB11, hu11⟩)))
                  go_roundw
                  case rel =>
                    have hB9 := hB.ext hx19
                    have hu := hu11
                    refine ⟨j + 1, _, r11, by omega, by go_num, hB11, hu.blk (hgT.ext hx19) HGT.out, hu.ext (hx.trans hx19) (fun y e => ?_), own_upd2 (own_keep hot hx19) hu (fun y e => ?_), HRn⟩
                    · rcases e with e | e
                      · rw [e]; exact HBB.out
                      · have := (hB.row y e).1; have := HBB.out; omega
                    · have : td.block = y := by simpa [Value.ownBlock] using e
                      subst this
                      exact HTT.out
                  case measure => simp [intOf]; omega
              · have HJB : Hid (decide ((j : Int) = 0) = false) := hid_ (by rw [decide_eq_false]; omega)
                rw [show (j == 0) = false by simp [hj0]] at HRj
                clear hj0
                cases hf : findT T2 t1 with
                | none =>
                  have HF := hid_ (show (findT T2 t1).isSome = false by rw [hf]; rfl)
                  have HRE : Hid (R = (5, p)) := hid_ (by rw [← HRj.out, eatGo_err (by unfold encStep; simp [hf])]; unfold encStep; simp [hf])
                  clear hf
                  go_wp2_with (first
                      | (show wpList _ _ _ (⟨some 56, _, _, _, _, _⟩ :: _) _ _; refine wpList_load_any (by rfl) 60 (.tmp 55) rfl (td.add (j * 3)) rfl (tokv (t1, (wd : Int), (vl : Int))) _ HTC.out Tryd.underlying60 rfl size74 ?_)
                      | (show wpList _ _ _ (⟨some 15, _, _, _, _, _⟩ :: _) _ _; refine wpList_alloc_abs' rfl (some 15) rfl 60 rfl (.agg (tokv (0, 0, 0)).toArray) (by kernel_rfl) ?_; intro w4 g15 hb4 hx4 hg4)
                      | (show wpList _ _ _ (⟨none, .store _ (.tmp 15) (.tmp 56), _, _, _, _⟩ :: _) _ _; refine wpList_store_blk rfl 60 (.tmp 15) (.tmp 56) rfl _ _ rfl rfl hb4 3 sizeTok rfl rfl (tok_oneA _) ?_; intro w5 hb5 hg5; have hx5 : Ext wr w5 := hx4.grown hg5 hg4; have hr5 := HRU.out _ _ (hgT.ext hx5))
                      | (show wpList _ _ _ (⟨some 58, _, _, _, _, _⟩ :: _) _ _; refine wpList_load_mid rfl 32 (.tmp 57) rfl g 17 rfl tB _ hr5.2 Tryd.underlying32 rfl (by rw [HL2.out]; exact sizeTbl) ?_)
                      | (show wpList _ _ _ (⟨some 16, _, _, _, _, _⟩ :: _) _ _; refine wpList_alloc_abs' rfl (some 16) rfl 32 rfl _ zeroTbl ?_; intro w6 g16 hb6 hx6 hg6)
                      | (show wpList _ _ _ (⟨none, .store _ (.tmp 16) (.tmp 58), _, _, _, _⟩ :: _) _ _; refine wpList_store_blk rfl 32 (.tmp 16) (.tmp 58) rfl _ _ rfl rfl hb6 17 sizeTbl HT2.out hz17.out HO2.out ?_; intro w7 hb7 hg7; have hx7 : Ext w5 w7 := hx6.grown hg7 hg6; have hx57 := hx5.trans hx7; have hr7 := HRU.out _ _ (hgT.ext hx57))
                      | (show wpList _ _ _ (⟨some 60, _, _, _, _, _⟩ :: _) _ _; refine wl_run rfl _ (ex_eql rfl rfl rfl HJB.out) ?_)
                      | (show wpList _ _ _ (⟨some 64, _, _, _, _, _⟩ :: _) _ _; refine wpList_load_blk rfl 32 (.tmp 16) rfl g16 rfl hb7 _ Tryd.underlying32 rfl 17 sizeTbl HT2.out ?_; have hb15 := (hb5.ext hx7); have p0 : w7.cell? ⟨g15, 0, none⟩ = some (.int .i64 t1) := hb15.cell 0)
                      | (go_at_call 32; (with_reducible refine (HW2.out _ t1 (hx.trans hx57)).mono ?_); rintro e w9 ⟨rfl, hx9⟩; rw [HF.out]; have hx19 := (hx57).trans hx9; have hb9 := hb15.ext hx9; have p1 : w9.cell? ⟨g15, 1, none⟩ = some (.int .i64 (wd : Int)) := hb9.cell 1; have p2 : w9.cell? ⟨g15, 2, none⟩ = some (.int .i64 (vl : Int)) := hb9.cell 2))
                  refine bodyPost_ret (results_tmp2 rfl _ _ _) rfl ?_
                  refine ⟨hx.trans hx19, ?_⟩
                  rw [HRE.out, if_neg (show ¬ (5 : Int) = 0 by decide)]
                  rfl
                | some u =>
                  have HF := hid_ (show (findT T2 t1).isSome = true by rw [hf]; rfl)
                  have HSA := hid_ (show (strB (bitsT T2 t1)).size ≤ 1000000 by rw [strB_size]; have := bitsT_len HF2.out t1; omega)
                  have HSB := hid_ (show (strB (digs vl wd)).size ≤ 1000000 by rw [strB_size, digs_len]; omega)
                  have hst : encStep T1 T2 p (t1, (wd : Int), (vl : Int)) false = (0, p ++ bitsT T2 t1 ++ digs vl wd) := by unfold encStep; simp [hf]
                  have HRn : Hid (eatGo (encStep T1 T2) ((flagT T).drop (j + 1) ++ flagsAt Z n (k + 1)) (p ++ (bitsT T2 t1 ++ digs vl wd)) = R) := hid_ (by have h := HRj.out; rw [eatGo_ok (by rw [hst])] at h; rw [hst] at h; rw [← List.append_assoc]; exact h)
                  have hlb : (p ++ (bitsT T2 t1 ++ digs vl wd)).length ≤ 1000000000 := by
                    have h1 := encGo_len T1 T2 ((flagT T).drop (j + 1) ++ flagsAt Z n (k + 1)) (p ++ (bitsT T2 t1 ++ digs vl wd))
                    rw [HRn.out] at h1
                    exact Nat.le_trans h1 HBD.out
                  rw [List.length_append] at hlb
                  have HWS := hid_ (fun W (h : BldS W b p r) => writeString_any b p (bitsT T2 t1 ++ digs vl wd) r W h (by omega))
                  clear hf hst hlb
                  go_wp2_with (first
                      | (show wpList _ _ _ (⟨some 56, _, _, _, _, _⟩ :: _) _ _; refine wpList_load_any (by rfl) 60 (.tmp 55) rfl (td.add (j * 3)) rfl (tokv (t1, (wd : Int), (vl : Int))) _ HTC.out Tryd.underlying60 rfl size74 ?_)
                      | (show wpList _ _ _ (⟨some 15, _, _, _, _, _⟩ :: _) _ _; refine wpList_alloc_abs' rfl (some 15) rfl 60 rfl (.agg (tokv (0, 0, 0)).toArray) (by kernel_rfl) ?_; intro w4 g15 hb4 hx4 hg4)
                      | (show wpList _ _ _ (⟨none, .store _ (.tmp 15) (.tmp 56), _, _, _, _⟩ :: _) _ _; refine wpList_store_blk rfl 60 (.tmp 15) (.tmp 56) rfl _ _ rfl rfl hb4 3 sizeTok rfl rfl (tok_oneA _) ?_; intro w5 hb5 hg5; have hx5 : Ext wr w5 := hx4.grown hg5 hg4; have hr5 := HRU.out _ _ (hgT.ext hx5))
                      | (show wpList _ _ _ (⟨some 58, _, _, _, _, _⟩ :: _) _ _; refine wpList_load_mid rfl 32 (.tmp 57) rfl g 17 rfl tB _ hr5.2 Tryd.underlying32 rfl (by rw [HL2.out]; exact sizeTbl) ?_)
                      | (show wpList _ _ _ (⟨some 16, _, _, _, _, _⟩ :: _) _ _; refine wpList_alloc_abs' rfl (some 16) rfl 32 rfl _ zeroTbl ?_; intro w6 g16 hb6 hx6 hg6)
                      | (show wpList _ _ _ (⟨none, .store _ (.tmp 16) (.tmp 58), _, _, _, _⟩ :: _) _ _; refine wpList_store_blk rfl 32 (.tmp 16) (.tmp 58) rfl _ _ rfl rfl hb6 17 sizeTbl HT2.out hz17.out HO2.out ?_; intro w7 hb7 hg7; have hx7 : Ext w5 w7 := hx6.grown hg7 hg6; have hx57 := hx5.trans hx7; have hr7 := HRU.out _ _ (hgT.ext hx57))
                      | (show wpList _ _ _ (⟨some 60, _, _, _, _, _⟩ :: _) _ _; refine wl_run rfl _ (ex_eql rfl rfl rfl HJB.out) ?_)
                      | (show wpList _ _ _ (⟨some 64, _, _, _, _, _⟩ :: _) _ _; refine wpList_load_blk rfl 32 (.tmp 16) rfl g16 rfl hb7 _ Tryd.underlying32 rfl 17 sizeTbl HT2.out ?_; have hb15 := (hb5.ext hx7); have p0 : w7.cell? ⟨g15, 0, none⟩ = some (.int .i64 t1) := hb15.cell 0)
                      | (go_at_call 32; (with_reducible refine (HW2.out _ t1 (hx.trans hx57)).mono ?_); rintro e w9 ⟨rfl, hx9⟩; rw [HF.out]; have hx19 := (hx57).trans hx9; have hb9 := hb15.ext hx9; have p1 : w9.cell? ⟨g15, 1, none⟩ = some (.int .i64 (wd : Int)) := hb9.cell 1; have p2 : w9.cell? ⟨g15, 2, none⟩ = some (.int .i64 (vl : Int)) := hb9.cell 2)
                      | (go_at_call 34; (with_reducible refine (binary_any wd vl _ (by omega) (by omega)).mono ?_); rintro e w10 ⟨rfl, rfl⟩; rw [binS_strB])
                      | (show wpList _ _ _ (⟨some 78, _, _, _, _, _⟩ :: _) _ _; refine wl_run rfl _ (ex_strAdd rfl rfl rfl HSA.out HSB.out) ?_)
                      | (go_at_call 33; go_must (rw [← strB_append]; (with_reducible refine (HWS.out _ (hB.ext hx19)).mono ?_); rintro e w11 ⟨rfl, r11, hB11, hu11⟩)))
                  go_roundw
                  case rel =>
                    have hB9 := hB.ext hx19
                    have hu := hu11
                    refine ⟨j + 1, _, r11, by omega, by go_num, hB11, hu.blk (hgT.ext hx19) HGT.out, hu.ext (hx.trans hx19) (fun y e => ?_), own_upd2 (own_keep hot hx19) hu (fun y e => ?_), HRn⟩
                    · rcases e with e | e
                      · rw [e]; exact HBB.out
                      · have := (hB.row y e).1; have := HBB.out; omega
                    · have : td.block = y := by simpa [Value.ownBlock] using e
                      subst this
                      exact HTT.out
                  case measure => simp [intOf]; omega
            · have hjm : j = m := by omega
              have HRn : Hid (eatGo (encStep T1 T2) (flagsAt Z n (k + 1)) p = R) := hid_ (by have h := HR.out; rw [List.drop_eq_nil_of_le (by rw [flagT_len, HM2.out]; omega), List.nil_append] at h; exact h)
              go_wp2_with fail
              go_roundw
              case rel => exact ⟨k + 1, p, r, by omega, by go_num, hB, hgT, hx, HRn⟩
              case measure => simp [intOf]; omega
        · have HKB : Hid (decide ((0 : Int) < (k : Int)) = true) := hid_ (by rw [decide_eq_true]; omega)
          have hk1 : 1 ≤ k := by omega
          have HBS : Hid (befAt Z k = (blkAt Z (k - 1)).getD 0 0) := hid_ (by rw [← befAt_succ, show k - 1 + 1 = k by omega])
          have HPR : Hid (∃ ad', some ad = some ad' ∧ CellsAt wr (ad'.add ((k - 1) * 64)) (ints (blkAt Z (k - 1)))) := hid_ (by
            obtain ⟨ad', e1, -, h2⟩ := (HS.out.ext hx).part (k := k - 1) (by omega)
            have e : ((ints Z).drop ((k - 1) * 64)).take 64 = ints (blkAt Z (k - 1)) := by unfold blkAt; simp [ints, List.map_drop, List.map_take]
            rw [e] at h2
            exact ⟨ad', e1, h2⟩)
          have hcp : wr.cell? (ad.add ((k - 1) * 64)) = some (.int .i64 (befAt Z k)) := by
            obtain ⟨ad', e1, h2⟩ := HPR.out
            injection e1 with e1
            subst e1
            have hl1 := blkAt_len Z n (k - 1) HZ.out (by omega)
            have h3 := h2 0 (.int .i64 (befAt Z k)) (by rw [HBS.out]; exact ints_headE _ (by omega))
            exact h3
          have HCP := hid_ hcp
          clear hcp HPR HBS
          generalize befAt Z k = bf at *
          clear hk0
          go_wp2_with (first
            | (show wpList _ _ _ (⟨some 37, _, _, _, _, _⟩ :: _) _ _; refine wl_run rfl _ (ex_gtr rfl rfl rfl HKB.out) ?_)
            | (show wpList _ _ _ (⟨some 35, _, _, _, _, _⟩ :: _) _ _; refine wpList_load_any (by rfl) 43 (.tmp 34) rfl (ad.add (k * 64)) rfl (ints (blkAt Z k)) _ HCA.out Tryd.underlying43 rfl (by rw [ints_len, HB.out]; exact size48) ?_; rw [HBV.out])
            | (show wpList _ _ _ (⟨some 10, _, _, _, _, _⟩ :: _) _ _; refine wpList_alloc_abs' rfl (some 10) rfl 43 rfl _ HAL.out ?_; intro w1 g1 hb1 hx1 hg1)
            | (show wpList _ _ _ (⟨none, .store _ (.tmp 10) (.tmp 35), _, _, _, _⟩ :: _) _ _; refine wpList_store_blk rfl 43 (.tmp 10) (.tmp 35) rfl _ _ rfl rfl hb1 64 size48 HSZ.out hz0.out HOB.out ?_; intro w2 hb2 hg2; have hx2 := hx1.grown hg2 hg1; have hcp2 : w2.cell? (ad.add ((k - 1) * 64)) = some (.int .i64 bf) := cellAt_extE hx2 hab HCP.out)
            | (show wpList _ _ _ (⟨some 40, _, _, _, _, _⟩ :: _) _ _; refine wl_run rfl (.int .i64 ((k - 1 : Nat) : Int)) (ex_bin rfl rfl rfl (run_subN k 1 (by omega) (by omega))) ?_)
            | (show wpList _ _ _ (⟨some 43, _, _, _, _, _⟩ :: _) _ _; refine wl_read rfl (.int .i64 bf) (ex_loadI rfl rfl hcp2) ?_)
            | (show wpList _ _ _ (⟨some 46, _, _, _, _, _⟩ :: _) _ _; refine wpList_load_blk rfl 43 (.tmp 10) rfl g1 rfl hb2 _ Tryd.underlying43 rfl 64 size48 HSZ.out ?_)
            | (go_at_call 31; (with_reducible refine (HT.out _).mono ?_); rintro e w3 ⟨D, d, rfl, ho3, hx3⟩))
          have hx3' : Ext wr w3 := hx2.trans hx3
          have hB3 := hB.ext hx3'
          have hg3 := hgT.ext hx3'
          have hxw := hx.trans hx3'
          have ho3' := own_lower ho3 hx2.size
          have hs3c := own_out' ho3
          obtain ⟨D', d'', he3, hmd, hd2, -, -⟩ := hs3c.1
          injection he3 with q1 q2 q3
          subst q1 q3
          have hm1 : m ≤ 9223372036854775807 := by omega
          clear hx hB hgT hbw hb1 hx1 hg1 hb2 hg2 hx2 hx3 hx3' q2 HT HCA HB HSZ HOB HBV hs3c
          go_loopw [52] (fun i wi => ∃ (j : Nat) (p : List Bool) (r : Option Nat), j ≤ m ∧ i = .int .i64 (j : Int) ∧ BldS wi b p r ∧ Blk wi g 34 tt ∧ Ext w wi ∧ wi.ownsRow wr.heap.size 60 3 (.slice D m d) m (toks T) ∧ Hid (eatGo (encStep T1 T2) ((flagT T).drop j ++ flagsAt Z n (k + 1)) p = R)) (fun i _ => m - (intOf i).toNat)
          case atStart => exact ⟨0, L, r, by omega, rfl, hB3, hg3, hxw, ho3', HR1⟩
          case round =>
            clear hB3 hg3 hxw ho3 ho3' HR1
            obtain ⟨wo2, rfl⟩ : ∃ wo2 : World, wo2 = w3 := ⟨_, rfl⟩
            obtain ⟨j, p, r, hj, rfl, hB, hgT, hx, hot, HR⟩ := hrel
            by_cases hlj : j < m
            · obtain ⟨td, rfl, htb, htc⟩ := (own_out' hot).1.part hlj
              have hjT : j < T.length := by rw [HM2.out]; exact hlj
              rw [toks_part T j hjT] at htc
              have HTC := hid_ htc
              have HRj : Hid (eatGo (encStep T1 T2) ((T[j], j == 0) :: ((flagT T).drop (j + 1) ++ flagsAt Z n (k + 1))) p = R) := hid_ (by have := HR.out; rw [flagT_drop T j hjT, List.cons_append] at this; exact this)
              have hwf := HWF.out T[j] (List.getElem_mem hjT)
              have hsl := (own_out' hot).2
              obtain ⟨cst, hty⟩ := own_typed hot td.block rfl
              have HTY := hid_ hty
              generalize T[j] = t at *
              obtain ⟨t1, t2, t3⟩ := t
              obtain ⟨w1', w2', w3', w4', w5', w6'⟩ := hwf
              dsimp only at w1' w2' w3' w4' w5' w6'
              obtain ⟨wd, hwd⟩ : ∃ q : Nat, t2 = (q : Int) := ⟨t2.toNat, by omega⟩
              obtain ⟨vl, hvl⟩ : ∃ q : Nat, t3 = (q : Int) := ⟨t3.toNat, by omega⟩
              subst hwd hvl
              have hv2 : vl < 2 ^ wd := by rw [Int.toNat_natCast] at w6'; exact_mod_cast w6'
              have hv3 : vl < 4096 := Nat.lt_of_lt_of_le hv2 (by have := Nat.pow_le_pow_right (n := 2) (by omega) (show wd ≤ 12 by omega); simpa using this)
              have hgt := bld_ne (w := wr) hgT hB types_apart.1 types_apart.2.1
              have htt := bld_ne (w := wr) hty hB types_apart.2.2.1 types_apart.2.2.2
              have HGT := hid_ hgt
              have HTT := hid_ htt
              have hblt := hB.lt
              clear htc HR hty hsl
              by_cases hj0 : j = 0
              · have HJB : Hid (decide ((j : Int) = 0) = true) := hid_ (by rw [decide_eq_true]; omega)
                rw [show (j == 0) = true by simp [hj0]] at HRj
                clear hj0
                cases hf : findT T1 t1 with
                | none =>
                  have HF := hid_ (show (findT T1 t1).isSome = false by rw [hf]; rfl)
                  have HRE : Hid (R = (5, p)) := hid_ (by rw [← HRj.out, eatGo_err (by unfold encStep; simp [hf])]; unfold encStep; simp [hf])
                  clear hf
                  go_wp2_with (first
                      | (show wpList _ _ _ (⟨some 56, _, _, _, _, _⟩ :: _) _ _; refine wpList_load_any (by rfl) 60 (.tmp 55) rfl (td.add (j * 3)) rfl (tokv (t1, (wd : Int), (vl : Int))) _ HTC.out Tryd.underlying60 rfl size74 ?_)
                      | (show wpList _ _ _ (⟨some 15, _, _, _, _, _⟩ :: _) _ _; refine wpList_alloc_abs' rfl (some 15) rfl 60 rfl (.agg (tokv (0, 0, 0)).toArray) (by kernel_rfl) ?_; intro w4 g15 hb4 hx4 hg4)
                      | (show wpList _ _ _ (⟨none, .store _ (.tmp 15) (.tmp 56), _, _, _, _⟩ :: _) _ _; refine wpList_store_blk rfl 60 (.tmp 15) (.tmp 56) rfl _ _ rfl rfl hb4 3 sizeTok rfl rfl (tok_oneA _) ?_; intro w5 hb5 hg5; have hx5 : Ext wr w5 := hx4.grown hg5 hg4; have hr5 := HRU.out _ _ (hgT.ext hx5))
                      | (show wpList _ _ _ (⟨some 58, _, _, _, _, _⟩ :: _) _ _; refine wpList_load_mid rfl 32 (.tmp 57) rfl g 17 rfl tB _ hr5.2 Tryd.underlying32 rfl (by rw [HL2.out]; exact sizeTbl) ?_)
                      | (show wpList _ _ _ (⟨some 16, _, _, _, _, _⟩ :: _) _ _; refine wpList_alloc_abs' rfl (some 16) rfl 32 rfl _ zeroTbl ?_; intro w6 g16 hb6 hx6 hg6)
                      | (show wpList _ _ _ (⟨none, .store _ (.tmp 16) (.tmp 58), _, _, _, _⟩ :: _) _ _; refine wpList_store_blk rfl 32 (.tmp 16) (.tmp 58) rfl _ _ rfl rfl hb6 17 sizeTbl HT2.out hz17.out HO2.out ?_; intro w7 hb7 hg7; have hx7 : Ext w5 w7 := hx6.grown hg7 hg6; have hx57 := hx5.trans hx7; have hr7 := HRU.out _ _ (hgT.ext hx57))
                      | (show wpList _ _ _ (⟨some 60, _, _, _, _, _⟩ :: _) _ _; refine wl_run rfl _ (ex_eql rfl rfl rfl HJB.out) ?_)
                      | (show wpList _ _ _ (⟨some 62, _, _, _, _, _⟩ :: _) _ _; refine wpList_load_mid rfl 32 (.tmp 61) rfl g 0 rfl tA _ hr7.1 Tryd.underlying32 rfl (by rw [HL1.out]; exact sizeTbl) ?_)
                      | (show wpList _ _ _ (⟨none, .store _ (.tmp 16) (.tmp 62), _, _, _, _⟩ :: _) _ _; refine wpList_store_blk rfl 32 (.tmp 16) (.tmp 62) rfl _ _ rfl rfl hb7 17 sizeTbl HT1.out HT2.out HO1.out ?_; intro w8 hb8 hg8; have hx8 : Ext w5 w8 := hx7.grown hg8 hg6; have hx58 := hx5.trans hx8)
                      | (show wpList _ _ _ (⟨some 64, _, _, _, _, _⟩ :: _) _ _; refine wpList_load_blk rfl 32 (.tmp 16) rfl g16 rfl hb8 _ Tryd.underlying32 rfl 17 sizeTbl HT1.out ?_; have hb15 := (hb5.ext hx8); have p0 : w8.cell? ⟨g15, 0, none⟩ = some (.int .i64 t1) := hb15.cell 0)
                      | (go_at_call 32; (with_reducible refine (HW1.out _ t1 (hx.trans hx58)).mono ?_); rintro e w9 ⟨rfl, hx9⟩; rw [HF.out]; have hx19 := (hx58).trans hx9; have hb9 := hb15.ext hx9; have p1 : w9.cell? ⟨g15, 1, none⟩ = some (.int .i64 (wd : Int)) := hb9.cell 1; have p2 : w9.cell? ⟨g15, 2, none⟩ = some (.int .i64 (vl : Int)) := hb9.cell 2))
                  refine bodyPost_ret (results_tmp2 rfl _ _ _) rfl ?_
                  refine ⟨hx.trans hx19, ?_⟩
                  rw [HRE.out, if_neg (show ¬ (5 : Int) = 0 by decide)]
                  rfl
                | some u =>
                  have HF := hid_ (show (findT T1 t1).isSome = true by rw [hf]; rfl)
                  have HSA := hid_ (show (strB (bitsT T1 t1)).size ≤ 1000000 by rw [strB_size]; have := bitsT_len HF1.out t1; omega)
                  have HSB := hid_ (show (strB (digs vl wd)).size ≤ 1000000 by rw [strB_size, digs_len]; omega)
                  have hst : encStep T1 T2 p (t1, (wd : Int), (vl : Int)) true = (0, p ++ bitsT T1 t1 ++ digs vl wd) := by unfold encStep; simp [hf]
                  have HRn : Hid (eatGo (encStep T1 T2) ((flagT T).drop (j + 1) ++ flagsAt Z n (k + 1)) (p ++ (bitsT T1 t1 ++ digs vl wd)) = R) := hid_ (by have h := HRj.out; rw [eatGo_ok (by rw [hst])] at h; rw [hst] at h; rw [← List.append_assoc]; exact h)
                  have hlb : (p ++ (bitsT T1 t1 ++ digs vl wd)).length ≤ 1000000000 := by
                    have h1 := encGo_len T1 T2 ((flagT T).drop (j + 1) ++ flagsAt Z n (k + 1)) (p ++ (bitsT T1 t1 ++ digs vl wd))
                    rw [HRn.out] at h1
                    exact Nat.le_trans h1 HBD.out
                  rw [List.length_append] at hlb
                  have HWS := hid_ (fun W (h : BldS W b p r) => writeString_any b p (bitsT T1 t1 ++ digs vl wd) r W h (by omega))
                  clear hf hst hlb
                  go_wp2_with (first
                      | (show wpList _ _ _ (⟨some 56, _, _, _, _, _⟩ :: _) _ _; refine wpList_load_any (by rfl) 60 (.tmp 55) rfl (td.add (j * 3)) rfl (tokv (t1, (wd : Int), (vl : Int))) _ HTC.out Tryd.underlying60 rfl size74 ?_)
                      | (show wpList _ _ _ (⟨some 15, _, _, _, _, _⟩ :: _) _ _; refine wpList_alloc_abs' rfl (some 15) rfl 60 rfl (.agg (tokv (0, 0, 0)).toArray) (by kernel_rfl) ?_; intro w4 g15 hb4 hx4 hg4)
                      | (show wpList _ _ _ (⟨none, .store _ (.tmp 15) (.tmp 56), _, _, _, _⟩ :: _) _ _; refine wpList_store_blk rfl 60 (.tmp 15) (.tmp 56) rfl _ _ rfl rfl hb4 3 sizeTok rfl rfl (tok_oneA _) ?_; intro w5 hb5 hg5; have hx5 : Ext wr w5 := hx4.grown hg5 hg4; have hr5 := HRU.out _ _ (hgT.ext hx5))
                      | (show wpList _ _ _ (⟨some 58, _, _, _, _, _⟩ :: _) _ _; refine wpList_load_mid rfl 32 (.tmp 57) rfl g 17 rfl tB _ hr5.2 Tryd.underlying32 rfl (by rw [HL2.out]; exact sizeTbl) ?_)
                      | (show wpList _ _ _ (⟨some 16, _, _, _, _, _⟩ :: _) _ _; refine wpList_alloc_abs' rfl (some 16) rfl 32 rfl _ zeroTbl ?_; intro w6 g16 hb6 hx6 hg6)
                      | (show wpList _ _ _ (⟨none, .store _ (.tmp 16) (.tmp 58), _, _, _, _⟩ :: _) _ _; refine wpList_store_blk rfl 32 (.tmp 16) (.tmp 58) rfl _ _ rfl rfl hb6 17 sizeTbl HT2.out hz17.out HO2.out ?_; intro w7 hb7 hg7; have hx7 : Ext w5 w7 := hx6.grown hg7 hg6; have hx57 := hx5.trans hx7; have hr7 := HRU.out _ _ (hgT.ext hx57))
                      | (show wpList _ _ _ (⟨some 60, _, _, _, _, _⟩ :: _) _ _; refine wl_run rfl _ (ex_eql rfl rfl rfl HJB.out) ?_)
                      | (show wpList _ _ _ (⟨some 62, _, _, _, _, _⟩ :: _) _ _; refine wpList_load_mid rfl 32 (.tmp 61) rfl g 0 rfl tA _ hr7.1 Tryd.underlying32 rfl (by rw [HL1.out]; exact sizeTbl) ?_)
                      | (show wpList _ _ _ (⟨none, .store _ (.tmp 16) (.tmp 62), _, _, _, _⟩ :: _) _ _; refine wpList_store_blk rfl 32 (.tmp 16) (.tmp 62) rfl _ _ rfl rfl hb7 17 sizeTbl HT1.out HT2.out HO1.out ?_; intro w8 hb8 hg8; have hx8 : Ext w5 w8 := hx7.grown hg8 hg6; have hx58 := hx5.trans hx8)
                      | (show wpList _ _ _ (⟨some 64, _, _, _, _, _⟩ :: _) _ _; refine wpList_load_blk rfl 32 (.tmp 16) rfl g16 rfl hb8 _ Tryd.underlying32 rfl 17 sizeTbl HT1.out ?_; have hb15 := (hb5.ext hx8); have p0 : w8.cell? ⟨g15, 0, none⟩ = some (.int .i64 t1) := hb15.cell 0)
                      | (go_at_call 32; (with_reducible refine (HW1.out _ t1 (hx.trans hx58)).mono ?_); rintro e w9 ⟨rfl, hx9⟩; rw [HF.out]; have hx19 := (hx58).trans hx9; have hb9 := hb15.ext hx9; have p1 : w9.cell? ⟨g15, 1, none⟩ = some (.int .i64 (wd : Int)) := hb9.cell 1; have p2 : w9.cell? ⟨g15, 2, none⟩ = some (.int .i64 (vl : Int)) := hb9.cell 2)
                      | (go_at_call 34; (with_reducible refine (binary_any wd vl _ (by omega) (by omega)).mono ?_); rintro e w10 ⟨rfl, rfl⟩; rw [binS_strB])
                      | (show wpList _ _ _ (⟨some 78, _, _, _, _, _⟩ :: _) _ _; refine wl_run rfl _ (ex_strAdd rfl rfl rfl HSA.out HSB.out) ?_)
                      | (go_at_call 33; go_must (rw [← strB_append]; (with_reducible refine (HWS.out _ (hB.ext hx19)).mono ?_); rintro e w11 ⟨rfl, r11, hB11, hu11⟩)))
                  go_roundw
                  case rel =>
                    have hB9 := hB.ext hx19
                    have hu := hu11
                    refine ⟨j + 1, _, r11, by omega, by go_num, hB11, hu.blk (hgT.ext hx19) HGT.out, hu.ext (hx.trans hx19) (fun y e => ?_), own_upd2 (own_keep hot hx19) hu (fun y e => ?_), HRn⟩
                    · rcases e with e | e
                      · rw [e]; exact HBB.out
                      · have := (hB.row y e).1; have := HBB.out; omega
                    · have : td.block = y := by simpa [Value.ownBlock] using e
                      subst this
                      exact HTT.out
                  case measure => simp [intOf]; omega
              · have HJB : Hid (decide ((j : Int) = 0) = false) := hid_ (by rw [decide_eq_false]; omega)
                rw [show (j == 0) = false by simp [hj0]] at HRj
                clear hj0
                cases hf : findT T2 t1 with
                | none =>
                  have HF := hid_ (show (findT T2 t1).isSome = false by rw [hf]; rfl)
                  have HRE : Hid (R = (5, p)) := hid_ (by rw [← HRj.out, eatGo_err (by unfold encStep; simp [hf])]; unfold encStep; simp [hf])
                  clear hf
                  go_wp2_with (first
                      | (show wpList _ _ _ (⟨some 56, _, _, _, _, _⟩ :: _) _ _; refine wpList_load_any (by rfl) 60 (.tmp 55) rfl (td.add (j * 3)) rfl (tokv (t1, (wd : Int), (vl : Int))) _ HTC.out Tryd.underlying60 rfl size74 ?_)
                      | (show wpList _ _ _ (⟨some 15, _, _, _, _, _⟩ :: _) _ _; refine wpList_alloc_abs' rfl (some 15) rfl 60 rfl (.agg (tokv (0, 0, 0)).toArray) (by kernel_rfl) ?_; intro w4 g15 hb4 hx4 hg4)
                      | (show wpList _ _ _ (⟨none, .store _ (.tmp 15) (.tmp 56), _, _, _, _⟩ :: _) _ _; refine wpList_store_blk rfl 60 (.tmp 15) (.tmp 56) rfl _ _ rfl rfl hb4 3 sizeTok rfl rfl (tok_oneA _) ?_; intro w5 hb5 hg5; have hx5 : Ext wr w5 := hx4.grown hg5 hg4; have hr5 := HRU.out _ _ (hgT.ext hx5))
                      | (show wpList _ _ _ (⟨some 58, _, _, _, _, _⟩ :: _) _ _; refine wpList_load_mid rfl 32 (.tmp 57) rfl g 17 rfl tB _ hr5.2 Tryd.underlying32 rfl (by rw [HL2.out]; exact sizeTbl) ?_)
                      | (show wpList _ _ _ (⟨some 16, _, _, _, _, _⟩ :: _) _ _; refine wpList_alloc_abs' rfl (some 16) rfl 32 rfl _ zeroTbl ?_; intro w6 g16 hb6 hx6 hg6)
                      | (show wpList _ _ _ (⟨none, .store _ (.tmp 16) (.tmp 58), _, _, _, _⟩ :: _) _ _; refine wpList_store_blk rfl 32 (.tmp 16) (.tmp 58) rfl _ _ rfl rfl hb6 17 sizeTbl HT2.out hz17.out HO2.out ?_; intro w7 hb7 hg7; have hx7 : Ext w5 w7 := hx6.grown hg7 hg6; have hx57 := hx5.trans hx7; have hr7 := HRU.out _ _ (hgT.ext hx57))
                      | (show wpList _ _ _ (⟨some 60, _, _, _, _, _⟩ :: _) _ _; refine wl_run rfl _ (ex_eql rfl rfl rfl HJB.out) ?_)
                      | (show wpList _ _ _ (⟨some 64, _, _, _, _, _⟩ :: _) _ _; refine wpList_load_blk rfl 32 (.tmp 16) rfl g16 rfl hb7 _ Tryd.underlying32 rfl 17 sizeTbl HT2.out ?_; have hb15 := (hb5.ext hx7); have p0 : w7.cell? ⟨g15, 0, none⟩ = some (.int .i64 t1) := hb15.cell 0)
                      | (go_at_call 32; (with_reducible refine (HW2.out _ t1 (hx.trans hx57)).mono ?_); rintro e w9 ⟨rfl, hx9⟩; rw [HF.out]; have hx19 := (hx57).trans hx9; have hb9 := hb15.ext hx9; have p1 : w9.cell? ⟨g15, 1, none⟩ = some (.int .i64 (wd : Int)) := hb9.cell 1; have p2 : w9.cell? ⟨g15, 2, none⟩ = some (.int .i64 (vl : Int)) := hb9.cell 2))
                  refine bodyPost_ret (results_tmp2 rfl _ _ _) rfl ?_
                  refine ⟨hx.trans hx19, ?_⟩
                  rw [HRE.out, if_neg (show ¬ (5 : Int) = 0 by decide)]
                  rfl
                | some u =>
                  have HF := hid_ (show (findT T2 t1).isSome = true by rw [hf]; rfl)
                  have HSA := hid_ (show (strB (bitsT T2 t1)).size ≤ 1000000 by rw [strB_size]; have := bitsT_len HF2.out t1; omega)
                  have HSB := hid_ (show (strB (digs vl wd)).size ≤ 1000000 by rw [strB_size, digs_len]; omega)
                  have hst : encStep T1 T2 p (t1, (wd : Int), (vl : Int)) false = (0, p ++ bitsT T2 t1 ++ digs vl wd) := by unfold encStep; simp [hf]
                  have HRn : Hid (eatGo (encStep T1 T2) ((flagT T).drop (j + 1) ++ flagsAt Z n (k + 1)) (p ++ (bitsT T2 t1 ++ digs vl wd)) = R) := hid_ (by have h := HRj.out; rw [eatGo_ok (by rw [hst])] at h; rw [hst] at h; rw [← List.append_assoc]; exact h)
                  have hlb : (p ++ (bitsT T2 t1 ++ digs vl wd)).length ≤ 1000000000 := by
                    have h1 := encGo_len T1 T2 ((flagT T).drop (j + 1) ++ flagsAt Z n (k + 1)) (p ++ (bitsT T2 t1 ++ digs vl wd))
                    rw [HRn.out] at h1
                    exact Nat.le_trans h1 HBD.out
                  rw [List.length_append] at hlb
                  have HWS := hid_ (fun W (h : BldS W b p r) => writeString_any b p (bitsT T2 t1 ++ digs vl wd) r W h (by omega))
                  clear hf hst hlb
                  go_wp2_with (first
                      | (show wpList _ _ _ (⟨some 56, _, _, _, _, _⟩ :: _) _ _; refine wpList_load_any (by rfl) 60 (.tmp 55) rfl (td.add (j * 3)) rfl (tokv (t1, (wd : Int), (vl : Int))) _ HTC.out Tryd.underlying60 rfl size74 ?_)
                      | (show wpList _ _ _ (⟨some 15, _, _, _, _, _⟩ :: _) _ _; refine wpList_alloc_abs' rfl (some 15) rfl 60 rfl (.agg (tokv (0, 0, 0)).toArray) (by kernel_rfl) ?_; intro w4 g15 hb4 hx4 hg4)
                      | (show wpList _ _ _ (⟨none, .store _ (.tmp 15) (.tmp 56), _, _, _, _⟩ :: _) _ _; refine wpList_store_blk rfl 60 (.tmp 15) (.tmp 56) rfl _ _ rfl rfl hb4 3 sizeTok rfl rfl (tok_oneA _) ?_; intro w5 hb5 hg5; have hx5 : Ext wr w5 := hx4.grown hg5 hg4; have hr5 := HRU.out _ _ (hgT.ext hx5))
                      | (show wpList _ _ _ (⟨some 58, _, _, _, _, _⟩ :: _) _ _; refine wpList_load_mid rfl 32 (.tmp 57) rfl g 17 rfl tB _ hr5.2 Tryd.underlying32 rfl (by rw [HL2.out]; exact sizeTbl) ?_)
                      | (show wpList _ _ _ (⟨some 16, _, _, _, _, _⟩ :: _) _ _; refine wpList_alloc_abs' rfl (some 16) rfl 32 rfl _ zeroTbl ?_; intro w6 g16 hb6 hx6 hg6)
                      | (show wpList _ _ _ (⟨none, .store _ (.tmp 16) (.tmp 58), _, _, _, _⟩ :: _) _ _; refine wpList_store_blk rfl 32 (.tmp 16) (.tmp 58) rfl _ _ rfl rfl hb6 17 sizeTbl HT2.out hz17.out HO2.out ?_; intro w7 hb7 hg7; have hx7 : Ext w5 w7 := hx6.grown hg7 hg6; have hx57 := hx5.trans hx7; have hr7 := HRU.out _ _ (hgT.ext hx57))
                      | (show wpList _ _ _ (⟨some 60, _, _, _, _, _⟩ :: _) _ _; refine wl_run rfl _ (ex_eql rfl rfl rfl HJB.out) ?_)
                      | (show wpList _ _ _ (⟨some 64, _, _, _, _, _⟩ :: _) _ _; refine wpList_load_blk rfl 32 (.tmp 16) rfl g16 rfl hb7 _ Tryd.underlying32 rfl 17 sizeTbl HT2.out ?_; have hb15 := (hb5.ext hx7); have p0 : w7.cell? ⟨g15, 0, none⟩ = some (.int .i64 t1) := hb15.cell 0)
                      | (go_at_call 32; (with_reducible refine (HW2.out _ t1 (hx.trans hx57)).mono ?_); rintro e w9 ⟨rfl, hx9⟩; rw [HF.out]; have hx19 := (hx57).trans hx9; have hb9 := hb15.ext hx9; have p1 : w9.cell? ⟨g15, 1, none⟩ = some (.int .i64 (wd : Int)) := hb9.cell 1; have p2 : w9.cell? ⟨g15, 2, none⟩ = some (.int .i64 (vl : Int)) := hb9.cell 2)
                      | (go_at_call 34; (with_reducible refine (binary_any wd vl _ (by omega) (by omega)).mono ?_); rintro e w10 ⟨rfl, rfl⟩; rw [binS_strB])
                      | (show wpList _ _ _ (⟨some 78, _, _, _, _, _⟩ :: _) _ _; refine wl_run rfl _ (ex_strAdd rfl rfl rfl HSA.out HSB.out) ?_)
                      | (go_at_call 33; go_must (rw [← strB_append]; (with_reducible refine (HWS.out _ (hB.ext hx19)).mono ?_); rintro e w11 ⟨rfl, r11, hB11, hu11⟩)))
                  go_roundw
                  case rel =>
                    have hB9 := hB.ext hx19
                    have hu := hu11
                    refine ⟨j + 1, _, r11, by omega, by go_num, hB11, hu.blk (hgT.ext hx19) HGT.out, hu.ext (hx.trans hx19) (fun y e => ?_), own_upd2 (own_keep hot hx19) hu (fun y e => ?_), HRn⟩
                    · rcases e with e | e
                      · rw [e]; exact HBB.out
                      · have := (hB.row y e).1; have := HBB.out; omega
                    · have : td.block = y := by simpa [Value.ownBlock] using e
                      subst this
                      exact HTT.out
                  case measure => simp [intOf]; omega
            · have hjm : j = m := by omega
              have HRn : Hid (eatGo (encStep T1 T2) (flagsAt Z n (k + 1)) p = R) := hid_ (by have h := HR.out; rw [List.drop_eq_nil_of_le (by rw [flagT_len, HM2.out]; omega), List.nil_append] at h; exact h)
              go_wp2_with fail
              go_roundw
              case rel => exact ⟨k + 1, p, r, by omega, by go_num, hB, hgT, hx, HRn⟩
              case measure => simp [intOf]; omega
      · have hkn : k = n := by omega
        have HRE : Hid (R = (0, L)) := hid_ (by rw [← HR.out, hkn, flagsAt_end]; unfold eatGo; rfl)
        have hLb : L.length ≤ 1000000000 := by have := HBD.out; rw [HRE.out] at this; exact this
        have HST := hid_ (fun W => string_any b L r W)
        have HBO := hid_ (fun W => bytesOf_any L W hLb)
        have hpl : (packB (padB L)).length ≤ 1000000000 := by
          rw [packB_len]
          have : (padB L).length ≤ L.length + 7 := by
            unfold padB
            rw [List.length_append, List.length_replicate]
            omega
          omega
        have HSU := hid_ (fun D d W (h : SL W 1 (.slice D (packB (padB L)).length d) (packB (padB L)).length (bytesV (packB (padB L)))) => rstuff_fresh D (packB (padB L)).length d (packB (padB L)) W h (packB_lt (padB L)) hpl)
        obtain ⟨B, hPB⟩ : ∃ B, packB (padB L) = B := ⟨_, rfl⟩
        have HPB := hid_ hPB
        rw [hPB] at HBO HSU hpl
        clear hPB
        obtain ⟨bl, hbl⟩ : ∃ k, B.length = k := ⟨_, rfl⟩
        rw [hbl] at HBO HSU
        clear hbl hpl hkn HR
        go_wp2_with (first
          | (go_at_call 36; (with_reducible refine (HST.out _ hB).mono ?_); rintro e w5 ⟨rfl, hu5⟩; have hx5 : Ext w w5 := hu5.ext hx (fun y e => by have := (hB.row y e).1; have := HBB.out; omega))
          | (go_at_call 35; (with_reducible refine (HBO.out _).mono ?_); rintro e w6 ⟨D, d, rfl, hs6, hx6⟩)
          | (go_at_call 11; (with_reducible refine (HSU.out _ _ _ hs6).mono ?_); rintro e w7 ⟨E, e7, d7, rfl, k7, hs7, hn7, hx7, hf7⟩))
        refine bodyPost_ret (results_tmp2 rfl _ _ _) rfl ?_
        refine ⟨(hx5.trans hx6).trans hx7, ?_⟩
        rw [HRE.out]
        dsimp only
        rw [if_pos rfl, HPB.out]
        exact ⟨E, e7, d7, rfl, k7, hs7, hn7, fun ad e => by have := hf7 ad e; have := (hx5.trans hx6).size; omega⟩
  · rw [blocksE_each (encStep T1 T2) n Z [] hbe]
    generalize blocksE n Z = x at *
    have hxb : (x != 0) = true := by simpa using hbe
    have HNE := hid_ hbe
    clear hbe hbd
    go_enter Tryd.func13, Tryd.ntmps13
    go_wp2_with (first
      | (show wpList _ _ _ (⟨some 2, _, _, _, _, _⟩ :: _) _ _; refine wpList_box_abs rfl 34 (.tmp 0) rfl tt rfl ?_; intro w1 g hb1 hx1 hg1)
      | (show wpList _ _ _ (⟨some 19, _, _, _, _, _⟩ :: _) _ _; refine wpList_load_blk rfl 34 (.tmp 2) rfl g rfl hb1 _ Tryd.underlying34 rfl 34 sizeTbls hsz.out ?_)
      | (go_at_call 29; (with_reducible refine (HM.out _ hx1).mono ?_); rintro e w2 ⟨rfl, hx2⟩; have hx2' := hx1.trans hx2)
      | (go_at_call 30; (with_reducible refine (HBC.out _ hx2').mono ?_); rintro e w3 ⟨rfl, hx3⟩))
    refine bodyPost_ret (results_tmp2 rfl _ _ _) rfl ?_
    refine ⟨hx2'.trans hx3, ?_⟩
    rw [if_neg HNE.out]
    rfl
theorem rsegEnc_good (cs1 xs1 cs2 xs2 : List Int) (s1 s2 : Value) (A : Option Addr) (n c : Nat) (Z : List Int) (hZ : Z.length = n * 64) (w : World) (hs : SL w 64 (.slice A n c) n (ints Z)) (l1 : cs1.length = 16) (l2 : cs2.length = 16)
    (hs1 : SL w 1 s1 xs1.length (ints xs1)) (hs2 : SL w 1 s2 xs2.length (ints xs2)) (z1 : checkZ cs1 xs1 = 0) (z2 : checkZ cs2 xs2 = 0) :
    Calls Tryd.prog 13 #[.agg (tblL cs1 s1 ++ tblL cs2 s2).toArray, .slice A n c] w (SegIs (segR (zipC (codesW cs1 16) xs1) (zipC (codesW cs2 16) xs2) n Z) w) :=
  (rsegEnc_goodF cs1 xs1 cs2 xs2 s1 s2 A n c Z hZ w hs l1 l2 hs1 hs2 z1 z2).mono fun _ _ h => h.is
end Go.Proofs.YtgmddhljgfbibaaDoor
