/- Contracts for the law RescueHurtsCard, part 7: what the functions that it reaches answer, for all arguments that the theorems name. -/
import Derived.Test.YtkggcjdlpendfaaGreatDoorMRescueHurtsCard5
import Derived.Test.YtkggcjdlpendfaaGreatDoorMRescueHurtsCard2
import Derived.Test.YtkggcjdlpendfaaGreatDoorMRescueHurtsCard3
import Derived.Test.YtkggcjdlpendfaaGreatDoorMRescueHurtsCard1
import Derived.Test.YtkggcjdlpendfaaGreatDoorMRescueHurtsCard6
import Derived.Test.YtkggcjdlpendfaaGreatDoorMRescueHurtsCard4
import Derived.Deep.Cut
import Derived.Laws.MakeOwn
namespace Go.Proofs.YtkggcjdlpendfaaGreatDoor
set_option linter.unusedVariables false
set_option linter.unusedSimpArgs false
open Go.RowKit
theorem zeroTblv : (Tryz.prog.info? 42).bind (·.zero) = some (.agg (tblv (List.replicate 16 0) (.slice none 0 0))) := zeroTbl
theorem elt_intP : Elt Tryz.prog 22 3 1 8 := ⟨Tryz.underlying22, by kernel_rfl, by omega⟩
theorem tblNeI : 3 ≠ 42 := by decide
theorem tblv_one' (cs : List Int) (A : Option Addr) (k c : Nat) : (tblv cs (.slice A k c)).all (·.oneCell') = true := by
 unfold tblv ints
 simp [Value.oneCell']
theorem tblv_setLast (cs : List Int) (s u : Value) (h : cs.length = 16) : (tblv cs s).setIfInBounds 16 u = tblv cs u := by
 unfold tblv
 rw [List.setIfInBounds_toArray, List.set_append_right _ _ (by rw [ints_len, h]; omega), ints_len, h]
 rfl
set_option maxRecDepth 20000 in
set_option maxHeartbeats 4000000 in
theorem own_any (cs : List Int) (hcs : cs.length = 16) (v : Value) (xs : List Int) (w : World) (hv : SL w 1 v xs.length (ints xs)) (hn : xs.length ≤ 1048576) :
 Calls Tryz.prog 51 #[.agg (tblv cs v)] w fun e w' => ∃ A c, e = .returned (.agg (tblv cs (.slice A xs.length c))) ∧ w'.ownsRow w.heap.size 3 1 (.slice A xs.length c) xs.length (ints xs) ∧ Ext w w' := by
 have hv' := hv
 obtain ⟨A0, c0, rfl, -⟩ := hv'
 have HT : Hid (∀ A k c, (tblv cs (.slice A k c)).size = 17) := hid_ (fun A k c => tblv_size _ _ hcs)
 have HO : Hid (∀ A k c, (tblv cs (.slice A k c)).all (·.oneCell') = true) := hid_ (fun A k c => tblv_one' _ A k c)
 have HL : Hid (∀ A k c B m d, (tblv cs (.slice A k c)).setIfInBounds 16 (.slice B m d) = tblv cs (.slice B m d)) := hid_ (fun A k c B m d => tblv_setLast _ _ _ hcs)
 have HG16 : Hid (∀ A k c, (tblv cs (.slice A k c))[16]? = some (.slice A k c)) := hid_ (fun A k c => by
  unfold tblv ints
  simp [List.getElem?_append, hcs])
 have HI1 := hid_ (ints_one_mem xs)
 have HZ : Hid ((Value.agg (tblv (List.replicate 16 0) (.slice none 0 0))).cells.size = 17) := hid_ (tblv_size _ _ (by simp))
 obtain ⟨TV, hTV⟩ : ∃ TV : Option Addr → Nat → Nat → Array Value, TV = fun A k c => tblv cs (.slice A k c) := ⟨_, rfl⟩
 have eT : ∀ A k c, tblv cs (.slice A k c) = TV A k c := fun A k c => by rw [hTV]
 simp only [eT] at HT HO HL HG16 ⊢
 clear hTV eT
 obtain ⟨n, hnn⟩ : ∃ n, xs.length = n := ⟨_, rfl⟩
 rw [hnn] at hv hn ⊢
 generalize ints xs = zs at *
 clear hnn
 go_enter Tryz.func51, Tryz.ntmps51
 go_wp2_with (first
  | ((with_reducible apply gS 1); refine wBox rfl 42 (.tmp 0) rfl (TV A0 n c0) rfl ?_; intro w1 g1 hb1 hx1 hg1)
  | ((with_reducible apply gS 2); refine wAlo' rfl (some 2) rfl 42 rfl _ zeroTblv ?_; intro w2 g2 hb2 hx2 hg2; have hb12 := hb1.ext hx2; have hl12 := (hb12.cell 16).trans (HG16.out A0 n c0); have hv2 := hv.ext (hx1.trans hx2); have hs1 := hx1.size; have hlt1 := hb1.lt; have hs2 := hx2.size)
  | ((with_reducible apply gS 4); refine wl_read rfl (.slice A0 n c0) (ex_loadL rfl rfl hl12) ?_)
  | ((with_reducible apply gS 5); refine wApf elt_intP rfl _ _ rfl w.heap.size (.slice none 0 0) 0 [] rfl (own_nil _ _ _ _) _ n zs rfl hv2 HI1.out (by omega) (by omega) (by omega) ?_; intro A5 c5 w5 ho5 hg5 hr5; rw [Nat.zero_add, List.nil_append] at ho5; have hug5 := upd_grown hg5; have hb5 := hug5.blk hb12 (fun q => by cases q))
  | ((with_reducible apply gT 6 5); refine wl_storeL rfl _ _ rfl g1 16 A5 n c5 rfl rfl hb5 (by rw [HT.out]; omega) ?_; have hb6 := hb5.set_ 16 (.slice A5 n c5); rw [HL.out] at hb6; have hu6 := ((Upd.refl (fun b => b = g1) w2).grown hg5 (fun b h => by cases h)).setCell (p := ⟨g1, 16, none⟩) rfl (.slice A5 n c5); have hb26 := hu6.blk hb2 (by omega); have ho6 := own_upd2 ho5 ((Upd.refl (fun b => b = g1) w5).setCell (p := ⟨g1, 16, none⟩) rfl (.slice A5 n c5)) (fun x hx q => own_blk_ne ho5 hb5 tblNeI (by rw [hx, q])))
  | ((with_reducible apply gS 7); refine wLdB rfl 42 (.tmp 1) rfl g1 rfl hb6 _ Tryz.underlying42 rfl 17 sizeTbl1 (HT.out A5 n c5) ?_)
  | ((with_reducible apply gT 2 7); refine wStB rfl 42 (.tmp 2) (.tmp 7) rfl g2 _ rfl rfl hb26 17 sizeTbl1 (HT.out A5 n c5) HZ.out (HO.out A5 n c5) ?_; intro w7 hb7 hg7))
 have ho7 := own_upd2 ho6 (upd_grown hg7) (fun x hx q => own_blk_ne ho6 hb26 tblNeI (by rw [hx]; exact q))
 have hx7 : Ext w w7 := (upd_grown hg7).ext (hu6.ext (hx1.trans hx2) (fun x h => by omega)) (fun x h => by injection h with h; omega)
 exact ret_cell rfl rfl g2 rfl hb7 _ Tryz.underlying42 rfl 17 sizeTbl1 (HT.out A5 n c5) ⟨A5, c5, rfl, ho7, hx7⟩
section
theorem by_file : 5 ≠ 47 := by decide
theorem cells_sl2 (w : World) (T : TypeId) (m : Nat) : SL (w.alloc (.cells #[.int .u8 255, .int .u8 ((m % 256 : Nat) : Int)] T)) 1 (.slice (some ⟨w.heap.size, 0, none⟩) 2 2) 2 (bytesV [255, m % 256]) := cells_sl w T [.int .u8 255, .int .u8 ((m % 256 : Nat) : Int)] 2 rfl (by omega)
attribute [local irreducible] bytesV hurtN FC.cells
set_option maxRecDepth 20000 in
set_option maxHeartbeats 8000000 in
theorem rhurt_good (F : FC) (hF : F.shaped) (s1 s2 : Value) (A : Option Addr) (n c : Nat) (k : Int) (P : List (List Nat)) (M : List Nat) (hPM : P.length = M.length + 1) (hP : P.length ≤ 2000000) (hPl : ∀ p ∈ P, p.length ≤ 1048576) (h0 : 0 ≤ k) (hk : k < (P.length : Int)) (w : World)
 (hat : F.at_ w s1 s2 (.slice A n c))
 (HC : ∀ W, Ext w W → Calls Tryz.prog 52 #[.agg (F.cells s1 s2 (.slice A n c))] W fun e W' => e = .returned (.int .i64 0) ∧ Ext W W')
 (HS : ∀ W, Ext w W → Calls Tryz.prog 53 #[.slice A n c] W (SpIsE (some (P, M)) W)) :
 Calls Tryz.prog 21 #[.agg (F.cells s1 s2 (.slice A n c)), .int .i64 k] w (HurtIs ({ F with data := hurtN P M k P.length }, 0) w) := by
 have HF := hid_ (fun W g (h : Blk W g 47 (F.cells s1 s2 (.slice A n c))) => show W.cell? ⟨g, 102, none⟩ = some (.slice A n c) by unfold FC.cells at h; exact (fileB h hF.1 (tblL_len _ _ hF.2.1) (tblL_len _ _ hF.2.2)).c102)
 have hts := hid_ (FC.size hF s1 s2 (.slice A n c))
 obtain ⟨A1, c1, e1, -⟩ := hat.1
 obtain ⟨A2, c2, e2, -⟩ := hat.2.1
 have E1 := hid_ e1
 have E2 := hid_ e2
 clear e1 e2
 have HC := hid_ HC
 have HZ := zeroFileV
 have hz0 := hid_ zFile_size
 have hzs : Hid ((Value.agg zFile).cells.size = 103) := hid_ zFile_size
 obtain ⟨pn, hpn⟩ : ∃ k, P.length = k := ⟨_, rfl⟩
 have HPN := hid_ hpn
 obtain ⟨mn, hmn⟩ : ∃ k, M.length = k := ⟨_, rfl⟩
 have HMN := hid_ hmn
 have hpm : pn = mn + 1 := by omega
 have HSP : Hid (∀ W, Ext w W → Calls Tryz.prog 53 #[.slice A n c] W fun e W' => ∃ PA pc PB pd VS, e = .returned (.tuple #[.slice PA pn pc, .slice PB mn pd, .int .i64 0]) ∧ SL W' 1 (.slice PA pn pc) pn VS ∧ Pieces W' VS P ∧ SL W' 1 (.slice PB mn pd) mn (ints (M.map Int.ofNat)) ∧ Ext W W') := hid_ (fun W h => (HS W h).mono fun e W' hh => by
  obtain ⟨a1, a2, a3, a4, VS, e1, e2, e3, e4, e5, -⟩ := hh
  rw [hpn] at e1 e2
  rw [hmn] at e1 e4
  exact ⟨a1, a2, a3, a4, VS, e1, e2, e3, e4, e5⟩)
 have HO : Hid (∀ W, Calls Tryz.prog 54 #[.int .i64 k, .int .i64 0, .int .i64 ((pn : Int) - 1)] W fun e w' => e = .returned (.bool false) ∧ W = w') := hid_ (fun W => by have h := outside_any k 0 ((pn : Int) - 1) W; rwa [inB_iff.2 (by omega)] at h)
 have HPL := hid_ hPl
 have HPM := hid_ hpm
 have HLEN := hid_ (fun i => hurtN_len (M := M) (k := k) hPl i)
 rw [hpn] at hk hP ⊢
 clear hPl HS hPM hpn hmn hpm
 obtain ⟨R, hR⟩ : ∃ R, hurtN P M k pn = R := ⟨_, rfl⟩
 have HR := hid_ hR
 rw [hR]
 clear hR
 go_enter Tryz.func21, Tryz.ntmps21
 go_wp2_with (first
  | ((with_reducible apply gS 2); refine wBox rfl 47 (.tmp 0) rfl (F.cells s1 s2 (.slice A n c)) rfl ?_; intro w1 gf hb1 hx1 hgf)
  | ((with_reducible apply gS 4); refine wAlo' rfl (some 4) rfl 47 rfl _ HZ ?_; intro w2 gp hp2 hx2 hgp; have hb2 := hb1.ext hx2; have hx12 := hx1.trans hx2)
  | ((with_reducible apply gS 13); refine wLdB rfl 47 (.tmp 2) rfl gf rfl hb2 _ Tryz.underlying47 rfl 103 sizeFile hts.out ?_)
  | (go_at_call 52; (with_reducible refine (HC.out _ hx12).mono ?_); rintro e w3 ⟨rfl, hx3⟩; have hp3 := hp2.ext hx3; have hx13 := hx12.trans hx3; have hb3 := hb2.ext hx3; have c102 := HF.out _ _ hb3)
  | (go_at_call 53; (with_reducible refine (HSP.out _ hx13).mono ?_); rintro e w4 ⟨PA, pc, PB, pd, VS, rfl, q1, q2, q3, hx4⟩; have hp4 := hp3.ext hx4; have hx14 := hx13.trans hx4; have hb4 := hb3.ext hx4)
  | (go_at_call 54; (with_reducible refine (HO.out _).mono ?_); rintro e w9 ⟨rfl, rfl⟩))
 have HQ1 := hid_ q1
 have HQ2 := hid_ q2
 have HQ3 := hid_ q3
 have HX14 := hid_ hx14
 have HB4 := hid_ hb4
 have HP4 := hid_ hp4
 have hgf1 := hb1.lt
 have hown0 : OwnV w4 w4.heap.size 5 1 (.slice none 0 0) 0 (bytesV []) := by unfold bytesV; exact OwnV.nil _ _ _ _
 have HD0 : Hid ([] = hurtN P M k 0) := hid_ (by unfold hurtN; rfl)
 clear q1 q2 q3 hx14 hb4 hp4 hb1 hb2 hb3 hp2 hp3 hx1 hx2 hx3 hx12 hx13 c102 hx4
 go_loopw [10, 38] (fun dv iv wr => ∃ (i dl : Nat) (D : List Nat), i ≤ pn ∧ iv = .int .i64 (i : Int) ∧ Hid (D = hurtN P M k i) ∧ Hid (D.length = dl) ∧ OwnV wr w4.heap.size 5 1 dv dl (bytesV D) ∧ Ext w4 wr) (fun _ i _ => pn - (intOf i).toNat)
 case atStart => exact ⟨0, 0, [], by omega, rfl, HD0, hid_ rfl, hown0, Ext.refl _⟩
 case round =>
  clear hown0 HD0
  obtain ⟨i, dl, D, hi, rfl, HD, HDL, ⟨B0, d0, rfl, hown⟩, hx⟩ := hrel
  have hdl : dl ≤ i * 1048578 := by rw [← HDL.out, HD.out]; exact HLEN.out i
  by_cases hlt : i < pn
  ·obtain ⟨pd0, u, hB, hpb, hpk, hpc⟩ := HQ1.out.at1 hlt
   subst hB
   have hiP : i < P.length := by rw [HPN.out]; exact hlt
   obtain ⟨SA, sc, hv, hsl⟩ := HQ2.out.2 i hiP
   rw [hv] at hpk
   obtain rfl := Option.some.inj hpk
   have hcell := (hx.cell (p := pd0.add i) (by rw [block_of_add]; exact hpb)).trans hpc
   have hpl8 := HPL.out P[i] (List.getElem_mem hiP)
   have hsu := show hurtN P M k (i + 1) = hurtN P M k i ++ (if i = 0 then [] else [255, M.getD (i - 1) 0 % 256]) ++ (if (i : Int) = k then [] else P.getD i []) by rw [hurtN]
   rw [show P.getD i [] = P[i] by rw [List.getD_eq_getElem?_getD, List.getElem?_eq_getElem hiP]; rfl, ← HD.out] at hsu
   obtain ⟨p, hp⟩ : ∃ p, P[i] = p := ⟨_, rfl⟩
   rw [hp] at hsu hcell hpl8 hsl
   obtain ⟨pl, hpl⟩ : ∃ q, p.length = q := ⟨_, rfl⟩
   rw [hpl] at hcell hpl8 hsl
   have HPLN := hid_ hpl
   have hdl2 : i * 1048578 ≤ 2000000 * 1048578 := Nat.mul_le_mul_right _ (by omega)
   have HDB : Hid (dl ≤ 10000000000000) := hid_ (by omega)
   have HPB : Hid (pl ≤ 1048576) := hid_ hpl8
   clear hpk hv hp hpl hpc hdl hdl2 hpl8
   by_cases hi0 : i = 0
   ·have H44 : Hid (decide ((0 : Int) < (i : Int)) = false) := hid_ (by rw [decide_eq_false_iff_not]; omega)
    rw [if_pos hi0, List.append_nil] at hsu
    by_cases hik : (i : Int) = k
    ·have H56 : Hid (decide ((i : Int) ≠ k) = false) := hid_ (by simp [hik])
     rw [if_pos hik, List.append_nil] at hsu
     have HSU := hid_ hsu
     clear hsu hi0 hik
     go_wp2_with (first
      | ((with_reducible apply gS 44); refine wl_run rfl (.bool false) (ex_gtr rfl rfl rfl H44.out) ?_)
      | ((with_reducible apply gS 56); refine wl_run rfl (.bool false) (ex_neq rfl rfl rfl H56.out) ?_))
     go_roundw
     case rel => exact ⟨i + 1, dl, D, by omega, by go_num, hid_ (by rw [HSU.out]), hid_ (by have h1 := HDL.out; have h2 := HPLN.out; (try simp only [List.length_append, List.length_cons, List.length_nil]); omega), ⟨_, _, by first | rfl | go_num, hown⟩, hx⟩
     case measure => simp [intOf]; omega
    ·have H56 : Hid (decide ((i : Int) ≠ k) = true) := hid_ (by simp [hik])
     rw [if_neg hik] at hsu
     have HSU := hid_ hsu
     clear hsu hi0 hik
     go_wp2_with (first
      | ((with_reducible apply gS 44); refine wl_run rfl (.bool false) (ex_gtr rfl rfl rfl H44.out) ?_)
      | ((with_reducible apply gS 56); refine wl_run rfl (.bool true) (ex_neq rfl rfl rfl H56.out) ?_)
      | ((with_reducible apply gS 59); refine wApf elt_by rfl _ _ rfl w4.heap.size _ _ _ rfl hown _ pl (bytesV p) rfl (hsl.ext hx) (byte_one _) (by have := HDB.out; have := HPB.out; omega) (by have := HDB.out; have := HPB.out; omega) (by have := hx.size; omega) ?_; intro B6 d6 w6 ho6 hg6 hr6; rw [← bytesV_app] at ho6; have hx6 := (upd_grown hg6).ext hx (fun x h => (hown.lt x h).1)))
     go_roundw
     case rel => exact ⟨i + 1, (dl + pl), (D ++ p), by omega, by go_num, hid_ (by rw [HSU.out]), hid_ (by have h1 := HDL.out; have h2 := HPLN.out; (try simp only [List.length_append, List.length_cons, List.length_nil]); omega), ⟨_, _, by first | rfl | go_num, ho6⟩, hx6⟩
     case measure => simp [intOf]; omega
   ·have H44 : Hid (decide ((0 : Int) < (i : Int)) = true) := hid_ (by rw [decide_eq_true_eq]; omega)
    obtain ⟨j, hj⟩ : ∃ j, i - 1 = j := ⟨_, rfl⟩
    have R48 : Hid (∀ W, (binOp .sub 3 (.int .i64 (i : Int)) (.int .i64 1)).run Tryz.prog W = .ok (.int .i64 (j : Int)) W) := hid_ (fun W => by have h := run_subN i 1 (by omega) (by omega) W; rwa [hj] at h)
    have hjm : j < mn := by have := HPM.out; omega
    obtain ⟨md0, u, hB, hmb, hmk, hmc⟩ := HQ3.out.at1 hjm
    subst hB
    have hjM : j < M.length := by rw [HMN.out]; exact hjm
    have hu : u = .int .i64 ((M[j] : Nat) : Int) := by
     obtain ⟨h1, h2⟩ := ints_at _ _ _ hmk
     rw [h2, List.getElem_map]; rfl
    subst hu
    have hcm := (hx.cell (p := md0.add j) (by rw [block_of_add]; exact hmb)).trans hmc
    rw [if_neg hi0, hj, show M.getD j 0 = M[j] by rw [List.getD_eq_getElem?_getD, List.getElem?_eq_getElem hjM]; rfl] at hsu
    generalize M[j] = m8 at *
    clear hmk hmc hj
    by_cases hik : (i : Int) = k
    ·have H56 : Hid (decide ((i : Int) ≠ k) = false) := hid_ (by simp [hik])
     rw [if_pos hik, List.append_nil] at hsu
     have HSU := hid_ hsu
     clear hsu hi0 hik
     go_wp2_with (first
      | ((with_reducible apply gS 44); refine wl_run rfl (.bool true) (ex_gtr rfl rfl rfl H44.out) ?_)
      | ((with_reducible apply gS 56); refine wl_run rfl (.bool false) (ex_neq rfl rfl rfl H56.out) ?_)
      | ((with_reducible apply gS 48); refine wl_run rfl (.int .i64 (j : Int)) (ex_binK rfl rfl rfl R48.out) ?_)
      | ((with_reducible apply gS 50); refine wl_read rfl (.int .i64 (m8 : Int)) (ex_loadI rfl rfl hcm) ?_)
      | ((with_reducible apply gS 51); refine wl_run rfl (.int .u8 ((m8 % 256 : Nat) : Int)) (ex_conv8m (n := m8) rfl rfl) ?_)
      | ((with_reducible apply gS 53); refine wApf elt_by rfl _ _ rfl w4.heap.size _ _ _ rfl (hown.alloc _) _ 2 (bytesV [255, m8 % 256]) rfl (cells_sl2 wr _ m8) (byte_one _) (by have := HDB.out; have := HPB.out; omega) (by have := HDB.out; have := HPB.out; omega) (by have := hx.size; simp; omega) ?_; intro B5 d5 w5 ho5 hg5 hr5; rw [← bytesV_app] at ho5; have hx5 := ext_own' hx hown hg5))
     go_roundw
     case rel => exact ⟨i + 1, (dl + 2), (D ++ [255, m8 % 256]), by omega, by go_num, hid_ (by rw [HSU.out]), hid_ (by have h1 := HDL.out; have h2 := HPLN.out; (try simp only [List.length_append, List.length_cons, List.length_nil]); omega), ⟨_, _, by first | rfl | go_num, ho5⟩, hx5⟩
     case measure => simp [intOf]; omega
    ·have H56 : Hid (decide ((i : Int) ≠ k) = true) := hid_ (by simp [hik])
     rw [if_neg hik] at hsu
     have HSU := hid_ hsu
     clear hsu hi0 hik
     go_wp2_with (first
      | ((with_reducible apply gS 44); refine wl_run rfl (.bool true) (ex_gtr rfl rfl rfl H44.out) ?_)
      | ((with_reducible apply gS 56); refine wl_run rfl (.bool true) (ex_neq rfl rfl rfl H56.out) ?_)
      | ((with_reducible apply gS 48); refine wl_run rfl (.int .i64 (j : Int)) (ex_binK rfl rfl rfl R48.out) ?_)
      | ((with_reducible apply gS 50); refine wl_read rfl (.int .i64 (m8 : Int)) (ex_loadI rfl rfl hcm) ?_)
      | ((with_reducible apply gS 51); refine wl_run rfl (.int .u8 ((m8 % 256 : Nat) : Int)) (ex_conv8m (n := m8) rfl rfl) ?_)
      | ((with_reducible apply gS 53); refine wApf elt_by rfl _ _ rfl w4.heap.size _ _ _ rfl (hown.alloc _) _ 2 (bytesV [255, m8 % 256]) rfl (cells_sl2 wr _ m8) (byte_one _) (by have := HDB.out; have := HPB.out; omega) (by have := HDB.out; have := HPB.out; omega) (by have := hx.size; simp; omega) ?_; intro B5 d5 w5 ho5 hg5 hr5; rw [← bytesV_app] at ho5; have hx5 := ext_own' hx hown hg5)
      | ((with_reducible apply gS 59); refine wApf elt_by rfl _ _ rfl w4.heap.size _ _ _ rfl ho5 _ pl (bytesV p) rfl (hsl.ext hx5) (byte_one _) (by have := HDB.out; have := HPB.out; omega) (by have := HDB.out; have := HPB.out; omega) (by have := hx5.size; omega) ?_; intro B6 d6 w6 ho6 hg6 hr6; rw [← bytesV_app] at ho6; have hx6 := (upd_grown hg6).ext hx5 (fun x h => (ho5.lt x h).1)))
     go_roundw
     case rel => exact ⟨i + 1, ((dl + 2) + pl), ((D ++ [255, m8 % 256]) ++ p), by omega, by go_num, hid_ (by rw [HSU.out]), hid_ (by have h1 := HDL.out; have h2 := HPLN.out; (try simp only [List.length_append, List.length_cons, List.length_nil]); omega), ⟨_, _, by first | rfl | go_num, ho6⟩, hx6⟩
     case measure => simp [intOf]; omega
  ·obtain rfl : i = pn := by omega
   have hDR : D = R := by rw [HD.out, HR.out]
   subst hDR
   have hxa := HX14.out.trans hx
   have hbf := HB4.out.ext hx
   have hbp := HP4.out.ext hx
   have HSZ := hid_ (FC.size (F := { F with data := D }) hF s1 s2 (.slice B0 dl d0))
   have HDD : Hid (∀ W, F.at_ W s1 s2 (.slice A n c) → SL W 1 (.slice B0 dl d0) dl (bytesV D) → FC.at_ { F with data := D } W s1 s2 (.slice B0 dl d0)) := hid_ (fun W h h2 => ⟨h.1, h.2.1, by show SL W 1 _ D.length (bytesV D); rw [HDL.out]; exact h2⟩)
   have HFO : Hid ((FC.cells { F with data := D } s1 s2 (.slice B0 dl d0)).all (·.oneCell') = true) := hid_ (by rw [E1.out, E2.out]; exact fileOne _ _ _ _ _ _ _ _ _ _)
   have HAT := hid_ hat
   clear hat
   go_wp2_with (first
    | ((with_reducible apply gT 62 61); refine store_d rfl _ _ rfl gf F hF s1 s2 (.slice A n c) D B0 dl d0 rfl rfl hbf ?_; intro w7 hb7 hu7; have hbp7 := hu7.blk hbp (by omega))
    | ((with_reducible apply gS 63); refine wLdB rfl 47 (.tmp 2) rfl gf rfl hb7 _ Tryz.underlying47 rfl 103 sizeFile HSZ.out ?_)
    | ((with_reducible apply gT 4 63); refine wStB rfl 47 (.tmp 4) (.tmp 63) rfl gp _ rfl rfl hbp7 103 sizeFile HSZ.out hzs.out HFO.out ?_; intro w8 hb8 hg8))
   have hx7 : Ext w w7 := hu7.ext hxa (fun x h => by omega)
   have hx8 : Ext w w8 := (upd_grown hg8).ext hx7 (fun x h => by injection h with h; omega)
   have ho7 := own_upd2 hown hu7 (fun x hx q => own_blk_ne hown hbf by_file (by rw [hx, q]))
   have ho8 := own_upd2 ho7 (upd_grown hg8) (fun x hx q => own_blk_ne ho7 hbp7 by_file (by rw [hx]; exact q))
   exact ret_cell_tmp rfl rfl gp rfl hb8 _ Tryz.underlying47 rfl 103 sizeFile HSZ.out ⟨s1, s2, _, rfl, HDD.out _ (HAT.out.ext hx8) (own_out ho8).1, hx8⟩
end
theorem cells_tt (wd hi pt ev : Int) (qs : List Int) (t1 t2 : List Value) (sd : Value) : (fileL wd hi pt qs t1 t2 ev sd).toArray = ((ints [wd, hi, pt] ++ ints qs) ++ ((t1 ++ t2) ++ [.int .i64 ev, sd])).toArray := by simp [fileL]
theorem ttP_one (cs ds : List Int) (A B : Option Addr) (k c m d : Nat) : ∀ v ∈ tblL cs (.slice A k c) ++ tblL ds (.slice B m d), v.oneCell' = true := by
 intro v hv
 rcases List.mem_append.1 hv with hv | hv
 ·exact tblP_one _ _ _ _ v hv
 ·exact tblP_one _ _ _ _ v hv
theorem store_tt {ops : Array Oper} {rest : List Oper} {o : Oper} {ac : Act} {w : World} {Q : Exit → Act → World → Prop} (hgd : o.guard = none) (x y : Operand) (ho : o.op = .store 44 x y) (gf : Nat) (F : FC) (hF : F.shaped) (s1 s2 sd : Value) (A B : Option Addr) (k c m d : Nat) (hx : ac.eval x = .pointer (some ⟨gf, 67, none⟩)) (hy : ac.eval y = .agg (tblL F.cs1 (.slice A k c) ++ tblL F.cs2 (.slice B m d)).toArray)
 (hB : Blk w gf 47 (F.cells s1 s2 sd)) (h : ∀ w1, Blk w1 gf 47 (F.cells (.slice A k c) (.slice B m d) sd) → Upd (fun b => b = gf) w w1 → wpList Tryz.prog ops Q rest (ac.put o.dst undef) w1) : wpList Tryz.prog ops Q (o :: rest) ac w := by
 unfold FC.cells at hB h
 rw [cells_tt] at hB
 have l1 := tblL_len F.cs1 s1 hF.2.1
 have l2 := tblL_len F.cs2 s2 hF.2.2
 have l3 := tblL_len F.cs1 (.slice A k c) hF.2.1
 have l4 := tblL_len F.cs2 (.slice B m d) hF.2.2
 refine wpList_store_part hgd _ x y ho gf 67 (tblL F.cs1 (.slice A k c) ++ tblL F.cs2 (.slice B m d)) hx hy hB (by simp [ints_len, hF.1]) (by rw [List.length_append, List.length_append, l1, l2, l3, l4]) (by rw [List.length_append, l3, l4]; exact sizeTbls) (ttP_one _ _ _ _ _ _ _ _) (fun w1 h1 h2 => h w1 ?_ h2)
 rw [cells_tt]
 exact h1
def no8 (v : Value) : Bool := match v with | .int .u8 _ => false | _ => true
theorem no8_ints (zs : List Int) : ∀ v ∈ ints zs, no8 v = true := by
 intro v hv
 unfold ints at hv
 obtain ⟨z, -, rfl⟩ := List.mem_map.1 hv
 rfl
theorem no8_tbl (cs : List Int) (A : Option Addr) (k c : Nat) : ∀ v ∈ tblL cs (.slice A k c), no8 v = true := by
 intro v hv
 unfold tblL at hv
 rcases List.mem_append.1 hv with hv | hv
 ·exact no8_ints _ v hv
 ·simp at hv; subst hv; rfl
theorem no8_file (F : FC) (A B C : Option Addr) (a b c d e f : Nat) : ∀ v ∈ (F.cells (.slice A a b) (.slice B c d) (.slice C e f)).toList, no8 v = true := by
 unfold FC.cells fileL
 intro v hv
 simp only [List.mem_append] at hv
 rcases hv with (((hv | hv) | hv) | hv) | hv
 ·exact no8_ints _ v hv
 ·exact no8_ints _ v hv
 ·exact no8_tbl _ _ _ _ v hv
 ·exact no8_tbl _ _ _ _ v hv
 ·simp at hv; rcases hv with rfl | rfl <;> rfl
theorem SL.no8 {w w' : World} {gf : Nat} {T : TypeId} {cs : Array Value} (hb : Blk w gf T cs) (hn : ∀ v ∈ cs.toList, no8 v = true) {A : Option Addr} {n c : Nat} {p : List Nat} (h : SL w 1 (.slice A n c) n (bytesV p)) (hu : Upd (fun b => b = gf) w w') : SL w' 1 (.slice A n c) n (bytesV p) := by
 refine h.upd0 hu fun hp ad e q => ?_
 subst e
 obtain ⟨ad', u, e2, hlt, hk, hcell⟩ := h.at1 hp
 injection e2 with e2
 subst e2
 obtain ⟨hk2, rfl⟩ := bytes_at hk
 unfold Blk at hb
 have hb2 : w.heap[(ad.add 0).block]? = some (.cells cs T (0, 0)) := by rw [block_of_add, q]; exact hb
 unfold World.cell? at hcell
 rw [hb2] at hcell
 dsimp only at hcell
 split at hcell
 ·cases hcell
 have hm := hn _ (Array.mem_toList_iff.2 (Array.mem_of_getElem? hcell))
 simp [Go.Proofs.YtkggcjdlpendfaaGreatDoor.no8] at hm
section
set_option maxRecDepth 20000 in
theorem builtTT (t1 t2 : List Value) (h1 : t1.length = 17) (h2 : t2.length = 17) : Tryz.prog.built 44 [(0, .agg t1.toArray), (1, .agg t2.toArray)] = some (t1 ++ t2).toArray := by
 match t1, h1 with
 | [a0, a1, a2, a3, a4, a5, a6, a7, a8, a9, a10, a11, a12, a13, a14, a15, a16], _ =>
   match t2, h2 with
   | [b0, b1, b2, b3, b4, b5, b6, b7, b8, b9, b10, b11, b12, b13, b14, b15, b16], _ =>
     show _ = _
     kernel_rfl
theorem goesOwn : Goes Tryz.prog 51 := ⟨_, Tryz.func51, rfl, rfl⟩
theorem tblNeF : 3 ≠ 47 := by decide
theorem own_bs {w : World} {B s n : Nat} {e : TypeId} {v : Value} {xs : List Value} (h : w.ownsRow B e s v n xs) : ∀ b, v.ownBlock = some b → B ≤ b := fun b hb => (h.lt b hb).1
theorem blk_sl {w : World} {g : Nat} {T : TypeId} {x y : Nat} (h : Blk w g T (bytesV [x, y]).toArray) : SL w 1 (.slice (some ⟨g, 0, none⟩) 2 2) 2 (bytesV [x, y]) := by
 refine ⟨_, _, rfl, by omega, by omega, rfl, fun _ => ⟨_, rfl, h.lt, fun j u hu => ?_⟩⟩
 rw [addr_add, Nat.zero_add, h.cell, List.getElem?_toArray]
 exact hu
attribute [local irreducible] bytesV hurtN FC.cells
set_option maxRecDepth 20000 in
set_option maxHeartbeats 8000000 in
theorem hurt_good (F : FC) (hF : F.shaped) (s1 s2 : Value) (A : Option Addr) (n c : Nat) (k : Int) (P : List (List Nat)) (M : List Nat) (hPM : P.length = M.length + 1) (hP : P.length ≤ 2000000) (hPl : ∀ p ∈ P, p.length ≤ 1048576) (hn1 : F.xs1.length ≤ 1048576) (hn2 : F.xs2.length ≤ 1048576) (h0 : 0 ≤ k) (hk : k < (P.length : Int)) (w : World)
 (hat : F.at_ w s1 s2 (.slice A n c))
 (HC : ∀ W, Ext w W → Calls Tryz.prog 50 #[.agg (F.cells s1 s2 (.slice A n c))] W fun e W' => e = .returned (.int .i64 0) ∧ Ext W W')
 (HS : ∀ W, Ext w W → Calls Tryz.prog 34 #[.slice A n c] W (SpIsF (some (P, M)) W)) :
 Calls Tryz.prog 20 #[.agg (F.cells s1 s2 (.slice A n c)), .int .i64 k] w (HurtIs ({ F with data := hurtN P M k P.length }, 0) w) := by
 have HF := hid_ (fun W g (h : Blk W g 47 (F.cells s1 s2 (.slice A n c))) => show W.cell? ⟨g, 102, none⟩ = some (.slice A n c) by unfold FC.cells at h; exact (fileB h hF.1 (tblL_len _ _ hF.2.1) (tblL_len _ _ hF.2.2)).c102)
 have hts := hid_ (FC.size hF s1 s2 (.slice A n c))
 obtain ⟨A1, c1, e1, -⟩ := hat.1
 obtain ⟨A2, c2, e2, -⟩ := hat.2.1
 have E1 := hid_ e1
 have E2 := hid_ e2
 clear e1 e2
 have HC := hid_ HC
 have HZ := zeroFileV
 have hz0 := hid_ zFile_size
 have hzs : Hid ((Value.agg zFile).cells.size = 103) := hid_ zFile_size
 obtain ⟨pn, hpn⟩ : ∃ k, P.length = k := ⟨_, rfl⟩
 have HPN := hid_ hpn
 obtain ⟨mn, hmn⟩ : ∃ k, M.length = k := ⟨_, rfl⟩
 have HMN := hid_ hmn
 have hpm : pn = mn + 1 := by omega
 have HSP : Hid (∀ W, Ext w W → Calls Tryz.prog 34 #[.slice A n c] W fun e W' => ∃ PA pc PB pd VS, e = .returned (.tuple #[.slice PA pn pc, .slice PB mn pd, .int .i64 0]) ∧ SL W' 1 (.slice PA pn pc) pn VS ∧ Pieces W' VS P ∧ SL W' 1 (.slice PB mn pd) mn (ints (M.map Int.ofNat)) ∧ Ext W W' ∧ (∀ ad, PA = some ad → W.heap.size ≤ ad.block) ∧ ∀ ad, PB = some ad → W.heap.size ≤ ad.block) := hid_ (fun W h => (HS W h).mono fun e W' hh => by
  obtain ⟨a1, a2, a3, a4, VS, e1, e2, e3, e4, e5, -, e7, e8⟩ := hh
  rw [hpn] at e1 e2
  rw [hmn] at e1 e4
  exact ⟨a1, a2, a3, a4, VS, e1, e2, e3, e4, e5, e7, e8⟩)
 have hd0 : decide (k < 0) = false := by simp; omega
 have hd1 : decide ((pn : Int) ≤ k) = false := by simp; omega
 have HPL := hid_ hPl
 have HPM := hid_ hpm
 have HLEN := hid_ (fun i => hurtN_len (M := M) (k := k) hPl i)
 rw [hpn] at hk hP ⊢
 clear hPl HS hPM hpn hmn hpm
 obtain ⟨R, hR⟩ : ∃ R, hurtN P M k pn = R := ⟨_, rfl⟩
 have HR := hid_ hR
 rw [hR]
 clear hR
 go_enter Tryz.func20, Tryz.ntmps20
 go_wp2_with (first
  | ((with_reducible apply gS 2); refine wBox rfl 47 (.tmp 0) rfl (F.cells s1 s2 (.slice A n c)) rfl ?_; intro w1 gf hb1 hx1 hgf)
  | ((with_reducible apply gS 4); refine wAlo' rfl (some 4) rfl 47 rfl _ HZ ?_; intro w2 gp hp2 hx2 hgp; have hb2 := hb1.ext hx2; have hx12 := hx1.trans hx2)
  | ((with_reducible apply gS 12); refine wLdB rfl 47 (.tmp 2) rfl gf rfl hb2 _ Tryz.underlying47 rfl 103 sizeFile hts.out ?_)
  | (go_at_call 50; (with_reducible refine (HC.out _ hx12).mono ?_); rintro e w3 ⟨rfl, hx3⟩; have hp3 := hp2.ext hx3; have hx13 := hx12.trans hx3; have hb3 := hb2.ext hx3; have c102 := HF.out _ _ hb3)
  | (go_at_call 34; (with_reducible refine (HSP.out _ hx13).mono ?_); rintro e w4 ⟨PA, pc, PB, pd, VS, rfl, q1, q2, q3, hx4, qa, qb⟩; have hp4 := hp3.ext hx4; have hx14 := hx13.trans hx4; have hb4 := hb3.ext hx4))
 have HFR := hid_ (fun W g (h : Blk W g 47 (F.cells s1 s2 (.slice A n c))) => show W.rangeAt g 67 (tblL F.cs1 s1) ∧ W.rangeAt g 84 (tblL F.cs2 s2) by unfold FC.cells at h; have hb := fileB h hF.1 (tblL_len _ _ hF.2.1) (tblL_len _ _ hF.2.2); exact ⟨hb.ta, hb.tb⟩)
 have HL1 : Hid ((Tryz.prog.info? 42).map (·.size) = some (tblL F.cs1 s1).length) := hid_ (by rw [tblL_len _ _ hF.2.1]; exact sizeTbl1)
 have HL2 : Hid ((Tryz.prog.info? 42).map (·.size) = some (tblL F.cs2 s2).length) := hid_ (by rw [tblL_len _ _ hF.2.2]; exact sizeTbl1)
 have HOW1 : Hid (∀ W, Ext w W → Calls Tryz.prog 51 #[.agg (tblL F.cs1 s1).toArray] W fun e W' => ∃ A c, e = .returned (.agg (tblL F.cs1 (.slice A F.xs1.length c)).toArray) ∧ W'.ownsRow W.heap.size 3 1 (.slice A F.xs1.length c) F.xs1.length (ints F.xs1) ∧ Ext W W') := hid_ (fun W h => own_any F.cs1 hF.2.1 s1 F.xs1 W (hat.1.ext h) hn1)
 have HOW2 : Hid (∀ W, Ext w W → Calls Tryz.prog 51 #[.agg (tblL F.cs2 s2).toArray] W fun e W' => ∃ A c, e = .returned (.agg (tblL F.cs2 (.slice A F.xs2.length c)).toArray) ∧ W'.ownsRow W.heap.size 3 1 (.slice A F.xs2.length c) F.xs2.length (ints F.xs2) ∧ Ext W W') := hid_ (fun W h => own_any F.cs2 hF.2.2 s2 F.xs2 W (hat.2.1.ext h) hn2)
 have hbD := hb4.drew
 refine wp_region_of (fun j => !(j == 10)) (fun W => Blk W gf 47 (F.cells s1 s2 (.slice A n c))) (by kernel_rfl) ?_
 refine of_run (k := 0) (by kernel_rfl) rfl (by rfl) (.pointer (some ⟨gf, 67, none⟩)) (fun W => by go_simp) hbD ?_
 simp only [Act.put, sA, sB, sC]
 refine of_run (k := 1) (by kernel_rfl) rfl (by rfl) (.pointer (some ⟨gf, 67, none⟩)) (fun W => by go_simp) hbD ?_
 simp only [Act.put, sA, sB, sC]
 refine of_fix (k := 2) (by kernel_rfl) rfl (by rfl) (.agg (tblL F.cs1 s1).toArray) (fun W hW => ex_loadMid rfl rfl (HFR.out W gf hW).1 Tryz.underlying42 rfl HL1.out) hbD ?_
 simp only [Act.put, sA, sB, sC]
 refine of_run (k := 4) (by kernel_rfl) rfl (by rfl) (.pointer (some ⟨gf, 67, none⟩)) (fun W => by go_simp) hbD ?_
 simp only [Act.put, sA, sB, sC]
 refine of_run (k := 5) (by kernel_rfl) rfl (by rfl) (.pointer (some ⟨gf, 84, none⟩)) (fun W => by go_simp) hbD ?_
 simp only [Act.put, sA, sB, sC]
 refine of_fix (k := 6) (by kernel_rfl) rfl (by rfl) (.agg (tblL F.cs2 s2).toArray) (fun W hW => ex_loadMid rfl rfl (HFR.out W gf hW).2 Tryz.underlying42 rfl HL2.out) hbD ?_
 simp only [Act.put, sA, sB, sC]
 refine of_loud (k := 3) (by kernel_rfl) rfl ?_
 refine wl_enter (by rfl) (run_callv _ _ _ rfl rfl goesOwn #[.agg (tblL F.cs1 s1).toArray] (by simp [Act.eval])) ?_
 have hxD : Ext w w4.drew := hx14.trans ((Ext.refl _).drew)
 refine (HOW1.out w4.drew hxD).mono ?_
 rintro e w5 ⟨A5, c5, rfl, ho5, hx5⟩
 refine ⟨_, rfl, oi_end ⟨fun _ => hbD.ext hx5, ?_⟩⟩
 simp only [Act.put, sA, sB, sC]
 refine of_loud (k := 7) (by kernel_rfl) rfl ?_
 refine wl_enter (by rfl) (run_callv _ _ _ rfl rfl goesOwn #[.agg (tblL F.cs2 s2).toArray] (by simp [Act.eval])) ?_
 refine (HOW2.out w5 (hxD.trans hx5)).mono ?_
 rintro e w6 ⟨A6, c6, rfl, ho6, hx6⟩
 have hb6 := (hbD.ext hx5).ext hx6
 refine ⟨_, rfl, oi_end ⟨fun _ => hb6, ?_⟩⟩
 simp only [Act.put, sA, sB, sC]
 have hbt := builtTT (tblL F.cs1 (.slice A5 F.xs1.length c5)) (tblL F.cs2 (.slice A6 F.xs2.length c6)) (tblL_len _ _ hF.2.1) (tblL_len _ _ hF.2.2)
 refine of_run (k := 8) (by kernel_rfl) rfl (by rfl) (.agg (tblL F.cs1 (.slice A5 F.xs1.length c5) ++ tblL F.cs2 (.slice A6 F.xs2.length c6)).toArray) (ex_build2 rfl rfl rfl hbt) hb6 ?_
 simp only [Act.put, sA, sB, sC]
 refine of_run (k := 9) (by kernel_rfl) rfl (by rfl) (.pointer (some ⟨gf, 67, none⟩)) (fun W => by go_simp) hb6 ?_
 simp only [Act.put, sA, sB, sC]
 refine of_loud (k := 10) (by kernel_rfl) rfl ?_
 refine store_tt rfl _ _ rfl gf F hF s1 s2 (.slice A n c) A5 A6 F.xs1.length c5 F.xs2.length c6 rfl rfl hb6 ?_
 intro w7 hb7 hu7
 refine oi_end ⟨fun h => (by cases h), ?_⟩
 simp only [Act.put, sA, sB, sC]
 refine of_done (by kernel_rfl) ?_
 go_wp2_with (first
  | (refine store_d rfl (.tmp 51) (.const (.slice none 0 0)) rfl gf F hF (.slice A5 F.xs1.length c5) (.slice A6 F.xs2.length c6) (.slice A n c) [] none 0 0 rfl rfl hb7 ?_; intro w8 hb8 hu8))
 have HQ1 := hid_ q1
 have HQ2 := hid_ q2
 have HQ3 := hid_ q3
 have HQA := hid_ (fun ad (e : PA = some ad) => show gf < ad.block from Nat.lt_of_lt_of_le hb3.lt (qa ad e))
 have HQB := hid_ (fun ad (e : PB = some ad) => show gf < ad.block from Nat.lt_of_lt_of_le hb3.lt (qb ad e))
 have HB4 := hid_ hb4
 have HP4 := hid_ hp4
 have HX14 := hid_ hx14
 have HGF := hid_ hgf
 have hne : gp ≠ gf := by have := hb1.lt; omega
 have HGP := hid_ hne
 have HGP2 : Hid (w.heap.size ≤ gp) := hid_ (by have := hx1.size; omega)
 have HN8 : Hid (∀ v ∈ (F.cells s1 s2 (.slice A n c)).toList, no8 v = true) := hid_ (by rw [E1.out, E2.out]; exact no8_file F _ _ _ _ _ _ _ _ _)
 have hp5 := hp4.drew.ext hx5
 have hb5 := hbD.ext hx5
 have HO5 := hid_ ho5
 have HO6 := hid_ ho6
 have HA5 := hid_ (fun x (hx : (Value.slice A5 F.xs1.length c5).ownBlock = some x) (q : x = gf ∨ x = gp) => show False from q.elim (fun q => own_blk_ne ho5 hb5 tblNeF (by rw [hx, q])) (fun q => own_blk_ne ho5 hp5 tblNeF (by rw [hx, q])))
 have HA6 := hid_ (fun x (hx : (Value.slice A6 F.xs2.length c6).ownBlock = some x) (q : x = gf ∨ x = gp) => show False from q.elim (fun q => own_blk_ne ho6 hb6 tblNeF (by rw [hx, q])) (fun q => own_blk_ne ho6 (hp5.ext hx6) tblNeF (by rw [hx, q])))
 have hu78 := hu7.trans hu8 (fun x h => .inl h)
 have HU68 : Hid (Upd (fun b => b = gf ∨ b = gp) w6 w8) := hid_ (hu78.mono_ (fun x h => .inl h))
 have HU58 : Hid (Upd (fun b => b = gf ∨ b = gp) w5 w8) := hid_ ((Upd.of_ext (S := fun b => b = gf ∨ b = gp) hx6).trans HU68.out (fun x h => .inl h))
 have HU48 : Hid (Upd (fun b => b = gf) w4 w8) := hid_ ((Upd.of_ext (S := fun b => b = gf) (((Ext.refl w4).drew.trans hx5).trans hx6)).trans hu78 (fun x h => .inl h))
 have HCD : Hid (∀ D B m d W g, Blk W g 47 (FC.cells { F with data := D } (.slice A5 F.xs1.length c5) (.slice A6 F.xs2.length c6) (.slice B m d)) → W.cell? ⟨g, 102, none⟩ = some (.slice B m d)) := hid_ (fun D B m d W g h => by unfold FC.cells at h; exact (fileB h hF.1 (tblL_len _ _ hF.2.1) (tblL_len _ _ hF.2.2)).c102)
 have hown0 : w8.ownsRow w8.heap.size 5 1 (.slice none 0 0) 0 (bytesV []) := by unfold bytesV; exact own_nil _ _ _ _
 have HD0 : Hid ([] = hurtN P M k 0) := hid_ (by unfold hurtN; rfl)
 clear q1 q2 q3 qa qb hb4 hp4 hx14 hgf hp5 hb5 ho5 ho6 hu78 hu7 hu8 hb1 hb2 hb3 hp2 hp3 hx1 hx2 hx3 hx12 hx13 c102 hx4 hbD hxD hx5 hx6 hb6 hb7 hbt HOW1 HOW2 HSP HC HFR HL1 HL2 HF HZ hts
 go_loopw [54] (fun iv wr => ∃ (i dl : Nat) (B0 : Option Addr) (d0 : Nat) (D : List Nat), i ≤ pn ∧ iv = .int .i64 (i : Int) ∧ Hid (D = hurtN P M k i) ∧ Hid (D.length = dl) ∧ Blk wr gf 47 (FC.cells { F with data := D } (.slice A5 F.xs1.length c5) (.slice A6 F.xs2.length c6) (.slice B0 dl d0)) ∧ wr.ownsRow w8.heap.size 5 1 (.slice B0 dl d0) dl (bytesV D) ∧ Upd (fun b => b = gf) w8 wr) (fun i _ => pn - (intOf i).toNat)
 case atStart => exact ⟨0, 0, none, 0, [], by omega, rfl, HD0, hid_ rfl, hb8, hown0, Upd.refl _ _⟩
 case round =>
  clear hown0 HD0 hb8
  obtain ⟨i, dl, B0, d0, D, hi, rfl, HD, HDL, hbf, hown, hu⟩ := hrel
  have hu4 := HU48.out.trans hu (fun x h => .inl h)
  have hq1 := HQ1.out.upd hu4 (fun ad e q => by have := HQA.out ad e; omega)
  have hq3 := HQ3.out.upd hu4 (fun ad e q => by have := HQB.out ad e; omega)
  have hdl : dl ≤ i * 1048578 := by rw [← HDL.out, HD.out]; exact HLEN.out i
  by_cases hlt : i < pn
  ·obtain ⟨pd0, u, hB, hpb, hpk, hpc⟩ := hq1.at1 hlt
   subst hB
   have hiP : i < P.length := by rw [HPN.out]; exact hlt
   obtain ⟨SA, sc, hv, hsl0⟩ := HQ2.out.2 i hiP
   rw [hv] at hpk
   obtain rfl := Option.some.inj hpk
   have hcell := hpc
   have hpl8 := HPL.out P[i] (List.getElem_mem hiP)
   have HPS : Hid (∀ W, Upd (fun b => b = gf) w8 W → SL W 1 (.slice SA P[i].length sc) P[i].length (bytesV P[i])) := hid_ (fun W h => SL.no8 HB4.out HN8.out hsl0 (HU48.out.trans h (fun x h => .inl h)))
   have hsu := show hurtN P M k (i + 1) = hurtN P M k i ++ (if i = 0 then [] else [255, M.getD (i - 1) 0 % 256]) ++ (if (i : Int) = k then [] else P.getD i []) by rw [hurtN]
   rw [show P.getD i [] = P[i] by rw [List.getD_eq_getElem?_getD, List.getElem?_eq_getElem hiP]; rfl, ← HD.out] at hsu
   obtain ⟨p, hp⟩ : ∃ p, P[i] = p := ⟨_, rfl⟩
   rw [hp] at hsu hcell hpl8 HPS
   obtain ⟨pl, hpl⟩ : ∃ q, p.length = q := ⟨_, rfl⟩
   rw [hpl] at hcell hpl8 HPS
   have HPLN := hid_ hpl
   have hdl2 : i * 1048578 ≤ 2000000 * 1048578 := Nat.mul_le_mul_right _ (by omega)
   have HDB : Hid (dl ≤ 10000000000000) := hid_ (by omega)
   have HPB : Hid (pl ≤ 1048576) := hid_ hpl8
   clear hv hp hpl hpc hdl hdl2 hpl8 hq1 hsl0
   by_cases hi0 : i = 0
   ·have H44 : Hid (decide ((0 : Int) < (i : Int)) = false) := hid_ (by rw [decide_eq_false_iff_not]; omega)
    rw [if_pos hi0, List.append_nil] at hsu
    by_cases hik : (i : Int) = k
    ·have H56 : Hid (decide ((i : Int) ≠ k) = false) := hid_ (by simp [hik])
     rw [if_pos hik, List.append_nil] at hsu
     have HSU := hid_ hsu
     clear hsu hi0 hik
     go_wp2_with (first
      | ((with_reducible apply gS 60); refine wl_run rfl (.bool false) (ex_gtr rfl rfl rfl H44.out) ?_)
      | ((with_reducible apply gS 74); refine wl_run rfl (.bool false) (ex_neq rfl rfl rfl H56.out) ?_))
     go_roundw
     case rel => exact ⟨i + 1, dl, B0, d0, D, by omega, by go_num, hid_ (by rw [HSU.out]), hid_ (by have h1 := HDL.out; have h2 := HPLN.out; (try simp only [List.length_append, List.length_cons, List.length_nil]); omega), hbf, hown, hu⟩
     case measure => simp [intOf]; omega
    ·have H56 : Hid (decide ((i : Int) ≠ k) = true) := hid_ (by simp [hik])
     rw [if_neg hik] at hsu
     have HSU := hid_ hsu
     clear hsu hi0 hik
     go_wp2_with (first
      | ((with_reducible apply gS 60); refine wl_run rfl (.bool false) (ex_gtr rfl rfl rfl H44.out) ?_)
      | ((with_reducible apply gS 74); refine wl_run rfl (.bool true) (ex_neq rfl rfl rfl H56.out) ?_)
      | ((with_reducible apply gS 76); refine wl_read rfl (.slice B0 dl d0) (ex_loadS rfl rfl (HCD.out _ _ _ _ _ gf hbf)) ?_)
      | ((with_reducible apply gS 78); refine wApf elt_by rfl _ _ rfl w8.heap.size _ _ _ rfl hown _ pl (bytesV p) rfl (HPS.out _ (hu)) (byte_one _) (by have := HDB.out; have := HPB.out; omega) (by have := HDB.out; have := HPB.out; omega) (by have := hu.size; omega) ?_; intro B12 d12 w12 ho12 hg12 hr12; rw [← bytesV_app] at ho12; have hbf12 := (upd_grown hg12).blk hbf (fun q => own_blk_ne hown hbf by_file q.symm))
      | ((with_reducible apply gT 79 78); refine store_d rfl (.tmp 79) (.tmp 78) rfl gf { F with data := D } hF (.slice A5 F.xs1.length c5) (.slice A6 F.xs2.length c6) (.slice B0 dl d0) (D ++ p) B12 (dl + pl) d12 rfl rfl hbf12 ?_; intro w13 hb13 hu13))
     have ho13 := own_upd2 ho12 hu13 (fun x hx q => own_blk_ne ho12 hbf12 by_file (by rw [hx, q]))
     have hu13' := (hu.grown hg12 (fun b hb => .inr (own_bs hown b hb))).trans hu13 (fun x h => .inl h)
     go_roundw
     case rel => exact ⟨i + 1, (dl + pl), B12, d12, (D ++ p), by omega, by go_num, hid_ (by rw [HSU.out]), hid_ (by have h1 := HDL.out; have h2 := HPLN.out; (try simp only [List.length_append, List.length_cons, List.length_nil]); omega), hb13, ho13, hu13'⟩
     case measure => simp [intOf]; omega
   ·have H44 : Hid (decide ((0 : Int) < (i : Int)) = true) := hid_ (by rw [decide_eq_true_eq]; omega)
    obtain ⟨j, hj⟩ : ∃ j, i - 1 = j := ⟨_, rfl⟩
    have R48 : Hid (∀ W, (binOp .sub 3 (.int .i64 (i : Int)) (.int .i64 1)).run Tryz.prog W = .ok (.int .i64 (j : Int)) W) := hid_ (fun W => by have h := run_subN i 1 (by omega) (by omega) W; rwa [hj] at h)
    have hjm : j < mn := by have := HPM.out; omega
    obtain ⟨md0, u, hB, hmbr, hmk, hcm⟩ := hq3.at1 hjm
    subst hB
    have hjM : j < M.length := by rw [HMN.out]; exact hjm
    have huu : u = .int .i64 ((M[j] : Nat) : Int) := by
     obtain ⟨h1, h2⟩ := ints_at _ _ _ hmk
     rw [h2, List.getElem_map]; rfl
    subst huu
    rw [if_neg hi0, hj, show M.getD j 0 = M[j] by rw [List.getD_eq_getElem?_getD, List.getElem?_eq_getElem hjM]; rfl] at hsu
    generalize M[j] = m8 at *
    clear hmk hj hq3
    by_cases hik : (i : Int) = k
    ·have H56 : Hid (decide ((i : Int) ≠ k) = false) := hid_ (by simp [hik])
     rw [if_pos hik, List.append_nil] at hsu
     have HSU := hid_ hsu
     clear hsu hi0 hik
     go_wp2_with ((with_reducible apply gS 60); refine wl_run rfl (.bool true) (ex_gtr rfl rfl rfl H44.out) ?_)
     have hbD := hbf.drew
     have hownD := own_keep hown ((Ext.refl wr).drew)
     have hI : Blk wr.drew gf 47 (FC.cells { F with data := D } (.slice A5 F.xs1.length c5) (.slice A6 F.xs2.length c6) (.slice B0 dl d0)) ∧ wr.drew.cell? (md0.add j) = some (.int .i64 (m8 : Int)) := ⟨hbD, hcm⟩
     refine wp_region_of (fun j => j == 1 || j == 6 || j == 8) (fun W => Blk W gf 47 (FC.cells { F with data := D } (.slice A5 F.xs1.length c5) (.slice A6 F.xs2.length c6) (.slice B0 dl d0)) ∧ W.cell? (md0.add j) = some (.int .i64 (m8 : Int))) (by kernel_rfl) ?_
     refine og_pure (k := 0) (by kernel_rfl) rfl (by rfl) (.pointer (some ⟨gf, 102, none⟩)) (fun W => by go_simp) ?_
     simp only [Act.put, sA, sB, sC]
     refine og_pure (k := 2) (by kernel_rfl) rfl (by rfl) (.slice (some md0) mn pd) (ex_move rfl rfl) ?_
     simp only [Act.put, sA, sB, sC]
     refine og_pure (k := 3) (by kernel_rfl) rfl (by rfl) (.int .i64 (i : Int)) (ex_move rfl rfl) ?_
     simp only [Act.put, sA, sB, sC]
     refine og_pure (k := 4) (by kernel_rfl) rfl (by rfl) (.int .i64 (j : Int)) (ex_binK rfl rfl rfl R48.out) ?_
     simp only [Act.put, sA, sB, sC]
     refine og_pure (k := 5) (by kernel_rfl) rfl (by rfl) (.pointer (some (md0.add j))) (by rw [show md0.add j = md0.add (j * 1) by rw [Nat.mul_one]]; exact ex_ixSl Tryz.underlying22 sizeI rfl rfl rfl hjm) ?_
     simp only [Act.put, sA, sB, sC]
     refine og_fix (k := 6) (by kernel_rfl) rfl (by rfl) (.int .i64 (m8 : Int)) (fun W hW => ex_loadI rfl rfl hW.2) hI ?_
     simp only [Act.put, sA, sB, sC]
     refine og_pure (k := 7) (by kernel_rfl) rfl (by rfl) (.int .u8 ((m8 % 256 : Nat) : Int)) (ex_conv8m (n := m8) rfl rfl) ?_
     simp only [Act.put, sA, sB, sC]
     refine og_fix (k := 1) (by kernel_rfl) rfl (by rfl) (.slice B0 dl d0) (fun W hW => ex_loadS rfl rfl (HCD.out _ _ _ _ W gf hW.1)) hI ?_
     simp only [Act.put, sA, sB, sC]
     refine of_loud (k := 8) (by kernel_rfl) rfl ?_
     refine wpList_lit2B rfl _ _ rfl (some 69) rfl 255 (m8 % 256) rfl rfl ?_
     intro w9 g9 hb9 hx9 hg9
     have hbf9 := hbD.ext hx9
     refine oi_end ⟨fun _ => ⟨hbf9, (hx9.cell (p := md0.add j) (by rw [block_of_add]; exact hmbr)).trans hcm⟩, ?_⟩
     simp only [Act.put, sA, sB, sC]
     refine of_loud (k := 9) (by kernel_rfl) rfl ?_
     refine wApf elt_by rfl _ _ rfl w8.heap.size _ _ _ rfl (own_keep hownD hx9) _ 2 (bytesV [255, m8 % 256]) rfl (blk_sl hb9) (byte_one _) (by have := HDB.out; have := HPB.out; omega) (by have := HDB.out; have := HPB.out; omega) (by have h1 := hu.size; have h2 := hx9.size; have h3 : wr.drew.heap.size = wr.heap.size := rfl; omega) ?_
     intro B10 d10 w10 ho10 hg10 hr10
     rw [← bytesV_app] at ho10
     have hbf10 := (upd_grown hg10).blk hbf9 (fun q => own_blk_ne (own_keep hownD hx9) hbf9 by_file q.symm)
     refine oi_end ⟨fun h => (by cases h), ?_⟩
     simp only [Act.put, sA, sB, sC]
     refine og_pure (k := 10) (by kernel_rfl) rfl (by rfl) (.pointer (some ⟨gf, 102, none⟩)) (fun W => by go_simp) ?_
     simp only [Act.put, sA, sB, sC]
     refine of_loud (k := 11) (by kernel_rfl) rfl ?_
     refine store_d rfl (.tmp 71) (.tmp 70) rfl gf { F with data := D } hF (.slice A5 F.xs1.length c5) (.slice A6 F.xs2.length c6) (.slice B0 dl d0) (D ++ [255, m8 % 256]) B10 (dl + 2) d10 rfl rfl hbf10 ?_
     intro w11 hb11 hu11
     refine oi_end ⟨fun h => (by cases h), ?_⟩
     simp only [Act.put, sA, sB, sC]
     refine of_done (by kernel_rfl) ?_
     have ho11 := own_upd2 ho10 hu11 (fun x hx q => own_blk_ne ho10 hbf10 by_file (by rw [hx, q]))
     have hua := ((hu.drew).trans (Upd.of_ext (S := fun b => b = gf) hx9) (fun x h => .inl h)).grown hg10 (fun b hb => .inr (own_bs hownD b hb))
     have hu11' := hua.trans hu11 (fun x h => .inl h)
     go_wp2_with (first
      | ((with_reducible apply gS 74); refine wl_run rfl (.bool false) (ex_neq rfl rfl rfl H56.out) ?_))
     go_roundw
     case rel => exact ⟨i + 1, (dl + 2), B10, d10, (D ++ [255, m8 % 256]), by omega, by go_num, hid_ (by rw [HSU.out]), hid_ (by have h1 := HDL.out; have h2 := HPLN.out; (try simp only [List.length_append, List.length_cons, List.length_nil]); omega), hb11, ho11, hu11'⟩
     case measure => simp [intOf]; omega
    ·have H56 : Hid (decide ((i : Int) ≠ k) = true) := hid_ (by simp [hik])
     rw [if_neg hik] at hsu
     have HSU := hid_ hsu
     clear hsu hi0 hik
     go_wp2_with ((with_reducible apply gS 60); refine wl_run rfl (.bool true) (ex_gtr rfl rfl rfl H44.out) ?_)
     have hbD := hbf.drew
     have hownD := own_keep hown ((Ext.refl wr).drew)
     have hI : Blk wr.drew gf 47 (FC.cells { F with data := D } (.slice A5 F.xs1.length c5) (.slice A6 F.xs2.length c6) (.slice B0 dl d0)) ∧ wr.drew.cell? (md0.add j) = some (.int .i64 (m8 : Int)) := ⟨hbD, hcm⟩
     refine wp_region_of (fun j => j == 1 || j == 6 || j == 8) (fun W => Blk W gf 47 (FC.cells { F with data := D } (.slice A5 F.xs1.length c5) (.slice A6 F.xs2.length c6) (.slice B0 dl d0)) ∧ W.cell? (md0.add j) = some (.int .i64 (m8 : Int))) (by kernel_rfl) ?_
     refine og_pure (k := 0) (by kernel_rfl) rfl (by rfl) (.pointer (some ⟨gf, 102, none⟩)) (fun W => by go_simp) ?_
     simp only [Act.put, sA, sB, sC]
     refine og_pure (k := 2) (by kernel_rfl) rfl (by rfl) (.slice (some md0) mn pd) (ex_move rfl rfl) ?_
     simp only [Act.put, sA, sB, sC]
     refine og_pure (k := 3) (by kernel_rfl) rfl (by rfl) (.int .i64 (i : Int)) (ex_move rfl rfl) ?_
     simp only [Act.put, sA, sB, sC]
     refine og_pure (k := 4) (by kernel_rfl) rfl (by rfl) (.int .i64 (j : Int)) (ex_binK rfl rfl rfl R48.out) ?_
     simp only [Act.put, sA, sB, sC]
     refine og_pure (k := 5) (by kernel_rfl) rfl (by rfl) (.pointer (some (md0.add j))) (by rw [show md0.add j = md0.add (j * 1) by rw [Nat.mul_one]]; exact ex_ixSl Tryz.underlying22 sizeI rfl rfl rfl hjm) ?_
     simp only [Act.put, sA, sB, sC]
     refine og_fix (k := 6) (by kernel_rfl) rfl (by rfl) (.int .i64 (m8 : Int)) (fun W hW => ex_loadI rfl rfl hW.2) hI ?_
     simp only [Act.put, sA, sB, sC]
     refine og_pure (k := 7) (by kernel_rfl) rfl (by rfl) (.int .u8 ((m8 % 256 : Nat) : Int)) (ex_conv8m (n := m8) rfl rfl) ?_
     simp only [Act.put, sA, sB, sC]
     refine og_fix (k := 1) (by kernel_rfl) rfl (by rfl) (.slice B0 dl d0) (fun W hW => ex_loadS rfl rfl (HCD.out _ _ _ _ W gf hW.1)) hI ?_
     simp only [Act.put, sA, sB, sC]
     refine of_loud (k := 8) (by kernel_rfl) rfl ?_
     refine wpList_lit2B rfl _ _ rfl (some 69) rfl 255 (m8 % 256) rfl rfl ?_
     intro w9 g9 hb9 hx9 hg9
     have hbf9 := hbD.ext hx9
     refine oi_end ⟨fun _ => ⟨hbf9, (hx9.cell (p := md0.add j) (by rw [block_of_add]; exact hmbr)).trans hcm⟩, ?_⟩
     simp only [Act.put, sA, sB, sC]
     refine of_loud (k := 9) (by kernel_rfl) rfl ?_
     refine wApf elt_by rfl _ _ rfl w8.heap.size _ _ _ rfl (own_keep hownD hx9) _ 2 (bytesV [255, m8 % 256]) rfl (blk_sl hb9) (byte_one _) (by have := HDB.out; have := HPB.out; omega) (by have := HDB.out; have := HPB.out; omega) (by have h1 := hu.size; have h2 := hx9.size; have h3 : wr.drew.heap.size = wr.heap.size := rfl; omega) ?_
     intro B10 d10 w10 ho10 hg10 hr10
     rw [← bytesV_app] at ho10
     have hbf10 := (upd_grown hg10).blk hbf9 (fun q => own_blk_ne (own_keep hownD hx9) hbf9 by_file q.symm)
     refine oi_end ⟨fun h => (by cases h), ?_⟩
     simp only [Act.put, sA, sB, sC]
     refine og_pure (k := 10) (by kernel_rfl) rfl (by rfl) (.pointer (some ⟨gf, 102, none⟩)) (fun W => by go_simp) ?_
     simp only [Act.put, sA, sB, sC]
     refine of_loud (k := 11) (by kernel_rfl) rfl ?_
     refine store_d rfl (.tmp 71) (.tmp 70) rfl gf { F with data := D } hF (.slice A5 F.xs1.length c5) (.slice A6 F.xs2.length c6) (.slice B0 dl d0) (D ++ [255, m8 % 256]) B10 (dl + 2) d10 rfl rfl hbf10 ?_
     intro w11 hb11 hu11
     refine oi_end ⟨fun h => (by cases h), ?_⟩
     simp only [Act.put, sA, sB, sC]
     refine of_done (by kernel_rfl) ?_
     have ho11 := own_upd2 ho10 hu11 (fun x hx q => own_blk_ne ho10 hbf10 by_file (by rw [hx, q]))
     have hua := ((hu.drew).trans (Upd.of_ext (S := fun b => b = gf) hx9) (fun x h => .inl h)).grown hg10 (fun b hb => .inr (own_bs hownD b hb))
     have hu11' := hua.trans hu11 (fun x h => .inl h)
     go_wp2_with (first
      | ((with_reducible apply gS 74); refine wl_run rfl (.bool true) (ex_neq rfl rfl rfl H56.out) ?_)
      | ((with_reducible apply gS 76); refine wl_read rfl (.slice B10 (dl + 2) d10) (ex_loadS rfl rfl (HCD.out _ _ _ _ _ gf hb11)) ?_)
      | ((with_reducible apply gS 78); refine wApf elt_by rfl _ _ rfl w8.heap.size _ _ _ rfl ho11 _ pl (bytesV p) rfl (HPS.out _ (hu11')) (byte_one _) (by have := HDB.out; have := HPB.out; omega) (by have := HDB.out; have := HPB.out; omega) (by have := hu11'.size; omega) ?_; intro B12 d12 w12 ho12 hg12 hr12; rw [← bytesV_app] at ho12; have hbf12 := (upd_grown hg12).blk hb11 (fun q => own_blk_ne ho11 hb11 by_file q.symm))
      | ((with_reducible apply gT 79 78); refine store_d rfl (.tmp 79) (.tmp 78) rfl gf { F with data := (D ++ [255, m8 % 256]) } hF (.slice A5 F.xs1.length c5) (.slice A6 F.xs2.length c6) (.slice B10 (dl + 2) d10) ((D ++ [255, m8 % 256]) ++ p) B12 ((dl + 2) + pl) d12 rfl rfl hbf12 ?_; intro w13 hb13 hu13))
     have ho13 := own_upd2 ho12 hu13 (fun x hx q => own_blk_ne ho12 hbf12 by_file (by rw [hx, q]))
     have hu13' := (hu11'.grown hg12 (fun b hb => .inr (own_bs ho11 b hb))).trans hu13 (fun x h => .inl h)
     go_roundw
     case rel => exact ⟨i + 1, ((dl + 2) + pl), B12, d12, ((D ++ [255, m8 % 256]) ++ p), by omega, by go_num, hid_ (by rw [HSU.out]), hid_ (by have h1 := HDL.out; have h2 := HPLN.out; (try simp only [List.length_append, List.length_cons, List.length_nil]); omega), hb13, ho13, hu13'⟩
     case measure => simp [intOf]; omega
  ·obtain rfl : i = pn := by omega
   have hDR : D = R := by rw [HD.out, HR.out]
   subst hDR
   have hbp := hu4.blk HP4.out (fun q => HGP.out q)
   have HSZ := hid_ (FC.size (F := { F with data := D }) hF (.slice A5 F.xs1.length c5) (.slice A6 F.xs2.length c6) (.slice B0 dl d0))
   have HFO : Hid ((FC.cells { F with data := D } (.slice A5 F.xs1.length c5) (.slice A6 F.xs2.length c6) (.slice B0 dl d0)).all (·.oneCell') = true) := hid_ (fileOne _ _ _ _ _ _ _ _ _ _)
   go_wp2_with (first
    | ((with_reducible apply gS 81); refine wLdB rfl 47 (.tmp 2) rfl gf rfl hbf _ Tryz.underlying47 rfl 103 sizeFile HSZ.out ?_)
    | ((with_reducible apply gT 4 81); refine wStB rfl 47 (.tmp 4) (.tmp 81) rfl gp _ rfl rfl hbp 103 sizeFile HSZ.out hzs.out HFO.out ?_; intro w14 hb14 hg14))
   have hx4r := hu4.ext HX14.out (fun x h => by have := HGF.out; omega)
   have hx14 : Ext w w14 := (upd_grown hg14).ext hx4r (fun x h => by injection h with h; have := HGP2.out; omega)
   have hown14 := own_upd2 hown (upd_grown hg14) (fun x hx q => own_blk_ne hown hbp by_file (by rw [hx]; exact q))
   have hs5 := (own_out (own_upd2 HO5.out ((HU58.out.trans (hu.mono_ (fun x h => .inl h)) (fun x h => .inl h)).trans (upd_grown hg14) (fun x h => .inl (.inr (by injection h with h; exact h.symm)))) (fun x hx q => HA5.out x hx q))).1
   have hs6 := (own_out (own_upd2 HO6.out ((HU68.out.trans (hu.mono_ (fun x h => .inl h)) (fun x h => .inl h)).trans (upd_grown hg14) (fun x h => .inl (.inr (by injection h with h; exact h.symm)))) (fun x hx q => HA6.out x hx q))).1
   exact ret_cell_tmp rfl rfl gp rfl hb14 _ Tryz.underlying47 rfl 103 sizeFile HSZ.out ⟨_, _, _, rfl, ⟨hs5, hs6, by show SL w14 1 _ D.length (bytesV D); rw [HDL.out]; exact (own_out hown14).1⟩, hx14⟩
end
section
attribute [local irreducible] showZ
set_option maxRecDepth 20000 in
set_option maxHeartbeats 4000000 in
theorem rescDec_bad (fv : Array Value) (hfs : fv.size = 103) (E : Int) (hE : E ≠ 0) (w : World) (HC : ∀ W, Ext w W → Calls Tryz.prog 50 #[.agg fv] W fun e W' => e = .returned (.int .i64 E) ∧ Ext W W') :
 Calls Tryz.prog 22 #[.agg fv] w (RcIs E 0 0 [] [] w) := by
 have HC := hid_ HC
 have hts := hid_ hfs
 have hne : (E != 0) = true := by simpa using hE
 have HPSZ := hid_ (fun a b v => picV_size a b v)
 have HP1 := hid_ (fun a b A n c => pic_one a b A n c)
 have HZP := zeroPicS
 have hz0s : Hid ((Value.agg (picV 0 0 (.slice none 0 0))).cells.size = 3) := hid_ rfl
 have HPB := hid_ built0PicS
 have hpo := hid_ (pic_one 0 0 none 0 0)
 have hps := hid_ (picV_size 0 0 (.slice none 0 0))
 have HR : Hid (∀ W, Ext w W → RcIs E 0 0 [] [] w (.returned (.tuple #[.agg (picV 0 0 (.slice none 0 0)), .slice none 0 0, .int .i64 E])) W) := hid_ (fun W h => ⟨none, 0, 0, none, 0, 0, rfl, RowsS.nil W, SL.nil W 1, rfl, h⟩)
 generalize picV 0 0 (.slice none 0 0) = pz at *
 clear hE
 go_enter Tryz.func22, Tryz.ntmps22
 go_wp2_with (first
  | ((with_reducible apply gS 1); refine wBox rfl 47 (.tmp 0) rfl fv rfl ?_; intro w1 gf hb1 hx1 hgf)
  | ((with_reducible apply gS 2); refine wAlo' rfl (some 2) rfl 31 rfl _ HZP ?_; intro w2 gp hp2 hx2 hgp; have hb2 := hb1.ext hx2; have hx12 := hx1.trans hx2)
  | ((with_reducible apply gS 9); refine wLdB rfl 47 (.tmp 1) rfl gf rfl hb2 _ Tryz.underlying47 rfl 103 sizeFile hts.out ?_)
  | (go_at_call 50; (with_reducible refine (HC.out _ hx12).mono ?_); rintro e w3 ⟨rfl, hx3⟩; have hp3 := hp2.ext hx3; have hx13 := hx12.trans hx3)
  | ((with_reducible apply gS 12); refine wl_run rfl (.bool true) (ex_neq rfl rfl rfl hne) ?_)
  | ((with_reducible apply gS 13); refine wpList_build0_g (by rfl) 31 rfl _ HPB.out ?_)
  | ((with_reducible apply gT 2 13); refine wStB rfl 31 (.tmp 2) (.tmp 13) rfl gp pz rfl rfl hp3 3 sizePic hps.out hz0s.out hpo.out ?_; intro w4 hb4 hg4; have hx4 := hx13.grown hg4 (by have := hx1.size; omega)))
 exact ret_cell_tmp2 rfl rfl gp rfl hb4 _ Tryz.underlying31 rfl 3 sizePic hps.out (HR.out _ hx4)
end
def FC.chk (F : FC) : Int := fcheckZ F.wd F.hi F.pt F.qs (checkZ F.cs1 F.xs1) (checkZ F.cs2 F.xs2) F.ev F.data.length
theorem FC.check (F : FC) (hF : F.shaped) (s1 s2 sd : Value) (w : World) (ha : F.at_ w s1 s2 sd) : Calls Tryz.prog 50 #[.agg (F.cells s1 s2 sd)] w fun e w' => e = .returned (.int .i64 F.chk) ∧ Ext w w' :=
 fcheck_any F.wd F.hi F.pt F.ev F.qs F.cs1 F.xs1 s1 F.cs2 F.xs2 s2 F.data sd w hF.1 hF.2.1 hF.2.2 ha.1 ha.2.1 ha.2.2
theorem FC.rcheck (F : FC) (hF : F.shaped) (s1 s2 sd : Value) (w : World) (ha : F.at_ w s1 s2 sd) : Calls Tryz.prog 52 #[.agg (F.cells s1 s2 sd)] w fun e w' => e = .returned (.int .i64 F.chk) ∧ Ext w w' :=
 rfcheck_any F.wd F.hi F.pt F.ev F.qs F.cs1 F.xs1 s1 F.cs2 F.xs2 s2 F.data sd w hF.1 hF.2.1 hF.2.2 ha.1 ha.2.1 ha.2.2
theorem zfile_chk : FC.zero.chk = 1 := by decide
theorem rescue_zero (w : World) : Calls Tryz.prog 22 #[.agg zFile] w (RcIs 1 0 0 [] [] w) :=
 rescDec_bad zFile zFile_size 1 (by decide) w (fun W _ => by
  have := FC.zero.check zero_shaped (.slice none 0 0) (.slice none 0 0) (.slice none 0 0) W (zero_at W)
  rw [zfile_chk] at this
  exact this)
end Go.Proofs.YtkggcjdlpendfaaGreatDoor
