/- Contracts for the law RescueDecodesCard, part 24: what the functions that it reaches answer, for all arguments that the theorems name. -/
import Derived.Test.YtkggcjdlpendfaaGreatDoorMRescueDecodesCard18
import Derived.Test.YtkggcjdlpendfaaGreatDoorMRescueDecodesCard23
import Derived.Test.YtkggcjdlpendfaaGreatDoorMRescueDecodesCard21
import Derived.Test.YtkggcjdlpendfaaGreatDoorMRescueDecodesCard6
import Derived.Test.YtkggcjdlpendfaaGreatDoorMRescueDecodesCard19
import Derived.Test.YtkggcjdlpendfaaGreatDoorMRescueDecodesCard22
import Derived.Test.YtkggcjdlpendfaaGreatDoorMRescueDecodesCard14
import Derived.Test.YtkggcjdlpendfaaGreatDoorMRescueDecodesCard15
import Derived.Test.YtkggcjdlpendfaaGreatDoorMRescueDecodesCard11
namespace Go.Proofs.YtkggcjdlpendfaaGreatDoor
set_option linter.unusedVariables false
set_option linter.unusedSimpArgs false
open Go.RowKit
section
theorem goesSrc : Goes Tryz.prog 242 := ⟨_, Tryz.func242, by kernel_rfl, by kernel_rfl⟩
theorem methSrc (a b : Addr) : Meth Tryz.prog 214 (.agg #[.pointer (some a), .pointer (some b)]) "Token" 242 (.agg #[.pointer (some a), .pointer (some b)]) := ⟨fun w => by kernel_rfl, goesSrc⟩
theorem segSrc (gk gr gc1 gc2 : Nat) (T1 T2 : List Tok) (A : Option Addr) (n c : Nat) (bs : List Nat) (W0 : World) (hG : ∀ (b : Bool) p, p ≤ (digsOf bs).length → getGo (if b then T1 else T2) (digsOf bs) p 16 1 = symZ (if b then T1 else T2) (digsOf bs) p)
 (hT1 : ∀ t ∈ T1, 0 ≤ t.1 ∧ t.1 ≤ 255) (hT2 : ∀ t ∈ T2, 0 ≤ t.1 ∧ t.1 ≤ 255) (B : Nat) (hB : gr < B) : Src 242 #[.agg #[.pointer (some ⟨gk, 0, none⟩), .pointer (some ⟨gr, 0, none⟩)]] #[] B (fun b => b = gr) (DecIn gk gr gc1 gc2 T1 T2 A n c bs W0) (segNext true T1 T2 (digsOf bs)) :=
 ⟨fun b e => by omega, fun b p W h _ => by simpa using segTok_any gk gr gc1 gc2 T1 T2 A n c bs W0 hG hT1 hT2 b p W h, fun s W W' h hu => h.keep hB hu, fun b p W _ h0 => segNext_wf hT1 hT2 h0⟩
theorem ptr2_one (p q : Option Addr) : (#[Value.pointer p, Value.pointer q]).all (·.oneCell') = true := by simp [Value.oneCell']
theorem own_lowB {w : World} {base size n : Nat} {e : TypeId} {v : Value} {xs : List Value} (ho : w.ownsRow base e size v n xs) : ∀ b, v.ownBlock = some b → base ≤ b ∧ b < w.heap.size := by
 obtain ⟨-, hh⟩ := ho
 rcases hh with ⟨rfl, -⟩ | ⟨k, cap, cur, rfl, h1, hg, -⟩
 ·intro b e1; simp [Value.ownBlock] at e1
 ·intro b e1
  have : k = b := by simpa [Value.ownBlock] using e1
  subst this
  exact ⟨h1, Blk.lt (w := w) (t := e) (cs := cur) hg⟩
theorem own_noneB {w : World} {base size n c : Nat} {e : TypeId} {A : Option Addr} {xs : List Value} (ho : w.ownsRow base e size (.slice A n c) n xs) : A = none → c = 0 := by
 obtain ⟨-, hh⟩ := ho
 rcases hh with ⟨h1, -⟩ | ⟨k, cap, cur, h1, -⟩
 ·injection h1 with _ _ h3; exact fun _ => h3
 ·injection h1 with h2 _ _; exact fun h => by rw [h] at h2; cases h2
theorem srcNe : 214 ≠ 33 := by decide
theorem builtSrc (p q : Addr) : Tryz.prog.built 214 [(0, .pointer (some p)), (1, .pointer (some q))] = some #[.pointer (some p), .pointer (some q)] := by
 show _ = _
 kernel_rfl
theorem sizeSrc : (Tryz.prog.info? 214).map (·.size) = some 2 := by kernel_rfl
theorem zeroSrc : (Tryz.prog.info? 214).bind (·.zero) = some (.agg #[.pointer none, .pointer none]) := by kernel_rfl
theorem plZ_lt : ∀ (bs z : List Nat), (∀ b ∈ bs, b < 256) → plZ bs = some z → (∀ b ∈ z, b < 256) ∧ z.length ≤ bs.length
 | [], z, _, h => by
   obtain rfl : [] = z := by simpa [plZ] using h
   exact ⟨by simp, by simp⟩
 | [x], z, hl, h => by
   rw [plZ] at h
   split at h
   ·cases h
   ·obtain rfl := Option.some.inj h
    exact ⟨hl, by simp⟩
 | x :: y :: r, z, hl, h => by
   rw [plZ] at h
   split at h
   ·split at h
    ·obtain ⟨q, hq, rfl⟩ := Option.map_eq_some_iff.1 h
     obtain ⟨h1, h2⟩ := plZ_lt r q (fun b hb => hl b (by simp [hb])) hq
     refine ⟨fun b hb => ?_, by simp only [List.length_cons]; omega⟩
     rcases List.mem_cons.1 hb with rfl | hb
     ·omega
     ·exact h1 b hb
    ·cases h
   ·obtain ⟨q, hq, rfl⟩ := Option.map_eq_some_iff.1 h
    obtain ⟨h1, h2⟩ := plZ_lt (y :: r) q (fun b hb => hl b (by simp [hb])) hq
    refine ⟨fun b hb => ?_, by simp only [List.length_cons] at h2 ⊢; omega⟩
    rcases List.mem_cons.1 hb with rfl | hb
    ·exact hl b (by simp)
    ·exact h1 b hb
attribute [local irreducible] bytesV bv plZ digsOf segNext blkZ segGo numB
set_option maxRecDepth 20000 in
set_option maxHeartbeats 8000000 in
theorem segDec_good (T1 T2 : List Tok) (t1 t2 : List Value) (A : Option Addr) (n c : Nat) (bs : List Nat) (nn : Int) (m0 : Int) (w : World) (hs : SL w 1 (.slice A n c) n (bytesV bs)) (hA : A = none → c = 0) (hlt : ∀ b ∈ bs, b < 256) (hn : n ≤ 1048576) (hm : w.cell? ⟨0, 0, none⟩ = some (.int .i64 m0)) (h1 : t1.length = 17) (h2 : t2.length = 17)
 (hG : ∀ D (b : Bool) p, p ≤ D.length → getGo (if b then T1 else T2) D p 16 1 = symZ (if b then T1 else T2) D p) (hT1 : ∀ t ∈ T1, 0 ≤ t.1 ∧ t.1 ≤ 255) (hT2 : ∀ t ∈ T2, 0 ≤ t.1 ∧ t.1 ≤ 255)
 (o1 : t1.toArray.all (·.oneCell') = true) (o2 : t2.toArray.all (·.oneCell') = true)
 (C1 : ∀ W, Ext w W → Calls Tryz.prog 102 #[.agg t1.toArray] W fun e W' => e = .returned (.int .i64 0) ∧ Ext W W')
 (C2 : ∀ W, Ext w W → Calls Tryz.prog 102 #[.agg t2.toArray] W fun e W' => e = .returned (.int .i64 0) ∧ Ext W W')
 (N1 : ∀ W, Ext w W → Calls Tryz.prog 184 #[.agg t1.toArray] W fun e W' => ∃ gc, e = .returned (.pointer (some ⟨gc, 0, none⟩)) ∧ CoderS W' gc T1 ∧ Ext W W')
 (N2 : ∀ W, Ext w W → Calls Tryz.prog 184 #[.agg t2.toArray] W fun e W' => ∃ gc, e = .returned (.pointer (some ⟨gc, 0, none⟩)) ∧ CoderS W' gc T2 ∧ Ext W W') :
 Calls Tryz.prog 110 #[.agg (t1 ++ t2).toArray, .slice A n c, .int .i64 nn] w (DecIs (decR true T1 T2 nn (plZ bs)) w) := by
 have HM := hid_ (fun W (h : Ext w W) => made_good T1 T2 t1 t2 W h1 h2 o1 o2 (fun W' h' => C1 W' (h.trans h')) (fun W' h' => C2 W' (h.trans h')) (fun W' h' => N1 W' (h.trans h')) (fun W' h' => N2 W' (h.trans h')))
 have hsz := hid_ (tblsWhole h1 h2)
 have HPL := hid_ (fun W (h : Ext w W) => plain_any A n c bs m0 W (hs.ext h) hA hlt hn (cell_keep hm h))
 have hbl := (sl_len hs).1
 have hpz := plZ_lt bs
 generalize (t1 ++ t2).toArray = tt at *
 clear C1 C2 N1 N2 h1 h2 o1 o2 hs hm hA
 by_cases hr : nn < 0 ∨ 400 < nn
 ·have HR : Hid (decR true T1 T2 nn (plZ bs) = (1, [])) := hid_ (by unfold decR; rw [if_pos hr])
  rw [HR.out]
  clear HPL hpz hG hT1 hT2
  by_cases h0 : nn < 0
  ·go_enter Tryz.func110, Tryz.ntmps110
   go_wp2_with (first
    | ((with_reducible apply gS 3); refine wBox rfl 44 (.tmp 0) rfl tt rfl ?_; intro w1 g hb1 hx1 hg1)
    | ((with_reducible apply gS 20); refine wLdB rfl 44 (.tmp 3) rfl g rfl hb1 _ Tryz.underlying44 rfl 34 sizeTbls hsz.out ?_)
    | (go_at_call 152; (with_reducible refine (HM.out _ hx1).mono ?_); rintro e w2 ⟨gk, gc1, gc2, rfl, hk2, hc21, hc22, hx2⟩; have hx2' := hx1.trans hx2))
   refine bodyPost_ret (results_tmp2 rfl _ _ _) rfl ?_
   refine ⟨hx2', ?_⟩
   rw [if_neg (show ¬ (1 : Int) = 0 by decide)]
   rfl
  ·have h4 : 400 < nn := hr.resolve_left h0
   clear hr
   go_enter Tryz.func110, Tryz.ntmps110
   go_wp2_with (first
    | ((with_reducible apply gS 3); refine wBox rfl 44 (.tmp 0) rfl tt rfl ?_; intro w1 g hb1 hx1 hg1)
    | ((with_reducible apply gS 20); refine wLdB rfl 44 (.tmp 3) rfl g rfl hb1 _ Tryz.underlying44 rfl 34 sizeTbls hsz.out ?_)
    | (go_at_call 152; (with_reducible refine (HM.out _ hx1).mono ?_); rintro e w2 ⟨gk, gc1, gc2, rfl, hk2, hc21, hc22, hx2⟩; have hx2' := hx1.trans hx2))
   refine bodyPost_ret (results_tmp2 rfl _ _ _) rfl ?_
   refine ⟨hx2', ?_⟩
   rw [if_neg (show ¬ (1 : Int) = 0 by decide)]
   rfl
 ·obtain ⟨N, hN⟩ : ∃ N : Nat, nn = (N : Int) := ⟨nn.toNat, by omega⟩
  subst hN
  have hN4 : N ≤ 400 := by omega
  have h0I : ¬ (N : Int) < 0 := by omega
  have h4I : ¬ (400 : Int) < (N : Int) := by omega
  cases hq : plZ bs with
  | none =>
    have HR : Hid (decR true T1 T2 (N : Int) none = (4, [])) := hid_ (by unfold decR; rw [if_neg hr])
    rw [hq] at HPL
    rw [HR.out]
    clear hq hpz hG hT1 hT2 hr
    go_enter Tryz.func110, Tryz.ntmps110
    go_wp2_with (first
     | ((with_reducible apply gS 3); refine wBox rfl 44 (.tmp 0) rfl tt rfl ?_; intro w1 g hb1 hx1 hg1)
     | ((with_reducible apply gS 20); refine wLdB rfl 44 (.tmp 3) rfl g rfl hb1 _ Tryz.underlying44 rfl 34 sizeTbls hsz.out ?_)
     | (go_at_call 152; (with_reducible refine (HM.out _ hx1).mono ?_); rintro e w2 ⟨gk, gc1, gc2, rfl, hk2, hc21, hc22, hx2⟩; have hx2' := hx1.trans hx2)
     | (go_at_call 160; (with_reducible refine (HPL.out _ hx2').mono ?_); rintro e w3 ⟨rfl, hx3⟩))
    refine bodyPost_ret (results_tmp2 rfl _ _ _) rfl ?_
    refine ⟨hx2'.trans hx3, ?_⟩
    rw [if_neg (show ¬ (4 : Int) = 0 by decide)]
    rfl
  | some pb =>
    obtain ⟨hplt, hpl⟩ := hpz pb hlt hq
    have hRd : decR true T1 T2 (N : Int) (some pb) = segFin (digsOf pb) (segGo (segNext true T1 T2 (digsOf pb)) N 0 0 []) := by unfold decR; rw [if_neg hr]; rfl
    rw [hRd]
    rw [hq] at HPL
    obtain ⟨pn, hpn⟩ : ∃ k, pb.length = k := ⟨_, rfl⟩
    have HDL := hid_ (show (digsOf pb).length = 8 * pn by rw [digsOf_len, hpn])
    have hpn2 : pn ≤ 1048576 := by omega
    have HG := hid_ (fun (b : Bool) p h => hG (digsOf pb) b p h)
    have HT1 := hid_ hT1
    have HT2 := hid_ hT2
    have HPN := hid_ hpn
    have HPLT := hid_ hplt
    clear hq hpz hG hT1 hT2 hr hRd hplt hpl hlt hbl
    have HNR := hid_ (fun B d W (h : SL W 1 (.slice B pn d) pn (bytesV pb)) => newReader_any B pn d pb W h HPN.out HPLT.out (by omega))
    have hR0 : ∃ R, segGo (segNext true T1 T2 (digsOf pb)) N 0 0 [] = R := ⟨_, rfl⟩
    obtain ⟨R, hR0⟩ := hR0
    have HR0 : Hid (segGo (segNext true T1 T2 (digsOf pb)) (N - 0) 0 0 [] = R) := hid_ hR0
    rw [hR0]
    obtain ⟨FIN, hF⟩ : ∃ F, segFin (digsOf pb) R = F := ⟨_, rfl⟩
    have HFIN := hid_ hF
    rw [hF]
    have hkn0 := zero48
    have HAL := hid_ (show (Tryz.prog.info? 33).bind (·.zero) = some (.agg (bv (List.replicate 64 0))) from zero48)
    have hz0 := hid_ (show (Value.agg (bv (List.replicate 64 0))).cells.size = 64 by rw [show (Value.agg (bv (List.replicate 64 0))).cells = bv (List.replicate 64 0) from rfl, bv_size]; rfl)
    generalize bv (List.replicate 64 0) = cz at *
    clear hR0 hF hkn0 hpn
    go_enter Tryz.func110, Tryz.ntmps110
    go_wp2_with (first
     | ((with_reducible apply gS 3); refine wBox rfl 44 (.tmp 0) rfl tt rfl ?_; intro w1 g hb1 hx1 hg1)
     | ((with_reducible apply gS 20); refine wLdB rfl 44 (.tmp 3) rfl g rfl hb1 _ Tryz.underlying44 rfl 34 sizeTbls hsz.out ?_)
     | (go_at_call 152; (with_reducible refine (HM.out _ hx1).mono ?_); rintro e w2 ⟨gk, gc1, gc2, rfl, hk2, hc21, hc22, hx2⟩; have hx2' := hx1.trans hx2)
     | (go_at_call 160; (with_reducible refine (HPL.out _ hx2').mono ?_); rintro e w3 ⟨B, k3, d3, rfl, hk3, hs3, hn3, hx3⟩; obtain rfl : pn = k3 := HPN.out.symm.trans hk3)
     | (go_at_call 161; (with_reducible refine (HNR.out _ _ _ hs3).mono ?_); rintro e w4 ⟨gr, rfl, hr4, hx4, hg4, hg4'⟩)
     | ((with_reducible apply gS 44); refine wl_run rfl (.agg #[.pointer (some ⟨gk, 0, none⟩), .pointer (some ⟨gr, 0, none⟩)]) (ex_build2 rfl rfl rfl (builtSrc _ _)) ?_)
     | ((with_reducible apply gS 10); refine wAlo' rfl (some 10) rfl 214 rfl _ zeroSrc ?_; intro w5 g10 hb5 hx5 hg5)
     | ((with_reducible apply gT 10 44); refine wStB rfl 214 (.tmp 10) (.tmp 44) rfl _ _ rfl rfl hb5 2 sizeSrc rfl rfl (ptr2_one _ _) ?_; intro w6 hb6 hg6))
    have hx46 : Ext w4 w6 := hx5.grown hg6 hg5
    have hD6 : DecIn gk gr gc1 gc2 T1 T2 B pn d3 pb w3 w6 0 := ⟨hk2.ext hx3, hc21.ext hx3, hc22.ext hx3, hg4, hx4.trans hx46, hr4.ext hx46⟩
    have hx6 : Ext w w6 := ((hx2'.trans hx3).trans hx4).trans hx46
    have hg10 : ¬ g10 = gr := by have := hg4'; omega
    have hgrw : w.heap.size ≤ gr := by have := (hx2'.trans hx3).size; omega
    clear hb1 hx1 hg1 hk2 hc21 hc22 hx2 hx2' hk3 hs3 hn3 hx3 hr4 hx4 hg4 hb5 hx5 hg5 hg6 hx46
    have hlt6 := hD6.lt
    obtain ⟨wo, hwo⟩ : ∃ wo : World, wo = w6 := ⟨_, rfl⟩
    have HGR : Hid (gr < wo.heap.size) := hid_ (by rw [hwo]; exact hlt6)
    have HW6 : Hid (wo.heap.size ≤ w6.heap.size) := hid_ (by rw [hwo]; exact Nat.le_refl _)
    have HWW : Hid (w.heap.size ≤ wo.heap.size) := hid_ (by rw [hwo]; exact hx6.size)
    have how : OwnV w6 wo.heap.size 33 64 (.slice none 0 0) 0 (ints []) := OwnV.nil _ _ _ _
    clear hwo
    go_loopw [11, 12, 46] (fun bf x iv wr => ∃ (k p : Nat) (before : Int) (L : List Int), k ≤ N ∧ iv = .int .i64 (k : Int) ∧ bf = .int .i64 before ∧ OwnV wr wo.heap.size 33 64 x k (ints L) ∧ DecIn gk gr gc1 gc2 T1 T2 B pn d3 pb w3 wr p ∧ Blk wr g10 214 #[.pointer (some ⟨gk, 0, none⟩), .pointer (some ⟨gr, 0, none⟩)] ∧ Hid (-2047 ≤ before ∧ before ≤ 2047) ∧ Hid (segGo (segNext true T1 T2 (digsOf pb)) (N - k) before p L = R) ∧ Hid (wo.heap.size ≤ wr.heap.size) ∧ Ext w wr) (fun _ _ i _ => N - (intOf i).toNat)
    case atStart => exact ⟨0, 0, 0, [], by omega, rfl, rfl, how, hD6, hb6, hid_ (by omega), HR0, HW6, hx6⟩
    case round =>
     clear how hD6 hb6 HR0 HW6 hx6 hlt6
     obtain ⟨k, p, before, L, hk, rfl, rfl, ⟨OA, oc, rfl, hown⟩, hD, hbs, HBF, HRR, HSZ, hx⟩ := hrel
     by_cases hlk : k < N
     ·have HFR := hid_ (fun W (h : DecIn gk gr gc1 gc2 T1 T2 B pn d3 pb w3 W p) => from_any before HBF.out.1 HBF.out.2 (methSrc ⟨gk, 0, none⟩ ⟨gr, 0, none⟩) (segSrc gk gr gc1 gc2 T1 T2 B pn d3 pb w3 HG.out HT1.out HT2.out W.heap.size h.lt) W p h rfl)
      have HE : Hid ((blkZ (segNext true T1 T2 (digsOf pb)) before p).1 ≠ 0 → R = ((blkZ (segNext true T1 T2 (digsOf pb)) before p).1, [], p)) := hid_ (fun h => by rw [← HRR.out, show N - k = (N - (k + 1)) + 1 by omega, segGo_err h])
      have HO : Hid ((blkZ (segNext true T1 T2 (digsOf pb)) before p).1 = 0 → segGo (segNext true T1 T2 (digsOf pb)) (N - (k + 1)) ((blkZ (segNext true T1 T2 (digsOf pb)) before p).2.1.getD 0 0) (blkZ (segNext true T1 T2 (digsOf pb)) before p).2.2.2 (L ++ (blkZ (segNext true T1 T2 (digsOf pb)) before p).2.1) = R) := hid_ (fun h => by rw [← HRR.out, show N - k = (N - (k + 1)) + 1 by omega, segGo_ok h])
      have hzl := (blkZ_len (segNext true T1 T2 (digsOf pb)) before p).1
      have HHD := hid_ (blkZ_head (segNext true T1 T2 (digsOf pb)) before p)
      generalize blkZ (segNext true T1 T2 (digsOf pb)) before p = G at *
      obtain ⟨ge, gz, gt, gp⟩ := G
      unfold FromIs at HFR
      dsimp only at HFR HE HO hzl HHD
      have HZL := hid_ hzl
      have HS64 := hid_ (show (bv gz).size = 64 by rw [bv_size]; exact hzl)
      have HO64 := hid_ (bv_one gz)
      clear hzl HRR
      by_cases hge : ge = 0
      ·subst hge
       have HO2 := hid_ (HO.out rfl)
       have HH2 := hid_ (HHD.out rfl)
       have HH0 : Hid ((bv gz)[0]? = some (.int .i64 (gz.getD 0 0))) := hid_ (by rw [bv_at _ 0 (by rw [HZL.out]; omega)]; simp [List.getD_eq_getElem?_getD, HZL.out])
       clear HE HO HHD
       go_wp2_with (first
        | ((with_reducible apply gS 50); refine wLdB rfl 214 (.tmp 10) rfl g10 rfl hbs _ Tryz.underlying214 rfl 2 sizeSrc rfl ?_)
        | (go_at_call 162; (with_reducible refine (HFR.out _ hD).mono ?_); rintro e w8 ⟨A8, c8, rfl, -, hI8, hu8⟩; have hb8 := hu8.blk hbs hg10; have ho8 := own_upd hown hu8 (fun x e => by have := HGR.out; omega); have hx8 : Ext w w8 := hu8.ext hx (fun x e => by omega); have hs8 := hu8.size)
        | ((with_reducible apply gS 13); refine wAlo' rfl (some 13) rfl 33 rfl _ HAL.out ?_; intro w9 g13 hb9 hx9 hg9)
        | ((with_reducible apply gT 13 53); refine wStB rfl 33 (.tmp 13) (.tmp 53) rfl _ _ rfl rfl hb9 64 size48 HS64.out hz0.out HO64.out ?_; intro w10 hb10 hg10'; have hx10 : Ext w8 w10 := hx9.grown hg10' hg9)
        | ((with_reducible apply gS 60); refine wLdB rfl 33 (.tmp 13) rfl g13 rfl hb10 _ Tryz.underlying33 rfl 64 size48 HS64.out ?_)
        | ((with_reducible apply gS 61); refine wLit1 rfl 25 33 (.tmp 60) rfl (some 61) rfl Tryz.underlying25 64 size48 zero48' _ rfl HS64.out (by omega) (by omega) ?_; intro w11 g61 hb11 hx11 hg11; have hx811 := hx10.trans hx11; have ho11 := own_keep ho8 hx811)
        | ((with_reducible apply gS 62); at_builtin; refine wApf elt_blk rfl (.tmp 59) (.tmp 61) rfl wo.heap.size (.slice OA k oc) k (ints L) rfl ho11 _ 1 (ints gz) rfl (blk_sl1 hb11 HZL.out) (ints_one_mem gz) (by omega) (by omega) (by have := HSZ.out; have := hx811.size; omega) ?_; intro A12 c12 w12 ho12 hgr12 hor12; have hb13 := hb10.ext hx11; have hu12 := upd_grown hgr12; have hlo8 := own_lowB ho8; have hb12 := hu12.blk hb13 (fun e => by have := (hlo8 _ e).2; omega); have q13 : w12.cell? ⟨g13, 0, none⟩ = some (.int .i64 (gz.getD 0 0)) := (hb12.cell 0).trans HH0.out))
       go_roundw
       case rel =>
        have hlo := own_lowB ho11
        refine ⟨k + 1, gp, gz.getD 0 0, L ++ gz, by omega, by go_num, rfl, ⟨A12, c12, rfl, by rw [ints_app]; exact ho12⟩, (hI8.ext hx811).keep HGR.out (upd_sub hu12 (fun b e => (hlo b e).1)), hu12.blk (hb8.ext hx811) (fun e => own_blkE (hb8.ext hx811) ho11 srcNe e.symm), HH2, HO2, hid_ ?_, hu12.ext (hx8.trans hx811) (fun b e => by have := (hlo b e).1; have := HWW.out; omega)⟩
        have h1 := HSZ.out
        have h2 := hx811.size
        have h3 := hu12.size
        omega
       case measure => simp [intOf]; omega
      ·have hgb : (ge != 0) = true := by simpa using hge
       have HRE := hid_ (HE.out hge)
       have HGE := hid_ hge
       clear hge HE HO HHD
       go_wp2_with (first
        | ((with_reducible apply gS 50); refine wLdB rfl 214 (.tmp 10) rfl g10 rfl hbs _ Tryz.underlying214 rfl 2 sizeSrc rfl ?_)
        | (go_at_call 162; (with_reducible refine (HFR.out _ hD).mono ?_); rintro e w8 ⟨A8, c8, rfl, -, hI8, hu8⟩; have hx8 : Ext w w8 := hu8.ext hx (fun x e => by omega))
        | ((with_reducible apply gS 13); refine wAlo' rfl (some 13) rfl 33 rfl _ HAL.out ?_; intro w9 g13 hb9 hx9 hg9)
        | ((with_reducible apply gT 13 53); refine wStB rfl 33 (.tmp 13) (.tmp 53) rfl _ _ rfl rfl hb9 64 size48 HS64.out hz0.out HO64.out ?_; intro w10 hb10 hg10'; have hx10 : Ext w8 w10 := hx9.grown hg10' hg9))
       refine bodyPost_ret (results_tmp2 rfl _ _ _) rfl ?_
       have hfe : FIN = (ge, []) := by rw [← HFIN.out, HRE.out]; unfold segFin; rw [if_pos HGE.out]
       rw [hfe]
       refine ⟨hx8.trans hx10, ?_⟩
       rw [if_neg HGE.out]
       rfl
     ·have hkN : N - k = 0 := by omega
      have HR2 : Hid (R = (0, L, p)) := hid_ (by rw [← HRR.out, hkN, segGo])
      have hp8 := hD.r.2.2.2.2.2.2
      have hll : L.length = k * 64 := by have := hown.1; simpa [ints] using this
      have hln := own_noneB hown
      obtain ⟨lf, hlf⟩ : ∃ l, 8 * pn - p = l := ⟨_, rfl⟩
      have HLF := hid_ (fun W h => left_any gr B pn d3 p pb W h)
      rw [hlf] at HLF
      obtain ⟨m, hm⟩ : ∃ m, lf % 8 = m := ⟨_, rfl⟩
      have HGT := hid_ (fun W h => get_yes gr B pn d3 p pb m W h (by omega) (by omega))
      obtain ⟨x, hx0⟩ : ∃ x, numB (((digsOf pb).drop p).take m) = x := ⟨_, rfl⟩
      rw [hx0] at HGT
      have hm8 : m < 8 := by omega
      have H73 : Hid (∀ W, (binOp .rem 3 (.int .i64 (lf : Int)) (.int .i64 8)).run Tryz.prog W = .ok (.int .i64 (m : Int)) W) := hid_ (fun W => by rw [show (8 : Int) = ((8 : Nat) : Int) from rfl, run_remN lf 8 (by omega) (by omega), hm])
      have hdl : ((digsOf pb).drop p).length = lf := by rw [List.length_drop, HDL.out, hlf]
      have hlf2 : lf ≤ 8388608 := by omega
      by_cases h7 : 7 < lf
      ·have HFE : Hid (FIN = (4, [])) := hid_ (by rw [← HFIN.out, HR2.out]; unfold segFin; rw [if_neg (by simp), if_pos (.inl (by rw [HDL.out]; dsimp only; omega))])
       have H78 : Hid (decide ((7 : Int) < (lf : Int)) = true) := hid_ (by rw [decide_eq_true]; omega)
       clear HRR HFIN HR2 hlf hm hx0 hp8 hdl
       go_wp2_with (first
        | ((with_reducible apply gS 67); refine wl_read rfl (.pointer (some ⟨gr, 0, none⟩)) (ex_loadR rfl rfl (hbs.cell 1)) ?_)
        | (go_at_call 163; (with_reducible refine (HLF.out _ hD.r).mono ?_); rintro e w8 ⟨rfl, hx8⟩; have hb8 := hbs.ext hx8; have hI8 := hD.ext hx8)
        | ((with_reducible apply gS 71); refine wl_read rfl (.pointer (some ⟨gr, 0, none⟩)) (ex_loadR rfl rfl (hb8.cell 1)) ?_)
        | ((with_reducible apply gS 73); refine wl_run rfl (.int .i64 (m : Int)) (ex_bin rfl rfl rfl H73.out) ?_)
        | (go_at_call 164; (with_reducible refine (HGT.out _ hI8.r).mono ?_); rintro e w9 ⟨rfl, -, hu9⟩; have hx9 := hu9.ext (hx.trans hx8) (fun x e => by omega); have ho9 := own_upd (own_keep hown hx8) hu9 (fun x e => by have := HGR.out; omega))
        | ((with_reducible apply gS 78); refine wl_run rfl (.bool true) (ex_gtr rfl rfl rfl H78.out) ?_))
       refine bodyPost_ret (results_tmp2 rfl _ _ _) rfl ?_
       rw [HFE.out]
       refine ⟨hx9, ?_⟩
       rw [if_neg (show ¬ (4 : Int) = 0 by decide)]
       rfl
      ·have hml : m = lf := by omega
       subst hml
       obtain ⟨Q, hQ⟩ : ∃ Q : Nat, 2 ^ m = Q := ⟨_, rfl⟩
       have hQ1 : 0 < Q := by rw [← hQ]; exact Nat.two_pow_pos m
       have hQ2 : Q < 1000 := by rw [← hQ]; have := Nat.pow_le_pow_right (n := 2) (by omega) (show m ≤ 7 by omega); have h128 : (2 : Nat) ^ 7 = 128 := by decide
                                 omega
       obtain ⟨Q1, hQ3⟩ : ∃ q, Q - 1 = q := ⟨_, rfl⟩
       have H82 : Hid (∀ W, (binOp .shl 3 (.int .i64 1) (.int .i64 (m : Int))).run Tryz.prog W = .ok (.int .i64 (Q : Int)) W) := hid_ (fun W => by rw [run_shl1 m (by omega), ← hQ]; push_cast; rfl)
       have H83 : Hid (∀ W, (binOp .sub 3 (.int .i64 (Q : Int)) (.int .i64 1)).run Tryz.prog W = .ok (.int .i64 (Q1 : Int)) W) := hid_ (fun W => by rw [show (1 : Int) = ((1 : Nat) : Int) from rfl, run_subN Q 1 (by omega) (by omega), hQ3])
       have H78 : Hid (decide ((7 : Int) < (m : Int)) = false) := hid_ (by rw [decide_eq_false]; omega)
       have hon := ones_iff ((digsOf pb).drop p)
       rw [hdl, hQ, hQ3, ← List.take_of_length_le (i := m) (l := (digsOf pb).drop p) (by omega), hx0, List.take_of_length_le (by omega)] at hon
       by_cases hf : false ∈ (digsOf pb).drop p
       ·have HFE : Hid (FIN = (4, [])) := hid_ (by rw [← HFIN.out, HR2.out]; unfold segFin; rw [if_neg (by simp), if_pos (.inr hf)])
        have H84 : Hid (decide ((x : Int) ≠ (Q1 : Int)) = true) := hid_ (by rw [decide_eq_true_eq]; intro e; exact hon.1 (by exact_mod_cast e) hf)
        clear HRR HFIN HR2 hlf hm hx0 hp8 hdl hon hQ hQ3 hf
        go_wp2_with (first
         | ((with_reducible apply gS 67); refine wl_read rfl (.pointer (some ⟨gr, 0, none⟩)) (ex_loadR rfl rfl (hbs.cell 1)) ?_)
         | (go_at_call 163; (with_reducible refine (HLF.out _ hD.r).mono ?_); rintro e w8 ⟨rfl, hx8⟩; have hb8 := hbs.ext hx8; have hI8 := hD.ext hx8)
         | ((with_reducible apply gS 71); refine wl_read rfl (.pointer (some ⟨gr, 0, none⟩)) (ex_loadR rfl rfl (hb8.cell 1)) ?_)
         | ((with_reducible apply gS 73); refine wl_run rfl (.int .i64 (m : Int)) (ex_bin rfl rfl rfl H73.out) ?_)
         | (go_at_call 164; (with_reducible refine (HGT.out _ hI8.r).mono ?_); rintro e w9 ⟨rfl, -, hu9⟩; have hx9 := hu9.ext (hx.trans hx8) (fun x e => by omega); have ho9 := own_upd (own_keep hown hx8) hu9 (fun x e => by have := HGR.out; omega))
         | ((with_reducible apply gS 78); refine wl_run rfl (.bool false) (ex_gtr rfl rfl rfl H78.out) ?_)
         | ((with_reducible apply gS 82); refine wl_run_g (by rfl) (.int .i64 (Q : Int)) (ex_bin rfl rfl rfl H82.out) ?_)
         | ((with_reducible apply gS 83); refine wl_run_g (by rfl) (.int .i64 (Q1 : Int)) (ex_bin rfl rfl rfl H83.out) ?_)
         | ((with_reducible apply gS 84); refine wl_run_g (by rfl) (.bool true) (ex_neq rfl rfl rfl H84.out) ?_))
        refine bodyPost_ret (results_tmp2 rfl _ _ _) rfl ?_
        rw [HFE.out]
        refine ⟨hx9, ?_⟩
        rw [if_neg (show ¬ (4 : Int) = 0 by decide)]
        rfl
       ·have HFE : Hid (FIN = (0, L)) := hid_ (by rw [← HFIN.out, HR2.out]; unfold segFin; rw [if_neg (by simp), if_neg (by rw [HDL.out]; dsimp only; rintro (h | h) <;> first | omega | exact hf h)])
        have H84 : Hid (decide ((x : Int) ≠ (Q1 : Int)) = false) := hid_ (by have := hon.2 hf; simp [this])
        clear HRR HFIN HR2 hlf hm hx0 hp8 hdl hon hQ hQ3 hf
        go_wp2_with (first
         | ((with_reducible apply gS 67); refine wl_read rfl (.pointer (some ⟨gr, 0, none⟩)) (ex_loadR rfl rfl (hbs.cell 1)) ?_)
         | (go_at_call 163; (with_reducible refine (HLF.out _ hD.r).mono ?_); rintro e w8 ⟨rfl, hx8⟩; have hb8 := hbs.ext hx8; have hI8 := hD.ext hx8)
         | ((with_reducible apply gS 71); refine wl_read rfl (.pointer (some ⟨gr, 0, none⟩)) (ex_loadR rfl rfl (hb8.cell 1)) ?_)
         | ((with_reducible apply gS 73); refine wl_run rfl (.int .i64 (m : Int)) (ex_bin rfl rfl rfl H73.out) ?_)
         | (go_at_call 164; (with_reducible refine (HGT.out _ hI8.r).mono ?_); rintro e w9 ⟨rfl, -, hu9⟩; have hx9 := hu9.ext (hx.trans hx8) (fun x e => by omega); have ho9 := own_upd (own_keep hown hx8) hu9 (fun x e => by have := HGR.out; omega))
         | ((with_reducible apply gS 78); refine wl_run rfl (.bool false) (ex_gtr rfl rfl rfl H78.out) ?_)
         | ((with_reducible apply gS 82); refine wl_run_g (by rfl) (.int .i64 (Q : Int)) (ex_bin rfl rfl rfl H82.out) ?_)
         | ((with_reducible apply gS 83); refine wl_run_g (by rfl) (.int .i64 (Q1 : Int)) (ex_bin rfl rfl rfl H83.out) ?_)
         | ((with_reducible apply gS 84); refine wl_run_g (by rfl) (.bool false) (ex_neq rfl rfl rfl H84.out) ?_))
        refine bodyPost_ret (results_tmp2 rfl _ _ _) rfl ?_
        rw [HFE.out]
        refine ⟨hx9, ?_⟩
        rw [if_pos rfl]
        exact ⟨OA, k, oc, rfl, hll, (own_out ho9).1, hln⟩
end
theorem coder_facts (cs xs : List Int) (hl : cs.length = 16) (h : checkZ cs xs = 0) : (zipC (codesW cs 16) xs).Pairwise (fun a b => a.2.1 ≤ b.2.1) ∧ (∀ t ∈ zipC (codesW cs 16) xs, ∃ l c : Nat, t.2 = ((l : Int), (c : Int)) ∧ 1 ≤ l ∧ l ≤ 16 ∧ c < 2 ^ l) ∧ (codesW cs 16).length = xs.length := by
 obtain ⟨q1, q2, q3, q4, q5, q6⟩ := checkZ_zero h
 have hlen : (codesW cs 16).length = xs.length := by have := codesW_len cs (fun z hz => (allIn_iff.1 q1 z hz).1) 16 (by omega); omega
 exact ⟨zipC_sorted _ _ (codesW_sorted cs 16) hlen, zipC_fits cs xs hl q4 hlen, hlen⟩
theorem getGo_symZ (cs xs : List Int) (hl : cs.length = 16) (h : checkZ cs xs = 0) (D : List Bool) (p : Nat) (hp : p ≤ D.length) : getGo (zipC (codesW cs 16) xs) D p 16 1 = symZ (zipC (codesW cs 16) xs) D p := by
 obtain ⟨h1, h2, -⟩ := coder_facts cs xs hl h
 refine getGo_sym _ D p h1 (fun t ht => ?_) 16 1 (by omega) (by omega) (by omega) (fun t ht h3 => ?_)
 ·obtain ⟨l, c, e, a, b, -⟩ := h2 t ht
  exact ⟨l, c, e, a, b⟩
 ·obtain ⟨l, c, e, a, b, -⟩ := h2 t ht
  rw [e] at h3
  simp only at h3
  omega
def preB (L M : List Bool) : Bool := decide (M.length ≤ L.length) && decide (L.take M.length = M)
theorem strB_beq (A M : List Bool) : ((strB A).toList == (strB M).toList) = decide (A = M) := by
 rw [Bool.eq_iff_iff]
 simp only [beq_iff_eq, decide_eq_true_eq, ByteArray.toList_eq, strB_data]
 exact ⟨fun e => strB_inj (by unfold strB; rw [e]), fun h => by rw [h]⟩
set_option maxHeartbeats 1000000 in
theorem prefixLite_any (L M : List Bool) (w : World) (hl : L.length ≤ 10000000000000) (hm : M.length ≤ 10000000000000) :
 Calls Tryz.prog 210 #[.string (strB L), .string (strB M)] w fun e w' => e = .returned (.bool (preB L M)) ∧ w = w' := by
 have hs := strB_size L
 have hs2 := strB_size M
 have HX := hid_ (strB_extract L 0 M.length (by omega))
 simp only [List.drop_zero, Nat.sub_zero] at HX
 by_cases h : M.length ≤ L.length
 ·have HQ : Hid ((((strB L).extract 0 M.length).toList == (strB M).toList) = preB L M) := hid_ (by rw [HX.out, strB_beq]; simp [preB, h])
  have hge : decide (((strB M).size : Int) ≤ ((strB L).size : Int)) = true := by simp; omega
  have hle : (strB M).size ≤ (strB L).size := by omega
  generalize strB L = sb at *
  generalize strB M = sm at *
  go_enter Tryz.func210, Tryz.ntmps210
  go_wp2_with fail
  go_ret
  exact ⟨by rw [← HQ.out]; rfl, rfl⟩
 ·have hge : decide (((strB M).size : Int) ≤ ((strB L).size : Int)) = false := by simp; omega
  have HE : Hid (preB L M = false) := hid_ (by simp [preB, h])
  rw [HE.out]
  have hle : ¬ (strB M).size ≤ (strB L).size := by omega
  generalize strB L = sb at *
  generalize strB M = sm at *
  have hgeI : ¬ (M.length : Int) ≤ (L.length : Int) := by omega
  go_enter Tryz.func210, Tryz.ntmps210
  go_wp2_with fail
  go_ret
  exact ⟨by rfl, rfl⟩
theorem prefix_any (L M : List Bool) (w : World) (hl : L.length ≤ 10000000000000) (hm : M.length ≤ 10000000000000) :
 Calls Tryz.prog 195 #[.string (strB L), .string (strB M)] w fun e w' => e = .returned (.bool (preB L M)) ∧ w = w' := by
 have H := hid_ (fun W => prefixLite_any L M W hl hm)
 generalize strB L = sb at *
 generalize strB M = sm at *
 generalize preB L M = b at *
 go_enter Tryz.func195, Tryz.ntmps195
 go_wp2_with (go_at_call 210; (with_reducible refine (H.out _).mono ?_); rintro e w2 ⟨rfl, rfl⟩)
 go_ret
 exact ⟨rfl, rfl⟩
section
variable {o : Oper} {a : Act}
theorem run_loadIs (W : World) (p : Addr) (A : Option Addr) (n c : Nat) (h : W.cell? p = some (.slice A n c)) : (Instr.loadAt 22 (.pointer (some p))).run Tryz.prog W = .ok (.slice A n c) W := by
 go_simp
theorem ex_loadIs {x : Operand} (ho : o.op = .load 22 x) {p : Addr} (hx : a.eval x = .pointer (some p)) {A : Option Addr} {n c : Nat} {w : World} (h : w.cell? p = some (.slice A n c)) : (execOp a.eval o).run Tryz.prog w = .ok (.value (.slice A n c)) w := by
 simp [execOp, ho, hx, run_loadIs w p A n c h]
end
theorem preB_wordIn (B : List Bool) (x : Int) (l c : Nat) (hc : c < 2 ^ l) : preB B (digs c l) = wordIn B 0 (x, (l : Int), (c : Int)) := by
 unfold preB wordIn
 rw [digs_len]
 simp only [Int.toNat_natCast, Nat.zero_add, List.drop_zero]
 by_cases h : l ≤ B.length
 ·simp only [h, decide_true, Bool.true_and]
  rw [Bool.eq_iff_iff]
  simp only [decide_eq_true_eq, beq_iff_eq]
  constructor
  ·intro e; rw [e, numB_digs_lt hc]
  ·intro e
   refine numB_inj (by rw [List.length_take, digs_len]; omega) ?_
   rw [numB_digs_lt hc]
   exact_mod_cast e
 ·simp [h]
theorem sym_hit {T : List Tok} {D : List Bool} {p k : Nat} (hk : k < T.length) (hno : ∀ t ∈ T.take k, wordIn D p t = false) (h : wordIn D p T[k] = true) : symZ T D p = (T[k].1, p + T[k].2.1.toNat, 0) := by
 refine symZ_some ?_
 rw [List.find?_eq_some_iff_append]
 refine ⟨h, T.take k, T.drop (k + 1), ?_, fun a ha => by simp [hno a ha]⟩
 rw [← List.drop_eq_getElem_cons hk, List.take_append_drop]
theorem sym_miss {T : List Tok} {D : List Bool} {p : Nat} (hno : ∀ t ∈ T, wordIn D p t = false) : symZ T D p = (0, p, if D.length < p + 16 then 3 else 4) := by
 refine symZ_none ?_
 rw [List.find?_eq_none]
 intro a ha
 simp [hno a ha]
set_option maxRecDepth 20000 in
set_option maxHeartbeats 2000000 in
theorem symOf_any (cs xs : List Int) (sl : Value) (B : List Bool) (w : World) (hl : cs.length = 16) (hs : SL w 1 sl xs.length (ints xs)) (h : checkZ cs xs = 0) (hB : B.length ≤ 10000000000000) :
 Calls Tryz.prog 173 #[.agg (tblv cs sl), .string (strB B)] w fun e w' => e = .returned (.tuple #[.int .i64 (symZ (zipC (codesW cs 16) xs) B 0).1, .string (if (symZ (zipC (codesW cs 16) xs) B 0).2.2 = 0 then strB (B.drop (symZ (zipC (codesW cs 16) xs) B 0).2.1) else ⟨#[]⟩), .int .i64 (symZ (zipC (codesW cs 16) xs) B 0).2.2]) ∧ Ext w w' := by
 obtain ⟨hal, hsum, hx256, hok, -, -⟩ := checkZ_zero h
 obtain ⟨-, hfit, -⟩ := coder_facts cs xs hl h
 have HF := hid_ (codesW_fit cs hok hl 16 (by omega))
 have hlast := hid_ (fun W g (h : Blk W g 42 (tblv cs sl)) => tblv_last h hl)
 have hts := hid_ (tblv_size cs sl hl)
 have HWO := hid_ (fun W => wordsOf_yes cs sl W hl hal hok)
 have hlen : (codesW cs 16).length = xs.length := by have := codesW_len cs (fun z hz => (allIn_iff.1 hal z hz).1) 16 (by omega); omega
 have hol := outW_len cs
 rw [hlen] at hol
 rw [hol] at HWO
 have HAT := hid_ (outW_at cs)
 have HZA := hid_ (zipC_at (codesW cs 16) xs)
 have HZL : Hid ((zipC (codesW cs 16) xs).length = xs.length) := hid_ (by rw [zipC_len _ _ (by omega), hlen])
 have HCL := hid_ hlen
 have hs' := hs
 obtain ⟨A, c, rfl, hc1, hc2, -, -⟩ := hs'
 have HPR := hid_ (fun l k W (h1 : l ≤ 100) => prefix_any B (digs k l) W hB (by rw [digs_len]; omega))
 have HPW := hid_ (preB_wordIn B)
 have HSX := hid_ (strB_extract B)
 have HSS := hid_ (strB_size B)
 have HZZ : Hid (∀ z, z = symZ (zipC (codesW cs 16) xs) B 0 → True) := hid_ (fun _ _ => trivial)
 generalize tblv cs (.slice A xs.length c) = tv at *
 generalize strs (outW cs 16) = SS at *
 clear HZZ hfit
 have HT : Hid (∀ k (h : k < (zipC (codesW cs 16) xs).length), (∀ t ∈ (zipC (codesW cs 16) xs).take k, wordIn B 0 t = false) → wordIn B 0 (zipC (codesW cs 16) xs)[k] = true → symZ (zipC (codesW cs 16) xs) B 0 = ((zipC (codesW cs 16) xs)[k].1, 0 + (zipC (codesW cs 16) xs)[k].2.1.toNat, 0)) := hid_ (fun k h h1 h2 => sym_hit h h1 h2)
 have HM := hid_ (sym_miss (T := zipC (codesW cs 16) xs) (D := B) (p := 0))
 generalize codesW cs 16 = C at *
 clear hal hok hsum h hol hlen
 obtain ⟨ez, hez⟩ : ∃ ez, ez = symZ (zipC C xs) B 0 := ⟨_, rfl⟩
 rw [← hez]
 rw [← hez] at HT HM
 clear hez
 obtain ⟨s9, hs9⟩ : ∃ s9, s9 = (if ez.2.2 = 0 then strB (B.drop ez.2.1) else ⟨#[]⟩) := ⟨_, rfl⟩
 have HS9 := hid_ hs9
 rw [← hs9]
 clear hs9
 generalize hsb : strB B = sb at *
 have HSB := hid_ hsb
 clear hsb
 go_enter Tryz.func173, Tryz.ntmps173
 go_wp2_with (first
  | (refine wBox rfl 42 (.tmp 0) rfl tv rfl ?_; intro w1 g hb1 hx1 hg)
  | (refine wLdB rfl 42 (.tmp 2) rfl _ rfl hb1 _ Tryz.underlying42 rfl 17 sizeTbl hts.out ?_)
  | (go_at_call 130; (with_reducible refine (HWO.out _).mono ?_); rintro e w2 ⟨B2, d, rfl, hs2, hx2⟩))
 have hsx := hs.ext (hx1.trans hx2)
 have hxw := hx1.trans hx2
 have hc16 := hlast.out _ _ (hb1.ext hx2)
 have hgl : g < w2.heap.size := (hb1.ext hx2).lt
 go_loop [18] (fun i => ∃ k : Nat, k ≤ xs.length ∧ i = .int .i64 (k : Int) ∧ Hid (∀ t ∈ (zipC C xs).take k, wordIn B 0 t = false)) (fun i => xs.length - (intOf i).toNat)
 case atStart => exact ⟨0, by omega, rfl, hid_ (by simp)⟩
 case round =>
  obtain ⟨k, hk, rfl, HNO⟩ := hrel
  by_cases hlt : k < xs.length
  ·have hkC : k < C.length := by have := HCL.out; omega
   have hkz : k < (zipC C xs).length := by rw [HZL.out]; exact hlt
   obtain ⟨ad, u, hA, hab, hxk, hcell⟩ := hsx.at1 hlt
   obtain ⟨hkl2, rfl⟩ := ints_at _ _ _ hxk
   obtain ⟨bd, u, hB2, hbl, hsk, hcells⟩ := hs2.at1 hlt
   rw [HAT.out k hkC] at hsk
   injection hsk with hsk
   subst hsk
   subst hA hB2
   clear hxk
   have e1 := HZA.out k hkC hkl2 hkz
   obtain ⟨f1, f2, f3⟩ := HF.out _ (List.getElem_mem hkC)
   have HP := hid_ (fun W => HPR.out C[k].1 C[k].2 W (by omega))
   have HPQ := hid_ (HPW.out xs[k] C[k].1 C[k].2 (by omega))
   rw [← e1] at HPQ
   have hsz : (strB (digs C[k].2 C[k].1)).size = C[k].1 := by rw [strB_size, digs_len]
   rw [HPQ.out] at HP
   have HHIT := hid_ (HT.out k hkz HNO.out)
   have HNX : Hid (wordIn B 0 (zipC C xs)[k] = false → ∀ t ∈ (zipC C xs).take (k + 1), wordIn B 0 t = false) := hid_ (fun h t ht => by
    rw [List.take_succ_eq_append_getElem hkz] at ht
    rcases List.mem_append.1 ht with h1 | h1
    ·exact HNO.out t h1
    ·simp at h1; subst h1; exact h)
   cases hw : wordIn B 0 (zipC C xs)[k] with
   | false =>
     rw [hw] at HP
     have HN2 := hid_ (HNX.out hw)
     clear HHIT HNX hw HPQ e1
     generalize xs[k] = x at *
     generalize C[k].1 = l at *
     generalize C[k].2 = cd at *
     generalize strB (digs cd l) = sw at *
     go_wp2_with (go_at_call 195; (with_reducible refine (HP.out _).mono ?_); rintro e w5 ⟨rfl, rfl⟩)
     go_round
     case rel => exact ⟨k + 1, by omega, by go_num, HN2⟩
     case measure => simp [intOf]; omega
   | true =>
     rw [hw] at HP
     have HZ := hid_ (HHIT.out hw)
     rw [e1] at HZ
     have hlB : C[k].1 ≤ B.length := by
      rw [e1] at hw
      simp only [wordIn, Int.toNat_natCast, Bool.and_eq_true, decide_eq_true_eq] at hw
      omega
     have HXX := hid_ (HSX.out C[k].1 B.length hlB)
     clear HHIT HNX hw HPQ e1
     generalize xs[k] = x at *
     generalize C[k].1 = l at *
     generalize C[k].2 = cd at *
     generalize strB (digs cd l) = sw at *
     have HC16 : ∀ W, Ext w2.drew W → W.cell? ⟨g, 16, none⟩ = some (.slice (some ad) xs.length c) := fun W hx => (hx.cell (p := ⟨g, 16, none⟩) hgl).trans hc16
     have HCX : ∀ W, Ext w2.drew W → W.cell? (ad.add (k * 1)) = some (.int .i64 x) := fun W hx => by
      rw [Nat.mul_one]
      exact (hx.cell (by rw [block_of_add]; exact hab)).trans hcell
     have hswl : sw.size ≤ sb.size := by have := HSS.out; omega
     clear HZA
     have HSZ := hid_ hsz
     clear hsz
     generalize xs.length = n at *
     go_wp2_with (go_at_call 195; (with_reducible refine (HP.out _).mono ?_); rintro e w5 ⟨rfl, rfl⟩)
     refine wp_region_lx later_ext (by kernel_rfl) (by kernel_rfl) ?_
     refine lx_run (by rfl) (.pointer (some ⟨g, 16, none⟩)) (fun W => by go_simp) ?_
     simp only [Act.put, sA, sB, sC]
     refine lx_read (by rfl) (.slice (some ad) n c) (fun W hW => ex_loadIs rfl rfl (HC16 W hW)) ?_
     simp only [Act.put, sA, sB, sC]
     refine lx_run (by rfl) (.int .i64 ((k : Nat) : Int)) (ex_move rfl rfl) ?_
     simp only [Act.put, sA, sB, sC]
     refine lx_run (by rfl) (.pointer (some (ad.add (k * 1)))) (ex_ixSl Tryz.underlying22 sizeI rfl rfl rfl (by omega)) ?_
     simp only [Act.put, sA, sB, sC]
     refine lx_read (by rfl) (.int .i64 (x)) (fun W hW => ex_loadI rfl rfl (HCX W hW)) ?_
     simp only [Act.put, sA, sB, sC]
     refine lx_run (by rfl) (.string sb) (ex_move rfl rfl) ?_
     simp only [Act.put, sA, sB, sC]
     refine lx_run (by rfl) (.string sw) (ex_move rfl rfl) ?_
     simp only [Act.put, sA, sB, sC]
     refine lx_run (by rfl) (.int .i64 ((sw.size : Nat) : Int)) (fun W => by go_simp) ?_
     simp only [Act.put, sA, sB, sC]
     refine lx_run (by rfl) (.string (sb.extract sw.size sb.size)) (fun W => by go_simp) ?_
     simp only [Act.put, sA, sB, sC]
     refine lx_run (by rfl) (.int .i64 (x)) (ex_assign rfl rfl) ?_
     simp only [Act.put, sA, sB, sC]
     refine lx_run (by rfl) (.string (sb.extract sw.size sb.size)) (ex_assign rfl rfl) ?_
     simp only [Act.put, sA, sB, sC]
     refine lx_run (by rfl) (.int .i64 ((0 : Nat) : Int)) (ex_assign rfl rfl) ?_
     simp only [Act.put, sA, sB, sC]
     refine lx_nil ?_
     intro w9 hx9
     go_wp2_with fail
     go_ret3
     rw [HS9.out, HZ.out]
     refine ⟨?_, hxw.drew.trans hx9⟩
     have e9 : sb.extract sw.size sb.size = strB (B.drop l) := by
      rw [HSZ.out, HSS.out, HXX.out, List.take_of_length_le (by simp)]
     simp only [Nat.zero_add, Int.toNat_natCast, if_true]
     rw [← e9]
     rfl
  ·have ek : k = xs.length := by omega
   have HALL := hid_ (HM.out (fun t ht => HNO.out t (by rw [List.take_of_length_le (by rw [HZL.out, ek]; exact Nat.le_refl _)]; exact ht)))
   have hss := HSS.out
   by_cases h16 : B.length < 16
   ·rw [if_pos (by omega)] at HALL
    have hd : decide ((sb.size : Int) < 16) = true := by simp; omega
    go_wp2_with fail
    go_ret3
    rw [HS9.out, HALL.out]
    exact ⟨rfl, hxw⟩
   ·rw [if_neg (by omega)] at HALL
    have hd : decide ((sb.size : Int) < 16) = false := by simp; omega
    have hd2 : ¬ sb.size < 16 := by omega
    go_wp2_with fail
    go_ret3
    rw [HS9.out, HALL.out]
    exact ⟨rfl, hxw⟩
end Go.Proofs.YtkggcjdlpendfaaGreatDoor
