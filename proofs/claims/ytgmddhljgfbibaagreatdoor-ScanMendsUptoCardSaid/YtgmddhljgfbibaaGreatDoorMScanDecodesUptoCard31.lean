/- Contracts for the law ScanDecodesUptoCard, part 31: what the functions that it reaches answer, for all arguments that the theorems name. -/
import Derived.Test.YtgmddhljgfbibaaGreatDoorMScanDecodesUptoCard27
import Derived.Test.YtgmddhljgfbibaaGreatDoorMScanDecodesUptoCard29
import Derived.Test.YtgmddhljgfbibaaGreatDoorMScanDecodesUptoCard30
import Derived.Test.YtgmddhljgfbibaaGreatDoorMScanDecodesUptoCard24
import Derived.Test.YtgmddhljgfbibaaGreatDoorMScanDecodesUptoCard15
import Derived.Test.YtgmddhljgfbibaaGreatDoorMScanDecodesUptoCard8
/- SegDecode of the reference. -/
namespace Go.Proofs.YtgmddhljgfbibaaGreatDoor
set_option linter.unusedVariables false
set_option linter.unusedSimpArgs false
open Go.RowKit
theorem goesRef : Goes Tryz.prog 35 := ⟨_, Tryz.func35, by kernel_rfl, by kernel_rfl⟩
theorem refSrc (g gs : Nat) (tA tB : List Value) (hA : tA.length = 17) (hB : tB.length = 17) (oA : tA.toArray.all (·.oneCell') = true) (oB : tB.toArray.all (·.oneCell') = true) (T1 T2 : List Tok) (D : List Bool) (hDl : D.length ≤ 1000000000000) (W0 : World)
    (HS1 : ∀ W B, Ext W0 W → B.length ≤ 1000000000000 → Calls Tryz.prog 36 #[.agg tA.toArray, .string (strB B)] W fun e w' => e = .returned (.tuple #[.int .i64 (symZ T1 B 0).1, .string (if (symZ T1 B 0).2.2 = 0 then strB (B.drop (symZ T1 B 0).2.1) else ⟨#[]⟩), .int .i64 (symZ T1 B 0).2.2]) ∧ Ext W w')
    (HS2 : ∀ W B, Ext W0 W → B.length ≤ 1000000000000 → Calls Tryz.prog 36 #[.agg tB.toArray, .string (strB B)] W fun e w' => e = .returned (.tuple #[.int .i64 (symZ T2 B 0).1, .string (if (symZ T2 B 0).2.2 = 0 then strB (B.drop (symZ T2 B 0).2.1) else ⟨#[]⟩), .int .i64 (symZ T2 B 0).2.2]) ∧ Ext W w')
    (hT1 : ∀ t ∈ T1, 0 ≤ t.1 ∧ t.1 ≤ 255) (hT2 : ∀ t ∈ T2, 0 ≤ t.1 ∧ t.1 ≤ 255) (B : Nat) (h1 : g < B) (h2 : gs < B) :
    Src 35 #[] #[.pointer (some ⟨g, 0, none⟩), .pointer (some ⟨gs, 0, none⟩)] B (fun b => b = gs) (RefIn g gs (tA ++ tB).toArray D W0) (segNext false T1 T2 D) :=
  ⟨fun b e => by omega, fun b p W h _ => by simpa using refTok_any g gs tA tB hA hB oA oB T1 T2 D hDl W0 HS1 HS2 hT1 hT2 b p W h, fun s W W' h hu => h.keep h1 h2 hu, fun b p W _ h0 => segNext_wf hT1 hT2 h0⟩
theorem zeroStr : (Tryz.prog.info? 9).bind (·.zero) = some (.string ⟨#[]⟩) := by kernel_rfl
theorem blk_set0 {w : World} {g : Nat} {T : TypeId} {u v : Value} (h : Blk w g T #[u]) : Blk (w.setCell ⟨g, 0, none⟩ v) g T #[v] := h.set_ 0 v
theorem ex_loadB {P : Program} {o : Oper} {a : Act} {ty : TypeId} {x : Operand} (ho : o.op = .load ty x) {g : Nat} (hx : a.eval x = .pointer (some ⟨g, 0, none⟩)) {t : TypeId} {cs : Array Value} {w : World} (hB : Blk w g t cs) {d : TypeDesc} (hu : P.underlying ty = some d) (hd : d.isRow = true) {n : Nat} (hi : (P.info? ty).map (·.size) = some n) (hn : cs.size = n) :
    (execOp a.eval o).run P w = .ok (.value (.agg cs)) w := by
  have h1 : Blk w g t ([] ++ (cs.toList ++ [])).toArray := by simpa using hB
  have h := ex_loadMid ho hx (range_part h1) hu hd (by rw [hi, ← hn]; simp)
  simpa using h
theorem left_ext {w w5 : World} {gs : Nat} (h : Ext w w5) (v : Value) (hg : w.heap.size ≤ gs) : Ext w (w5.setCell ⟨gs, 0, none⟩ v) :=
  ((Upd.refl (fun x => x = gs) w5).setCell rfl v).ext h (fun x e => by omega)
attribute [local irreducible] bytesV bv plZ digsOf segNext blkZ segGo numB strB
set_option maxRecDepth 20000 in
set_option maxHeartbeats 2000000 in
theorem rsegDec_bad (t1 t2 : List Value) (z1 z2 : Int) (v : Value) (nn : Int) (w : World) (h1 : t1.length = 17) (h2 : t2.length = 17)
    (C1 : ∀ W, Ext w W → Calls Tryz.prog 57 #[.agg t1.toArray] W fun e W' => e = .returned (.int .i64 z1) ∧ Ext W W')
    (C2 : ∀ W, Ext w W → Calls Tryz.prog 57 #[.agg t2.toArray] W fun e W' => e = .returned (.int .i64 z2) ∧ Ext W W')
    (hne : (if z1 = 0 then z2 else z1) ≠ 0) :
    Calls Tryz.prog 17 #[.agg (t1 ++ t2).toArray, v, .int .i64 nn] w (DecIs (if z1 = 0 then z2 else z1, []) w) := by
  have HM := hid_ (fun W (h : Ext w W) => tablesCheck_any t1 t2 z1 z2 W h1 h2 (fun W' h' => C1 W' (h.trans h')) (fun W' h' => C2 W' (h.trans h')))
  have hsz := hid_ (tblsWhole h1 h2)
  generalize (if z1 = 0 then z2 else z1) = R at *
  generalize (t1 ++ t2).toArray = tt at *
  have hxb : (R != 0) = true := by simpa using hne
  have HNE := hid_ hne
  clear C1 C2 hne h1 h2
  go_enter Tryz.func17, Tryz.ntmps17
  go_wp2_with (first
    | (show wpList _ _ _ (⟨some 3, _, _, _, _, _⟩ :: _) _ _; refine wpList_box_abs rfl 27 (.tmp 0) rfl tt rfl ?_; intro w1 g hb1 hx1 hg1)
    | (show wpList _ _ _ (⟨some 17, _, _, _, _, _⟩ :: _) _ _; refine wpList_load_blk rfl 27 (.tmp 3) rfl g rfl hb1 _ Tryz.underlying27 rfl 34 sizeTbls hsz.out ?_)
    | (go_at_call 30; (with_reducible refine (HM.out _ hx1).mono ?_); rintro e w2 ⟨rfl, hx2⟩))
  refine bodyPost_ret (results_tmp2 rfl _ _ _) rfl ?_
  refine ⟨hx1.trans hx2, ?_⟩
  rw [if_neg HNE.out]
  rfl
set_option maxRecDepth 20000 in
set_option maxHeartbeats 8000000 in
theorem rsegDec_good (cs1 xs1 cs2 xs2 : List Int) (s1 s2 : Value) (A : Option Addr) (n c : Nat) (bs : List Nat) (nn : Int) (w : World) (hs : SL w 1 (.slice A n c) n (bytesV bs)) (hlt : ∀ b ∈ bs, b < 256) (hn : n ≤ 1048576) (l1 : cs1.length = 16) (l2 : cs2.length = 16)
    (hs1 : SL w 1 s1 xs1.length (ints xs1)) (hs2 : SL w 1 s2 xs2.length (ints xs2)) (z1 : checkZ cs1 xs1 = 0) (z2 : checkZ cs2 xs2 = 0)
    (hT1 : ∀ t ∈ zipC (codesW cs1 16) xs1, 0 ≤ t.1 ∧ t.1 ≤ 255) (hT2 : ∀ t ∈ zipC (codesW cs2 16) xs2, 0 ≤ t.1 ∧ t.1 ≤ 255) :
    Calls Tryz.prog 17 #[.agg (tblL cs1 s1 ++ tblL cs2 s2).toArray, .slice A n c, .int .i64 nn] w (DecIs (decR false (zipC (codesW cs1 16) xs1) (zipC (codesW cs2 16) xs2) nn (plZ bs)) w) := by
  have h1 := tblL_len cs1 s1 l1
  have h2 := tblL_len cs2 s2 l2
  have HM := hid_ (fun W (h : Ext w W) => tablesCheck_any (tblL cs1 s1) (tblL cs2 s2) 0 0 W h1 h2 (fun W' h' => by have := rcheck_any cs1 xs1 s1 W' l1 ((hs1.ext h).ext h'); rw [z1] at this; exact this) (fun W' h' => by have := rcheck_any cs2 xs2 s2 W' l2 ((hs2.ext h).ext h'); rw [z2] at this; exact this))
  rw [if_pos rfl] at HM
  have hsz := hid_ (tblsWhole h1 h2)
  have HS1 := hid_ (fun W B (h : Ext w W) (hB : B.length ≤ 1000000000000) => symOf_any cs1 xs1 s1 B W l1 (hs1.ext h) z1 (by omega))
  have HS2 := hid_ (fun W B (h : Ext w W) (hB : B.length ≤ 1000000000000) => symOf_any cs2 xs2 s2 B W l2 (hs2.ext h) z2 (by omega))
  simp only [tblv_tblL] at HS1 HS2
  have HO1 := hid_ (tblL_oneS cs1 s1 hs1)
  have HO2 := hid_ (tblL_oneS cs2 s2 hs2)
  have HPL := hid_ (fun W (h : Ext w W) => rplain_any A n c bs W (hs.ext h) hlt (by omega))
  have hbl := (sl_len hs).1
  have hpz := plZ_lt bs
  have HL1 := hid_ h1
  have HL2 := hid_ h2
  generalize tblL cs1 s1 = tA at *
  generalize tblL cs2 s2 = tB at *
  generalize zipC (codesW cs1 16) xs1 = T1 at *
  generalize zipC (codesW cs2 16) xs2 = T2 at *
  have HFR := hid_ (fun (g gs : Nat) (D : List Bool) (before : Int) (p : Nat) (W : World) (hD : D.length ≤ 1000000000000) (hb : -2047 ≤ before ∧ before ≤ 2047) (h : RefIn g gs (tA ++ tB).toArray D w W p) => blockOf_any before hb.1 hb.2 goesRef (refSrc g gs tA tB h1 h2 HO1.out HO2.out T1 T2 D hD w HS1.out HS2.out hT1 hT2 W.heap.size h.gt.lt h.st.lt) W p h rfl)
  generalize (tA ++ tB).toArray = tt at *
  have HIN := hid_ (fun W => outside_any nn 0 400 W)
  clear hs hs1 hs2 z1 z2 l1 l2 h1 h2 hT1 hT2 HS1 HS2 HO1 HO2 HL1 HL2
  by_cases hr : nn < 0 ∨ 400 < nn
  · have HR : Hid (decR false T1 T2 nn (plZ bs) = (1, [])) := hid_ (by unfold decR; rw [if_pos hr])
    have hin : inB nn 0 400 = false := by
      cases hq : inB nn 0 400 with
      | false => rfl
      | true => have := inB_iff.1 hq; omega
    rw [HR.out]
    rw [hin] at HIN
    clear HPL hpz hr hin
    go_enter Tryz.func17, Tryz.ntmps17
    go_wp2_with (first
      | (show wpList _ _ _ (⟨some 3, _, _, _, _, _⟩ :: _) _ _; refine wpList_box_abs rfl 27 (.tmp 0) rfl tt rfl ?_; intro w1 g hb1 hx1 hg1)
      | (show wpList _ _ _ (⟨some 17, _, _, _, _, _⟩ :: _) _ _; refine wpList_load_blk rfl 27 (.tmp 3) rfl g rfl hb1 _ Tryz.underlying27 rfl 34 sizeTbls hsz.out ?_)
      | (go_at_call 30; (with_reducible refine (HM.out _ hx1).mono ?_); rintro e w2 ⟨rfl, hx2⟩; have hx2' := hx1.trans hx2)
      | (go_at_call 29; (with_reducible refine (HIN.out _).mono ?_); rintro e w' ⟨rfl, rfl⟩))
    refine bodyPost_ret (results_tmp2 rfl _ _ _) rfl ?_
    refine ⟨hx2', ?_⟩
    rw [if_neg (show ¬ (1 : Int) = 0 by decide)]
    rfl
  · obtain ⟨N, hN⟩ : ∃ N : Nat, nn = (N : Int) := ⟨nn.toNat, by omega⟩
    subst hN
    have hN4 : N ≤ 400 := by omega
    have hin : inB (N : Int) 0 400 = true := inB_iff.2 (by omega)
    rw [hin] at HIN
    clear hin
    cases hq : plZ bs with
    | none =>
      have HR : Hid (decR false T1 T2 (N : Int) none = (4, [])) := hid_ (by unfold decR; rw [if_neg hr])
      rw [hq] at HPL
      rw [HR.out]
      clear hq hpz hr
      go_enter Tryz.func17, Tryz.ntmps17
      go_wp2_with (first
        | (show wpList _ _ _ (⟨some 3, _, _, _, _, _⟩ :: _) _ _; refine wpList_box_abs rfl 27 (.tmp 0) rfl tt rfl ?_; intro w1 g hb1 hx1 hg1)
        | (show wpList _ _ _ (⟨some 17, _, _, _, _, _⟩ :: _) _ _; refine wpList_load_blk rfl 27 (.tmp 3) rfl g rfl hb1 _ Tryz.underlying27 rfl 34 sizeTbls hsz.out ?_)
        | (go_at_call 30; (with_reducible refine (HM.out _ hx1).mono ?_); rintro e w2 ⟨rfl, hx2⟩; have hx2' := hx1.trans hx2)
        | (go_at_call 29; (with_reducible refine (HIN.out _).mono ?_); rintro e w' ⟨rfl, rfl⟩)
        | (go_at_call 32; (with_reducible refine (HPL.out _ hx2').mono ?_); rintro e w3 ⟨rfl, hx3⟩))
      refine bodyPost_ret (results_tmp2 rfl _ _ _) rfl ?_
      refine ⟨hx2'.trans hx3, ?_⟩
      rw [if_neg (show ¬ (4 : Int) = 0 by decide)]
      rfl
    | some pb =>
      obtain ⟨hplt, hpl⟩ := hpz pb hlt hq
      have hRd : decR false T1 T2 (N : Int) (some pb) = segFin (digsOf pb) (segGo (segNext false T1 T2 (digsOf pb)) N 0 0 []) := by unfold decR; rw [if_neg hr]; rfl
      rw [hRd]
      rw [hq] at HPL
      obtain ⟨pn, hpn⟩ : ∃ k, pb.length = k := ⟨_, rfl⟩
      have hpn2 : pn ≤ 1048576 := by omega
      have HPN := hid_ hpn
      have HDO := hid_ (fun B d W (h : SL W 1 (.slice B pn d) pn (bytesV pb)) => digitsOf_any pb (.slice B pn d) W (by rw [hpn]; exact h) hplt (by omega))
      have HDL := hid_ (show (digsOf pb).length = 8 * pn by rw [digsOf_len, hpn])
      generalize digsOf pb = D at *
      clear hq hpz hr hRd hplt hpl hlt hbl hpn
      have hR0 : ∃ R, segGo (segNext false T1 T2 D) N 0 0 [] = R := ⟨_, rfl⟩
      obtain ⟨R, hR0⟩ := hR0
      have HR0 : Hid (segGo (segNext false T1 T2 D) (N - 0) 0 0 [] = R) := hid_ hR0
      rw [hR0]
      obtain ⟨FIN, hF⟩ : ∃ F, segFin D R = F := ⟨_, rfl⟩
      have HFIN := hid_ hF
      rw [hF]
      have HAL := hid_ (show (Tryz.prog.info? 37).bind (·.zero) = some (.agg (bv (List.replicate 64 0))) from zero48)
      have hz0 := hid_ (show (Value.agg (bv (List.replicate 64 0))).cells.size = 64 by rw [show (Value.agg (bv (List.replicate 64 0))).cells = bv (List.replicate 64 0) from rfl, bv_size]; rfl)
      generalize bv (List.replicate 64 0) = cz at *
      have hmf : ∀ (fn : Fn) (first cap : Array Value) (w : World), (Instr.makeFunc fn first cap).run Tryz.prog w = .ok (.func fn first cap) w := fun _ _ _ _ => rfl
      clear hR0 hF
      go_enter Tryz.func17, Tryz.ntmps17
      go_wp2_with (first
        | (show wpList _ _ _ (⟨some 3, _, _, _, _, _⟩ :: _) _ _; refine wpList_box_abs rfl 27 (.tmp 0) rfl tt rfl ?_; intro w1 g hb1 hx1 hg1)
        | (show wpList _ _ _ (⟨some 17, _, _, _, _, _⟩ :: _) _ _; refine wpList_load_blk rfl 27 (.tmp 3) rfl g rfl hb1 _ Tryz.underlying27 rfl 34 sizeTbls hsz.out ?_)
        | (go_at_call 30; (with_reducible refine (HM.out _ hx1).mono ?_); rintro e w2 ⟨rfl, hx2⟩; have hx2' := hx1.trans hx2)
        | (go_at_call 29; (with_reducible refine (HIN.out _).mono ?_); rintro e w' ⟨rfl, rfl⟩)
        | (go_at_call 32; (with_reducible refine (HPL.out _ hx2').mono ?_); rintro e w3 ⟨B, k3, d3, rfl, hk3, hs3, hn3, hx3⟩; obtain rfl : pn = k3 := HPN.out.symm.trans hk3)
        | (go_at_call 33; (with_reducible refine (HDO.out _ _ _ hs3).mono ?_); rintro e w4 ⟨rfl, hx4⟩; have hx4' := (hx2'.trans hx3).trans hx4)
        | (show wpList _ _ _ (⟨some 11, _, _, _, _, _⟩ :: _) _ _; refine wpList_alloc_abs' rfl (some 11) rfl 9 rfl _ zeroStr ?_; intro w5 gs hb5 hx5 hg5; have z5 := hb5.frozen 0; have q5 : w5.cell? ⟨gs, 0, none⟩ = some (.string ⟨#[]⟩) := hb5.cell 0; have hb6 := blk_set0 (v := .string (strB D)) hb5; have hx6 := left_ext (gs := gs) (hx4'.trans hx5) (.string (strB D)) (by have := hx4'.size; omega); have hg6 := ((hb1.ext hx2).ext hx3).ext (hx4.trans hx5); have hu6 := (Upd.refl (fun x => x = gs) w5).setCell (p := ⟨gs, 0, none⟩) rfl (.string (strB D))))
      have hI6 : RefIn g gs tt D w (w5.setCell ⟨gs, 0, none⟩ (.string (strB D))) 0 := by
        have hne : g ≠ gs := by have h1 := hb1.lt; have h2 := (hx2.trans hx3).size; have h3 := hx4.size; omega
        exact ⟨hu6.blk hg6 hne, by rw [List.drop_zero]; exact hb6, hx6, Nat.zero_le _, by have := hx4'.size; omega, hne⟩
      clear hb1 hx1 hg1 hx2 hx2' hx3 hx4 hx4' hx5 hg5 z5 q5 hb6 hx6 hg6 hu6 hs3 hn3 hb5 hk3
      generalize w5.setCell ⟨gs, 0, none⟩ (.string (strB D)) = w6 at *
      obtain ⟨wo, hwo⟩ : ∃ wo : World, wo = w6 := ⟨_, rfl⟩
      have HGR : Hid (gs < wo.heap.size) := hid_ (by rw [hwo]; exact hI6.st.lt)
      have HW6 : Hid (wo.heap.size ≤ w6.heap.size) := hid_ (by rw [hwo]; exact Nat.le_refl _)
      have HWW : Hid (w.heap.size ≤ wo.heap.size) := hid_ (by rw [hwo]; exact hI6.b.size)
      have HGG : Hid (g < wo.heap.size) := hid_ (by rw [hwo]; exact hI6.gt.lt)
      have how : OwnV w6 wo.heap.size 37 64 (.slice none 0 0) 0 (ints []) := OwnV.nil _ _ _ _
      clear hwo
      go_loopw [12, 13, 35] (fun x bf iv wr => ∃ (k p : Nat) (before : Int) (L : List Int), k ≤ N ∧ iv = .int .i64 (k : Int) ∧ bf = .int .i64 before ∧ OwnV wr wo.heap.size 37 64 x k (ints L) ∧ RefIn g gs tt D w wr p ∧ Hid (-2047 ≤ before ∧ before ≤ 2047) ∧ Hid (segGo (segNext false T1 T2 D) (N - k) before p L = R) ∧ Hid (wo.heap.size ≤ wr.heap.size)) (fun _ _ i _ => N - (intOf i).toNat)
      case atStart => exact ⟨0, 0, 0, [], by omega, rfl, rfl, how, hI6, hid_ (by omega), HR0, HW6⟩
      case round =>
        clear how hI6 HR0 HW6
        obtain ⟨k, p, before, L, hk, rfl, rfl, ⟨OA, oc, rfl, hown⟩, hD, HBF, HRR, HSZ⟩ := hrel
        have hx := hD.b
        by_cases hlk : k < N
        · have HFK := hid_ (fun W h => HFR.out g gs D before p W (by rw [HDL.out]; omega) HBF.out h)
          have HE : Hid ((blkZ (segNext false T1 T2 D) before p).1 ≠ 0 → R = ((blkZ (segNext false T1 T2 D) before p).1, [], p)) := hid_ (fun h => by rw [← HRR.out, show N - k = (N - (k + 1)) + 1 by omega, segGo_err h])
          have HO : Hid ((blkZ (segNext false T1 T2 D) before p).1 = 0 → segGo (segNext false T1 T2 D) (N - (k + 1)) ((blkZ (segNext false T1 T2 D) before p).2.1.getD 0 0) (blkZ (segNext false T1 T2 D) before p).2.2.2 (L ++ (blkZ (segNext false T1 T2 D) before p).2.1) = R) := hid_ (fun h => by rw [← HRR.out, show N - k = (N - (k + 1)) + 1 by omega, segGo_ok h])
          have hzl := (blkZ_len (segNext false T1 T2 D) before p).1
          have HHD := hid_ (blkZ_head (segNext false T1 T2 D) before p)
          generalize blkZ (segNext false T1 T2 D) before p = G at *
          obtain ⟨ge, gz, gt, gp⟩ := G
          unfold BlkIs at HFK
          dsimp only at HFK HE HO hzl HHD
          generalize gt.length = gn at *
          have HZL := hid_ hzl
          have HS64 := hid_ (show (bv gz).size = 64 by rw [bv_size]; exact hzl)
          have HO64 := hid_ (bv_one gz)
          clear hzl HRR
          by_cases hge : ge = 0
          · subst hge
            have HO2 := hid_ (HO.out rfl)
            have HH2 := hid_ (HHD.out rfl)
            have HH0 : Hid ((bv gz)[0]? = some (.int .i64 (gz.getD 0 0))) := hid_ (by rw [bv_at _ 0 (by rw [HZL.out]; omega)]; simp [List.getD_eq_getElem?_getD, HZL.out])
            clear HE HO HHD
            go_wp2_with (first
              | (go_at_call 34; (with_reducible refine (HFK.out _ hD).mono ?_); rintro e w8 ⟨rfl, hI8, hu8⟩; have ho8 := own_upd hown hu8 (fun x e => by have := HGR.out; omega); have hs8 := hu8.size)
              | (show wpList _ _ _ (⟨some 14, _, _, _, _, _⟩ :: _) _ _; refine wpList_alloc_abs' rfl (some 14) rfl 37 rfl _ HAL.out ?_; intro w9 g14 hb9 hx9 hg9)
              | (show wpList _ _ _ (⟨none, .store _ (.tmp 14) (.tmp 41), _, _, _, _⟩ :: _) _ _; refine wpList_store_blk rfl 37 (.tmp 14) (.tmp 41) rfl _ _ rfl rfl hb9 64 size48 HS64.out hz0.out HO64.out ?_; intro w10 hb10 hg10'; have hx10 : Ext w8 w10 := hx9.grown hg10' hg9))
            have hx10d : Ext w8 w10.drew := hx10.drew
            have hI : Blk w10.drew g14 37 (bv gz) := hb10.drew
            have hlo8 := own_lowB ho8
            clear hb9 hx9 hb10 hg10' hx10
            refine wp_region_oi (fun W => Blk W g14 37 (bv gz)) (by kernel_rfl) ?_
            refine oi_run (k := 0) (by kernel_rfl) rfl (by rfl) (.slice OA k oc) (ex_move rfl rfl) hI ?_
            simp only [Act.put, List.setIfInBounds_toArray, List.set_cons_succ, List.set_cons_zero]
            refine oi_fix (k := 1) (by kernel_rfl) rfl (by rfl) (.agg (bv gz)) (fun W hW => ex_loadB rfl rfl hW Tryz.underlying37 rfl size48 HS64.out) hI ?_
            simp only [Act.put, List.setIfInBounds_toArray, List.set_cons_succ, List.set_cons_zero]
            refine oi_run (k := 4) (by kernel_rfl) rfl (by rfl) (.pointer (some ⟨g14, 0, none⟩)) (ex_ixArr0 (i := 0) Tryz.underlying37 sizeI rfl rfl rfl (by omega)) hI ?_
            simp only [Act.put, List.setIfInBounds_toArray, List.set_cons_succ, List.set_cons_zero]
            refine oi_fix (k := 5) (by kernel_rfl) rfl (by rfl) (.int .i64 (gz.getD 0 0)) (fun W hW => ex_loadI rfl rfl ((hW.cell 0).trans HH0.out)) hI ?_
            simp only [Act.put, List.setIfInBounds_toArray, List.set_cons_succ, List.set_cons_zero]
            refine oi_loud (k := 2) (by kernel_rfl) rfl ?_
            refine wpList_lit1 rfl 29 37 (.tmp 48) rfl (some 49) rfl Tryz.underlying29 64 size48 zero48' _ rfl HS64.out (by omega) (by omega) ?_
            intro w11 g49 hb11 hx11 hg11
            have hI11 := hI.ext hx11
            have hx811 := hx10d.trans hx11
            have ho11 := own_keep ho8 hx811
            refine oi_end ⟨hI11, ?_⟩
            simp only [Act.put, List.setIfInBounds_toArray, List.set_cons_succ, List.set_cons_zero]
            refine oi_loud (k := 3) (by kernel_rfl) rfl ?_
            refine wpList_append_slf elt_blk rfl (.tmp 47) (.tmp 49) rfl wo.heap.size (.slice OA k oc) k (ints L) rfl ho11 _ 1 (ints gz) rfl (blk_sl1 hb11 HZL.out) (ints_one_mem gz) (by omega) (by omega) (by have := HSZ.out; have := hx811.size; omega) ?_
            intro A12 c12 w12 ho12 hgr12 hor12
            have hu12 := upd_grown hgr12
            have hI12 := hu12.blk hI11 (fun e => by have := (hlo8 _ e).2; omega)
            refine oi_end ⟨hI12, ?_⟩
            simp only [Act.put, List.setIfInBounds_toArray, List.set_cons_succ, List.set_cons_zero]
            refine oi_run (k := 6) (by kernel_rfl) rfl (by rfl) (.slice A12 (k + 1) c12) (ex_assign rfl rfl) hI12 ?_
            simp only [Act.put, List.setIfInBounds_toArray, List.set_cons_succ, List.set_cons_zero]
            refine oi_run (k := 7) (by kernel_rfl) rfl (by rfl) (.int .i64 (gz.getD 0 0)) (ex_assign rfl rfl) hI12 ?_
            simp only [Act.put, List.setIfInBounds_toArray, List.set_cons_succ, List.set_cons_zero]
            refine oi_done (by kernel_rfl) ?_
            go_wp2_with fail
            go_roundw
            case rel =>
              have hlo := own_lowB ho11
              refine ⟨k + 1, gp, gz.getD 0 0, L ++ gz, by omega, by go_num, rfl, ⟨A12, c12, rfl, by rw [ints_app]; exact ho12⟩, (hI8.ext hx811).keep HGG.out HGR.out (upd_sub hu12 (fun b e => (hlo b e).1)), HH2, HO2, hid_ ?_⟩
              have h1 := HSZ.out
              have h2 := hx811.size
              have h3 := hu12.size
              omega
            case measure => simp [intOf]; omega
          · have hgb : (ge != 0) = true := by simpa using hge
            have HRE := hid_ (HE.out hge)
            have HGE := hid_ hge
            clear hge HE HO HHD
            go_wp2_with (first
              | (go_at_call 34; (with_reducible refine (HFK.out _ hD).mono ?_); rintro e w8 ⟨rfl, hI8, hu8⟩)
              | (show wpList _ _ _ (⟨some 14, _, _, _, _, _⟩ :: _) _ _; refine wpList_alloc_abs' rfl (some 14) rfl 37 rfl _ HAL.out ?_; intro w9 g14 hb9 hx9 hg9)
              | (show wpList _ _ _ (⟨none, .store _ (.tmp 14) (.tmp 41), _, _, _, _⟩ :: _) _ _; refine wpList_store_blk rfl 37 (.tmp 14) (.tmp 41) rfl _ _ rfl rfl hb9 64 size48 HS64.out hz0.out HO64.out ?_; intro w10 hb10 hg10'; have hx10 : Ext w8 w10 := hx9.grown hg10' hg9))
            refine bodyPost_ret (results_tmp2 rfl _ _ _) rfl ?_
            have hfe : FIN = (ge, []) := by rw [← HFIN.out, HRE.out]; unfold segFin; rw [if_pos HGE.out]
            rw [hfe]
            refine ⟨hI8.b.trans hx10, ?_⟩
            rw [if_neg HGE.out]
            rfl
        · have hkN : N - k = 0 := by omega
          have HR2 : Hid (R = (0, L, p)) := hid_ (by rw [← HRR.out, hkN, segGo])
          have hll : L.length = k * 64 := by have := hown.1; simpa [ints] using this
          have hln := own_noneB hown
          obtain ⟨lf, hlf⟩ : ∃ l, (D.drop p).length = l := ⟨_, rfl⟩
          have hdl : D.length - p = lf := by rw [← hlf, List.length_drop]
          have HQ := hid_ (show (strB (D.drop p)).size = lf by rw [strB_size, hlf])
          have hq := hD.st.cell 0
          have q0 : wr.cell? ⟨gs, 0, none⟩ = some (.string (strB (D.drop p))) := hq
          clear hq
          by_cases h7 : 7 < lf
          · have HFE : Hid (FIN = (4, [])) := hid_ (by rw [← HFIN.out, HR2.out]; unfold segFin; rw [if_neg (by simp), if_pos (.inl (by dsimp only; omega))])
            have H56 : Hid (decide ((7 : Int) < (lf : Int)) = true) := hid_ (by rw [decide_eq_true]; omega)
            clear HRR HFIN HR2 hlf hdl
            go_wp2_with (first
              | (show wpList _ _ _ (⟨some 55, _, _, _, _, _⟩ :: _) _ _; refine wl_run rfl (.int .i64 (lf : Int)) (ex_lenS rfl rfl HQ.out) ?_)
              | (show wpList _ _ _ (⟨some 56, _, _, _, _, _⟩ :: _) _ _; refine wl_run rfl (.bool true) (ex_gtr rfl rfl rfl H56.out) ?_))
            refine bodyPost_ret (results_tmp2 rfl _ _ _) rfl ?_
            rw [HFE.out]
            refine ⟨hx, ?_⟩
            rw [if_neg (show ¬ (4 : Int) = 0 by decide)]
            rfl
          · have H56 : Hid (decide ((7 : Int) < (lf : Int)) = false) := hid_ (by rw [decide_eq_false]; omega)
            by_cases hf : false ∈ D.drop p
            · have HFE : Hid (FIN = (4, [])) := hid_ (by rw [← HFIN.out, HR2.out]; unfold segFin; rw [if_neg (by simp), if_pos (.inr hf)])
              have H59 : Hid (decide (0 ≤ Lib.indexByte (strB (D.drop p)).data.toList 48) = true) := hid_ (by rw [decide_eq_true_eq, strB_data]; exact (zero_iff _).2 hf)
              clear HRR HFIN HR2 hlf hdl hf
              go_wp2_with (first
                | (show wpList _ _ _ (⟨some 55, _, _, _, _, _⟩ :: _) _ _; refine wl_run rfl (.int .i64 (lf : Int)) (ex_lenS rfl rfl HQ.out) ?_)
                | (show wpList _ _ _ (⟨some 56, _, _, _, _, _⟩ :: _) _ _; refine wl_run rfl (.bool false) (ex_gtr rfl rfl rfl H56.out) ?_)
                | (go_at_call 38; (with_reducible refine (Tryz.strings_Contains_one _ 48 _).mono ?_); rintro e w9 ⟨rfl, rfl⟩; rw [H59.out]))
              refine bodyPost_ret (results_tmp2 rfl _ _ _) rfl ?_
              rw [HFE.out]
              refine ⟨hx, ?_⟩
              rw [if_neg (show ¬ (4 : Int) = 0 by decide)]
              rfl
            · have HFE : Hid (FIN = (0, L)) := hid_ (by rw [← HFIN.out, HR2.out]; unfold segFin; rw [if_neg (by simp), if_neg (by dsimp only; rintro (h | h) <;> first | omega | exact hf h)])
              have H59 : Hid (decide (0 ≤ Lib.indexByte (strB (D.drop p)).data.toList 48) = false) := hid_ (by rw [decide_eq_false_iff_not, strB_data]; exact fun h => hf ((zero_iff _).1 h))
              clear HRR HFIN HR2 hlf hdl hf
              go_wp2_with (first
                | (show wpList _ _ _ (⟨some 55, _, _, _, _, _⟩ :: _) _ _; refine wl_run rfl (.int .i64 (lf : Int)) (ex_lenS rfl rfl HQ.out) ?_)
                | (show wpList _ _ _ (⟨some 56, _, _, _, _, _⟩ :: _) _ _; refine wl_run rfl (.bool false) (ex_gtr rfl rfl rfl H56.out) ?_)
                | (go_at_call 38; (with_reducible refine (Tryz.strings_Contains_one _ 48 _).mono ?_); rintro e w9 ⟨rfl, rfl⟩; rw [H59.out]))
              refine bodyPost_ret (results_tmp2 rfl _ _ _) rfl ?_
              rw [HFE.out]
              refine ⟨hx, ?_⟩
              rw [if_pos rfl]
              exact ⟨OA, k, oc, rfl, hll, (own_out hown).1, hln⟩
end Go.Proofs.YtgmddhljgfbibaaGreatDoor
