/- Contracts for the law FileParses, part 14: what the functions that it reaches answer, for all arguments that the theorems name. -/
import Derived.Test.YtkfdkkhhkciocaaMFileParses13
import Derived.Test.YtkfdkkhhkciocaaMFileParses4
import Derived.Test.YtkfdkkhhkciocaaMFileParses12
/- FileParse of the reference. Printed by wip/gen/mkrparse.py. -/
namespace Go.Proofs.Ytkfdkkhhkciocaa
set_option linter.unusedVariables false
set_option linter.unusedSimpArgs false
open Go.RowKit
def FT (bs : List Nat) : Nat → FC
  | 0 => ⟨0, 0, 0, Z64, Z16, [], Z16, [], 0, []⟩
  | 1 => ⟨0, 0, 0, Z64, cntL bs 70 16, symL bs (70 + 32) (cntS bs 70 16), Z16, [], 0, []⟩
  | _ => ⟨0, 0, 0, Z64, cntL bs 70 16, symL bs (70 + 32) (cntS bs 70 16), cntL bs (p2 bs) 16, symL bs (p2 bs + 32) (cntS bs (p2 bs) 16), 0, []⟩
def pos (bs : List Nat) : Nat → Nat
  | 0 => 70
  | 1 => p2 bs
  | _ => p3 bs
theorem pos_next (bs : List Nat) (k : Nat) (h : k < 2) : pos bs (k + 1) = pos bs k + 32 + cntS bs (pos bs k) 16 := by
  have : k = 0 ∨ k = 1 := by omega
  rcases this with rfl | rfl <;> rfl
theorem pos_le (bs : List Nat) (k : Nat) (h : k < 2) : pos bs k + 32 + cntS bs (pos bs k) 16 ≤ p3 bs := by
  have : k = 0 ∨ k = 1 := by omega
  rcases this with rfl | rfl
  · show 70 + 32 + cntS bs 70 16 ≤ p2 bs + 32 + cntS bs (p2 bs) 16
    have : 70 + 32 + cntS bs 70 16 = p2 bs := rfl
    omega
  · exact Nat.le_refl _
theorem FT_shaped (bs : List Nat) (k : Nat) : (FT bs k).shaped := by
  match k with
  | 0 => exact ⟨rfl, rfl, rfl⟩
  | 1 => exact ⟨rfl, cntL_len _ _ _, rfl⟩
  | k + 2 => exact ⟨rfl, cntL_len _ _ _, cntL_len _ _ _⟩
def N0 : Value := .slice none 0 0
/-- table k of the file: what stands before it, and behind -/
theorem FT_split (bs : List Nat) (k : Nat) (hk : k < 2) (s1 s2 : Value) (h1 : k = 0 → s1 = .slice none 0 0) (h2 : s2 = .slice none 0 0) : ∃ a b : List Value, a.length = 67 + 17 * k ∧
    (FT bs k).cells s1 s2 (.slice none 0 0) = (a ++ (tblL Z16 (.slice none 0 0) ++ b)).toArray ∧
    ∀ u, (a ++ (tblL (cntL bs (pos bs k) 16) u ++ b)).toArray = (FT bs (k + 1)).cells (if k = 0 then u else s1) (if k = 0 then s2 else u) (.slice none 0 0) := by
  have : k = 0 ∨ k = 1 := by omega
  rcases this with rfl | rfl
  · refine ⟨ints [0, 0, 0] ++ ints Z64, tblL Z16 s2 ++ [.int .i64 0, .slice none 0 0], by simp [ints_len, Z64], ?_, fun u => ?_⟩
    · rw [h1 rfl]; exact cells_1 _ _ _ _ _ _ _ _
    · exact (cells_1 _ _ _ _ _ _ _ _).symm
  · refine ⟨ints [0, 0, 0] ++ ints Z64 ++ tblL (cntL bs 70 16) s1, [.int .i64 0, .slice none 0 0], by simp [ints_len, Z64, tblL_len _ _ (cntL_len bs 70 16)], ?_, fun u => ?_⟩
    · rw [h2]; exact cells_2 _ _ _ _ _ _ _ _
    · exact (cells_2 _ _ _ _ _ _ _ _).symm
theorem sizePtr : (Try.prog.info? 91).map (·.size) = some 1 := by kernel_rfl
theorem builtPtr (p q : Option Addr) : Try.prog.builtSlice 91 2 [(0, .pointer p), (1, .pointer q)] = some #[.pointer p, .pointer q] := by
  show _ = _
  kernel_rfl
theorem ex_ixArrO {o : Oper} {a : Act} {x ix : Operand} (ho : o.op = .indexAddr 39 x ix) {g O j : Nat} (hx : a.eval x = .pointer (some ⟨g, O, none⟩)) (hi : a.eval ix = .int .i64 (j : Int)) (h : j < 16) (w : World) : (execOp a.eval o).run Try.prog w = .ok (.value (.pointer (some ⟨g, O + j, none⟩))) w := by
  exact ex_ixArr1 Try.underlying39 sizeI ho hx hi h w
theorem set_wd (F : FC) (hF : F.shaped) (s1 s2 sd : Value) (z : Int) : (F.cells s1 s2 sd).setIfInBounds 0 (.int .i64 z) = FC.cells { F with wd := z } s1 s2 sd := by simp [FC.cells, fileL, ints]
theorem set_hi (F : FC) (hF : F.shaped) (s1 s2 sd : Value) (z : Int) : (F.cells s1 s2 sd).setIfInBounds 1 (.int .i64 z) = FC.cells { F with hi := z } s1 s2 sd := by simp [FC.cells, fileL, ints]
theorem set_pt (F : FC) (hF : F.shaped) (s1 s2 sd : Value) (z : Int) : (F.cells s1 s2 sd).setIfInBounds 2 (.int .i64 z) = FC.cells { F with pt := z } s1 s2 sd := by simp [FC.cells, fileL, ints]
theorem set_ev (F : FC) (hF : F.shaped) (s1 s2 sd : Value) (z : Int) : (F.cells s1 s2 sd).setIfInBounds 101 (.int .i64 z) = FC.cells { F with ev := z } s1 s2 sd := by
  unfold FC.cells
  have e : ∀ v, (fileL F.wd F.hi F.pt F.qs (tblL F.cs1 s1) (tblL F.cs2 s2) v sd).toArray = ((ints [F.wd, F.hi, F.pt] ++ ints F.qs ++ tblL F.cs1 s1 ++ tblL F.cs2 s2) ++ ([Value.int .i64 v] ++ [sd])).toArray := fun v => by simp [fileL]
  rw [e, e]
  exact set_part _ _ _ 101 0 _ (by simp [ints_len, hF.1, tblL_len _ _ hF.2.1, tblL_len _ _ hF.2.2]) (by simp)
theorem run_loadPt (W : World) (p : Addr) (q : Option Addr) (h : W.cell? p = some (.pointer q)) : (Instr.loadAt 91 (.pointer (some p))).run Try.prog W = .ok (.pointer q) W := by
  go_simp
theorem ex_loadPt {o : Oper} {a : Act} {x : Operand} (ho : o.op = .load 91 x) {p : Addr} (hx : a.eval x = .pointer (some p)) {q : Option Addr} {w : World} (h : w.cell? p = some (.pointer q)) : (execOp a.eval o).run Try.prog w = .ok (.value (.pointer q)) w := by
  simp [execOp, ho, hx, run_loadPt w p q h]
set_option maxRecDepth 20000 in
set_option maxHeartbeats 2000000 in
theorem rparse_large (A : Option Addr) (n c : Nat) (bs : List Nat) (w : World) (hn : bs.length = n) (hl : 91000 < n) :
    Calls Try.prog 15 #[.slice A n c] w (FpIs (parseZ bs) w) := by
  have HZ : Hid (parseZ bs = (FC.zero, 2)) := hid_ (by unfold parseZ; rw [if_pos (by omega)])
  have HE := hid_ (fun W (h : Ext w W) => FpIs.err HZ.out h)
  have hzs := hid_ zFile_size
  have hzo := hid_ zFile_one
  have hz0 := zeroFileV
  have hbf := hid_ built0F
  generalize zFile = zf at *
  generalize parseZ bs = pz at *
  clear HZ hn
  go_enter Try.func15, Try.ntmps15
  go_wp2_with (first
    | (show wpList _ _ _ (⟨some 2, _, _, _, _, _⟩ :: _) _ _; refine wpList_alloc_abs' rfl (some 2) rfl 45 rfl _ hz0 ?_; intro w1 g0 hb0 hx1 hg0)
    | (show wpList _ _ _ (⟨some 20, _, _, _, _, _⟩ :: _) _ _; refine wpList_build0_g (by rfl) 45 rfl _ hbf.out ?_)
    | (show wpList _ _ _ (⟨none, .store _ (.tmp 2) (.tmp 20), _, _, _, _⟩ :: _) _ _; refine wpList_store_blk rfl 45 (.tmp 2) (.tmp 20) rfl g0 zf rfl rfl hb0 103 sizeFile hzs.out hzs.out hzo.out ?_; intro w2 hb2 hg2))
  exact ret_cell_tmp rfl rfl g0 rfl hb2 _ Try.underlying45 rfl 103 sizeFile hzs.out (HE.out _ (hx1.grown hg2 hg0))
attribute [local irreducible] cntS zfrom symL cntL
set_option maxRecDepth 20000 in
set_option maxHeartbeats 16000000 in
theorem rparse_good (ad : Addr) (n c : Nat) (bs : List Nat) (w : World) (hn : bs.length = n) (h0 : 0 < n) (hl : n ≤ 91000) (hlt : ∀ b ∈ bs, b < 256) (hs : SL w 1 (.slice (some ad) n c) n (bytesV bs)) :
    Calls Try.prog 15 #[.slice (some ad) n c] w (FpIs (parseZ bs) w) := by
  have HSB := hid_ hs
  have HNL := hid_ hn
  have HLT := hid_ hlt
  have hcap : n ≤ c := by obtain ⟨A', c', e, h1, -⟩ := hs; injection e with e1 e2 e3; omega
  have hzs := hid_ zFile_size
  have hzo := hid_ zFile_one
  have hZF := zeroFileV
  have hbf := hid_ built0F
  obtain ⟨X, hX⟩ : ∃ X : Nat → Nat, X = fun p => bs.getD p 0 := ⟨_, rfl⟩
  have HX := hid_ (fun p => (show bs.getD p 0 = X p by rw [hX]))
  have HB : Hid (∀ p, p < n → ∀ W, Ext w W → W.cell? (ad.add (p * 1)) = some (.int .u8 ((X p : Nat) : Int))) := hid_ (fun p hp W hx => by
    obtain ⟨ad', u, e, hb, hu, hc⟩ := hs.at1 hp
    injection e with e
    subst e
    rw [Nat.mul_one, (hx.cell (by rw [block_of_add]; exact hb)).trans hc, ← hu, hX]
    unfold bytesV
    dsimp only
    rw [List.getElem?_map, List.getD_eq_getElem?_getD, List.getElem?_eq_getElem (by omega)]
    rfl)
  have HXL : Hid (∀ p, X p < 256) := hid_ (fun p => by rw [← HX.out]; exact getD_lt hlt p)
  have HCE := hid_ (fun p j => (show cnt bs p j = 256 * X (p + 2 * j) + X (p + 2 * j + 1) by rw [← HX.out, ← HX.out]; rfl))
  have HCS := hid_ (fun p k => cntS_le hlt p k)
  have HCN := hid_ (fun p k => (show cntS bs p (k + 1) = cntS bs p k + cnt bs p k by rw [cntS]))
  have HC0 := hid_ (fun p => (show cntS bs p 0 = 0 by rw [cntS]))
  have HCL0 := hid_ (fun p => (show cntL bs p 0 = [] by unfold cntL; rfl))
  have HSY0 := hid_ (fun p => (show symL bs p 0 = [] by unfold symL; rfl))
  clear hX hs hlt
  have HER := hid_ (fun (E : Int) (h : parseZ bs = (FC.zero, E)) W (hx : Ext w W) => FpIs.err h hx)
  have HE3 := hid_ (fun (h : n < p3 bs) => (show parseZ bs = (FC.zero, 3) by unfold parseZ; rw [if_neg (by omega), if_pos (by omega)]))
  have hF0s : Hid ((FT bs 0).cells (.slice none 0 0) (.slice none 0 0) (.slice none 0 0) = zFile) := hid_ rfl
  generalize hzf : zFile = zf at *
  have HZFE := hid_ hzf
  clear hzf
  go_enter Try.func15, Try.ntmps15
  go_wp2_with (first
    | (show wpList _ _ _ (⟨some 2, _, _, _, _, _⟩ :: _) _ _; refine wpList_alloc_abs' rfl (some 2) rfl 45 rfl _ hZF ?_; intro w1 g0 hb0 hx1 hg0)
    | (show wpList _ _ _ (⟨some 4, _, _, _, _, _⟩ :: _) _ _; refine wpList_alloc_abs' rfl (some 4) rfl 45 rfl _ hZF ?_; intro w2 gf hbf2 hx2 hgf; have hz2 := hb0.ext hx2; have hy2 := hx1.trans hx2)
    | (show wpList _ _ _ (⟨some 25, _, _, _, _, _⟩ :: _) _ _; refine Go.Great.wpList_buildSliceTo rfl 92 91 2 _ rfl _ rfl (some 25) rfl Try.underlying92 #[.pointer (some ⟨gf, 67, none⟩), .pointer (some ⟨gf, 84, none⟩)] (by simp only [List.map_toArray, List.map_cons, List.map_nil]; exact builtPtr _ _) ?_))
  have hg2n := Blk.new w2 91 #[.pointer (some ⟨gf, 67, none⟩), .pointer (some ⟨gf, 84, none⟩)]
  have hx3 := (Ext.refl w2).alloc (.cells #[.pointer (some ⟨gf, 67, none⟩), .pointer (some ⟨gf, 84, none⟩)] 91)
  have hbf3 := hbf2.ext hx3
  have hz3 := hz2.ext hx3
  have hy3 := hy2.trans hx3
  have hgf' : w.heap.size ≤ gf := by have := hx1.size; omega
  have hg0f : g0 < gf := by have := hb0.lt; omega
  obtain ⟨g2, hg2⟩ : ∃ g2, w2.heap.size = g2 := ⟨_, rfl⟩
  have hgf2 : gf < g2 := by have := hbf2.lt; omega
  rw [hg2] at hg2n ⊢
  generalize w2.alloc (.cells #[.pointer (some ⟨gf, 67, none⟩), .pointer (some ⟨gf, 84, none⟩)] 91) = w3 at *
  have hbf3' : Blk w3 gf 45 ((FT bs 0).cells (.slice none 0 0) (.slice none 0 0) (.slice none 0 0)) := by rw [hF0s.out]; exact hbf3
  clear hx3 hbf2 hz2 hy2 hb0 hx1 hx2 hg2 hbf3 hgf
  go_loopw [5, 28] (fun at_ i wr => ∃ (k : Nat) (A1 A2 : Option Addr) (n1 n2 c1 c2 : Nat), k ≤ 2 ∧ i = .int .i64 (k : Int) ∧ at_ = .int .i64 ((pos bs k : Nat) : Int) ∧ (0 < k → pos bs k ≤ n) ∧ (k = 0 → Value.slice A1 n1 c1 = .slice none 0 0) ∧ (k < 2 → Value.slice A2 n2 c2 = .slice none 0 0) ∧ Blk wr g0 45 zf ∧ Blk wr g2 91 #[.pointer (some ⟨gf, 67, none⟩), .pointer (some ⟨gf, 84, none⟩)] ∧
      Blk wr gf 45 ((FT bs k).cells (.slice A1 n1 c1) (.slice A2 n2 c2) (.slice none 0 0)) ∧ wr.ownsRow (g2 + 1) 3 1 (.slice A1 n1 c1) n1 (ints (FT bs k).xs1) ∧ wr.ownsRow (g2 + 1) 3 1 (.slice A2 n2 c2) n2 (ints (FT bs k).xs2) ∧ Ext w wr) (fun _ i _ => 2 - (intOf i).toNat)
  case atStart => exact ⟨0, none, none, 0, 0, 0, 0, by omega, rfl, rfl, fun h => absurd h (by omega), fun _ => rfl, fun _ => rfl, hz3, hg2n, hbf3', own_nil _ _ _ _, own_nil _ _ _ _, hy3⟩
  case round =>
    clear hg2n hz3 hy3 hbf3'
    obtain ⟨k, A1, A2, n1, n2, c1, c2, hk, rfl, rfl, hpn, hs1, hs2, hz, hg2b, hbf2, ho1, ho2, hy⟩ := hrel
    have hg2s := hg2b.lt
    by_cases hk2 : k < 2
    · obtain ⟨a, b, hal, hsp, hnx⟩ := FT_split bs k hk2 (.slice A1 n1 c1) (.slice A2 n2 c2) hs1 (hs2 hk2)
      rw [hsp] at hbf2
      have hptr : wr.cell? ⟨g2, k, none⟩ = some (.pointer (some ⟨gf, a.length, none⟩)) := by
        have := hg2b.cell k
        rw [this, hal]
        have : k = 0 ∨ k = 1 := by omega
        rcases this with rfl | rfl <;> rfl
      have HNX := hid_ hnx
      have HPN := hid_ (pos_next bs k hk2)
      have HPL := hid_ (pos_le bs k hk2)
      have hp70 : pos bs k ≤ n ∨ k = 0 := by by_cases h : 0 < k; exact .inl (hpn h); exact .inr (by omega)
      have hpb : pos bs k ≤ 91000 := by
        rcases hp70 with h | h
        · omega
        · subst h; show 70 ≤ 91000; omega
      have HCSk := hid_ (HCS.out (pos bs k))
      have HCEk := hid_ (HCE.out (pos bs k))
      have HCNk := hid_ (HCN.out (pos bs k))
      clear hsp hnx hp70
      generalize hpp : pos bs k = p at *
      have HPP := hid_ hpp
      clear hpp
      obtain ⟨O, hO⟩ : ∃ O, a.length = O := ⟨_, rfl⟩
      rw [hO] at hptr
      have HOL := hid_ hal
      rw [hO] at HOL
      have hO84 : O ≤ 84 := by rw [HOL.out]; omega
      by_cases hn32 : n < p + 32
      · have HZ := hid_ (HER.out 3 (HE3.out (by have := HPL.out; omega)))
        have hlss : decide ((n : Int) < ((p + 32 : Nat) : Int)) = true := by rw [decide_eq_true_eq]; omega
        clear HER HE3 hbf2 ho1 ho2 HNX HCSk HCEk HCNk hs1 hs2
        generalize parseZ bs = pz at *
        go_wp2_with (first
          | (show wpList _ _ _ (⟨some 30, _, _, _, _, _⟩ :: _) _ _; refine wl_run rfl (.pointer (some ⟨g2, k, none⟩)) (ex_ixSl0 (i := k) Try.underlying92 sizePtr rfl rfl rfl (by omega)) ?_)
          | (show wpList _ _ _ (⟨some 31, _, _, _, _, _⟩ :: _) _ _; refine wl_read rfl (.pointer (some ⟨gf, O, none⟩)) (ex_loadPt rfl rfl hptr) ?_)
          | (show wpList _ _ _ (⟨some 35, _, _, _, _, _⟩ :: _) _ _; refine wl_run rfl (.int .i64 ((p + 32 : Nat) : Int)) (ex_addN rfl rfl rfl (by omega)) ?_)
          | (show wpList _ _ _ (⟨some 36, _, _, _, _, _⟩ :: _) _ _; refine wl_run rfl (.bool true) (ex_lss rfl rfl rfl hlss) ?_)
          | (show wpList _ _ _ (⟨some 37, _, _, _, _, _⟩ :: _) _ _; refine wpList_build0_g (by rfl) 45 rfl _ hbf.out ?_)
          | (show wpList _ _ _ (⟨none, .store _ (.tmp 2) (.tmp 37), _, _, _, _⟩ :: _) _ _; refine wpList_store_blk rfl 45 (.tmp 2) (.tmp 37) rfl g0 zf rfl rfl hz 103 sizeFile hzs.out hzs.out hzo.out ?_; intro w5 hb5 hg5))
        exact ret_cell_tmp rfl rfl g0 rfl hb5 _ Try.underlying45 rfl 103 sizeFile hzs.out (HZ.out _ (hy.grown hg5 hg0))
      · have hlss : decide ((n : Int) < ((p + 32 : Nat) : Int)) = false := by rw [decide_eq_false_iff_not]; omega
        have hbi : Blk wr gf 45 (a ++ (tblL (cntL bs p 0 ++ List.replicate (16 - 0) 0) (.slice none 0 0) ++ b)).toArray := by rw [HCL0.out]; exact hbf2
        have hs0 : ((0 : Nat) : Int) = ((cntS bs p 0 : Nat) : Int) := by rw [HC0.out]
        clear hbf2
        go_upto_region 13 with (first
          | (show wpList _ _ _ (⟨some 30, _, _, _, _, _⟩ :: _) _ _; refine wl_run rfl (.pointer (some ⟨g2, k, none⟩)) (ex_ixSl0 (i := k) Try.underlying92 sizePtr rfl rfl rfl (by omega)) ?_)
          | (show wpList _ _ _ (⟨some 31, _, _, _, _, _⟩ :: _) _ _; refine wl_read rfl (.pointer (some ⟨gf, O, none⟩)) (ex_loadPt rfl rfl hptr) ?_)
          | (show wpList _ _ _ (⟨some 35, _, _, _, _, _⟩ :: _) _ _; refine wl_run rfl (.int .i64 ((p + 32 : Nat) : Int)) (ex_addN rfl rfl rfl (by omega)) ?_)
          | (show wpList _ _ _ (⟨some 36, _, _, _, _, _⟩ :: _) _ _; refine wl_run rfl (.bool false) (ex_lss rfl rfl rfl hlss) ?_))
        go_loopw [9, 38] (fun sv iv wq => ∃ j : Nat, j ≤ 16 ∧ iv = .int .i64 (j : Int) ∧ sv = .int .i64 ((cntS bs p j : Nat) : Int) ∧ Blk wq g0 45 zf ∧ Blk wq g2 91 #[.pointer (some ⟨gf, 67, none⟩), .pointer (some ⟨gf, 84, none⟩)] ∧
            Blk wq gf 45 (a ++ (tblL (cntL bs p j ++ List.replicate (16 - j) 0) (.slice none 0 0) ++ b)).toArray ∧ wq.ownsRow (g2 + 1) 3 1 (.slice A1 n1 c1) n1 (ints (FT bs k).xs1) ∧ wq.ownsRow (g2 + 1) 3 1 (.slice A2 n2 c2) n2 (ints (FT bs k).xs2) ∧ Ext w wq) (fun _ i _ => 16 - (intOf i).toNat)
        case atStart => exact ⟨0, by omega, rfl, by rw [← hs0]; rfl, hz, hg2b, hbi, ho1, ho2, hy⟩
        case round =>
          clear hz hg2b hbi ho1 ho2 hy hg2s hptr hs0
          obtain ⟨j, hj, rfl, rfl, hz, hg2b, hbi, ho1, ho2, hy⟩ := hrel
          have hg2s := hg2b.lt
          by_cases hj16 : j < 16
          · have hCk : cnt bs p j = 256 * X (p + 2 * j) + X (p + 2 * j + 1) := HCEk.out j
            have hSk := HCSk.out j
            have hNk : cntS bs p (j + 1) = cntS bs p j + cnt bs p j := HCNk.out j
            have hx1 := HXL.out (p + 2 * j)
            have hx2 := HXL.out (p + 2 * j + 1)
            have HB1 := hid_ (HB.out (p + 2 * j) (by omega))
            have HB2 := hid_ (HB.out (p + 2 * j + 1) (by omega))
            have hml : j < (tblL (cntL bs p j ++ List.replicate (16 - j) 0) (.slice none 0 0)).length := by rw [tblL_len _ _ (by rw [List.length_append, cntL_len, List.length_replicate]; omega)]; omega
            have HST : Hid ((a ++ (tblL (cntL bs p j ++ List.replicate (16 - j) 0) (.slice none 0 0) ++ b)).toArray.setIfInBounds (O + j) (.int .i64 ((cnt bs p j : Nat) : Int)) = (a ++ (tblL (cntL bs p (j + 1) ++ List.replicate (16 - (j + 1)) 0) (.slice none 0 0) ++ b)).toArray) := hid_ (by
              rw [set_part a _ b O j _ hO hml, ← cntL_set bs p j hj16]
              unfold tblL ints
              rw [List.map_set, List.set_append_left _ _ (by simp [cntL_len]; omega)])
            have HGT : Hid ((a ++ (tblL (cntL bs p (j + 1) ++ List.replicate (16 - (j + 1)) 0) (.slice none 0 0) ++ b)).toArray[O + j]? = some (.int .i64 ((cnt bs p j : Nat) : Int))) := hid_ (by
              rw [get_part a _ b O j hO (by rw [tblL_len _ _ (by rw [List.length_append, cntL_len, List.length_replicate]; omega)]; omega)]
              unfold tblL ints
              rw [List.getElem?_append_left (by simp [cntL_len]; omega), List.getElem?_map, List.getElem?_append_left (by rw [cntL_len]; omega), cntL_succ, List.getElem?_append_right (by rw [cntL_len]; omega), cntL_len, Nat.sub_self]
              rfl)
            have hsz : O + j < (a ++ (tblL (cntL bs p j ++ List.replicate (16 - j) 0) (.slice none 0 0) ++ b)).toArray.size := by
              rw [List.size_toArray, List.length_append, List.length_append, hO]; omega
            clear hml
            generalize X (p + 2 * j) = x1 at *
            generalize X (p + 2 * j + 1) = x2 at *
            generalize hck : cnt bs p j = ck at *
            clear hck
            generalize cntS bs p j = S at *
            generalize hS2 : cntS bs p (j + 1) = S2 at *
            have HS2 := hid_ hS2
            clear hS2
            generalize hT1 : (a ++ (tblL (cntL bs p j ++ List.replicate (16 - j) 0) (.slice none 0 0) ++ b)).toArray = T1 at *
            generalize hT2 : (a ++ (tblL (cntL bs p (j + 1) ++ List.replicate (16 - (j + 1)) 0) (.slice none 0 0) ++ b)).toArray = T2 at *
            have HT2 := hid_ hT2
            clear hT1 hT2
            go_wp2_with fail
            have hyD := hy.drew
            have hzD := hz.drew
            have hg2D := hg2b.drew
            have hbD := hbi.drew
            have ho1D := (show wr.drew.ownsRow (g2 + 1) 3 1 (.slice A1 n1 c1) n1 (ints (FT bs k).xs1) from ho1)
            have ho2D := (show wr.drew.ownsRow (g2 + 1) 3 1 (.slice A2 n2 c2) n2 (ints (FT bs k).xs2) from ho2)
            have hI : Ext w wr.drew := hyD
            clear hz hg2b hbi ho1 ho2 hy hg2s
            refine wp_region_oi (Ext w) (by kernel_rfl) ?_
            refine oi_run (k := 0) (by kernel_rfl) rfl (by rfl) (.pointer (some ⟨gf, O, none⟩)) (ex_move rfl rfl) hI ?_
            simp only [Act.put, List.setIfInBounds_toArray, List.set_cons_succ, List.set_cons_zero]
            refine oi_run (k := 1) (by kernel_rfl) rfl (by rfl) (.int .i64 ((j : Nat) : Int)) (ex_move rfl rfl) hI ?_
            simp only [Act.put, List.setIfInBounds_toArray, List.set_cons_succ, List.set_cons_zero]
            refine oi_run (k := 2) (by kernel_rfl) rfl (by rfl) (.slice (some ad) n c) (ex_move rfl rfl) hI ?_
            simp only [Act.put, List.setIfInBounds_toArray, List.set_cons_succ, List.set_cons_zero]
            refine oi_run (k := 3) (by kernel_rfl) rfl (by rfl) (.int .i64 ((p : Nat) : Int)) (ex_move rfl rfl) hI ?_
            simp only [Act.put, List.setIfInBounds_toArray, List.set_cons_succ, List.set_cons_zero]
            refine oi_run (k := 4) (by kernel_rfl) rfl (by rfl) (.int .i64 ((j : Nat) : Int)) (ex_move rfl rfl) hI ?_
            simp only [Act.put, List.setIfInBounds_toArray, List.set_cons_succ, List.set_cons_zero]
            refine oi_run (k := 5) (by kernel_rfl) rfl (by rfl) (.int .i64 ((2 * j : Nat) : Int)) (ex_mulN rfl rfl rfl (by omega)) hI ?_
            simp only [Act.put, List.setIfInBounds_toArray, List.set_cons_succ, List.set_cons_zero]
            refine oi_run (k := 6) (by kernel_rfl) rfl (by rfl) (.int .i64 ((p + 2 * j : Nat) : Int)) (ex_addN rfl rfl rfl (by omega)) hI ?_
            simp only [Act.put, List.setIfInBounds_toArray, List.set_cons_succ, List.set_cons_zero]
            refine oi_run (k := 7) (by kernel_rfl) rfl (by rfl) (.pointer (some (ad.add ((p + 2 * j) * 1)))) (ex_ixSl (i := p + 2 * j) Try.underlying38 sizeU8 rfl rfl rfl (by omega)) hI ?_
            simp only [Act.put, List.setIfInBounds_toArray, List.set_cons_succ, List.set_cons_zero]
            refine oi_fix (k := 8) (by kernel_rfl) rfl (by rfl) (.int .u8 ((x1 : Nat) : Int)) (fun W hW => ex_loadU rfl rfl (HB1.out W hW)) hI ?_
            simp only [Act.put, List.setIfInBounds_toArray, List.set_cons_succ, List.set_cons_zero]
            refine oi_run (k := 9) (by kernel_rfl) rfl (by rfl) (.int .i64 ((x1 : Nat) : Int)) (ex_conv rfl rfl (run_conv8 x1 hx1)) hI ?_
            simp only [Act.put, List.setIfInBounds_toArray, List.set_cons_succ, List.set_cons_zero]
            refine oi_run (k := 10) (by kernel_rfl) rfl (by rfl) (.int .i64 ((256 * x1 : Nat) : Int)) (ex_mulN rfl rfl rfl (by omega)) hI ?_
            simp only [Act.put, List.setIfInBounds_toArray, List.set_cons_succ, List.set_cons_zero]
            refine oi_run (k := 11) (by kernel_rfl) rfl (by rfl) (.slice (some ad) n c) (ex_move rfl rfl) hI ?_
            simp only [Act.put, List.setIfInBounds_toArray, List.set_cons_succ, List.set_cons_zero]
            refine oi_run (k := 12) (by kernel_rfl) rfl (by rfl) (.int .i64 ((p : Nat) : Int)) (ex_move rfl rfl) hI ?_
            simp only [Act.put, List.setIfInBounds_toArray, List.set_cons_succ, List.set_cons_zero]
            refine oi_run (k := 13) (by kernel_rfl) rfl (by rfl) (.int .i64 ((j : Nat) : Int)) (ex_move rfl rfl) hI ?_
            simp only [Act.put, List.setIfInBounds_toArray, List.set_cons_succ, List.set_cons_zero]
            refine oi_run (k := 14) (by kernel_rfl) rfl (by rfl) (.int .i64 ((2 * j : Nat) : Int)) (ex_mulN rfl rfl rfl (by omega)) hI ?_
            simp only [Act.put, List.setIfInBounds_toArray, List.set_cons_succ, List.set_cons_zero]
            refine oi_run (k := 15) (by kernel_rfl) rfl (by rfl) (.int .i64 ((p + 2 * j : Nat) : Int)) (ex_addN rfl rfl rfl (by omega)) hI ?_
            simp only [Act.put, List.setIfInBounds_toArray, List.set_cons_succ, List.set_cons_zero]
            refine oi_run (k := 16) (by kernel_rfl) rfl (by rfl) (.int .i64 ((p + 2 * j + 1 : Nat) : Int)) (ex_addN rfl rfl rfl (by omega)) hI ?_
            simp only [Act.put, List.setIfInBounds_toArray, List.set_cons_succ, List.set_cons_zero]
            refine oi_run (k := 17) (by kernel_rfl) rfl (by rfl) (.pointer (some (ad.add ((p + 2 * j + 1) * 1)))) (ex_ixSl (i := p + 2 * j + 1) Try.underlying38 sizeU8 rfl rfl rfl (by omega)) hI ?_
            simp only [Act.put, List.setIfInBounds_toArray, List.set_cons_succ, List.set_cons_zero]
            refine oi_fix (k := 18) (by kernel_rfl) rfl (by rfl) (.int .u8 ((x2 : Nat) : Int)) (fun W hW => ex_loadU rfl rfl (HB2.out W hW)) hI ?_
            simp only [Act.put, List.setIfInBounds_toArray, List.set_cons_succ, List.set_cons_zero]
            refine oi_run (k := 19) (by kernel_rfl) rfl (by rfl) (.int .i64 ((x2 : Nat) : Int)) (ex_conv rfl rfl (run_conv8 x2 hx2)) hI ?_
            simp only [Act.put, List.setIfInBounds_toArray, List.set_cons_succ, List.set_cons_zero]
            refine oi_run (k := 20) (by kernel_rfl) rfl (by rfl) (.int .i64 ((256 * x1 + x2 : Nat) : Int)) (ex_addN rfl rfl rfl (by omega)) hI ?_
            simp only [Act.put, List.setIfInBounds_toArray, List.set_cons_succ, List.set_cons_zero]
            refine oi_run (k := 21) (by kernel_rfl) rfl (by rfl) (.pointer (some ⟨gf, O, none⟩)) (ex_nil rfl rfl) hI ?_
            simp only [Act.put, List.setIfInBounds_toArray, List.set_cons_succ, List.set_cons_zero]
            refine oi_run (k := 22) (by kernel_rfl) rfl (by rfl) (.pointer (some ⟨gf, O, none⟩)) (fun W => by go_simp) hI ?_
            simp only [Act.put, List.setIfInBounds_toArray, List.set_cons_succ, List.set_cons_zero]
            refine oi_run (k := 23) (by kernel_rfl) rfl (by rfl) (.pointer (some ⟨gf, O + j, none⟩)) (ex_ixArrO rfl rfl rfl hj16) hI ?_
            simp only [Act.put, List.setIfInBounds_toArray, List.set_cons_succ, List.set_cons_zero]
            refine oi_loud (k := 24) (by kernel_rfl) rfl ?_
            refine wl_storeI rfl _ _ rfl gf (O + j) ((ck : Nat) : Int) rfl (by rw [hCk]; rfl) hbD hsz ?_
            have hb5 := hbD.set_ (O + j) (.int .i64 ((ck : Nat) : Int))
            rw [HST.out] at hb5
            have hu5 := (Upd.refl (fun b => b = gf) wr.drew).setCell (p := ⟨gf, O + j, none⟩) rfl (.int .i64 ((ck : Nat) : Int))
            have hz5 := hu5.blk hzD (by omega)
            have hg5 := hu5.blk hg2D (by omega)
            have ho15 := own_upd ho1D hu5 (fun y hy => by omega)
            have ho25 := own_upd ho2D hu5 (fun y hy => by omega)
            have hy5 := hu5.ext hyD (fun y hx => by omega)
            have hl5 := (hb5.cell (O + j)).trans HGT.out
            refine oi_end ⟨hy5, ?_⟩
            simp only [Act.put, List.setIfInBounds_toArray, List.set_cons_succ, List.set_cons_zero]
            refine oi_done (by kernel_rfl) ?_
            clear hI hyD hzD hg2D hbD ho1D ho2D hu5
            generalize wr.drew.setCell ⟨gf, O + j, none⟩ (.int .i64 ((ck : Nat) : Int)) = w5 at *
            go_wp2_with (first
              | (show wpList _ _ _ (⟨some 70, _, _, _, _, _⟩ :: _) _ _; refine wl_run rfl (.pointer (some ⟨gf, O + j, none⟩)) (ex_ixArrO rfl rfl rfl hj16) ?_)
              | (show wpList _ _ _ (⟨some 71, _, _, _, _, _⟩ :: _) _ _; refine wl_read rfl (.int .i64 ((ck : Nat) : Int)) (ex_loadI rfl rfl hl5) ?_)
              | (show wpList _ _ _ (⟨some 72, _, _, _, _, _⟩ :: _) _ _; refine wl_run rfl (.int .i64 ((S + ck : Nat) : Int)) (ex_addN rfl rfl rfl (by omega)) ?_))
            go_roundw
            case rel => exact ⟨j + 1, by omega, by go_num, by rw [HS2.out, hNk]; go_num, hz5, hg5, by rw [HT2.out]; exact hb5, ho15, ho25, hy5⟩
            case measure => simp [intOf]; omega
          · obtain rfl : j = 16 := by omega
            rw [show 16 - 16 = 0 by rfl, List.replicate_zero, List.append_nil] at hbi
            have hSb := HCSk.out 16
            have HPL2 : p + 32 + cntS bs p 16 ≤ p3 bs := HPL.out
            have HPN2 : pos bs (k + 1) = p + 32 + cntS bs p 16 := HPN.out
            have HNX2 := HNX
            obtain ⟨S, hS⟩ : ∃ S, cntS bs p 16 = S := ⟨_, rfl⟩
            rw [hS] at hSb HPL2 HPN2
            have HSS := hid_ hS
            by_cases hnS : n < p + 32 + S
            · have HZ := hid_ (HER.out 3 (HE3.out (by omega)))
              have hlss2 : decide ((n : Int) < ((p + 32 + S : Nat) : Int)) = true := by rw [decide_eq_true_eq]; omega
              clear HER HE3 hbi ho1 ho2 HNX HNX2 HCSk HCEk HCNk hs1 hs2
              rw [hS]
              clear hS
              go_wp2_with (first
                | (show wpList _ _ _ (⟨some 75, _, _, _, _, _⟩ :: _) _ _; refine wl_run rfl (.int .i64 ((p + 32 : Nat) : Int)) (ex_addN rfl rfl rfl (by omega)) ?_)
                | (show wpList _ _ _ (⟨some 80, _, _, _, _, _⟩ :: _) _ _; refine wl_run rfl (.int .i64 ((p + 32 + S : Nat) : Int)) (ex_addN rfl rfl rfl (by omega)) ?_)
                | (show wpList _ _ _ (⟨some 81, _, _, _, _, _⟩ :: _) _ _; refine wl_run rfl (.bool true) (ex_lss rfl rfl rfl hlss2) ?_)
                | (show wpList _ _ _ (⟨some 82, _, _, _, _, _⟩ :: _) _ _; refine wpList_build0_g (by rfl) 45 rfl _ hbf.out ?_)
                | (show wpList _ _ _ (⟨none, .store _ (.tmp 2) (.tmp 82), _, _, _, _⟩ :: _) _ _; refine wpList_store_blk rfl 45 (.tmp 2) (.tmp 82) rfl g0 zf rfl rfl hz 103 sizeFile hzs.out hzs.out hzo.out ?_; intro w5 hb5 hg5))
              exact ret_cell_tmp rfl rfl g0 rfl hb5 _ Try.underlying45 rfl 103 sizeFile hzs.out (HZ.out _ (hy.grown hg5 hg0))
            · have hlss2 : decide ((n : Int) < ((p + 32 + S : Nat) : Int)) = false := by rw [decide_eq_false_iff_not]; omega
              have hsub := HSB.out.sub (l := p + 32) (h := p + 32 + S) (by omega) (by omega)
              rw [show p + 32 + S - (p + 32) = S by omega] at hsub
              obtain ⟨YA, hYA⟩ : ∃ Y : Option Addr, Y = (if c = p + 32 then some ad else (some ad : Option Addr).map (·.add (p + 32))) := ⟨_, rfl⟩
              rw [← hYA] at hsub
              have HSL : Hid (∀ (o : Oper) (a : Act) (x lo hi : Operand), o.op = .slice 38 x (some lo) (some hi) none → a.eval x = .slice (some ad) n c → a.eval lo = .int .i64 ((p + 32 : Nat) : Int) → a.eval hi = .int .i64 ((p + 32 + S : Nat) : Int) → ∀ W, (execOp a.eval o).run Try.prog W = .ok (.value (.slice YA S (c - (p + 32)))) W) := hid_ (fun o a x lo hi h1 h2 h3 h4 W => by
                have := ex_sliceB (l := p + 32) (h := p + 32 + S) h1 h2 h3 h4 (by omega) (by omega) hcap W
                rw [hYA]
                rw [show p + 32 + S - (p + 32) = S by omega] at this
                exact this)
              obtain ⟨yc, hyc⟩ : ∃ yc, c - (p + 32) = yc := ⟨_, rfl⟩
              rw [hyc] at hsub HSL
              clear hYA hyc
              have hXS : Hid (∀ j u, j < S → (bytesV ((bs.drop (p + 32)).take S))[j]? = some u → u = .int .u8 ((X (p + 32 + j) : Nat) : Int)) := hid_ (fun j u hj h => by
                unfold bytesV at h
                rw [List.getElem?_map, List.getElem?_take_of_lt hj, List.getElem?_drop] at h
                have hlen : p + 32 + j < bs.length := by have := HNL.out; omega
                rw [List.getElem?_eq_getElem hlen] at h
                injection h with h
                rw [← h, ← HX.out, List.getD_eq_getElem?_getD, List.getElem?_eq_getElem hlen]
                rfl)
              have HSUB : Hid (SL w 1 (.slice YA S yc) S (bytesV ((bs.drop (p + 32)).take S))) := hid_ (by simpa [bytesV, List.map_take, List.map_drop] using hsub)
              clear hsub
              rw [hS]
              clear hS
              have hB3 : ∀ x, (Value.slice A1 n1 c1).ownBlock = some x → x < wr.heap.size := fun x hx => (ho1.lt x hx).2
              have hB4 : ∀ x, (Value.slice A2 n2 c2).ownBlock = some x → x < wr.heap.size := fun x hx => (ho2.lt x hx).2
              obtain ⟨B3, hB⟩ : ∃ B3, B3 = wr.heap.size := ⟨_, rfl⟩
              have hB3l : B3 ≤ wr.heap.size := by omega
              have hB3g : g2 + 1 ≤ B3 := by have := hg2b.lt; omega
              rw [← hB] at hB3 hB4
              clear hB
              have HB3 := hid_ hB3
              have HB4 := hid_ hB4
              have own3 : wr.ownsRow B3 3 1 (.slice none 0 0) 0 (ints (symL bs (p + 32) 0)) := by rw [HSY0.out]; exact own_nil _ _ _ _
              clear hB3 hB4
              go_upto_region 22 with (first
                | (show wpList _ _ _ (⟨some 75, _, _, _, _, _⟩ :: _) _ _; refine wl_run rfl (.int .i64 ((p + 32 : Nat) : Int)) (ex_addN rfl rfl rfl (by omega)) ?_)
                | (show wpList _ _ _ (⟨some 80, _, _, _, _, _⟩ :: _) _ _; refine wl_run rfl (.int .i64 ((p + 32 + S : Nat) : Int)) (ex_addN rfl rfl rfl (by omega)) ?_)
                | (show wpList _ _ _ (⟨some 81, _, _, _, _, _⟩ :: _) _ _; refine wl_run rfl (.bool false) (ex_lss rfl rfl rfl hlss2) ?_)
                | (show wpList _ _ _ (⟨some 87, _, _, _, _, _⟩ :: _) _ _; refine wl_run rfl (.int .i64 ((p + 32 + S : Nat) : Int)) (ex_addN rfl rfl rfl (by omega)) ?_)
                | (show wpList _ _ _ (⟨some 88, _, _, _, _, _⟩ :: _) _ _; refine wl_run rfl (.slice YA S yc) (HSL.out _ _ _ _ _ rfl rfl rfl rfl) ?_))
              go_loopw [90] (fun iv wq => ∃ (j : Nat) (A3 : Option Addr) (c3 : Nat), j ≤ S ∧ iv = .int .i64 (j : Int) ∧ Blk wq g0 45 zf ∧ Blk wq g2 91 #[.pointer (some ⟨gf, 67, none⟩), .pointer (some ⟨gf, 84, none⟩)] ∧
                  Blk wq gf 45 (a ++ (tblL (cntL bs p 16) (.slice A3 j c3) ++ b)).toArray ∧ wq.ownsRow (g2 + 1) 3 1 (.slice A1 n1 c1) n1 (ints (FT bs k).xs1) ∧ wq.ownsRow (g2 + 1) 3 1 (.slice A2 n2 c2) n2 (ints (FT bs k).xs2) ∧ wq.ownsRow B3 3 1 (.slice A3 j c3) j (ints (symL bs (p + 32) j)) ∧ Ext w wq ∧ B3 ≤ wq.heap.size) (fun i _ => S - (intOf i).toNat)
              case atStart => exact ⟨0, none, 0, by omega, rfl, hz, hg2b, hbi, ho1, ho2, own3, hy, hB3l⟩
              case round =>
                clear hz hg2b hbi ho1 ho2 own3 hy hB3l hg2s
                obtain ⟨j, A3, c3, hj, rfl, hz, hg2b, hbi, ho1, ho2, ho3, hy, hB3l⟩ := hrel
                have hg2s := hg2b.lt
                by_cases hjS : j < S
                · obtain ⟨ad2, u, rfl, hsb, hu, hcu⟩ := HSUB.out.at1 hjS
                  obtain rfl := hXS.out j u hjS hu
                  have hcj : wr.cell? (ad2.add (j * 1)) = some (.int .u8 ((X (p + 32 + j) : Nat) : Int)) := by rw [Nat.mul_one, (hy.cell (by rw [block_of_add]; exact hsb)).trans hcu]
                  have hxl := HXL.out (p + 32 + j)
                  have HSYj : Hid (symL bs (p + 32) (j + 1) = symL bs (p + 32) j ++ [((X (p + 32 + j) : Nat) : Int)]) := hid_ (by rw [symL_succ, HX.out])
                  have hml : ∀ B m d, 16 < (tblL (cntL bs p 16) (.slice B m d)).length := fun B m d => by rw [tblL_len _ _ (cntL_len _ _ _)]; omega
                  have hcs : wr.cell? ⟨gf, O + 16, none⟩ = some (.slice A3 j c3) := by
                    rw [hbi.cell, get_part a _ b O 16 hO (hml _ _ _)]
                    unfold tblL
                    rw [List.getElem?_append_right (by rw [ints_len, cntL_len]; omega), ints_len, cntL_len]
                    rfl
                  have HST2 : Hid (∀ B m d, (a ++ (tblL (cntL bs p 16) (.slice A3 j c3) ++ b)).toArray.setIfInBounds (O + 16) (.slice B m d) = (a ++ (tblL (cntL bs p 16) (.slice B m d) ++ b)).toArray) := hid_ (fun B m d => by
                    rw [set_part a _ b O 16 _ hO (hml _ _ _)]
                    unfold tblL
                    rw [List.set_append_right _ _ (by rw [ints_len, cntL_len]; omega), ints_len, cntL_len]
                    rfl)
                  have hsz : O + 16 < (a ++ (tblL (cntL bs p 16) (.slice A3 j c3) ++ b)).toArray.size := by
                    rw [List.size_toArray, List.length_append, List.length_append, hO]; have := hml A3 j c3; omega
                  obtain ⟨TB, hTB⟩ : ∃ TB : Option Addr → Nat → Nat → Array Value, TB = fun B m d => (a ++ (tblL (cntL bs p 16) (.slice B m d) ++ b)).toArray := ⟨_, rfl⟩
                  have HTB := hid_ hTB
                  have eTB : ∀ B m d, (a ++ (tblL (cntL bs p 16) (.slice B m d) ++ b)).toArray = TB B m d := fun B m d => by rw [hTB]
                  simp only [eTB] at hbi HST2 hsz
                  clear hml hu hTB eTB hcu
                  generalize X (p + 32 + j) = x at *
                  go_wp2_with (first
                    | (show wpList _ _ _ (⟨some 92, _, _, _, _, _⟩ :: _) _ _; refine wl_run rfl (.pointer (some (ad2.add (j * 1)))) (ex_ixSl (i := j) Try.underlying38 sizeU8 rfl rfl rfl hjS) ?_)
                    | (show wpList _ _ _ (⟨some 93, _, _, _, _, _⟩ :: _) _ _; refine wl_read rfl (.int .u8 ((x : Nat) : Int)) (ex_loadU rfl rfl hcj) ?_)
                    | (show wpList _ _ _ (⟨some 98, _, _, _, _, _⟩ :: _) _ _; refine wl_read rfl (.slice A3 j c3) (ex_loadL rfl rfl hcs) ?_)
                    | (show wpList _ _ _ (⟨some 100, _, _, _, _, _⟩ :: _) _ _; refine wl_run rfl (.int .i64 ((x : Nat) : Int)) (ex_conv rfl rfl (run_conv8 x hxl)) ?_)
                    | (show wpList _ _ _ (⟨some 101, _, _, _, _, _⟩ :: _) _ _; refine wpList_lit1 rfl 30 3 (.tmp 100) rfl (some 101) rfl Try.underlying30 1 sizeI zeroIP _ rfl rfl (by omega) (by omega) ?_; intro w4 g4 hb4 hx4 hg4; have hz4 := hz.ext hx4; have hg24 := hg2b.ext hx4; have hbi4 := hbi.ext hx4; have ho14 := own_keep ho1 hx4; have ho24 := own_keep ho2 hx4; have ho34 := own_keep ho3 hx4; have hy4 := hy.trans hx4; have hB34 := Nat.le_trans hB3l hx4.size; clear hz hg2b hbi ho1 ho2 ho3 hy)
                    | (show wpList _ _ _ (⟨some 102, _, _, _, _, _⟩ :: _) _ _; refine wpList_append_slf elt_intP rfl (.tmp 98) (.tmp 101) rfl B3 (.slice A3 j c3) j (ints (symL bs (p + 32) j)) rfl ho34 _ 1 (ints [((x : Nat) : Int)]) rfl (blk_one hb4) (ints_one_mem _) (by omega) (by omega) hB34 ?_; intro A5 c5 w5 ho35 hg5 hr5; have hug := upd_grown hg5; have hz5 := hug.blk hz4 (fun q => by have := (ho34.lt g0 q).1; omega); have hg25 := hug.blk hg24 (fun q => by have := (ho34.lt g2 q).1; omega); have hbi5 := hug.blk hbi4 (fun q => by have := (ho34.lt gf q).1; omega); have ho15 := own_upd2 ho14 hug (fun y hy q => by have := (ho34.lt y q).1; have := HB3.out y hy; omega); have ho25 := own_upd2 ho24 hug (fun y hy q => by have := (ho34.lt y q).1; have := HB4.out y hy; omega); have hy5 := Below.grown hy4 hg5 hy4.size (fun y q => by have := (ho34.lt y q).1; omega); have hB35 := Nat.le_trans hB34 hug.size; clear hz4 hg24 hbi4 ho14 ho24 hy4)
                    | (show wpList _ _ _ (⟨none, .store _ (.tmp 104) (.tmp 102), _, _, _, _⟩ :: _) _ _; refine wl_storeL rfl _ _ rfl gf (O + 16) A5 (j + 1) c5 rfl rfl hbi5 hsz ?_; have hb6 := hbi5.set_ (O + 16) (.slice A5 (j + 1) c5); rw [HST2.out] at hb6; have hus := (Upd.refl (fun b => b = gf) w5).setCell (p := ⟨gf, O + 16, none⟩) rfl (.slice A5 (j + 1) c5); have hz6 := hus.blk hz5 (by omega); have hg26 := hus.blk hg25 (by omega); have ho16 := own_upd ho15 hus (fun y hy => by omega); have ho26 := own_upd ho25 hus (fun y hy => by omega); have ho36 := own_upd ho35 hus (fun y hy => by omega); have hy6 := hus.ext hy5 (fun y hx => by omega); have hB36 := Nat.le_trans hB35 hus.size; clear hz5 hg25 hbi5 ho15 ho25 ho35 hy5; generalize w5.setCell ⟨gf, O + 16, none⟩ (.slice A5 (j + 1) c5) = w6 at *))
                  go_roundw
                  case rel => exact ⟨j + 1, A5, c5, by omega, by go_num, hz6, hg26, by rw [HTB.out] at hb6; exact hb6, ho16, ho26, by rw [HSYj.out, ints_app]; exact ho36, hy6, hB36⟩
                  case measure => simp [intOf]; omega
                · obtain rfl : j = S := by omega
                  have hfin := HNX2.out (.slice A3 j c3)
                  clear HNX2 HNX HB HCSk HCEk HCNk HCS HCN HCE
                  go_wp2_with (first
                    | (show wpList _ _ _ (⟨some 108, _, _, _, _, _⟩ :: _) _ _; refine wl_run rfl (.int .i64 ((p + 32 + j : Nat) : Int)) (ex_addN rfl rfl rfl (by omega)) ?_))
                  go_roundw
                  case rel =>
                    have hk01 : k = 0 ∨ k = 1 := by omega
                    rcases hk01 with rfl | rfl
                    · rw [if_pos rfl, if_pos rfl] at hfin
                      have e1 : (FT bs (0 + 1)).xs1 = symL bs (p + 32) j := by rw [← HSS.out, ← HPP.out]; rfl
                      refine ⟨0 + 1, A3, A2, j, n2, c3, c2, by omega, by go_num, by rw [HPN2]; go_num, fun _ => by rw [HPN2]; omega, fun h => absurd h (by omega), fun _ => hs2 (by omega), hz, hg2b, by rw [← hfin]; exact hbi, ?_, ho2, hy⟩
                      rw [e1]
                      exact own_base ho3 hB3g
                    · rw [if_neg (by omega), if_neg (by omega)] at hfin
                      have e1 : (FT bs (1 + 1)).xs2 = symL bs (p + 32) j := by rw [← HSS.out, ← HPP.out]; rfl
                      refine ⟨1 + 1, A1, A3, n1, j, c1, c3, by omega, by go_num, by rw [HPN2]; go_num, fun _ => by rw [HPN2]; omega, fun h => absurd h (by omega), fun h => absurd h (by omega), hz, hg2b, by rw [← hfin]; exact hbi, ho1, ?_, hy⟩
                      rw [e1]
                      exact own_base ho3 hB3g
                  case measure => simp [intOf]; omega
    · obtain rfl : k = 2 := by omega
      have hp3 : p3 bs ≤ n := hpn (by omega)
      have hpx : 102 ≤ p3 bs := by unfold p3 p2; omega
      have hnb : 102 ≤ n := by omega
      clear hs1 hs2 hpn HE3 HCS HCE HCN HC0 HCL0 HSY0 hF0s HXL
      have hxb : ∀ q, X q < 256 := fun q => by rw [← HX.out]; exact getD_lt HLT.out q
      have hFs := FT_shaped bs 2
      obtain ⟨F, hF⟩ : ∃ F, F = FT bs 2 := ⟨_, rfl⟩
      rw [← hF] at hbf2 ho1 ho2 hFs
      have HF := hid_ hF
      clear hF
      have hpos : pos bs 2 = p3 bs := rfl
      rw [hpos]
      go_wp2_with fail
      have hyD := hy.drew
      have hzD := hz.drew
      have hbD := hbf2.drew
      have ho1D := (show wr.drew.ownsRow (g2 + 1) 3 1 (.slice A1 n1 c1) n1 (ints F.xs1) from ho1)
      have ho2D := (show wr.drew.ownsRow (g2 + 1) 3 1 (.slice A2 n2 c2) n2 (ints F.xs2) from ho2)
      have hI : Ext w wr.drew := hyD
      clear hz hg2b hbf2 ho1 ho2 hy hg2s
      refine wp_region_oi (Ext w) (by kernel_rfl) ?_
      refine oi_run (k := 0) (by kernel_rfl) rfl (by rfl) (.slice (some ad) n c) (ex_move rfl rfl) hI ?_
      simp only [Act.put, List.setIfInBounds_toArray, List.set_cons_succ, List.set_cons_zero]
      refine oi_run (k := 1) (by kernel_rfl) rfl (by rfl) (.pointer (some (ad.add (2 * 1)))) (ex_ixSl (i := 2) Try.underlying38 sizeU8 rfl rfl rfl (by omega)) hI ?_
      simp only [Act.put, List.setIfInBounds_toArray, List.set_cons_succ, List.set_cons_zero]
      refine oi_fix (k := 2) (by kernel_rfl) rfl (by rfl) (.int .u8 ((X 2 : Nat) : Int)) (fun W hW => ex_loadU rfl rfl (HB.out 2 (by omega) W hW)) hI ?_
      simp only [Act.put, List.setIfInBounds_toArray, List.set_cons_succ, List.set_cons_zero]
      refine oi_run (k := 3) (by kernel_rfl) rfl (by rfl) (.int .i64 ((X 2 : Nat) : Int)) (ex_conv rfl rfl (run_conv8 (X 2) (hxb 2))) hI ?_
      simp only [Act.put, List.setIfInBounds_toArray, List.set_cons_succ, List.set_cons_zero]
      refine oi_run (k := 4) (by kernel_rfl) rfl (by rfl) (.slice (some ad) n c) (ex_move rfl rfl) hI ?_
      simp only [Act.put, List.setIfInBounds_toArray, List.set_cons_succ, List.set_cons_zero]
      refine oi_run (k := 5) (by kernel_rfl) rfl (by rfl) (.pointer (some (ad.add (3 * 1)))) (ex_ixSl (i := 3) Try.underlying38 sizeU8 rfl rfl rfl (by omega)) hI ?_
      simp only [Act.put, List.setIfInBounds_toArray, List.set_cons_succ, List.set_cons_zero]
      refine oi_fix (k := 6) (by kernel_rfl) rfl (by rfl) (.int .u8 ((X 3 : Nat) : Int)) (fun W hW => ex_loadU rfl rfl (HB.out 3 (by omega) W hW)) hI ?_
      simp only [Act.put, List.setIfInBounds_toArray, List.set_cons_succ, List.set_cons_zero]
      refine oi_run (k := 7) (by kernel_rfl) rfl (by rfl) (.int .i64 ((X 3 : Nat) : Int)) (ex_conv rfl rfl (run_conv8 (X 3) (hxb 3))) hI ?_
      simp only [Act.put, List.setIfInBounds_toArray, List.set_cons_succ, List.set_cons_zero]
      refine oi_run (k := 8) (by kernel_rfl) rfl (by rfl) (.slice (some ad) n c) (ex_move rfl rfl) hI ?_
      simp only [Act.put, List.setIfInBounds_toArray, List.set_cons_succ, List.set_cons_zero]
      refine oi_run (k := 9) (by kernel_rfl) rfl (by rfl) (.pointer (some (ad.add (4 * 1)))) (ex_ixSl (i := 4) Try.underlying38 sizeU8 rfl rfl rfl (by omega)) hI ?_
      simp only [Act.put, List.setIfInBounds_toArray, List.set_cons_succ, List.set_cons_zero]
      refine oi_fix (k := 10) (by kernel_rfl) rfl (by rfl) (.int .u8 ((X 4 : Nat) : Int)) (fun W hW => ex_loadU rfl rfl (HB.out 4 (by omega) W hW)) hI ?_
      simp only [Act.put, List.setIfInBounds_toArray, List.set_cons_succ, List.set_cons_zero]
      refine oi_run (k := 11) (by kernel_rfl) rfl (by rfl) (.int .i64 ((X 4 : Nat) : Int)) (ex_conv rfl rfl (run_conv8 (X 4) (hxb 4))) hI ?_
      simp only [Act.put, List.setIfInBounds_toArray, List.set_cons_succ, List.set_cons_zero]
      refine oi_run (k := 12) (by kernel_rfl) rfl (by rfl) (.slice (some ad) n c) (ex_move rfl rfl) hI ?_
      simp only [Act.put, List.setIfInBounds_toArray, List.set_cons_succ, List.set_cons_zero]
      refine oi_run (k := 13) (by kernel_rfl) rfl (by rfl) (.pointer (some (ad.add (5 * 1)))) (ex_ixSl (i := 5) Try.underlying38 sizeU8 rfl rfl rfl (by omega)) hI ?_
      simp only [Act.put, List.setIfInBounds_toArray, List.set_cons_succ, List.set_cons_zero]
      refine oi_fix (k := 14) (by kernel_rfl) rfl (by rfl) (.int .u8 ((X 5 : Nat) : Int)) (fun W hW => ex_loadU rfl rfl (HB.out 5 (by omega) W hW)) hI ?_
      simp only [Act.put, List.setIfInBounds_toArray, List.set_cons_succ, List.set_cons_zero]
      refine oi_run (k := 15) (by kernel_rfl) rfl (by rfl) (.int .i64 ((X 5 : Nat) : Int)) (ex_conv rfl rfl (run_conv8 (X 5) (hxb 5))) hI ?_
      simp only [Act.put, List.setIfInBounds_toArray, List.set_cons_succ, List.set_cons_zero]
      refine oi_run (k := 16) (by kernel_rfl) rfl (by rfl) (.pointer (some ⟨gf, 0, none⟩)) (fun W => by go_simp) hI ?_
      simp only [Act.put, List.setIfInBounds_toArray, List.set_cons_succ, List.set_cons_zero]
      refine oi_loud (k := 17) (by kernel_rfl) rfl ?_
      refine wl_storeI rfl _ _ rfl gf 0 ((X 2 : Nat) : Int) rfl rfl hbD (by rw [FC.size (F := F) hFs]; omega) ?_
      have hB1 := hbD.set_ 0 (.int .i64 ((X 2 : Nat) : Int))
      rw [set_wd F hFs] at hB1
      have hU1 := (Upd.refl (fun b => b = gf) wr.drew).setCell (p := ⟨gf, 0, none⟩) rfl (.int .i64 ((X 2 : Nat) : Int))
      have hZ1 := hU1.blk hzD (by omega)
      have hO11 := own_upd ho1D hU1 (fun y hy => by omega)
      have hO21 := own_upd ho2D hU1 (fun y hy => by omega)
      have hY1 := hU1.ext hyD (fun y hx => by omega)
      generalize hW1 : World.setCell _ ⟨gf, 0, none⟩ (.int .i64 ((X 2 : Nat) : Int)) = W1 at *
      have hI := hY1
      refine oi_end ⟨hI, ?_⟩
      simp only [Act.put, List.setIfInBounds_toArray, List.set_cons_succ, List.set_cons_zero]
      refine oi_run (k := 18) (by kernel_rfl) rfl (by rfl) (.pointer (some ⟨gf, 1, none⟩)) (fun W => by go_simp) hI ?_
      simp only [Act.put, List.setIfInBounds_toArray, List.set_cons_succ, List.set_cons_zero]
      refine oi_loud (k := 19) (by kernel_rfl) rfl ?_
      refine wl_storeI rfl _ _ rfl gf 1 ((X 3 : Nat) : Int) rfl rfl hB1 (by rw [FC.size (F := ({ F with wd := ((X 2 : Nat) : Int) } : FC)) hFs]; omega) ?_
      have hB2 := hB1.set_ 1 (.int .i64 ((X 3 : Nat) : Int))
      rw [set_hi ({ F with wd := ((X 2 : Nat) : Int) } : FC) hFs] at hB2
      have hU2 := (Upd.refl (fun b => b = gf) W1).setCell (p := ⟨gf, 1, none⟩) rfl (.int .i64 ((X 3 : Nat) : Int))
      have hZ2 := hU2.blk hZ1 (by omega)
      have hO12 := own_upd hO11 hU2 (fun y hy => by omega)
      have hO22 := own_upd hO21 hU2 (fun y hy => by omega)
      have hY2 := hU2.ext hY1 (fun y hx => by omega)
      generalize hW2 : World.setCell _ ⟨gf, 1, none⟩ (.int .i64 ((X 3 : Nat) : Int)) = W2 at *
      have hI := hY2
      refine oi_end ⟨hI, ?_⟩
      simp only [Act.put, List.setIfInBounds_toArray, List.set_cons_succ, List.set_cons_zero]
      refine oi_run (k := 20) (by kernel_rfl) rfl (by rfl) (.pointer (some ⟨gf, 2, none⟩)) (fun W => by go_simp) hI ?_
      simp only [Act.put, List.setIfInBounds_toArray, List.set_cons_succ, List.set_cons_zero]
      refine oi_loud (k := 21) (by kernel_rfl) rfl ?_
      refine wl_storeI rfl _ _ rfl gf 2 ((X 4 : Nat) : Int) rfl rfl hB2 (by rw [FC.size (F := ({ ({ F with wd := ((X 2 : Nat) : Int) } : FC) with hi := ((X 3 : Nat) : Int) } : FC)) hFs]; omega) ?_
      have hB3 := hB2.set_ 2 (.int .i64 ((X 4 : Nat) : Int))
      rw [set_pt ({ ({ F with wd := ((X 2 : Nat) : Int) } : FC) with hi := ((X 3 : Nat) : Int) } : FC) hFs] at hB3
      have hU3 := (Upd.refl (fun b => b = gf) W2).setCell (p := ⟨gf, 2, none⟩) rfl (.int .i64 ((X 4 : Nat) : Int))
      have hZ3 := hU3.blk hZ2 (by omega)
      have hO13 := own_upd hO12 hU3 (fun y hy => by omega)
      have hO23 := own_upd hO22 hU3 (fun y hy => by omega)
      have hY3 := hU3.ext hY2 (fun y hx => by omega)
      generalize hW3 : World.setCell _ ⟨gf, 2, none⟩ (.int .i64 ((X 4 : Nat) : Int)) = W3 at *
      have hI := hY3
      refine oi_end ⟨hI, ?_⟩
      simp only [Act.put, List.setIfInBounds_toArray, List.set_cons_succ, List.set_cons_zero]
      refine oi_run (k := 22) (by kernel_rfl) rfl (by rfl) (.pointer (some ⟨gf, 101, none⟩)) (fun W => by go_simp) hI ?_
      simp only [Act.put, List.setIfInBounds_toArray, List.set_cons_succ, List.set_cons_zero]
      refine oi_loud (k := 23) (by kernel_rfl) rfl ?_
      refine wl_storeI rfl _ _ rfl gf 101 ((X 5 : Nat) : Int) rfl rfl hB3 (by rw [FC.size (F := ({ ({ ({ F with wd := ((X 2 : Nat) : Int) } : FC) with hi := ((X 3 : Nat) : Int) } : FC) with pt := ((X 4 : Nat) : Int) } : FC)) hFs]; omega) ?_
      have hB4 := hB3.set_ 101 (.int .i64 ((X 5 : Nat) : Int))
      rw [set_ev ({ ({ ({ F with wd := ((X 2 : Nat) : Int) } : FC) with hi := ((X 3 : Nat) : Int) } : FC) with pt := ((X 4 : Nat) : Int) } : FC) hFs] at hB4
      have hU4 := (Upd.refl (fun b => b = gf) W3).setCell (p := ⟨gf, 101, none⟩) rfl (.int .i64 ((X 5 : Nat) : Int))
      have hZ4 := hU4.blk hZ3 (by omega)
      have hO14 := own_upd hO13 hU4 (fun y hy => by omega)
      have hO24 := own_upd hO23 hU4 (fun y hy => by omega)
      have hY4 := hU4.ext hY3 (fun y hx => by omega)
      generalize hW4 : World.setCell _ ⟨gf, 101, none⟩ (.int .i64 ((X 5 : Nat) : Int)) = W4 at *
      have hI := hY4
      refine oi_end ⟨hI, ?_⟩
      simp only [Act.put, List.setIfInBounds_toArray, List.set_cons_succ, List.set_cons_zero]
      refine oi_done (by kernel_rfl) ?_
      clear hI
      have HQ0 : Hid (zfrom (quL bs 64) 0 = Z64) := hid_ (by unfold zfrom; rfl)
      have hqs : F.qs = Z64 := by rw [HF.out]; rfl
      obtain ⟨G, hG⟩ : ∃ G : List Int → FC, G = fun q => { F with wd := ((X 2 : Nat) : Int), hi := ((X 3 : Nat) : Int), pt := ((X 4 : Nat) : Int), ev := ((X 5 : Nat) : Int), qs := q } := ⟨_, rfl⟩
      have HGU : Hid (∀ q q', ({ G q with qs := q' } : FC) = G q') := hid_ (fun q q' => by rw [hG])
      have HGQ : Hid (∀ q, (G q).qs = q) := hid_ (fun q => by rw [hG])
      have HGS : Hid (∀ q, q.length = 64 → (G q).shaped) := hid_ (fun q h => by rw [hG]; exact ⟨h, hFs.2.1, hFs.2.2⟩)
      have hbG : Blk W4 gf 45 (FC.cells (G (zfrom (quL bs 64) 0)) (.slice A1 n1 c1) (.slice A2 n2 c2) (.slice none 0 0)) := by
        rw [HQ0.out, hG, ← hqs]; exact hB4
      have HGP := hid_ (show ∀ D, ({ G (zfrom (quL bs 64) 64) with data := D } : FC) = { parsed bs with data := D } from fun D => by
        rw [hG, HF.out]
        unfold parsed FT
        rw [HX.out, HX.out, HX.out, HX.out]
        rfl)
      have hx1e : F.xs1 = symL bs (70 + 32) (cntS bs 70 16) := by rw [HF.out]; rfl
      have hx2e : F.xs2 = symL bs (p2 bs + 32) (cntS bs (p2 bs) 16) := by rw [HF.out]; rfl
      have hG1 : ∀ q, (G q).data = [] := fun q => by rw [hG, HF.out]; rfl
      clear hG HQ0 hqs hB4
      go_upto_region 30 with (first
        | (go_at_call 41; refine (rzigOrder_sl _).mono ?_; rintro e w8 ⟨ZA, zc, rfl, hzs8, hzb8, hx8⟩; have hz8 := hZ4.ext hx8; have hb8 := hbG.ext hx8; have ho18 := own_keep hO14 hx8; have ho28 := own_keep hO24 hx8; have hy8 := hY4.trans hx8; have hl8 := (show gf < w8.heap.size from hb8.lt); have hzf8 := hid_ (fun ad' h => (show (ad' : Addr).block ≠ gf by have := hzb8 ad' h; have := hbG.lt; omega)); clear hzb8))
      clear hbG hZ4 hO14 hO24 hY4
      have hzcn : ∀ q, zfrom (quL bs 64) q = zfrom (quL bs 64) q := fun _ => rfl
      go_loopw [132] (fun iv wq => ∃ j : Nat, j ≤ 64 ∧ iv = .int .i64 (j : Int) ∧ Blk wq g0 45 zf ∧ Blk wq gf 45 (FC.cells (G (zfrom (quL bs 64) j)) (.slice A1 n1 c1) (.slice A2 n2 c2) (.slice none 0 0)) ∧ wq.ownsRow (g2 + 1) 3 1 (.slice A1 n1 c1) n1 (ints F.xs1) ∧ wq.ownsRow (g2 + 1) 3 1 (.slice A2 n2 c2) n2 (ints F.xs2) ∧ SL wq 1 (.slice ZA 64 zc) 64 (ints zigL) ∧ Ext w wq ∧ gf < wq.heap.size) (fun i _ => 64 - (intOf i).toNat)
      case atStart => exact ⟨0, by omega, rfl, hz8, hb8, ho18, ho28, hzs8, hy8, hl8⟩
      case round =>
        clear hz8 hb8 ho18 ho28 hzs8 hy8 hl8
        obtain ⟨j, hj, rfl, hz, hb, ho1, ho2, hzg, hy, hlf⟩ := hrel
        by_cases hj64 : j < 64
        · obtain ⟨nz, hnz, hnz64⟩ := zigN j hj64
          obtain ⟨ad3, u, rfl, -, hxo, hco⟩ := hzg.at1 hj64
          obtain ⟨hko, rfl⟩ := ints_at _ _ _ hxo
          rw [show zigL[j] = (nz : Int) by rw [zigL_get, hnz]] at hco
          have hGS := hid_ (HGS.out _ (zfrom_len (quL bs 64) j))
          have hnx : Hid (zfrom (quL bs 64) (j + 1) = (zfrom (quL bs 64) j).set nz ((X (6 + j) : Nat) : Int)) := hid_ (by
            rw [zfrom_succ, hnz, Int.toNat_natCast]
            congr 1
            rw [List.getD_eq_getElem?_getD, quL, List.getElem?_map, List.getElem?_range hj64, ← HX.out]
            rfl)
          generalize hzq : zfrom (quL bs 64) j = zq at *
          clear hzq hxo hnz
          have hcb : wr.cell? (ad.add ((6 + j) * 1)) = some (.int .u8 ((X (6 + j) : Nat) : Int)) := HB.out (6 + j) (by omega) wr hy
          have hxl := hxb (6 + j)
          generalize X (6 + j) = x at *
          go_wp2_with (first
            | (show wpList _ _ _ (⟨some 135, _, _, _, _, _⟩ :: _) _ _; refine wl_run rfl (.pointer (some (ad3.add (j * 1)))) (ex_ixSl (i := j) Try.underlying30 sizeI rfl rfl rfl hj64) ?_)
            | (show wpList _ _ _ (⟨some 136, _, _, _, _, _⟩ :: _) _ _; refine wl_read rfl (.int .i64 (nz : Int)) (ex_loadI rfl rfl (by rw [Nat.mul_one]; exact hco)) ?_)
            | (show wpList _ _ _ (⟨some 140, _, _, _, _, _⟩ :: _) _ _; refine wl_run rfl (.int .i64 ((6 + j : Nat) : Int)) (ex_addN rfl rfl rfl (by omega)) ?_)
            | (show wpList _ _ _ (⟨some 141, _, _, _, _, _⟩ :: _) _ _; refine wl_run rfl (.pointer (some (ad.add ((6 + j) * 1)))) (ex_ixSl (i := 6 + j) Try.underlying38 sizeU8 rfl rfl rfl (by omega)) ?_)
            | (show wpList _ _ _ (⟨some 142, _, _, _, _, _⟩ :: _) _ _; refine wl_read rfl (.int .u8 ((x : Nat) : Int)) (ex_loadU rfl rfl hcb) ?_)
            | (show wpList _ _ _ (⟨some 143, _, _, _, _, _⟩ :: _) _ _; refine wl_run rfl (.int .i64 ((x : Nat) : Int)) (ex_conv rfl rfl (run_conv8 x hxl)) ?_)
            | (show wpList _ _ _ (⟨some 145, _, _, _, _, _⟩ :: _) _ _; refine wl_run rfl (.pointer (some ⟨gf, 3 + nz, none⟩)) (ex_ixArr1 Try.underlying24 sizeI rfl rfl rfl hnz64) ?_)
            | (show wpList _ _ _ (⟨none, .store _ (.tmp 145) (.tmp 143), _, _, _, _⟩ :: _) _ _; refine store_qk rfl _ _ rfl gf (G zq) hGS.out _ _ _ nz hnz64 ((x : Nat) : Int) rfl rfl hb ?_; intro w4 hb4 hu4; rw [HGQ.out, HGU.out, ← hnx.out] at hb4; have hz4 := hu4.blk hz (by omega); have ho14 := own_upd ho1 hu4 (fun y hy => by omega); have ho24 := own_upd ho2 hu4 (fun y hy => by omega); have hzg4 := hzg.upd hu4 (fun ad' e => hzf8.out ad' e); have hy4 := hu4.ext hy (fun y hx => by omega); have hlf4 := Nat.lt_of_lt_of_le hlf hu4.size; clear hb hz ho1 ho2 hzg hy hu4))
          go_roundw
          case rel => exact ⟨j + 1, by omega, by go_num, hz4, hb4, ho14, ho24, hzg4, hy4, hlf4⟩
          case measure => simp [intOf]; omega
        · obtain rfl : j = 64 := by omega
          have hFs6 := parsed_shaped bs
          have hb' : Blk wr gf 45 (FC.cells { parsed bs with data := [] } (.slice A1 n1 c1) (.slice A2 n2 c2) (.slice none 0 0)) := by
            have e1 : ({ G (zfrom (quL bs 64) 64) with data := ([] : List Nat) } : FC) = G (zfrom (quL bs 64) 64) := by
              have := hG1 (zfrom (quL bs 64) 64)
              generalize G (zfrom (quL bs 64) 64) = g at *
              cases g
              simp at this
              subst this
              rfl
            rw [← HGP.out [], e1]
            exact hb
          rw [hx1e] at ho1
          rw [hx2e] at ho2
          have hln1 : n1 = cntS bs 70 16 := by have := ho1.1; simpa [ints_len, symL_len] using this.symm
          have hln2 : n2 = cntS bs (p2 bs) 16 := by have := ho2.1; simpa [ints_len, symL_len] using this.symm
          subst hln1 hln2
          have hsub := HSB.out.sub (l := p3 bs) (h := n) hp3 (Nat.le_refl _)
          obtain ⟨YA, hYA⟩ : ∃ Y : Option Addr, Y = (if c = p3 bs then some ad else (some ad : Option Addr).map (·.add (p3 bs))) := ⟨_, rfl⟩
          rw [← hYA] at hsub
          have hSL : Hid (∀ (o : Oper) (a : Act) (x lo : Operand), o.op = .slice 38 x (some lo) none none → a.eval x = .slice (some ad) n c → a.eval lo = .int .i64 ((p3 bs : Nat) : Int) → ∀ W, (execOp a.eval o).run Try.prog W = .ok (.value (.slice YA (n - p3 bs) (c - p3 bs))) W) := hid_ (fun o a x lo h1 h2 h3 W => by
            rw [hYA]
            exact ex_sliceF (l := p3 bs) h1 h2 h3 hp3 hcap W)
          have eR : ((bytesV bs).drop (p3 bs)).take (n - p3 bs) = bytesV (bs.drop (p3 bs)) := by
            rw [List.take_of_length_le (by rw [List.length_drop]; unfold bytesV; rw [List.length_map, HNL.out]; omega)]
            unfold bytesV
            rw [List.map_drop]
          rw [eR] at hsub
          have hdl : (bs.drop (p3 bs)).length = n - p3 bs := by rw [List.length_drop, HNL.out]
          have HCLN := copyB_any YA (n - p3 bs) (c - p3 bs) (bs.drop (p3 bs)) wr hdl (by omega) (hsub.ext hy)
          unfold CloneIs at HCLN
          rw [hdl] at HCLN
          obtain ⟨q3, hq3⟩ : ∃ q, p3 bs = q := ⟨_, rfl⟩
          obtain ⟨m, hm⟩ : ∃ m, n - p3 bs = m := ⟨_, rfl⟩
          obtain ⟨yc, hyc⟩ : ∃ m, c - p3 bs = m := ⟨_, rfl⟩
          rw [hm] at HCLN hSL hdl
          rw [hyc] at HCLN hSL
          have HAT := hid_ (fun W sd (h1 : SL W 1 (.slice A1 (cntS bs 70 16) c1) (cntS bs 70 16) (ints (symL bs (70 + 32) (cntS bs 70 16)))) (h2 : SL W 1 (.slice A2 (cntS bs (p2 bs) 16) c2) (cntS bs (p2 bs) 16) (ints (symL bs (p2 bs + 32) (cntS bs (p2 bs) 16)))) (h3 : SL W 1 sd m (bytesV (bs.drop (p3 bs)))) => (show (parsed bs).at_ W (.slice A1 (cntS bs 70 16) c1) (.slice A2 (cntS bs (p2 bs) 16) c2) sd by
            unfold FC.at_ parsed
            dsimp only
            rw [symL_len, symL_len, hdl]
            exact ⟨h1, h2, h3⟩))
          have HPK := hid_ (fun W s1 s2 sd (ha : (parsed bs).at_ W s1 s2 sd) => (parsed bs).rpack hFs6 s1 s2 sd W ha)
          have HP0 := hid_ (fun (h1 : (parsed bs).packE = 0) (h2 : (parsed bs).packL = bs) => (show parseZ bs = (parsed bs, 0) by unfold parseZ; rw [if_neg (by have := HNL.out; omega), if_neg (by have := HNL.out; omega), if_pos ⟨h1, h2⟩]))
          have HP4 := hid_ (fun (h : ¬ ((parsed bs).packE = 0 ∧ (parsed bs).packL = bs)) => (show parseZ bs = (FC.zero, 4) by unfold parseZ; rw [if_neg (by have := HNL.out; omega), if_neg (by have := HNL.out; omega), if_neg h]))
          have HSZ := hid_ (fun B m d => FC.size hFs6 (.slice A1 (cntS bs 70 16) c1) (.slice A2 (cntS bs (p2 bs) 16) c2) (.slice B m d))
          have HON := hid_ (fun B m d => fileOne (parsed bs) A1 A2 B (cntS bs 70 16) c1 (cntS bs (p2 bs) 16) c2 m d)
          have HSTD := hid_ (fun (ops : Array Oper) (rest : List Oper) (o : Oper) (ac : Act) (w : World) (Q : Exit → Act → World → Prop) (hgd : o.guard = none) (x y : Operand) (ho : o.op = .store 38 x y) (A : Option Addr) (n c : Nat) (hx : ac.eval x = .pointer (some ⟨gf, 102, none⟩)) (hy : ac.eval y = .slice A n c) (hB : Blk w gf 45 (FC.cells { parsed bs with data := [] } (.slice A1 (cntS bs 70 16) c1) (.slice A2 (cntS bs (p2 bs) 16) c2) (.slice none 0 0))) (h : ∀ w1, Blk w1 gf 45 (FC.cells (parsed bs) (.slice A1 (cntS bs 70 16) c1) (.slice A2 (cntS bs (p2 bs) 16) c2) (.slice A n c)) → Upd (fun b => b = gf) w w1 → wpList Try.prog ops Q rest (ac.put o.dst undef) w1) => store_d (Q := Q) (rest := rest) (ops := ops) hgd x y ho gf { parsed bs with data := [] } hFs6 _ _ _ (bs.drop (p3 bs)) A n c hx hy hB h)
          rw [hq3] at hSL ⊢
          clear hb HGP hx1e hx2e hG1 HGU HGQ HGS hzcn hsub eR hYA hzf8 hzg HB HF hFs hxb HX
          obtain ⟨FC3, hFC3⟩ : ∃ C : Array Value, C = FC.cells { parsed bs with data := [] } (.slice A1 (cntS bs 70 16) c1) (.slice A2 (cntS bs (p2 bs) 16) c2) (.slice none 0 0) := ⟨_, rfl⟩
          simp only [← hFC3] at hb' HSTD
          generalize parsed bs = PF at *
          clear hFC3 hpos
          generalize bs.drop (p3 bs) = RR at *
          have HCLN' := hid_ HCLN
          clear HCLN
          go_upto_region 36 with (first
            | (show wpList _ _ _ (⟨some 149, _, _, _, _, _⟩ :: _) _ _; refine wl_run rfl (.slice YA m yc) (hSL.out _ _ _ _ rfl rfl rfl) ?_)
            | (go_at_call 42; (with_reducible refine HCLN'.out.mono ?_); rintro e w25 ⟨B5, d5, rfl, ho5, hx5⟩; have hb25 := hb'.ext hx5; have hz25 := hz.ext hx5; have hy25 := hy.trans hx5; have ho15 := own_keep ho1 hx5; have ho25 := own_keep ho2 hx5)
            | (show wpList _ _ _ (⟨none, .store _ (.tmp 151) (.tmp 150), _, _, _, _⟩ :: _) _ _; refine HSTD.out _ _ _ _ _ _ rfl _ _ rfl B5 m d5 rfl rfl hb25 ?_; intro w26 hb26 hu26; have hz26 := hu26.blk hz25 (by omega); have hy26 := hu26.ext hy25 (fun y hx => by omega); have ho16 := own_upd ho15 hu26 (fun y hy => by omega); have ho26 := own_upd ho25 hu26 (fun y hy => by omega); have ho56 := own_upd ho5 hu26 (fun y hy => by omega); have hat := HAT.out _ _ (own_out ho16).1 (own_out ho26).1 (own_out ho56).1)
            | (show wpList _ _ _ (⟨some 153, _, _, _, _, _⟩ :: _) _ _; refine wpList_load_blk rfl 45 (.tmp 4) rfl gf rfl hb26 _ Try.underlying45 rfl 103 sizeFile (HSZ.out _ _ _) ?_)
            | (go_at_call 43; (with_reducible refine (HPK.out _ _ _ _ hat).mono ?_); rintro e w27 ⟨C7, d7, rfl, hs7, hx7⟩; have hb27 := hb26.ext hx7; have hz27 := hz26.ext hx7; have hy27 := hy26.trans hx7))
          have HEQ := hid_ (eqByte_any (.slice C7 PF.packL.length d7) (.slice (some ad) n c) PF.packL bs w27 hs7 (by rw [HNL.out]; exact HSB.out.ext hy27))
          have HEF := hid_ (fun (E : Int) (h : parseZ bs = (FC.zero, E)) W (hx : Ext w W) => HER.out E h W hx)
          have HON' := hid_ (HON.out B5 m d5)
          have HSZ' := hid_ (HSZ.out B5 m d5)
          obtain ⟨FV, hFV⟩ : ∃ C : Array Value, C = FC.cells PF (.slice A1 (cntS bs 70 16) c1) (.slice A2 (cntS bs (p2 bs) 16) c2) (.slice B5 m d5) := ⟨_, rfl⟩
          have HFV := hid_ hFV
          rw [← hFV] at hb27
          rw [← hFV] at HON' HSZ'
          clear hFV HER HPK HON HSZ HSTD hb26 hb25 hz25 hz26 ho15 ho25 ho5 hat hs7 hb' HCLN' hz ho1 ho2 hSL
          generalize PF.packL = L at *
          by_cases hE : PF.packE = 0
          · by_cases hLb : L = bs
            · rw [decide_eq_true hLb] at HEQ
              have HZ := hid_ (HP0.out hE hLb)
              generalize parseZ bs = pz at *
              rw [hE]
              generalize L.length = ll at *
              clear HP0 HP4 HEF hLb
              go_wp2_with (first
                | (go_at_call 44; (with_reducible refine HEQ.out.mono ?_); rintro e w28 ⟨rfl, rfl⟩)
                | (show wpList _ _ _ (⟨some 166, _, _, _, _, _⟩ :: _) _ _; refine wpList_load_blk rfl 45 (.tmp 4) rfl gf rfl hb27 _ Try.underlying45 rfl 103 sizeFile HSZ'.out ?_)
                | (show wpList _ _ _ (⟨none, .store _ (.tmp 2) (.tmp 166), _, _, _, _⟩ :: _) _ _; refine wpList_store_blk rfl 45 (.tmp 2) (.tmp 166) rfl g0 FV rfl rfl hz27 103 sizeFile HSZ'.out hzs.out HON'.out ?_; intro w29 hb29 hg29))
              have hy29 := hy27.grown hg29 hg0
              have a1 := own_upd (own_keep ho16 hx7) (upd_grown hg29) (fun x hx => by injection hx with hx; omega)
              have a2 := own_upd (own_keep ho26 hx7) (upd_grown hg29) (fun x hx => by injection hx with hx; omega)
              have a3 := own_upd (own_keep ho56 hx7) (upd_grown hg29) (fun x hx => by injection hx with hx; omega)
              exact ret_cell_tmp rfl rfl g0 rfl hb29 _ Try.underlying45 rfl 103 sizeFile HSZ'.out (by
                rw [HZ.out]
                exact ⟨_, _, _, by rw [HFV.out]; rfl, HAT.out _ _ (own_out a1).1 (own_out a2).1 (own_out a3).1, hy29⟩)
            · rw [decide_eq_false hLb] at HEQ
              have HEE := hid_ (HEF.out 4 (HP4.out (fun h => hLb h.2)))
              generalize parseZ bs = pz at *
              rw [hE]
              generalize L.length = ll at *
              clear HP0 HP4 HEF hLb
              go_wp2_with (first
                | (go_at_call 44; (with_reducible refine HEQ.out.mono ?_); rintro e w28 ⟨rfl, rfl⟩)
                | (show wpList _ _ _ (⟨some 165, _, _, _, _, _⟩ :: _) _ _; refine wpList_build0_g (by rfl) 45 rfl _ hbf.out ?_)
                | (show wpList _ _ _ (⟨none, .store _ (.tmp 2) (.tmp 165), _, _, _, _⟩ :: _) _ _; refine wpList_store_blk rfl 45 (.tmp 2) (.tmp 165) rfl g0 zf rfl rfl hz27 103 sizeFile hzs.out hzs.out hzo.out ?_; intro w29 hb29 hg29))
              exact ret_cell_tmp rfl rfl g0 rfl hb29 _ Try.underlying45 rfl 103 sizeFile hzs.out (HEE.out _ (hy27.grown hg29 hg0))
          · have HEE := hid_ (HEF.out 4 (HP4.out (fun h => hE h.1)))
            generalize parseZ bs = pz at *
            generalize PF.packE = E at *
            generalize L.length = ll at *
            clear HP0 HP4 HEF HEQ
            go_wp2_with (first
              | (show wpList _ _ _ (⟨some 158, _, _, _, _, _⟩ :: _) _ _; refine wl_run rfl (.bool true) (ex_neq rfl rfl rfl (by simpa using hE)) ?_)
              | (show wpList _ _ _ (⟨some 165, _, _, _, _, _⟩ :: _) _ _; refine wpList_build0_g (by rfl) 45 rfl _ hbf.out ?_)
              | (show wpList _ _ _ (⟨none, .store _ (.tmp 2) (.tmp 165), _, _, _, _⟩ :: _) _ _; refine wpList_store_blk rfl 45 (.tmp 2) (.tmp 165) rfl g0 zf rfl rfl hz27 103 sizeFile hzs.out hzs.out hzo.out ?_; intro w29 hb29 hg29))
            exact ret_cell_tmp rfl rfl g0 rfl hb29 _ Try.underlying45 rfl 103 sizeFile hzs.out (HEE.out _ (hy27.grown hg29 hg0))
end Go.Proofs.Ytkfdkkhhkciocaa
