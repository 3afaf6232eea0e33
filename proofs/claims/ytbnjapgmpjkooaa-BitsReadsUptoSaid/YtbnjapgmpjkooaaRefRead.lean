/- BitsRead of the reference. -/
import Derived.Test.YtbnjapgmpjkooaaRead
import Derived.Test.YtbnjapgmpjkooaaDigitsOf
import Derived.Test.YtbnjapgmpjkooaaRefRound
namespace Go.Proofs.Ytbnjapgmpjkooaa
set_option linter.unusedVariables false
set_option linter.unusedSimpArgs false
open Go.RowKit
theorem Ext.grownR {a w w' : World} (h : Ext a w) {row : Option Nat} (hg : w.grownBy w' row) (hB : ∀ b, row = some b → a.heap.size ≤ b) : Ext a w' :=
  Below.grown h hg h.size (fun k hk => hB k hk)
set_option maxRecDepth 20000 in
set_option maxHeartbeats 2000000 in
theorem rread_any (bs : List Nat) (ws : List Int) (bv wv : Value) (w : World) (hb : SL w 1 bv bs.length (bytesV bs)) (hlt : ∀ b ∈ bs, b < 256) (hn : bs.length ≤ 100000000000) (hw : SL w 1 wv ws.length (ints ws)) :
    Calls Try.prog 12 #[bv, wv] w (RdIs (rdZ (digsOf bs) ws) w) := by
  have hw' := hw
  obtain ⟨B, d, rfl, hd1, hd2, -, -⟩ := hw'
  by_cases hl : ws.length ≤ 20000
  case neg =>
    have HE : Hid (rdZ (digsOf bs) ws = ([], 0, 2)) := hid_ (by unfold rdZ; rw [if_neg hl])
    generalize rdZ (digsOf bs) ws = ez at *
    generalize ws.length = n at *
    clear hb hn hw
    go_enter Try.func12, Try.ntmps12
    go_wp2_with fail
    go_ret3
    exact RdIs.err HE.out (Ext.refl _)
  have HE : Hid (rdZ (digsOf bs) ws = rdGo (digsOf bs) ws 0 []) := hid_ (by unfold rdZ; rw [if_pos hl])
  have HN := hid_ (fun W h => digitsOf_any bs bv W h hlt (by omega))
  have HD := hid_ (digsOf_len bs)
  have HSX := hid_ (fun i j h => strB_extract (digsOf bs) i j h)
  have HSS := hid_ (strB_size (digsOf bs))
  have HFB := hid_ (fun p k W (h : k ≤ 60) => fromBin_any (((digsOf bs).drop p).take k) W (by rw [List.length_take]; omega))
  generalize hez : rdZ (digsOf bs) ws = ez at *
  clear hez hlt
  obtain ⟨nw, hnw⟩ : ∃ nw, nw = ws.length := ⟨_, rfl⟩
  have HWL : Hid (ws.length = nw) := hid_ hnw.symm
  rw [← hnw] at hw hl hd1 ⊢
  clear hnw
  generalize strB (digsOf bs) = sb at *
  generalize bs.length = n at *
  go_enter Try.func12, Try.ntmps12
  go_wp2_with (go_at_call 36; (with_reducible refine (HN.out _ hb).mono ?_); rintro e w2 ⟨rfl, hx2⟩)
  go_loopw [8, 9, 19] (fun q s i wr => ∃ (k p : Nat) (acc : List Int) (A' : Option Addr) (c' : Nat), k ≤ nw ∧ i = .int .i64 (k : Int) ∧ q = .int .i64 (p : Int) ∧ s = .slice A' k c' ∧ wr.ownsRow w.heap.size 3 1 (.slice A' k c') k (ints acc) ∧ Hid (acc.length = k) ∧ Hid (ez = rdGo (digsOf bs) (ws.drop k) p acc) ∧ Ext w wr ∧ p ≤ 8 * n) (fun _ _ i _ => nw - (intOf i).toNat)
  case atStart => exact ⟨0, 0, [], none, 0, by omega, rfl, rfl, rfl, own_nil _ _ _ _, hid_ rfl, hid_ (by rw [HE.out]; rfl), hx2, by omega⟩
  case round =>
    clear hx2
    obtain ⟨k, p, acc, A9, c9, hk, rfl, rfl, rfl, hown, HAL, HZ, hx, hpn⟩ := hrel
    have hss : sb.size = 8 * n := by rw [HSS.out, HD.out]
    by_cases hlt : k < nw
    · obtain ⟨ad, u, rfl, -, hxk, hcell⟩ := (hw.ext hx).at1 hlt
      obtain ⟨hkl, rfl⟩ := ints_at _ _ _ hxk
      have HDR : Hid (ws.drop k = ws[k] :: ws.drop (k + 1)) := hid_ (List.drop_eq_getElem_cons hkl)
      rw [HDR.out] at HZ
      clear hxk HDR
      generalize ws[k] = z at *
      have HW := hid_ (fun W => outside_any z 0 24 W)
      by_cases hz : inB z 0 24 = true
      · rw [hz] at HW
        have HIZ := hid_ hz
        rw [inB_iff] at hz
        obtain ⟨zn, rfl⟩ : ∃ zn : Nat, z = (zn : Int) := ⟨z.toNat, by omega⟩
        have hwr1 : IntKind.i64.wrap ((p : Int) + (zn : Int)) = (p : Int) + (zn : Int) := IntWalk.i64_in _ (by omega)
        by_cases hfit : p + zn ≤ 8 * n
        · have HZ2 : Hid (ez = rdGo (digsOf bs) (ws.drop (k + 1)) (p + zn) (acc ++ [((numB (((digsOf bs).drop p).take zn) : Nat) : Int)])) := hid_ (by
            rw [HZ.out, rdGo_one HIZ.out (by rw [HD.out]; simpa using hfit)]; rfl)
          have hd : decide ((sb.size : Int) < (p : Int) + (zn : Int)) = false := by simp; omega
          have hfitI : (p : Int) + (zn : Int) ≤ (sb.size : Int) := by omega
          have HX : Hid (sb.extract p (p + zn) = strB (((digsOf bs).drop p).take zn)) := hid_ (by rw [HSX.out p (p + zn) (by omega), show p + zn - p = zn by omega])
          have HG := hid_ (fun W => HFB.out p zn W (by omega))
          rw [← HX.out] at HG
          generalize numB (((digsOf bs).drop p).take zn) = y at *
          clear HZ HX
          have hsz2 := hown.lt
          go_wp2_with (first
            | (go_at_call 28; (with_reducible refine (HW.out _).mono ?_); rintro e w4 ⟨rfl, rfl⟩)
            | (go_at_call 37; (with_reducible refine (HG.out _).mono ?_); rintro e w5 ⟨rfl, hx5⟩)
            | (at_builtin; go_must (refine wpList_append_slf elt_intR rfl _ _ rfl w.heap.size (.slice A9 k c9) _ _ rfl ((own_keep hown hx5).alloc _) _ 1 [.int .i64 _] rfl (one_sl _ _ _) (int_one _) (by omega) (by omega) (by have := hx.size; have := hx5.size; simp; omega) ?_); intro A7 c7 w7 hown7 hg7 hrow7))
          go_roundw
          case rel => exact ⟨k + 1, p + zn, acc ++ [(y : Int)], A7, c7, by omega, by go_num, by go_num, rfl, by rw [ints_app]; exact hown7, hid_ (by simp [HAL.out]), HZ2, Ext.grownR ((hx.trans hx5).alloc _) hg7 (fun b hb => (hsz2 b hb).1), by omega⟩
          case measure => simp [intOf]; omega
        · have hd : decide ((sb.size : Int) < (p : Int) + (zn : Int)) = true := by simp; omega
          have HZ2 : Hid (ez = ([], 0, 3)) := hid_ (by rw [HZ.out, rdGo_out HIZ.out (by rw [HD.out]; simpa using hfit)])
          clear HZ
          go_wp2_with (first
            | (go_at_call 28; (with_reducible refine (HW.out _).mono ?_); rintro e w4 ⟨rfl, rfl⟩))
          go_ret3
          exact RdIs.err HZ2.out hx
      · have hz' : inB z 0 24 = false := by simpa using hz
        rw [hz'] at HW
        have HZ2 : Hid (ez = ([], 0, 1)) := hid_ (by rw [HZ.out, rdGo_bad hz'])
        clear HZ hz hz'
        go_wp2_with (go_at_call 28; (with_reducible refine (HW.out _).mono ?_); rintro e w4 ⟨rfl, rfl⟩)
        go_ret3
        exact RdIs.err HZ2.out hx
    · have ek : k = nw := by omega
      subst ek
      have HZ2 : Hid (ez = (acc, ((p : Nat) : Int), 0)) := hid_ (by rw [HZ.out, List.drop_of_length_le (by rw [HWL.out]; exact Nat.le_refl _)]; rfl)
      obtain ⟨hsl, -⟩ := own_out hown
      clear HZ
      go_wp2_with fail
      go_ret3
      rw [HZ2.out]
      exact ⟨A9, c9, by rw [HAL.out]; rfl, by rw [HAL.out]; exact hsl, hx⟩
end Go.Proofs.Ytbnjapgmpjkooaa
