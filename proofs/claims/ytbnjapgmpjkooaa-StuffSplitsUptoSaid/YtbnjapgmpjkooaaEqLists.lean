/- EqLists of the reference on equal lists of bytes. -/
import Derived.Test.YtbnjapgmpjkooaaSplitMath
import Derived.Test.YtbnjapgmpjkooaaReader
import Derived.Test.YtbnjapgmpjkooaaRefSplit
import Derived.Test.YtbnjapgmpjkooaaEqByte
namespace Go.Proofs.Ytbnjapgmpjkooaa
set_option linter.unusedVariables false
set_option linter.unusedSimpArgs false
open Go.RowKit
set_option maxRecDepth 20000 in
set_option maxHeartbeats 1000000 in
theorem eqLists_same (u v : Value) (P : List (List Nat)) (VS US : List Value) (w : World) (hu : SL w 1 u P.length VS) (hp : Pieces w VS P) (hv : SL w 1 v P.length US) (hq : Pieces w US P) :
    Calls Try.prog 20 #[u, v] w fun e w' => e = .returned (.bool true) ∧ Ext w w' := by
  have hu' := hu
  have hv' := hv
  obtain ⟨A, c, rfl, hc1, hc2, -, -⟩ := hu'
  obtain ⟨B, d, rfl, hd1, hd2, -, -⟩ := hv'
  obtain ⟨n, hnn⟩ : ∃ n, n = P.length := ⟨_, rfl⟩
  have HPL : Hid (P.length = n) := hid_ hnn.symm
  rw [← hnn] at hu hv hc1 hd1 ⊢
  clear hnn
  have e1 : ((n : Int) != (n : Int)) = false := by simp
  go_enter Try.func20, Try.ntmps20
  go_wp2_with fail
  go_loopw [13] (fun i wr => ∃ k : Nat, k ≤ n ∧ i = .int .i64 (k : Int) ∧ Ext w wr) (fun i _ => n - (intOf i).toNat)
  case atStart => exact ⟨0, by omega, rfl, Ext.refl _⟩
  case round =>
    obtain ⟨k, hk, rfl, hx⟩ := hrel
    by_cases hlt : k < n
    · have hkp : k < P.length := by rw [HPL.out]; exact hlt
      have hxd : Ext w wr.drew := hx.drew
      obtain ⟨ad, a1, rfl, hab, hak, hca⟩ := (hu.ext hxd).at1 hlt
      obtain ⟨bd, b1, rfl, hbb, hbk, hcb⟩ := (hv.ext hxd).at1 hlt
      obtain ⟨A1, c1, hA, hsA⟩ := (hp.ext hxd).2 k hkp
      obtain ⟨A2, c2, hB, hsB⟩ := (hq.ext hxd).2 k hkp
      rw [hak] at hA
      rw [hbk] at hB
      injection hA with hA
      injection hB with hB
      subst hA hB
      have HEQ := hid_ (fun W (x : SL W 1 (.slice A1 P[k].length c1) P[k].length (bytesV P[k])) (y : SL W 1 (.slice A2 P[k].length c2) P[k].length (bytesV P[k])) => eqByte_same _ _ P[k] W x y)
      generalize P[k] = l at *
      generalize bytesV l = bl at *
      generalize l.length = m at *
      have HCA : ∀ W, Ext wr.drew W → W.cell? (ad.add (k * 1)) = some (.slice A1 m c1) := fun W h => by
        rw [Nat.mul_one]; exact (h.cell (by rw [block_of_add]; exact hab)).trans hca
      have HCB : ∀ W, Ext wr.drew W → W.cell? (bd.add (k * 1)) = some (.slice A2 m c2) := fun W h => by
        rw [Nat.mul_one]; exact (h.cell (by rw [block_of_add]; exact hbb)).trans hcb
      go_wp2_with fail
      refine wp_region_lx later_ext (by kernel_rfl) (by kernel_rfl) ?_
      refine lx_run (by rfl) (.slice (some ad) n c) (ex_move rfl rfl) ?_
      simp only [Act.put, List.setIfInBounds_toArray, List.set_cons_succ, List.set_cons_zero]
      refine lx_run (by rfl) (.int .i64 ((k : Nat) : Int)) (ex_move rfl rfl) ?_
      simp only [Act.put, List.setIfInBounds_toArray, List.set_cons_succ, List.set_cons_zero]
      refine lx_run (by rfl) (.pointer (some (ad.add (k * 1)))) (ex_ixSl Try.underlying43 sizeBs rfl rfl rfl hlt) ?_
      simp only [Act.put, List.setIfInBounds_toArray, List.set_cons_succ, List.set_cons_zero]
      refine lx_read (by rfl) (.slice A1 m c1) (fun W hW => ex_loadS rfl rfl (HCA W hW)) ?_
      simp only [Act.put, List.setIfInBounds_toArray, List.set_cons_succ, List.set_cons_zero]
      refine lx_run (by rfl) (.slice (some bd) n d) (ex_move rfl rfl) ?_
      simp only [Act.put, List.setIfInBounds_toArray, List.set_cons_succ, List.set_cons_zero]
      refine lx_run (by rfl) (.int .i64 ((k : Nat) : Int)) (ex_move rfl rfl) ?_
      simp only [Act.put, List.setIfInBounds_toArray, List.set_cons_succ, List.set_cons_zero]
      refine lx_run (by rfl) (.pointer (some (bd.add (k * 1)))) (ex_ixSl Try.underlying43 sizeBs rfl rfl rfl hlt) ?_
      simp only [Act.put, List.setIfInBounds_toArray, List.set_cons_succ, List.set_cons_zero]
      refine lx_read (by rfl) (.slice A2 m c2) (fun W hW => ex_loadS rfl rfl (HCB W hW)) ?_
      simp only [Act.put, List.setIfInBounds_toArray, List.set_cons_succ, List.set_cons_zero]
      refine lx_callF (by rfl) 10 Try.func10 rfl rfl _ _ rfl #[.slice A1 m c1, .slice A2 m c2] (by simp [Act.eval]) (.bool true) (fun W h => (HEQ.out W (hsA.ext h) (hsB.ext h)).mono (fun e w' h => by rw [h.2]; exact ⟨h.1, Ext.refl _⟩)) ?_
      simp only [Act.put, List.setIfInBounds_toArray, List.set_cons_succ, List.set_cons_zero]
      refine lx_run (by rfl) (.bool false) (ex_not (b := true) rfl rfl) ?_
      simp only [Act.put, List.setIfInBounds_toArray, List.set_cons_succ, List.set_cons_zero]
      refine lx_nil ?_
      intro w9 hx9
      go_wp2_with fail
      go_roundw
      case rel => exact ⟨k + 1, by omega, by go_num, hxd.trans hx9⟩
      case measure => simp [intOf]; omega
    · go_wp2_with fail
      go_ret
      exact ⟨rfl, hx⟩
end Go.Proofs.Ytbnjapgmpjkooaa
