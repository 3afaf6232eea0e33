/- bits.Read. -/
import Derived.Test.YtbnjapgmpjkooaaReader
import Derived.Test.YtbnjapgmpjkooaaFieldMath
import Derived.Test.YtbnjapgmpjkooaaBuild1
import Derived.Test.YtbnjapgmpjkooaaInts
import Derived.Test.YtbnjapgmpjkooaaOwn
import Derived.OwnWalk
namespace Go.Proofs.Ytbnjapgmpjkooaa
set_option linter.unusedVariables false
set_option linter.unusedSimpArgs false
open Go.RowKit
theorem elt_intR : Elt Try.prog 31 3 1 8 := ⟨Try.underlying31, by kernel_rfl, by omega⟩
/-- what Read hands back -/
def RdIs (z : List Int × Int × Int) (w : World) (e : Ending) (w' : World) : Prop :=
  ∃ A c, e = .returned (.tuple #[.slice A z.1.length c, .int .i64 z.2.1, .int .i64 z.2.2]) ∧ SL w' 1 (.slice A z.1.length c) z.1.length (ints z.1) ∧ Ext w w'
theorem RdIs.err {w w' : World} {x y : Int} {z : List Int × Int × Int} (h : z = ([], x, y)) (hx : Ext w w') : RdIs z w (.returned (.tuple #[.slice none 0 0, .int .i64 x, .int .i64 y])) w' := by
  subst h
  exact ⟨none, 0, rfl, SL.nil _ _, hx⟩
set_option maxRecDepth 20000 in
set_option maxHeartbeats 2000000 in
theorem read_any (bs : List Nat) (ws : List Int) (bv wv : Value) (w : World) (hb : SL w 1 bv bs.length (bytesV bs)) (hlt : ∀ b ∈ bs, b < 256) (hn : bs.length ≤ 100000000000) (hw : SL w 1 wv ws.length (ints ws)) :
    Calls Try.prog 11 #[bv, wv] w (RdIs (rdZ (digsOf bs) ws) w) := by
  have hw' := hw
  obtain ⟨B, d, rfl, hd1, hd2, -, -⟩ := hw'
  by_cases hl : ws.length ≤ 20000
  case neg =>
    have HE : Hid (rdZ (digsOf bs) ws = ([], 0, 2)) := hid_ (by unfold rdZ; rw [if_neg hl])
    generalize rdZ (digsOf bs) ws = ez at *
    generalize ws.length = n at *
    clear hb hn hw
    go_enter Try.func11, Try.ntmps11
    go_wp2_with fail
    go_ret3
    exact RdIs.err HE.out (Ext.refl _)
  have HE : Hid (rdZ (digsOf bs) ws = rdGo (digsOf bs) ws 0 []) := hid_ (by unfold rdZ; rw [if_pos hl])
  have hb' := hb
  obtain ⟨A, c, rfl, -, -, -, -⟩ := hb'
  have HN := hid_ (fun W h => newReader_any A bs.length c bs W h rfl hlt hn)
  have HD := hid_ (digsOf_len bs)
  generalize hez : rdZ (digsOf bs) ws = ez at *
  clear hez hlt
  have HNL : Hid (bs.length = bs.length) := hid_ rfl
  obtain ⟨n, hnn⟩ : ∃ n, n = bs.length := ⟨_, rfl⟩
  rw [← hnn] at hb hn HN HD
  have HBL : Hid (bs.length = n) := hid_ hnn.symm
  rw [← hnn]
  clear HNL hnn
  obtain ⟨nw, hnw⟩ : ∃ nw, nw = ws.length := ⟨_, rfl⟩
  have HWL : Hid (ws.length = nw) := hid_ hnw.symm
  rw [← hnw] at hw hl hd1 ⊢
  clear hnw
  go_enter Try.func11, Try.ntmps11
  go_wp2_with (go_at_call 34; (with_reducible refine (HN.out _ hb).mono ?_); rintro e w2 ⟨gr, rfl, hr2, hx2, hgr, hgr2⟩)
  go_loopw [8, 20] (fun s i wr => ∃ (k p : Nat) (acc : List Int) (A' : Option Addr) (c' : Nat), k ≤ nw ∧ i = .int .i64 (k : Int) ∧ s = .slice A' k c' ∧ wr.ownsRow (gr + 1) 3 1 (.slice A' k c') k (ints acc) ∧ Hid (acc.length = k) ∧ Hid (ez = rdGo (digsOf bs) (ws.drop k) p acc) ∧ RdS wr gr A n c p bs ∧ Ext w wr ∧ gr < wr.heap.size) (fun _ i _ => nw - (intOf i).toNat)
  case atStart => exact ⟨0, 0, [], none, 0, by omega, rfl, rfl, own_nil _ _ _ _, hid_ rfl, hid_ (by rw [HE.out]; rfl), hr2, hx2, hgr2⟩
  case round =>
    clear hr2 hx2 hgr2
    obtain ⟨k, p, acc, A9, c9, hk, rfl, rfl, hown, HAL, HZ, hr, hx, hgs⟩ := hrel
    have hpn : p ≤ 8 * n := hr.2.2.2.2.2.2
    by_cases hlt : k < nw
    · obtain ⟨ad, u, rfl, -, hxk, hcell⟩ := (hw.ext hx).at1 hlt
      obtain ⟨hkl, rfl⟩ := ints_at _ _ _ hxk
      have HDR : Hid (ws.drop k = ws[k] :: ws.drop (k + 1)) := hid_ (List.drop_eq_getElem_cons hkl)
      rw [HDR.out] at HZ
      clear hxk HDR
      generalize ws[k] = z at *
      have HW := hid_ (fun W => isWidth_any z W)
      by_cases hz : inB z 0 24 = true
      · rw [hz] at HW
        have HIZ := hid_ hz
        rw [inB_iff] at hz
        obtain ⟨zn, rfl⟩ : ∃ zn : Nat, z = (zn : Int) := ⟨z.toNat, by omega⟩
        by_cases hfit : p + zn ≤ 8 * n
        · have HZ2 : Hid (ez = rdGo (digsOf bs) (ws.drop (k + 1)) (p + zn) (acc ++ [((numB (((digsOf bs).drop p).take zn) : Nat) : Int)])) := hid_ (by
            rw [HZ.out, rdGo_one HIZ.out (by rw [HD.out]; simpa using hfit)]; rfl)
          have HG := hid_ (fun W h => get_yes gr A n c p bs zn W h hfit (by omega))
          generalize numB (((digsOf bs).drop p).take zn) = y at *
          clear HZ
          go_wp2_with (first
            | (go_at_call 25; (with_reducible refine (HW.out _).mono ?_); rintro e w4 ⟨rfl, rfl⟩)
            | (go_at_call 35; (with_reducible refine (HG.out _ hr).mono ?_); rintro e w5 ⟨rfl, hr5, hu5⟩; have hown5 := own_upd hown hu5 (fun x hx => by omega); have hx5 := hu5.ext hx (fun x hx => by omega); have hs5 := hu5.size)
            | (at_builtin; go_must (refine wpList_append_slf elt_intR rfl _ _ rfl (gr + 1) (.slice A9 k c9) _ _ rfl (hown5.alloc _) _ 1 [.int .i64 _] rfl (one_sl _ _ _) (int_one _) (by omega) (by omega) (by simp; omega) ?_); intro A7 c7 w7 hown7 hg7 hrow7))
          have hlt7 := (hown5.alloc (.cells #[.int .i64 (y : Int)] 3)).lt
          have hu7 := (Upd.refl (fun b => (Value.slice A9 k c9).ownBlock = some b) (w5.alloc (.cells #[.int .i64 (y : Int)] 3))).grown hg7 (fun b hb => .inl hb)
          have hr7 := (hr5.ext ((Ext.refl w5).alloc (.cells #[.int .i64 (y : Int)] 3))).upd hu7 (fun x hx => by have := hlt7 x hx; omega)
          have hx7 := hu7.ext (hx5.alloc _) (fun x hx => by have := hlt7 x hx; omega)
          have hs7 := hu7.size
          simp only [World.size_alloc] at hs7
          go_roundw
          case rel => exact ⟨k + 1, p + zn, acc ++ [(y : Int)], A7, c7, by omega, by go_num, rfl, by rw [ints_app]; exact hown7, hid_ (by simp [HAL.out]), HZ2, hr7, hx7, by omega⟩
          case measure => simp [intOf]; omega
        · have HG := hid_ (fun W h => get_no gr A n c p bs zn W h (by omega) (by omega))
          have HZ2 : Hid (ez = ([], 0, 3)) := hid_ (by rw [HZ.out, rdGo_out HIZ.out (by rw [HD.out]; simpa using hfit)])
          clear HZ
          go_wp2_with (first
            | (go_at_call 25; (with_reducible refine (HW.out _).mono ?_); rintro e w4 ⟨rfl, rfl⟩)
            | (go_at_call 35; (with_reducible refine (HG.out _ hr).mono ?_); rintro e w5 ⟨rfl, hx5⟩))
          go_ret3
          exact RdIs.err HZ2.out (hx.trans hx5)
      · have hz' : inB z 0 24 = false := by simpa using hz
        rw [hz'] at HW
        have HZ2 : Hid (ez = ([], 0, 1)) := hid_ (by rw [HZ.out, rdGo_bad hz'])
        clear HZ hz hz'
        go_wp2_with (go_at_call 25; (with_reducible refine (HW.out _).mono ?_); rintro e w4 ⟨rfl, rfl⟩)
        go_ret3
        exact RdIs.err HZ2.out hx
    · have ek : k = nw := by omega
      subst ek
      have HZ2 : Hid (ez = (acc, ((p : Nat) : Int), 0)) := hid_ (by rw [HZ.out, List.drop_of_length_le (by rw [HWL.out]; exact Nat.le_refl _)]; rfl)
      obtain ⟨hsl, -⟩ := own_out hown
      clear HZ
      have HC1 : ∀ W, Ext wr.drew W → W.cell? ⟨gr, 1, none⟩ = some (.int .i64 (p : Int)) := fun W hx => (hr.drew.ext hx).cells.2
      go_wp2_with fail
      refine wp_region_lx later_ext (by kernel_rfl) (by kernel_rfl) ?_
      refine lx_run (by rfl) (.slice A9 k c9) (ex_move rfl rfl) ?_
      simp only [Act.put, List.setIfInBounds_toArray, List.set_cons_succ, List.set_cons_zero]
      refine lx_run (by rfl) (.pointer (some ⟨gr, 0, none⟩)) (ex_move rfl rfl) ?_
      simp only [Act.put, List.setIfInBounds_toArray, List.set_cons_succ, List.set_cons_zero]
      refine lx_run (by rfl) (.pointer (some ⟨gr, 0, none⟩)) (ex_nil rfl rfl) ?_
      simp only [Act.put, List.setIfInBounds_toArray, List.set_cons_succ, List.set_cons_zero]
      refine lx_run (by rfl) (.pointer (some ⟨gr, 1, none⟩)) (fun W => by go_simp) ?_
      simp only [Act.put, List.setIfInBounds_toArray, List.set_cons_succ, List.set_cons_zero]
      refine lx_read (by rfl) (.int .i64 ((p : Nat) : Int)) (fun W hW => ex_loadI rfl rfl (HC1 W hW)) ?_
      simp only [Act.put, List.setIfInBounds_toArray, List.set_cons_succ, List.set_cons_zero]
      refine lx_run (by rfl) (.slice A9 k c9) (ex_assign rfl rfl) ?_
      simp only [Act.put, List.setIfInBounds_toArray, List.set_cons_succ, List.set_cons_zero]
      refine lx_run (by rfl) (.int .i64 ((p : Nat) : Int)) (ex_assign rfl rfl) ?_
      simp only [Act.put, List.setIfInBounds_toArray, List.set_cons_succ, List.set_cons_zero]
      refine lx_run (by rfl) (.int .i64 ((0 : Nat) : Int)) (ex_assign rfl rfl) ?_
      simp only [Act.put, List.setIfInBounds_toArray, List.set_cons_succ, List.set_cons_zero]
      refine lx_nil ?_
      intro w9 hx9
      go_wp2_with fail
      go_ret3
      rw [HZ2.out]
      have hsl9 := (hsl.ext ((Ext.refl wr).drew)).ext hx9
      exact ⟨A9, c9, by rw [HAL.out]; rfl, by rw [HAL.out]; exact hsl9, hx.drew.trans hx9⟩
end Go.Proofs.Ytbnjapgmpjkooaa
