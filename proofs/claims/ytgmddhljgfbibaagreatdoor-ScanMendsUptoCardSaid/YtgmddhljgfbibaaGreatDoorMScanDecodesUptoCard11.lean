/- Contracts for the law ScanDecodesUptoCard, part 11: what the functions that it reaches answer, for all arguments that the theorems name. -/
import Derived.Test.YtgmddhljgfbibaaGreatDoorMScanDecodesUptoCard2
import Derived.Test.YtgmddhljgfbibaaGreatDoorMScanDecodesUptoCard9
import Derived.Test.YtgmddhljgfbibaaGreatDoorMScanDecodesUptoCard4
import Derived.Test.YtgmddhljgfbibaaGreatDoorMScanDecodesUptoCard10
/- zig.order, zig.Order, ZigOrder of the reference. -/
namespace Go.Proofs.YtgmddhljgfbibaaGreatDoor
set_option linter.unusedVariables false
set_option linter.unusedSimpArgs false
open Go.RowKit
theorem size47 : (Tryz.prog.info? 36).map (·.size) = some 64 := by kernel_rfl
theorem zero47 : (Tryz.prog.info? 36).bind (·.zero) = some (.agg (bv (List.replicate 64 0))) := by kernel_rfl
theorem elt_int : Elt Tryz.prog 23 3 1 8 := ⟨Tryz.underlying23, by kernel_rfl, by omega⟩
theorem zord_set (k : Nat) (h : k < 64) (z : Int) : (zigL.take k ++ List.replicate (64 - k) 0).set k z = zigL.take k ++ [z] ++ List.replicate (64 - (k + 1)) 0 := by
  have hl : (zigL.take k).length = k := by rw [List.length_take, zigL_len]; omega
  rw [List.set_append_right _ _ (by omega), hl, Nat.sub_self]
  obtain ⟨m, hm⟩ : ∃ m, 64 - k = m + 1 := ⟨64 - k - 1, by omega⟩
  have hm2 : 64 - (k + 1) = m := by omega
  rw [hm, hm2, List.replicate_succ, List.set_cons_zero]
  simp
theorem tup {s : Int × Int × Bool} {a b : Int} {c : Bool} (h : s = (a, b, c)) : s.1 = a ∧ s.2.1 = b ∧ s.2.2 = c := by subst h; exact ⟨rfl, rfl, rfl⟩
set_option maxHeartbeats 800000 in
theorem order_any (w : World) : Calls Tryz.prog 71 #[] w fun e w' => e = .returned (.agg (bv zigL)) ∧ Ext w w' := by
  go_enter Tryz.func71, Tryz.ntmps71
  go_wp2_with (refine wpList_alloc_abs rfl 36 rfl _ zero47 ?_; intro w1 g hb1 hx1 hg)
  go_loopw [1, 2, 3, 5] (fun r c u i wr => ∃ k : Nat, k ≤ 64 ∧ i = .int .i64 k ∧ r = .int .i64 (zst k).1 ∧ c = .int .i64 (zst k).2.1 ∧ u = .bool (zst k).2.2 ∧ Blk wr g 36 (bv (zigL.take k ++ List.replicate (64 - k) 0)) ∧ Ext w wr) (fun _ _ _ i _ => 64 - (intOf i).toNat)
  case atStart => exact ⟨0, by omega, rfl, rfl, rfl, rfl, hb1, hx1⟩
  case round =>
    obtain ⟨k, hk, rfl, rfl, rfl, rfl, hb, hx⟩ := hrel
    by_cases hlt : k < 64
    · obtain ⟨b1, b2, b3, b4⟩ := zst_bd k hlt
      have HS : Hid (zst (k + 1) = zstep (zst k)) := hid_ rfl
      have HZ : Hid (zigAt k = 8 * (zst k).1 + (zst k).2.1) := hid_ rfl
      obtain ⟨old, hold⟩ : ∃ u, wr.cell? ⟨g, k, none⟩ = some u := by
        rw [hb.cell k]
        exact ⟨_, bv_at _ k (by simp [zigL_len]; omega)⟩
      have hfr := hb.frozen k
      have hnew := hid_ (hb.set_ k (.int .i64 (8 * (zst k).1 + (zst k).2.1)))
      generalize hst : zst k = st at *
      obtain ⟨r, c, u⟩ := st
      have HST := hid_ hst
      clear hst
      simp only at b1 b2 b3 b4 HZ hnew
      have fin : ∀ (a b : Int) (d : Bool), zstep (r, c, u) = (a, b, d) → zst (k + 1) = (a, b, d) := fun a b d h => by rw [HS.out, h]
      have FIN := hid_ fin
      have hblk : Hid (Blk (wr.setCell ⟨g, k, none⟩ (.int .i64 (8 * r + c))) g 36 (bv (zigL.take (k + 1) ++ List.replicate (64 - (k + 1)) 0))) := by
        have := hnew.out
        rw [bv_set, zord_set k hlt] at this
        rw [zigL_take_succ k hlt, HZ.out]
        exact this
      have hxx := hid_ (hx.setCell (p := ⟨g, k, none⟩) hg (.int .i64 (8 * r + c)))
      clear fin hnew hb hx
      cases u with
      | true =>
        by_cases h7 : c = 7
        · obtain ⟨f1, f2, f3⟩ := tup (FIN.out (r + 1) c false (by simp [zstep, h7]))
          have F := hid_ f1; have F2 := hid_ f2; have F3 := hid_ f3
          have h7' : (c == 7) = true := by simpa using h7
          clear f1 f2 f3 h7
          go_wp2_with fail
          go_roundw
          case rel => exact ⟨k + 1, by omega, by go_num, by rw [F.out], by rw [F2.out], by rw [F3.out], hblk.out, hxx.out⟩
          case measure => simp [intOf]; omega
        · have h7' : (c == 7) = false := by simpa using h7
          by_cases h0 : r = 0
          · obtain ⟨f1, f2, f3⟩ := tup (FIN.out r (c + 1) false (by simp [zstep, h7, h0]))
            have F := hid_ f1; have F2 := hid_ f2; have F3 := hid_ f3
            have h0' : (r == 0) = true := by simpa using h0
            clear f1 f2 f3 h7 h0
            go_wp2_with fail
            go_roundw
            case rel => exact ⟨k + 1, by omega, by go_num, by rw [F.out], by rw [F2.out], by rw [F3.out], hblk.out, hxx.out⟩
            case measure => simp [intOf]; omega
          · obtain ⟨f1, f2, f3⟩ := tup (FIN.out (r - 1) (c + 1) true (by simp [zstep, h7, h0]))
            have F := hid_ f1; have F2 := hid_ f2; have F3 := hid_ f3
            have h0' : (r == 0) = false := by simpa using h0
            clear f1 f2 f3 h7 h0
            go_wp2_with fail
            go_roundw
            case rel => exact ⟨k + 1, by omega, by go_num, by rw [F.out], by rw [F2.out], by rw [F3.out], hblk.out, hxx.out⟩
            case measure => simp [intOf]; omega
      | false =>
        by_cases h7 : r = 7
        · obtain ⟨f1, f2, f3⟩ := tup (FIN.out r (c + 1) true (by simp [zstep, h7]))
          have F := hid_ f1; have F2 := hid_ f2; have F3 := hid_ f3
          have h7' : (r == 7) = true := by simpa using h7
          clear f1 f2 f3 h7
          go_wp2_with fail
          go_roundw
          case rel => exact ⟨k + 1, by omega, by go_num, by rw [F.out], by rw [F2.out], by rw [F3.out], hblk.out, hxx.out⟩
          case measure => simp [intOf]; omega
        · have h7' : (r == 7) = false := by simpa using h7
          by_cases h0 : c = 0
          · obtain ⟨f1, f2, f3⟩ := tup (FIN.out (r + 1) c true (by simp [zstep, h7, h0]))
            have F := hid_ f1; have F2 := hid_ f2; have F3 := hid_ f3
            have h0' : (c == 0) = true := by simpa using h0
            clear f1 f2 f3 h7 h0
            go_wp2_with fail
            go_roundw
            case rel => exact ⟨k + 1, by omega, by go_num, by rw [F.out], by rw [F2.out], by rw [F3.out], hblk.out, hxx.out⟩
            case measure => simp [intOf]; omega
          · obtain ⟨f1, f2, f3⟩ := tup (FIN.out (r + 1) (c - 1) false (by simp [zstep, h7, h0]))
            have F := hid_ f1; have F2 := hid_ f2; have F3 := hid_ f3
            have h0' : (c == 0) = false := by simpa using h0
            clear f1 f2 f3 h7 h0
            go_wp2_with fail
            go_roundw
            case rel => exact ⟨k + 1, by omega, by go_num, by rw [F.out], by rw [F2.out], by rw [F3.out], hblk.out, hxx.out⟩
            case measure => simp [intOf]; omega
    · obtain rfl : k = 64 := by omega
      have hs : Hid ((bv zigL).size = 64) := hid_ (by rw [bv_size, zigL_len])
      have ho := hid_ (bv_one zigL)
      have e : zigL.take 64 ++ List.replicate (64 - 64) 0 = zigL := by rw [List.take_of_length_le (by rw [zigL_len]; omega)]; simp
      rw [e] at hb
      clear e
      generalize hcz : bv zigL = cz at *
      have HCZ := hid_ hcz
      clear hcz
      go_wp2_with (first
        | (refine wpList_load_blk rfl 36 (.tmp 0) rfl _ rfl hb _ Tryz.underlying36 rfl 64 size47 hs.out ?_)
        | (refine wpList_store_blk rfl 36 (.tmp 0) (.tmp 51) rfl _ _ rfl rfl hb 64 size47 hs.out hs.out ho.out ?_; intro w7 hb7 hg7))
      exact ret_cell rfl rfl _ rfl hb7 _ Tryz.underlying36 rfl 64 size47 hs.out ⟨by rw [HCZ.out], hx.grown hg7 hg⟩
set_option maxHeartbeats 800000 in
theorem rzigOrder_own (w : World) : Calls Tryz.prog 78 #[] w fun e w' => ∃ v, e = .returned v ∧ w'.ownsRow w.heap.size 3 1 v 64 (ints zigL) ∧ Ext w w' := by
  go_enter Tryz.func78, Tryz.ntmps78
  go_wp2_with fail
  go_loopw [1, 6] (fun v i wr => ∃ s : Nat, s ≤ 15 ∧ i = .int .i64 s ∧ wr.ownsRow w.heap.size 3 1 v (zall s).length (ints (zall s)) ∧ Ext w wr) (fun _ i _ => 15 - (intOf i).toNat)
  case atStart => exact ⟨0, by omega, rfl, World.ownsRow_nil _ _ _ _, Ext.refl w⟩
  case round =>
    obtain ⟨s, hs, rfl, hown, hx⟩ := hrel
    by_cases hlt : s < 15
    · have hsd : decide ((s : Int) < 15) = true := by simp; omega
      go_wp2_with fail
      obtain ⟨wo, rfl⟩ : ∃ wo : World, wo = wr := ⟨_, rfl⟩
      go_loopw [1, 9] (fun v i wr => ∃ k : Nat, k ≤ 8 ∧ i = .int .i64 k ∧ wr.ownsRow w.heap.size 3 1 v (zall s ++ zrow s k).length (ints (zall s ++ zrow s k)) ∧ Ext w wr) (fun _ i _ => 8 - (intOf i).toNat)
      case atStart => exact ⟨0, by omega, rfl, by simpa [zrow] using hown, hx⟩
      case round =>
        obtain ⟨k, hk, rfl, hown2, hx2⟩ := hrel
        by_cases hlk : k < 8
        · have hzl := zlen s k hs hk
          have hlen : (ints (zall s ++ zrow s k)).length = (zall s ++ zrow s k).length := ints_len _
          have HZ := hid_ (zrow_succ s k)
          by_cases hp : s % 2 = 0
          · have hp' : ((s : Int) % 2 == 0) = true := by simp; omega
            rw [if_pos hp] at HZ
            cases hq : inB ((s : Int) - (7 - (k : Int))) 0 7 with
            | true =>
              have hin := inB_iff.1 hq
              have HZ2 := hid_ (HZ.out.trans (by rw [if_pos hin]))
              clear HZ hin hp hlen
              go_wp2_with (first
                | (go_at_call 29; refine (outside_any _ _ _ _).mono ?_; rintro e w' ⟨rfl, rfl⟩)
                | (at_builtin; go_must (refine wpList_append_sl elt_int rfl _ _ rfl w.heap.size _ _ _ rfl (hown2.alloc _) _ 1 [.int .i64 _] rfl (one_sl _ _ _) (int_one _) (by omega) (by omega) (by have := hx2.size; simp; omega) ?_); intro v' w7 hown7 hb7))
              go_roundw
              case rel =>
                refine ⟨k + 1, by omega, by go_num, ?_, (hx2.alloc _).trans' hb7⟩
                rw [HZ2.out, ← List.append_assoc]
                exact own_snoc hown7
              case measure => simp [intOf]; omega
            | false =>
              have hin := inB_not.1 hq
              have HZ2 := hid_ (HZ.out.trans (by rw [if_neg (by omega)]))
              clear HZ hin hp hlen
              go_wp2_with (go_at_call 29; refine (outside_any _ _ _ _).mono ?_; rintro e w' ⟨rfl, rfl⟩)
              go_roundw
              case rel => exact ⟨k + 1, by omega, by go_num, by rw [HZ2.out, List.append_nil]; exact hown2, hx2⟩
              case measure => simp [intOf]; omega
          · have hp' : ((s : Int) % 2 == 0) = false := by simp; omega
            rw [if_neg hp] at HZ
            cases hq : inB ((s : Int) - (k : Int)) 0 7 with
            | true =>
              have hin := inB_iff.1 hq
              have HZ2 := hid_ (HZ.out.trans (by rw [if_pos hin]))
              clear HZ hin hp hlen
              go_wp2_with (first
                | (go_at_call 29; refine (outside_any _ _ _ _).mono ?_; rintro e w' ⟨rfl, rfl⟩)
                | (at_builtin; go_must (refine wpList_append_sl elt_int rfl _ _ rfl w.heap.size _ _ _ rfl (hown2.alloc _) _ 1 [.int .i64 _] rfl (one_sl _ _ _) (int_one _) (by omega) (by omega) (by have := hx2.size; simp; omega) ?_); intro v' w7 hown7 hb7))
              go_roundw
              case rel =>
                refine ⟨k + 1, by omega, by go_num, ?_, (hx2.alloc _).trans' hb7⟩
                rw [HZ2.out, ← List.append_assoc]
                exact own_snoc hown7
              case measure => simp [intOf]; omega
            | false =>
              have hin := inB_not.1 hq
              have HZ2 := hid_ (HZ.out.trans (by rw [if_neg (by omega)]))
              clear HZ hin hp hlen
              go_wp2_with (go_at_call 29; refine (outside_any _ _ _ _).mono ?_; rintro e w' ⟨rfl, rfl⟩)
              go_roundw
              case rel => exact ⟨k + 1, by omega, by go_num, by rw [HZ2.out, List.append_nil]; exact hown2, hx2⟩
              case measure => simp [intOf]; omega
        · obtain rfl : k = 8 := by omega
          have HS := hid_ (zall_succ s)
          go_wp2_with fail
          go_roundw
          case rel => exact ⟨s + 1, by omega, by go_num, by rw [HS.out]; exact hown2, hx2⟩
          case measure => simp [intOf]; omega
    · obtain rfl : s = 15 := by omega
      rw [zall_15] at hown
      rw [zigL_len] at hown
      have HSL := hid_ hown
      clear hown
      go_wp2_with fail
      go_ret
      exact ⟨_, rfl, HSL.out, hx⟩
theorem rzigOrder_any (w : World) : Calls Tryz.prog 78 #[] w fun e w' => ∃ v, e = .returned v ∧ SL w' 1 v 64 (ints zigL) ∧ Ext w w' :=
  (rzigOrder_own w).mono fun _ _ ⟨v, he, hs, hx⟩ => ⟨v, he, own_sl hs, hx⟩
theorem rzigOrder_sl (w : World) : Calls Tryz.prog 78 #[] w fun e w' => ∃ A c, e = .returned (.slice A 64 c) ∧ SL w' 1 (.slice A 64 c) 64 (ints zigL) ∧ (∀ ad, A = some ad → w.heap.size ≤ ad.block) ∧ Ext w w' :=
  (rzigOrder_own w).mono fun e w' ⟨v, he, hs, hx⟩ => by
    obtain ⟨A, c, rfl, h1, h2⟩ := own_form hs
    exact ⟨A, c, he, h1, h2, hx⟩
theorem run_index47 (cs : Array Value) (i : Nat) (u : Value) (hi : i < 64) (hu : cs[i]? = some u) (w : World) : (Instr.index 36 (.agg cs) (.int .i64 (i : Int))).run Tryz.prog w = .ok u w :=
  run_index_agg _ _ 64 cs i u Tryz.underlying36 _ Tryz.underlying3 sizeInt hi hu w
theorem zigN (k : Nat) (h : k < 64) : ∃ n : Nat, zigAt k = (n : Int) ∧ n < 64 := by
  have := zigAt_bd k h
  exact ⟨(zigAt k).toNat, by omega, by omega⟩
end Go.Proofs.YtgmddhljgfbibaaGreatDoor
/- The block of noughts. -/
namespace Go.Proofs.YtgmddhljgfbibaaGreatDoor
set_option linter.unusedVariables false
set_option linter.unusedSimpArgs false
open Go.RowKit
def zeros64 : List Int := List.replicate 64 0
theorem built48 : Tryz.prog.built 37 [] = some (bv zeros64) := by kernel_rfl
theorem zero48 : (Tryz.prog.info? 37).bind (·.zero) = some (.agg (bv zeros64)) := by kernel_rfl
end Go.Proofs.YtgmddhljgfbibaaGreatDoor
/- zig.To, zig.From, and the reference's. -/
namespace Go.Proofs.YtgmddhljgfbibaaGreatDoor
set_option linter.unusedVariables false
set_option linter.unusedSimpArgs false
open Go.RowKit
set_option maxHeartbeats 400000 in
theorem zto_any (zs : List Int) (w : World) (hz : zs.length = 64) : Calls Tryz.prog 72 #[.agg (bv zs)] w fun e w' => e = .returned (.agg (bv (zto zs))) ∧ Ext w w' := by
  have HO := hid_ (fun W => order_any W)
  have HIX := hid_ (fun W (k n : Nat) (hk : k < 64) (hn : zigAt k = (n : Int)) => run_index47 (bv zigL) k (.int .i64 (n : Int)) hk (by rw [← hn, bv_at zigL k (by rw [zigL_len]; exact hk), zigL_get]) W)
  have HZ := hid_ hz
  generalize bv zigL = co at *
  generalize hc0 : bv zs = cz at *
  have HC0 := hid_ hc0
  clear hz hc0
  go_enter Tryz.func72, Tryz.ntmps72
  go_wp2_with (first
    | (refine wpList_box_abs rfl 37 (.tmp 0) rfl cz rfl ?_; intro w1 gz hbz1 hx1 hgz)
    | (refine wpList_alloc_abs' rfl (some 2) rfl 37 rfl _ zero48 ?_; intro w2 go hbo2 hx2 hgo; have hbz2 := hbz1.ext hx2)
    | (go_at_call 71; refine (HO.out _).mono ?_; rintro e w3 ⟨rfl, hx3⟩; have hbz := hbz2.ext hx3; have hbo := hbo2.ext hx3))
  have hne : go ≠ gz := by have := hbz1.lt; omega
  have hgo' : w.heap.size ≤ go := by have := hx1.size; omega
  have hxx := (hx1.trans hx2).trans hx3
  clear hbz1 hbz2 hbo2 hx1 hx2 hx3
  go_loopw [6] (fun i wr => ∃ k : Nat, k ≤ 64 ∧ i = .int .i64 k ∧ Blk wr gz 37 cz ∧ Blk wr go 37 (bv ((zto zs).take k ++ List.replicate (64 - k) 0)) ∧ Ext w wr) (fun i _ => 64 - (intOf i).toNat)
  case atStart => exact ⟨0, by omega, rfl, hbz, by rw [show (zto zs).take 0 ++ List.replicate (64 - 0) 0 = zeros64 from rfl]; exact hbo, hxx⟩
  case round =>
    obtain ⟨k, hk, rfl, hb1, hb2, hx⟩ := hrel
    by_cases hlt : k < 64
    · obtain ⟨n, hn, hn64⟩ := zigN k hlt
      have HN := hid_ hn
      have hzl : n < zs.length := by have := HZ.out; omega
      have HD : Hid (zs.getD n 0 = zs[n]) := hid_ (by simp [hzl])
      have hlz : wr.cell? ⟨gz, n, none⟩ = some (.int .i64 zs[n]) := (hb1.cell n).trans (by rw [← HC0.out]; exact bv_at zs n hzl)
      obtain ⟨old, hold⟩ : ∃ u, wr.cell? ⟨go, k, none⟩ = some u := by
        rw [hb2.cell k]
        have hl : ((zto zs).take k ++ List.replicate (64 - k) 0).length = 64 := by simp [zto_len]; omega
        exact ⟨_, bv_at _ k (by omega)⟩
      have hfr := hb2.frozen k
      have hix := fun W => HIX.out W k n hlt HN.out
      clear hn
      go_wp2_with fail
      go_roundw
      case rel =>
        refine ⟨k + 1, by omega, by go_num, hb1.far (p := ⟨go, k, none⟩) (by simpa using hne.symm) _, ?_, hx.setCell hgo' _⟩
        have := hb2.set_ k (.int .i64 zs[n])
        rw [bv_set] at this
        have e := zto_set zs k hlt
        rw [HN.out, Int.toNat_natCast, HD.out] at e
        rw [← e]
        exact this
      case measure => simp [intOf]; omega
    · obtain rfl : k = 64 := by omega
      have e : (zto zs).take 64 ++ List.replicate (64 - 64) 0 = zto zs := by rw [List.take_of_length_le (by rw [zto_len]; omega)]; simp
      rw [e] at hb2
      clear e
      have hs : Hid ((bv (zto zs)).size = 64) := hid_ (by rw [bv_size, zto_len])
      have ho := hid_ (bv_one (zto zs))
      generalize hcr : bv (zto zs) = cr at *
      have HC := hid_ hcr
      clear hcr
      go_wp2_with (first
        | (refine wpList_load_blk rfl 37 (.tmp 2) rfl _ rfl hb2 _ Tryz.underlying37 rfl 64 size48 hs.out ?_)
        | (refine wpList_store_blk rfl 37 (.tmp 2) (.tmp 16) rfl _ _ rfl rfl hb2 64 size48 hs.out hs.out ho.out ?_; intro w7 hb7 hg7))
      exact ret_cell rfl rfl _ rfl hb7 _ Tryz.underlying37 rfl 64 size48 hs.out ⟨by rw [HC.out], hx.grown hg7 hgo'⟩
set_option maxHeartbeats 400000 in
theorem rzto_any (zs : List Int) (w : World) (hz : zs.length = 64) : Calls Tryz.prog 80 #[.agg (bv zs)] w fun e w' => e = .returned (.agg (bv (zto zs))) ∧ Ext w w' := by
  have HZ := hid_ hz
  generalize hc0 : bv zs = cz at *
  have HC0 := hid_ hc0
  clear hz hc0
  go_enter Tryz.func80, Tryz.ntmps80
  go_wp2_with (first
    | (refine wpList_box_abs rfl 37 (.tmp 0) rfl cz rfl ?_; intro w1 gz hbz1 hx1 hgz)
    | (refine wpList_alloc_abs' rfl (some 2) rfl 37 rfl _ zero48 ?_; intro w2 gr hbr2 hx2 hgr; have hbz2 := hbz1.ext hx2)
    | (refine wpList_alloc_abs' rfl (some 3) rfl 37 rfl _ zero48 ?_; intro w3 go hbo3 hx3 hgo; have hbz3 := hbz2.ext hx3; have hbr3 := hbr2.ext hx3)
    | (go_at_call 78; refine (rzigOrder_sl _).mono ?_; rintro e w4 ⟨A, c, rfl, hsl, hfs, hx4⟩; have hbz := hbz3.ext hx4; have hbo := hbo3.ext hx4; have hbr := hbr3.ext hx4))
  have hne : go ≠ gz := by have := hbz2.lt; omega
  have hne2 : go ≠ gr := by have := hbr2.lt; omega
  have hgo' : w.heap.size ≤ go := by have := hx1.size; have := hx2.size; omega
  have hgr' : w.heap.size ≤ gr := by have := hx1.size; omega
  have hxx := ((hx1.trans hx2).trans hx3).trans hx4
  have hnsl := hid_ (fun ad h => (show (ad : Addr).block ≠ go by have := hfs ad h; have := hbo3.lt; omega))
  clear hbz1 hbz2 hbz3 hbo3 hbr2 hbr3 hx1 hx2 hx3 hx4 hfs
  go_loopw [8] (fun i wr => ∃ k : Nat, k ≤ 64 ∧ i = .int .i64 k ∧ Blk wr gz 37 cz ∧ Blk wr go 37 (bv ((zto zs).take k ++ List.replicate (64 - k) 0)) ∧ Blk wr gr 37 (bv zeros64) ∧ SL wr 1 (.slice A 64 c) 64 (ints zigL) ∧ Ext w wr) (fun i _ => 64 - (intOf i).toNat)
  case atStart => exact ⟨0, by omega, rfl, hbz, by rw [show (zto zs).take 0 ++ List.replicate (64 - 0) 0 = zeros64 from rfl]; exact hbo, hbr, hsl, hxx⟩
  case round =>
    obtain ⟨k, hk, rfl, hb1, hb2, hbr, hsl, hx⟩ := hrel
    by_cases hlt : k < 64
    · obtain ⟨n, hn, hn64⟩ := zigN k hlt
      have HN := hid_ hn
      have hzl : n < zs.length := by have := HZ.out; omega
      have HD : Hid (zs.getD n 0 = zs[n]) := hid_ (by simp [hzl])
      have hlz : wr.cell? ⟨gz, n, none⟩ = some (.int .i64 zs[n]) := (hb1.cell n).trans (by rw [← HC0.out]; exact bv_at zs n hzl)
      obtain ⟨old, hold⟩ : ∃ u, wr.cell? ⟨go, k, none⟩ = some u := by
        rw [hb2.cell k]
        have hl : ((zto zs).take k ++ List.replicate (64 - k) 0).length = 64 := by simp [zto_len]; omega
        exact ⟨_, bv_at _ k (by omega)⟩
      have hfr := hb2.frozen k
      obtain ⟨ad, u, rfl, -, hxo, hco⟩ := hsl.at1 hlt
      obtain ⟨hko, rfl⟩ := ints_at _ _ _ hxo
      have e0 : zigL[k] = (n : Int) := by rw [zigL_get, HN.out]
      rw [e0] at hco
      clear e0 hxo
      clear hn
      go_wp2_with fail
      go_roundw
      case rel =>
        refine ⟨k + 1, by omega, by go_num, hb1.far (p := ⟨go, k, none⟩) (by simpa using hne.symm) _, ?_, hbr.far (p := ⟨go, k, none⟩) (by simpa using hne2.symm) _, hsl.far (by intro ad' h; exact hnsl.out ad' h) _, hx.setCell hgo' _⟩
        have := hb2.set_ k (.int .i64 zs[n])
        rw [bv_set] at this
        have e := zto_set zs k hlt
        rw [HN.out, Int.toNat_natCast, HD.out] at e
        rw [← e]
        exact this
      case measure => simp [intOf]; omega
    · obtain rfl : k = 64 := by omega
      have e : (zto zs).take 64 ++ List.replicate (64 - 64) 0 = zto zs := by rw [List.take_of_length_le (by rw [zto_len]; omega)]; simp
      rw [e] at hb2
      clear e
      have hs : Hid ((bv (zto zs)).size = 64) := hid_ (by rw [bv_size, zto_len])
      have ho := hid_ (bv_one (zto zs))
      generalize hcr : bv (zto zs) = cr at *
      have HC := hid_ hcr
      clear hcr
      go_wp2_with (first
        | (refine wpList_load_blk rfl 37 (.tmp 3) rfl _ rfl hb2 _ Tryz.underlying37 rfl 64 size48 hs.out ?_)
        | (refine wpList_store_blk rfl 37 (.tmp 2) (.tmp 19) rfl _ _ rfl rfl hbr 64 size48 hs.out (by rw [bv_size]; rfl) ho.out ?_; intro w7 hb7 hg7))
      exact ret_cell rfl rfl _ rfl hb7 _ Tryz.underlying37 rfl 64 size48 hs.out ⟨by rw [HC.out], hx.grown hg7 hgr'⟩
set_option maxHeartbeats 400000 in
theorem zfrom_any (zs : List Int) (w : World) (hz : zs.length = 64) : Calls Tryz.prog 54 #[.agg (bv zs)] w fun e w' => e = .returned (.agg (bv (zfrom zs 64))) ∧ Ext w w' := by
  have HO := hid_ (fun W => order_any W)
  have HIX := hid_ (fun W (k n : Nat) (hk : k < 64) (hn : zigAt k = (n : Int)) => run_index47 (bv zigL) k (.int .i64 (n : Int)) hk (by rw [← hn, bv_at zigL k (by rw [zigL_len]; exact hk), zigL_get]) W)
  have HZ := hid_ hz
  generalize bv zigL = co at *
  generalize hc0 : bv zs = cz at *
  have HC0 := hid_ hc0
  clear hz hc0
  go_enter Tryz.func54, Tryz.ntmps54
  go_wp2_with (first
    | (refine wpList_box_abs rfl 37 (.tmp 0) rfl cz rfl ?_; intro w1 gz hbz1 hx1 hgz)
    | (refine wpList_alloc_abs' rfl (some 2) rfl 37 rfl _ zero48 ?_; intro w2 go hbo2 hx2 hgo; have hbz2 := hbz1.ext hx2)
    | (go_at_call 71; refine (HO.out _).mono ?_; rintro e w3 ⟨rfl, hx3⟩; have hbz := hbz2.ext hx3; have hbo := hbo2.ext hx3))
  have hne : go ≠ gz := by have := hbz1.lt; omega
  have hgo' : w.heap.size ≤ go := by have := hx1.size; omega
  have hxx := (hx1.trans hx2).trans hx3
  clear hbz1 hbz2 hbo2 hx1 hx2 hx3
  go_loopw [6] (fun i wr => ∃ k : Nat, k ≤ 64 ∧ i = .int .i64 k ∧ Blk wr gz 37 cz ∧ Blk wr go 37 (bv (zfrom zs k)) ∧ Ext w wr) (fun i _ => 64 - (intOf i).toNat)
  case atStart => exact ⟨0, by omega, rfl, hbz, hbo, hxx⟩
  case round =>
    obtain ⟨k, hk, rfl, hb1, hb2, hx⟩ := hrel
    by_cases hlt : k < 64
    · obtain ⟨n, hn, hn64⟩ := zigN k hlt
      have HN := hid_ hn
      have hzl : k < zs.length := by have := HZ.out; omega
      have HD : Hid (zs.getD k 0 = zs[k]) := hid_ (by simp [hzl])
      have hlz : wr.cell? ⟨gz, k, none⟩ = some (.int .i64 zs[k]) := (hb1.cell k).trans (by rw [← HC0.out]; exact bv_at zs k hzl)
      obtain ⟨old, hold⟩ : ∃ u, wr.cell? ⟨go, n, none⟩ = some u := by
        rw [hb2.cell n]
        have hl : (zfrom zs k).length = 64 := zfrom_len zs k
        exact ⟨_, bv_at _ n (by omega)⟩
      have hfr := hb2.frozen n
      have hix := fun W => HIX.out W k n hlt HN.out
      clear hn
      go_wp2_with fail
      go_roundw
      case rel =>
        refine ⟨k + 1, by omega, by go_num, hb1.far (p := ⟨go, n, none⟩) (by simpa using hne.symm) _, ?_, hx.setCell hgo' _⟩
        have := hb2.set_ n (.int .i64 zs[k])
        rw [bv_set] at this
        rw [zfrom_succ, HN.out, Int.toNat_natCast, HD.out]
        exact this
      case measure => simp [intOf]; omega
    · obtain rfl : k = 64 := by omega
      have hs : Hid ((bv (zfrom zs 64)).size = 64) := hid_ (by rw [bv_size, zfrom_len])
      have ho := hid_ (bv_one (zfrom zs 64))
      generalize hcr : bv (zfrom zs 64) = cr at *
      have HC := hid_ hcr
      clear hcr
      go_wp2_with (first
        | (refine wpList_load_blk rfl 37 (.tmp 2) rfl _ rfl hb2 _ Tryz.underlying37 rfl 64 size48 hs.out ?_)
        | (refine wpList_store_blk rfl 37 (.tmp 2) (.tmp 16) rfl _ _ rfl rfl hb2 64 size48 hs.out hs.out ho.out ?_; intro w7 hb7 hg7))
      exact ret_cell rfl rfl _ rfl hb7 _ Tryz.underlying37 rfl 64 size48 hs.out ⟨by rw [HC.out], hx.grown hg7 hgo'⟩
set_option maxHeartbeats 400000 in
theorem rzfrom_any (zs : List Int) (w : World) (hz : zs.length = 64) : Calls Tryz.prog 62 #[.agg (bv zs)] w fun e w' => e = .returned (.agg (bv (zfrom zs 64))) ∧ Ext w w' := by
  have HZ := hid_ hz
  generalize hc0 : bv zs = cz at *
  have HC0 := hid_ hc0
  clear hz hc0
  go_enter Tryz.func62, Tryz.ntmps62
  go_wp2_with (first
    | (refine wpList_box_abs rfl 37 (.tmp 0) rfl cz rfl ?_; intro w1 gz hbz1 hx1 hgz)
    | (refine wpList_alloc_abs' rfl (some 2) rfl 37 rfl _ zero48 ?_; intro w2 gr hbr2 hx2 hgr; have hbz2 := hbz1.ext hx2)
    | (refine wpList_alloc_abs' rfl (some 3) rfl 37 rfl _ zero48 ?_; intro w3 go hbo3 hx3 hgo; have hbz3 := hbz2.ext hx3; have hbr3 := hbr2.ext hx3)
    | (go_at_call 78; refine (rzigOrder_sl _).mono ?_; rintro e w4 ⟨A, c, rfl, hsl, hfs, hx4⟩; have hbz := hbz3.ext hx4; have hbo := hbo3.ext hx4; have hbr := hbr3.ext hx4))
  have hne : go ≠ gz := by have := hbz2.lt; omega
  have hne2 : go ≠ gr := by have := hbr2.lt; omega
  have hgo' : w.heap.size ≤ go := by have := hx1.size; have := hx2.size; omega
  have hgr' : w.heap.size ≤ gr := by have := hx1.size; omega
  have hxx := ((hx1.trans hx2).trans hx3).trans hx4
  have hnsl := hid_ (fun ad h => (show (ad : Addr).block ≠ go by have := hfs ad h; have := hbo3.lt; omega))
  clear hbz1 hbz2 hbz3 hbo3 hbr2 hbr3 hx1 hx2 hx3 hx4 hfs
  go_loopw [8] (fun i wr => ∃ k : Nat, k ≤ 64 ∧ i = .int .i64 k ∧ Blk wr gz 37 cz ∧ Blk wr go 37 (bv (zfrom zs k)) ∧ Blk wr gr 37 (bv zeros64) ∧ SL wr 1 (.slice A 64 c) 64 (ints zigL) ∧ Ext w wr) (fun i _ => 64 - (intOf i).toNat)
  case atStart => exact ⟨0, by omega, rfl, hbz, hbo, hbr, hsl, hxx⟩
  case round =>
    obtain ⟨k, hk, rfl, hb1, hb2, hbr, hsl, hx⟩ := hrel
    by_cases hlt : k < 64
    · obtain ⟨n, hn, hn64⟩ := zigN k hlt
      have HN := hid_ hn
      have hzl : k < zs.length := by have := HZ.out; omega
      have HD : Hid (zs.getD k 0 = zs[k]) := hid_ (by simp [hzl])
      have hlz : wr.cell? ⟨gz, k, none⟩ = some (.int .i64 zs[k]) := (hb1.cell k).trans (by rw [← HC0.out]; exact bv_at zs k hzl)
      obtain ⟨old, hold⟩ : ∃ u, wr.cell? ⟨go, n, none⟩ = some u := by
        rw [hb2.cell n]
        have hl : (zfrom zs k).length = 64 := zfrom_len zs k
        exact ⟨_, bv_at _ n (by omega)⟩
      have hfr := hb2.frozen n
      obtain ⟨ad, u, rfl, -, hxo, hco⟩ := hsl.at1 hlt
      obtain ⟨hko, rfl⟩ := ints_at _ _ _ hxo
      have e0 : zigL[k] = (n : Int) := by rw [zigL_get, HN.out]
      rw [e0] at hco
      clear e0 hxo
      clear hn
      go_wp2_with fail
      go_roundw
      case rel =>
        refine ⟨k + 1, by omega, by go_num, hb1.far (p := ⟨go, n, none⟩) (by simpa using hne.symm) _, ?_, hbr.far (p := ⟨go, n, none⟩) (by simpa using hne2.symm) _, hsl.far (by intro ad' h; exact hnsl.out ad' h) _, hx.setCell hgo' _⟩
        have := hb2.set_ n (.int .i64 zs[k])
        rw [bv_set] at this
        rw [zfrom_succ, HN.out, Int.toNat_natCast, HD.out]
        exact this
      case measure => simp [intOf]; omega
    · obtain rfl : k = 64 := by omega
      have hs : Hid ((bv (zfrom zs 64)).size = 64) := hid_ (by rw [bv_size, zfrom_len])
      have ho := hid_ (bv_one (zfrom zs 64))
      generalize hcr : bv (zfrom zs 64) = cr at *
      have HC := hid_ hcr
      clear hcr
      go_wp2_with (first
        | (refine wpList_load_blk rfl 37 (.tmp 3) rfl _ rfl hb2 _ Tryz.underlying37 rfl 64 size48 hs.out ?_)
        | (refine wpList_store_blk rfl 37 (.tmp 2) (.tmp 19) rfl _ _ rfl rfl hbr 64 size48 hs.out (by rw [bv_size]; rfl) ho.out ?_; intro w7 hb7 hg7))
      exact ret_cell rfl rfl _ rfl hb7 _ Tryz.underlying37 rfl 64 size48 hs.out ⟨by rw [HC.out], hx.grown hg7 hgr'⟩
end Go.Proofs.YtgmddhljgfbibaaGreatDoor
/- run.tokens. -/
namespace Go.Proofs.YtgmddhljgfbibaaGreatDoor
set_option linter.unusedVariables false
set_option linter.unusedSimpArgs false
open Go.RowKit
set_option maxHeartbeats 1000000 in
theorem tokens_any (before : Int) (zs : List Int) (w : World) (hz : zs.length = 64) (hb1 : -2047 ≤ before) (hb2 : before ≤ 2047) (h01 : -2047 ≤ (zto zs).getD 0 0) (h02 : (zto zs).getD 0 0 ≤ 2047) :
    Calls Tryz.prog 56 #[.int .i64 before, .agg (bv zs)] w fun e w' => ∃ A c, e = .returned (.slice A (tokensZ before (zto zs)).length c) ∧ SL w' 3 (.slice A (tokensZ before (zto zs)).length c) (tokensZ before (zto zs)).length (toks (tokensZ before (zto zs))) ∧ (∀ ad, A = some ad → w.heap.size ≤ ad.block) ∧ Ext w w' := by
  have HZT := hid_ (fun W => zto_any zs W hz)
  have hZl := zto_len zs
  have hsz := hid_ ((bv_size zs).trans hz)
  have hst := hid_ ((bv_size _).trans hZl)
  have hot := hid_ (bv_one (zto zs))
  generalize hZ : zto zs = Z at *
  clear hZ
  have h0l : 0 < Z.length := by omega
  have e0 : Z.getD 0 0 = Z[0] := by simp [h0l]
  rw [e0] at h01 h02
  have HAT := hid_ (fun k (hk : k < Z.length) => bv_at Z k hk)
  have HF : Hid (tokensZ before Z = if 0 < (accT (tokZ 0 (Z[0] - before)) (Z.drop 1) 63).2 then (accT (tokZ 0 (Z[0] - before)) (Z.drop 1) 63).1 ++ [(0, 0, 0)] else (accT (tokZ 0 (Z[0] - before)) (Z.drop 1) 63).1) := hid_ (by unfold tokensZ; rw [e0])
  have HT0 : Hid (∀ W, Calls Tryz.prog 73 #[.int .i64 0, .int .i64 (Z[0] - before)] W fun e w' => e = .returned (.agg (tokv (tokZ 0 (Z[0] - before))).toArray) ∧ Ext W w') := hid_ (fun W => by simpa using token_any 0 (Z[0] - before) W (by omega))
  simp only [tokv_out] at HT0
  generalize hcz : bv Z = cz at *
  generalize bv zs = c0 at *
  clear hcz hz e0
  generalize ht : tokZ 0 (Z[0] - before) = t0 at *
  clear ht
  have hll : (Z.drop 1).length = 63 := by simp; omega
  have HLL := hid_ hll
  have HLK : Hid (∀ k (h : k < (Z.drop 1).length) (h2 : k + 1 < Z.length), (Z.drop 1)[k] = Z[k + 1]) := hid_ (fun k h h2 => by simp)
  generalize hl : Z.drop 1 = l at *
  clear hl hll
  go_enter Tryz.func56, Tryz.ntmps56
  go_wp2_with (first
    | (refine wpList_box_abs rfl 37 (.tmp 1) rfl c0 rfl ?_; intro w1 g hbb1 hx1 hg)
    | (refine wpList_load_blk rfl 37 (.tmp 3) rfl _ rfl hbb1 _ Tryz.underlying37 rfl 64 size48 hsz.out ?_)
    | (go_at_call 72; (with_reducible refine (HZT.out _).mono ?_); rintro e w2 ⟨rfl, hx2⟩; have hbb2 := hbb1.ext hx2)
    | (refine wpList_store_blk rfl 37 (.tmp 3) (.tmp 10) rfl _ _ rfl rfl hbb2 64 size48 hst.out hsz.out hot.out ?_; intro w3 hbb3 hg3; have hc0 : w3.cell? ⟨g, 0, none⟩ = some (.int .i64 Z[0]) := (hbb3.cell 0).trans (HAT.out 0 h0l))
    | (go_at_call 73; (with_reducible refine (HT0.out _).mono ?_); rintro e w4 ⟨rfl, hx4⟩))
  have hown0 := own_built3 (w := w4) (base := w3.heap.size) 80 (.int .i64 t0.1) (.int .i64 t0.2.1) (.int .i64 t0.2.2) hx4.size
  have hx5 := hx4.alloc (.cells #[.int .i64 t0.1, .int .i64 t0.2.1, .int .i64 t0.2.2] 80)
  have hbb5 := hbb3.ext hx5
  have hglt := hbb3.lt
  have hxw : Ext w w3 := (hx1.trans hx2).grown hg3 hg
  have HB0 : Hid (w.heap.size ≤ w3.heap.size) := hid_ hxw.size
  clear hbb1 hbb2 hx1 hx2 hg3 hc0 hx4 HZT HT0
  generalize hw5 : w4.alloc (.cells #[.int .i64 t0.1, .int .i64 t0.2.1, .int .i64 t0.2.2] 80) = w5 at *
  clear hw5
  go_loopw [5, 6, 19] (fun v r i wr => ∃ k : Nat, k ≤ 63 ∧ i = .int .i64 k ∧ r = .int .i64 ((accT t0 l k).2 : Nat) ∧ wr.ownsRow w3.heap.size 80 3 v (accT t0 l k).1.length (toks (accT t0 l k).1) ∧ Blk wr g 37 cz ∧ Ext w3 wr) (fun _ _ i _ => 63 - (intOf i).toNat)
  case atStart => exact ⟨0, by omega, rfl, rfl, hown0, hbb5, hx5⟩
  case round =>
    clear hown0 hbb5 hx5
    obtain ⟨k, hk, rfl, rfl, hown, hbb, hx⟩ := hrel
    obtain ⟨b1, b2⟩ := accT_bd t0 l k (by have := HLL.out; omega) (by omega)
    by_cases hlt : k < 63
    · have hkl : k < l.length := by have := HLL.out; omega
      have hkZ : k + 1 < Z.length := by omega
      have HS := hid_ (accT_succ t0 l k hkl)
      have hcell : wr.cell? ⟨g, 1 + k, none⟩ = some (.int .i64 l[k]) := by
        rw [Nat.add_comm 1 k]
        exact (hbb.cell (k + 1)).trans (by rw [HAT.out (k + 1) hkZ, HLK.out k hkl hkZ])
      generalize accT t0 l k = s at *
      obtain ⟨acc, rn⟩ := s
      simp only at b1 b2 hown ⊢
      by_cases hz0 : l[k] = 0
      · rw [stepT_zero hz0] at HS
        generalize hnk : accT t0 l (k + 1) = s1 at *
        have HS1 := HS.out
        have hz0' : (l[k] == 0) = true := by simpa using hz0
        clear hz0 HS
        go_wp2_with fail
        go_roundw
        case rel =>
          refine ⟨k + 1, by omega, by go_num, by rw [hnk, HS1]; simp, by rw [hnk, HS1]; exact hown, hbb, hx⟩
        case measure => simp [intOf]; omega
      · rw [stepT_one hz0] at HS
        have hz0' : (l[k] == 0) = false := by simpa using hz0
        have HTK := hid_ (fun W => token_any (rn % 16) l[k] W (by omega))
        simp only [tokv_out] at HTK
        generalize tokZ ((rn % 16 : Nat) : Int) l[k] = tk at *
        generalize hnk : accT t0 l (k + 1) = s1 at *
        have HS1 := hid_ HS.out
        have HNK := hid_ hnk
        clear hz0 HS hnk
        go_wp2_with fail
        go_loopw [5, 6] (fun v r wr2 => ∃ j : Nat, j ≤ rn / 16 ∧ r = .int .i64 ((rn : Int) - 16 * j) ∧ wr2.ownsRow w3.heap.size 80 3 v (acc ++ List.replicate j long).length (toks (acc ++ List.replicate j long)) ∧ Blk wr2 g 37 cz ∧ Ext w3 wr2) (fun _ r _ => (intOf r).toNat)
        case atStart => exact ⟨0, by omega, by simp, by simpa using hown, hbb, hx⟩
        case round =>
          clear hown hbb hx
          obtain ⟨j, hj, rfl, hown, hbb, hx⟩ := hrel
          have hlen : (acc ++ List.replicate j long).length = acc.length + j := by simp
          by_cases hj2 : j < rn / 16
          · have hgt : (15 : Int) < (rn : Int) - 16 * j := by omega
            go_wp2_with (at_builtin; go_must (refine wpList_append_sl elt_tok rfl _ _ rfl w3.heap.size _ _ _ rfl (hown.alloc _) _ 1 [.int .i64 _, .int .i64 _, .int .i64 _] rfl (one_sl3 _ _ _ _ _) (tok_one _ _ _) (by omega) (by omega) (by have := hx.size; simp; omega) ?_); intro v' w7 hown7 hb7)
            go_roundw
            case rel =>
              refine ⟨j + 1, by omega, by congr 1; omega, ?_, (hbb.alloc _).below hb7 hglt, (hx.alloc _).trans' hb7⟩
              rw [List.replicate_succ', ← List.append_assoc]
              exact own_tok hown7
            case measure => simp [intOf]; omega
          · obtain rfl : j = rn / 16 := by omega
            have e : (rn : Int) - 16 * ((rn / 16 : Nat) : Int) = ((rn % 16 : Nat) : Int) := by omega
            rw [e]
            clear e hj hj2
            have hq : rn % 16 ≤ 15 := by omega
            generalize rn % 16 = q at *
            go_wp2_with (first
              | (go_at_call 73; (with_reducible refine (HTK.out _).mono ?_); rintro e w6 ⟨rfl, hx6⟩)
              | (at_builtin; go_must (refine wpList_append_sl elt_tok rfl _ _ rfl w3.heap.size _ _ _ rfl ((own_ext hown hx6).alloc _) _ 1 [.int .i64 _, .int .i64 _, .int .i64 _] rfl (one_sl3 _ _ _ _ _) (tok_one _ _ _) (by omega) (by omega) (by have := hx.size; have := hx6.size; simp; omega) ?_); intro v' w7 hown7 hb7))
            go_roundw
            case rel =>
              refine ⟨k + 1, by omega, by go_num, by rw [HNK.out, HS1.out]; rfl, ?_, ((hbb.ext hx6).alloc _).below hb7 hglt, ((hx.trans hx6).alloc _).trans' hb7⟩
              rw [HNK.out, HS1.out]
              exact own_tok hown7
            case measure => simp [intOf]; omega
    · have ek : k = 63 := by omega
      subst ek
      generalize accT t0 l 63 = s at *
      obtain ⟨acc, rn⟩ := s
      simp only at b1 b2 hown HF
      by_cases hr : 0 < rn
      · rw [if_pos hr] at HF
        go_wp2_with (at_builtin; go_must (refine wpList_append_sl elt_tok rfl _ _ rfl w3.heap.size _ _ _ rfl (hown.alloc _) _ 1 [.int .i64 _, .int .i64 _, .int .i64 _] rfl (one_sl3 _ _ _ _ _) (tok_one _ _ _) (by omega) (by omega) (by have := hx.size; simp; omega) ?_); intro v' w7 hown7 hb7)
        go_ret
        rw [HF.out]
        obtain ⟨A, c, rfl, hsl, hfs⟩ := own_form (own_tok hown7)
        exact ⟨A, c, rfl, hsl, fun ad h => Nat.le_trans HB0.out (hfs ad h), hxw.trans ((hx.alloc _).trans' hb7)⟩
      · rw [if_neg hr] at HF
        go_wp2_with fail
        go_ret
        rw [HF.out]
        obtain ⟨A, c, rfl, hsl, hfs⟩ := own_form hown
        exact ⟨A, c, rfl, hsl, fun ad h => Nat.le_trans HB0.out (hfs ad h), hxw.trans hx⟩
end Go.Proofs.YtgmddhljgfbibaaGreatDoor
