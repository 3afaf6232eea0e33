/- Contracts for the law FileParses, part 10: what the functions that it reaches answer, for all arguments that the theorems name. -/
import Derived.Test.YtkfdkkhhkciocaaMFileParses2
import Derived.Test.YtkfdkkhhkciocaaMFileParses9
import Derived.Test.YtkfdkkhhkciocaaMFileParses3
import Derived.Test.YtkfdkkhhkciocaaMFileParses4
import Derived.ArgAppend
import Derived.Lib.SlBytesConst
import Derived.Deep.Cut
/- zig.order, zig.Order, ZigOrder of the reference. -/
namespace Go.Proofs.Ytkfdkkhhkciocaa
set_option linter.unusedVariables false
set_option linter.unusedSimpArgs false
open Go.RowKit
theorem size47 : (Try.prog.info? 23).map (·.size) = some 64 := by kernel_rfl
theorem zero47 : (Try.prog.info? 23).bind (·.zero) = some (.agg (bv (List.replicate 64 0))) := by kernel_rfl
theorem elt_int : Elt Try.prog 30 3 1 8 := ⟨Try.underlying30, by kernel_rfl, by omega⟩
theorem zord_set (k : Nat) (h : k < 64) (z : Int) : (zigL.take k ++ List.replicate (64 - k) 0).set k z = zigL.take k ++ [z] ++ List.replicate (64 - (k + 1)) 0 := by
  have hl : (zigL.take k).length = k := by rw [List.length_take, zigL_len]; omega
  rw [List.set_append_right _ _ (by omega), hl, Nat.sub_self]
  obtain ⟨m, hm⟩ : ∃ m, 64 - k = m + 1 := ⟨64 - k - 1, by omega⟩
  have hm2 : 64 - (k + 1) = m := by omega
  rw [hm, hm2, List.replicate_succ, List.set_cons_zero]
  simp
theorem tup {s : Int × Int × Bool} {a b : Int} {c : Bool} (h : s = (a, b, c)) : s.1 = a ∧ s.2.1 = b ∧ s.2.2 = c := by subst h; exact ⟨rfl, rfl, rfl⟩
set_option maxHeartbeats 800000 in
theorem order_any (w : World) : Calls Try.prog 78 #[] w fun e w' => e = .returned (.agg (bv zigL)) ∧ Ext w w' := by
  go_enter Try.func78, Try.ntmps78
  go_wp2_with (refine wpList_alloc_abs rfl 23 rfl _ zero47 ?_; intro w1 g hb1 hx1 hg)
  go_loopw [1, 2, 3, 5] (fun r c u i wr => ∃ k : Nat, k ≤ 64 ∧ i = .int .i64 k ∧ r = .int .i64 (zst k).1 ∧ c = .int .i64 (zst k).2.1 ∧ u = .bool (zst k).2.2 ∧ Blk wr g 23 (bv (zigL.take k ++ List.replicate (64 - k) 0)) ∧ Ext w wr) (fun _ _ _ i _ => 64 - (intOf i).toNat)
  case atStart => exact ⟨0, by omega, rfl, rfl, rfl, rfl, hb1, hx1⟩
  case round =>
    obtain ⟨k, hk, rfl, rfl, rfl, rfl, hb, hx⟩ := hrel
    by_cases hlt : k < 64
    · obtain ⟨b1, b2, b3, b4⟩ := zst_bd k hlt
      have HS : Hid (zst (k + 1) = zstep (zst k)) := hid_ rfl
      have HZ : Hid (zigAt k = 8 * (zst k).1 + (zst k).2.1) := hid_ rfl
      obtain ⟨old, hold⟩ : ∃ u, wr.cell? ⟨g, k, none⟩ = some u := by
        rw [hb.cell k]
        exact ⟨_, bv_at _ k (by simp [zigL_len]; omega)⟩
      have hfr := hb.frozen k
      have hnew := hid_ (hb.set_ k (.int .i64 (8 * (zst k).1 + (zst k).2.1)))
      generalize hst : zst k = st at *
      obtain ⟨r, c, u⟩ := st
      have HST := hid_ hst
      clear hst
      simp only at b1 b2 b3 b4 HZ hnew
      have fin : ∀ (a b : Int) (d : Bool), zstep (r, c, u) = (a, b, d) → zst (k + 1) = (a, b, d) := fun a b d h => by rw [HS.out, h]
      have FIN := hid_ fin
      have hblk : Hid (Blk (wr.setCell ⟨g, k, none⟩ (.int .i64 (8 * r + c))) g 23 (bv (zigL.take (k + 1) ++ List.replicate (64 - (k + 1)) 0))) := by
        have := hnew.out
        rw [bv_set, zord_set k hlt] at this
        rw [zigL_take_succ k hlt, HZ.out]
        exact this
      have hxx := hid_ (hx.setCell (p := ⟨g, k, none⟩) hg (.int .i64 (8 * r + c)))
      clear fin hnew hb hx
      cases u with
      | true =>
        by_cases h7 : c = 7
        · obtain ⟨f1, f2, f3⟩ := tup (FIN.out (r + 1) c false (by simp [zstep, h7]))
          have F := hid_ f1; have F2 := hid_ f2; have F3 := hid_ f3
          have h7' : (c == 7) = true := by simpa using h7
          clear f1 f2 f3 h7
          go_wp2_with fail
          go_roundw
          case rel => exact ⟨k + 1, by omega, by go_num, by rw [F.out], by rw [F2.out], by rw [F3.out], hblk.out, hxx.out⟩
          case measure => simp [intOf]; omega
        · have h7' : (c == 7) = false := by simpa using h7
          by_cases h0 : r = 0
          · obtain ⟨f1, f2, f3⟩ := tup (FIN.out r (c + 1) false (by simp [zstep, h7, h0]))
            have F := hid_ f1; have F2 := hid_ f2; have F3 := hid_ f3
            have h0' : (r == 0) = true := by simpa using h0
            clear f1 f2 f3 h7 h0
            go_wp2_with fail
            go_roundw
            case rel => exact ⟨k + 1, by omega, by go_num, by rw [F.out], by rw [F2.out], by rw [F3.out], hblk.out, hxx.out⟩
            case measure => simp [intOf]; omega
          · obtain ⟨f1, f2, f3⟩ := tup (FIN.out (r - 1) (c + 1) true (by simp [zstep, h7, h0]))
            have F := hid_ f1; have F2 := hid_ f2; have F3 := hid_ f3
            have h0' : (r == 0) = false := by simpa using h0
            clear f1 f2 f3 h7 h0
            go_wp2_with fail
            go_roundw
            case rel => exact ⟨k + 1, by omega, by go_num, by rw [F.out], by rw [F2.out], by rw [F3.out], hblk.out, hxx.out⟩
            case measure => simp [intOf]; omega
      | false =>
        by_cases h7 : r = 7
        · obtain ⟨f1, f2, f3⟩ := tup (FIN.out r (c + 1) true (by simp [zstep, h7]))
          have F := hid_ f1; have F2 := hid_ f2; have F3 := hid_ f3
          have h7' : (r == 7) = true := by simpa using h7
          clear f1 f2 f3 h7
          go_wp2_with fail
          go_roundw
          case rel => exact ⟨k + 1, by omega, by go_num, by rw [F.out], by rw [F2.out], by rw [F3.out], hblk.out, hxx.out⟩
          case measure => simp [intOf]; omega
        · have h7' : (r == 7) = false := by simpa using h7
          by_cases h0 : c = 0
          · obtain ⟨f1, f2, f3⟩ := tup (FIN.out (r + 1) c true (by simp [zstep, h7, h0]))
            have F := hid_ f1; have F2 := hid_ f2; have F3 := hid_ f3
            have h0' : (c == 0) = true := by simpa using h0
            clear f1 f2 f3 h7 h0
            go_wp2_with fail
            go_roundw
            case rel => exact ⟨k + 1, by omega, by go_num, by rw [F.out], by rw [F2.out], by rw [F3.out], hblk.out, hxx.out⟩
            case measure => simp [intOf]; omega
          · obtain ⟨f1, f2, f3⟩ := tup (FIN.out (r + 1) (c - 1) false (by simp [zstep, h7, h0]))
            have F := hid_ f1; have F2 := hid_ f2; have F3 := hid_ f3
            have h0' : (c == 0) = false := by simpa using h0
            clear f1 f2 f3 h7 h0
            go_wp2_with fail
            go_roundw
            case rel => exact ⟨k + 1, by omega, by go_num, by rw [F.out], by rw [F2.out], by rw [F3.out], hblk.out, hxx.out⟩
            case measure => simp [intOf]; omega
    · obtain rfl : k = 64 := by omega
      have hs : Hid ((bv zigL).size = 64) := hid_ (by rw [bv_size, zigL_len])
      have ho := hid_ (bv_one zigL)
      have e : zigL.take 64 ++ List.replicate (64 - 64) 0 = zigL := by rw [List.take_of_length_le (by rw [zigL_len]; omega)]; simp
      rw [e] at hb
      clear e
      generalize hcz : bv zigL = cz at *
      have HCZ := hid_ hcz
      clear hcz
      go_wp2_with (first
        | (refine wpList_load_blk rfl 23 (.tmp 0) rfl _ rfl hb _ Try.underlying23 rfl 64 size47 hs.out ?_)
        | (refine wpList_store_blk rfl 23 (.tmp 0) (.tmp 51) rfl _ _ rfl rfl hb 64 size47 hs.out hs.out ho.out ?_; intro w7 hb7 hg7))
      exact ret_cell rfl rfl _ rfl hb7 _ Try.underlying23 rfl 64 size47 hs.out ⟨by rw [HCZ.out], hx.grown hg7 hg⟩
set_option maxHeartbeats 800000 in
theorem rzigOrder_own (w : World) : Calls Try.prog 41 #[] w fun e w' => ∃ v, e = .returned v ∧ w'.ownsRow w.heap.size 3 1 v 64 (ints zigL) ∧ Ext w w' := by
  go_enter Try.func41, Try.ntmps41
  go_wp2_with fail
  go_loopw [1, 6] (fun v i wr => ∃ s : Nat, s ≤ 15 ∧ i = .int .i64 s ∧ wr.ownsRow w.heap.size 3 1 v (zall s).length (ints (zall s)) ∧ Ext w wr) (fun _ i _ => 15 - (intOf i).toNat)
  case atStart => exact ⟨0, by omega, rfl, World.ownsRow_nil _ _ _ _, Ext.refl w⟩
  case round =>
    obtain ⟨s, hs, rfl, hown, hx⟩ := hrel
    by_cases hlt : s < 15
    · have hsd : decide ((s : Int) < 15) = true := by simp; omega
      go_wp2_with fail
      obtain ⟨wo, rfl⟩ : ∃ wo : World, wo = wr := ⟨_, rfl⟩
      go_loopw [1, 9] (fun v i wr => ∃ k : Nat, k ≤ 8 ∧ i = .int .i64 k ∧ wr.ownsRow w.heap.size 3 1 v (zall s ++ zrow s k).length (ints (zall s ++ zrow s k)) ∧ Ext w wr) (fun _ i _ => 8 - (intOf i).toNat)
      case atStart => exact ⟨0, by omega, rfl, by simpa [zrow] using hown, hx⟩
      case round =>
        obtain ⟨k, hk, rfl, hown2, hx2⟩ := hrel
        by_cases hlk : k < 8
        · have hzl := zlen s k hs hk
          have hlen : (ints (zall s ++ zrow s k)).length = (zall s ++ zrow s k).length := ints_len _
          have HZ := hid_ (zrow_succ s k)
          by_cases hp : s % 2 = 0
          · have hp' : ((s : Int) % 2 == 0) = true := by simp; omega
            rw [if_pos hp] at HZ
            cases hq : inB ((s : Int) - (7 - (k : Int))) 0 7 with
            | true =>
              have hin := inB_iff.1 hq
              have HZ2 := hid_ (HZ.out.trans (by rw [if_pos hin]))
              clear HZ hin hp hlen
              go_wp2_with (first
                | (go_at_call 28; refine (outside_any _ _ _ _).mono ?_; rintro e w' ⟨rfl, rfl⟩)
                | (at_builtin; go_must (refine wpList_append_sl elt_int rfl _ _ rfl w.heap.size _ _ _ rfl (hown2.alloc _) _ 1 [.int .i64 _] rfl (one_sl _ _ _) (int_one _) (by omega) (by omega) (by have := hx2.size; simp; omega) ?_); intro v' w7 hown7 hb7))
              go_roundw
              case rel =>
                refine ⟨k + 1, by omega, by go_num, ?_, (hx2.alloc _).trans' hb7⟩
                rw [HZ2.out, ← List.append_assoc]
                exact own_snoc hown7
              case measure => simp [intOf]; omega
            | false =>
              have hin := inB_not.1 hq
              have HZ2 := hid_ (HZ.out.trans (by rw [if_neg (by omega)]))
              clear HZ hin hp hlen
              go_wp2_with (go_at_call 28; refine (outside_any _ _ _ _).mono ?_; rintro e w' ⟨rfl, rfl⟩)
              go_roundw
              case rel => exact ⟨k + 1, by omega, by go_num, by rw [HZ2.out, List.append_nil]; exact hown2, hx2⟩
              case measure => simp [intOf]; omega
          · have hp' : ((s : Int) % 2 == 0) = false := by simp; omega
            rw [if_neg hp] at HZ
            cases hq : inB ((s : Int) - (k : Int)) 0 7 with
            | true =>
              have hin := inB_iff.1 hq
              have HZ2 := hid_ (HZ.out.trans (by rw [if_pos hin]))
              clear HZ hin hp hlen
              go_wp2_with (first
                | (go_at_call 28; refine (outside_any _ _ _ _).mono ?_; rintro e w' ⟨rfl, rfl⟩)
                | (at_builtin; go_must (refine wpList_append_sl elt_int rfl _ _ rfl w.heap.size _ _ _ rfl (hown2.alloc _) _ 1 [.int .i64 _] rfl (one_sl _ _ _) (int_one _) (by omega) (by omega) (by have := hx2.size; simp; omega) ?_); intro v' w7 hown7 hb7))
              go_roundw
              case rel =>
                refine ⟨k + 1, by omega, by go_num, ?_, (hx2.alloc _).trans' hb7⟩
                rw [HZ2.out, ← List.append_assoc]
                exact own_snoc hown7
              case measure => simp [intOf]; omega
            | false =>
              have hin := inB_not.1 hq
              have HZ2 := hid_ (HZ.out.trans (by rw [if_neg (by omega)]))
              clear HZ hin hp hlen
              go_wp2_with (go_at_call 28; refine (outside_any _ _ _ _).mono ?_; rintro e w' ⟨rfl, rfl⟩)
              go_roundw
              case rel => exact ⟨k + 1, by omega, by go_num, by rw [HZ2.out, List.append_nil]; exact hown2, hx2⟩
              case measure => simp [intOf]; omega
        · obtain rfl : k = 8 := by omega
          have HS := hid_ (zall_succ s)
          go_wp2_with fail
          go_roundw
          case rel => exact ⟨s + 1, by omega, by go_num, by rw [HS.out]; exact hown2, hx2⟩
          case measure => simp [intOf]; omega
    · obtain rfl : s = 15 := by omega
      rw [zall_15] at hown
      rw [zigL_len] at hown
      have HSL := hid_ hown
      clear hown
      go_wp2_with fail
      go_ret
      exact ⟨_, rfl, HSL.out, hx⟩
theorem rzigOrder_any (w : World) : Calls Try.prog 41 #[] w fun e w' => ∃ v, e = .returned v ∧ SL w' 1 v 64 (ints zigL) ∧ Ext w w' :=
  (rzigOrder_own w).mono fun _ _ ⟨v, he, hs, hx⟩ => ⟨v, he, own_sl hs, hx⟩
theorem rzigOrder_sl (w : World) : Calls Try.prog 41 #[] w fun e w' => ∃ A c, e = .returned (.slice A 64 c) ∧ SL w' 1 (.slice A 64 c) 64 (ints zigL) ∧ (∀ ad, A = some ad → w.heap.size ≤ ad.block) ∧ Ext w w' :=
  (rzigOrder_own w).mono fun e w' ⟨v, he, hs, hx⟩ => by
    obtain ⟨A, c, rfl, h1, h2⟩ := own_form hs
    exact ⟨A, c, he, h1, h2, hx⟩
theorem run_index47 (cs : Array Value) (i : Nat) (u : Value) (hi : i < 64) (hu : cs[i]? = some u) (w : World) : (Instr.index 23 (.agg cs) (.int .i64 (i : Int))).run Try.prog w = .ok u w :=
  run_index_agg _ _ 64 cs i u Try.underlying23 _ Try.underlying3 sizeInt hi hu w
theorem zigN (k : Nat) (h : k < 64) : ∃ n : Nat, zigAt k = (n : Int) ∧ n < 64 := by
  have := zigAt_bd k h
  exact ⟨(zigAt k).toNat, by omega, by omega⟩
end Go.Proofs.Ytkfdkkhhkciocaa
/- The block of noughts. -/
namespace Go.Proofs.Ytkfdkkhhkciocaa
set_option linter.unusedVariables false
set_option linter.unusedSimpArgs false
open Go.RowKit
def zeros64 : List Int := List.replicate 64 0
theorem built48 : Try.prog.built 24 [] = some (bv zeros64) := by kernel_rfl
theorem zero48 : (Try.prog.info? 24).bind (·.zero) = some (.agg (bv zeros64)) := by kernel_rfl
end Go.Proofs.Ytkfdkkhhkciocaa
/- zig.To, zig.From, and the reference's. -/
namespace Go.Proofs.Ytkfdkkhhkciocaa
set_option linter.unusedVariables false
set_option linter.unusedSimpArgs false
open Go.RowKit
set_option maxHeartbeats 400000 in
theorem zto_any (zs : List Int) (w : World) (hz : zs.length = 64) : Calls Try.prog 79 #[.agg (bv zs)] w fun e w' => e = .returned (.agg (bv (zto zs))) ∧ Ext w w' := by
  have HO := hid_ (fun W => order_any W)
  have HIX := hid_ (fun W (k n : Nat) (hk : k < 64) (hn : zigAt k = (n : Int)) => run_index47 (bv zigL) k (.int .i64 (n : Int)) hk (by rw [← hn, bv_at zigL k (by rw [zigL_len]; exact hk), zigL_get]) W)
  have HZ := hid_ hz
  generalize bv zigL = co at *
  generalize hc0 : bv zs = cz at *
  have HC0 := hid_ hc0
  clear hz hc0
  go_enter Try.func79, Try.ntmps79
  go_wp2_with (first
    | (refine wpList_box_abs rfl 24 (.tmp 0) rfl cz rfl ?_; intro w1 gz hbz1 hx1 hgz)
    | (refine wpList_alloc_abs' rfl (some 2) rfl 24 rfl _ zero48 ?_; intro w2 go hbo2 hx2 hgo; have hbz2 := hbz1.ext hx2)
    | (go_at_call 78; refine (HO.out _).mono ?_; rintro e w3 ⟨rfl, hx3⟩; have hbz := hbz2.ext hx3; have hbo := hbo2.ext hx3))
  have hne : go ≠ gz := by have := hbz1.lt; omega
  have hgo' : w.heap.size ≤ go := by have := hx1.size; omega
  have hxx := (hx1.trans hx2).trans hx3
  clear hbz1 hbz2 hbo2 hx1 hx2 hx3
  go_loopw [6] (fun i wr => ∃ k : Nat, k ≤ 64 ∧ i = .int .i64 k ∧ Blk wr gz 24 cz ∧ Blk wr go 24 (bv ((zto zs).take k ++ List.replicate (64 - k) 0)) ∧ Ext w wr) (fun i _ => 64 - (intOf i).toNat)
  case atStart => exact ⟨0, by omega, rfl, hbz, by rw [show (zto zs).take 0 ++ List.replicate (64 - 0) 0 = zeros64 from rfl]; exact hbo, hxx⟩
  case round =>
    obtain ⟨k, hk, rfl, hb1, hb2, hx⟩ := hrel
    by_cases hlt : k < 64
    · obtain ⟨n, hn, hn64⟩ := zigN k hlt
      have HN := hid_ hn
      have hzl : n < zs.length := by have := HZ.out; omega
      have HD : Hid (zs.getD n 0 = zs[n]) := hid_ (by simp [hzl])
      have hlz : wr.cell? ⟨gz, n, none⟩ = some (.int .i64 zs[n]) := (hb1.cell n).trans (by rw [← HC0.out]; exact bv_at zs n hzl)
      obtain ⟨old, hold⟩ : ∃ u, wr.cell? ⟨go, k, none⟩ = some u := by
        rw [hb2.cell k]
        have hl : ((zto zs).take k ++ List.replicate (64 - k) 0).length = 64 := by simp [zto_len]; omega
        exact ⟨_, bv_at _ k (by omega)⟩
      have hfr := hb2.frozen k
      have hix := fun W => HIX.out W k n hlt HN.out
      clear hn
      go_wp2_with fail
      go_roundw
      case rel =>
        refine ⟨k + 1, by omega, by go_num, hb1.far (p := ⟨go, k, none⟩) (by simpa using hne.symm) _, ?_, hx.setCell hgo' _⟩
        have := hb2.set_ k (.int .i64 zs[n])
        rw [bv_set] at this
        have e := zto_set zs k hlt
        rw [HN.out, Int.toNat_natCast, HD.out] at e
        rw [← e]
        exact this
      case measure => simp [intOf]; omega
    · obtain rfl : k = 64 := by omega
      have e : (zto zs).take 64 ++ List.replicate (64 - 64) 0 = zto zs := by rw [List.take_of_length_le (by rw [zto_len]; omega)]; simp
      rw [e] at hb2
      clear e
      have hs : Hid ((bv (zto zs)).size = 64) := hid_ (by rw [bv_size, zto_len])
      have ho := hid_ (bv_one (zto zs))
      generalize hcr : bv (zto zs) = cr at *
      have HC := hid_ hcr
      clear hcr
      go_wp2_with (first
        | (refine wpList_load_blk rfl 24 (.tmp 2) rfl _ rfl hb2 _ Try.underlying24 rfl 64 size48 hs.out ?_)
        | (refine wpList_store_blk rfl 24 (.tmp 2) (.tmp 16) rfl _ _ rfl rfl hb2 64 size48 hs.out hs.out ho.out ?_; intro w7 hb7 hg7))
      exact ret_cell rfl rfl _ rfl hb7 _ Try.underlying24 rfl 64 size48 hs.out ⟨by rw [HC.out], hx.grown hg7 hgo'⟩
set_option maxHeartbeats 400000 in
theorem rzto_any (zs : List Int) (w : World) (hz : zs.length = 64) : Calls Try.prog 76 #[.agg (bv zs)] w fun e w' => e = .returned (.agg (bv (zto zs))) ∧ Ext w w' := by
  have HZ := hid_ hz
  generalize hc0 : bv zs = cz at *
  have HC0 := hid_ hc0
  clear hz hc0
  go_enter Try.func76, Try.ntmps76
  go_wp2_with (first
    | (refine wpList_box_abs rfl 24 (.tmp 0) rfl cz rfl ?_; intro w1 gz hbz1 hx1 hgz)
    | (refine wpList_alloc_abs' rfl (some 2) rfl 24 rfl _ zero48 ?_; intro w2 gr hbr2 hx2 hgr; have hbz2 := hbz1.ext hx2)
    | (refine wpList_alloc_abs' rfl (some 3) rfl 24 rfl _ zero48 ?_; intro w3 go hbo3 hx3 hgo; have hbz3 := hbz2.ext hx3; have hbr3 := hbr2.ext hx3)
    | (go_at_call 41; refine (rzigOrder_sl _).mono ?_; rintro e w4 ⟨A, c, rfl, hsl, hfs, hx4⟩; have hbz := hbz3.ext hx4; have hbo := hbo3.ext hx4; have hbr := hbr3.ext hx4))
  have hne : go ≠ gz := by have := hbz2.lt; omega
  have hne2 : go ≠ gr := by have := hbr2.lt; omega
  have hgo' : w.heap.size ≤ go := by have := hx1.size; have := hx2.size; omega
  have hgr' : w.heap.size ≤ gr := by have := hx1.size; omega
  have hxx := ((hx1.trans hx2).trans hx3).trans hx4
  have hnsl := hid_ (fun ad h => (show (ad : Addr).block ≠ go by have := hfs ad h; have := hbo3.lt; omega))
  clear hbz1 hbz2 hbz3 hbo3 hbr2 hbr3 hx1 hx2 hx3 hx4 hfs
  go_loopw [8] (fun i wr => ∃ k : Nat, k ≤ 64 ∧ i = .int .i64 k ∧ Blk wr gz 24 cz ∧ Blk wr go 24 (bv ((zto zs).take k ++ List.replicate (64 - k) 0)) ∧ Blk wr gr 24 (bv zeros64) ∧ SL wr 1 (.slice A 64 c) 64 (ints zigL) ∧ Ext w wr) (fun i _ => 64 - (intOf i).toNat)
  case atStart => exact ⟨0, by omega, rfl, hbz, by rw [show (zto zs).take 0 ++ List.replicate (64 - 0) 0 = zeros64 from rfl]; exact hbo, hbr, hsl, hxx⟩
  case round =>
    obtain ⟨k, hk, rfl, hb1, hb2, hbr, hsl, hx⟩ := hrel
    by_cases hlt : k < 64
    · obtain ⟨n, hn, hn64⟩ := zigN k hlt
      have HN := hid_ hn
      have hzl : n < zs.length := by have := HZ.out; omega
      have HD : Hid (zs.getD n 0 = zs[n]) := hid_ (by simp [hzl])
      have hlz : wr.cell? ⟨gz, n, none⟩ = some (.int .i64 zs[n]) := (hb1.cell n).trans (by rw [← HC0.out]; exact bv_at zs n hzl)
      obtain ⟨old, hold⟩ : ∃ u, wr.cell? ⟨go, k, none⟩ = some u := by
        rw [hb2.cell k]
        have hl : ((zto zs).take k ++ List.replicate (64 - k) 0).length = 64 := by simp [zto_len]; omega
        exact ⟨_, bv_at _ k (by omega)⟩
      have hfr := hb2.frozen k
      obtain ⟨ad, u, rfl, -, hxo, hco⟩ := hsl.at1 hlt
      obtain ⟨hko, rfl⟩ := ints_at _ _ _ hxo
      have e0 : zigL[k] = (n : Int) := by rw [zigL_get, HN.out]
      rw [e0] at hco
      clear e0 hxo
      clear hn
      go_wp2_with fail
      go_roundw
      case rel =>
        refine ⟨k + 1, by omega, by go_num, hb1.far (p := ⟨go, k, none⟩) (by simpa using hne.symm) _, ?_, hbr.far (p := ⟨go, k, none⟩) (by simpa using hne2.symm) _, hsl.far (by intro ad' h; exact hnsl.out ad' h) _, hx.setCell hgo' _⟩
        have := hb2.set_ k (.int .i64 zs[n])
        rw [bv_set] at this
        have e := zto_set zs k hlt
        rw [HN.out, Int.toNat_natCast, HD.out] at e
        rw [← e]
        exact this
      case measure => simp [intOf]; omega
    · obtain rfl : k = 64 := by omega
      have e : (zto zs).take 64 ++ List.replicate (64 - 64) 0 = zto zs := by rw [List.take_of_length_le (by rw [zto_len]; omega)]; simp
      rw [e] at hb2
      clear e
      have hs : Hid ((bv (zto zs)).size = 64) := hid_ (by rw [bv_size, zto_len])
      have ho := hid_ (bv_one (zto zs))
      generalize hcr : bv (zto zs) = cr at *
      have HC := hid_ hcr
      clear hcr
      go_wp2_with (first
        | (refine wpList_load_blk rfl 24 (.tmp 3) rfl _ rfl hb2 _ Try.underlying24 rfl 64 size48 hs.out ?_)
        | (refine wpList_store_blk rfl 24 (.tmp 2) (.tmp 19) rfl _ _ rfl rfl hbr 64 size48 hs.out (by rw [bv_size]; rfl) ho.out ?_; intro w7 hb7 hg7))
      exact ret_cell rfl rfl _ rfl hb7 _ Try.underlying24 rfl 64 size48 hs.out ⟨by rw [HC.out], hx.grown hg7 hgr'⟩
set_option maxHeartbeats 400000 in
theorem zfrom_any (zs : List Int) (w : World) (hz : zs.length = 64) : Calls Try.prog 36 #[.agg (bv zs)] w fun e w' => e = .returned (.agg (bv (zfrom zs 64))) ∧ Ext w w' := by
  have HO := hid_ (fun W => order_any W)
  have HIX := hid_ (fun W (k n : Nat) (hk : k < 64) (hn : zigAt k = (n : Int)) => run_index47 (bv zigL) k (.int .i64 (n : Int)) hk (by rw [← hn, bv_at zigL k (by rw [zigL_len]; exact hk), zigL_get]) W)
  have HZ := hid_ hz
  generalize bv zigL = co at *
  generalize hc0 : bv zs = cz at *
  have HC0 := hid_ hc0
  clear hz hc0
  go_enter Try.func36, Try.ntmps36
  go_wp2_with (first
    | (refine wpList_box_abs rfl 24 (.tmp 0) rfl cz rfl ?_; intro w1 gz hbz1 hx1 hgz)
    | (refine wpList_alloc_abs' rfl (some 2) rfl 24 rfl _ zero48 ?_; intro w2 go hbo2 hx2 hgo; have hbz2 := hbz1.ext hx2)
    | (go_at_call 78; refine (HO.out _).mono ?_; rintro e w3 ⟨rfl, hx3⟩; have hbz := hbz2.ext hx3; have hbo := hbo2.ext hx3))
  have hne : go ≠ gz := by have := hbz1.lt; omega
  have hgo' : w.heap.size ≤ go := by have := hx1.size; omega
  have hxx := (hx1.trans hx2).trans hx3
  clear hbz1 hbz2 hbo2 hx1 hx2 hx3
  go_loopw [6] (fun i wr => ∃ k : Nat, k ≤ 64 ∧ i = .int .i64 k ∧ Blk wr gz 24 cz ∧ Blk wr go 24 (bv (zfrom zs k)) ∧ Ext w wr) (fun i _ => 64 - (intOf i).toNat)
  case atStart => exact ⟨0, by omega, rfl, hbz, hbo, hxx⟩
  case round =>
    obtain ⟨k, hk, rfl, hb1, hb2, hx⟩ := hrel
    by_cases hlt : k < 64
    · obtain ⟨n, hn, hn64⟩ := zigN k hlt
      have HN := hid_ hn
      have hzl : k < zs.length := by have := HZ.out; omega
      have HD : Hid (zs.getD k 0 = zs[k]) := hid_ (by simp [hzl])
      have hlz : wr.cell? ⟨gz, k, none⟩ = some (.int .i64 zs[k]) := (hb1.cell k).trans (by rw [← HC0.out]; exact bv_at zs k hzl)
      obtain ⟨old, hold⟩ : ∃ u, wr.cell? ⟨go, n, none⟩ = some u := by
        rw [hb2.cell n]
        have hl : (zfrom zs k).length = 64 := zfrom_len zs k
        exact ⟨_, bv_at _ n (by omega)⟩
      have hfr := hb2.frozen n
      have hix := fun W => HIX.out W k n hlt HN.out
      clear hn
      go_wp2_with fail
      go_roundw
      case rel =>
        refine ⟨k + 1, by omega, by go_num, hb1.far (p := ⟨go, n, none⟩) (by simpa using hne.symm) _, ?_, hx.setCell hgo' _⟩
        have := hb2.set_ n (.int .i64 zs[k])
        rw [bv_set] at this
        rw [zfrom_succ, HN.out, Int.toNat_natCast, HD.out]
        exact this
      case measure => simp [intOf]; omega
    · obtain rfl : k = 64 := by omega
      have hs : Hid ((bv (zfrom zs 64)).size = 64) := hid_ (by rw [bv_size, zfrom_len])
      have ho := hid_ (bv_one (zfrom zs 64))
      generalize hcr : bv (zfrom zs 64) = cr at *
      have HC := hid_ hcr
      clear hcr
      go_wp2_with (first
        | (refine wpList_load_blk rfl 24 (.tmp 2) rfl _ rfl hb2 _ Try.underlying24 rfl 64 size48 hs.out ?_)
        | (refine wpList_store_blk rfl 24 (.tmp 2) (.tmp 16) rfl _ _ rfl rfl hb2 64 size48 hs.out hs.out ho.out ?_; intro w7 hb7 hg7))
      exact ret_cell rfl rfl _ rfl hb7 _ Try.underlying24 rfl 64 size48 hs.out ⟨by rw [HC.out], hx.grown hg7 hgo'⟩
set_option maxHeartbeats 400000 in
theorem rzfrom_any (zs : List Int) (w : World) (hz : zs.length = 64) : Calls Try.prog 73 #[.agg (bv zs)] w fun e w' => e = .returned (.agg (bv (zfrom zs 64))) ∧ Ext w w' := by
  have HZ := hid_ hz
  generalize hc0 : bv zs = cz at *
  have HC0 := hid_ hc0
  clear hz hc0
  go_enter Try.func73, Try.ntmps73
  go_wp2_with (first
    | (refine wpList_box_abs rfl 24 (.tmp 0) rfl cz rfl ?_; intro w1 gz hbz1 hx1 hgz)
    | (refine wpList_alloc_abs' rfl (some 2) rfl 24 rfl _ zero48 ?_; intro w2 gr hbr2 hx2 hgr; have hbz2 := hbz1.ext hx2)
    | (refine wpList_alloc_abs' rfl (some 3) rfl 24 rfl _ zero48 ?_; intro w3 go hbo3 hx3 hgo; have hbz3 := hbz2.ext hx3; have hbr3 := hbr2.ext hx3)
    | (go_at_call 41; refine (rzigOrder_sl _).mono ?_; rintro e w4 ⟨A, c, rfl, hsl, hfs, hx4⟩; have hbz := hbz3.ext hx4; have hbo := hbo3.ext hx4; have hbr := hbr3.ext hx4))
  have hne : go ≠ gz := by have := hbz2.lt; omega
  have hne2 : go ≠ gr := by have := hbr2.lt; omega
  have hgo' : w.heap.size ≤ go := by have := hx1.size; have := hx2.size; omega
  have hgr' : w.heap.size ≤ gr := by have := hx1.size; omega
  have hxx := ((hx1.trans hx2).trans hx3).trans hx4
  have hnsl := hid_ (fun ad h => (show (ad : Addr).block ≠ go by have := hfs ad h; have := hbo3.lt; omega))
  clear hbz1 hbz2 hbz3 hbo3 hbr2 hbr3 hx1 hx2 hx3 hx4 hfs
  go_loopw [8] (fun i wr => ∃ k : Nat, k ≤ 64 ∧ i = .int .i64 k ∧ Blk wr gz 24 cz ∧ Blk wr go 24 (bv (zfrom zs k)) ∧ Blk wr gr 24 (bv zeros64) ∧ SL wr 1 (.slice A 64 c) 64 (ints zigL) ∧ Ext w wr) (fun i _ => 64 - (intOf i).toNat)
  case atStart => exact ⟨0, by omega, rfl, hbz, hbo, hbr, hsl, hxx⟩
  case round =>
    obtain ⟨k, hk, rfl, hb1, hb2, hbr, hsl, hx⟩ := hrel
    by_cases hlt : k < 64
    · obtain ⟨n, hn, hn64⟩ := zigN k hlt
      have HN := hid_ hn
      have hzl : k < zs.length := by have := HZ.out; omega
      have HD : Hid (zs.getD k 0 = zs[k]) := hid_ (by simp [hzl])
      have hlz : wr.cell? ⟨gz, k, none⟩ = some (.int .i64 zs[k]) := (hb1.cell k).trans (by rw [← HC0.out]; exact bv_at zs k hzl)
      obtain ⟨old, hold⟩ : ∃ u, wr.cell? ⟨go, n, none⟩ = some u := by
        rw [hb2.cell n]
        have hl : (zfrom zs k).length = 64 := zfrom_len zs k
        exact ⟨_, bv_at _ n (by omega)⟩
      have hfr := hb2.frozen n
      obtain ⟨ad, u, rfl, -, hxo, hco⟩ := hsl.at1 hlt
      obtain ⟨hko, rfl⟩ := ints_at _ _ _ hxo
      have e0 : zigL[k] = (n : Int) := by rw [zigL_get, HN.out]
      rw [e0] at hco
      clear e0 hxo
      clear hn
      go_wp2_with fail
      go_roundw
      case rel =>
        refine ⟨k + 1, by omega, by go_num, hb1.far (p := ⟨go, n, none⟩) (by simpa using hne.symm) _, ?_, hbr.far (p := ⟨go, n, none⟩) (by simpa using hne2.symm) _, hsl.far (by intro ad' h; exact hnsl.out ad' h) _, hx.setCell hgo' _⟩
        have := hb2.set_ n (.int .i64 zs[k])
        rw [bv_set] at this
        rw [zfrom_succ, HN.out, Int.toNat_natCast, HD.out]
        exact this
      case measure => simp [intOf]; omega
    · obtain rfl : k = 64 := by omega
      have hs : Hid ((bv (zfrom zs 64)).size = 64) := hid_ (by rw [bv_size, zfrom_len])
      have ho := hid_ (bv_one (zfrom zs 64))
      generalize hcr : bv (zfrom zs 64) = cr at *
      have HC := hid_ hcr
      clear hcr
      go_wp2_with (first
        | (refine wpList_load_blk rfl 24 (.tmp 3) rfl _ rfl hb2 _ Try.underlying24 rfl 64 size48 hs.out ?_)
        | (refine wpList_store_blk rfl 24 (.tmp 2) (.tmp 19) rfl _ _ rfl rfl hbr 64 size48 hs.out (by rw [bv_size]; rfl) ho.out ?_; intro w7 hb7 hg7))
      exact ret_cell rfl rfl _ rfl hb7 _ Try.underlying24 rfl 64 size48 hs.out ⟨by rw [HC.out], hx.grown hg7 hgr'⟩
end Go.Proofs.Ytkfdkkhhkciocaa
/- The element of a slice of bytes. -/
namespace Go.Proofs.Ytkfdkkhhkciocaa
set_option linter.unusedVariables false
set_option linter.unusedSimpArgs false
open Go.RowKit
theorem elt_by : Elt Try.prog 38 5 1 1 := ⟨Try.underlying38, by kernel_rfl, by omega⟩
end Go.Proofs.Ytkfdkkhhkciocaa
/- What Pack answers. -/
namespace Go.Proofs.Ytkfdkkhhkciocaa
set_option linter.unusedVariables false
set_option linter.unusedSimpArgs false
open Go.RowKit
def natI (ns : List Nat) : List Int := ns.map fun n : Nat => (n : Int)
theorem natI_len (ns : List Nat) : (natI ns).length = ns.length := by simp [natI]
theorem natI_of : ∀ (zs : List Int) (hi : Int), (∀ z ∈ zs, 0 ≤ z ∧ z ≤ hi) → ∃ ns : List Nat, zs = natI ns ∧ ∀ n ∈ ns, (n : Int) ≤ hi
  | [], _, _ => ⟨[], rfl, by simp⟩
  | z :: zs, hi, h => by
    obtain ⟨ns, e, hn⟩ := natI_of zs hi (fun y hy => h y (by simp [hy]))
    have hz := h z (by simp)
    refine ⟨z.toNat :: ns, ?_, ?_⟩
    · rw [e]; simp [natI]; omega
    · intro n hm
      rcases List.mem_cons.1 hm with rfl | hm
      · omega
      · exact hn n hm
theorem natI_at {ns : List Nat} {k : Nat} (h : k < ns.length) : (ints (natI ns))[k]? = some (.int .i64 ((ns[k] : Nat) : Int)) := by
  simp [ints, natI, h]
def tabN (cn xn : List Nat) : List Nat := cn.flatMap (fun n => [n / 256, n % 256]) ++ xn
def packN (wd hi pt ev : Nat) (qn cn1 xn1 cn2 xn2 bs : List Nat) : List Nat := [77, 90, wd, hi, pt, ev] ++ qn ++ (tabN cn1 xn1 ++ tabN cn2 xn2) ++ bs
theorem flat2_len (cn : List Nat) : (cn.flatMap (fun n => [n / 256, n % 256])).length = 2 * cn.length := by
  induction cn with
  | nil => rfl
  | cons n cn ih => simp only [List.flatMap_cons, List.length_append, ih, List.length_cons, List.length_nil]; omega
theorem tabN_len (cn xn : List Nat) : (tabN cn xn).length = 2 * cn.length + xn.length := by rw [tabN, List.length_append, flat2_len]
theorem flat2_snoc (cn : List Nat) (k : Nat) (h : k < cn.length) : (cn.take (k + 1)).flatMap (fun n => [n / 256, n % 256]) = (cn.take k).flatMap (fun n => [n / 256, n % 256]) ++ [cn[k] / 256, cn[k] % 256] := by
  rw [List.take_succ_eq_append_getElem h, List.flatMap_append]; rfl
theorem u8_wrap (n : Nat) : IntKind.u8.wrap (n : Int) = ((n % 256 : Nat) : Int) := by
  simp [IntKind.wrap, IntKind.signed, IntKind.bits]
theorem run_conv8p (n : Nat) (W : World) : (convert 3 5 (.int .i64 (n : Int))).run Try.prog W = .ok (.int .u8 ((n % 256 : Nat) : Int)) W := by
  simp [convert, run_underlying Try.underlying3, run_underlying Try.underlying5, Conv.intToInt, u8_wrap]
section
variable {o : Oper} {a : Act}
theorem ex_conv8 {x : Operand} (ho : o.op = .convert 3 5 x) {n : Nat} (hx : a.eval x = .int .i64 (n : Int)) (h : n < 256) (w : World) : (execOp a.eval o).run Try.prog w = .ok (.value (.int .u8 (n : Int))) w := by
  simp only [execOp, ho, hx, Sem.run_bind, run_conv8p, Result.andThen_ok, Sem.run_pure, Nat.mod_eq_of_lt h]
theorem ex_conv8m {x : Operand} (ho : o.op = .convert 3 5 x) {n : Nat} (hx : a.eval x = .int .i64 (n : Int)) (w : World) : (execOp a.eval o).run Try.prog w = .ok (.value (.int .u8 ((n % 256 : Nat) : Int))) w := by
  simp only [execOp, ho, hx, Sem.run_bind, run_conv8p, Result.andThen_ok, Sem.run_pure]
theorem ex_shr8 {x y : Operand} {t2 : TypeId} (ho : o.op = .binOp .shr 3 x y t2) {n : Nat} (hx : a.eval x = .int .i64 (n : Int)) (hy : a.eval y = .int .u64 8) (w : World) : (execOp a.eval o).run Try.prog w = .ok (.value (.int .i64 ((n / 256 : Nat) : Int))) w := by
  have e : (n : Int) >>> (8 : Nat) = ((n / 256 : Nat) : Int) := by rw [Int.shiftRight_eq_div_pow]; rfl
  have h8 : IntKind.i64.bits = 64 := rfl
  simp [execOp, ho, hx, hy, eqGuard, binOp, Op.shift, e, h8]
  exact Int.fdiv_eq_ediv_of_nonneg _ (by decide)
theorem ex_idx {t e : TypeId} {m : Nat} (ht : Try.prog.underlying t = some (.array m e)) {k : IntKind} (he : Try.prog.underlying e = some (.int k)) (hs : (Try.prog.info? e).map (·.size) = some 1) {x ix : Operand} (ho : o.op = .index t x ix) {cs : Array Value} {i : Nat} {u : Value} (hx : a.eval x = .agg cs) (hi : a.eval ix = .int .i64 (i : Int)) (h : i < m) (hu : cs[i]? = some u) (w : World) :
    (execOp a.eval o).run Try.prog w = .ok (.value u) w := by
  simp only [execOp, ho, hx, hi, Sem.run_bind, run_index_agg t e m cs i u ht k he hs h hu w, Result.andThen_ok, Sem.run_pure]
end
theorem mark_cells (w : World) (T : TypeId) (o : Obj) : CellsAt ((w.alloc (.cells #[.int .u8 77, .int .u8 90] T (2, 3))).alloc o) ⟨w.heap.size, 0, none⟩ (bytesV [77, 90]) := by
  intro j u hu
  have hj : j = 0 ∨ j = 1 := by have := (List.getElem?_eq_some_iff.1 hu).1; simp [bytesV] at this; omega
  rw [addr_add, ((Ext.refl (w.alloc (.cells #[.int .u8 77, .int .u8 90] T (2, 3)))).alloc o).cell (p := ⟨w.heap.size, 0 + j, none⟩) (by simp), World.cell?_alloc_mark]
  rcases hj with rfl | rfl <;> simpa [bytesV] using hu
theorem cells_sl (w : World) (T : TypeId) (cs : List Value) (n : Nat) (hn : cs.length = n) (h : n ≤ 1000) : SL (w.alloc (.cells cs.toArray T)) 1 (.slice (some ⟨w.heap.size, 0, none⟩) n n) n cs := by
  have := (Blk.new w T cs.toArray).sl (size := 1) (n := n) (c := n) (by simp [hn]) (by omega) (by omega)
  simpa using this
theorem cells_sl' (w : World) (T : TypeId) (cs : List Value) (n N : Nat) (hN : w.heap.size = N) (hn : cs.length = n) (h : n ≤ 1000) : SL (w.alloc (.cells cs.toArray T)) 1 (.slice (some ⟨N, 0, none⟩) n n) n cs := by
  subst hN
  exact cells_sl w T cs n hn h
theorem own_blk {w : World} {g base size n : Nat} {T e : TypeId} {cs : Array Value} {v : Value} {xs : List Value} (h : Blk w g T cs) (ho : w.ownsRow base e size v n xs) (hne : T ≠ e) : some g ≠ v.ownBlock := by
  obtain ⟨-, hh⟩ := ho
  rcases hh with ⟨rfl, -⟩ | ⟨k, cap, cur, rfl, -, hg, -⟩
  · simp [Value.ownBlock]
  · intro e1
    have : g = k := by simpa [Value.ownBlock] using e1
    subst this
    exact (h.ne_ (g' := g) (cs' := cur) hg hne) rfl
theorem ext_own {a w w' : World} {e size n : Nat} {v : Value} {xs : List Value} (hx : Ext a w) (ho : w.ownsRow a.heap.size e size v n xs) (hg : w.grownBy w' v.ownBlock) : Ext a w' :=
  Below.grown hx hg hx.size (fun k hk => (ho.lt k hk).1)
theorem ext_own' {a w w' : World} {e size n : Nat} {v : Value} {xs : List Value} {o : Obj} (hx : Ext a w) (ho : w.ownsRow a.heap.size e size v n xs) (hg : (w.alloc o).grownBy w' v.ownBlock) : Ext a w' :=
  ext_own (hx.alloc o) (ho.alloc o) hg
theorem own_made {w : World} {base : Nat} (e : TypeId) (cs : List Value) (n : Nat) (hn : cs.length = n) (hn2 : n ≤ 1000) (hb : base ≤ w.heap.size) :
    (w.alloc (.cells cs.toArray e)).ownsRow base e 1 (.slice (some ⟨w.heap.size, 0, none⟩) n n) n cs :=
  ⟨by simpa using hn, .inr ⟨w.heap.size, n, cs.toArray, rfl, hb, heap_alloc_new w _, by omega, by unfold maxLen; omega, by simp [hn], by simp [← hn]⟩⟩
theorem zero48c : (Value.agg (bv zeros64)).cells.size = 64 := by rw [show (Value.agg (bv zeros64)).cells = bv zeros64 from rfl, bv_size]; rfl
theorem byte_one (l : List Nat) : ∀ u ∈ bytesV l, u.oneCell' = true := by
  intro u hu
  obtain ⟨z, -, rfl⟩ := List.mem_map.1 hu
  rfl
theorem bytesV_app (a b : List Nat) : bytesV (a ++ b) = bytesV a ++ bytesV b := by simp [bytesV]
theorem own_base {w : World} {B B' : Nat} {e : TypeId} {size n : Nat} {v : Value} {xs : List Value} (h : w.ownsRow B e size v n xs) (hb : B' ≤ B) : w.ownsRow B' e size v n xs := by
  obtain ⟨hl, hh⟩ := h
  refine ⟨hl, ?_⟩
  rcases hh with ⟨rfl, rfl⟩ | ⟨g, cap, cur, rfl, h1, h2⟩
  · exact .inl ⟨rfl, rfl⟩
  · exact .inr ⟨g, cap, cur, rfl, by omega, h2⟩
theorem elt_info (P : Program) {t e : TypeId} {size bytes : Nat} (h : Elt P t e size bytes) : ∃ i z, P.info? e = some i ∧ i.zero = some z ∧ i.size = size ∧ i.bytes = bytes ∧ z.cells.size = size := by
  obtain ⟨-, hi, -⟩ := h
  cases hq : P.info? e with
  | none => simp [hq] at hi
  | some i =>
    cases hz : i.zero with
    | none => simp [hq, hz] at hi
    | some z =>
      simp [hq, hz] at hi
      exact ⟨i, z, rfl, hz, hi.2.1, hi.2.2, hi.1⟩
/-- append that must grow, of a slice read by cells -/
theorem wpList_append_new {P : Program} {w : World} {ops : Array Oper} {rest : List Oper} {o : Oper} {a : Act} {Q : Exit → Act → World → Prop} {t e : TypeId} {size bytes : Nat} (he : Elt P t e size bytes) (hg : o.guard = none) (s x : Operand)
    (ho : o.op = .call { callee := .builtin .append, args := #[s, x], argTypes := #[t, t] }) (n : Nat) (b : Addr) (olds : List Value) (hs : a.eval s = .slice (some b) n n) (hlo : olds.length = n * size) (holds : CellsAt w b olds)
    (u : Value) (m : Nat) (news : List Value) (hx : a.eval x = u) (hr : SL w size u m news) (h1 : ∀ u ∈ news, u.oneCell' = true) (hm : 0 < m) (h63 : n + m ≤ 9223372036854775807) (hbytes : (n + m) * bytes ≤ 140737488355328)
    (h : ∀ v' w', w'.ownsRow w.heap.size e size v' (n + m) (olds ++ news) → Ext w w' → wpList P ops Q rest (a.put o.dst v') w') : wpList P ops Q (o :: rest) a w := by
  obtain ⟨i, z, hi, hz, hsz, hby, hzs⟩ := elt_info P he
  obtain ⟨A, c, rfl, -, -, hl, hc⟩ := hr
  obtain ⟨ad, rfl, -, hcc⟩ := hc hm
  refine wpList_append_grows w hg s x t ho e i z size bytes he.ht hi hz hsz hby hzs he.hsz (some b) n n olds hs (fun h => by cases h) hlo (fun b' hb j u hu => by injection hb with hb; subst hb; exact holds j u hu) ad m c news hx hl hcc h1 (by omega) (by unfold maxLen; omega) hbytes (fun v' w' h2 h3 => h v' w' h2 ?_)
  exact (Below.refl _ w).grown h3 (Nat.le_refl _) (fun k hk => by cases hk)
end Go.Proofs.Ytkfdkkhhkciocaa
