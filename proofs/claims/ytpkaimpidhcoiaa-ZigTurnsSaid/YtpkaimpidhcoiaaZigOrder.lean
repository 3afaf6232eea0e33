/- zig.order, zig.Order, ZigOrder of the reference. -/
import Derived.Test.YtpkaimpidhcoiaaBlocks
import Derived.Test.YtpkaimpidhcoiaaZigMath
import Derived.Test.YtpkaimpidhcoiaaAppend
namespace Go.Proofs.Ytpkaimpidhcoiaa
set_option linter.unusedVariables false
set_option linter.unusedSimpArgs false
open Go.RowKit
theorem size47 : (Try.prog.info? 26).map (·.size) = some 64 := by kernel_rfl
theorem zero47 : (Try.prog.info? 26).bind (·.zero) = some (.agg (bv (List.replicate 64 0))) := by kernel_rfl
theorem elt_int : Elt Try.prog 42 3 1 8 := ⟨Try.underlying42, by kernel_rfl, by omega⟩
theorem zord_set (k : Nat) (h : k < 64) (z : Int) : (zigL.take k ++ List.replicate (64 - k) 0).set k z = zigL.take k ++ [z] ++ List.replicate (64 - (k + 1)) 0 := by
  have hl : (zigL.take k).length = k := by rw [List.length_take, zigL_len]; omega
  rw [List.set_append_right _ _ (by omega), hl, Nat.sub_self]
  obtain ⟨m, hm⟩ : ∃ m, 64 - k = m + 1 := ⟨64 - k - 1, by omega⟩
  have hm2 : 64 - (k + 1) = m := by omega
  rw [hm, hm2, List.replicate_succ, List.set_cons_zero]
  simp
theorem tup {s : Int × Int × Bool} {a b : Int} {c : Bool} (h : s = (a, b, c)) : s.1 = a ∧ s.2.1 = b ∧ s.2.2 = c := by subst h; exact ⟨rfl, rfl, rfl⟩
set_option maxHeartbeats 800000 in
theorem order_any (w : World) : Calls Try.prog 23 #[] w fun e w' => e = .returned (.agg (bv zigL)) ∧ Ext w w' := by
  go_enter Try.func23, Try.ntmps23
  go_wp2_with (refine wpList_alloc_abs rfl 26 rfl _ zero47 ?_; intro w1 g hb1 hx1 hg)
  go_loopw [1, 2, 3, 5] (fun r c u i wr => ∃ k : Nat, k ≤ 64 ∧ i = .int .i64 k ∧ r = .int .i64 (zst k).1 ∧ c = .int .i64 (zst k).2.1 ∧ u = .bool (zst k).2.2 ∧ Blk wr g 26 (bv (zigL.take k ++ List.replicate (64 - k) 0)) ∧ Ext w wr) (fun _ _ _ i _ => 64 - (intOf i).toNat)
  case atStart => exact ⟨0, by omega, rfl, rfl, rfl, rfl, hb1, hx1⟩
  case round =>
    obtain ⟨k, hk, rfl, rfl, rfl, rfl, hb, hx⟩ := hrel
    by_cases hlt : k < 64
    · obtain ⟨b1, b2, b3, b4⟩ := zst_bd k hlt
      have HS : Hid (zst (k + 1) = zstep (zst k)) := hid_ rfl
      have HZ : Hid (zigAt k = 8 * (zst k).1 + (zst k).2.1) := hid_ rfl
      obtain ⟨old, hold⟩ : ∃ u, wr.cell? ⟨g, k, none⟩ = some u := by
        rw [hb.cell k]
        exact ⟨_, bv_at _ k (by simp [zigL_len]; omega)⟩
      have hfr := hb.frozen k
      have hnew := hid_ (hb.set_ k (.int .i64 (8 * (zst k).1 + (zst k).2.1)))
      generalize hst : zst k = st at *
      obtain ⟨r, c, u⟩ := st
      have HST := hid_ hst
      clear hst
      simp only at b1 b2 b3 b4 HZ hnew
      have fin : ∀ (a b : Int) (d : Bool), zstep (r, c, u) = (a, b, d) → zst (k + 1) = (a, b, d) := fun a b d h => by rw [HS.out, h]
      have FIN := hid_ fin
      have hblk : Hid (Blk (wr.setCell ⟨g, k, none⟩ (.int .i64 (8 * r + c))) g 26 (bv (zigL.take (k + 1) ++ List.replicate (64 - (k + 1)) 0))) := by
        have := hnew.out
        rw [bv_set, zord_set k hlt] at this
        rw [zigL_take_succ k hlt, HZ.out]
        exact this
      have hxx := hid_ (hx.setCell (p := ⟨g, k, none⟩) hg (.int .i64 (8 * r + c)))
      clear fin hnew hb hx
      cases u with
      | true =>
        by_cases h7 : c = 7
        · obtain ⟨f1, f2, f3⟩ := tup (FIN.out (r + 1) c false (by simp [zstep, h7]))
          have F := hid_ f1; have F2 := hid_ f2; have F3 := hid_ f3
          have h7' : (c == 7) = true := by simpa using h7
          clear f1 f2 f3 h7
          go_wp2_with fail
          go_roundw
          case rel => exact ⟨k + 1, by omega, by go_num, by rw [F.out], by rw [F2.out], by rw [F3.out], hblk.out, hxx.out⟩
          case measure => simp [intOf]; omega
        · have h7' : (c == 7) = false := by simpa using h7
          by_cases h0 : r = 0
          · obtain ⟨f1, f2, f3⟩ := tup (FIN.out r (c + 1) false (by simp [zstep, h7, h0]))
            have F := hid_ f1; have F2 := hid_ f2; have F3 := hid_ f3
            have h0' : (r == 0) = true := by simpa using h0
            clear f1 f2 f3 h7 h0
            go_wp2_with fail
            go_roundw
            case rel => exact ⟨k + 1, by omega, by go_num, by rw [F.out], by rw [F2.out], by rw [F3.out], hblk.out, hxx.out⟩
            case measure => simp [intOf]; omega
          · obtain ⟨f1, f2, f3⟩ := tup (FIN.out (r - 1) (c + 1) true (by simp [zstep, h7, h0]))
            have F := hid_ f1; have F2 := hid_ f2; have F3 := hid_ f3
            have h0' : (r == 0) = false := by simpa using h0
            clear f1 f2 f3 h7 h0
            go_wp2_with fail
            go_roundw
            case rel => exact ⟨k + 1, by omega, by go_num, by rw [F.out], by rw [F2.out], by rw [F3.out], hblk.out, hxx.out⟩
            case measure => simp [intOf]; omega
      | false =>
        by_cases h7 : r = 7
        · obtain ⟨f1, f2, f3⟩ := tup (FIN.out r (c + 1) true (by simp [zstep, h7]))
          have F := hid_ f1; have F2 := hid_ f2; have F3 := hid_ f3
          have h7' : (r == 7) = true := by simpa using h7
          clear f1 f2 f3 h7
          go_wp2_with fail
          go_roundw
          case rel => exact ⟨k + 1, by omega, by go_num, by rw [F.out], by rw [F2.out], by rw [F3.out], hblk.out, hxx.out⟩
          case measure => simp [intOf]; omega
        · have h7' : (r == 7) = false := by simpa using h7
          by_cases h0 : c = 0
          · obtain ⟨f1, f2, f3⟩ := tup (FIN.out (r + 1) c true (by simp [zstep, h7, h0]))
            have F := hid_ f1; have F2 := hid_ f2; have F3 := hid_ f3
            have h0' : (c == 0) = true := by simpa using h0
            clear f1 f2 f3 h7 h0
            go_wp2_with fail
            go_roundw
            case rel => exact ⟨k + 1, by omega, by go_num, by rw [F.out], by rw [F2.out], by rw [F3.out], hblk.out, hxx.out⟩
            case measure => simp [intOf]; omega
          · obtain ⟨f1, f2, f3⟩ := tup (FIN.out (r + 1) (c - 1) false (by simp [zstep, h7, h0]))
            have F := hid_ f1; have F2 := hid_ f2; have F3 := hid_ f3
            have h0' : (c == 0) = false := by simpa using h0
            clear f1 f2 f3 h7 h0
            go_wp2_with fail
            go_roundw
            case rel => exact ⟨k + 1, by omega, by go_num, by rw [F.out], by rw [F2.out], by rw [F3.out], hblk.out, hxx.out⟩
            case measure => simp [intOf]; omega
    · obtain rfl : k = 64 := by omega
      have hs : Hid ((bv zigL).size = 64) := hid_ (by rw [bv_size, zigL_len])
      have ho := hid_ (bv_one zigL)
      have e : zigL.take 64 ++ List.replicate (64 - 64) 0 = zigL := by rw [List.take_of_length_le (by rw [zigL_len]; omega)]; simp
      rw [e] at hb
      clear e
      generalize hcz : bv zigL = cz at *
      have HCZ := hid_ hcz
      clear hcz
      go_wp2_with (first
        | (refine wpList_load_blk rfl 26 (.tmp 0) rfl _ rfl hb _ Try.underlying26 rfl 64 size47 hs.out ?_)
        | (refine wpList_store_blk rfl 26 (.tmp 0) (.tmp 51) rfl _ _ rfl rfl hb 64 size47 hs.out hs.out ho.out ?_; intro w7 hb7 hg7))
      exact ret_cell rfl rfl _ rfl hb7 _ Try.underlying26 rfl 64 size47 hs.out ⟨by rw [HCZ.out], hx.grown hg7 hg⟩
set_option maxHeartbeats 800000 in
theorem rzigOrder_own (w : World) : Calls Try.prog 24 #[] w fun e w' => ∃ v, e = .returned v ∧ w'.ownsRow w.heap.size 3 1 v 64 (ints zigL) ∧ Ext w w' := by
  go_enter Try.func24, Try.ntmps24
  go_wp2_with fail
  go_loopw [1, 6] (fun v i wr => ∃ s : Nat, s ≤ 15 ∧ i = .int .i64 s ∧ wr.ownsRow w.heap.size 3 1 v (zall s).length (ints (zall s)) ∧ Ext w wr) (fun _ i _ => 15 - (intOf i).toNat)
  case atStart => exact ⟨0, by omega, rfl, World.ownsRow_nil _ _ _ _, Ext.refl w⟩
  case round =>
    obtain ⟨s, hs, rfl, hown, hx⟩ := hrel
    by_cases hlt : s < 15
    · have hsd : decide ((s : Int) < 15) = true := by simp; omega
      go_wp2_with fail
      obtain ⟨wo, rfl⟩ : ∃ wo : World, wo = wr := ⟨_, rfl⟩
      go_loopw [1, 9] (fun v i wr => ∃ k : Nat, k ≤ 8 ∧ i = .int .i64 k ∧ wr.ownsRow w.heap.size 3 1 v (zall s ++ zrow s k).length (ints (zall s ++ zrow s k)) ∧ Ext w wr) (fun _ i _ => 8 - (intOf i).toNat)
      case atStart => exact ⟨0, by omega, rfl, by simpa [zrow] using hown, hx⟩
      case round =>
        obtain ⟨k, hk, rfl, hown2, hx2⟩ := hrel
        by_cases hlk : k < 8
        · have hzl := zlen s k hs hk
          have hlen : (ints (zall s ++ zrow s k)).length = (zall s ++ zrow s k).length := ints_len _
          have HZ := hid_ (zrow_succ s k)
          by_cases hp : s % 2 = 0
          · have hp' : ((s : Int) % 2 == 0) = true := by simp; omega
            rw [if_pos hp] at HZ
            cases hq : inB ((s : Int) - (7 - (k : Int))) 0 7 with
            | true =>
              have hin := inB_iff.1 hq
              have HZ2 := hid_ (HZ.out.trans (by rw [if_pos hin]))
              clear HZ hin hp hlen
              go_wp2_with (first
                | (go_at_call 33; refine (outside_any _ _ _ _).mono ?_; rintro e w' ⟨rfl, rfl⟩)
                | (at_builtin; go_must (refine wpList_append_sl elt_int rfl _ _ rfl w.heap.size _ _ _ rfl (hown2.alloc _) _ 1 [.int .i64 _] rfl (one_sl _ _ _) (int_one _) (by omega) (by omega) (by have := hx2.size; simp; omega) ?_); intro v' w7 hown7 hb7))
              go_roundw
              case rel =>
                refine ⟨k + 1, by omega, by go_num, ?_, (hx2.alloc _).trans' hb7⟩
                rw [HZ2.out, ← List.append_assoc]
                exact own_snoc hown7
              case measure => simp [intOf]; omega
            | false =>
              have hin := inB_not.1 hq
              have HZ2 := hid_ (HZ.out.trans (by rw [if_neg (by omega)]))
              clear HZ hin hp hlen
              go_wp2_with (go_at_call 33; refine (outside_any _ _ _ _).mono ?_; rintro e w' ⟨rfl, rfl⟩)
              go_roundw
              case rel => exact ⟨k + 1, by omega, by go_num, by rw [HZ2.out, List.append_nil]; exact hown2, hx2⟩
              case measure => simp [intOf]; omega
          · have hp' : ((s : Int) % 2 == 0) = false := by simp; omega
            rw [if_neg hp] at HZ
            cases hq : inB ((s : Int) - (k : Int)) 0 7 with
            | true =>
              have hin := inB_iff.1 hq
              have HZ2 := hid_ (HZ.out.trans (by rw [if_pos hin]))
              clear HZ hin hp hlen
              go_wp2_with (first
                | (go_at_call 33; refine (outside_any _ _ _ _).mono ?_; rintro e w' ⟨rfl, rfl⟩)
                | (at_builtin; go_must (refine wpList_append_sl elt_int rfl _ _ rfl w.heap.size _ _ _ rfl (hown2.alloc _) _ 1 [.int .i64 _] rfl (one_sl _ _ _) (int_one _) (by omega) (by omega) (by have := hx2.size; simp; omega) ?_); intro v' w7 hown7 hb7))
              go_roundw
              case rel =>
                refine ⟨k + 1, by omega, by go_num, ?_, (hx2.alloc _).trans' hb7⟩
                rw [HZ2.out, ← List.append_assoc]
                exact own_snoc hown7
              case measure => simp [intOf]; omega
            | false =>
              have hin := inB_not.1 hq
              have HZ2 := hid_ (HZ.out.trans (by rw [if_neg (by omega)]))
              clear HZ hin hp hlen
              go_wp2_with (go_at_call 33; refine (outside_any _ _ _ _).mono ?_; rintro e w' ⟨rfl, rfl⟩)
              go_roundw
              case rel => exact ⟨k + 1, by omega, by go_num, by rw [HZ2.out, List.append_nil]; exact hown2, hx2⟩
              case measure => simp [intOf]; omega
        · obtain rfl : k = 8 := by omega
          have HS := hid_ (zall_succ s)
          go_wp2_with fail
          go_roundw
          case rel => exact ⟨s + 1, by omega, by go_num, by rw [HS.out]; exact hown2, hx2⟩
          case measure => simp [intOf]; omega
    · obtain rfl : s = 15 := by omega
      rw [zall_15] at hown
      rw [zigL_len] at hown
      have HSL := hid_ hown
      clear hown
      go_wp2_with fail
      go_ret
      exact ⟨_, rfl, HSL.out, hx⟩
theorem rzigOrder_any (w : World) : Calls Try.prog 24 #[] w fun e w' => ∃ v, e = .returned v ∧ SL w' 1 v 64 (ints zigL) ∧ Ext w w' :=
  (rzigOrder_own w).mono fun _ _ ⟨v, he, hs, hx⟩ => ⟨v, he, own_sl hs, hx⟩
theorem rzigOrder_sl (w : World) : Calls Try.prog 24 #[] w fun e w' => ∃ A c, e = .returned (.slice A 64 c) ∧ SL w' 1 (.slice A 64 c) 64 (ints zigL) ∧ (∀ ad, A = some ad → w.heap.size ≤ ad.block) ∧ Ext w w' :=
  (rzigOrder_own w).mono fun e w' ⟨v, he, hs, hx⟩ => by
    obtain ⟨A, c, rfl, h1, h2⟩ := own_form hs
    exact ⟨A, c, he, h1, h2, hx⟩
theorem run_index47 (cs : Array Value) (i : Nat) (u : Value) (hi : i < 64) (hu : cs[i]? = some u) (w : World) : (Instr.index 26 (.agg cs) (.int .i64 (i : Int))).run Try.prog w = .ok u w :=
  run_index_agg _ _ 64 cs i u Try.underlying26 _ Try.underlying3 sizeInt hi hu w
theorem zigN (k : Nat) (h : k < 64) : ∃ n : Nat, zigAt k = (n : Int) ∧ n < 64 := by
  have := zigAt_bd k h
  exact ⟨(zigAt k).toNat, by omega, by omega⟩
end Go.Proofs.Ytpkaimpidhcoiaa
