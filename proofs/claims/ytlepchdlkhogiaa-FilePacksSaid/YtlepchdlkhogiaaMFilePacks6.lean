/- Contracts for the law FilePacks, part 6: what the functions that it reaches answer, for all arguments that the theorems name. -/
import Derived.Test.YtlepchdlkhogiaaMFilePacks1
import Derived.Test.YtlepchdlkhogiaaMFilePacks2
import Derived.Test.YtlepchdlkhogiaaMFilePacks4
import Derived.Test.YtlepchdlkhogiaaMFilePacks5
import Derived.WalkKit
import Derived.Test.YtlepchdlkhogiaaMFilePacks3
import Derived.Great.Walk
/- The walk of the law FileChecks. -/
namespace Go.Proofs.Ytlepchdlkhogiaa
set_option linter.unusedVariables false
set_option linter.unusedSimpArgs false
open Go.RowKit
theorem tblL_one (cs : List Int) (sl : Value) (h : ∃ A n c, sl = .slice A n c) : (tblL cs sl).toArray.all (·.oneCell') = true := by
  obtain ⟨A, n, c, rfl⟩ := h
  refine all_oneCell_toArray fun v hv => ?_
  unfold tblL at hv
  rcases List.mem_append.1 hv with hv | hv
  · obtain ⟨z, -, rfl⟩ := List.mem_map.1 hv
    rfl
  · rw [List.mem_singleton.1 hv]
    rfl
theorem argsOK_iff {wd hi pt ev : Int} (h : argsOK wd hi pt ev = true) : inB wd 1 64 = true ∧ inB hi 1 64 = true ∧ inB ev 0 100 = true ∧ (pt = 1 ∨ pt = 3) := by
  unfold argsOK at h
  simp only [Bool.and_eq_true, Bool.or_eq_true, beq_iff_eq] at h
  exact ⟨h.1.1.1, h.1.1.2, h.2, h.1.2⟩
theorem fcheck_any (wd hi pt ev : Int) (qs cs1 xs1 : List Int) (s1 : Value) (cs2 xs2 : List Int) (s2 : Value) (bs : List Nat) (sd : Value) (w : World) (hq : qs.length = 64) (h1 : cs1.length = 16) (h2 : cs2.length = 16)
    (hs1 : SL w 1 s1 xs1.length (ints xs1)) (hs2 : SL w 1 s2 xs2.length (ints xs2)) (hsd : SL w 1 sd bs.length (bytesV bs)) :
    Calls Try.prog 23 #[.agg (fileL wd hi pt qs (tblL cs1 s1) (tblL cs2 s2) ev sd).toArray] w fun e w' => e = .returned (.int .i64 (fcheckZ wd hi pt qs (checkZ cs1 xs1) (checkZ cs2 xs2) ev bs.length)) ∧ Ext w w' := by
  have o1 := tblL_one cs1 s1 (let ⟨A, c, h, _⟩ := hs1; ⟨A, _, c, h⟩)
  have o2 := tblL_one cs2 s2 (let ⟨A, c, h, _⟩ := hs2; ⟨A, _, c, h⟩)
  obtain ⟨A, c, rfl, -⟩ := hsd
  have l1 := tblL_len cs1 s1 h1
  have l2 := tblL_len cs2 s2 h2
  unfold fcheckZ
  cases ha : argsOK wd hi pt ev with
  | false => exact fcheck_no wd hi pt ev qs _ _ _ w hq l1 l2 ha
  | true =>
    obtain ⟨k1, k2, k3, hp⟩ := argsOK_iff ha
    cases kq : allIn qs 1 255 with
    | false =>
      rcases hp with rfl | rfl
      · exact fcheck_y1f wd hi ev qs _ _ A _ c 0 0 w hq l1 l2 k1 k2 k3 kq
      · exact fcheck_y3f wd hi ev qs _ _ A _ c 0 0 w hq l1 l2 k1 k2 k3 kq
    | true =>
      rcases hp with rfl | rfl
      · exact fcheck_y1t wd hi ev qs _ _ A _ c _ _ w hq l1 l2 k1 k2 k3 kq o1 o2 (fun W hW => check_any cs1 xs1 s1 W h1 (hs1.ext hW)) (fun W hW => check_any cs2 xs2 s2 W h2 (hs2.ext hW))
      · exact fcheck_y3t wd hi ev qs _ _ A _ c _ _ w hq l1 l2 k1 k2 k3 kq o1 o2 (fun W hW => check_any cs1 xs1 s1 W h1 (hs1.ext hW)) (fun W hW => check_any cs2 xs2 s2 W h2 (hs2.ext hW))
theorem rfcheck_any (wd hi pt ev : Int) (qs cs1 xs1 : List Int) (s1 : Value) (cs2 xs2 : List Int) (s2 : Value) (bs : List Nat) (sd : Value) (w : World) (hq : qs.length = 64) (h1 : cs1.length = 16) (h2 : cs2.length = 16)
    (hs1 : SL w 1 s1 xs1.length (ints xs1)) (hs2 : SL w 1 s2 xs2.length (ints xs2)) (hsd : SL w 1 sd bs.length (bytesV bs)) :
    Calls Try.prog 43 #[.agg (fileL wd hi pt qs (tblL cs1 s1) (tblL cs2 s2) ev sd).toArray] w fun e w' => e = .returned (.int .i64 (fcheckZ wd hi pt qs (checkZ cs1 xs1) (checkZ cs2 xs2) ev bs.length)) ∧ Ext w w' := by
  have o1 := tblL_one cs1 s1 (let ⟨A, c, h, _⟩ := hs1; ⟨A, _, c, h⟩)
  have o2 := tblL_one cs2 s2 (let ⟨A, c, h, _⟩ := hs2; ⟨A, _, c, h⟩)
  obtain ⟨A, c, rfl, -⟩ := hsd
  have l1 := tblL_len cs1 s1 h1
  have l2 := tblL_len cs2 s2 h2
  unfold fcheckZ
  cases ha : argsOK wd hi pt ev with
  | false => exact rfcheck_no wd hi pt ev qs _ _ _ w hq l1 l2 ha
  | true =>
    obtain ⟨k1, k2, k3, hp⟩ := argsOK_iff ha
    cases kq : allIn qs 1 255 with
    | false =>
      rcases hp with rfl | rfl
      · exact rfcheck_y1f wd hi ev qs _ _ A _ c 0 0 w hq l1 l2 k1 k2 k3 kq
      · exact rfcheck_y3f wd hi ev qs _ _ A _ c 0 0 w hq l1 l2 k1 k2 k3 kq
    | true =>
      rcases hp with rfl | rfl
      · exact rfcheck_y1t wd hi ev qs _ _ A _ c _ _ w hq l1 l2 k1 k2 k3 kq o1 o2 (fun W hW => rcheck_any cs1 xs1 s1 W h1 (hs1.ext hW)) (fun W hW => rcheck_any cs2 xs2 s2 W h2 (hs2.ext hW))
      · exact rfcheck_y3t wd hi ev qs _ _ A _ c _ _ w hq l1 l2 k1 k2 k3 kq o1 o2 (fun W hW => rcheck_any cs1 xs1 s1 W h1 (hs1.ext hW)) (fun W hW => rcheck_any cs2 xs2 s2 W h2 (hs2.ext hW))
theorem builtFile : ∃ fz, Try.prog.built 50 [] = some fz ∧ ∀ W, Calls Try.prog 23 #[.agg fz] W fun e W' => e = .returned (.int .i64 1) ∧ Ext W W' :=
  ⟨(fileL 0 0 0 (List.replicate 64 0) (tblL (List.replicate 16 0) (.slice none 0 0)) (tblL (List.replicate 16 0) (.slice none 0 0)) 0 (.slice none 0 0)).toArray, by kernel_rfl, fun W => fcheck_no 0 0 0 0 _ _ _ _ W rfl rfl rfl rfl⟩
theorem lx_build0 {P : Program} {md : Region.Mode} {ops : Array Oper} {R : World → World → Prop} {Q : Exit → Act → World → Prop} {rest : List Oper} {o : Oper} {k : Nat} {listed : Array Bool} {a : Act} {wc : World} (hw : Region.wanted o (yielded ops a.tmps) = true) (t : TypeId) (ho : o.op = .build t #[])
    (cs : Array Value) (hf : P.built t [] = some cs) (h : wpLx P md ops R Q rest (k + 1) (listed.setIfInBounds k true) (a.put o.dst (.agg cs)) wc) : wpLx P md ops R Q (o :: rest) k listed a wc := by
  refine lx_run hw (.agg cs) (fun w => ?_) h
  unfold execOp
  simp only [ho, Sem.run_bind, run_build w t (#[].map fun (i, x) => (i, a.eval x)) cs (by simpa using hf), Result.andThen_ok]
  rfl
end Go.Proofs.Ytlepchdlkhogiaa
/- The zigzag order, in plain words. -/
namespace Go.Proofs.Ytlepchdlkhogiaa
set_option linter.unusedVariables false
set_option linter.unusedSimpArgs false
def zstep (s : Int × Int × Bool) : Int × Int × Bool :=
  if s.2.2 then (if s.2.1 = 7 then (s.1 + 1, s.2.1, false) else if s.1 = 0 then (s.1, s.2.1 + 1, false) else (s.1 - 1, s.2.1 + 1, true))
  else (if s.1 = 7 then (s.1, s.2.1 + 1, true) else if s.2.1 = 0 then (s.1 + 1, s.2.1, true) else (s.1 + 1, s.2.1 - 1, false))
def zst : Nat → Int × Int × Bool
  | 0 => (0, 0, true)
  | k + 1 => zstep (zst k)
def zigAt (k : Nat) : Int := 8 * (zst k).1 + (zst k).2.1
def zigL : List Int := (List.range 64).map zigAt
theorem zst_bd (k : Nat) (h : k < 64) : 0 ≤ (zst k).1 ∧ (zst k).1 ≤ 7 ∧ 0 ≤ (zst k).2.1 ∧ (zst k).2.1 ≤ 7 :=
  (by decide +kernel : ∀ j : Fin 64, 0 ≤ (zst j.val).1 ∧ (zst j.val).1 ≤ 7 ∧ 0 ≤ (zst j.val).2.1 ∧ (zst j.val).2.1 ≤ 7) ⟨k, h⟩
theorem zigL_len : zigL.length = 64 := by simp [zigL]
theorem zigL_take_succ (k : Nat) (h : k < 64) : zigL.take (k + 1) = zigL.take k ++ [zigAt k] := by
  rw [List.take_succ_eq_append_getElem (by rw [zigL_len]; exact h)]
  simp [zigL]
theorem zigL_get (k : Nat) (h : k < zigL.length) : zigL[k] = zigAt k := by simp [zigL]
theorem zigAt_bd (k : Nat) (h : k < 64) : 0 ≤ zigAt k ∧ zigAt k < 64 := by
  have := zst_bd k h
  unfold zigAt
  omega
/-- the reference's row k of a slant -/
def zrow (s k : Nat) : List Int := (List.range k).filterMap fun (j : Nat) =>
  let r : Int := if s % 2 = 0 then 7 - (j : Int) else (j : Int)
  if 0 ≤ (s : Int) - r ∧ (s : Int) - r ≤ 7 then some (8 * r + (s - r)) else none
theorem zrow_succ (s k : Nat) : zrow s (k + 1) = zrow s k ++ (if 0 ≤ (s : Int) - (if s % 2 = 0 then 7 - (k : Int) else k) ∧ (s : Int) - (if s % 2 = 0 then 7 - (k : Int) else k) ≤ 7 then [8 * (if s % 2 = 0 then 7 - (k : Int) else k) + (s - (if s % 2 = 0 then 7 - (k : Int) else k))] else []) := by
  unfold zrow
  rw [List.range_succ, List.filterMap_append]
  congr 1
  simp only [List.filterMap_cons, List.filterMap_nil]
  by_cases h : 0 ≤ (s : Int) - (if s % 2 = 0 then 7 - (k : Int) else k) ∧ (s : Int) - (if s % 2 = 0 then 7 - (k : Int) else k) ≤ 7
  · rw [if_pos h, if_pos h]
  · rw [if_neg h, if_neg h]
def zall (s : Nat) : List Int := (List.range s).flatMap fun s => zrow s 8
theorem zall_succ (s : Nat) : zall (s + 1) = zall s ++ zrow s 8 := by
  unfold zall
  rw [List.range_succ, List.flatMap_append]
  simp
theorem zall_15 : zall 15 = zigL := by decide +kernel
theorem zlen (s k : Nat) (hs : s ≤ 15) (hk : k ≤ 8) : (zall s ++ zrow s k).length ≤ 200 :=
  (by decide +kernel : ∀ (s : Fin 16) (k : Fin 9), (zall s.val ++ zrow s.val k.val).length ≤ 200) ⟨s, by omega⟩ ⟨k, by omega⟩
/-- the places, back: number i at place zigAt i -/
def zfrom (zs : List Int) (k : Nat) : List Int := (List.range k).foldl (fun l i => l.set (zigAt i).toNat (zs.getD i 0)) (List.replicate 64 0)
theorem zfrom_succ (zs : List Int) (k : Nat) : zfrom zs (k + 1) = (zfrom zs k).set (zigAt k).toNat (zs.getD k 0) := by
  unfold zfrom
  rw [List.range_succ, List.foldl_append]
  rfl
theorem zfrom_len (zs : List Int) (k : Nat) : (zfrom zs k).length = 64 := by
  induction k with
  | zero => simp [zfrom]
  | succ k ih => rw [zfrom_succ]; simpa using ih
/-- the numbers in zigzag order -/
def zto (zs : List Int) : List Int := (List.range 64).map fun i => zs.getD (zigAt i).toNat 0
theorem zto_len (zs : List Int) : (zto zs).length = 64 := by simp [zto]
theorem zto_set (zs : List Int) (k : Nat) (h : k < 64) : ((zto zs).take k ++ List.replicate (64 - k) 0).set k (zs.getD (zigAt k).toNat 0) = (zto zs).take (k + 1) ++ List.replicate (64 - (k + 1)) 0 := by
  have hl : ((zto zs).take k).length = k := by rw [List.length_take, zto_len]; omega
  rw [List.set_append_right _ _ (by omega), hl, Nat.sub_self, List.take_succ_eq_append_getElem (by rw [zto_len]; exact h)]
  obtain ⟨m, hm⟩ : ∃ m, 64 - k = m + 1 := ⟨64 - k - 1, by omega⟩
  have hm2 : 64 - (k + 1) = m := by omega
  rw [hm, hm2, List.replicate_succ, List.set_cons_zero]
  simp [zto]
end Go.Proofs.Ytlepchdlkhogiaa
/- zig.order, zig.Order, ZigOrder of the reference. -/
namespace Go.Proofs.Ytlepchdlkhogiaa
set_option linter.unusedVariables false
set_option linter.unusedSimpArgs false
open Go.RowKit
theorem size47 : (Try.prog.info? 30).map (·.size) = some 64 := by kernel_rfl
theorem zero47 : (Try.prog.info? 30).bind (·.zero) = some (.agg (bv (List.replicate 64 0))) := by kernel_rfl
theorem elt_int : Elt Try.prog 22 3 1 8 := ⟨Try.underlying22, by kernel_rfl, by omega⟩
theorem zord_set (k : Nat) (h : k < 64) (z : Int) : (zigL.take k ++ List.replicate (64 - k) 0).set k z = zigL.take k ++ [z] ++ List.replicate (64 - (k + 1)) 0 := by
  have hl : (zigL.take k).length = k := by rw [List.length_take, zigL_len]; omega
  rw [List.set_append_right _ _ (by omega), hl, Nat.sub_self]
  obtain ⟨m, hm⟩ : ∃ m, 64 - k = m + 1 := ⟨64 - k - 1, by omega⟩
  have hm2 : 64 - (k + 1) = m := by omega
  rw [hm, hm2, List.replicate_succ, List.set_cons_zero]
  simp
theorem tup {s : Int × Int × Bool} {a b : Int} {c : Bool} (h : s = (a, b, c)) : s.1 = a ∧ s.2.1 = b ∧ s.2.2 = c := by subst h; exact ⟨rfl, rfl, rfl⟩
set_option maxHeartbeats 800000 in
theorem order_any (w : World) : Calls Try.prog 65 #[] w fun e w' => e = .returned (.agg (bv zigL)) ∧ Ext w w' := by
  go_enter Try.func65, Try.ntmps65
  go_wp2_with (refine wpList_alloc_abs rfl 30 rfl _ zero47 ?_; intro w1 g hb1 hx1 hg)
  go_loopw [1, 2, 3, 5] (fun r c u i wr => ∃ k : Nat, k ≤ 64 ∧ i = .int .i64 k ∧ r = .int .i64 (zst k).1 ∧ c = .int .i64 (zst k).2.1 ∧ u = .bool (zst k).2.2 ∧ Blk wr g 30 (bv (zigL.take k ++ List.replicate (64 - k) 0)) ∧ Ext w wr) (fun _ _ _ i _ => 64 - (intOf i).toNat)
  case atStart => exact ⟨0, by omega, rfl, rfl, rfl, rfl, hb1, hx1⟩
  case round =>
    obtain ⟨k, hk, rfl, rfl, rfl, rfl, hb, hx⟩ := hrel
    by_cases hlt : k < 64
    · obtain ⟨b1, b2, b3, b4⟩ := zst_bd k hlt
      have HS : Hid (zst (k + 1) = zstep (zst k)) := hid_ rfl
      have HZ : Hid (zigAt k = 8 * (zst k).1 + (zst k).2.1) := hid_ rfl
      obtain ⟨old, hold⟩ : ∃ u, wr.cell? ⟨g, k, none⟩ = some u := by
        rw [hb.cell k]
        exact ⟨_, bv_at _ k (by simp [zigL_len]; omega)⟩
      have hfr := hb.frozen k
      have hnew := hid_ (hb.set_ k (.int .i64 (8 * (zst k).1 + (zst k).2.1)))
      generalize hst : zst k = st at *
      obtain ⟨r, c, u⟩ := st
      have HST := hid_ hst
      clear hst
      simp only at b1 b2 b3 b4 HZ hnew
      have fin : ∀ (a b : Int) (d : Bool), zstep (r, c, u) = (a, b, d) → zst (k + 1) = (a, b, d) := fun a b d h => by rw [HS.out, h]
      have FIN := hid_ fin
      have hblk : Hid (Blk (wr.setCell ⟨g, k, none⟩ (.int .i64 (8 * r + c))) g 30 (bv (zigL.take (k + 1) ++ List.replicate (64 - (k + 1)) 0))) := by
        have := hnew.out
        rw [bv_set, zord_set k hlt] at this
        rw [zigL_take_succ k hlt, HZ.out]
        exact this
      have hxx := hid_ (hx.setCell (p := ⟨g, k, none⟩) hg (.int .i64 (8 * r + c)))
      clear fin hnew hb hx
      cases u with
      | true =>
        by_cases h7 : c = 7
        · obtain ⟨f1, f2, f3⟩ := tup (FIN.out (r + 1) c false (by simp [zstep, h7]))
          have F := hid_ f1; have F2 := hid_ f2; have F3 := hid_ f3
          have h7' : (c == 7) = true := by simpa using h7
          clear f1 f2 f3 h7
          go_wp2_with fail
          go_roundw
          case rel => exact ⟨k + 1, by omega, by go_num, by rw [F.out], by rw [F2.out], by rw [F3.out], hblk.out, hxx.out⟩
          case measure => simp [intOf]; omega
        · have h7' : (c == 7) = false := by simpa using h7
          by_cases h0 : r = 0
          · obtain ⟨f1, f2, f3⟩ := tup (FIN.out r (c + 1) false (by simp [zstep, h7, h0]))
            have F := hid_ f1; have F2 := hid_ f2; have F3 := hid_ f3
            have h0' : (r == 0) = true := by simpa using h0
            clear f1 f2 f3 h7 h0
            go_wp2_with fail
            go_roundw
            case rel => exact ⟨k + 1, by omega, by go_num, by rw [F.out], by rw [F2.out], by rw [F3.out], hblk.out, hxx.out⟩
            case measure => simp [intOf]; omega
          · obtain ⟨f1, f2, f3⟩ := tup (FIN.out (r - 1) (c + 1) true (by simp [zstep, h7, h0]))
            have F := hid_ f1; have F2 := hid_ f2; have F3 := hid_ f3
            have h0' : (r == 0) = false := by simpa using h0
            clear f1 f2 f3 h7 h0
            go_wp2_with fail
            go_roundw
            case rel => exact ⟨k + 1, by omega, by go_num, by rw [F.out], by rw [F2.out], by rw [F3.out], hblk.out, hxx.out⟩
            case measure => simp [intOf]; omega
      | false =>
        by_cases h7 : r = 7
        · obtain ⟨f1, f2, f3⟩ := tup (FIN.out r (c + 1) true (by simp [zstep, h7]))
          have F := hid_ f1; have F2 := hid_ f2; have F3 := hid_ f3
          have h7' : (r == 7) = true := by simpa using h7
          clear f1 f2 f3 h7
          go_wp2_with fail
          go_roundw
          case rel => exact ⟨k + 1, by omega, by go_num, by rw [F.out], by rw [F2.out], by rw [F3.out], hblk.out, hxx.out⟩
          case measure => simp [intOf]; omega
        · have h7' : (r == 7) = false := by simpa using h7
          by_cases h0 : c = 0
          · obtain ⟨f1, f2, f3⟩ := tup (FIN.out (r + 1) c true (by simp [zstep, h7, h0]))
            have F := hid_ f1; have F2 := hid_ f2; have F3 := hid_ f3
            have h0' : (c == 0) = true := by simpa using h0
            clear f1 f2 f3 h7 h0
            go_wp2_with fail
            go_roundw
            case rel => exact ⟨k + 1, by omega, by go_num, by rw [F.out], by rw [F2.out], by rw [F3.out], hblk.out, hxx.out⟩
            case measure => simp [intOf]; omega
          · obtain ⟨f1, f2, f3⟩ := tup (FIN.out (r + 1) (c - 1) false (by simp [zstep, h7, h0]))
            have F := hid_ f1; have F2 := hid_ f2; have F3 := hid_ f3
            have h0' : (c == 0) = false := by simpa using h0
            clear f1 f2 f3 h7 h0
            go_wp2_with fail
            go_roundw
            case rel => exact ⟨k + 1, by omega, by go_num, by rw [F.out], by rw [F2.out], by rw [F3.out], hblk.out, hxx.out⟩
            case measure => simp [intOf]; omega
    · obtain rfl : k = 64 := by omega
      have hs : Hid ((bv zigL).size = 64) := hid_ (by rw [bv_size, zigL_len])
      have ho := hid_ (bv_one zigL)
      have e : zigL.take 64 ++ List.replicate (64 - 64) 0 = zigL := by rw [List.take_of_length_le (by rw [zigL_len]; omega)]; simp
      rw [e] at hb
      clear e
      generalize hcz : bv zigL = cz at *
      have HCZ := hid_ hcz
      clear hcz
      go_wp2_with (first
        | (refine wpList_load_blk rfl 30 (.tmp 0) rfl _ rfl hb _ Try.underlying30 rfl 64 size47 hs.out ?_)
        | (refine wpList_store_blk rfl 30 (.tmp 0) (.tmp 51) rfl _ _ rfl rfl hb 64 size47 hs.out hs.out ho.out ?_; intro w7 hb7 hg7))
      exact ret_cell rfl rfl _ rfl hb7 _ Try.underlying30 rfl 64 size47 hs.out ⟨by rw [HCZ.out], hx.grown hg7 hg⟩
set_option maxHeartbeats 800000 in
theorem rzigOrder_own (w : World) : Calls Try.prog 67 #[] w fun e w' => ∃ v, e = .returned v ∧ w'.ownsRow w.heap.size 3 1 v 64 (ints zigL) ∧ Ext w w' := by
  go_enter Try.func67, Try.ntmps67
  go_wp2_with fail
  go_loopw [1, 6] (fun v i wr => ∃ s : Nat, s ≤ 15 ∧ i = .int .i64 s ∧ wr.ownsRow w.heap.size 3 1 v (zall s).length (ints (zall s)) ∧ Ext w wr) (fun _ i _ => 15 - (intOf i).toNat)
  case atStart => exact ⟨0, by omega, rfl, World.ownsRow_nil _ _ _ _, Ext.refl w⟩
  case round =>
    obtain ⟨s, hs, rfl, hown, hx⟩ := hrel
    by_cases hlt : s < 15
    · have hsd : decide ((s : Int) < 15) = true := by simp; omega
      go_wp2_with fail
      obtain ⟨wo, rfl⟩ : ∃ wo : World, wo = wr := ⟨_, rfl⟩
      go_loopw [1, 9] (fun v i wr => ∃ k : Nat, k ≤ 8 ∧ i = .int .i64 k ∧ wr.ownsRow w.heap.size 3 1 v (zall s ++ zrow s k).length (ints (zall s ++ zrow s k)) ∧ Ext w wr) (fun _ i _ => 8 - (intOf i).toNat)
      case atStart => exact ⟨0, by omega, rfl, by simpa [zrow] using hown, hx⟩
      case round =>
        obtain ⟨k, hk, rfl, hown2, hx2⟩ := hrel
        by_cases hlk : k < 8
        · have hzl := zlen s k hs hk
          have hlen : (ints (zall s ++ zrow s k)).length = (zall s ++ zrow s k).length := ints_len _
          have HZ := hid_ (zrow_succ s k)
          by_cases hp : s % 2 = 0
          · have hp' : ((s : Int) % 2 == 0) = true := by simp; omega
            rw [if_pos hp] at HZ
            cases hq : inB ((s : Int) - (7 - (k : Int))) 0 7 with
            | true =>
              have hin := inB_iff.1 hq
              have HZ2 := hid_ (HZ.out.trans (by rw [if_pos hin]))
              clear HZ hin hp hlen
              go_wp2_with (first
                | (go_at_call 36; refine (outside_any _ _ _ _).mono ?_; rintro e w' ⟨rfl, rfl⟩)
                | (at_builtin; go_must (refine wpList_append_sl elt_int rfl _ _ rfl w.heap.size _ _ _ rfl (hown2.alloc _) _ 1 [.int .i64 _] rfl (one_sl _ _ _) (int_one _) (by omega) (by omega) (by have := hx2.size; simp; omega) ?_); intro v' w7 hown7 hb7))
              go_roundw
              case rel =>
                refine ⟨k + 1, by omega, by go_num, ?_, (hx2.alloc _).trans' hb7⟩
                rw [HZ2.out, ← List.append_assoc]
                exact own_snoc hown7
              case measure => simp [intOf]; omega
            | false =>
              have hin := inB_not.1 hq
              have HZ2 := hid_ (HZ.out.trans (by rw [if_neg (by omega)]))
              clear HZ hin hp hlen
              go_wp2_with (go_at_call 36; refine (outside_any _ _ _ _).mono ?_; rintro e w' ⟨rfl, rfl⟩)
              go_roundw
              case rel => exact ⟨k + 1, by omega, by go_num, by rw [HZ2.out, List.append_nil]; exact hown2, hx2⟩
              case measure => simp [intOf]; omega
          · have hp' : ((s : Int) % 2 == 0) = false := by simp; omega
            rw [if_neg hp] at HZ
            cases hq : inB ((s : Int) - (k : Int)) 0 7 with
            | true =>
              have hin := inB_iff.1 hq
              have HZ2 := hid_ (HZ.out.trans (by rw [if_pos hin]))
              clear HZ hin hp hlen
              go_wp2_with (first
                | (go_at_call 36; refine (outside_any _ _ _ _).mono ?_; rintro e w' ⟨rfl, rfl⟩)
                | (at_builtin; go_must (refine wpList_append_sl elt_int rfl _ _ rfl w.heap.size _ _ _ rfl (hown2.alloc _) _ 1 [.int .i64 _] rfl (one_sl _ _ _) (int_one _) (by omega) (by omega) (by have := hx2.size; simp; omega) ?_); intro v' w7 hown7 hb7))
              go_roundw
              case rel =>
                refine ⟨k + 1, by omega, by go_num, ?_, (hx2.alloc _).trans' hb7⟩
                rw [HZ2.out, ← List.append_assoc]
                exact own_snoc hown7
              case measure => simp [intOf]; omega
            | false =>
              have hin := inB_not.1 hq
              have HZ2 := hid_ (HZ.out.trans (by rw [if_neg (by omega)]))
              clear HZ hin hp hlen
              go_wp2_with (go_at_call 36; refine (outside_any _ _ _ _).mono ?_; rintro e w' ⟨rfl, rfl⟩)
              go_roundw
              case rel => exact ⟨k + 1, by omega, by go_num, by rw [HZ2.out, List.append_nil]; exact hown2, hx2⟩
              case measure => simp [intOf]; omega
        · obtain rfl : k = 8 := by omega
          have HS := hid_ (zall_succ s)
          go_wp2_with fail
          go_roundw
          case rel => exact ⟨s + 1, by omega, by go_num, by rw [HS.out]; exact hown2, hx2⟩
          case measure => simp [intOf]; omega
    · obtain rfl : s = 15 := by omega
      rw [zall_15] at hown
      rw [zigL_len] at hown
      have HSL := hid_ hown
      clear hown
      go_wp2_with fail
      go_ret
      exact ⟨_, rfl, HSL.out, hx⟩
theorem rzigOrder_any (w : World) : Calls Try.prog 67 #[] w fun e w' => ∃ v, e = .returned v ∧ SL w' 1 v 64 (ints zigL) ∧ Ext w w' :=
  (rzigOrder_own w).mono fun _ _ ⟨v, he, hs, hx⟩ => ⟨v, he, own_sl hs, hx⟩
theorem rzigOrder_sl (w : World) : Calls Try.prog 67 #[] w fun e w' => ∃ A c, e = .returned (.slice A 64 c) ∧ SL w' 1 (.slice A 64 c) 64 (ints zigL) ∧ (∀ ad, A = some ad → w.heap.size ≤ ad.block) ∧ Ext w w' :=
  (rzigOrder_own w).mono fun e w' ⟨v, he, hs, hx⟩ => by
    obtain ⟨A, c, rfl, h1, h2⟩ := own_form hs
    exact ⟨A, c, he, h1, h2, hx⟩
theorem run_index47 (cs : Array Value) (i : Nat) (u : Value) (hi : i < 64) (hu : cs[i]? = some u) (w : World) : (Instr.index 30 (.agg cs) (.int .i64 (i : Int))).run Try.prog w = .ok u w :=
  run_index_agg _ _ 64 cs i u Try.underlying30 _ Try.underlying3 sizeInt hi hu w
theorem zigN (k : Nat) (h : k < 64) : ∃ n : Nat, zigAt k = (n : Int) ∧ n < 64 := by
  have := zigAt_bd k h
  exact ⟨(zigAt k).toNat, by omega, by omega⟩
end Go.Proofs.Ytlepchdlkhogiaa
/- The block of noughts. -/
namespace Go.Proofs.Ytlepchdlkhogiaa
set_option linter.unusedVariables false
set_option linter.unusedSimpArgs false
open Go.RowKit
def zeros64 : List Int := List.replicate 64 0
theorem built48 : Try.prog.built 31 [] = some (bv zeros64) := by kernel_rfl
theorem zero48 : (Try.prog.info? 31).bind (·.zero) = some (.agg (bv zeros64)) := by kernel_rfl
end Go.Proofs.Ytlepchdlkhogiaa
/- zig.To, zig.From, and the reference's. -/
namespace Go.Proofs.Ytlepchdlkhogiaa
set_option linter.unusedVariables false
set_option linter.unusedSimpArgs false
open Go.RowKit
set_option maxHeartbeats 400000 in
theorem zto_any (zs : List Int) (w : World) (hz : zs.length = 64) : Calls Try.prog 42 #[.agg (bv zs)] w fun e w' => e = .returned (.agg (bv (zto zs))) ∧ Ext w w' := by
  have HO := hid_ (fun W => order_any W)
  have HIX := hid_ (fun W (k n : Nat) (hk : k < 64) (hn : zigAt k = (n : Int)) => run_index47 (bv zigL) k (.int .i64 (n : Int)) hk (by rw [← hn, bv_at zigL k (by rw [zigL_len]; exact hk), zigL_get]) W)
  have HZ := hid_ hz
  generalize bv zigL = co at *
  generalize hc0 : bv zs = cz at *
  have HC0 := hid_ hc0
  clear hz hc0
  go_enter Try.func42, Try.ntmps42
  go_wp2_with (first
    | (refine wpList_box_abs rfl 31 (.tmp 0) rfl cz rfl ?_; intro w1 gz hbz1 hx1 hgz)
    | (refine wpList_alloc_abs' rfl (some 2) rfl 31 rfl _ zero48 ?_; intro w2 go hbo2 hx2 hgo; have hbz2 := hbz1.ext hx2)
    | (go_at_call 65; refine (HO.out _).mono ?_; rintro e w3 ⟨rfl, hx3⟩; have hbz := hbz2.ext hx3; have hbo := hbo2.ext hx3))
  have hne : go ≠ gz := by have := hbz1.lt; omega
  have hgo' : w.heap.size ≤ go := by have := hx1.size; omega
  have hxx := (hx1.trans hx2).trans hx3
  clear hbz1 hbz2 hbo2 hx1 hx2 hx3
  go_loopw [6] (fun i wr => ∃ k : Nat, k ≤ 64 ∧ i = .int .i64 k ∧ Blk wr gz 31 cz ∧ Blk wr go 31 (bv ((zto zs).take k ++ List.replicate (64 - k) 0)) ∧ Ext w wr) (fun i _ => 64 - (intOf i).toNat)
  case atStart => exact ⟨0, by omega, rfl, hbz, by rw [show (zto zs).take 0 ++ List.replicate (64 - 0) 0 = zeros64 from rfl]; exact hbo, hxx⟩
  case round =>
    obtain ⟨k, hk, rfl, hb1, hb2, hx⟩ := hrel
    by_cases hlt : k < 64
    · obtain ⟨n, hn, hn64⟩ := zigN k hlt
      have HN := hid_ hn
      have hzl : n < zs.length := by have := HZ.out; omega
      have HD : Hid (zs.getD n 0 = zs[n]) := hid_ (by simp [hzl])
      have hlz : wr.cell? ⟨gz, n, none⟩ = some (.int .i64 zs[n]) := (hb1.cell n).trans (by rw [← HC0.out]; exact bv_at zs n hzl)
      obtain ⟨old, hold⟩ : ∃ u, wr.cell? ⟨go, k, none⟩ = some u := by
        rw [hb2.cell k]
        have hl : ((zto zs).take k ++ List.replicate (64 - k) 0).length = 64 := by simp [zto_len]; omega
        exact ⟨_, bv_at _ k (by omega)⟩
      have hfr := hb2.frozen k
      have hix := fun W => HIX.out W k n hlt HN.out
      clear hn
      go_wp2_with fail
      go_roundw
      case rel =>
        refine ⟨k + 1, by omega, by go_num, hb1.far (p := ⟨go, k, none⟩) (by simpa using hne.symm) _, ?_, hx.setCell hgo' _⟩
        have := hb2.set_ k (.int .i64 zs[n])
        rw [bv_set] at this
        have e := zto_set zs k hlt
        rw [HN.out, Int.toNat_natCast, HD.out] at e
        rw [← e]
        exact this
      case measure => simp [intOf]; omega
    · obtain rfl : k = 64 := by omega
      have e : (zto zs).take 64 ++ List.replicate (64 - 64) 0 = zto zs := by rw [List.take_of_length_le (by rw [zto_len]; omega)]; simp
      rw [e] at hb2
      clear e
      have hs : Hid ((bv (zto zs)).size = 64) := hid_ (by rw [bv_size, zto_len])
      have ho := hid_ (bv_one (zto zs))
      generalize hcr : bv (zto zs) = cr at *
      have HC := hid_ hcr
      clear hcr
      go_wp2_with (first
        | (refine wpList_load_blk rfl 31 (.tmp 2) rfl _ rfl hb2 _ Try.underlying31 rfl 64 size48 hs.out ?_)
        | (refine wpList_store_blk rfl 31 (.tmp 2) (.tmp 16) rfl _ _ rfl rfl hb2 64 size48 hs.out hs.out ho.out ?_; intro w7 hb7 hg7))
      exact ret_cell rfl rfl _ rfl hb7 _ Try.underlying31 rfl 64 size48 hs.out ⟨by rw [HC.out], hx.grown hg7 hgo'⟩
set_option maxHeartbeats 400000 in
theorem rzto_any (zs : List Int) (w : World) (hz : zs.length = 64) : Calls Try.prog 44 #[.agg (bv zs)] w fun e w' => e = .returned (.agg (bv (zto zs))) ∧ Ext w w' := by
  have HZ := hid_ hz
  generalize hc0 : bv zs = cz at *
  have HC0 := hid_ hc0
  clear hz hc0
  go_enter Try.func44, Try.ntmps44
  go_wp2_with (first
    | (refine wpList_box_abs rfl 31 (.tmp 0) rfl cz rfl ?_; intro w1 gz hbz1 hx1 hgz)
    | (refine wpList_alloc_abs' rfl (some 2) rfl 31 rfl _ zero48 ?_; intro w2 gr hbr2 hx2 hgr; have hbz2 := hbz1.ext hx2)
    | (refine wpList_alloc_abs' rfl (some 3) rfl 31 rfl _ zero48 ?_; intro w3 go hbo3 hx3 hgo; have hbz3 := hbz2.ext hx3; have hbr3 := hbr2.ext hx3)
    | (go_at_call 67; refine (rzigOrder_sl _).mono ?_; rintro e w4 ⟨A, c, rfl, hsl, hfs, hx4⟩; have hbz := hbz3.ext hx4; have hbo := hbo3.ext hx4; have hbr := hbr3.ext hx4))
  have hne : go ≠ gz := by have := hbz2.lt; omega
  have hne2 : go ≠ gr := by have := hbr2.lt; omega
  have hgo' : w.heap.size ≤ go := by have := hx1.size; have := hx2.size; omega
  have hgr' : w.heap.size ≤ gr := by have := hx1.size; omega
  have hxx := ((hx1.trans hx2).trans hx3).trans hx4
  have hnsl := hid_ (fun ad h => (show (ad : Addr).block ≠ go by have := hfs ad h; have := hbo3.lt; omega))
  clear hbz1 hbz2 hbz3 hbo3 hbr2 hbr3 hx1 hx2 hx3 hx4 hfs
  go_loopw [8] (fun i wr => ∃ k : Nat, k ≤ 64 ∧ i = .int .i64 k ∧ Blk wr gz 31 cz ∧ Blk wr go 31 (bv ((zto zs).take k ++ List.replicate (64 - k) 0)) ∧ Blk wr gr 31 (bv zeros64) ∧ SL wr 1 (.slice A 64 c) 64 (ints zigL) ∧ Ext w wr) (fun i _ => 64 - (intOf i).toNat)
  case atStart => exact ⟨0, by omega, rfl, hbz, by rw [show (zto zs).take 0 ++ List.replicate (64 - 0) 0 = zeros64 from rfl]; exact hbo, hbr, hsl, hxx⟩
  case round =>
    obtain ⟨k, hk, rfl, hb1, hb2, hbr, hsl, hx⟩ := hrel
    by_cases hlt : k < 64
    · obtain ⟨n, hn, hn64⟩ := zigN k hlt
      have HN := hid_ hn
      have hzl : n < zs.length := by have := HZ.out; omega
      have HD : Hid (zs.getD n 0 = zs[n]) := hid_ (by simp [hzl])
      have hlz : wr.cell? ⟨gz, n, none⟩ = some (.int .i64 zs[n]) := (hb1.cell n).trans (by rw [← HC0.out]; exact bv_at zs n hzl)
      obtain ⟨old, hold⟩ : ∃ u, wr.cell? ⟨go, k, none⟩ = some u := by
        rw [hb2.cell k]
        have hl : ((zto zs).take k ++ List.replicate (64 - k) 0).length = 64 := by simp [zto_len]; omega
        exact ⟨_, bv_at _ k (by omega)⟩
      have hfr := hb2.frozen k
      obtain ⟨ad, u, rfl, -, hxo, hco⟩ := hsl.at1 hlt
      obtain ⟨hko, rfl⟩ := ints_at _ _ _ hxo
      have e0 : zigL[k] = (n : Int) := by rw [zigL_get, HN.out]
      rw [e0] at hco
      clear e0 hxo
      clear hn
      go_wp2_with fail
      go_roundw
      case rel =>
        refine ⟨k + 1, by omega, by go_num, hb1.far (p := ⟨go, k, none⟩) (by simpa using hne.symm) _, ?_, hbr.far (p := ⟨go, k, none⟩) (by simpa using hne2.symm) _, hsl.far (by intro ad' h; exact hnsl.out ad' h) _, hx.setCell hgo' _⟩
        have := hb2.set_ k (.int .i64 zs[n])
        rw [bv_set] at this
        have e := zto_set zs k hlt
        rw [HN.out, Int.toNat_natCast, HD.out] at e
        rw [← e]
        exact this
      case measure => simp [intOf]; omega
    · obtain rfl : k = 64 := by omega
      have e : (zto zs).take 64 ++ List.replicate (64 - 64) 0 = zto zs := by rw [List.take_of_length_le (by rw [zto_len]; omega)]; simp
      rw [e] at hb2
      clear e
      have hs : Hid ((bv (zto zs)).size = 64) := hid_ (by rw [bv_size, zto_len])
      have ho := hid_ (bv_one (zto zs))
      generalize hcr : bv (zto zs) = cr at *
      have HC := hid_ hcr
      clear hcr
      go_wp2_with (first
        | (refine wpList_load_blk rfl 31 (.tmp 3) rfl _ rfl hb2 _ Try.underlying31 rfl 64 size48 hs.out ?_)
        | (refine wpList_store_blk rfl 31 (.tmp 2) (.tmp 19) rfl _ _ rfl rfl hbr 64 size48 hs.out (by rw [bv_size]; rfl) ho.out ?_; intro w7 hb7 hg7))
      exact ret_cell rfl rfl _ rfl hb7 _ Try.underlying31 rfl 64 size48 hs.out ⟨by rw [HC.out], hx.grown hg7 hgr'⟩
set_option maxHeartbeats 400000 in
theorem zfrom_any (zs : List Int) (w : World) (hz : zs.length = 64) : Calls Try.prog 85 #[.agg (bv zs)] w fun e w' => e = .returned (.agg (bv (zfrom zs 64))) ∧ Ext w w' := by
  have HO := hid_ (fun W => order_any W)
  have HIX := hid_ (fun W (k n : Nat) (hk : k < 64) (hn : zigAt k = (n : Int)) => run_index47 (bv zigL) k (.int .i64 (n : Int)) hk (by rw [← hn, bv_at zigL k (by rw [zigL_len]; exact hk), zigL_get]) W)
  have HZ := hid_ hz
  generalize bv zigL = co at *
  generalize hc0 : bv zs = cz at *
  have HC0 := hid_ hc0
  clear hz hc0
  go_enter Try.func85, Try.ntmps85
  go_wp2_with (first
    | (refine wpList_box_abs rfl 31 (.tmp 0) rfl cz rfl ?_; intro w1 gz hbz1 hx1 hgz)
    | (refine wpList_alloc_abs' rfl (some 2) rfl 31 rfl _ zero48 ?_; intro w2 go hbo2 hx2 hgo; have hbz2 := hbz1.ext hx2)
    | (go_at_call 65; refine (HO.out _).mono ?_; rintro e w3 ⟨rfl, hx3⟩; have hbz := hbz2.ext hx3; have hbo := hbo2.ext hx3))
  have hne : go ≠ gz := by have := hbz1.lt; omega
  have hgo' : w.heap.size ≤ go := by have := hx1.size; omega
  have hxx := (hx1.trans hx2).trans hx3
  clear hbz1 hbz2 hbo2 hx1 hx2 hx3
  go_loopw [6] (fun i wr => ∃ k : Nat, k ≤ 64 ∧ i = .int .i64 k ∧ Blk wr gz 31 cz ∧ Blk wr go 31 (bv (zfrom zs k)) ∧ Ext w wr) (fun i _ => 64 - (intOf i).toNat)
  case atStart => exact ⟨0, by omega, rfl, hbz, hbo, hxx⟩
  case round =>
    obtain ⟨k, hk, rfl, hb1, hb2, hx⟩ := hrel
    by_cases hlt : k < 64
    · obtain ⟨n, hn, hn64⟩ := zigN k hlt
      have HN := hid_ hn
      have hzl : k < zs.length := by have := HZ.out; omega
      have HD : Hid (zs.getD k 0 = zs[k]) := hid_ (by simp [hzl])
      have hlz : wr.cell? ⟨gz, k, none⟩ = some (.int .i64 zs[k]) := (hb1.cell k).trans (by rw [← HC0.out]; exact bv_at zs k hzl)
      obtain ⟨old, hold⟩ : ∃ u, wr.cell? ⟨go, n, none⟩ = some u := by
        rw [hb2.cell n]
        have hl : (zfrom zs k).length = 64 := zfrom_len zs k
        exact ⟨_, bv_at _ n (by omega)⟩
      have hfr := hb2.frozen n
      have hix := fun W => HIX.out W k n hlt HN.out
      clear hn
      go_wp2_with fail
      go_roundw
      case rel =>
        refine ⟨k + 1, by omega, by go_num, hb1.far (p := ⟨go, n, none⟩) (by simpa using hne.symm) _, ?_, hx.setCell hgo' _⟩
        have := hb2.set_ n (.int .i64 zs[k])
        rw [bv_set] at this
        rw [zfrom_succ, HN.out, Int.toNat_natCast, HD.out]
        exact this
      case measure => simp [intOf]; omega
    · obtain rfl : k = 64 := by omega
      have hs : Hid ((bv (zfrom zs 64)).size = 64) := hid_ (by rw [bv_size, zfrom_len])
      have ho := hid_ (bv_one (zfrom zs 64))
      generalize hcr : bv (zfrom zs 64) = cr at *
      have HC := hid_ hcr
      clear hcr
      go_wp2_with (first
        | (refine wpList_load_blk rfl 31 (.tmp 2) rfl _ rfl hb2 _ Try.underlying31 rfl 64 size48 hs.out ?_)
        | (refine wpList_store_blk rfl 31 (.tmp 2) (.tmp 16) rfl _ _ rfl rfl hb2 64 size48 hs.out hs.out ho.out ?_; intro w7 hb7 hg7))
      exact ret_cell rfl rfl _ rfl hb7 _ Try.underlying31 rfl 64 size48 hs.out ⟨by rw [HC.out], hx.grown hg7 hgo'⟩
set_option maxHeartbeats 400000 in
theorem rzfrom_any (zs : List Int) (w : World) (hz : zs.length = 64) : Calls Try.prog 89 #[.agg (bv zs)] w fun e w' => e = .returned (.agg (bv (zfrom zs 64))) ∧ Ext w w' := by
  have HZ := hid_ hz
  generalize hc0 : bv zs = cz at *
  have HC0 := hid_ hc0
  clear hz hc0
  go_enter Try.func89, Try.ntmps89
  go_wp2_with (first
    | (refine wpList_box_abs rfl 31 (.tmp 0) rfl cz rfl ?_; intro w1 gz hbz1 hx1 hgz)
    | (refine wpList_alloc_abs' rfl (some 2) rfl 31 rfl _ zero48 ?_; intro w2 gr hbr2 hx2 hgr; have hbz2 := hbz1.ext hx2)
    | (refine wpList_alloc_abs' rfl (some 3) rfl 31 rfl _ zero48 ?_; intro w3 go hbo3 hx3 hgo; have hbz3 := hbz2.ext hx3; have hbr3 := hbr2.ext hx3)
    | (go_at_call 67; refine (rzigOrder_sl _).mono ?_; rintro e w4 ⟨A, c, rfl, hsl, hfs, hx4⟩; have hbz := hbz3.ext hx4; have hbo := hbo3.ext hx4; have hbr := hbr3.ext hx4))
  have hne : go ≠ gz := by have := hbz2.lt; omega
  have hne2 : go ≠ gr := by have := hbr2.lt; omega
  have hgo' : w.heap.size ≤ go := by have := hx1.size; have := hx2.size; omega
  have hgr' : w.heap.size ≤ gr := by have := hx1.size; omega
  have hxx := ((hx1.trans hx2).trans hx3).trans hx4
  have hnsl := hid_ (fun ad h => (show (ad : Addr).block ≠ go by have := hfs ad h; have := hbo3.lt; omega))
  clear hbz1 hbz2 hbz3 hbo3 hbr2 hbr3 hx1 hx2 hx3 hx4 hfs
  go_loopw [8] (fun i wr => ∃ k : Nat, k ≤ 64 ∧ i = .int .i64 k ∧ Blk wr gz 31 cz ∧ Blk wr go 31 (bv (zfrom zs k)) ∧ Blk wr gr 31 (bv zeros64) ∧ SL wr 1 (.slice A 64 c) 64 (ints zigL) ∧ Ext w wr) (fun i _ => 64 - (intOf i).toNat)
  case atStart => exact ⟨0, by omega, rfl, hbz, hbo, hbr, hsl, hxx⟩
  case round =>
    obtain ⟨k, hk, rfl, hb1, hb2, hbr, hsl, hx⟩ := hrel
    by_cases hlt : k < 64
    · obtain ⟨n, hn, hn64⟩ := zigN k hlt
      have HN := hid_ hn
      have hzl : k < zs.length := by have := HZ.out; omega
      have HD : Hid (zs.getD k 0 = zs[k]) := hid_ (by simp [hzl])
      have hlz : wr.cell? ⟨gz, k, none⟩ = some (.int .i64 zs[k]) := (hb1.cell k).trans (by rw [← HC0.out]; exact bv_at zs k hzl)
      obtain ⟨old, hold⟩ : ∃ u, wr.cell? ⟨go, n, none⟩ = some u := by
        rw [hb2.cell n]
        have hl : (zfrom zs k).length = 64 := zfrom_len zs k
        exact ⟨_, bv_at _ n (by omega)⟩
      have hfr := hb2.frozen n
      obtain ⟨ad, u, rfl, -, hxo, hco⟩ := hsl.at1 hlt
      obtain ⟨hko, rfl⟩ := ints_at _ _ _ hxo
      have e0 : zigL[k] = (n : Int) := by rw [zigL_get, HN.out]
      rw [e0] at hco
      clear e0 hxo
      clear hn
      go_wp2_with fail
      go_roundw
      case rel =>
        refine ⟨k + 1, by omega, by go_num, hb1.far (p := ⟨go, n, none⟩) (by simpa using hne.symm) _, ?_, hbr.far (p := ⟨go, n, none⟩) (by simpa using hne2.symm) _, hsl.far (by intro ad' h; exact hnsl.out ad' h) _, hx.setCell hgo' _⟩
        have := hb2.set_ n (.int .i64 zs[k])
        rw [bv_set] at this
        rw [zfrom_succ, HN.out, Int.toNat_natCast, HD.out]
        exact this
      case measure => simp [intOf]; omega
    · obtain rfl : k = 64 := by omega
      have hs : Hid ((bv (zfrom zs 64)).size = 64) := hid_ (by rw [bv_size, zfrom_len])
      have ho := hid_ (bv_one (zfrom zs 64))
      generalize hcr : bv (zfrom zs 64) = cr at *
      have HC := hid_ hcr
      clear hcr
      go_wp2_with (first
        | (refine wpList_load_blk rfl 31 (.tmp 3) rfl _ rfl hb2 _ Try.underlying31 rfl 64 size48 hs.out ?_)
        | (refine wpList_store_blk rfl 31 (.tmp 2) (.tmp 19) rfl _ _ rfl rfl hbr 64 size48 hs.out (by rw [bv_size]; rfl) ho.out ?_; intro w7 hb7 hg7))
      exact ret_cell rfl rfl _ rfl hb7 _ Try.underlying31 rfl 64 size48 hs.out ⟨by rw [HC.out], hx.grown hg7 hgr'⟩
end Go.Proofs.Ytlepchdlkhogiaa
/- The element of a slice of bytes. -/
namespace Go.Proofs.Ytlepchdlkhogiaa
set_option linter.unusedVariables false
set_option linter.unusedSimpArgs false
open Go.RowKit
theorem elt_by : Elt Try.prog 48 5 1 1 := ⟨Try.underlying48, by kernel_rfl, by omega⟩
end Go.Proofs.Ytlepchdlkhogiaa
/- A slice literal of one element of many cells: append(out, b). -/
namespace Go.Proofs.Ytlepchdlkhogiaa
set_option linter.unusedVariables false
set_option linter.unusedSimpArgs false
open Go.RowKit
theorem fold_set (l : List Value) : ∀ (k : Nat) (a : Array Value), a.size = k + l.length → (l.zipIdx k).foldl (fun cs (p : Value × Nat) => cs.setIfInBounds (0 + p.2) p.1) a = (a.toList.take k ++ l).toArray := by
  induction l with
  | nil =>
    intro k a h
    simp at h
    apply Array.ext'
    simp [List.take_of_length_le, h]
  | cons v l ih =>
    intro k a h
    rw [List.zipIdx_cons, List.foldl_cons, ih (k + 1) _ (by simp at h ⊢; omega)]
    apply Array.ext'
    simp only [Nat.zero_add, Array.toList_setIfInBounds]
    have hk : k < a.toList.length := by simp at h ⊢; omega
    rw [List.take_add_one, List.take_set_of_le (by omega), List.getElem?_set_self hk]
    simp
theorem fill_one (v : Value) (n : Nat) (a : Array Value) (hv : v.cells.size = n) (ha : a.size = n) : Instr.fill (fun i => some (i * n, n)) a [(0, v)] = some v.cells := by
  have e : v.cells.zipIdx.foldl (fun cs (p : Value × Nat) => cs.setIfInBounds (0 + p.2) p.1) a = v.cells := by
    have h := fold_set v.cells.toList 0 a (by simp; omega)
    rw [← Array.foldl_toList]
    simpa using h
  simp only [Nat.zero_add] at e
  have e2 : Array.foldl (fun cs (x : Value × Nat) => cs.setIfInBounds x.2 x.1) a v.cells.zipIdx 0 n = v.cells := by
    have hn : n = v.cells.zipIdx.size := by simp [hv]
    rw [hn]
    exact e
  simp [Instr.fill, hv, ha, e2]
theorem builtSlice_one {P : Program} {e : TypeId} {n : Nat} (v : Value) (hs : (P.info? e).map (·.size) = some n) (hz : ((P.info? e).bind (·.zero)).isSome = true) (hv : v.cells.size = n) (h0 : 0 < n) (h1 : n ≤ 16777216) : P.builtSlice e 1 [(0, v)] = some v.cells := by
  unfold Program.builtSlice
  cases hq : P.info? e with
  | none => simp [hq] at hs
  | some i =>
    have hi : i.size = n := by simpa [hq] using hs
    cases hzz : i.zero with
    | none => simp [hq, hzz] at hz
    | some z =>
      simp only [hi, hzz, Nat.one_mul]
      rw [if_neg (by omega)]
      exact fill_one v n _ hv (by simp)
theorem wpList_lit1 {P : Program} {ops : Array Oper} {rest : List Oper} {o : Oper} {a : Act} {w : World} {Q : Exit → Act → World → Prop} (hg : o.guard = none) (t e : TypeId) (x : Operand) (ho : o.op = .buildSlice t 1 #[(0, x)]) (dst : Option Tmp) (hdst : o.dst = dst)
    (ht : P.underlying t = some (.slice e)) (n : Nat) (hs : (P.info? e).map (·.size) = some n) (hz : ((P.info? e).bind (·.zero)).isSome = true) (v : Value) (hx : a.eval x = v) (hv : v.cells.size = n) (h0 : 0 < n) (h1 : n ≤ 16777216)
    (h : ∀ w1 g, Blk w1 g e v.cells → Ext w w1 → w.heap.size ≤ g → wpList P ops Q rest (a.put dst (.slice (some ⟨g, 0, none⟩) 1 1)) w1) : wpList P ops Q (o :: rest) a w := by
  refine Go.Great.wpList_buildSliceTo hg t e 1 #[(0, x)] ho _ rfl dst hdst ht v.cells ?_ (h _ _ (Blk.new w e _) ((Ext.refl w).alloc _) (Nat.le_refl _))
  simp only [List.map_toArray, List.map_cons, List.map_nil, hx]
  exact builtSlice_one v hs hz hv h0 h1
theorem own_keep {w w' : World} {base : Nat} {e : TypeId} {size n : Nat} {v : Value} {xs : List Value} (h : w.ownsRow base e size v n xs) (hb : Ext w w') : w'.ownsRow base e size v n xs := by
  obtain ⟨hl, hh⟩ := h
  refine ⟨hl, ?_⟩
  rcases hh with ⟨rfl, rfl⟩ | ⟨g, cap, cur, rfl, h1, hg, h2⟩
  · exact .inl ⟨rfl, rfl⟩
  · exact .inr ⟨g, cap, cur, rfl, h1, (hb.block g (Blk.lt (w := w) (t := e) (cs := cur) hg)).trans hg, h2⟩
theorem own_nil (w : World) (base : Nat) (e : TypeId) (size : Nat) : w.ownsRow base e size (.slice none 0 0) 0 [] := ⟨by simp, .inl ⟨rfl, rfl⟩⟩
theorem ints_one_mem (zs : List Int) : ∀ u ∈ ints zs, u.oneCell' = true := by
  intro u hu
  obtain ⟨z, -, rfl⟩ := List.mem_map.1 hu
  rfl
theorem ints_app (xs ys : List Int) : ints (xs ++ ys) = ints xs ++ ints ys := by simp [ints]
end Go.Proofs.Ytlepchdlkhogiaa
