/- Contracts for the law FrameDecodesCard, part 12: what the functions that it reaches answer, for all arguments that the theorems name. -/
import Derived.Test.YtkggcjdlpendfaaGreatDoorMFrameDecodesCard11
import Derived.Test.YtkggcjdlpendfaaGreatDoorMFrameDecodesCard2
import Derived.Test.YtkggcjdlpendfaaGreatDoorMFrameDecodesCard10
import Derived.WalkKit
import Derived.Test.YtkggcjdlpendfaaGreatDoorMFrameDecodesCard1
import Derived.Test.YtkggcjdlpendfaaGreatDoorMFrameDecodesCard9
import Derived.ArgAppend
import Derived.Lib.SlBytesConst
import Derived.Deep.Cut
import Derived.Test.YtkggcjdlpendfaaGreatDoorMFrameDecodesCard3
namespace Go.Proofs.YtkggcjdlpendfaaGreatDoor
set_option linter.unusedVariables false
set_option linter.unusedSimpArgs false
open Go.RowKit
set_option maxRecDepth 20000 in
set_option maxHeartbeats 4000000 in
theorem rfcheck_yt (pt : Int) (hpt : pt = 1 ∨ pt = 3) (wd hi ev : Int) (qs : List Int) (t1 t2 : List Value) (A : Option Addr) (n c : Nat) (z1 z2 : Int) (w : World) (hq : qs.length = 64) (h1 : t1.length = 17) (h2 : t2.length = 17)
 (k1 : inB wd 1 64 = true) (k2 : inB hi 1 64 = true) (k3 : inB ev 0 100 = true) (kq : allIn qs 1 255 = true) (o1 : t1.toArray.all (·.oneCell') = true) (o2 : t2.toArray.all (·.oneCell') = true)
 (C1 : ∀ W, Ext w W → Calls Tryz.prog 73 #[.agg t1.toArray] W fun e W' => e = .returned (.int .i64 z1) ∧ Ext W W')
 (C2 : ∀ W, Ext w W → Calls Tryz.prog 73 #[.agg t2.toArray] W fun e W' => e = .returned (.int .i64 z2) ∧ Ext W W') :
 Calls Tryz.prog 52 #[.agg (fileL wd hi pt qs t1 t2 ev (.slice A n c)).toArray] w fun e w' => e = .returned (.int .i64 (if z1 = 0 then (if z2 = 0 then (if 90000 < n then 2 else 0) else z2) else z1)) ∧ Ext w w' := by
 have HF := hid_ (fun W g (hb : Blk W g 47 (fileL wd hi pt qs t1 t2 ev (.slice A n c)).toArray) => fileB hb hq h1 h2)
 have W1 := hid_ (fun W => outside_any wd 1 64 W)
 have W2 := hid_ (fun W => outside_any hi 1 64 W)
 have W3 := hid_ (fun W => outside_any ev 0 100 W)
 have HQ : Hid (∀ W, Calls Tryz.prog 67 #[.agg (ints qs).toArray, .int .i64 1, .int .i64 255] W fun e w' => e = .returned (.bool true) ∧ Ext W w') := hid_ (fun W => by have h := blockWithin_any qs 1 255 W hq; rw [kq] at h; exact h)
 clear kq
 have hql := hid_ ((ints_len qs).trans hq)
 have hl3 : Hid ((t1 ++ t2).length = 34) := hid_ (by simp [h1, h2])
 have HT := hid_ (fun W (hx : Ext w W) => tablesCheck_any t1 t2 z1 z2 W h1 h2 (fun V hV => C1 V (hx.trans hV)) (fun V hV => C2 V (hx.trans hV)))
 clear o1 o2 C1 C2
 clear h1 h2 hq
 generalize (fileL wd hi pt qs t1 t2 ev (.slice A n c)).toArray = fv at *
 generalize inB wd 1 64 = b1 at *
 generalize inB hi 1 64 = b2 at *
 generalize inB ev 0 100 = b3 at *
 subst k1 k2 k3
 have HT0 := HT
 clear HT
 by_cases y1 : z1 = 0
 ·by_cases y2 : z2 = 0
  ·have HT : Hid (∀ W, Ext w W → Calls Tryz.prog 76 #[.agg (t1 ++ t2).toArray] W fun e W' => e = .returned (.int .i64 0) ∧ Ext W W') := hid_ (fun W hW => by have h := HT0.out W hW; rw [if_pos y1, y2] at h; exact h)
   clear HT0
   rw [if_pos y1, if_pos y2]
   clear y1 y2
   by_cases hn : 90000 < n
   ·have hn' : decide ((90000 : Int) < (n : Int)) = true := by simp; omega
    rw [if_pos hn]
    rcases hpt with rfl | rfl
    all_goals
     go_enter Tryz.func52, Tryz.ntmps52
     go_wp2_with (first
      | (refine wBox rfl 47 (.tmp 0) rfl fv rfl ?_; intro w1 g hb1 hx1 hg; have hf1 := HF.out _ _ hb1; have c0 := hf1.c0; have c1 := hf1.c1; have c2 := hf1.c2; have c101 := hf1.c101)
      | (go_at_call 54; (with_reducible refine (W1.out _).mono ?_); rintro e w2 ⟨rfl, rfl⟩)
      | (go_at_call 54; (with_reducible refine (W2.out _).mono ?_); rintro e w2 ⟨rfl, rfl⟩)
      | (go_at_call 54; (with_reducible refine (W3.out _).mono ?_); rintro e w2 ⟨rfl, rfl⟩)
      | (refine wpList_load_mid_g (by rfl) 33 (.tmp 28) rfl g 3 rfl (ints qs) _ hf1.q Tryz.underlying33 rfl (by rw [hql.out]; exact size48) ?_)
      | (go_at_call 67; (with_reducible refine (HQ.out _).mono ?_); rintro e w2 ⟨rfl, hx2⟩; have hb2 := hb1.ext hx2; have hf2 := HF.out _ _ hb2)
      | (refine wpList_load_mid rfl 44 (.tmp 33) rfl g 67 rfl (t1 ++ t2) _ hf2.tt Tryz.underlying44 rfl (by rw [hl3.out]; exact sizeTbls) ?_)
      | (go_at_call 76; (with_reducible refine (HT.out _ (hx1.trans hx2)).mono ?_); rintro e w3 ⟨rfl, hx3⟩; have c102 := (HF.out _ _ (hb2.ext hx3)).c102))
     go_ret
     exact ⟨rfl, (hx1.trans hx2).trans hx3⟩
   ·have hn' : decide ((90000 : Int) < (n : Int)) = false := by simp; omega
    rw [if_neg hn]
    rcases hpt with rfl | rfl
    all_goals
     go_enter Tryz.func52, Tryz.ntmps52
     go_wp2_with (first
      | (refine wBox rfl 47 (.tmp 0) rfl fv rfl ?_; intro w1 g hb1 hx1 hg; have hf1 := HF.out _ _ hb1; have c0 := hf1.c0; have c1 := hf1.c1; have c2 := hf1.c2; have c101 := hf1.c101)
      | (go_at_call 54; (with_reducible refine (W1.out _).mono ?_); rintro e w2 ⟨rfl, rfl⟩)
      | (go_at_call 54; (with_reducible refine (W2.out _).mono ?_); rintro e w2 ⟨rfl, rfl⟩)
      | (go_at_call 54; (with_reducible refine (W3.out _).mono ?_); rintro e w2 ⟨rfl, rfl⟩)
      | (refine wpList_load_mid_g (by rfl) 33 (.tmp 28) rfl g 3 rfl (ints qs) _ hf1.q Tryz.underlying33 rfl (by rw [hql.out]; exact size48) ?_)
      | (go_at_call 67; (with_reducible refine (HQ.out _).mono ?_); rintro e w2 ⟨rfl, hx2⟩; have hb2 := hb1.ext hx2; have hf2 := HF.out _ _ hb2)
      | (refine wpList_load_mid rfl 44 (.tmp 33) rfl g 67 rfl (t1 ++ t2) _ hf2.tt Tryz.underlying44 rfl (by rw [hl3.out]; exact sizeTbls) ?_)
      | (go_at_call 76; (with_reducible refine (HT.out _ (hx1.trans hx2)).mono ?_); rintro e w3 ⟨rfl, hx3⟩; have c102 := (HF.out _ _ (hb2.ext hx3)).c102))
     go_ret
     exact ⟨rfl, (hx1.trans hx2).trans hx3⟩
  ·have HT : Hid (∀ W, Ext w W → Calls Tryz.prog 76 #[.agg (t1 ++ t2).toArray] W fun e W' => e = .returned (.int .i64 z2) ∧ Ext W W') := hid_ (fun W hW => by have h := HT0.out W hW; rw [if_pos y1] at h; exact h)
   clear HT0
   have hz1 : (z2 != 0) = true := by simpa using y2
   rw [if_pos y1, if_neg y2]
   clear y1 y2
   rcases hpt with rfl | rfl
   all_goals
    go_enter Tryz.func52, Tryz.ntmps52
    go_wp2_with (first
     | (refine wBox rfl 47 (.tmp 0) rfl fv rfl ?_; intro w1 g hb1 hx1 hg; have hf1 := HF.out _ _ hb1; have c0 := hf1.c0; have c1 := hf1.c1; have c2 := hf1.c2; have c101 := hf1.c101)
     | (go_at_call 54; (with_reducible refine (W1.out _).mono ?_); rintro e w2 ⟨rfl, rfl⟩)
     | (go_at_call 54; (with_reducible refine (W2.out _).mono ?_); rintro e w2 ⟨rfl, rfl⟩)
     | (go_at_call 54; (with_reducible refine (W3.out _).mono ?_); rintro e w2 ⟨rfl, rfl⟩)
     | (refine wpList_load_mid_g (by rfl) 33 (.tmp 28) rfl g 3 rfl (ints qs) _ hf1.q Tryz.underlying33 rfl (by rw [hql.out]; exact size48) ?_)
     | (go_at_call 67; (with_reducible refine (HQ.out _).mono ?_); rintro e w2 ⟨rfl, hx2⟩; have hb2 := hb1.ext hx2; have hf2 := HF.out _ _ hb2)
     | (refine wpList_load_mid rfl 44 (.tmp 33) rfl g 67 rfl (t1 ++ t2) _ hf2.tt Tryz.underlying44 rfl (by rw [hl3.out]; exact sizeTbls) ?_)
     | (go_at_call 76; (with_reducible refine (HT.out _ (hx1.trans hx2)).mono ?_); rintro e w3 ⟨rfl, hx3⟩; have c102 := (HF.out _ _ (hb2.ext hx3)).c102))
    go_ret
    exact ⟨rfl, (hx1.trans hx2).trans hx3⟩
 ·have HT : Hid (∀ W, Ext w W → Calls Tryz.prog 76 #[.agg (t1 ++ t2).toArray] W fun e W' => e = .returned (.int .i64 z1) ∧ Ext W W') := hid_ (fun W hW => by have h := HT0.out W hW; rw [if_neg y1] at h; exact h)
  clear HT0
  have hz1 : (z1 != 0) = true := by simpa using y1
  rw [if_neg y1]
  clear y1
  rcases hpt with rfl | rfl
  all_goals
   go_enter Tryz.func52, Tryz.ntmps52
   go_wp2_with (first
    | (refine wBox rfl 47 (.tmp 0) rfl fv rfl ?_; intro w1 g hb1 hx1 hg; have hf1 := HF.out _ _ hb1; have c0 := hf1.c0; have c1 := hf1.c1; have c2 := hf1.c2; have c101 := hf1.c101)
    | (go_at_call 54; (with_reducible refine (W1.out _).mono ?_); rintro e w2 ⟨rfl, rfl⟩)
    | (go_at_call 54; (with_reducible refine (W2.out _).mono ?_); rintro e w2 ⟨rfl, rfl⟩)
    | (go_at_call 54; (with_reducible refine (W3.out _).mono ?_); rintro e w2 ⟨rfl, rfl⟩)
    | (refine wpList_load_mid_g (by rfl) 33 (.tmp 28) rfl g 3 rfl (ints qs) _ hf1.q Tryz.underlying33 rfl (by rw [hql.out]; exact size48) ?_)
    | (go_at_call 67; (with_reducible refine (HQ.out _).mono ?_); rintro e w2 ⟨rfl, hx2⟩; have hb2 := hb1.ext hx2; have hf2 := HF.out _ _ hb2)
    | (refine wpList_load_mid rfl 44 (.tmp 33) rfl g 67 rfl (t1 ++ t2) _ hf2.tt Tryz.underlying44 rfl (by rw [hl3.out]; exact sizeTbls) ?_)
    | (go_at_call 76; (with_reducible refine (HT.out _ (hx1.trans hx2)).mono ?_); rintro e w3 ⟨rfl, hx3⟩; have c102 := (HF.out _ _ (hb2.ext hx3)).c102))
   go_ret
   exact ⟨rfl, (hx1.trans hx2).trans hx3⟩
theorem tblL_one (cs : List Int) (sl : Value) (h : ∃ A n c, sl = .slice A n c) : (tblL cs sl).toArray.all (·.oneCell') = true := by
 obtain ⟨A, n, c, rfl⟩ := h
 refine all_oneCell_toArray fun v hv => ?_
 unfold tblL at hv
 rcases List.mem_append.1 hv with hv | hv
 ·obtain ⟨z, -, rfl⟩ := List.mem_map.1 hv
  rfl
 ·rw [List.mem_singleton.1 hv]
  rfl
theorem argsOK_iff {wd hi pt ev : Int} (h : argsOK wd hi pt ev = true) : inB wd 1 64 = true ∧ inB hi 1 64 = true ∧ inB ev 0 100 = true ∧ (pt = 1 ∨ pt = 3) := by
 unfold argsOK at h
 simp only [Bool.and_eq_true, Bool.or_eq_true, beq_iff_eq] at h
 exact ⟨h.1.1.1, h.1.1.2, h.2, h.1.2⟩
theorem fcheck_any (wd hi pt ev : Int) (qs cs1 xs1 : List Int) (s1 : Value) (cs2 xs2 : List Int) (s2 : Value) (bs : List Nat) (sd : Value) (w : World) (hq : qs.length = 64) (h1 : cs1.length = 16) (h2 : cs2.length = 16)
 (hs1 : SL w 1 s1 xs1.length (ints xs1)) (hs2 : SL w 1 s2 xs2.length (ints xs2)) (hsd : SL w 1 sd bs.length (bytesV bs)) :
 Calls Tryz.prog 50 #[.agg (fileL wd hi pt qs (tblL cs1 s1) (tblL cs2 s2) ev sd).toArray] w fun e w' => e = .returned (.int .i64 (fcheckZ wd hi pt qs (checkZ cs1 xs1) (checkZ cs2 xs2) ev bs.length)) ∧ Ext w w' := by
 have o1 := tblL_one cs1 s1 (let ⟨A, c, h, _⟩ := hs1; ⟨A, _, c, h⟩)
 have o2 := tblL_one cs2 s2 (let ⟨A, c, h, _⟩ := hs2; ⟨A, _, c, h⟩)
 obtain ⟨A, c, rfl, -⟩ := hsd
 have l1 := tblL_len cs1 s1 h1
 have l2 := tblL_len cs2 s2 h2
 unfold fcheckZ
 cases ha : argsOK wd hi pt ev with
 | false => exact fcheck_no wd hi pt ev qs _ _ _ w hq l1 l2 ha
 | true =>
   obtain ⟨k1, k2, k3, hp⟩ := argsOK_iff ha
   cases kq : allIn qs 1 255 with
   | false =>
     exact fcheck_yf pt hp wd hi ev qs _ _ A _ c 0 0 w hq l1 l2 k1 k2 k3 kq
   | true =>
     exact fcheck_yt pt hp wd hi ev qs _ _ A _ c _ _ w hq l1 l2 k1 k2 k3 kq o1 o2 (fun W hW => check_any cs1 xs1 s1 W h1 (hs1.ext hW)) (fun W hW => check_any cs2 xs2 s2 W h2 (hs2.ext hW))
theorem rfcheck_any (wd hi pt ev : Int) (qs cs1 xs1 : List Int) (s1 : Value) (cs2 xs2 : List Int) (s2 : Value) (bs : List Nat) (sd : Value) (w : World) (hq : qs.length = 64) (h1 : cs1.length = 16) (h2 : cs2.length = 16)
 (hs1 : SL w 1 s1 xs1.length (ints xs1)) (hs2 : SL w 1 s2 xs2.length (ints xs2)) (hsd : SL w 1 sd bs.length (bytesV bs)) :
 Calls Tryz.prog 52 #[.agg (fileL wd hi pt qs (tblL cs1 s1) (tblL cs2 s2) ev sd).toArray] w fun e w' => e = .returned (.int .i64 (fcheckZ wd hi pt qs (checkZ cs1 xs1) (checkZ cs2 xs2) ev bs.length)) ∧ Ext w w' := by
 have o1 := tblL_one cs1 s1 (let ⟨A, c, h, _⟩ := hs1; ⟨A, _, c, h⟩)
 have o2 := tblL_one cs2 s2 (let ⟨A, c, h, _⟩ := hs2; ⟨A, _, c, h⟩)
 obtain ⟨A, c, rfl, -⟩ := hsd
 have l1 := tblL_len cs1 s1 h1
 have l2 := tblL_len cs2 s2 h2
 unfold fcheckZ
 cases ha : argsOK wd hi pt ev with
 | false => exact rfcheck_no wd hi pt ev qs _ _ _ w hq l1 l2 ha
 | true =>
   obtain ⟨k1, k2, k3, hp⟩ := argsOK_iff ha
   cases kq : allIn qs 1 255 with
   | false =>
     exact rfcheck_yf pt hp wd hi ev qs _ _ A _ c 0 0 w hq l1 l2 k1 k2 k3 kq
   | true =>
     exact rfcheck_yt pt hp wd hi ev qs _ _ A _ c _ _ w hq l1 l2 k1 k2 k3 kq o1 o2 (fun W hW => rcheck_any cs1 xs1 s1 W h1 (hs1.ext hW)) (fun W hW => rcheck_any cs2 xs2 s2 W h2 (hs2.ext hW))
def zstep (s : Int × Int × Bool) : Int × Int × Bool :=
 if s.2.2 then (if s.2.1 = 7 then (s.1 + 1, s.2.1, false) else if s.1 = 0 then (s.1, s.2.1 + 1, false) else (s.1 - 1, s.2.1 + 1, true))
 else (if s.1 = 7 then (s.1, s.2.1 + 1, true) else if s.2.1 = 0 then (s.1 + 1, s.2.1, true) else (s.1 + 1, s.2.1 - 1, false))
def zst : Nat → Int × Int × Bool
 | 0 => (0, 0, true)
 | k + 1 => zstep (zst k)
def zigAt (k : Nat) : Int := 8 * (zst k).1 + (zst k).2.1
def zigL : List Int := (List.range 64).map zigAt
theorem zst_bd (k : Nat) (h : k < 64) : 0 ≤ (zst k).1 ∧ (zst k).1 ≤ 7 ∧ 0 ≤ (zst k).2.1 ∧ (zst k).2.1 ≤ 7 :=
 (by decide +kernel : ∀ j : Fin 64, 0 ≤ (zst j.val).1 ∧ (zst j.val).1 ≤ 7 ∧ 0 ≤ (zst j.val).2.1 ∧ (zst j.val).2.1 ≤ 7) ⟨k, h⟩
theorem zigL_len : zigL.length = 64 := by simp [zigL]
theorem zigL_take_succ (k : Nat) (h : k < 64) : zigL.take (k + 1) = zigL.take k ++ [zigAt k] := by
 rw [List.take_succ_eq_append_getElem (by rw [zigL_len]; exact h)]
 simp [zigL]
theorem zigL_get (k : Nat) (h : k < zigL.length) : zigL[k] = zigAt k := by simp [zigL]
theorem zigAt_bd (k : Nat) (h : k < 64) : 0 ≤ zigAt k ∧ zigAt k < 64 := by
 have := zst_bd k h
 unfold zigAt
 omega
def zrow (s k : Nat) : List Int := (List.range k).filterMap fun (j : Nat) =>
 let r : Int := if s % 2 = 0 then 7 - (j : Int) else (j : Int)
 if 0 ≤ (s : Int) - r ∧ (s : Int) - r ≤ 7 then some (8 * r + (s - r)) else none
theorem zrow_succ (s k : Nat) : zrow s (k + 1) = zrow s k ++ (if 0 ≤ (s : Int) - (if s % 2 = 0 then 7 - (k : Int) else k) ∧ (s : Int) - (if s % 2 = 0 then 7 - (k : Int) else k) ≤ 7 then [8 * (if s % 2 = 0 then 7 - (k : Int) else k) + (s - (if s % 2 = 0 then 7 - (k : Int) else k))] else []) := by
 unfold zrow
 rw [List.range_succ, List.filterMap_append]
 congr 1
 simp only [List.filterMap_cons, List.filterMap_nil]
 by_cases h : 0 ≤ (s : Int) - (if s % 2 = 0 then 7 - (k : Int) else k) ∧ (s : Int) - (if s % 2 = 0 then 7 - (k : Int) else k) ≤ 7
 ·rw [if_pos h, if_pos h]
 ·rw [if_neg h, if_neg h]
def zall (s : Nat) : List Int := (List.range s).flatMap fun s => zrow s 8
theorem zall_succ (s : Nat) : zall (s + 1) = zall s ++ zrow s 8 := by
 unfold zall
 rw [List.range_succ, List.flatMap_append]
 simp
theorem zall_15 : zall 15 = zigL := by decide +kernel
theorem zlen (s k : Nat) (hs : s ≤ 15) (hk : k ≤ 8) : (zall s ++ zrow s k).length ≤ 200 :=
 (by decide +kernel : ∀ (s : Fin 16) (k : Fin 9), (zall s.val ++ zrow s.val k.val).length ≤ 200) ⟨s, by omega⟩ ⟨k, by omega⟩
def zfrom (zs : List Int) (k : Nat) : List Int := (List.range k).foldl (fun l i => l.set (zigAt i).toNat (zs.getD i 0)) (List.replicate 64 0)
theorem zfrom_succ (zs : List Int) (k : Nat) : zfrom zs (k + 1) = (zfrom zs k).set (zigAt k).toNat (zs.getD k 0) := by
 unfold zfrom
 rw [List.range_succ, List.foldl_append]
 rfl
theorem zfrom_len (zs : List Int) (k : Nat) : (zfrom zs k).length = 64 := by
 induction k with
 | zero => simp [zfrom]
 | succ k ih => rw [zfrom_succ]; simpa using ih
def zto (zs : List Int) : List Int := (List.range 64).map fun i => zs.getD (zigAt i).toNat 0
theorem zto_len (zs : List Int) : (zto zs).length = 64 := by simp [zto]
theorem zto_set (zs : List Int) (k : Nat) (h : k < 64) : ((zto zs).take k ++ List.replicate (64 - k) 0).set k (zs.getD (zigAt k).toNat 0) = (zto zs).take (k + 1) ++ List.replicate (64 - (k + 1)) 0 := by
 have hl : ((zto zs).take k).length = k := by rw [List.length_take, zto_len]; omega
 rw [List.set_append_right _ _ (by omega), hl, Nat.sub_self, List.take_succ_eq_append_getElem (by rw [zto_len]; exact h)]
 obtain ⟨m, hm⟩ : ∃ m, 64 - k = m + 1 := ⟨64 - k - 1, by omega⟩
 have hm2 : 64 - (k + 1) = m := by omega
 rw [hm, hm2, List.replicate_succ, List.set_cons_zero]
 simp [zto]
theorem size47 : (Tryz.prog.info? 32).map (·.size) = some 64 := by kernel_rfl
theorem zero47 : (Tryz.prog.info? 32).bind (·.zero) = some (.agg (bv (List.replicate 64 0))) := by kernel_rfl
theorem elt_int : Elt Tryz.prog 22 3 1 8 := ⟨Tryz.underlying22, by kernel_rfl, by omega⟩
theorem zord_set (k : Nat) (h : k < 64) (z : Int) : (zigL.take k ++ List.replicate (64 - k) 0).set k z = zigL.take k ++ [z] ++ List.replicate (64 - (k + 1)) 0 := by
 have hl : (zigL.take k).length = k := by rw [List.length_take, zigL_len]; omega
 rw [List.set_append_right _ _ (by omega), hl, Nat.sub_self]
 obtain ⟨m, hm⟩ : ∃ m, 64 - k = m + 1 := ⟨64 - k - 1, by omega⟩
 have hm2 : 64 - (k + 1) = m := by omega
 rw [hm, hm2, List.replicate_succ, List.set_cons_zero]
 simp
theorem tup {s : Int × Int × Bool} {a b : Int} {c : Bool} (h : s = (a, b, c)) : s.1 = a ∧ s.2.1 = b ∧ s.2.2 = c := by subst h; exact ⟨rfl, rfl, rfl⟩
set_option maxHeartbeats 800000 in
theorem order_any (w : World) : Calls Tryz.prog 139 #[] w fun e w' => e = .returned (.agg (bv zigL)) ∧ Ext w w' := by
 go_enter Tryz.func139, Tryz.ntmps139
 go_wp2_with (refine wpList_alloc_abs rfl 32 rfl _ zero47 ?_; intro w1 g hb1 hx1 hg)
 go_loopw [1, 2, 3, 5] (fun r c u i wr => ∃ k : Nat, k ≤ 64 ∧ i = .int .i64 k ∧ r = .int .i64 (zst k).1 ∧ c = .int .i64 (zst k).2.1 ∧ u = .bool (zst k).2.2 ∧ Blk wr g 32 (bv (zigL.take k ++ List.replicate (64 - k) 0)) ∧ Ext w wr) (fun _ _ _ i _ => 64 - (intOf i).toNat)
 case atStart => exact ⟨0, by omega, rfl, rfl, rfl, rfl, hb1, hx1⟩
 case round =>
  obtain ⟨k, hk, rfl, rfl, rfl, rfl, hb, hx⟩ := hrel
  by_cases hlt : k < 64
  ·obtain ⟨b1, b2, b3, b4⟩ := zst_bd k hlt
   have HS : Hid (zst (k + 1) = zstep (zst k)) := hid_ rfl
   have HZ : Hid (zigAt k = 8 * (zst k).1 + (zst k).2.1) := hid_ rfl
   obtain ⟨old, hold⟩ : ∃ u, wr.cell? ⟨g, k, none⟩ = some u := by
    rw [hb.cell k]
    exact ⟨_, bv_at _ k (by simp [zigL_len]; omega)⟩
   have hfr := hb.frozen k
   have hnew := hid_ (hb.set_ k (.int .i64 (8 * (zst k).1 + (zst k).2.1)))
   generalize hst : zst k = st at *
   obtain ⟨r, c, u⟩ := st
   have HST := hid_ hst
   clear hst
   simp only at b1 b2 b3 b4 HZ hnew
   have fin : ∀ (a b : Int) (d : Bool), zstep (r, c, u) = (a, b, d) → zst (k + 1) = (a, b, d) := fun a b d h => by rw [HS.out, h]
   have FIN := hid_ fin
   have hblk : Hid (Blk (wr.setCell ⟨g, k, none⟩ (.int .i64 (8 * r + c))) g 32 (bv (zigL.take (k + 1) ++ List.replicate (64 - (k + 1)) 0))) := by
    have := hnew.out
    rw [bv_set, zord_set k hlt] at this
    rw [zigL_take_succ k hlt, HZ.out]
    exact this
   have hxx := hid_ (hx.setCell (p := ⟨g, k, none⟩) hg (.int .i64 (8 * r + c)))
   clear fin hnew hb hx
   cases u with
   | true =>
     by_cases h7 : c = 7
     ·obtain ⟨f1, f2, f3⟩ := tup (FIN.out (r + 1) c false (by simp [zstep, h7]))
      have F := hid_ f1; have F2 := hid_ f2; have F3 := hid_ f3
      have h7' : (c == 7) = true := by simpa using h7
      clear f1 f2 f3 h7
      go_wp2_with fail
      go_roundw
      case rel => exact ⟨k + 1, by omega, by go_num, by rw [F.out], by rw [F2.out], by rw [F3.out], hblk.out, hxx.out⟩
      case measure => simp [intOf]; omega
     ·have h7' : (c == 7) = false := by simpa using h7
      by_cases h0 : r = 0
      ·obtain ⟨f1, f2, f3⟩ := tup (FIN.out r (c + 1) false (by simp [zstep, h7, h0]))
       have F := hid_ f1; have F2 := hid_ f2; have F3 := hid_ f3
       have h0' : (r == 0) = true := by simpa using h0
       clear f1 f2 f3 h7 h0
       go_wp2_with fail
       go_roundw
       case rel => exact ⟨k + 1, by omega, by go_num, by rw [F.out], by rw [F2.out], by rw [F3.out], hblk.out, hxx.out⟩
       case measure => simp [intOf]; omega
      ·obtain ⟨f1, f2, f3⟩ := tup (FIN.out (r - 1) (c + 1) true (by simp [zstep, h7, h0]))
       have F := hid_ f1; have F2 := hid_ f2; have F3 := hid_ f3
       have h0' : (r == 0) = false := by simpa using h0
       clear f1 f2 f3 h7 h0
       go_wp2_with fail
       go_roundw
       case rel => exact ⟨k + 1, by omega, by go_num, by rw [F.out], by rw [F2.out], by rw [F3.out], hblk.out, hxx.out⟩
       case measure => simp [intOf]; omega
   | false =>
     by_cases h7 : r = 7
     ·obtain ⟨f1, f2, f3⟩ := tup (FIN.out r (c + 1) true (by simp [zstep, h7]))
      have F := hid_ f1; have F2 := hid_ f2; have F3 := hid_ f3
      have h7' : (r == 7) = true := by simpa using h7
      clear f1 f2 f3 h7
      go_wp2_with fail
      go_roundw
      case rel => exact ⟨k + 1, by omega, by go_num, by rw [F.out], by rw [F2.out], by rw [F3.out], hblk.out, hxx.out⟩
      case measure => simp [intOf]; omega
     ·have h7' : (r == 7) = false := by simpa using h7
      by_cases h0 : c = 0
      ·obtain ⟨f1, f2, f3⟩ := tup (FIN.out (r + 1) c true (by simp [zstep, h7, h0]))
       have F := hid_ f1; have F2 := hid_ f2; have F3 := hid_ f3
       have h0' : (c == 0) = true := by simpa using h0
       clear f1 f2 f3 h7 h0
       go_wp2_with fail
       go_roundw
       case rel => exact ⟨k + 1, by omega, by go_num, by rw [F.out], by rw [F2.out], by rw [F3.out], hblk.out, hxx.out⟩
       case measure => simp [intOf]; omega
      ·obtain ⟨f1, f2, f3⟩ := tup (FIN.out (r + 1) (c - 1) false (by simp [zstep, h7, h0]))
       have F := hid_ f1; have F2 := hid_ f2; have F3 := hid_ f3
       have h0' : (c == 0) = false := by simpa using h0
       clear f1 f2 f3 h7 h0
       go_wp2_with fail
       go_roundw
       case rel => exact ⟨k + 1, by omega, by go_num, by rw [F.out], by rw [F2.out], by rw [F3.out], hblk.out, hxx.out⟩
       case measure => simp [intOf]; omega
  ·obtain rfl : k = 64 := by omega
   have hs : Hid ((bv zigL).size = 64) := hid_ (by rw [bv_size, zigL_len])
   have ho := hid_ (bv_one zigL)
   have e : zigL.take 64 ++ List.replicate (64 - 64) 0 = zigL := by rw [List.take_of_length_le (by rw [zigL_len]; omega)]; simp
   rw [e] at hb
   clear e
   generalize hcz : bv zigL = cz at *
   have HCZ := hid_ hcz
   clear hcz
   go_wp2_with (first
    | (refine wLdB rfl 32 (.tmp 0) rfl _ rfl hb _ Tryz.underlying32 rfl 64 size47 hs.out ?_)
    | (refine wStB rfl 32 (.tmp 0) (.tmp 51) rfl _ _ rfl rfl hb 64 size47 hs.out hs.out ho.out ?_; intro w7 hb7 hg7))
   exact ret_cell rfl rfl _ rfl hb7 _ Tryz.underlying32 rfl 64 size47 hs.out ⟨by rw [HCZ.out], hx.grown hg7 hg⟩
set_option maxHeartbeats 800000 in
theorem rzigOrder_own (w : World) : Calls Tryz.prog 185 #[] w fun e w' => ∃ v, e = .returned v ∧ w'.ownsRow w.heap.size 3 1 v 64 (ints zigL) ∧ Ext w w' := by
 go_enter Tryz.func185, Tryz.ntmps185
 go_wp2_with fail
 go_loopw [1, 6] (fun v i wr => ∃ s : Nat, s ≤ 15 ∧ i = .int .i64 s ∧ wr.ownsRow w.heap.size 3 1 v (zall s).length (ints (zall s)) ∧ Ext w wr) (fun _ i _ => 15 - (intOf i).toNat)
 case atStart => exact ⟨0, by omega, rfl, World.ownsRow_nil _ _ _ _, Ext.refl w⟩
 case round =>
  obtain ⟨s, hs, rfl, hown, hx⟩ := hrel
  by_cases hlt : s < 15
  ·have hsd : decide ((s : Int) < 15) = true := by simp; omega
   go_wp2_with fail
   obtain ⟨wo, rfl⟩ : ∃ wo : World, wo = wr := ⟨_, rfl⟩
   go_loopw [1, 9] (fun v i wr => ∃ k : Nat, k ≤ 8 ∧ i = .int .i64 k ∧ wr.ownsRow w.heap.size 3 1 v (zall s ++ zrow s k).length (ints (zall s ++ zrow s k)) ∧ Ext w wr) (fun _ i _ => 8 - (intOf i).toNat)
   case atStart => exact ⟨0, by omega, rfl, by simpa [zrow] using hown, hx⟩
   case round =>
    obtain ⟨k, hk, rfl, hown2, hx2⟩ := hrel
    by_cases hlk : k < 8
    ·have hzl := zlen s k hs hk
     have hlen : (ints (zall s ++ zrow s k)).length = (zall s ++ zrow s k).length := ints_len _
     have HZ := hid_ (zrow_succ s k)
     by_cases hp : s % 2 = 0
     ·have hp' : ((s : Int) % 2 == 0) = true := by simp; omega
      rw [if_pos hp] at HZ
      cases hq : inB ((s : Int) - (7 - (k : Int))) 0 7 with
      | true =>
        have hin := inB_iff.1 hq
        have HZ2 := hid_ (HZ.out.trans (by rw [if_pos hin]))
        clear HZ hin hp hlen
        go_wp2_with (first
         | (go_at_call 54; refine (outside_any _ _ _ _).mono ?_; rintro e w' ⟨rfl, rfl⟩)
         | (at_builtin; go_must (refine wpList_append_sl elt_int rfl _ _ rfl w.heap.size _ _ _ rfl (hown2.alloc _) _ 1 [.int .i64 _] rfl (one_sl _ _ _) (int_one _) (by omega) (by omega) (by have := hx2.size; simp; omega) ?_); intro v' w7 hown7 hb7))
        go_roundw
        case rel =>
         refine ⟨k + 1, by omega, by go_num, ?_, (hx2.alloc _).trans' hb7⟩
         rw [HZ2.out, ← List.append_assoc]
         exact own_snoc hown7
        case measure => simp [intOf]; omega
      | false =>
        have hin := inB_not.1 hq
        have HZ2 := hid_ (HZ.out.trans (by rw [if_neg (by omega)]))
        clear HZ hin hp hlen
        go_wp2_with (go_at_call 54; refine (outside_any _ _ _ _).mono ?_; rintro e w' ⟨rfl, rfl⟩)
        go_roundw
        case rel => exact ⟨k + 1, by omega, by go_num, by rw [HZ2.out, List.append_nil]; exact hown2, hx2⟩
        case measure => simp [intOf]; omega
     ·have hp' : ((s : Int) % 2 == 0) = false := by simp; omega
      rw [if_neg hp] at HZ
      cases hq : inB ((s : Int) - (k : Int)) 0 7 with
      | true =>
        have hin := inB_iff.1 hq
        have HZ2 := hid_ (HZ.out.trans (by rw [if_pos hin]))
        clear HZ hin hp hlen
        go_wp2_with (first
         | (go_at_call 54; refine (outside_any _ _ _ _).mono ?_; rintro e w' ⟨rfl, rfl⟩)
         | (at_builtin; go_must (refine wpList_append_sl elt_int rfl _ _ rfl w.heap.size _ _ _ rfl (hown2.alloc _) _ 1 [.int .i64 _] rfl (one_sl _ _ _) (int_one _) (by omega) (by omega) (by have := hx2.size; simp; omega) ?_); intro v' w7 hown7 hb7))
        go_roundw
        case rel =>
         refine ⟨k + 1, by omega, by go_num, ?_, (hx2.alloc _).trans' hb7⟩
         rw [HZ2.out, ← List.append_assoc]
         exact own_snoc hown7
        case measure => simp [intOf]; omega
      | false =>
        have hin := inB_not.1 hq
        have HZ2 := hid_ (HZ.out.trans (by rw [if_neg (by omega)]))
        clear HZ hin hp hlen
        go_wp2_with (go_at_call 54; refine (outside_any _ _ _ _).mono ?_; rintro e w' ⟨rfl, rfl⟩)
        go_roundw
        case rel => exact ⟨k + 1, by omega, by go_num, by rw [HZ2.out, List.append_nil]; exact hown2, hx2⟩
        case measure => simp [intOf]; omega
    ·obtain rfl : k = 8 := by omega
     have HS := hid_ (zall_succ s)
     go_wp2_with fail
     go_roundw
     case rel => exact ⟨s + 1, by omega, by go_num, by rw [HS.out]; exact hown2, hx2⟩
     case measure => simp [intOf]; omega
  ·obtain rfl : s = 15 := by omega
   rw [zall_15] at hown
   rw [zigL_len] at hown
   have HSL := hid_ hown
   clear hown
   go_wp2_with fail
   go_ret
   exact ⟨_, rfl, HSL.out, hx⟩
theorem rzigOrder_sl (w : World) : Calls Tryz.prog 185 #[] w fun e w' => ∃ A c, e = .returned (.slice A 64 c) ∧ SL w' 1 (.slice A 64 c) 64 (ints zigL) ∧ (∀ ad, A = some ad → w.heap.size ≤ ad.block) ∧ Ext w w' :=
 (rzigOrder_own w).mono fun e w' ⟨v, he, hs, hx⟩ => by
   obtain ⟨A, c, rfl, h1, h2⟩ := own_form hs
   exact ⟨A, c, he, h1, h2, hx⟩
theorem run_index47 (cs : Array Value) (i : Nat) (u : Value) (hi : i < 64) (hu : cs[i]? = some u) (w : World) : (Instr.index 32 (.agg cs) (.int .i64 (i : Int))).run Tryz.prog w = .ok u w :=
 run_index_agg _ _ 64 cs i u Tryz.underlying32 _ Tryz.underlying3 sizeInt hi hu w
theorem zigN (k : Nat) (h : k < 64) : ∃ n : Nat, zigAt k = (n : Int) ∧ n < 64 := by
 have := zigAt_bd k h
 exact ⟨(zigAt k).toNat, by omega, by omega⟩
set_option maxHeartbeats 400000 in
theorem zto_any (zs : List Int) (w : World) (hz : zs.length = 64) : Calls Tryz.prog 80 #[.agg (bv zs)] w fun e w' => e = .returned (.agg (bv (zto zs))) ∧ Ext w w' := by
 have HO := hid_ (fun W => order_any W)
 have HIX := hid_ (fun W (k n : Nat) (hk : k < 64) (hn : zigAt k = (n : Int)) => run_index47 (bv zigL) k (.int .i64 (n : Int)) hk (by rw [← hn, bv_at zigL k (by rw [zigL_len]; exact hk), zigL_get]) W)
 have HZ := hid_ hz
 generalize bv zigL = co at *
 generalize hc0 : bv zs = cz at *
 have HC0 := hid_ hc0
 clear hz hc0
 go_enter Tryz.func80, Tryz.ntmps80
 go_wp2_with (first
  | (refine wBox rfl 33 (.tmp 0) rfl cz rfl ?_; intro w1 gz hbz1 hx1 hgz)
  | (refine wAlo' rfl (some 2) rfl 33 rfl _ zero48 ?_; intro w2 go hbo2 hx2 hgo; have hbz2 := hbz1.ext hx2)
  | (go_at_call 139; refine (HO.out _).mono ?_; rintro e w3 ⟨rfl, hx3⟩; have hbz := hbz2.ext hx3; have hbo := hbo2.ext hx3))
 have hne : go ≠ gz := by have := hbz1.lt; omega
 have hgo' : w.heap.size ≤ go := by have := hx1.size; omega
 have hxx := (hx1.trans hx2).trans hx3
 clear hbz1 hbz2 hbo2 hx1 hx2 hx3
 go_loopw [6] (fun i wr => ∃ k : Nat, k ≤ 64 ∧ i = .int .i64 k ∧ Blk wr gz 33 cz ∧ Blk wr go 33 (bv ((zto zs).take k ++ List.replicate (64 - k) 0)) ∧ Ext w wr) (fun i _ => 64 - (intOf i).toNat)
 case atStart => exact ⟨0, by omega, rfl, hbz, by rw [show (zto zs).take 0 ++ List.replicate (64 - 0) 0 = zeros64 from rfl]; exact hbo, hxx⟩
 case round =>
  obtain ⟨k, hk, rfl, hb1, hb2, hx⟩ := hrel
  by_cases hlt : k < 64
  ·obtain ⟨n, hn, hn64⟩ := zigN k hlt
   have HN := hid_ hn
   have hzl : n < zs.length := by have := HZ.out; omega
   have HD : Hid (zs.getD n 0 = zs[n]) := hid_ (by simp [hzl])
   have hlz : wr.cell? ⟨gz, n, none⟩ = some (.int .i64 zs[n]) := (hb1.cell n).trans (by rw [← HC0.out]; exact bv_at zs n hzl)
   obtain ⟨old, hold⟩ : ∃ u, wr.cell? ⟨go, k, none⟩ = some u := by
    rw [hb2.cell k]
    have hl : ((zto zs).take k ++ List.replicate (64 - k) 0).length = 64 := by simp [zto_len]; omega
    exact ⟨_, bv_at _ k (by omega)⟩
   have hfr := hb2.frozen k
   have hix := fun W => HIX.out W k n hlt HN.out
   clear hn
   go_wp2_with fail
   go_roundw
   case rel =>
    refine ⟨k + 1, by omega, by go_num, hb1.far (p := ⟨go, k, none⟩) (by simpa using hne.symm) _, ?_, hx.setCell hgo' _⟩
    have := hb2.set_ k (.int .i64 zs[n])
    rw [bv_set] at this
    have e := zto_set zs k hlt
    rw [HN.out, Int.toNat_natCast, HD.out] at e
    rw [← e]
    exact this
   case measure => simp [intOf]; omega
  ·obtain rfl : k = 64 := by omega
   have e : (zto zs).take 64 ++ List.replicate (64 - 64) 0 = zto zs := by rw [List.take_of_length_le (by rw [zto_len]; omega)]; simp
   rw [e] at hb2
   clear e
   have hs : Hid ((bv (zto zs)).size = 64) := hid_ (by rw [bv_size, zto_len])
   have ho := hid_ (bv_one (zto zs))
   generalize hcr : bv (zto zs) = cr at *
   have HC := hid_ hcr
   clear hcr
   go_wp2_with (first
    | (refine wLdB rfl 33 (.tmp 2) rfl _ rfl hb2 _ Tryz.underlying33 rfl 64 size48 hs.out ?_)
    | (refine wStB rfl 33 (.tmp 2) (.tmp 16) rfl _ _ rfl rfl hb2 64 size48 hs.out hs.out ho.out ?_; intro w7 hb7 hg7))
   exact ret_cell rfl rfl _ rfl hb7 _ Tryz.underlying33 rfl 64 size48 hs.out ⟨by rw [HC.out], hx.grown hg7 hgo'⟩
set_option maxHeartbeats 400000 in
theorem rzto_any (zs : List Int) (w : World) (hz : zs.length = 64) : Calls Tryz.prog 158 #[.agg (bv zs)] w fun e w' => e = .returned (.agg (bv (zto zs))) ∧ Ext w w' := by
 have HZ := hid_ hz
 generalize hc0 : bv zs = cz at *
 have HC0 := hid_ hc0
 clear hz hc0
 go_enter Tryz.func158, Tryz.ntmps158
 go_wp2_with (first
  | (refine wBox rfl 33 (.tmp 0) rfl cz rfl ?_; intro w1 gz hbz1 hx1 hgz)
  | (refine wAlo' rfl (some 2) rfl 33 rfl _ zero48 ?_; intro w2 gr hbr2 hx2 hgr; have hbz2 := hbz1.ext hx2)
  | (refine wAlo' rfl (some 3) rfl 33 rfl _ zero48 ?_; intro w3 go hbo3 hx3 hgo; have hbz3 := hbz2.ext hx3; have hbr3 := hbr2.ext hx3)
  | (go_at_call 185; refine (rzigOrder_sl _).mono ?_; rintro e w4 ⟨A, c, rfl, hsl, hfs, hx4⟩; have hbz := hbz3.ext hx4; have hbo := hbo3.ext hx4; have hbr := hbr3.ext hx4))
 have hne : go ≠ gz := by have := hbz2.lt; omega
 have hne2 : go ≠ gr := by have := hbr2.lt; omega
 have hgo' : w.heap.size ≤ go := by have := hx1.size; have := hx2.size; omega
 have hgr' : w.heap.size ≤ gr := by have := hx1.size; omega
 have hxx := ((hx1.trans hx2).trans hx3).trans hx4
 have hnsl := hid_ (fun ad h => (show (ad : Addr).block ≠ go by have := hfs ad h; have := hbo3.lt; omega))
 clear hbz1 hbz2 hbz3 hbo3 hbr2 hbr3 hx1 hx2 hx3 hx4 hfs
 go_loopw [8] (fun i wr => ∃ k : Nat, k ≤ 64 ∧ i = .int .i64 k ∧ Blk wr gz 33 cz ∧ Blk wr go 33 (bv ((zto zs).take k ++ List.replicate (64 - k) 0)) ∧ Blk wr gr 33 (bv zeros64) ∧ SL wr 1 (.slice A 64 c) 64 (ints zigL) ∧ Ext w wr) (fun i _ => 64 - (intOf i).toNat)
 case atStart => exact ⟨0, by omega, rfl, hbz, by rw [show (zto zs).take 0 ++ List.replicate (64 - 0) 0 = zeros64 from rfl]; exact hbo, hbr, hsl, hxx⟩
 case round =>
  obtain ⟨k, hk, rfl, hb1, hb2, hbr, hsl, hx⟩ := hrel
  by_cases hlt : k < 64
  ·obtain ⟨n, hn, hn64⟩ := zigN k hlt
   have HN := hid_ hn
   have hzl : n < zs.length := by have := HZ.out; omega
   have HD : Hid (zs.getD n 0 = zs[n]) := hid_ (by simp [hzl])
   have hlz : wr.cell? ⟨gz, n, none⟩ = some (.int .i64 zs[n]) := (hb1.cell n).trans (by rw [← HC0.out]; exact bv_at zs n hzl)
   obtain ⟨old, hold⟩ : ∃ u, wr.cell? ⟨go, k, none⟩ = some u := by
    rw [hb2.cell k]
    have hl : ((zto zs).take k ++ List.replicate (64 - k) 0).length = 64 := by simp [zto_len]; omega
    exact ⟨_, bv_at _ k (by omega)⟩
   have hfr := hb2.frozen k
   obtain ⟨ad, u, rfl, -, hxo, hco⟩ := hsl.at1 hlt
   obtain ⟨hko, rfl⟩ := ints_at _ _ _ hxo
   have e0 : zigL[k] = (n : Int) := by rw [zigL_get, HN.out]
   rw [e0] at hco
   clear e0 hxo
   clear hn
   go_wp2_with fail
   go_roundw
   case rel =>
    refine ⟨k + 1, by omega, by go_num, hb1.far (p := ⟨go, k, none⟩) (by simpa using hne.symm) _, ?_, hbr.far (p := ⟨go, k, none⟩) (by simpa using hne2.symm) _, hsl.far (by intro ad' h; exact hnsl.out ad' h) _, hx.setCell hgo' _⟩
    have := hb2.set_ k (.int .i64 zs[n])
    rw [bv_set] at this
    have e := zto_set zs k hlt
    rw [HN.out, Int.toNat_natCast, HD.out] at e
    rw [← e]
    exact this
   case measure => simp [intOf]; omega
  ·obtain rfl : k = 64 := by omega
   have e : (zto zs).take 64 ++ List.replicate (64 - 64) 0 = zto zs := by rw [List.take_of_length_le (by rw [zto_len]; omega)]; simp
   rw [e] at hb2
   clear e
   have hs : Hid ((bv (zto zs)).size = 64) := hid_ (by rw [bv_size, zto_len])
   have ho := hid_ (bv_one (zto zs))
   generalize hcr : bv (zto zs) = cr at *
   have HC := hid_ hcr
   clear hcr
   go_wp2_with (first
    | (refine wLdB rfl 33 (.tmp 3) rfl _ rfl hb2 _ Tryz.underlying33 rfl 64 size48 hs.out ?_)
    | (refine wStB rfl 33 (.tmp 2) (.tmp 19) rfl _ _ rfl rfl hbr 64 size48 hs.out (by rw [bv_size]; rfl) ho.out ?_; intro w7 hb7 hg7))
   exact ret_cell rfl rfl _ rfl hb7 _ Tryz.underlying33 rfl 64 size48 hs.out ⟨by rw [HC.out], hx.grown hg7 hgr'⟩
set_option maxHeartbeats 400000 in
theorem zfrom_any (zs : List Int) (w : World) (hz : zs.length = 64) : Calls Tryz.prog 82 #[.agg (bv zs)] w fun e w' => e = .returned (.agg (bv (zfrom zs 64))) ∧ Ext w w' := by
 have HO := hid_ (fun W => order_any W)
 have HIX := hid_ (fun W (k n : Nat) (hk : k < 64) (hn : zigAt k = (n : Int)) => run_index47 (bv zigL) k (.int .i64 (n : Int)) hk (by rw [← hn, bv_at zigL k (by rw [zigL_len]; exact hk), zigL_get]) W)
 have HZ := hid_ hz
 generalize bv zigL = co at *
 generalize hc0 : bv zs = cz at *
 have HC0 := hid_ hc0
 clear hz hc0
 go_enter Tryz.func82, Tryz.ntmps82
 go_wp2_with (first
  | (refine wBox rfl 33 (.tmp 0) rfl cz rfl ?_; intro w1 gz hbz1 hx1 hgz)
  | (refine wAlo' rfl (some 2) rfl 33 rfl _ zero48 ?_; intro w2 go hbo2 hx2 hgo; have hbz2 := hbz1.ext hx2)
  | (go_at_call 139; refine (HO.out _).mono ?_; rintro e w3 ⟨rfl, hx3⟩; have hbz := hbz2.ext hx3; have hbo := hbo2.ext hx3))
 have hne : go ≠ gz := by have := hbz1.lt; omega
 have hgo' : w.heap.size ≤ go := by have := hx1.size; omega
 have hxx := (hx1.trans hx2).trans hx3
 clear hbz1 hbz2 hbo2 hx1 hx2 hx3
 go_loopw [6] (fun i wr => ∃ k : Nat, k ≤ 64 ∧ i = .int .i64 k ∧ Blk wr gz 33 cz ∧ Blk wr go 33 (bv (zfrom zs k)) ∧ Ext w wr) (fun i _ => 64 - (intOf i).toNat)
 case atStart => exact ⟨0, by omega, rfl, hbz, hbo, hxx⟩
 case round =>
  obtain ⟨k, hk, rfl, hb1, hb2, hx⟩ := hrel
  by_cases hlt : k < 64
  ·obtain ⟨n, hn, hn64⟩ := zigN k hlt
   have HN := hid_ hn
   have hzl : k < zs.length := by have := HZ.out; omega
   have HD : Hid (zs.getD k 0 = zs[k]) := hid_ (by simp [hzl])
   have hlz : wr.cell? ⟨gz, k, none⟩ = some (.int .i64 zs[k]) := (hb1.cell k).trans (by rw [← HC0.out]; exact bv_at zs k hzl)
   obtain ⟨old, hold⟩ : ∃ u, wr.cell? ⟨go, n, none⟩ = some u := by
    rw [hb2.cell n]
    have hl : (zfrom zs k).length = 64 := zfrom_len zs k
    exact ⟨_, bv_at _ n (by omega)⟩
   have hfr := hb2.frozen n
   have hix := fun W => HIX.out W k n hlt HN.out
   clear hn
   go_wp2_with fail
   go_roundw
   case rel =>
    refine ⟨k + 1, by omega, by go_num, hb1.far (p := ⟨go, n, none⟩) (by simpa using hne.symm) _, ?_, hx.setCell hgo' _⟩
    have := hb2.set_ n (.int .i64 zs[k])
    rw [bv_set] at this
    rw [zfrom_succ, HN.out, Int.toNat_natCast, HD.out]
    exact this
   case measure => simp [intOf]; omega
  ·obtain rfl : k = 64 := by omega
   have hs : Hid ((bv (zfrom zs 64)).size = 64) := hid_ (by rw [bv_size, zfrom_len])
   have ho := hid_ (bv_one (zfrom zs 64))
   generalize hcr : bv (zfrom zs 64) = cr at *
   have HC := hid_ hcr
   clear hcr
   go_wp2_with (first
    | (refine wLdB rfl 33 (.tmp 2) rfl _ rfl hb2 _ Tryz.underlying33 rfl 64 size48 hs.out ?_)
    | (refine wStB rfl 33 (.tmp 2) (.tmp 16) rfl _ _ rfl rfl hb2 64 size48 hs.out hs.out ho.out ?_; intro w7 hb7 hg7))
   exact ret_cell rfl rfl _ rfl hb7 _ Tryz.underlying33 rfl 64 size48 hs.out ⟨by rw [HC.out], hx.grown hg7 hgo'⟩
set_option maxHeartbeats 400000 in
theorem rzfrom_any (zs : List Int) (w : World) (hz : zs.length = 64) : Calls Tryz.prog 193 #[.agg (bv zs)] w fun e w' => e = .returned (.agg (bv (zfrom zs 64))) ∧ Ext w w' := by
 have HZ := hid_ hz
 generalize hc0 : bv zs = cz at *
 have HC0 := hid_ hc0
 clear hz hc0
 go_enter Tryz.func193, Tryz.ntmps193
 go_wp2_with (first
  | (refine wBox rfl 33 (.tmp 0) rfl cz rfl ?_; intro w1 gz hbz1 hx1 hgz)
  | (refine wAlo' rfl (some 2) rfl 33 rfl _ zero48 ?_; intro w2 gr hbr2 hx2 hgr; have hbz2 := hbz1.ext hx2)
  | (refine wAlo' rfl (some 3) rfl 33 rfl _ zero48 ?_; intro w3 go hbo3 hx3 hgo; have hbz3 := hbz2.ext hx3; have hbr3 := hbr2.ext hx3)
  | (go_at_call 185; refine (rzigOrder_sl _).mono ?_; rintro e w4 ⟨A, c, rfl, hsl, hfs, hx4⟩; have hbz := hbz3.ext hx4; have hbo := hbo3.ext hx4; have hbr := hbr3.ext hx4))
 have hne : go ≠ gz := by have := hbz2.lt; omega
 have hne2 : go ≠ gr := by have := hbr2.lt; omega
 have hgo' : w.heap.size ≤ go := by have := hx1.size; have := hx2.size; omega
 have hgr' : w.heap.size ≤ gr := by have := hx1.size; omega
 have hxx := ((hx1.trans hx2).trans hx3).trans hx4
 have hnsl := hid_ (fun ad h => (show (ad : Addr).block ≠ go by have := hfs ad h; have := hbo3.lt; omega))
 clear hbz1 hbz2 hbz3 hbo3 hbr2 hbr3 hx1 hx2 hx3 hx4 hfs
 go_loopw [8] (fun i wr => ∃ k : Nat, k ≤ 64 ∧ i = .int .i64 k ∧ Blk wr gz 33 cz ∧ Blk wr go 33 (bv (zfrom zs k)) ∧ Blk wr gr 33 (bv zeros64) ∧ SL wr 1 (.slice A 64 c) 64 (ints zigL) ∧ Ext w wr) (fun i _ => 64 - (intOf i).toNat)
 case atStart => exact ⟨0, by omega, rfl, hbz, hbo, hbr, hsl, hxx⟩
 case round =>
  obtain ⟨k, hk, rfl, hb1, hb2, hbr, hsl, hx⟩ := hrel
  by_cases hlt : k < 64
  ·obtain ⟨n, hn, hn64⟩ := zigN k hlt
   have HN := hid_ hn
   have hzl : k < zs.length := by have := HZ.out; omega
   have HD : Hid (zs.getD k 0 = zs[k]) := hid_ (by simp [hzl])
   have hlz : wr.cell? ⟨gz, k, none⟩ = some (.int .i64 zs[k]) := (hb1.cell k).trans (by rw [← HC0.out]; exact bv_at zs k hzl)
   obtain ⟨old, hold⟩ : ∃ u, wr.cell? ⟨go, n, none⟩ = some u := by
    rw [hb2.cell n]
    have hl : (zfrom zs k).length = 64 := zfrom_len zs k
    exact ⟨_, bv_at _ n (by omega)⟩
   have hfr := hb2.frozen n
   obtain ⟨ad, u, rfl, -, hxo, hco⟩ := hsl.at1 hlt
   obtain ⟨hko, rfl⟩ := ints_at _ _ _ hxo
   have e0 : zigL[k] = (n : Int) := by rw [zigL_get, HN.out]
   rw [e0] at hco
   clear e0 hxo
   clear hn
   go_wp2_with fail
   go_roundw
   case rel =>
    refine ⟨k + 1, by omega, by go_num, hb1.far (p := ⟨go, n, none⟩) (by simpa using hne.symm) _, ?_, hbr.far (p := ⟨go, n, none⟩) (by simpa using hne2.symm) _, hsl.far (by intro ad' h; exact hnsl.out ad' h) _, hx.setCell hgo' _⟩
    have := hb2.set_ n (.int .i64 zs[k])
    rw [bv_set] at this
    rw [zfrom_succ, HN.out, Int.toNat_natCast, HD.out]
    exact this
   case measure => simp [intOf]; omega
  ·obtain rfl : k = 64 := by omega
   have hs : Hid ((bv (zfrom zs 64)).size = 64) := hid_ (by rw [bv_size, zfrom_len])
   have ho := hid_ (bv_one (zfrom zs 64))
   generalize hcr : bv (zfrom zs 64) = cr at *
   have HC := hid_ hcr
   clear hcr
   go_wp2_with (first
    | (refine wLdB rfl 33 (.tmp 3) rfl _ rfl hb2 _ Tryz.underlying33 rfl 64 size48 hs.out ?_)
    | (refine wStB rfl 33 (.tmp 2) (.tmp 19) rfl _ _ rfl rfl hbr 64 size48 hs.out (by rw [bv_size]; rfl) ho.out ?_; intro w7 hb7 hg7))
   exact ret_cell rfl rfl _ rfl hb7 _ Tryz.underlying33 rfl 64 size48 hs.out ⟨by rw [HC.out], hx.grown hg7 hgr'⟩
theorem elt_by : Elt Tryz.prog 45 5 1 1 := ⟨Tryz.underlying45, by kernel_rfl, by omega⟩
section
variable {o : Oper} {a : Act}
theorem ex_idx {t e : TypeId} {m : Nat} (ht : Tryz.prog.underlying t = some (.array m e)) {k : IntKind} (he : Tryz.prog.underlying e = some (.int k)) (hs : (Tryz.prog.info? e).map (·.size) = some 1) {x ix : Operand} (ho : o.op = .index t x ix) {cs : Array Value} {i : Nat} {u : Value} (hx : a.eval x = .agg cs) (hi : a.eval ix = .int .i64 (i : Int)) (h : i < m) (hu : cs[i]? = some u) (w : World) :
 (execOp a.eval o).run Tryz.prog w = .ok (.value u) w := by
 simp only [execOp, ho, hx, hi, Sem.run_bind, run_index_agg t e m cs i u ht k he hs h hu w, Result.andThen_ok, Sem.run_pure]
end
theorem zero48k : (Value.agg (bv zeros64)).cells.size = 64 := by rw [show (Value.agg (bv zeros64)).cells = bv zeros64 from rfl, bv_size]; rfl
end Go.Proofs.YtkggcjdlpendfaaGreatDoor
