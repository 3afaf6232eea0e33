/- Contracts for the law RescueDecodesCard, part 9: what the functions that it reaches answer, for all arguments that the theorems name. -/
import Derived.Test.YtkggcjdlpendfaaGreatDoorMRescueDecodesCard8
import Derived.Test.YtkggcjdlpendfaaGreatDoorMRescueDecodesCard1
import Derived.Test.YtkggcjdlpendfaaGreatDoorMRescueDecodesCard7
import Derived.StillTailTactics
import Derived.Test.YtkggcjdlpendfaaGreatDoorMRescueDecodesCard3
import Derived.Deep.MidRow
import Derived.Great.Walk
import Derived.Test.YtkggcjdlpendfaaGreatDoorMRescueDecodesCard2
namespace Go.Proofs.YtkggcjdlpendfaaGreatDoor
set_option linter.unusedVariables false
set_option linter.unusedSimpArgs false
open Go.RowKit
def tabZ (n m : Nat) : Int := if m < n then basisZ (m / 8) (m % 8) else 0
def tabL (n : Nat) : List Int := (List.range 64).map (tabZ n)
theorem tabL_len (n : Nat) : (tabL n).length = 64 := by simp [tabL]
theorem tabL_zero : tabL 0 = List.replicate 64 0 := by
 refine List.ext_getElem (by simp [tabL]) fun m h1 h2 => ?_
 simp only [tabL, List.getElem_map, List.getElem_range, List.getElem_replicate, tabZ]
 simp
theorem tabL_set (u x : Nat) (hu : u < 8) (hx : x < 8) : (tabL (8 * u + x)).set (8 * u + x) (basisZ u x) = tabL (8 * u + x + 1) := by
 refine range_set _ _ _ _ (by omega) ?_ ?_
 ·unfold tabZ
  rw [if_pos (by omega), show (8 * u + x) / 8 = u by omega, show (8 * u + x) % 8 = x by omega]
 ·intro m hm
  unfold tabZ
  by_cases h : m < 8 * u + x
  ·rw [if_pos h, if_pos (by omega)]
  ·rw [if_neg h, if_neg (by omega)]
theorem tabL_at (u x : Nat) (hu : u < 8) (hx : x < 8) : (bv (tabL 64))[8 * u + x]? = some (.int .i64 (basisZ u x)) := by
 rw [bv_at _ _ (by rw [tabL_len]; omega)]
 simp only [tabL, List.getElem_map, List.getElem_range, tabZ]
 rw [if_pos (by omega), show (8 * u + x) / 8 = u by omega, show (8 * u + x) % 8 = x by omega]
def fillL (F : Nat → Int) (i : Nat) : List Int := (List.range i).map F ++ List.replicate (64 - i) 0
theorem fillL_len (F : Nat → Int) (i : Nat) (h : i ≤ 64) : (fillL F i).length = 64 := by simp [fillL]; omega
theorem fillL_set (F : Nat → Int) (i : Nat) (hi : i < 64) : (fillL F i).set i (F i) = fillL F (i + 1) := by
 unfold fillL
 have hl : ((List.range i).map F).length = i := by simp
 rw [List.set_append_right _ _ (by omega), hl, Nat.sub_self]
 obtain ⟨j, hj⟩ : ∃ j, 64 - i = j + 1 := ⟨64 - i - 1, by omega⟩
 have hj2 : 64 - (i + 1) = j := by omega
 rw [hj, hj2, List.replicate_succ, List.set_cons_zero, List.range_succ, List.map_append]
 simp
theorem waveL_eq (C : Nat → Nat → Int) (zs : List Int) : waveL C zs = fillL (fun i => roundF (waveAt C zs i)) 64 := by
 unfold waveL fillL
 rw [along_along]
 simp
theorem waveTerm_bd (C : Nat → Nat → Int) (zs : List Int) (hzb : ∀ z ∈ zs, -40000 ≤ z ∧ z ≤ 40000) (hC : ∀ i k, -4096 ≤ C i k ∧ C i k ≤ 4096) (i k : Nat) :
 -163840000 ≤ zs.getD k 0 * C (i % 8) (k % 8) ∧ zs.getD k 0 * C (i % 8) (k % 8) ≤ 163840000 ∧ -671088640000 ≤ waveTerm C zs i k ∧ waveTerm C zs i k ≤ 671088640000 := by
 have hz : -40000 ≤ zs.getD k 0 ∧ zs.getD k 0 ≤ 40000 := by
  rw [List.getD_eq_getElem?_getD]
  rcases Nat.lt_or_ge k zs.length with h | h
  ·rw [List.getElem?_eq_getElem h]; exact hzb _ (List.getElem_mem h)
  ·rw [List.getElem?_eq_none h]; simp
 have a := hC (i % 8) (k % 8)
 have b := hC (i / 8) (k / 8)
 have h1 := term_bd _ _ 40000 4096 (by omega) hz.1 hz.2 a.1 a.2
 have h2 := term_bd (zs.getD k 0 * C (i % 8) (k % 8)) _ 163840000 4096 (by omega) (by omega) (by omega) b.1 b.2
 unfold waveTerm
 omega
set_option maxRecDepth 20000 in
set_option maxHeartbeats 1000000 in
theorem rwaveFrom_in (zs : List Int) (w : World) (hz : zs.length = 64) (hal : allIn zs (-40000) 40000 = true) :
 Calls Tryz.prog 71 #[.agg (bv zs), .bool false] w fun e w' => e = .returned (.tuple #[.agg (bv (waveL frC zs)), .int .i64 0]) ∧ Ext w w' := by
 have HBW := hid_ (fun W => blockWithin_any zs (-40000) 40000 W hz)
 rw [hal] at HBW
 have HTB := hid_ (waveTerm_bd frC zs (allIn_iff.1 hal) (fun i k => basisZ_bd _ _))
 have HSB := hid_ (fun i k (_ : k ≤ 64) => sumTo_bd k (waveTerm frC zs i) 671088640000 (fun j _ => ⟨(waveTerm_bd frC zs (allIn_iff.1 hal) (fun i k => basisZ_bd _ _) i j).2.2.1, (waveTerm_bd frC zs (allIn_iff.1 hal) (fun i k => basisZ_bd _ _) i j).2.2.2⟩))
 have hsz := hid_ ((bv_size zs).trans hz)
 have HZ := hid_ hz
 have HAT := hid_ (fun k (hk : k < zs.length) => bv_at zs k hk)
 have HRB := hid_ (fun u x W (hu : u < 8) (hx : x < 8) => rbasis_any u x W (by omega) (by omega))
 have HPW : Hid (∀ W, Calls Tryz.prog 128 #[.int .i64 26] W fun e w' => e = .returned (.int .i64 67108864) ∧ W = w') := hid_ (fun W => by
  have h := power_any 26 W (by omega)
  rw [show (2 : Int) ^ 26 = 67108864 from by decide] at h
  exact h)
 have HT : Hid (∀ (W : World) {g6 : Nat}, Blk W g6 164 (bv (tabL 64)) → ∀ u x, u < 8 → x < 8 → W.cell? ⟨g6, 8 * u + x, none⟩ = some (.int .i64 (basisZ u x))) := hid_ (fun W g6 h u x hu hx => (h.cell _).trans (tabL_at u x hu hx))
 obtain ⟨F, hF⟩ : ∃ F : Nat → Int, F = fun i => roundF (waveAt frC zs i) := ⟨_, rfl⟩
 have HF := hid_ (show waveL frC zs = fillL F 64 by rw [hF, waveL_eq])
 have HFI : Hid (∀ i, roundF (waveAt frC zs i) = F i) := hid_ (fun i => by rw [hF])
 clear hF hal hz
 generalize bv zs = cz at *
 go_enter Tryz.func71, Tryz.ntmps71
 go_wp2_with (first
  | (refine wBox rfl 33 (.tmp 0) rfl cz rfl ?_; intro w1 gz hbz1 hx1 hgz)
  | (refine wAlo' rfl (some 4) rfl 33 rfl _ zero48 ?_; intro w2 gr hbr2 hx2 hgr; have hbz2 := hbz1.ext hx2)
  | (refine wLdB rfl 33 (.tmp 2) rfl _ rfl hbz2 _ Tryz.underlying33 rfl 64 size48 hsz.out ?_)
  | (go_at_call 67; (with_reducible refine (HBW.out _).mono ?_); rintro e w3 ⟨rfl, hx3⟩; have hbz3 := hbz2.ext hx3; have hbr3 := hbr2.ext hx3)
  | (refine wAlo' rfl (some 6) rfl 164 rfl _ zero88 ?_; intro w4 g6 hb64 hx4 hg6; have hbz4 := hbz3.ext hx4; have hbr4 := hbr3.ext hx4))
 have hg6' : w.heap.size ≤ g6 := by have := hx1.size; have := hx2.size; have := hx3.size; omega
 have hgr' : w.heap.size ≤ gr := by have := hx1.size; omega
 have hn1 : g6 ≠ gz := by have := hbz3.lt; omega
 have hn2 : g6 ≠ gr := by have := hbr3.lt; omega
 have hxx := ((hx1.trans hx2).trans hx3).trans hx4
 clear hbz1 hbz2 hbz3 hbr2 hbr3 hx1 hx2 hx3 hx4
 go_loopw [18] (fun i wr => ∃ u : Nat, u ≤ 8 ∧ i = .int .i64 (u : Int) ∧ Ext w wr ∧ Blk wr gz 33 cz ∧ Blk wr gr 33 (bv zeros64) ∧ Blk wr g6 164 (bv (tabL (8 * u)))) (fun i _ => 8 - (intOf i).toNat)
 case atStart => exact ⟨0, by omega, rfl, hxx, hbz4, hbr4, by rw [show 8 * 0 = 0 from rfl, tabL_zero]; exact hb64⟩
 case round =>
  clear hxx hbz4 hbr4 hb64
  obtain ⟨u, hu, rfl, hx, hbz, hbr, hb6⟩ := hrel
  by_cases hlu : u < 8
  ·go_wp2_with fail
   go_loopw [21] (fun i wr => ∃ x : Nat, x ≤ 8 ∧ i = .int .i64 (x : Int) ∧ Ext w wr ∧ Blk wr gz 33 cz ∧ Blk wr gr 33 (bv zeros64) ∧ Blk wr g6 164 (bv (tabL (8 * u + x)))) (fun i _ => 8 - (intOf i).toNat)
   case atStart => exact ⟨0, by omega, rfl, hx, hbz, hbr, hb6⟩
   case round =>
    clear hx hbz hbr hb6
    obtain ⟨x, hxl, rfl, hx, hbz, hbr, hb6⟩ := hrel
    by_cases hlx : x < 8
    ·go_wp2_with fail
     have hcall := hid_ (fun W => HRB.out u x W hlu hlx)
     have HTS := hid_ (tabL_set u x hlu hlx)
     have hol : 8 * u + x < (tabL (8 * u + x)).length := by rw [tabL_len]; omega
     have hold : ∀ W, Blk W g6 164 (bv (tabL (8 * u + x))) → ∃ o, W.cell? ⟨g6, 8 * u + x, none⟩ = some o := fun W h => ⟨_, (h.cell _).trans (bv_at _ _ hol)⟩
     generalize basisZ u x = c at *
     have step : ∀ W, (Ext w W ∧ Blk W gz 33 cz ∧ Blk W gr 33 (bv zeros64) ∧ Blk W g6 164 (bv (tabL (8 * u + x)))) → Calls Tryz.prog 126 #[.int .i64 (u : Int), .int .i64 (x : Int)] W fun e w' => e = .returned (.int .i64 c) ∧ (Ext w w' ∧ Blk w' gz 33 cz ∧ Blk w' gr 33 (bv zeros64) ∧ Blk w' g6 164 (bv (tabL (8 * u + x)))) :=
      fun W ⟨h1, h2, h3, h4⟩ => (hcall.out W).mono fun e w' ⟨he, hx⟩ => ⟨he, h1.trans hx, h2.ext hx, h3.ext hx, h4.ext hx⟩
     refine wp_region_quiet_last (C := fun W => Ext w W ∧ Blk W gz 33 cz ∧ Blk W gr 33 (bv zeros64) ∧ Blk W g6 164 (bv (tabL (8 * u + x)))) rfl (by kernel_rfl) rfl rfl (by kernel_rfl) (by kernel_rfl) (by kernel_rfl) ⟨hx.drew, hbz.drew, hbr.drew, hb6.drew⟩ (fun opsq => ?_)
     simp only [List.dropLast_cons_cons, List.dropLast_singleton]
     refine q_move rfl _ rfl (.int .i64 (u : Int)) rfl ?_
     simp only [Act.put, sA, sB, sC]
     refine q_move rfl _ rfl (.int .i64 (x : Int)) rfl ?_
     simp only [Act.put, sA, sB, sC]
     refine q_move rfl _ rfl (.int .i64 (u : Int)) rfl ?_
     simp only [Act.put, sA, sB, sC]
     refine q_move rfl _ rfl (.int .i64 (x : Int)) rfl ?_
     simp only [Act.put, sA, sB, sC]
     refine q_callF rfl 126 Tryz.func126 (by kernel_rfl) rfl _ _ rfl #[.int .i64 (u : Int), .int .i64 (x : Int)] (by simp [Act.eval]) _ step ?_
     simp only [Act.put, sA, sB, sC]
     refine q_addr rfl 164 _ _ rfl (.pointer (some ⟨g6, 0, none⟩)) (.int .i64 (u : Int)) rfl rfl (.pointer (some ⟨g6, 8 * u, none⟩)) (run_index88 _ _ (by omega)) ?_
     simp only [Act.put, sA, sB, sC]
     refine q_addr rfl 163 _ _ rfl (.pointer (some ⟨g6, 8 * u, none⟩)) (.int .i64 (x : Int)) rfl rfl (.pointer (some ⟨g6, 8 * u + x, none⟩)) (run_index8 _ _ _ (by omega)) ?_
     simp only [Act.put, sA, sB, sC]
     refine wpQuiet_nil ?_
     clear hx hbz hbr hb6
     intro w6 hw6
     obtain ⟨hx, hbz, hbr, hb6⟩ := hw6
     obtain ⟨old, ho⟩ := hold w6 hb6
     refine wp_storeI _ _ rfl ⟨g6, 8 * u + x, none⟩ c rfl rfl _ ho (hb6.frozen _) ?_
     simp only [Act.put, sA, sB, sC]
     clear step hold ho
     go_wp2_with fail
     go_roundw
     case rel =>
      refine ⟨x + 1, by omega, by go_num, hx.setCell (by omega) _, hbz.far (p := ⟨g6, 8 * u + x, none⟩) (by simpa using hn1.symm) _, hbr.far (p := ⟨g6, 8 * u + x, none⟩) (by simpa using hn2.symm) _, ?_⟩
      have := hb6.set_ (8 * u + x) (.int .i64 c)
      rw [bv_set, HTS.out] at this
      exact this
     case measure => simp [intOf]; omega
    ·obtain rfl : x = 8 := by omega
     rw [show 8 * u + 8 = 8 * (u + 1) by omega] at hb6
     go_wp2_with fail
     go_roundw
     case rel => exact ⟨u + 1, by omega, by go_num, hx, hbz, hbr, hb6⟩
     case measure => simp [intOf]; omega
  ·have eu : u = 8 := by omega
   have eu2 : (u : Int) = 8 := by omega
   rw [eu] at hb6
   rw [eu2]
   clear eu eu2 hu hlu
   go_wp2_with (refine wAlo' rfl (some 9) rfl 33 rfl _ zero48 ?_; intro w5 g9 hb95 hx5 hg9; have hbz5 := hbz.ext hx5; have hbr5 := hbr.ext hx5; have hb65 := hb6.ext hx5)
   have hg9' : w.heap.size ≤ g9 := by have := hx.size; omega
   have hm1 : g9 ≠ gz := by have := hbz.lt; omega
   have hm2 : g9 ≠ gr := by have := hbr.lt; omega
   have hm3 : g9 ≠ g6 := by have := hb6.lt; omega
   have hxx := hx.trans hx5
   clear hx hx5 hbz hbr hb6
   go_loopw [33] (fun q wr => ∃ i : Nat, i ≤ 64 ∧ q = .int .i64 (i : Int) ∧ Ext w wr ∧ Blk wr gz 33 cz ∧ Blk wr gr 33 (bv zeros64) ∧ Blk wr g6 164 (bv (tabL 64)) ∧ Blk wr g9 33 (bv (fillL F i))) (fun i _ => 64 - (intOf i).toNat)
   case atStart => exact ⟨0, by omega, rfl, hxx, hbz5, hbr5, hb65, hb95⟩
   case round =>
    clear hxx hbz5 hbr5 hb65 hb95
    obtain ⟨i, hi, rfl, hx, hbz, hbr, hb6, hb9⟩ := hrel
    by_cases hli : i < 64
    ·go_wp2_with (refine wLdB rfl 33 (.tmp 2) rfl _ rfl hbz _ Tryz.underlying33 rfl 64 size48 hsz.out ?_)
     go_loopw [11, 37] (fun sv q wr => ∃ k : Nat, k ≤ 64 ∧ q = .int .i64 (k : Int) ∧ sv = .int .i64 (sumTo k (waveTerm frC zs i)) ∧ Ext w wr ∧ Blk wr gz 33 cz ∧ Blk wr gr 33 (bv zeros64) ∧ Blk wr g6 164 (bv (tabL 64)) ∧ Blk wr g9 33 (bv (fillL F i))) (fun _ i _ => 64 - (intOf i).toNat)
     case atStart => exact ⟨0, by omega, rfl, rfl, hx, hbz, hbr, hb6, hb9⟩
     case round =>
      clear hx hbz hbr hb6 hb9
      obtain ⟨k, hk, rfl, rfl, hx, hbz, hbr, hb6, hb9⟩ := hrel
      by_cases hlk : k < 64
      ·have hkl : k < zs.length := by have := HZ.out; omega
       have hix := fun W => run_index48 cz k (.int .i64 zs[k]) hlk (HAT.out k hkl) W
       have HD : Hid (zs.getD k 0 = zs[k]) := hid_ (by simp [hkl])
       obtain ⟨t1, t2, t3, t4⟩ := HTB.out i k
       have ET : waveTerm frC zs i k = zs.getD k 0 * frC (i % 8) (k % 8) * frC (i / 8) (k / 8) := rfl
       have HSS := hid_ (sumTo_succ k (waveTerm frC zs i))
       rw [ET] at t3 t4 HSS
       rw [HD.out] at t1 t2 t3 t4 HSS
       clear ET
       obtain ⟨s1, s2⟩ := HSB.out i k hk
       generalize sumTo k (waveTerm frC zs i) = s at *
       generalize zs[k] = z at *
       go_wp2_with fail
       refine wp_region_quiet (C := fun W => Ext w W ∧ Blk W gz 33 cz ∧ Blk W gr 33 (bv zeros64) ∧ Blk W g6 164 (bv (tabL 64)) ∧ Blk W g9 33 (bv (fillL F i))) (by kernel_rfl) (by kernel_rfl) ⟨hx.drew, hbz.drew, hbr.drew, hb6.drew, hb9.drew⟩ ?_
       refine q_move rfl _ rfl (.int .i64 s) rfl ?_
       simp only [Act.put, sA, sB, sC]
       refine q_move rfl _ rfl (.int .i64 z) rfl ?_
       simp only [Act.put, sA, sB, sC]
       refine q_move rfl _ rfl (.int .i64 (k : Int)) rfl ?_
       simp only [Act.put, sA, sB, sC]
       refine q_binOp rfl .rem 3 _ _ _ rfl (.int .i64 (k : Int)) (.int .i64 8) rfl rfl (.int .i64 ((k % 8 : Nat) : Int)) (guardI _ _ _ _ _) (run_remI _ (by omega)) ?_
       simp only [Act.put, sA, sB, sC]
       refine q_move rfl _ rfl (.int .i64 (i : Int)) rfl ?_
       simp only [Act.put, sA, sB, sC]
       refine q_binOp rfl .rem 3 _ _ _ rfl (.int .i64 (i : Int)) (.int .i64 8) rfl rfl (.int .i64 ((i % 8 : Nat) : Int)) (guardI _ _ _ _ _) (run_remI _ (by omega)) ?_
       simp only [Act.put, sA, sB, sC]
       refine q_addr rfl 164 _ _ rfl (.pointer (some ⟨g6, 0, none⟩)) (.int .i64 ((k % 8 : Nat) : Int)) rfl rfl (.pointer (some ⟨g6, 8 * (k % 8), none⟩)) (run_index88 _ _ (by omega)) ?_
       simp only [Act.put, sA, sB, sC]
       refine q_addr rfl 163 _ _ rfl (.pointer (some ⟨g6, 8 * (k % 8), none⟩)) (.int .i64 ((i % 8 : Nat) : Int)) rfl rfl (.pointer (some ⟨g6, 8 * (k % 8) + i % 8, none⟩)) (run_index8 _ _ _ (by omega)) ?_
       simp only [Act.put, sA, sB, sC]
       refine q_load rfl 3 _ rfl (.pointer (some ⟨g6, 8 * (k % 8) + i % 8, none⟩)) rfl (.int .i64 (frC (i % 8) (k % 8))) (fun W hW => run_loadI W _ _ (HT.out W hW.2.2.2.1 (k % 8) (i % 8) (by omega) (by omega))) ?_
       simp only [Act.put, sA, sB, sC]
       refine q_binOp rfl .mul 3 _ _ _ rfl (.int .i64 z) (.int .i64 (frC (i % 8) (k % 8))) rfl rfl (.int .i64 (z * frC (i % 8) (k % 8))) (guardI _ _ _ _ _) (run_mulI _ _ _ (IntWalk.i64_in _ (by omega))) ?_
       simp only [Act.put, sA, sB, sC]
       refine q_move rfl _ rfl (.int .i64 (k : Int)) rfl ?_
       simp only [Act.put, sA, sB, sC]
       refine q_binOp rfl .quo 3 _ _ _ rfl (.int .i64 (k : Int)) (.int .i64 8) rfl rfl (.int .i64 ((k / 8 : Nat) : Int)) (guardI _ _ _ _ _) (run_quoI _ (by omega)) ?_
       simp only [Act.put, sA, sB, sC]
       refine q_move rfl _ rfl (.int .i64 (i : Int)) rfl ?_
       simp only [Act.put, sA, sB, sC]
       refine q_binOp rfl .quo 3 _ _ _ rfl (.int .i64 (i : Int)) (.int .i64 8) rfl rfl (.int .i64 ((i / 8 : Nat) : Int)) (guardI _ _ _ _ _) (run_quoI _ (by omega)) ?_
       simp only [Act.put, sA, sB, sC]
       refine q_addr rfl 164 _ _ rfl (.pointer (some ⟨g6, 0, none⟩)) (.int .i64 ((k / 8 : Nat) : Int)) rfl rfl (.pointer (some ⟨g6, 8 * (k / 8), none⟩)) (run_index88 _ _ (by omega)) ?_
       simp only [Act.put, sA, sB, sC]
       refine q_addr rfl 163 _ _ rfl (.pointer (some ⟨g6, 8 * (k / 8), none⟩)) (.int .i64 ((i / 8 : Nat) : Int)) rfl rfl (.pointer (some ⟨g6, 8 * (k / 8) + i / 8, none⟩)) (run_index8 _ _ _ (by omega)) ?_
       simp only [Act.put, sA, sB, sC]
       refine q_load rfl 3 _ rfl (.pointer (some ⟨g6, 8 * (k / 8) + i / 8, none⟩)) rfl (.int .i64 (frC (i / 8) (k / 8))) (fun W hW => run_loadI W _ _ (HT.out W hW.2.2.2.1 (k / 8) (i / 8) (by omega) (by omega))) ?_
       simp only [Act.put, sA, sB, sC]
       refine q_binOp rfl .mul 3 _ _ _ rfl (.int .i64 (z * frC (i % 8) (k % 8))) (.int .i64 (frC (i / 8) (k / 8))) rfl rfl (.int .i64 (z * frC (i % 8) (k % 8) * frC (i / 8) (k / 8))) (guardI _ _ _ _ _) (run_mulI _ _ _ (IntWalk.i64_in _ (by omega))) ?_
       simp only [Act.put, sA, sB, sC]
       refine q_binOp rfl .add 3 _ _ _ rfl (.int .i64 s) (.int .i64 (z * frC (i % 8) (k % 8) * frC (i / 8) (k / 8))) rfl rfl (.int .i64 (s + z * frC (i % 8) (k % 8) * frC (i / 8) (k / 8))) (guardI _ _ _ _ _) (run_addI _ _ _ (IntWalk.i64_in _ (by omega))) ?_
       simp only [Act.put, sA, sB, sC]
       refine q_assign rfl _ rfl (.int .i64 (s + z * frC (i % 8) (k % 8) * frC (i / 8) (k / 8))) rfl ?_
       simp only [Act.put, sA, sB, sC]
       refine wpQuiet_nil ?_
       clear hx hbz hbr hb6 hb9
       intro w6 hw6
       obtain ⟨hx, hbz, hbr, hb6, hb9⟩ := hw6
       clear t1 t2 t3 t4
       go_wp2_with fail
       go_roundw
       case rel => exact ⟨k + 1, by omega, by go_num, by rw [HSS.out], hx, hbz, hbr, hb6, hb9⟩
       case measure => simp [intOf]; omega
      ·obtain rfl : k = 64 := by omega
       obtain ⟨s1, s2⟩ := HSB.out i 64 (by omega)
       have HFi := hid_ (HFI.out i)
       have HRD := hid_ (fun W => rround_any (waveAt frC zs i) 67108864 W (by unfold waveAt; omega) (by unfold waveAt; omega) (by omega) (by omega))
       have HFS := hid_ (fillL_set F i hli)
       obtain ⟨old, hold⟩ : ∃ u, wr.cell? ⟨g9, i, none⟩ = some u := by
        rw [hb9.cell i]
        have hl := fillL_len F i (by omega)
        exact ⟨_, bv_at _ i (by omega)⟩
       have hfr := hb9.frozen i
       have hRF : rnd (waveAt frC zs i) 67108864 = F i := HFi.out
       rw [hRF] at HRD
       clear hRF s1 s2
       rw [show sumTo 64 (waveTerm frC zs i) = waveAt frC zs i from rfl]
       generalize waveAt frC zs i = sv at *
       go_wp2_with (first
        | (go_at_call 128; (with_reducible refine (HPW.out _).mono ?_); rintro e w' ⟨rfl, rfl⟩)
        | (go_at_call 127; (with_reducible refine (HRD.out _).mono ?_); rintro e w' ⟨rfl, rfl⟩))
       go_roundw
       case rel =>
        refine ⟨i + 1, by omega, by go_num, hx.setCell (by omega) _, hbz.far (p := ⟨g9, i, none⟩) (by simpa using hm1.symm) _, hbr.far (p := ⟨g9, i, none⟩) (by simpa using hm2.symm) _, hb6.far (p := ⟨g9, i, none⟩) (by simpa using hm3.symm) _, ?_⟩
        have := hb9.set_ i (.int .i64 (F i))
        rw [bv_set, HFS.out] at this
        exact this
       case measure => simp [intOf]; omega
    ·obtain rfl : i = 64 := by omega
     rw [← HF.out] at hb9
     have hs := hid_ ((bv_size _).trans (waveL_len frC zs))
     have ho := hid_ (bv_one (waveL frC zs))
     generalize hcr : bv (waveL frC zs) = cr at *
     have HCR := hid_ hcr
     clear hcr
     have hs0 : Hid ((bv zeros64).size = 64) := hid_ (by rw [bv_size]; rfl)
     go_wp2_with (first
      | (refine wLdB rfl 33 (.tmp 9) rfl _ rfl hb9 _ Tryz.underlying33 rfl 64 size48 hs.out ?_)
      | (refine wStB rfl 33 (.tmp 4) (.tmp 87) rfl _ _ rfl rfl hbr 64 size48 hs.out hs0.out ho.out ?_; intro w7 hb7 hg7))
     exact ret_cell_tmp rfl rfl _ rfl hb7 _ Tryz.underlying33 rfl 64 size48 hs.out ⟨by rw [HCR.out]; rfl, hx.grown hg7 hgr'⟩
set_option maxHeartbeats 400000 in
theorem rwave_out (tb : Bool) (zs : List Int) (w : World) (hz : zs.length = 64) (hal : allIn zs (-40000) 40000 = false) :
 Calls Tryz.prog 71 #[.agg (bv zs), .bool tb] w fun e w' => e = .returned (.tuple #[.agg (bv zeros64), .int .i64 1]) ∧ Ext w w' := by
 have HBW := hid_ (fun W => blockWithin_any zs (-40000) 40000 W hz)
 rw [hal] at HBW
 have hsz := hid_ ((bv_size zs).trans hz)
 have hs0 : Hid ((bv zeros64).size = 64) := hid_ (by rw [bv_size]; rfl)
 have ho0 := hid_ (bv_one zeros64)
 have hbt := hid_ built48
 generalize bv zs = cz at *
 generalize hc0 : bv zeros64 = c0 at *
 have HC0 := hid_ hc0
 clear hz hal hc0
 go_enter Tryz.func71, Tryz.ntmps71
 go_wp2_with (first
  | (refine wBox rfl 33 (.tmp 0) rfl cz rfl ?_; intro w1 gz hbz1 hx1 hgz)
  | (refine wAlo' rfl (some 4) rfl 33 rfl _ zero48 ?_; intro w2 gr hbr2 hx2 hgr; have hbz2 := hbz1.ext hx2)
  | (refine wLdB rfl 33 (.tmp 2) rfl _ rfl hbz2 _ Tryz.underlying33 rfl 64 size48 hsz.out ?_)
  | (go_at_call 67; (with_reducible refine (HBW.out _).mono ?_); rintro e w3 ⟨rfl, hx3⟩; have hbr3 := hbr2.ext hx3)
  | (refine wpList_build0 rfl 33 rfl _ hbt.out ?_)
  | (refine wStB rfl 33 (.tmp 4) (.tmp 17) rfl _ _ rfl rfl hbr3 64 size48 hs0.out (by rw [show (Value.agg (bv zeros64)).cells = bv zeros64 from rfl, HC0.out]; exact hs0.out) ho0.out ?_; intro w7 hb7 hg7))
 exact ret_cell_tmp rfl rfl _ rfl hb7 _ Tryz.underlying33 rfl 64 size48 hs0.out ⟨rfl, ((hx1.trans hx2).trans hx3).grown hg7 (by have := hx1.size; omega)⟩
theorem rwaveFrom_any (zs : List Int) (w : World) (hz : zs.length = 64) : Calls Tryz.prog 71 #[.agg (bv zs), .bool false] w fun e w' => e = .returned (.tuple #[.agg (bv (waveR frC zs).1), .int .i64 (waveR frC zs).2]) ∧ Ext w w' := by
 unfold waveR
 cases h : allIn zs (-40000) 40000 with
 | true => simpa using rwaveFrom_in zs w hz h
 | false => simpa using rwave_out false zs w hz h
def upF (n d : Int) : Int := clampZ (n * d) (-40000) 40000
theorem mul_bd (n d m : Int) (hn1 : -m ≤ n) (hn2 : n ≤ m) (hd1 : 1 ≤ d) (hd2 : d ≤ 255) (hm : 0 ≤ m) : -(m * 255) ≤ n * d ∧ n * d ≤ m * 255 := by
 have h1 : n * d ≤ m * d := Int.mul_le_mul_of_nonneg_right hn2 (by omega)
 have h2 : m * d ≤ m * 255 := Int.mul_le_mul_of_nonneg_left hd2 hm
 have h3 : -m * d ≤ n * d := Int.mul_le_mul_of_nonneg_right hn1 (by omega)
 rw [Int.neg_mul] at h3
 omega
theorem bothZ_len (F : Int → Int → Int) (zs qs : List Int) (most : Int) (hz : zs.length = 64) (hq : qs.length = 64) : (bothZ F zs qs most).1.length = 64 := by
 unfold bothZ
 split <;> (try split) <;> simp [hz, hq, zeros64]
theorem up1_any (n d : Int) (w : World) (hn1 : -2047 ≤ n) (hn2 : n ≤ 2047) (hd1 : 1 ≤ d) (hd2 : d ≤ 255) :
 Calls Tryz.prog 166 (#[.int .i64 n, .int .i64 d] ++ #[]) w fun e w' => e = .returned (.int .i64 (upF n d)) ∧ w = w' := by
 obtain ⟨h1, h2⟩ := mul_bd n d 2047 hn1 hn2 hd1 hd2 (by omega)
 go_enter Tryz.func166, Tryz.ntmps166
 go_wp2_with (go_at_call 96; refine (within_any _ _ _ (by omega) (by omega)).mono ?_; rintro e w' ⟨rfl, rfl⟩)
 go_ret
 exact ⟨rfl, rfl⟩
theorem enters_up1 : Enters Tryz.prog 166 := enters_of Tryz.func166 (by kernel_rfl) rfl
set_option maxHeartbeats 400000 in
theorem up_any (zs qs : List Int) (w : World) (hz : zs.length = 64) (hq : qs.length = 64) :
 Calls Tryz.prog 112 #[.agg (bv zs), .agg (bv qs)] w fun e w' => e = .returned (.tuple #[.agg (bv (bothZ upF zs qs 2047).1), .int .i64 (bothZ upF zs qs 2047).2]) ∧ Ext w w' := by
 have HB := hid_ (fun W => both_any 166 upF enters_up1 zs qs 2047 W hz hq (by omega) (by omega) (fun n d W a b c e => up1_any n d W a b c e))
 have hsz := hid_ ((bv_size zs).trans hz)
 have hsq := hid_ ((bv_size qs).trans hq)
 have hsr := hid_ ((bv_size _).trans (bothZ_len upF zs qs 2047 hz hq))
 have hor := hid_ (bv_one (bothZ upF zs qs 2047).1)
 generalize bv (bothZ upF zs qs 2047).1 = cr at *
 generalize (bothZ upF zs qs 2047).2 = er at *
 generalize bv zs = cz at *
 generalize bv qs = cq at *
 clear hz hq
 go_enter Tryz.func112, Tryz.ntmps112
 go_wp2_with (first
  | (refine wBox rfl 33 (.tmp 0) rfl cz rfl ?_; intro w1 gz hbz1 hx1 hgz)
  | (refine wBox rfl 33 (.tmp 1) rfl cq rfl ?_; intro w2 gq hbq2 hx2 hgq; have hbz2 := hbz1.ext hx2)
  | (refine wpList_alloc_abs rfl 33 rfl _ zero48 ?_; intro w3 gr hbr3 hx3 hgr; have hbz3 := hbz2.ext hx3; have hbq3 := hbq2.ext hx3)
  | (refine wLdB rfl 33 (.tmp 2) rfl _ rfl hbz3 _ Tryz.underlying33 rfl 64 size48 hsz.out ?_)
  | (refine wLdB rfl 33 (.tmp 3) rfl _ rfl hbq3 _ Tryz.underlying33 rfl 64 size48 hsq.out ?_)
  | (go_at_call 94; refine (HB.out _).mono ?_; rintro e w4 ⟨rfl, hx4⟩; have hbr4 := hbr3.ext hx4)
  | (refine wStB rfl 33 (.tmp 4) (.tmp 9) rfl _ _ rfl rfl hbr4 64 size48 hsr.out (by rw [show (Value.agg (bv zeros64)).cells = bv zeros64 from rfl, bv_size]; rfl) hor.out ?_; intro w7 hb7 hg7))
 exact ret_cell_tmp rfl rfl _ rfl hb7 _ Tryz.underlying33 rfl 64 size48 hsr.out ⟨rfl, (((hx1.trans hx2).trans hx3).trans hx4).grown hg7 (by have := hx1.size; have := hx2.size; omega)⟩
set_option maxRecDepth 20000
theorem zip_mid (F : Int → Int → Int) (zs qs : List Int) (k : Nat) (hz : zs.length = 64) (hq : qs.length = 64) (hk : k < 64) (hzl : k < zs.length) :
 (bv (List.zipWith F (zs.take k) (qs.take k) ++ zs.drop k))[k]? = some (.int .i64 zs[k]) := by
 have hl : (List.zipWith F (zs.take k) (qs.take k)).length = k := by simp; omega
 have e : (List.zipWith F (zs.take k) (qs.take k) ++ zs.drop k)[k]? = some zs[k] := by
  rw [List.getElem?_append_right (by omega), hl, Nat.sub_self, List.getElem?_drop]
  simp
 unfold bv ints
 rw [List.getElem?_toArray, List.getElem?_map, e]
 rfl
set_option maxHeartbeats 400000 in
theorem rup_in (zs qs : List Int) (w : World) (hz : zs.length = 64) (hq : qs.length = 64) (h1 : allIn qs 1 255 = true) (h2 : allIn zs (-2047) 2047 = true) :
 Calls Tryz.prog 118 #[.agg (bv zs), .agg (bv qs)] w fun e w' => e = .returned (.tuple #[.agg (bv (List.zipWith upF zs qs)), .int .i64 0]) ∧ Ext w w' := by
 have HC := hid_ (fun W => blockWithin_any qs 1 255 W hq)
 have HW := hid_ (fun W => blockWithin_any zs (-2047) 2047 W hz)
 rw [h1] at HC
 rw [h2] at HW
 have HZ := hid_ hz
 have HQ := hid_ hq
 have hsz := hid_ ((bv_size zs).trans hz)
 have hsq := hid_ ((bv_size qs).trans hq)
 have H1 := hid_ h1
 have H2 := hid_ h2
 clear hz hq h1 h2
 generalize hzc : bv zs = cz at *
 generalize hqc : bv qs = cq at *
 have HZC := hid_ hzc
 have HQC := hid_ hqc
 clear hzc hqc
 go_enter Tryz.func118, Tryz.ntmps118
 go_wp2_with (first
  | (refine wBox rfl 33 (.tmp 0) rfl cz rfl ?_; intro w1 gz hbz1 hx1 hgz)
  | (refine wBox rfl 33 (.tmp 1) rfl cq rfl ?_; intro w2 gq hbq2 hx2 hgq; have hbz2 := hbz1.ext hx2)
  | (refine wpList_alloc_abs rfl 33 rfl _ zero48 ?_; intro w3 gr hbr3 hx3 hgr; have hbz3 := hbz2.ext hx3; have hbq3 := hbq2.ext hx3)
  | (refine wLdB rfl 33 (.tmp 3) rfl _ rfl hbq3 _ Tryz.underlying33 rfl 64 size48 hsq.out ?_)
  | (go_at_call 67; (with_reducible refine (HC.out _).mono ?_); rintro e w4 ⟨rfl, hx4⟩; have hbz4 := hbz3.ext hx4; have hbq4 := hbq3.ext hx4; have hbr4 := hbr3.ext hx4)
  | (refine wpList_load_blk_g (by rfl) 33 (.tmp 2) rfl _ rfl hbz4 _ Tryz.underlying33 rfl 64 size48 hsz.out ?_)
  | (go_at_call 67; (with_reducible refine (HW.out _).mono ?_); rintro e w5 ⟨rfl, hx5⟩; have hbz5 := hbz4.ext hx5; have hbq5 := hbq4.ext hx5; have hbr5 := hbr4.ext hx5))
 have hne1 : gz ≠ gq := by have := hbz1.lt; omega
 have hne2 : gz ≠ gr := by have := hbz2.lt; omega
 have hxx : Ext w w5 := ((((hx1.trans hx2).trans hx3).trans hx4).trans hx5)
 have hw02 : w.heap.size ≤ gr := by have := hx1.size; have := hx2.size; omega
 clear hbz1 hbz2 hbz3 hbz4 hbq2 hbq3 hbq4 hbr3 hbr4 hx1 hx2 hx3 hx4 hx5
 go_loopw [16] (fun i wr => ∃ k : Nat, k ≤ 64 ∧ i = .int .i64 k ∧ Blk wr gz 33 (bv (List.zipWith upF (zs.take k) (qs.take k) ++ zs.drop k)) ∧ Blk wr gq 33 cq ∧ Blk wr gr 33 (bv zeros64) ∧ Ext w wr) (fun i _ => 64 - (intOf i).toNat)
 case atStart => exact ⟨0, by omega, rfl, by rw [← HZC.out] at hbz5; simpa using hbz5, hbq5, hbr5, hxx⟩
 case round =>
  obtain ⟨k, hk, rfl, hb1, hb2, hb3, hxr⟩ := hrel
  by_cases hlt : k < 64
  ·have hzl : k < zs.length := by have := HZ.out; omega
   have hql : k < qs.length := by have := HQ.out; omega
   have hlq : wr.cell? ⟨gq, k, none⟩ = some (.int .i64 qs[k]) := (hb2.cell k).trans (by rw [← HQC.out]; exact bv_at qs k hql)
   have hlz : wr.cell? ⟨gz, k, none⟩ = some (.int .i64 zs[k]) := (hb1.cell k).trans (zip_mid upF zs qs k HZ.out HQ.out hlt hzl)
   obtain ⟨z1, z2⟩ := allIn_iff.1 H2.out zs[k] (List.getElem_mem hzl)
   obtain ⟨q1, q2⟩ := allIn_iff.1 H1.out qs[k] (List.getElem_mem hql)
   have hfr := hb1.frozen k
   obtain ⟨m1, m2⟩ := mul_bd zs[k] qs[k] 2047 z1 z2 q1 q2 (by omega)
   have hwr : IntKind.i64.wrap (zs[k] * qs[k]) = zs[k] * qs[k] := IntWalk.i64_in _ (by omega)
   go_wp2_with fail
   go_still_tail 10, (by kernel_rfl)
   still_call (calls_turn (clamp_any (zs[k] * qs[k]) (-40000) 40000 _))
   repeat still_step
   refine wpStill_nil ?_
   clear hwr
   have hlz' : wr.drew.cell? ⟨gz, k, none⟩ = some (.int .i64 zs[k]) := hlz
   have hfr' : wr.drew.frozen? ⟨gz, k, none⟩ = false := hfr
   have hb1' := hb1.drew
   have hb2' := hb2.drew
   have hb3' := hb3.drew
   have hxr' := hxr.drew
   change wpList _ _ _ _ _ wr.drew
   generalize wr.drew = w6 at *
   go_wp2_with fail
   go_roundw
   case rel =>
    refine ⟨k + 1, by omega, by go_num, ?_, hb2'.far (p := ⟨gz, k, none⟩) (by simpa using hne1.symm) _, hb3'.far (p := ⟨gz, k, none⟩) (by simpa using hne2.symm) _, hxr'.setCell (by omega) _⟩
    have := hb1'.set_ k (.int .i64 (upF zs[k] qs[k]))
    rwa [bv_set, zip_set upF zs qs k hzl hql] at this
   case measure => simp [intOf]; omega
  ·obtain rfl : k = 64 := by omega
   have hfin : List.zipWith upF (zs.take 64) (qs.take 64) ++ zs.drop 64 = List.zipWith upF zs qs := by
    rw [List.take_of_length_le (by have := HZ.out; omega), List.take_of_length_le (by have := HQ.out; omega), List.drop_eq_nil_of_le (by have := HZ.out; omega), List.append_nil]
   have hlz : (bv (List.zipWith upF zs qs)).size = 64 := by have := HZ.out; have := HQ.out; rw [bv_size]; simp; omega
   rw [hfin] at hb1
   have hone := bv_one (List.zipWith upF zs qs)
   generalize hcr : bv (List.zipWith upF zs qs) = cr at *
   have HCR := hid_ hcr
   have hlz' := hid_ hlz
   have hone' := hid_ hone
   clear hfin hlz hone hcr
   go_wp2_with (first
    | (refine wLdB rfl 33 (.tmp 2) rfl _ rfl hb1 _ Tryz.underlying33 rfl 64 size48 hlz'.out ?_)
    | (refine wStB rfl 33 (.tmp 4) (.tmp 30) rfl _ _ rfl rfl hb3 64 size48 hlz'.out (by rw [bv_size]; rfl) hone'.out ?_; intro w7 hb7 hg7))
   refine ret_cell_tmp rfl rfl _ rfl hb7 _ Tryz.underlying33 rfl 64 size48 hlz'.out ⟨by rw [HCR.out]; rfl, hxr.grown hg7 hw02⟩
set_option maxHeartbeats 400000 in
theorem rup_out (zs qs : List Int) (w : World) (hz : zs.length = 64) (hq : qs.length = 64)
 (h : allIn qs 1 255 = false ∨ (allIn qs 1 255 = true ∧ allIn zs (-2047) 2047 = false)) :
 Calls Tryz.prog 118 #[.agg (bv zs), .agg (bv qs)] w fun e w' => e = .returned (.tuple #[.agg (bv zeros64), .int .i64 1]) ∧ Ext w w' := by
 have HC := hid_ (fun W => blockWithin_any qs 1 255 W hq)
 have HW := hid_ (fun W => blockWithin_any zs (-2047) 2047 W hz)
 have hsz := hid_ ((bv_size zs).trans hz)
 have hsq := hid_ ((bv_size qs).trans hq)
 have hs0 : Hid ((bv zeros64).size = 64) := hid_ (by rw [bv_size]; rfl)
 have ho0 := hid_ (bv_one zeros64)
 have hbt := hid_ built48
 generalize bv zs = cz at *
 generalize bv qs = cq at *
 generalize hc0 : bv zeros64 = c0 at *
 have HC0 := hid_ hc0
 clear hz hq hc0
 rcases h with h | ⟨h, h2⟩
 ·rw [h] at HC
  clear h
  go_enter Tryz.func118, Tryz.ntmps118
  go_wp2_with (first
   | (refine wBox rfl 33 (.tmp 0) rfl cz rfl ?_; intro w1 gz hbz1 hx1 hgz)
   | (refine wBox rfl 33 (.tmp 1) rfl cq rfl ?_; intro w2 gq hbq2 hx2 hgq; have hbz2 := hbz1.ext hx2)
   | (refine wpList_alloc_abs rfl 33 rfl _ zero48 ?_; intro w3 gr hbr3 hx3 hgr; have hbz3 := hbz2.ext hx3; have hbq3 := hbq2.ext hx3)
   | (refine wLdB rfl 33 (.tmp 3) rfl _ rfl hbq3 _ Tryz.underlying33 rfl 64 size48 hsq.out ?_)
   | (go_at_call 67; (with_reducible refine (HC.out _).mono ?_); rintro e w4 ⟨rfl, hx4⟩; have hbr4 := hbr3.ext hx4)
   | (refine wpList_build0 rfl 33 rfl _ hbt.out ?_)
   | (refine wStB rfl 33 (.tmp 4) (.tmp 15) rfl _ _ rfl rfl hbr4 64 size48 hs0.out (by rw [show (Value.agg (bv zeros64)).cells = bv zeros64 from rfl, HC0.out]; exact hs0.out) ho0.out ?_; intro w7 hb7 hg7))
  exact ret_cell_tmp rfl rfl _ rfl hb7 _ Tryz.underlying33 rfl 64 size48 hs0.out ⟨rfl, (((hx1.trans hx2).trans hx3).trans hx4).grown hg7 (by have := hx1.size; have := hx2.size; omega)⟩
 ·rw [h] at HC
  rw [h2] at HW
  clear h h2
  go_enter Tryz.func118, Tryz.ntmps118
  go_wp2_with (first
   | (refine wBox rfl 33 (.tmp 0) rfl cz rfl ?_; intro w1 gz hbz1 hx1 hgz)
   | (refine wBox rfl 33 (.tmp 1) rfl cq rfl ?_; intro w2 gq hbq2 hx2 hgq; have hbz2 := hbz1.ext hx2)
   | (refine wpList_alloc_abs rfl 33 rfl _ zero48 ?_; intro w3 gr hbr3 hx3 hgr; have hbz3 := hbz2.ext hx3; have hbq3 := hbq2.ext hx3)
   | (refine wLdB rfl 33 (.tmp 3) rfl _ rfl hbq3 _ Tryz.underlying33 rfl 64 size48 hsq.out ?_)
   | (go_at_call 67; (with_reducible refine (HC.out _).mono ?_); rintro e w4 ⟨rfl, hx4⟩; have hbz4 := hbz3.ext hx4; have hbr4 := hbr3.ext hx4)
   | (refine wpList_load_blk_g (by rfl) 33 (.tmp 2) rfl _ rfl hbz4 _ Tryz.underlying33 rfl 64 size48 hsz.out ?_)
   | (go_at_call 67; (with_reducible refine (HW.out _).mono ?_); rintro e w5 ⟨rfl, hx5⟩; have hbr5 := hbr4.ext hx5)
   | (refine wpList_build0 rfl 33 rfl _ hbt.out ?_)
   | (refine wStB rfl 33 (.tmp 4) (.tmp 15) rfl _ _ rfl rfl hbr5 64 size48 hs0.out (by rw [show (Value.agg (bv zeros64)).cells = bv zeros64 from rfl, HC0.out]; exact hs0.out) ho0.out ?_; intro w7 hb7 hg7))
  exact ret_cell_tmp rfl rfl _ rfl hb7 _ Tryz.underlying33 rfl 64 size48 hs0.out ⟨rfl, ((((hx1.trans hx2).trans hx3).trans hx4).trans hx5).grown hg7 (by have := hx1.size; have := hx2.size; omega)⟩
theorem rup_any (zs qs : List Int) (w : World) (hz : zs.length = 64) (hq : qs.length = 64) :
 Calls Tryz.prog 118 #[.agg (bv zs), .agg (bv qs)] w fun e w' => e = .returned (.tuple #[.agg (bv (bothZ upF zs qs 2047).1), .int .i64 (bothZ upF zs qs 2047).2]) ∧ Ext w w' := by
 unfold bothZ
 cases h1 : allIn qs 1 255 with
 | false => simpa using rup_out zs qs w hz hq (Or.inl h1)
 | true =>
   cases h2 : allIn zs (-2047) 2047 with
   | false => simpa using rup_out zs qs w hz hq (Or.inr ⟨h1, h2⟩)
   | true => simpa using rup_in zs qs w hz hq h1 h2
def picV (wd hi : Int) (v : Value) : Array Value := #[.int .i64 wd, .int .i64 hi, v]
theorem picV_size (wd hi : Int) (v : Value) : (picV wd hi v).size = 3 := rfl
theorem sizePic : (Tryz.prog.info? 31).map (·.size) = some 3 := by kernel_rfl
theorem pic_cells {w : World} {g : Nat} {T : TypeId} {wd hi : Int} {v : Value} (h : Blk w g T (picV wd hi v)) : w.cell? ⟨g, 0, none⟩ = some (.int .i64 wd) ∧ w.cell? ⟨g, 1, none⟩ = some (.int .i64 hi) ∧ w.cell? ⟨g, 2, none⟩ = some v := by
 rw [h.cell, h.cell, h.cell]
 exact ⟨rfl, rfl, rfl⟩
def tblv (cs : List Int) (sl : Value) : Array Value := (ints cs ++ [sl]).toArray
theorem sizeTbl : (Tryz.prog.info? 42).map (·.size) = some 17 := by kernel_rfl
theorem size16 : (Tryz.prog.info? 40).map (·.size) = some 16 := by kernel_rfl
theorem tblv_size (cs : List Int) (sl : Value) (h : cs.length = 16) : (tblv cs sl).size = 17 := by simp [tblv, ints_len, h]
theorem tblv_range {w : World} {g : Nat} {T : TypeId} {cs : List Int} {sl : Value} (h : Blk w g T (tblv cs sl)) : w.rangeAt g 0 (ints cs) := by
 intro j v hv
 rw [Nat.zero_add, h.cell]
 unfold tblv
 rw [List.getElem?_toArray, List.getElem?_append_left (List.getElem?_eq_some_iff.1 hv).1]
 exact hv
theorem tblv_last {w : World} {g : Nat} {T : TypeId} {cs : List Int} {sl : Value} (h : Blk w g T (tblv cs sl)) (hl : cs.length = 16) : w.cell? ⟨g, 16, none⟩ = some sl := by
 rw [h.cell]
 simp [tblv, ints_len, hl]
theorem run_index16 (cs : Array Value) (i : Nat) (u : Value) (hi : i < 16) (hu : cs[i]? = some u) (w : World) : (Instr.index 40 (.agg cs) (.int .i64 (i : Int))).run Tryz.prog w = .ok u w :=
 run_index_agg _ _ 16 cs i u Tryz.underlying40 _ Tryz.underlying3 sizeInt hi hu w
def sumL (cs : List Int) (k : Nat) : Int := (cs.take k).sum
theorem sumL_succ (cs : List Int) (k : Nat) (h : k < cs.length) : sumL cs (k + 1) = sumL cs k + cs[k] := by
 unfold sumL
 rw [List.take_succ_eq_append_getElem h, List.sum_append]
 simp
def totalZ (cs : List Int) : Int × Bool := if allIn cs 0 256 then (sumL cs 16, decide (sumL cs 16 ≤ 256)) else (0, false)
set_option maxHeartbeats 400000 in
theorem total_any (cs : List Int) (sl : Value) (w : World) (hl : cs.length = 16) :
 Calls Tryz.prog 151 #[.agg (tblv cs sl)] w fun e w' => e = .returned (.tuple #[.int .i64 (totalZ cs).1, .bool (totalZ cs).2]) ∧ Ext w w' := by
 have HL := hid_ hl
 have HRG := hid_ (fun W g (h : Blk W g 42 (tblv cs sl)) => tblv_range h)
 have hcl := hid_ ((ints_len cs).trans hl)
 have HIX := hid_ (fun k (hk : k < cs.length) (h16 : k < 16) => fun W => run_index16 (bv cs) k (.int .i64 cs[k]) h16 (bv_at cs k hk) W)
 generalize tblv cs sl = tv at *
 have hbv : (ints cs).toArray = bv cs := rfl
 go_enter Tryz.func151, Tryz.ntmps151
 go_wp2_with (first
  | (refine wBox rfl 42 (.tmp 0) rfl tv rfl ?_; intro w1 g hb1 hx1 hg)
  | (refine wpList_load_mid rfl 40 (.tmp 7) rfl g 0 rfl (ints cs) _ (HRG.out _ _ hb1) Tryz.underlying40 rfl (by rw [hcl.out]; exact size16) ?_))
 go_loop [4, 9] (fun v i => ∃ k : Nat, k ≤ 16 ∧ i = .int .i64 (k : Int) ∧ v = .int .i64 (sumL cs k) ∧ (∀ z ∈ cs.take k, 0 ≤ z ∧ z ≤ 256) ∧ 0 ≤ sumL cs k ∧ sumL cs k ≤ 256 * k) (fun _ i => 16 - (intOf i).toNat)
 case atStart => exact ⟨0, by omega, rfl, rfl, by simp, by simp [sumL], by simp [sumL]⟩
 case round =>
  obtain ⟨k, hk, rfl, rfl, hin, s1, s2⟩ := hrel
  by_cases hlt : k < 16
  ·have hkl : k < cs.length := by have := HL.out; omega
   have hix := HIX.out k hkl hlt
   have HS := hid_ (sumL_succ cs k hkl)
   have HIN := hid_ hin
   clear hin
   cases hq : inB cs[k] 0 256 with
   | true =>
     obtain ⟨q1, q2⟩ := inB_iff.1 hq
     have HN := hid_ (allIn_take HIN.out hkl ⟨q1, q2⟩)
     generalize sumL cs k = s at *
     go_wp2_with fail
     go_round
     case rel => exact ⟨k + 1, by omega, by go_num, by rw [HS.out], HN.out, by rw [HS.out]; omega, by rw [HS.out]; omega⟩
     case measure => simp [intOf]; omega
   | false =>
     have HF := hid_ (show totalZ cs = (0, false) by unfold totalZ; rw [allIn_no hkl hq]; rfl)
     rcases Int.lt_or_le cs[k] 0 with h0 | h0
     ·have h0' : decide (cs[k] < 0) = true := by simpa using h0
      clear hq
      go_wp2_with fail
      go_ret2
      exact ⟨by rw [HF.out]; rfl, hx1⟩
     ·have h0' : decide (cs[k] < 0) = false := by simpa using h0
      have h1' : decide (256 < cs[k]) = true := by have := inB_not.1 hq; simp; omega
      clear hq
      go_wp2_with fail
      go_ret2
      exact ⟨by rw [HF.out]; rfl, hx1⟩
  ·have ek : k = 16 := by omega
   have HF := hid_ (show totalZ cs = (sumL cs 16, decide (sumL cs 16 ≤ 256)) by
    unfold totalZ
    rw [allIn_iff.2 (fun z hz => hin z (by rwa [List.take_of_length_le (by have := HL.out; omega)]))]
    rfl)
   rw [ek]
   rw [ek] at s1 s2
   clear hin ek hk hlt
   go_wp2_with fail
   go_ret2
   exact ⟨by rw [HF.out]; rfl, hx1⟩
theorem has_any (xs : List Int) (A : Option Addr) (c n : Nat) (x : Int) (w : World) (hn : xs.length = n) (hs : SL w 1 (.slice A n c) n (ints xs)) :
 Calls Tryz.prog 129 #[.slice A n c, .int .i64 x] w fun e w' => e = .returned (.bool (decide (x ∈ xs))) ∧ w = w' := by
 subst hn
 have hc1 : xs.length ≤ c ∧ c ≤ 9223372036854775807 := by obtain ⟨A', c', e, h1, h2, -⟩ := hs; injection e with e1 e2 e3; subst e3; exact ⟨h1, h2⟩
 obtain ⟨hc1, hc2⟩ := hc1
 go_enter Tryz.func129, Tryz.ntmps129
 go_wp2_with fail
 go_loop [9] (fun i => ∃ k : Nat, k ≤ xs.length ∧ i = .int .i64 k ∧ x ∉ xs.take k) (fun i => xs.length - (intOf i).toNat)
 case atStart => exact ⟨0, by omega, rfl, by simp⟩
 case round =>
  obtain ⟨k, hk, rfl, ht⟩ := hrel
  have HT := hid_ ht
  clear ht
  by_cases hlt : k < xs.length
  ·obtain ⟨ad, u, rfl, -, hx, hcell⟩ := hs.at1 hlt
   obtain ⟨_, rfl⟩ := ints_at _ _ _ hx
   clear hx
   by_cases hq : x = xs[k]
   ·have hq' : (x == xs[k]) = true := by simpa using hq
    have HC := hid_ (show decide (x ∈ xs) = true by rw [decide_eq_true_eq, hq]; exact List.getElem_mem hlt)
    clear hq
    go_wp2_with fail
    go_ret
    exact ⟨by rw [HC.out]; rfl, rfl⟩
   ·have hq' : (x == xs[k]) = false := by simpa using hq
    have HN := hid_ (show x ∉ xs.take (k + 1) by rw [List.take_succ_eq_append_getElem hlt, List.mem_append]; exact fun h => h.elim HT.out (fun h => hq (by simpa using h)))
    clear hq
    go_wp2_with fail
    go_round
    case rel => exact ⟨k + 1, by omega, by go_num, HN.out⟩
    case measure => simp [intOf]; omega
  ·have HC := hid_ (show decide (x ∈ xs) = false by
    have := HT.out
    rw [List.take_of_length_le (by omega)] at this
    simpa using this)
   go_wp2_with fail
   go_ret
   exact ⟨by rw [HC.out]; rfl, rfl⟩
def bytesV (l : List Nat) : List Value := l.map fun x : Nat => Value.int .u8 (x : Int)
theorem bytesV_len (l : List Nat) : (bytesV l).length = l.length := by simp [bytesV]
theorem bytesV_snoc (l : List Nat) (x : Nat) : bytesV (l ++ [x]) = bytesV l ++ [.int .u8 (x : Int)] := by simp [bytesV]
def fileL (wd hi pt : Int) (qs : List Int) (t1 t2 : List Value) (ev : Int) (sd : Value) : List Value := ints [wd, hi, pt] ++ ints qs ++ t1 ++ t2 ++ [.int .i64 ev, sd]
theorem sizeFile : (Tryz.prog.info? 47).map (·.size) = some 103 := by kernel_rfl
theorem sizeTbls : (Tryz.prog.info? 44).map (·.size) = some 34 := by kernel_rfl
theorem zeroTbl : (Tryz.prog.info? 42).bind (·.zero) = some (.agg (ints (List.replicate 16 0) ++ [Value.slice none 0 0]).toArray) := by kernel_rfl
theorem range_part {w : World} {g : Nat} {T : TypeId} {a m b : List Value} (h : Blk w g T (a ++ (m ++ b)).toArray) : w.rangeAt g a.length m := by
 intro j v hv
 rw [h.cell, List.getElem?_toArray, List.getElem?_append_right (by omega), Nat.add_sub_cancel_left, List.getElem?_append_left (List.getElem?_eq_some_iff.1 hv).1]
 exact hv
structure FileB (w : World) (g : Nat) (wd hi pt : Int) (qs : List Int) (t1 t2 : List Value) (ev : Int) (sd : Value) : Prop where
 c0 : w.cell? ⟨g, 0, none⟩ = some (.int .i64 wd)
 c1 : w.cell? ⟨g, 1, none⟩ = some (.int .i64 hi)
 c2 : w.cell? ⟨g, 2, none⟩ = some (.int .i64 pt)
 q : w.rangeAt g 3 (ints qs)
 ta : w.rangeAt g 67 t1
 tb : w.rangeAt g 84 t2
 tt : w.rangeAt g 67 (t1 ++ t2)
 c101 : w.cell? ⟨g, 101, none⟩ = some (.int .i64 ev)
 c102 : w.cell? ⟨g, 102, none⟩ = some sd
theorem fileB {w : World} {g : Nat} {T : TypeId} {wd hi pt : Int} {qs : List Int} {t1 t2 : List Value} {ev : Int} {sd : Value} (h : Blk w g T (fileL wd hi pt qs t1 t2 ev sd).toArray) (hq : qs.length = 64) (h1 : t1.length = 17) (h2 : t2.length = 17) :
 FileB w g wd hi pt qs t1 t2 ev sd := by
 have hql := (ints_len qs).trans hq
 have r0 : w.rangeAt g 0 (ints [wd, hi, pt]) := range_part (a := []) (m := ints [wd, hi, pt]) (b := ints qs ++ t1 ++ t2 ++ [.int .i64 ev, sd]) (T := T) (by simpa [fileL] using h)
 have r1 := range_part (a := ints [wd, hi, pt]) (m := ints qs) (b := t1 ++ t2 ++ [.int .i64 ev, sd]) (T := T) (w := w) (g := g) (by simpa [fileL] using h)
 have r2 := range_part (a := ints [wd, hi, pt] ++ ints qs) (m := t1) (b := t2 ++ [.int .i64 ev, sd]) (T := T) (w := w) (g := g) (by simpa [fileL] using h)
 have r3 := range_part (a := ints [wd, hi, pt] ++ ints qs ++ t1) (m := t2) (b := [.int .i64 ev, sd]) (T := T) (w := w) (g := g) (by simpa [fileL] using h)
 have r4 := range_part (a := ints [wd, hi, pt] ++ ints qs) (m := t1 ++ t2) (b := [.int .i64 ev, sd]) (T := T) (w := w) (g := g) (by simpa [fileL] using h)
 have r5 := range_part (a := ints [wd, hi, pt] ++ ints qs ++ t1 ++ t2) (m := [.int .i64 ev, sd]) (b := []) (T := T) (w := w) (g := g) (by simpa [fileL] using h)
 simp only [List.length_append, hql, h1, h2, ints_len, List.length_cons, List.length_nil] at r1 r2 r3 r4 r5
 exact ⟨r0 0 _ rfl, r0 1 _ rfl, r0 2 _ rfl, r1, r2, r3, r4, r5 0 _ rfl, r5 1 _ rfl⟩
theorem fileL_len (wd hi pt : Int) (qs : List Int) (t1 t2 : List Value) (ev : Int) (sd : Value) (hq : qs.length = 64) (h1 : t1.length = 17) (h2 : t2.length = 17) : (fileL wd hi pt qs t1 t2 ev sd).toArray.size = 103 := by
 simp [fileL, ints_len, hq, h1, h2]
def tblL (cs : List Int) (sl : Value) : List Value := ints cs ++ [sl]
theorem tblv_tblL (cs : List Int) (sl : Value) : tblv cs sl = (tblL cs sl).toArray := rfl
theorem tblL_len (cs : List Int) (sl : Value) (h : cs.length = 16) : (tblL cs sl).length = 17 := by simp [tblL, ints_len, h]
set_option maxRecDepth 20000 in
theorem built2 (t1 t2 : List Value) (h1 : t1.length = 17) (h2 : t2.length = 17) : Tryz.prog.builtSlice 42 2 [(0, .agg t1.toArray), (1, .agg t2.toArray)] = some (t1 ++ t2).toArray := by
 match t1, h1 with
 | [a0, a1, a2, a3, a4, a5, a6, a7, a8, a9, a10, a11, a12, a13, a14, a15, a16], _ =>
   match t2, h2 with
   | [b0, b1, b2, b3, b4, b5, b6, b7, b8, b9, b10, b11, b12, b13, b14, b15, b16], _ =>
     show _ = _
     kernel_rfl
theorem wpList_load_mid_g {P : Program} {ops : Array Oper} {rest : List Oper} {op : Oper} {a : Act} {w : World} {Q : Exit → Act → World → Prop} (hw : Region.wanted op (yielded ops a.tmps) = true) (ty : TypeId) (x : Operand) (ho : op.op = .load ty x)
 (b o : Nat) (hx : a.eval x = .pointer (some ⟨b, o, none⟩)) (cs : List Value) (d : TypeDesc) (hc : w.rangeAt b o cs)
 (hu : P.underlying ty = some d) (hd : d.isRow = true) (hi : (P.info? ty).map (·.size) = some cs.length)
 (h : wpList P ops Q rest (a.put op.dst (.agg cs.toArray)) w) : wpList P ops Q (op :: rest) a w :=
 wpList_wanted hw fun _ hK => wp_load_mid ty x ho b o hx cs d hc hu hd hi (hK _ _ h)
theorem range_two {w : World} {g : Nat} {T : TypeId} {t1 t2 : List Value} (h1 : t1.length = 17) (h : Blk w g T (t1 ++ t2).toArray) : w.rangeAt g 0 t1 ∧ w.rangeAt g 17 t2 := by
 refine ⟨range_part (a := []) (m := t1) (b := t2) (T := T) (by simpa using h), ?_⟩
 have := range_part (a := t1) (m := t2) (b := []) (T := T) (w := w) (g := g) (by simpa using h)
 rwa [h1] at this
def argsOK (wd hi pt ev : Int) : Bool := inB wd 1 64 && inB hi 1 64 && (pt == 1 || pt == 3) && inB ev 0 100
def fcheckZ (wd hi pt : Int) (qs : List Int) (z1 z2 : Int) (ev : Int) (n : Nat) : Int :=
 if argsOK wd hi pt ev && allIn qs 1 255 then (if z1 = 0 then (if z2 = 0 then (if 90000 < n then 2 else 0) else z2) else z1) else 1
theorem blk_setCells {g : Nat} {t : TypeId} : ∀ (news old a b : List Value) (w : World), old.length = news.length → Blk w g t (a ++ (old ++ b)).toArray → Blk (w.setCells g a.length news) g t (a ++ (news ++ b)).toArray
 | [], old, a, b, w, hl, h => by
   have : old = [] := List.length_eq_zero_iff.1 (by simpa using hl)
   subst this
   exact h
 | v :: news, [], a, b, w, hl, h => by simp at hl
 | v :: news, o :: old, a, b, w, hl, h => by
   have h1 := h.set_ a.length v
   rw [List.setIfInBounds_toArray, List.set_append_right _ _ (Nat.le_refl _), Nat.sub_self, List.cons_append, List.set_cons_zero] at h1
   have h2 : Blk (w.setCell ⟨g, a.length, none⟩ v) g t ((a ++ [v]) ++ (old ++ b)).toArray := by simpa using h1
   have h3 := blk_setCells news old (a ++ [v]) b _ (by simpa using hl) h2
   rw [World.setCells]
   have e : (a ++ [v]).length = a.length + 1 := by simp
   rw [e] at h3
   simpa using h3
theorem upd_setCells {g : Nat} : ∀ (news : List Value) (o : Nat) (w : World), Upd (fun b => b = g) w (w.setCells g o news)
 | [], _, w => Upd.refl _ w
 | v :: news, o, w => by
   rw [World.setCells]
   have h1 := (Upd.refl (fun b => b = g) w).setCell (p := ⟨g, o, none⟩) rfl v
   exact h1.trans (upd_setCells news (o + 1) _) (fun x h => .inl h)
section
variable {P : Program} {ops : Array Oper} {rest : List Oper} {o : Oper} {ac : Act} {w : World} {Q : Exit → Act → World → Prop}
theorem wpList_store_part (hgd : o.guard = none) (ty : TypeId) (x y : Operand) (ho : o.op = .store ty x y) (g off : Nat) (news : List Value) (hx : ac.eval x = .pointer (some ⟨g, off, none⟩)) (hy : ac.eval y = .agg news.toArray)
 {t : TypeId} {a old b : List Value} (hB : Blk w g t (a ++ (old ++ b)).toArray) (ha : a.length = off) (hl : old.length = news.length) (hs : (P.info? ty).map (·.size) = some news.length) (h1 : ∀ v ∈ news, v.oneCell' = true)
 (h : ∀ w1, Blk w1 g t (a ++ (news ++ b)).toArray → Upd (fun b => b = g) w w1 → wpList P ops Q rest (ac.put o.dst undef) w1) : wpList P ops Q (o :: rest) ac w := by
 subst ha
 refine wpList_store_mid hgd ty x y ho g a.length news.toArray hx hy (fun j hj => ⟨?_, hB.frozen _⟩) (by simpa using hs) (all_oneCell_toArray h1) (h _ (blk_setCells news old a b w hl hB) (upd_setCells _ _ _))
 rw [hB.cell]
 have hj : j < news.length := by simpa using hj
 simp only [List.getElem?_toArray]
 rw [List.getElem?_append_right (by omega), List.getElem?_append_left (by omega), List.getElem?_eq_getElem (by omega)]
 rfl
end
section
variable {o : Oper} {a : Act}
theorem run_loadSl (W : World) (p : Addr) (A : Option Addr) (n c : Nat) (h : W.cell? p = some (.slice A n c)) : (Instr.loadAt 45 (.pointer (some p))).run Tryz.prog W = .ok (.slice A n c) W := by
 go_simp
theorem run_loadU (W : World) (p : Addr) (z : Int) (h : W.cell? p = some (.int .u8 z)) : (Instr.loadAt 5 (.pointer (some p))).run Tryz.prog W = .ok (.int .u8 z) W := by
 go_simp
theorem ex_loadS {x : Operand} (ho : o.op = .load 45 x) {p : Addr} (hx : a.eval x = .pointer (some p)) {A : Option Addr} {n c : Nat} {w : World} (h : w.cell? p = some (.slice A n c)) : (execOp a.eval o).run Tryz.prog w = .ok (.value (.slice A n c)) w := by
 simp [execOp, ho, hx, run_loadSl w p A n c h]
theorem ex_loadU {x : Operand} (ho : o.op = .load 5 x) {p : Addr} (hx : a.eval x = .pointer (some p)) {z : Int} {w : World} (h : w.cell? p = some (.int .u8 z)) : (execOp a.eval o).run Tryz.prog w = .ok (.value (.int .u8 z)) w := by
 simp [execOp, ho, hx, run_loadU w p z h]
theorem run_conv8 (y : Nat) (h : y < 256) (W : World) : (convert 5 3 (.int .u8 (y : Int))).run Tryz.prog W = .ok (.int .i64 (y : Int)) W := by
 have e : IntKind.i64.wrap (y : Int) = (y : Int) := IntWalk.i64_in _ (by omega)
 go_simp
theorem ex_conv {P : Program} {x : Operand} {t u : TypeId} (ho : o.op = .convert t u x) {v v' : Value} (hx : a.eval x = v) (hr : ∀ w, (convert t u v).run P w = .ok v' w) (w : World) : (execOp a.eval o).run P w = .ok (.value v') w := by
 simp [execOp, ho, hx, hr]
end
theorem SL.upd0 {S : Nat → Prop} {w w' : World} {size n c : Nat} {A : Option Addr} {xs : List Value} (h : SL w size (.slice A n c) n xs) (hu : Upd S w w') (hS : 0 < n → ∀ ad, A = some ad → ¬ S ad.block) : SL w' size (.slice A n c) n xs := by
 by_cases h0 : 0 < n
 ·exact h.upd hu (hS h0)
 ·obtain ⟨A', c', e1, h1, h2, h3, h4⟩ := h
  exact ⟨A', c', e1, h1, h2, h3, fun hn => absurd hn h0⟩
theorem own_upd {S : Nat → Prop} {w w' : World} {base : Nat} {e : TypeId} {size n : Nat} {v : Value} {xs : List Value} (h : w.ownsRow base e size v n xs) (hu : Upd S w w') (hS : ∀ x, S x → x < base) : w'.ownsRow base e size v n xs := by
 obtain ⟨hl, hh⟩ := h
 refine ⟨hl, ?_⟩
 rcases hh with ⟨rfl, rfl⟩ | ⟨g, cap, cur, rfl, h1, hg, h2⟩
 ·exact .inl ⟨rfl, rfl⟩
 ·exact .inr ⟨g, cap, cur, rfl, h1, (hu.block g (Blk.lt (w := w) (t := e) (cs := cur) hg) (fun hx => by have := hS g hx; omega)).trans hg, h2⟩
section
variable {P : Program} (w : World)
theorem run_part_int (e : TypeId) (he : P.underlying e = some (.int .i64)) (zs : List Int) (i : Nat) (hi : i < zs.length) : (part e (bv zs) i).run P w = .ok (.int .i64 zs[i]) w := by
 have hagg : (isAgg e).run P w = .ok false w := by
  unfold isAgg
  rw [Sem.run_bind, run_underlying he w]
  rfl
 simp [part, hagg, bv_at zs i hi]
end
structure FC where
 wd : Int
 hi : Int
 pt : Int
 qs : List Int
 cs1 : List Int
 xs1 : List Int
 cs2 : List Int
 xs2 : List Int
 ev : Int
 data : List Nat
def FC.zero : FC := ⟨0, 0, 0, List.replicate 64 0, List.replicate 16 0, [], List.replicate 16 0, [], 0, []⟩
def FC.cells (F : FC) (s1 s2 sd : Value) : Array Value := (fileL F.wd F.hi F.pt F.qs (tblL F.cs1 s1) (tblL F.cs2 s2) F.ev sd).toArray
def FC.at_ (F : FC) (w : World) (s1 s2 sd : Value) : Prop := SL w 1 s1 F.xs1.length (ints F.xs1) ∧ SL w 1 s2 F.xs2.length (ints F.xs2) ∧ SL w 1 sd F.data.length (bytesV F.data)
def FC.shaped (F : FC) : Prop := F.qs.length = 64 ∧ F.cs1.length = 16 ∧ F.cs2.length = 16
theorem FC.at_.ext {F : FC} {w w' : World} {s1 s2 sd : Value} (h : F.at_ w s1 s2 sd) (hx : Ext w w') : F.at_ w' s1 s2 sd := ⟨h.1.ext hx, h.2.1.ext hx, h.2.2.ext hx⟩
theorem FC.size {F : FC} (h : F.shaped) (s1 s2 sd : Value) : (F.cells s1 s2 sd).size = 103 := fileL_len _ _ _ _ _ _ _ _ h.1 (tblL_len _ _ h.2.1) (tblL_len _ _ h.2.2)
theorem zero_shaped : FC.zero.shaped := ⟨rfl, rfl, rfl⟩
def zFile : Array Value := FC.zero.cells (.slice none 0 0) (.slice none 0 0) (.slice none 0 0)
theorem zero_at (w : World) : FC.zero.at_ w (.slice none 0 0) (.slice none 0 0) (.slice none 0 0) := ⟨SL.nil w 1, SL.nil w 1, SL.nil w 1⟩
set_option maxRecDepth 20000 in
theorem built0F : Tryz.prog.built 47 [] = some zFile := by
 show _ = _
 kernel_rfl
theorem zFile_size : zFile.size = 103 := by unfold zFile; exact FC.size zero_shaped _ _ _
section
variable {ops : Array Oper} {rest : List Oper} {o : Oper} {ac : Act} {w : World} {Q : Exit → Act → World → Prop}
end
end Go.Proofs.YtkggcjdlpendfaaGreatDoor
