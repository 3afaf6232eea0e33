/- Contracts for the law DeskRunsCard, part 21: what the functions that it reaches answer, for all arguments that the theorems name. -/
import Derived.Test.YtlhggcbpipmjhaaGreatDoorMDeskRunsCard20
import Derived.Test.YtlhggcbpipmjhaaGreatDoorMDeskRunsCard8
import Derived.Test.YtlhggcbpipmjhaaGreatDoorMDeskRunsCard1
namespace Go.Proofs.YtlhggcbpipmjhaaGreatDoor
set_option linter.unusedVariables false
set_option linter.unusedSimpArgs false
open Go.RowKit
def tabZ (n m : Nat) : Int := if m < n then basisZ (m / 8) (m % 8) else 0
def tabL (n : Nat) : List Int := (List.range 64).map (tabZ n)
theorem tabL_len (n : Nat) : (tabL n).length = 64 := by simp [tabL]
theorem tabL_zero : tabL 0 = List.replicate 64 0 := by
 refine List.ext_getElem (by simp [tabL]) fun m h1 h2 => ?_
 simp only [tabL, List.getElem_map, List.getElem_range, List.getElem_replicate, tabZ]
 simp
theorem tabL_set (u x : Nat) (hu : u < 8) (hx : x < 8) : (tabL (8 * u + x)).set (8 * u + x) (basisZ u x) = tabL (8 * u + x + 1) := by
 refine range_set _ _ _ _ (by omega) ?_ ?_
 ·unfold tabZ
  rw [if_pos (by omega), show (8 * u + x) / 8 = u by omega, show (8 * u + x) % 8 = x by omega]
 ·intro m hm
  unfold tabZ
  by_cases h : m < 8 * u + x
  ·rw [if_pos h, if_pos (by omega)]
  ·rw [if_neg h, if_neg (by omega)]
theorem tabL_at (u x : Nat) (hu : u < 8) (hx : x < 8) : (bv (tabL 64))[8 * u + x]? = some (.int .i64 (basisZ u x)) := by
 rw [bv_at _ _ (by rw [tabL_len]; omega)]
 simp only [tabL, List.getElem_map, List.getElem_range, tabZ]
 rw [if_pos (by omega), show (8 * u + x) / 8 = u by omega, show (8 * u + x) % 8 = x by omega]
def fillL (F : Nat → Int) (i : Nat) : List Int := (List.range i).map F ++ List.replicate (64 - i) 0
theorem fillL_len (F : Nat → Int) (i : Nat) (h : i ≤ 64) : (fillL F i).length = 64 := by simp [fillL]; omega
theorem fillL_set (F : Nat → Int) (i : Nat) (hi : i < 64) : (fillL F i).set i (F i) = fillL F (i + 1) := by
 unfold fillL
 have hl : ((List.range i).map F).length = i := by simp
 rw [List.set_append_right _ _ (by omega), hl, Nat.sub_self]
 obtain ⟨j, hj⟩ : ∃ j, 64 - i = j + 1 := ⟨64 - i - 1, by omega⟩
 have hj2 : 64 - (i + 1) = j := by omega
 rw [hj, hj2, List.replicate_succ, List.set_cons_zero, List.range_succ, List.map_append]
 simp
theorem waveL_eq (C : Nat → Nat → Int) (zs : List Int) : waveL C zs = fillL (fun i => roundF (waveAt C zs i)) 64 := by
 unfold waveL fillL
 rw [along_along]
 simp
theorem waveTerm_bd (C : Nat → Nat → Int) (zs : List Int) (hzb : ∀ z ∈ zs, -40000 ≤ z ∧ z ≤ 40000) (hC : ∀ i k, -4096 ≤ C i k ∧ C i k ≤ 4096) (i k : Nat) :
 -163840000 ≤ zs.getD k 0 * C (i % 8) (k % 8) ∧ zs.getD k 0 * C (i % 8) (k % 8) ≤ 163840000 ∧ -671088640000 ≤ waveTerm C zs i k ∧ waveTerm C zs i k ≤ 671088640000 := by
 have hz : -40000 ≤ zs.getD k 0 ∧ zs.getD k 0 ≤ 40000 := by
  rw [List.getD_eq_getElem?_getD]
  rcases Nat.lt_or_ge k zs.length with h | h
  ·rw [List.getElem?_eq_getElem h]; exact hzb _ (List.getElem_mem h)
  ·rw [List.getElem?_eq_none h]; simp
 have a := hC (i % 8) (k % 8)
 have b := hC (i / 8) (k / 8)
 have h1 := term_bd _ _ 40000 4096 (by omega) hz.1 hz.2 a.1 a.2
 have h2 := term_bd (zs.getD k 0 * C (i % 8) (k % 8)) _ 163840000 4096 (by omega) (by omega) (by omega) b.1 b.2
 unfold waveTerm
 omega
set_option maxRecDepth 20000 in
set_option maxHeartbeats 1000000 in
theorem rwaveTo_in (zs : List Int) (w : World) (hz : zs.length = 64) (hal : allIn zs (-40000) 40000 = true) :
 Calls Tryz.prog 28 #[.agg (bv zs), .bool true] w fun e w' => e = .returned (.tuple #[.agg (bv (waveL toC zs)), .int .i64 0]) ∧ Ext w w' := by
 have HBW := hid_ (fun W => blockWithin_any zs (-40000) 40000 W hz)
 rw [hal] at HBW
 have HTB := hid_ (waveTerm_bd toC zs (allIn_iff.1 hal) (fun i k => basisZ_bd _ _))
 have HSB := hid_ (fun i k (_ : k ≤ 64) => sumTo_bd k (waveTerm toC zs i) 671088640000 (fun j _ => ⟨(waveTerm_bd toC zs (allIn_iff.1 hal) (fun i k => basisZ_bd _ _) i j).2.2.1, (waveTerm_bd toC zs (allIn_iff.1 hal) (fun i k => basisZ_bd _ _) i j).2.2.2⟩))
 have hsz := hid_ ((bv_size zs).trans hz)
 have HZ := hid_ hz
 have HAT := hid_ (fun k (hk : k < zs.length) => bv_at zs k hk)
 have HRB := hid_ (fun u x W (hu : u < 8) (hx : x < 8) => rbasis_any u x W (by omega) (by omega))
 have HPW : Hid (∀ W, Calls Tryz.prog 59 #[.int .i64 26] W fun e w' => e = .returned (.int .i64 67108864) ∧ W = w') := hid_ (fun W => by
  have h := power_any 26 W (by omega)
  rw [show (2 : Int) ^ 26 = 67108864 from by decide] at h
  exact h)
 have HT : Hid (∀ (W : World) {g6 : Nat}, Blk W g6 94 (bv (tabL 64)) → ∀ u x, u < 8 → x < 8 → W.cell? ⟨g6, 8 * u + x, none⟩ = some (.int .i64 (basisZ u x))) := hid_ (fun W g6 h u x hu hx => (h.cell _).trans (tabL_at u x hu hx))
 obtain ⟨F, hF⟩ : ∃ F : Nat → Int, F = fun i => roundF (waveAt toC zs i) := ⟨_, rfl⟩
 have HF := hid_ (show waveL toC zs = fillL F 64 by rw [hF, waveL_eq])
 have HFI : Hid (∀ i, roundF (waveAt toC zs i) = F i) := hid_ (fun i => by rw [hF])
 clear hF hal hz
 generalize bv zs = cz at *
 go_enter Tryz.func28, Tryz.ntmps28
 go_wp2_with (first
  | (refine wBox rfl 30 (.tmp 0) rfl cz rfl ?_; intro w1 gz hbz1 hx1 hgz)
  | (refine wAlo' rfl (some 4) rfl 30 rfl _ zero48 ?_; intro w2 gr hbr2 hx2 hgr; have hbz2 := hbz1.ext hx2)
  | (refine wLdB rfl 30 (.tmp 2) rfl _ rfl hbz2 _ Tryz.underlying30 rfl 64 size48 hsz.out ?_)
  | (go_at_call 56; (with_reducible refine (HBW.out _).mono ?_); rintro e w3 ⟨rfl, hx3⟩; have hbz3 := hbz2.ext hx3; have hbr3 := hbr2.ext hx3)
  | (refine wAlo' rfl (some 6) rfl 94 rfl _ zero88 ?_; intro w4 g6 hb64 hx4 hg6; have hbz4 := hbz3.ext hx4; have hbr4 := hbr3.ext hx4))
 have hg6' : w.heap.size ≤ g6 := by have := hx1.size; have := hx2.size; have := hx3.size; omega
 have hgr' : w.heap.size ≤ gr := by have := hx1.size; omega
 have hn1 : g6 ≠ gz := by have := hbz3.lt; omega
 have hn2 : g6 ≠ gr := by have := hbr3.lt; omega
 have hxx := ((hx1.trans hx2).trans hx3).trans hx4
 clear hbz1 hbz2 hbz3 hbr2 hbr3 hx1 hx2 hx3 hx4
 go_loopw [18] (fun i wr => ∃ u : Nat, u ≤ 8 ∧ i = .int .i64 (u : Int) ∧ Ext w wr ∧ Blk wr gz 30 cz ∧ Blk wr gr 30 (bv zeros64) ∧ Blk wr g6 94 (bv (tabL (8 * u)))) (fun i _ => 8 - (intOf i).toNat)
 case atStart => exact ⟨0, by omega, rfl, hxx, hbz4, hbr4, by rw [show 8 * 0 = 0 from rfl, tabL_zero]; exact hb64⟩
 case round =>
  clear hxx hbz4 hbr4 hb64
  obtain ⟨u, hu, rfl, hx, hbz, hbr, hb6⟩ := hrel
  by_cases hlu : u < 8
  ·go_wp2_with fail
   go_loopw [21] (fun i wr => ∃ x : Nat, x ≤ 8 ∧ i = .int .i64 (x : Int) ∧ Ext w wr ∧ Blk wr gz 30 cz ∧ Blk wr gr 30 (bv zeros64) ∧ Blk wr g6 94 (bv (tabL (8 * u + x)))) (fun i _ => 8 - (intOf i).toNat)
   case atStart => exact ⟨0, by omega, rfl, hx, hbz, hbr, hb6⟩
   case round =>
    clear hx hbz hbr hb6
    obtain ⟨x, hxl, rfl, hx, hbz, hbr, hb6⟩ := hrel
    by_cases hlx : x < 8
    ·go_wp2_with fail
     have hcall := hid_ (fun W => HRB.out u x W hlu hlx)
     have HTS := hid_ (tabL_set u x hlu hlx)
     have hol : 8 * u + x < (tabL (8 * u + x)).length := by rw [tabL_len]; omega
     have hold : ∀ W, Blk W g6 94 (bv (tabL (8 * u + x))) → ∃ o, W.cell? ⟨g6, 8 * u + x, none⟩ = some o := fun W h => ⟨_, (h.cell _).trans (bv_at _ _ hol)⟩
     generalize basisZ u x = c at *
     have step : ∀ W, (Ext w W ∧ Blk W gz 30 cz ∧ Blk W gr 30 (bv zeros64) ∧ Blk W g6 94 (bv (tabL (8 * u + x)))) → Calls Tryz.prog 62 #[.int .i64 (u : Int), .int .i64 (x : Int)] W fun e w' => e = .returned (.int .i64 c) ∧ (Ext w w' ∧ Blk w' gz 30 cz ∧ Blk w' gr 30 (bv zeros64) ∧ Blk w' g6 94 (bv (tabL (8 * u + x)))) :=
      fun W ⟨h1, h2, h3, h4⟩ => (hcall.out W).mono fun e w' ⟨he, hx⟩ => ⟨he, h1.trans hx, h2.ext hx, h3.ext hx, h4.ext hx⟩
     refine wp_region_quiet_last (C := fun W => Ext w W ∧ Blk W gz 30 cz ∧ Blk W gr 30 (bv zeros64) ∧ Blk W g6 94 (bv (tabL (8 * u + x)))) rfl (by kernel_rfl) rfl rfl (by kernel_rfl) (by kernel_rfl) (by kernel_rfl) ⟨hx.drew, hbz.drew, hbr.drew, hb6.drew⟩ (fun opsq => ?_)
     simp only [List.dropLast_cons_cons, List.dropLast_singleton]
     refine q_move rfl _ rfl (.int .i64 (u : Int)) rfl ?_
     simp only [Act.put, sA, sB, sC]
     refine q_move rfl _ rfl (.int .i64 (x : Int)) rfl ?_
     simp only [Act.put, sA, sB, sC]
     refine q_move rfl _ rfl (.int .i64 (u : Int)) rfl ?_
     simp only [Act.put, sA, sB, sC]
     refine q_move rfl _ rfl (.int .i64 (x : Int)) rfl ?_
     simp only [Act.put, sA, sB, sC]
     refine q_callF rfl 62 Tryz.func62 (by kernel_rfl) rfl _ _ rfl #[.int .i64 (u : Int), .int .i64 (x : Int)] (by simp [Act.eval]) _ step ?_
     simp only [Act.put, sA, sB, sC]
     refine q_addr rfl 94 _ _ rfl (.pointer (some ⟨g6, 0, none⟩)) (.int .i64 (u : Int)) rfl rfl (.pointer (some ⟨g6, 8 * u, none⟩)) (run_index88 _ _ (by omega)) ?_
     simp only [Act.put, sA, sB, sC]
     refine q_addr rfl 93 _ _ rfl (.pointer (some ⟨g6, 8 * u, none⟩)) (.int .i64 (x : Int)) rfl rfl (.pointer (some ⟨g6, 8 * u + x, none⟩)) (run_index8 _ _ _ (by omega)) ?_
     simp only [Act.put, sA, sB, sC]
     refine wpQuiet_nil ?_
     clear hx hbz hbr hb6
     intro w6 hw6
     obtain ⟨hx, hbz, hbr, hb6⟩ := hw6
     obtain ⟨old, ho⟩ := hold w6 hb6
     refine wp_storeI _ _ rfl ⟨g6, 8 * u + x, none⟩ c rfl rfl _ ho (hb6.frozen _) ?_
     simp only [Act.put, sA, sB, sC]
     clear step hold ho
     go_wp2_with fail
     go_roundw
     case rel =>
      refine ⟨x + 1, by omega, by go_num, hx.setCell (by omega) _, hbz.far (p := ⟨g6, 8 * u + x, none⟩) (by simpa using hn1.symm) _, hbr.far (p := ⟨g6, 8 * u + x, none⟩) (by simpa using hn2.symm) _, ?_⟩
      have := hb6.set_ (8 * u + x) (.int .i64 c)
      rw [bv_set, HTS.out] at this
      exact this
     case measure => simp [intOf]; omega
    ·obtain rfl : x = 8 := by omega
     rw [show 8 * u + 8 = 8 * (u + 1) by omega] at hb6
     go_wp2_with fail
     go_roundw
     case rel => exact ⟨u + 1, by omega, by go_num, hx, hbz, hbr, hb6⟩
     case measure => simp [intOf]; omega
  ·have eu : u = 8 := by omega
   have eu2 : (u : Int) = 8 := by omega
   rw [eu] at hb6
   rw [eu2]
   clear eu eu2 hu hlu
   go_wp2_with (refine wAlo' rfl (some 9) rfl 30 rfl _ zero48 ?_; intro w5 g9 hb95 hx5 hg9; have hbz5 := hbz.ext hx5; have hbr5 := hbr.ext hx5; have hb65 := hb6.ext hx5)
   have hg9' : w.heap.size ≤ g9 := by have := hx.size; omega
   have hm1 : g9 ≠ gz := by have := hbz.lt; omega
   have hm2 : g9 ≠ gr := by have := hbr.lt; omega
   have hm3 : g9 ≠ g6 := by have := hb6.lt; omega
   have hxx := hx.trans hx5
   clear hx hx5 hbz hbr hb6
   go_loopw [33] (fun q wr => ∃ i : Nat, i ≤ 64 ∧ q = .int .i64 (i : Int) ∧ Ext w wr ∧ Blk wr gz 30 cz ∧ Blk wr gr 30 (bv zeros64) ∧ Blk wr g6 94 (bv (tabL 64)) ∧ Blk wr g9 30 (bv (fillL F i))) (fun i _ => 64 - (intOf i).toNat)
   case atStart => exact ⟨0, by omega, rfl, hxx, hbz5, hbr5, hb65, hb95⟩
   case round =>
    clear hxx hbz5 hbr5 hb65 hb95
    obtain ⟨i, hi, rfl, hx, hbz, hbr, hb6, hb9⟩ := hrel
    by_cases hli : i < 64
    ·go_wp2_with (refine wLdB rfl 30 (.tmp 2) rfl _ rfl hbz _ Tryz.underlying30 rfl 64 size48 hsz.out ?_)
     go_loopw [11, 37] (fun sv q wr => ∃ k : Nat, k ≤ 64 ∧ q = .int .i64 (k : Int) ∧ sv = .int .i64 (sumTo k (waveTerm toC zs i)) ∧ Ext w wr ∧ Blk wr gz 30 cz ∧ Blk wr gr 30 (bv zeros64) ∧ Blk wr g6 94 (bv (tabL 64)) ∧ Blk wr g9 30 (bv (fillL F i))) (fun _ i _ => 64 - (intOf i).toNat)
     case atStart => exact ⟨0, by omega, rfl, rfl, hx, hbz, hbr, hb6, hb9⟩
     case round =>
      clear hx hbz hbr hb6 hb9
      obtain ⟨k, hk, rfl, rfl, hx, hbz, hbr, hb6, hb9⟩ := hrel
      by_cases hlk : k < 64
      ·have hkl : k < zs.length := by have := HZ.out; omega
       have hix := fun W => run_index48 cz k (.int .i64 zs[k]) hlk (HAT.out k hkl) W
       have HD : Hid (zs.getD k 0 = zs[k]) := hid_ (by simp [hkl])
       obtain ⟨t1, t2, t3, t4⟩ := HTB.out i k
       have ET : waveTerm toC zs i k = zs.getD k 0 * toC (i % 8) (k % 8) * toC (i / 8) (k / 8) := rfl
       have HSS := hid_ (sumTo_succ k (waveTerm toC zs i))
       rw [ET] at t3 t4 HSS
       rw [HD.out] at t1 t2 t3 t4 HSS
       clear ET
       obtain ⟨s1, s2⟩ := HSB.out i k hk
       generalize sumTo k (waveTerm toC zs i) = s at *
       generalize zs[k] = z at *
       go_wp2_with fail
       refine wp_region_quiet (C := fun W => Ext w W ∧ Blk W gz 30 cz ∧ Blk W gr 30 (bv zeros64) ∧ Blk W g6 94 (bv (tabL 64)) ∧ Blk W g9 30 (bv (fillL F i))) (by kernel_rfl) (by kernel_rfl) ⟨hx.drew, hbz.drew, hbr.drew, hb6.drew, hb9.drew⟩ ?_
       refine q_move rfl _ rfl (.int .i64 s) rfl ?_
       simp only [Act.put, sA, sB, sC]
       refine q_move rfl _ rfl (.int .i64 z) rfl ?_
       simp only [Act.put, sA, sB, sC]
       refine q_move rfl _ rfl (.int .i64 (i : Int)) rfl ?_
       simp only [Act.put, sA, sB, sC]
       refine q_binOp rfl .rem 3 _ _ _ rfl (.int .i64 (i : Int)) (.int .i64 8) rfl rfl (.int .i64 ((i % 8 : Nat) : Int)) (guardI _ _ _ _ _) (run_remI _ (by omega)) ?_
       simp only [Act.put, sA, sB, sC]
       refine q_move rfl _ rfl (.int .i64 (k : Int)) rfl ?_
       simp only [Act.put, sA, sB, sC]
       refine q_binOp rfl .rem 3 _ _ _ rfl (.int .i64 (k : Int)) (.int .i64 8) rfl rfl (.int .i64 ((k % 8 : Nat) : Int)) (guardI _ _ _ _ _) (run_remI _ (by omega)) ?_
       simp only [Act.put, sA, sB, sC]
       refine q_addr rfl 94 _ _ rfl (.pointer (some ⟨g6, 0, none⟩)) (.int .i64 ((i % 8 : Nat) : Int)) rfl rfl (.pointer (some ⟨g6, 8 * (i % 8), none⟩)) (run_index88 _ _ (by omega)) ?_
       simp only [Act.put, sA, sB, sC]
       refine q_addr rfl 93 _ _ rfl (.pointer (some ⟨g6, 8 * (i % 8), none⟩)) (.int .i64 ((k % 8 : Nat) : Int)) rfl rfl (.pointer (some ⟨g6, 8 * (i % 8) + k % 8, none⟩)) (run_index8 _ _ _ (by omega)) ?_
       simp only [Act.put, sA, sB, sC]
       refine q_load rfl 3 _ rfl (.pointer (some ⟨g6, 8 * (i % 8) + k % 8, none⟩)) rfl (.int .i64 (toC (i % 8) (k % 8))) (fun W hW => run_loadI W _ _ (HT.out W hW.2.2.2.1 (i % 8) (k % 8) (by omega) (by omega))) ?_
       simp only [Act.put, sA, sB, sC]
       refine q_binOp rfl .mul 3 _ _ _ rfl (.int .i64 z) (.int .i64 (toC (i % 8) (k % 8))) rfl rfl (.int .i64 (z * toC (i % 8) (k % 8))) (guardI _ _ _ _ _) (run_mulI _ _ _ (IntWalk.i64_in _ (by omega))) ?_
       simp only [Act.put, sA, sB, sC]
       refine q_move rfl _ rfl (.int .i64 (i : Int)) rfl ?_
       simp only [Act.put, sA, sB, sC]
       refine q_binOp rfl .quo 3 _ _ _ rfl (.int .i64 (i : Int)) (.int .i64 8) rfl rfl (.int .i64 ((i / 8 : Nat) : Int)) (guardI _ _ _ _ _) (run_quoI _ (by omega)) ?_
       simp only [Act.put, sA, sB, sC]
       refine q_move rfl _ rfl (.int .i64 (k : Int)) rfl ?_
       simp only [Act.put, sA, sB, sC]
       refine q_binOp rfl .quo 3 _ _ _ rfl (.int .i64 (k : Int)) (.int .i64 8) rfl rfl (.int .i64 ((k / 8 : Nat) : Int)) (guardI _ _ _ _ _) (run_quoI _ (by omega)) ?_
       simp only [Act.put, sA, sB, sC]
       refine q_addr rfl 94 _ _ rfl (.pointer (some ⟨g6, 0, none⟩)) (.int .i64 ((i / 8 : Nat) : Int)) rfl rfl (.pointer (some ⟨g6, 8 * (i / 8), none⟩)) (run_index88 _ _ (by omega)) ?_
       simp only [Act.put, sA, sB, sC]
       refine q_addr rfl 93 _ _ rfl (.pointer (some ⟨g6, 8 * (i / 8), none⟩)) (.int .i64 ((k / 8 : Nat) : Int)) rfl rfl (.pointer (some ⟨g6, 8 * (i / 8) + k / 8, none⟩)) (run_index8 _ _ _ (by omega)) ?_
       simp only [Act.put, sA, sB, sC]
       refine q_load rfl 3 _ rfl (.pointer (some ⟨g6, 8 * (i / 8) + k / 8, none⟩)) rfl (.int .i64 (toC (i / 8) (k / 8))) (fun W hW => run_loadI W _ _ (HT.out W hW.2.2.2.1 (i / 8) (k / 8) (by omega) (by omega))) ?_
       simp only [Act.put, sA, sB, sC]
       refine q_binOp rfl .mul 3 _ _ _ rfl (.int .i64 (z * toC (i % 8) (k % 8))) (.int .i64 (toC (i / 8) (k / 8))) rfl rfl (.int .i64 (z * toC (i % 8) (k % 8) * toC (i / 8) (k / 8))) (guardI _ _ _ _ _) (run_mulI _ _ _ (IntWalk.i64_in _ (by omega))) ?_
       simp only [Act.put, sA, sB, sC]
       refine q_binOp rfl .add 3 _ _ _ rfl (.int .i64 s) (.int .i64 (z * toC (i % 8) (k % 8) * toC (i / 8) (k / 8))) rfl rfl (.int .i64 (s + z * toC (i % 8) (k % 8) * toC (i / 8) (k / 8))) (guardI _ _ _ _ _) (run_addI _ _ _ (IntWalk.i64_in _ (by omega))) ?_
       simp only [Act.put, sA, sB, sC]
       refine q_assign rfl _ rfl (.int .i64 (s + z * toC (i % 8) (k % 8) * toC (i / 8) (k / 8))) rfl ?_
       simp only [Act.put, sA, sB, sC]
       refine wpQuiet_nil ?_
       clear hx hbz hbr hb6 hb9
       intro w6 hw6
       obtain ⟨hx, hbz, hbr, hb6, hb9⟩ := hw6
       clear t1 t2 t3 t4
       go_wp2_with fail
       go_roundw
       case rel => exact ⟨k + 1, by omega, by go_num, by rw [HSS.out], hx, hbz, hbr, hb6, hb9⟩
       case measure => simp [intOf]; omega
      ·obtain rfl : k = 64 := by omega
       obtain ⟨s1, s2⟩ := HSB.out i 64 (by omega)
       have HFi := hid_ (HFI.out i)
       have HRD := hid_ (fun W => rround_any (waveAt toC zs i) 67108864 W (by unfold waveAt; omega) (by unfold waveAt; omega) (by omega) (by omega))
       have HFS := hid_ (fillL_set F i hli)
       obtain ⟨old, hold⟩ : ∃ u, wr.cell? ⟨g9, i, none⟩ = some u := by
        rw [hb9.cell i]
        have hl := fillL_len F i (by omega)
        exact ⟨_, bv_at _ i (by omega)⟩
       have hfr := hb9.frozen i
       have hRF : rnd (waveAt toC zs i) 67108864 = F i := HFi.out
       rw [hRF] at HRD
       clear hRF s1 s2
       rw [show sumTo 64 (waveTerm toC zs i) = waveAt toC zs i from rfl]
       generalize waveAt toC zs i = sv at *
       go_wp2_with (first
        | (go_at_call 59; (with_reducible refine (HPW.out _).mono ?_); rintro e w' ⟨rfl, rfl⟩)
        | (go_at_call 63; (with_reducible refine (HRD.out _).mono ?_); rintro e w' ⟨rfl, rfl⟩))
       go_roundw
       case rel =>
        refine ⟨i + 1, by omega, by go_num, hx.setCell (by omega) _, hbz.far (p := ⟨g9, i, none⟩) (by simpa using hm1.symm) _, hbr.far (p := ⟨g9, i, none⟩) (by simpa using hm2.symm) _, hb6.far (p := ⟨g9, i, none⟩) (by simpa using hm3.symm) _, ?_⟩
        have := hb9.set_ i (.int .i64 (F i))
        rw [bv_set, HFS.out] at this
        exact this
       case measure => simp [intOf]; omega
    ·obtain rfl : i = 64 := by omega
     rw [← HF.out] at hb9
     have hs := hid_ ((bv_size _).trans (waveL_len toC zs))
     have ho := hid_ (bv_one (waveL toC zs))
     generalize hcr : bv (waveL toC zs) = cr at *
     have HCR := hid_ hcr
     clear hcr
     have hs0 : Hid ((bv zeros64).size = 64) := hid_ (by rw [bv_size]; rfl)
     go_wp2_with (first
      | (refine wLdB rfl 30 (.tmp 9) rfl _ rfl hb9 _ Tryz.underlying30 rfl 64 size48 hs.out ?_)
      | (refine wStB rfl 30 (.tmp 4) (.tmp 87) rfl _ _ rfl rfl hbr 64 size48 hs.out hs0.out ho.out ?_; intro w7 hb7 hg7))
     exact ret_cell_tmp rfl rfl _ rfl hb7 _ Tryz.underlying30 rfl 64 size48 hs.out ⟨by rw [HCR.out]; rfl, hx.grown hg7 hgr'⟩
set_option maxRecDepth 20000 in
set_option maxHeartbeats 1000000 in
theorem rwaveFrom_in (zs : List Int) (w : World) (hz : zs.length = 64) (hal : allIn zs (-40000) 40000 = true) :
 Calls Tryz.prog 28 #[.agg (bv zs), .bool false] w fun e w' => e = .returned (.tuple #[.agg (bv (waveL frC zs)), .int .i64 0]) ∧ Ext w w' := by
 have HBW := hid_ (fun W => blockWithin_any zs (-40000) 40000 W hz)
 rw [hal] at HBW
 have HTB := hid_ (waveTerm_bd frC zs (allIn_iff.1 hal) (fun i k => basisZ_bd _ _))
 have HSB := hid_ (fun i k (_ : k ≤ 64) => sumTo_bd k (waveTerm frC zs i) 671088640000 (fun j _ => ⟨(waveTerm_bd frC zs (allIn_iff.1 hal) (fun i k => basisZ_bd _ _) i j).2.2.1, (waveTerm_bd frC zs (allIn_iff.1 hal) (fun i k => basisZ_bd _ _) i j).2.2.2⟩))
 have hsz := hid_ ((bv_size zs).trans hz)
 have HZ := hid_ hz
 have HAT := hid_ (fun k (hk : k < zs.length) => bv_at zs k hk)
 have HRB := hid_ (fun u x W (hu : u < 8) (hx : x < 8) => rbasis_any u x W (by omega) (by omega))
 have HPW : Hid (∀ W, Calls Tryz.prog 59 #[.int .i64 26] W fun e w' => e = .returned (.int .i64 67108864) ∧ W = w') := hid_ (fun W => by
  have h := power_any 26 W (by omega)
  rw [show (2 : Int) ^ 26 = 67108864 from by decide] at h
  exact h)
 have HT : Hid (∀ (W : World) {g6 : Nat}, Blk W g6 94 (bv (tabL 64)) → ∀ u x, u < 8 → x < 8 → W.cell? ⟨g6, 8 * u + x, none⟩ = some (.int .i64 (basisZ u x))) := hid_ (fun W g6 h u x hu hx => (h.cell _).trans (tabL_at u x hu hx))
 obtain ⟨F, hF⟩ : ∃ F : Nat → Int, F = fun i => roundF (waveAt frC zs i) := ⟨_, rfl⟩
 have HF := hid_ (show waveL frC zs = fillL F 64 by rw [hF, waveL_eq])
 have HFI : Hid (∀ i, roundF (waveAt frC zs i) = F i) := hid_ (fun i => by rw [hF])
 clear hF hal hz
 generalize bv zs = cz at *
 go_enter Tryz.func28, Tryz.ntmps28
 go_wp2_with (first
  | (refine wBox rfl 30 (.tmp 0) rfl cz rfl ?_; intro w1 gz hbz1 hx1 hgz)
  | (refine wAlo' rfl (some 4) rfl 30 rfl _ zero48 ?_; intro w2 gr hbr2 hx2 hgr; have hbz2 := hbz1.ext hx2)
  | (refine wLdB rfl 30 (.tmp 2) rfl _ rfl hbz2 _ Tryz.underlying30 rfl 64 size48 hsz.out ?_)
  | (go_at_call 56; (with_reducible refine (HBW.out _).mono ?_); rintro e w3 ⟨rfl, hx3⟩; have hbz3 := hbz2.ext hx3; have hbr3 := hbr2.ext hx3)
  | (refine wAlo' rfl (some 6) rfl 94 rfl _ zero88 ?_; intro w4 g6 hb64 hx4 hg6; have hbz4 := hbz3.ext hx4; have hbr4 := hbr3.ext hx4))
 have hg6' : w.heap.size ≤ g6 := by have := hx1.size; have := hx2.size; have := hx3.size; omega
 have hgr' : w.heap.size ≤ gr := by have := hx1.size; omega
 have hn1 : g6 ≠ gz := by have := hbz3.lt; omega
 have hn2 : g6 ≠ gr := by have := hbr3.lt; omega
 have hxx := ((hx1.trans hx2).trans hx3).trans hx4
 clear hbz1 hbz2 hbz3 hbr2 hbr3 hx1 hx2 hx3 hx4
 go_loopw [18] (fun i wr => ∃ u : Nat, u ≤ 8 ∧ i = .int .i64 (u : Int) ∧ Ext w wr ∧ Blk wr gz 30 cz ∧ Blk wr gr 30 (bv zeros64) ∧ Blk wr g6 94 (bv (tabL (8 * u)))) (fun i _ => 8 - (intOf i).toNat)
 case atStart => exact ⟨0, by omega, rfl, hxx, hbz4, hbr4, by rw [show 8 * 0 = 0 from rfl, tabL_zero]; exact hb64⟩
 case round =>
  clear hxx hbz4 hbr4 hb64
  obtain ⟨u, hu, rfl, hx, hbz, hbr, hb6⟩ := hrel
  by_cases hlu : u < 8
  ·go_wp2_with fail
   go_loopw [21] (fun i wr => ∃ x : Nat, x ≤ 8 ∧ i = .int .i64 (x : Int) ∧ Ext w wr ∧ Blk wr gz 30 cz ∧ Blk wr gr 30 (bv zeros64) ∧ Blk wr g6 94 (bv (tabL (8 * u + x)))) (fun i _ => 8 - (intOf i).toNat)
   case atStart => exact ⟨0, by omega, rfl, hx, hbz, hbr, hb6⟩
   case round =>
    clear hx hbz hbr hb6
    obtain ⟨x, hxl, rfl, hx, hbz, hbr, hb6⟩ := hrel
    by_cases hlx : x < 8
    ·go_wp2_with fail
     have hcall := hid_ (fun W => HRB.out u x W hlu hlx)
     have HTS := hid_ (tabL_set u x hlu hlx)
     have hol : 8 * u + x < (tabL (8 * u + x)).length := by rw [tabL_len]; omega
     have hold : ∀ W, Blk W g6 94 (bv (tabL (8 * u + x))) → ∃ o, W.cell? ⟨g6, 8 * u + x, none⟩ = some o := fun W h => ⟨_, (h.cell _).trans (bv_at _ _ hol)⟩
     generalize basisZ u x = c at *
     have step : ∀ W, (Ext w W ∧ Blk W gz 30 cz ∧ Blk W gr 30 (bv zeros64) ∧ Blk W g6 94 (bv (tabL (8 * u + x)))) → Calls Tryz.prog 62 #[.int .i64 (u : Int), .int .i64 (x : Int)] W fun e w' => e = .returned (.int .i64 c) ∧ (Ext w w' ∧ Blk w' gz 30 cz ∧ Blk w' gr 30 (bv zeros64) ∧ Blk w' g6 94 (bv (tabL (8 * u + x)))) :=
      fun W ⟨h1, h2, h3, h4⟩ => (hcall.out W).mono fun e w' ⟨he, hx⟩ => ⟨he, h1.trans hx, h2.ext hx, h3.ext hx, h4.ext hx⟩
     refine wp_region_quiet_last (C := fun W => Ext w W ∧ Blk W gz 30 cz ∧ Blk W gr 30 (bv zeros64) ∧ Blk W g6 94 (bv (tabL (8 * u + x)))) rfl (by kernel_rfl) rfl rfl (by kernel_rfl) (by kernel_rfl) (by kernel_rfl) ⟨hx.drew, hbz.drew, hbr.drew, hb6.drew⟩ (fun opsq => ?_)
     simp only [List.dropLast_cons_cons, List.dropLast_singleton]
     refine q_move rfl _ rfl (.int .i64 (u : Int)) rfl ?_
     simp only [Act.put, sA, sB, sC]
     refine q_move rfl _ rfl (.int .i64 (x : Int)) rfl ?_
     simp only [Act.put, sA, sB, sC]
     refine q_move rfl _ rfl (.int .i64 (u : Int)) rfl ?_
     simp only [Act.put, sA, sB, sC]
     refine q_move rfl _ rfl (.int .i64 (x : Int)) rfl ?_
     simp only [Act.put, sA, sB, sC]
     refine q_callF rfl 62 Tryz.func62 (by kernel_rfl) rfl _ _ rfl #[.int .i64 (u : Int), .int .i64 (x : Int)] (by simp [Act.eval]) _ step ?_
     simp only [Act.put, sA, sB, sC]
     refine q_addr rfl 94 _ _ rfl (.pointer (some ⟨g6, 0, none⟩)) (.int .i64 (u : Int)) rfl rfl (.pointer (some ⟨g6, 8 * u, none⟩)) (run_index88 _ _ (by omega)) ?_
     simp only [Act.put, sA, sB, sC]
     refine q_addr rfl 93 _ _ rfl (.pointer (some ⟨g6, 8 * u, none⟩)) (.int .i64 (x : Int)) rfl rfl (.pointer (some ⟨g6, 8 * u + x, none⟩)) (run_index8 _ _ _ (by omega)) ?_
     simp only [Act.put, sA, sB, sC]
     refine wpQuiet_nil ?_
     clear hx hbz hbr hb6
     intro w6 hw6
     obtain ⟨hx, hbz, hbr, hb6⟩ := hw6
     obtain ⟨old, ho⟩ := hold w6 hb6
     refine wp_storeI _ _ rfl ⟨g6, 8 * u + x, none⟩ c rfl rfl _ ho (hb6.frozen _) ?_
     simp only [Act.put, sA, sB, sC]
     clear step hold ho
     go_wp2_with fail
     go_roundw
     case rel =>
      refine ⟨x + 1, by omega, by go_num, hx.setCell (by omega) _, hbz.far (p := ⟨g6, 8 * u + x, none⟩) (by simpa using hn1.symm) _, hbr.far (p := ⟨g6, 8 * u + x, none⟩) (by simpa using hn2.symm) _, ?_⟩
      have := hb6.set_ (8 * u + x) (.int .i64 c)
      rw [bv_set, HTS.out] at this
      exact this
     case measure => simp [intOf]; omega
    ·obtain rfl : x = 8 := by omega
     rw [show 8 * u + 8 = 8 * (u + 1) by omega] at hb6
     go_wp2_with fail
     go_roundw
     case rel => exact ⟨u + 1, by omega, by go_num, hx, hbz, hbr, hb6⟩
     case measure => simp [intOf]; omega
  ·have eu : u = 8 := by omega
   have eu2 : (u : Int) = 8 := by omega
   rw [eu] at hb6
   rw [eu2]
   clear eu eu2 hu hlu
   go_wp2_with (refine wAlo' rfl (some 9) rfl 30 rfl _ zero48 ?_; intro w5 g9 hb95 hx5 hg9; have hbz5 := hbz.ext hx5; have hbr5 := hbr.ext hx5; have hb65 := hb6.ext hx5)
   have hg9' : w.heap.size ≤ g9 := by have := hx.size; omega
   have hm1 : g9 ≠ gz := by have := hbz.lt; omega
   have hm2 : g9 ≠ gr := by have := hbr.lt; omega
   have hm3 : g9 ≠ g6 := by have := hb6.lt; omega
   have hxx := hx.trans hx5
   clear hx hx5 hbz hbr hb6
   go_loopw [33] (fun q wr => ∃ i : Nat, i ≤ 64 ∧ q = .int .i64 (i : Int) ∧ Ext w wr ∧ Blk wr gz 30 cz ∧ Blk wr gr 30 (bv zeros64) ∧ Blk wr g6 94 (bv (tabL 64)) ∧ Blk wr g9 30 (bv (fillL F i))) (fun i _ => 64 - (intOf i).toNat)
   case atStart => exact ⟨0, by omega, rfl, hxx, hbz5, hbr5, hb65, hb95⟩
   case round =>
    clear hxx hbz5 hbr5 hb65 hb95
    obtain ⟨i, hi, rfl, hx, hbz, hbr, hb6, hb9⟩ := hrel
    by_cases hli : i < 64
    ·go_wp2_with (refine wLdB rfl 30 (.tmp 2) rfl _ rfl hbz _ Tryz.underlying30 rfl 64 size48 hsz.out ?_)
     go_loopw [11, 37] (fun sv q wr => ∃ k : Nat, k ≤ 64 ∧ q = .int .i64 (k : Int) ∧ sv = .int .i64 (sumTo k (waveTerm frC zs i)) ∧ Ext w wr ∧ Blk wr gz 30 cz ∧ Blk wr gr 30 (bv zeros64) ∧ Blk wr g6 94 (bv (tabL 64)) ∧ Blk wr g9 30 (bv (fillL F i))) (fun _ i _ => 64 - (intOf i).toNat)
     case atStart => exact ⟨0, by omega, rfl, rfl, hx, hbz, hbr, hb6, hb9⟩
     case round =>
      clear hx hbz hbr hb6 hb9
      obtain ⟨k, hk, rfl, rfl, hx, hbz, hbr, hb6, hb9⟩ := hrel
      by_cases hlk : k < 64
      ·have hkl : k < zs.length := by have := HZ.out; omega
       have hix := fun W => run_index48 cz k (.int .i64 zs[k]) hlk (HAT.out k hkl) W
       have HD : Hid (zs.getD k 0 = zs[k]) := hid_ (by simp [hkl])
       obtain ⟨t1, t2, t3, t4⟩ := HTB.out i k
       have ET : waveTerm frC zs i k = zs.getD k 0 * frC (i % 8) (k % 8) * frC (i / 8) (k / 8) := rfl
       have HSS := hid_ (sumTo_succ k (waveTerm frC zs i))
       rw [ET] at t3 t4 HSS
       rw [HD.out] at t1 t2 t3 t4 HSS
       clear ET
       obtain ⟨s1, s2⟩ := HSB.out i k hk
       generalize sumTo k (waveTerm frC zs i) = s at *
       generalize zs[k] = z at *
       go_wp2_with fail
       refine wp_region_quiet (C := fun W => Ext w W ∧ Blk W gz 30 cz ∧ Blk W gr 30 (bv zeros64) ∧ Blk W g6 94 (bv (tabL 64)) ∧ Blk W g9 30 (bv (fillL F i))) (by kernel_rfl) (by kernel_rfl) ⟨hx.drew, hbz.drew, hbr.drew, hb6.drew, hb9.drew⟩ ?_
       refine q_move rfl _ rfl (.int .i64 s) rfl ?_
       simp only [Act.put, sA, sB, sC]
       refine q_move rfl _ rfl (.int .i64 z) rfl ?_
       simp only [Act.put, sA, sB, sC]
       refine q_move rfl _ rfl (.int .i64 (k : Int)) rfl ?_
       simp only [Act.put, sA, sB, sC]
       refine q_binOp rfl .rem 3 _ _ _ rfl (.int .i64 (k : Int)) (.int .i64 8) rfl rfl (.int .i64 ((k % 8 : Nat) : Int)) (guardI _ _ _ _ _) (run_remI _ (by omega)) ?_
       simp only [Act.put, sA, sB, sC]
       refine q_move rfl _ rfl (.int .i64 (i : Int)) rfl ?_
       simp only [Act.put, sA, sB, sC]
       refine q_binOp rfl .rem 3 _ _ _ rfl (.int .i64 (i : Int)) (.int .i64 8) rfl rfl (.int .i64 ((i % 8 : Nat) : Int)) (guardI _ _ _ _ _) (run_remI _ (by omega)) ?_
       simp only [Act.put, sA, sB, sC]
       refine q_addr rfl 94 _ _ rfl (.pointer (some ⟨g6, 0, none⟩)) (.int .i64 ((k % 8 : Nat) : Int)) rfl rfl (.pointer (some ⟨g6, 8 * (k % 8), none⟩)) (run_index88 _ _ (by omega)) ?_
       simp only [Act.put, sA, sB, sC]
       refine q_addr rfl 93 _ _ rfl (.pointer (some ⟨g6, 8 * (k % 8), none⟩)) (.int .i64 ((i % 8 : Nat) : Int)) rfl rfl (.pointer (some ⟨g6, 8 * (k % 8) + i % 8, none⟩)) (run_index8 _ _ _ (by omega)) ?_
       simp only [Act.put, sA, sB, sC]
       refine q_load rfl 3 _ rfl (.pointer (some ⟨g6, 8 * (k % 8) + i % 8, none⟩)) rfl (.int .i64 (frC (i % 8) (k % 8))) (fun W hW => run_loadI W _ _ (HT.out W hW.2.2.2.1 (k % 8) (i % 8) (by omega) (by omega))) ?_
       simp only [Act.put, sA, sB, sC]
       refine q_binOp rfl .mul 3 _ _ _ rfl (.int .i64 z) (.int .i64 (frC (i % 8) (k % 8))) rfl rfl (.int .i64 (z * frC (i % 8) (k % 8))) (guardI _ _ _ _ _) (run_mulI _ _ _ (IntWalk.i64_in _ (by omega))) ?_
       simp only [Act.put, sA, sB, sC]
       refine q_move rfl _ rfl (.int .i64 (k : Int)) rfl ?_
       simp only [Act.put, sA, sB, sC]
       refine q_binOp rfl .quo 3 _ _ _ rfl (.int .i64 (k : Int)) (.int .i64 8) rfl rfl (.int .i64 ((k / 8 : Nat) : Int)) (guardI _ _ _ _ _) (run_quoI _ (by omega)) ?_
       simp only [Act.put, sA, sB, sC]
       refine q_move rfl _ rfl (.int .i64 (i : Int)) rfl ?_
       simp only [Act.put, sA, sB, sC]
       refine q_binOp rfl .quo 3 _ _ _ rfl (.int .i64 (i : Int)) (.int .i64 8) rfl rfl (.int .i64 ((i / 8 : Nat) : Int)) (guardI _ _ _ _ _) (run_quoI _ (by omega)) ?_
       simp only [Act.put, sA, sB, sC]
       refine q_addr rfl 94 _ _ rfl (.pointer (some ⟨g6, 0, none⟩)) (.int .i64 ((k / 8 : Nat) : Int)) rfl rfl (.pointer (some ⟨g6, 8 * (k / 8), none⟩)) (run_index88 _ _ (by omega)) ?_
       simp only [Act.put, sA, sB, sC]
       refine q_addr rfl 93 _ _ rfl (.pointer (some ⟨g6, 8 * (k / 8), none⟩)) (.int .i64 ((i / 8 : Nat) : Int)) rfl rfl (.pointer (some ⟨g6, 8 * (k / 8) + i / 8, none⟩)) (run_index8 _ _ _ (by omega)) ?_
       simp only [Act.put, sA, sB, sC]
       refine q_load rfl 3 _ rfl (.pointer (some ⟨g6, 8 * (k / 8) + i / 8, none⟩)) rfl (.int .i64 (frC (i / 8) (k / 8))) (fun W hW => run_loadI W _ _ (HT.out W hW.2.2.2.1 (k / 8) (i / 8) (by omega) (by omega))) ?_
       simp only [Act.put, sA, sB, sC]
       refine q_binOp rfl .mul 3 _ _ _ rfl (.int .i64 (z * frC (i % 8) (k % 8))) (.int .i64 (frC (i / 8) (k / 8))) rfl rfl (.int .i64 (z * frC (i % 8) (k % 8) * frC (i / 8) (k / 8))) (guardI _ _ _ _ _) (run_mulI _ _ _ (IntWalk.i64_in _ (by omega))) ?_
       simp only [Act.put, sA, sB, sC]
       refine q_binOp rfl .add 3 _ _ _ rfl (.int .i64 s) (.int .i64 (z * frC (i % 8) (k % 8) * frC (i / 8) (k / 8))) rfl rfl (.int .i64 (s + z * frC (i % 8) (k % 8) * frC (i / 8) (k / 8))) (guardI _ _ _ _ _) (run_addI _ _ _ (IntWalk.i64_in _ (by omega))) ?_
       simp only [Act.put, sA, sB, sC]
       refine q_assign rfl _ rfl (.int .i64 (s + z * frC (i % 8) (k % 8) * frC (i / 8) (k / 8))) rfl ?_
       simp only [Act.put, sA, sB, sC]
       refine wpQuiet_nil ?_
       clear hx hbz hbr hb6 hb9
       intro w6 hw6
       obtain ⟨hx, hbz, hbr, hb6, hb9⟩ := hw6
       clear t1 t2 t3 t4
       go_wp2_with fail
       go_roundw
       case rel => exact ⟨k + 1, by omega, by go_num, by rw [HSS.out], hx, hbz, hbr, hb6, hb9⟩
       case measure => simp [intOf]; omega
      ·obtain rfl : k = 64 := by omega
       obtain ⟨s1, s2⟩ := HSB.out i 64 (by omega)
       have HFi := hid_ (HFI.out i)
       have HRD := hid_ (fun W => rround_any (waveAt frC zs i) 67108864 W (by unfold waveAt; omega) (by unfold waveAt; omega) (by omega) (by omega))
       have HFS := hid_ (fillL_set F i hli)
       obtain ⟨old, hold⟩ : ∃ u, wr.cell? ⟨g9, i, none⟩ = some u := by
        rw [hb9.cell i]
        have hl := fillL_len F i (by omega)
        exact ⟨_, bv_at _ i (by omega)⟩
       have hfr := hb9.frozen i
       have hRF : rnd (waveAt frC zs i) 67108864 = F i := HFi.out
       rw [hRF] at HRD
       clear hRF s1 s2
       rw [show sumTo 64 (waveTerm frC zs i) = waveAt frC zs i from rfl]
       generalize waveAt frC zs i = sv at *
       go_wp2_with (first
        | (go_at_call 59; (with_reducible refine (HPW.out _).mono ?_); rintro e w' ⟨rfl, rfl⟩)
        | (go_at_call 63; (with_reducible refine (HRD.out _).mono ?_); rintro e w' ⟨rfl, rfl⟩))
       go_roundw
       case rel =>
        refine ⟨i + 1, by omega, by go_num, hx.setCell (by omega) _, hbz.far (p := ⟨g9, i, none⟩) (by simpa using hm1.symm) _, hbr.far (p := ⟨g9, i, none⟩) (by simpa using hm2.symm) _, hb6.far (p := ⟨g9, i, none⟩) (by simpa using hm3.symm) _, ?_⟩
        have := hb9.set_ i (.int .i64 (F i))
        rw [bv_set, HFS.out] at this
        exact this
       case measure => simp [intOf]; omega
    ·obtain rfl : i = 64 := by omega
     rw [← HF.out] at hb9
     have hs := hid_ ((bv_size _).trans (waveL_len frC zs))
     have ho := hid_ (bv_one (waveL frC zs))
     generalize hcr : bv (waveL frC zs) = cr at *
     have HCR := hid_ hcr
     clear hcr
     have hs0 : Hid ((bv zeros64).size = 64) := hid_ (by rw [bv_size]; rfl)
     go_wp2_with (first
      | (refine wLdB rfl 30 (.tmp 9) rfl _ rfl hb9 _ Tryz.underlying30 rfl 64 size48 hs.out ?_)
      | (refine wStB rfl 30 (.tmp 4) (.tmp 87) rfl _ _ rfl rfl hbr 64 size48 hs.out hs0.out ho.out ?_; intro w7 hb7 hg7))
     exact ret_cell_tmp rfl rfl _ rfl hb7 _ Tryz.underlying30 rfl 64 size48 hs.out ⟨by rw [HCR.out]; rfl, hx.grown hg7 hgr'⟩
set_option maxHeartbeats 400000 in
theorem rwave_out (tb : Bool) (zs : List Int) (w : World) (hz : zs.length = 64) (hal : allIn zs (-40000) 40000 = false) :
 Calls Tryz.prog 28 #[.agg (bv zs), .bool tb] w fun e w' => e = .returned (.tuple #[.agg (bv zeros64), .int .i64 1]) ∧ Ext w w' := by
 have HBW := hid_ (fun W => blockWithin_any zs (-40000) 40000 W hz)
 rw [hal] at HBW
 have hsz := hid_ ((bv_size zs).trans hz)
 have hs0 : Hid ((bv zeros64).size = 64) := hid_ (by rw [bv_size]; rfl)
 have ho0 := hid_ (bv_one zeros64)
 have hbt := hid_ built48
 generalize bv zs = cz at *
 generalize hc0 : bv zeros64 = c0 at *
 have HC0 := hid_ hc0
 clear hz hal hc0
 go_enter Tryz.func28, Tryz.ntmps28
 go_wp2_with (first
  | (refine wBox rfl 30 (.tmp 0) rfl cz rfl ?_; intro w1 gz hbz1 hx1 hgz)
  | (refine wAlo' rfl (some 4) rfl 30 rfl _ zero48 ?_; intro w2 gr hbr2 hx2 hgr; have hbz2 := hbz1.ext hx2)
  | (refine wLdB rfl 30 (.tmp 2) rfl _ rfl hbz2 _ Tryz.underlying30 rfl 64 size48 hsz.out ?_)
  | (go_at_call 56; (with_reducible refine (HBW.out _).mono ?_); rintro e w3 ⟨rfl, hx3⟩; have hbr3 := hbr2.ext hx3)
  | (refine wpList_build0 rfl 30 rfl _ hbt.out ?_)
  | (refine wStB rfl 30 (.tmp 4) (.tmp 17) rfl _ _ rfl rfl hbr3 64 size48 hs0.out (by rw [show (Value.agg (bv zeros64)).cells = bv zeros64 from rfl, HC0.out]; exact hs0.out) ho0.out ?_; intro w7 hb7 hg7))
 exact ret_cell_tmp rfl rfl _ rfl hb7 _ Tryz.underlying30 rfl 64 size48 hs0.out ⟨rfl, ((hx1.trans hx2).trans hx3).grown hg7 (by have := hx1.size; omega)⟩
theorem rwaveTo_any (zs : List Int) (w : World) (hz : zs.length = 64) : Calls Tryz.prog 28 #[.agg (bv zs), .bool true] w fun e w' => e = .returned (.tuple #[.agg (bv (waveR toC zs).1), .int .i64 (waveR toC zs).2]) ∧ Ext w w' := by
 unfold waveR
 cases h : allIn zs (-40000) 40000 with
 | true => simpa using rwaveTo_in zs w hz h
 | false => simpa using rwave_out true zs w hz h
theorem rwaveFrom_any (zs : List Int) (w : World) (hz : zs.length = 64) : Calls Tryz.prog 28 #[.agg (bv zs), .bool false] w fun e w' => e = .returned (.tuple #[.agg (bv (waveR frC zs).1), .int .i64 (waveR frC zs).2]) ∧ Ext w w' := by
 unfold waveR
 cases h : allIn zs (-40000) 40000 with
 | true => simpa using rwaveFrom_in zs w hz h
 | false => simpa using rwave_out false zs w hz h
end Go.Proofs.YtlhggcbpipmjhaaGreatDoor
