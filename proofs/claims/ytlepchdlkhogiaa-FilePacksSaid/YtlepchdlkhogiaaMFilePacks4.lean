/- Contracts for the law FilePacks, part 4: what the functions that it reaches answer, for all arguments that the theorems name. -/
import Derived.Test.YtlepchdlkhogiaaMFilePacks3
import Derived.Outline
import Derived.Test.YtlepchdlkhogiaaMFilePacks2
/- table.Check. -/
namespace Go.Proofs.Ytlepchdlkhogiaa
set_option linter.unusedVariables false
set_option linter.unusedSimpArgs false
open Go.RowKit Go.Maps
theorem keyed_int : Keyed Try.prog 3 := int_keyed Try.underlying3
theorem zero_bool (w : World) : (zeroValue 4).run Try.prog w = .ok (.bool false) w := by kernel_rfl
/-- the set of the first numbers of a list -/
def seenF (l : List Int) (x : Int) : Option Value := if x ∈ l then some (.bool true) else none
theorem seenF_look (l : List Int) (x : Int) : (seenF l x).getD (.bool false) = .bool (decide (x ∈ l)) := by
  unfold seenF; by_cases h : x ∈ l <;> simp [h]
/-- what Check needs of its table -/
theorem check_tot (cs xs : List Int) (sl : Value) (w : World) (hl : cs.length = 16) (hs : SL w 1 sl xs.length (ints xs)) (h : totOK cs xs = false) :
    Calls Try.prog 47 #[.agg (tblv cs sl)] w fun e w' => e = .returned (.int .i64 4) ∧ Ext w w' := by
  have HT := hid_ (fun W => total_any cs sl W hl)
  have hlast := hid_ (fun W g (h : Blk W g 45 (tblv cs sl)) => tblv_last h hl)
  have hts := hid_ (tblv_size cs sl hl)
  have hq : (totalZ cs).2 = false ∨ ((totalZ cs).2 = true ∧ ((totalZ cs).1 != (xs.length : Int)) = true) := by
    unfold totOK at h
    unfold totalZ
    cases h1 : allIn cs 0 256 with
    | false => left; simp
    | true =>
      rw [h1] at h
      simp only [if_true]
      by_cases h2 : sumL cs 16 ≤ 256
      · right
        simp [h2] at h ⊢
        exact h
      · left; simpa using h2
  generalize totalZ cs = tz at *
  obtain ⟨all, is⟩ := tz
  generalize tblv cs sl = tv at *
  obtain ⟨A, c, rfl, hc1, hc2, -, -⟩ := hs
  rcases hq with hq | ⟨hq, hq2⟩
  · simp only at hq
    subst hq
    go_enter Try.func47, Try.ntmps47
    go_wp2_with (first
      | (refine wpList_box_abs rfl 45 (.tmp 0) rfl tv rfl ?_; intro w1 g hb1 hx1 hg)
      | (refine wpList_load_blk rfl 45 (.tmp 1) rfl _ rfl hb1 _ Try.underlying45 rfl 17 sizeTbl hts.out ?_)
      | (go_at_call 69; (with_reducible refine (HT.out _).mono ?_); rintro e w2 ⟨rfl, hx2⟩))
    go_ret
    exact ⟨rfl, hx1.trans hx2⟩
  · simp only at hq hq2
    subst hq
    go_enter Try.func47, Try.ntmps47
    go_wp2_with (first
      | (refine wpList_box_abs rfl 45 (.tmp 0) rfl tv rfl ?_; intro w1 g hb1 hx1 hg)
      | (refine wpList_load_blk rfl 45 (.tmp 1) rfl _ rfl hb1 _ Try.underlying45 rfl 17 sizeTbl hts.out ?_)
      | (go_at_call 69; (with_reducible refine (HT.out _).mono ?_); rintro e w2 ⟨rfl, hx2⟩; have hc16 := hlast.out _ _ (hb1.ext hx2)))
    go_ret
    exact ⟨rfl, hx1.trans hx2⟩
theorem seenF_upd (xs : List Int) (k : Nat) (hk : k < xs.length) : seenF (xs.take (k + 1)) xs[k] = some (.bool true) := by
  unfold seenF
  rw [if_pos (by rw [List.take_succ_eq_append_getElem hk]; exact List.mem_append_right _ (by simp))]
theorem seenF_other (xs : List Int) (k : Nat) (hk : k < xs.length) (j : Int) (hj : j ≠ xs[k]) : seenF (xs.take (k + 1)) j = seenF (xs.take k) j := by
  unfold seenF
  have : j ∈ xs.take (k + 1) ↔ j ∈ xs.take k := by rw [List.take_succ_eq_append_getElem hk, List.mem_append]; simp [hj]
  by_cases h : j ∈ xs.take k
  · rw [if_pos h, if_pos (this.2 h)]
  · rw [if_neg h, if_neg (fun h2 => h (this.1 h2))]
set_option maxRecDepth 20000 in
set_option maxHeartbeats 1000000 in
theorem check_in (cs xs : List Int) (sl : Value) (w : World) (hl : cs.length = 16) (hs : SL w 1 sl xs.length (ints xs)) (h : totOK cs xs = true) :
    Calls Try.prog 47 #[.agg (tblv cs sl)] w fun e w' => e = .returned (.int .i64 (checkZ cs xs)) ∧ Ext w w' := by
  have HT := hid_ (fun W => total_any cs sl W hl)
  have hlast := hid_ (fun W g (h : Blk W g 45 (tblv cs sl)) => tblv_last h hl)
  have hts := hid_ (tblv_size cs sl hl)
  have HRG := hid_ (fun W g (h : Blk W g 45 (tblv cs sl)) => tblv_range h)
  have hcl := hid_ ((ints_len cs).trans hl)
  have HIX := hid_ (fun k (hk : k < cs.length) (h16 : k < 16) => fun W => run_index16 (ints cs).toArray k (.int .i64 cs[k]) h16 (bv_at cs k hk) W)
  obtain ⟨q1, q2, q3⟩ := totOK_iff.1 h
  have HZ1 := hid_ (fun h2 => checkZ_arg h h2)
  have HZ2 := hid_ (fun h2 h3 => checkZ_dup h h2 h3)
  have HZ3 := hid_ (fun h2 h3 => checkZ_words h h2 h3)
  have HT1 : Hid (totalZ cs = ((xs.length : Int), true)) := hid_ (by unfold totalZ; rw [q1, q3]; simp; omega)
  rw [HT1.out] at HT
  have hlen : xs.length ≤ 256 := by omega
  have HAL := hid_ (allIn_iff.1 q1)
  have HL := hid_ hl
  have hneq : ((xs.length : Int) != (xs.length : Int)) = false := by simp
  have hmm := @run_makeMap Try.prog
  have hs' := hs
  obtain ⟨A, c, rfl, hc1, hc2, -, -⟩ := hs'
  generalize tblv cs (.slice A xs.length c) = tv at *
  clear h q1 q2 q3
  go_enter Try.func47, Try.ntmps47
  go_wp2_with (first
    | (refine wpList_box_abs rfl 45 (.tmp 0) rfl tv rfl ?_; intro w1 g hb1 hx1 hg)
    | (refine wpList_load_blk rfl 45 (.tmp 1) rfl _ rfl hb1 _ Try.underlying45 rfl 17 sizeTbl hts.out ?_)
    | (go_at_call 69; (with_reducible refine (HT.out _).mono ?_); rintro e w2 ⟨rfl, hx2⟩; have hc16 := hlast.out _ _ (hb1.ext hx2); have hc16b := hlast.out _ _ ((hb1.ext hx2).alloc (.map #[] 0))))
  have hb2 := hb1.ext hx2
  have hxm := hx1.trans hx2
  have hgm := hxm.size
  have hne := hb2.lt
  clear hmm hb1 hx1 hx2 hc16 hc16b
  go_loopw [6, 30] (fun tw i wr => ∃ (k : Nat) (tb : Bool), k ≤ xs.length ∧ i = .int .i64 (k : Int) ∧ tw = .bool tb ∧ tb = (!decide (xs.take k).Nodup) ∧ (∀ z ∈ xs.take k, 0 ≤ z ∧ z ≤ 255) ∧ MapI Try.prog 3 wr w2.heap.size k (seenF (xs.take k)) ∧ Blk wr g 45 tv ∧ Ext w wr) (fun _ i _ => xs.length - (intOf i).toNat)
  case atStart => exact ⟨0, false, by omega, rfl, rfl, by simp, by simp, MapG.made _, hb2.alloc _, hxm.alloc _⟩
  case round =>
    clear hb2 hxm
    obtain ⟨k, tb, hk, rfl, rfl, htb, hin, hm, hb, hx⟩ := hrel
    have HTB := hid_ htb
    have HIN := hid_ hin
    clear htb hin
    by_cases hlt : k < xs.length
    · obtain ⟨ad, u, rfl, -, hxk, hcell⟩ := (hs.ext hx).at1 hlt
      obtain ⟨hkl, rfl⟩ := ints_at _ _ _ hxk
      clear hxk
      cases hq : inB xs[k] 0 255 with
      | true =>
        obtain ⟨q1, q2⟩ := inB_iff.1 hq
        have h0' : decide (xs[k] < 0) = false := by simpa using q1
        have h1' : decide (256 ≤ xs[k]) = false := by simp; omega
        have HN := hid_ (allIn_take HIN.out hkl ⟨q1, q2⟩)
        have HND := hid_ (nodup_take_succ hkl)
        have HU := hid_ (seenF_upd xs k hkl)
        have HO := hid_ (seenF_other xs k hkl)
        have HLK := hid_ (seenF_look (xs.take k) xs[k])
        have hkey := hid_ (keyOf_i64 (P := Try.prog) Try.underlying3 (a := xs[k]) (by omega) (by omega))
        generalize xs[k] = x at *
        clear hq
        cases tb with
        | true =>
          go_wp2_with (at_mapUpdate; refine wpList_upd_g (by rfl) _ _ _ 111 4 rfl keyed_int Try.underlying111 rfl hm (by omega) _ rfl _ rfl x hkey.out (seenF (xs.take (k + 1))) HU.out (fun j _ hj => HO.out j (fun e => hj (by rw [e]))) (fun j _ hj => by injection hj) ?_; intro w7 hm7 hg7)
          go_roundw
          case rel =>
            exact ⟨k + 1, true, by omega, by go_num, rfl, by have h1 := HTB.out; have h2 := HND.out; simp at h1 ⊢; rw [h2]; simp [h1], HN.out, hm7, hb.grown hg7 (by simp; omega), ext_grown_new hx hg7 (by omega)⟩
          case measure => simp [intOf]; omega
        | false =>
          go_wp2_with (first
            | (at_lookup; refine wpList_look_g (by rfl) _ _ 111 4 rfl keyed_int Try.underlying111 _ (zero_bool _) rfl hm _ rfl x trivial hkey.out _ HLK.out ?_)
            | (at_mapUpdate; refine wpList_upd_g (by rfl) _ _ _ 111 4 rfl keyed_int Try.underlying111 rfl hm (by omega) _ rfl _ rfl x hkey.out (seenF (xs.take (k + 1))) HU.out (fun j _ hj => HO.out j (fun e => hj (by rw [e]))) (fun j _ hj => by injection hj) ?_; intro w7 hm7 hg7))
          go_roundw
          case rel =>
            exact ⟨k + 1, decide (x ∈ xs.take k), by omega, by go_num, rfl, by have h1 := HTB.out; have h2 := HND.out; simp at h1; by_cases hm : x ∈ xs.take k <;> simp [h2, h1, hm], HN.out, hm7, hb.grown hg7 (by simp; omega), ext_grown_new hx hg7 (by omega)⟩
          case measure => simp [intOf]; omega
      | false =>
        have HF := hid_ (HZ1.out (allIn_no hkl hq))
        rcases Int.lt_or_le xs[k] 0 with h0 | h0
        · have h0' : decide (xs[k] < 0) = true := by simpa using h0
          clear hq
          go_wp2_with fail
          go_ret
          exact ⟨by rw [HF.out]; rfl, hx⟩
        · have h0' : decide (xs[k] < 0) = false := by simpa using h0
          have h1' : decide (256 ≤ xs[k]) = true := by have := inB_not.1 hq; simp; omega
          clear hq
          go_wp2_with fail
          go_ret
          exact ⟨by rw [HF.out]; rfl, hx⟩
    · have hkx : k = xs.length := by omega
      have e1 : xs.take k = xs := List.take_of_length_le (by omega)
      rw [e1] at HTB HIN
      have HA := hid_ (allIn_iff.2 HIN.out)
      clear e1 hm
      go_wp2_with (refine wpList_load_mid rfl 43 (.tmp 49) rfl g 0 rfl (ints cs) _ (HRG.out _ _ hb) Try.underlying43 rfl (by rw [hcl.out]; exact size16) ?_)
      go_loop [9, 51] (fun nx i => ∃ k : Nat, k ≤ 16 ∧ i = .int .i64 (k : Int) ∧ nx = .int .i64 (nextW cs k : Nat) ∧ nextW cs k + 1 ≤ 2 ^ k ∧ (∀ j, j < k → nextW cs (j + 1) + 1 ≤ 2 ^ (j + 1)) ∧ (0 < k → tb = false)) (fun _ i => 16 - (intOf i).toNat)
      case atStart => exact ⟨0, by omega, rfl, rfl, by simp [nextW], by intro j hj; omega, by omega⟩
      case round =>
        obtain ⟨k, hk, rfl, rfl, hnx, hall, htw⟩ := hrel
        have HALL := hid_ hall
        have HTW := hid_ htw
        clear hall htw
        by_cases hlt2 : k < 16
        · have hkl : k < cs.length := by have := HL.out; omega
          have hix := HIX.out k hkl hlt2
          obtain ⟨q1, q2⟩ := HAL.out _ (List.getElem_mem hkl)
          obtain ⟨n, hn⟩ : ∃ n : Nat, cs[k] = (n : Int) := ⟨cs[k].toNat, by omega⟩
          have HNW := hid_ (nextW_succ cs k n hkl hn)
          have HNO := hid_ (fun h => okW_no (cs := cs) hlt2 h)
          rw [hn] at hix q1 q2
          have hp : (2 : Nat) ^ k ≤ 65536 := by have := Nat.pow_le_pow_right (n := 2) (by omega) (show k ≤ 16 by omega); simpa using this
          have HP : Hid (2 ^ (k + 1) = 2 * 2 ^ k) := hid_ (by rw [Nat.pow_succ]; omega)
          rw [HNW.out, HP.out] at HNO
          have hp1 : (1 : Int) ≤ 2 ^ (k + 1) := pow_pos' (k + 1)
          have hp2 : (2 : Int) ^ (k + 1) ≤ 131072 := by have := pow_le (k + 1) 17 (by omega); simpa using this
          have HPI : Hid ((2 : Int) ^ (k + 1) = ((2 * 2 ^ k : Nat) : Int)) := hid_ (by rw [← HP.out]; simp)
          clear hn
          cases tb with
          | true =>
            have HF := hid_ (HZ2.out HA.out (by have := HTB.out; simpa using this))
            go_wp2_with fail
            go_ret
            exact ⟨by rw [HF.out]; rfl, hx⟩
          | false =>
            generalize nextW cs k = N at *
            by_cases hbad : 2 * N + n + 1 ≤ 2 * 2 ^ k
            · have hd : decide ((2 : Int) ^ (k + 1) - 1 < (N : Int) * 2 + (n : Int)) = false := by have := HPI.out; simp; omega
              go_wp2_with fail
              go_round
              case rel =>
                refine ⟨k + 1, by omega, by go_num, by rw [HNW.out]; congr 1; omega, by rw [HNW.out, HP.out]; omega, ?_, by simp⟩
                intro i hi
                by_cases hik : i = k
                · subst hik; rw [HNW.out, HP.out]; omega
                · exact HALL.out i (by omega)
              case measure => simp [intOf]; omega
            · have hd : decide ((2 : Int) ^ (k + 1) - 1 < (N : Int) * 2 + (n : Int)) = true := by have := HPI.out; simp; omega
              have HF := hid_ (HZ3.out HA.out (by have := HTB.out; simpa using this))
              have HNO' := hid_ (HNO.out (by omega))
              go_wp2_with fail
              go_ret
              exact ⟨by rw [HF.out, HNO'.out]; rfl, hx⟩
        · obtain rfl : k = 16 := by omega
          obtain rfl := HTW.out (by omega)
          have HF := hid_ (HZ3.out HA.out (by have := HTB.out; simpa using this))
          have HOK := hid_ (okW_yes HALL.out)
          go_wp2_with fail
          go_ret
          exact ⟨by rw [HF.out, HOK.out]; rfl, hx⟩
theorem check_any (cs xs : List Int) (sl : Value) (w : World) (hl : cs.length = 16) (hs : SL w 1 sl xs.length (ints xs)) :
    Calls Try.prog 47 #[.agg (tblv cs sl)] w fun e w' => e = .returned (.int .i64 (checkZ cs xs)) ∧ Ext w w' := by
  cases h : totOK cs xs with
  | true => exact check_in cs xs sl w hl hs h
  | false => rw [checkZ_tot h]; exact check_tot cs xs sl w hl hs h
end Go.Proofs.Ytlepchdlkhogiaa
/- quant.allWithin, quant.Check. -/
namespace Go.Proofs.Ytlepchdlkhogiaa
set_option linter.unusedVariables false
set_option linter.unusedSimpArgs false
open Go.RowKit
theorem allWithin1_any (g1 g2 : Nat) (z lo hi : Int) (w : World) (h1 : w.cell? ⟨g1, 0, none⟩ = some (.int .i64 lo)) (h2 : w.cell? ⟨g2, 0, none⟩ = some (.int .i64 hi)) :
    Calls Try.prog 92 (#[.int .i64 z] ++ #[.pointer (some ⟨g1, 0, none⟩), .pointer (some ⟨g2, 0, none⟩)]) w fun e w' => e = .returned (.bool (decide (z < lo) || decide (hi < z))) ∧ w = w' := by
  by_cases h : z < lo
  · have h' : decide (z < lo) = true := by simpa using h
    go_enter Try.func92, Try.ntmps92
    go_wp2
    go_ret
    exact ⟨by rw [h']; rfl, rfl⟩
  · have h' : decide (z < lo) = false := by simpa using h
    go_enter Try.func92, Try.ntmps92
    go_wp2
    go_ret
    exact ⟨by simp, rfl⟩
theorem enters_aw1 : Enters Try.prog 92 := enters_of Try.func92 (by kernel_rfl) rfl
set_option maxHeartbeats 400000 in
theorem allWithin_any (zs : List Int) (lo hi : Int) (w : World) (hz : zs.length = 64) :
    Calls Try.prog 68 #[.agg (bv zs), .int .i64 lo, .int .i64 hi] w fun e w' => e = .returned (.bool (allIn zs lo hi)) ∧ Ext w w' := by
  have HZ : Hid (zs.length = 64) := hz
  have hs := (bv_size zs).trans hz
  have HS : Hid ((bv zs).size = 64) := hs
  have hmf : ∀ (fn : Fn) (first cap : Array Value) (w : World), (Instr.makeFunc fn first cap).run Try.prog w = .ok (.func fn first cap) w := fun _ _ _ _ => rfl
  have hcont := containsFunc_any 92 #[.pointer (some ⟨w.heap.size + 1, 0, none⟩), .pointer (some ⟨w.heap.size + 1 + 1, 0, none⟩)] (fun z => decide (z < lo) || decide (hi < z)) enters_aw1
    (.slice (some ⟨w.heap.size, 0, none⟩) 64 64) zs (((w.alloc (.cells (bv zs) 31)).alloc (.cells #[.int .i64 lo] 3)).alloc (.cells #[.int .i64 hi] 3))
    (by
      have h := (((Blk.new w 31 (bv zs)).alloc (.cells #[.int .i64 lo] 3)).alloc (.cells #[.int .i64 hi] 3)).bsl (c := 64) (by omega) (by omega)
      rwa [hz] at h ⊢)
    (fun z _ => allWithin1_any (w.heap.size + 1) (w.heap.size + 1 + 1) z lo hi _ (by
        have h := ((Blk.new (w.alloc (.cells (bv zs) 31)) 3 #[.int .i64 lo]).alloc (.cells #[.int .i64 hi] 3)).cell 0
        rwa [World.size_alloc] at h) (by
        have h := (Blk.new ((w.alloc (.cells (bv zs) 31)).alloc (.cells #[.int .i64 lo] 3)) 3 #[.int .i64 hi]).cell 0
        rwa [World.size_alloc, World.size_alloc] at h))
  have HC := hid_ hcont
  generalize hcs : bv zs = cs at *
  clear hs hz hcs hcont
  go_enter Try.func68, Try.ntmps68
  go_wp2_with fail
  refine HC.out.mono ?_
  rintro e w' ⟨rfl, rfl⟩
  go_wp2_with fail
  go_ret
  refine ⟨?_, ((Ext.refl w).alloc _).alloc _ |>.alloc _⟩
  rw [← allIn_not]
  rfl
set_option maxHeartbeats 400000 in
theorem qcheck_any (zs : List Int) (w : World) (hz : zs.length = 64) :
    Calls Try.prog 46 #[.agg (bv zs)] w fun e w' => e = .returned (.int .i64 (if allIn zs 1 255 then 0 else 1)) ∧ Ext w w' := by
  have hs := (bv_size zs).trans hz
  have HS : Hid ((bv zs).size = 64) := hs
  have hc := hid_ (fun W => allWithin_any zs 1 255 W hz)
  generalize hcs : bv zs = cs at *
  clear hs hz hcs
  cases hb : allIn zs 1 255 with
  | true =>
    rw [hb] at hc
    go_enter Try.func46, Try.ntmps46
    go_wp2_with (first | (refine wpList_load_blk rfl 31 _ rfl _ rfl (Blk.new w 31 cs) _ Try.underlying31 rfl 64 size48 HS.out ?_) | (go_at_call 68; refine (hc.out _).mono ?_; rintro e w' ⟨rfl, hx⟩))
    go_ret
    exact ⟨rfl, ((Ext.refl w).alloc _).trans hx⟩
  | false =>
    rw [hb] at hc
    go_enter Try.func46, Try.ntmps46
    go_wp2_with (first | (refine wpList_load_blk rfl 31 _ rfl _ rfl (Blk.new w 31 cs) _ Try.underlying31 rfl 64 size48 HS.out ?_) | (go_at_call 68; refine (hc.out _).mono ?_; rintro e w' ⟨rfl, hx⟩))
    go_ret
    exact ⟨rfl, ((Ext.refl w).alloc _).trans hx⟩
end Go.Proofs.Ytlepchdlkhogiaa
/- file.Check: arguments within their bounds. -/
namespace Go.Proofs.Ytlepchdlkhogiaa
set_option linter.unusedVariables false
set_option linter.unusedSimpArgs false
open Go.RowKit
set_option maxRecDepth 20000 in
set_option maxHeartbeats 4000000 in
theorem fcheck_y1f (wd hi ev : Int) (qs : List Int) (t1 t2 : List Value) (A : Option Addr) (n c : Nat) (z1 z2 : Int) (w : World) (hq : qs.length = 64) (h1 : t1.length = 17) (h2 : t2.length = 17)
    (k1 : inB wd 1 64 = true) (k2 : inB hi 1 64 = true) (k3 : inB ev 0 100 = true) (kq : allIn qs 1 255 = false) :
    Calls Try.prog 23 #[.agg (fileL wd hi 1 qs t1 t2 ev (.slice A n c)).toArray] w fun e w' => e = .returned (.int .i64 (1)) ∧ Ext w w' := by
  have HF := hid_ (fun W g (hb : Blk W g 50 (fileL wd hi 1 qs t1 t2 ev (.slice A n c)).toArray) => fileB hb hq h1 h2)
  have W1 := hid_ (fun W => fwithin_any wd 1 64 W)
  have W2 := hid_ (fun W => fwithin_any hi 1 64 W)
  have W3 := hid_ (fun W => fwithin_any ev 0 100 W)
  have HQ : Hid (∀ W, Calls Try.prog 46 #[.agg (ints qs).toArray] W fun e w' => e = .returned (.int .i64 1) ∧ Ext W w') := hid_ (fun W => by have h := qcheck_any qs W hq; rw [kq] at h; exact h)
  clear kq
  have hql := hid_ ((ints_len qs).trans hq)
  have hl1 := hid_ h1
  have hl2 := hid_ h2
  clear hq h1 h2
  generalize (fileL wd hi 1 qs t1 t2 ev (.slice A n c)).toArray = fv at *
  generalize inB wd 1 64 = b1 at *
  generalize inB hi 1 64 = b2 at *
  generalize inB ev 0 100 = b3 at *
  subst k1 k2 k3
  go_enter Try.func23, Try.ntmps23
  go_wp2_with (first
    | (refine wpList_box_abs rfl 50 (.tmp 0) rfl fv rfl ?_; intro w1 g hb1 hx1 hg; have hf1 := HF.out _ _ hb1; have c0 := hf1.c0; have c1 := hf1.c1; have c2 := hf1.c2; have c101 := hf1.c101)
    | (go_at_call 45; (with_reducible refine (W1.out _).mono ?_); rintro e w2 ⟨rfl, rfl⟩)
    | (go_at_call 45; (with_reducible refine (W2.out _).mono ?_); rintro e w2 ⟨rfl, rfl⟩)
    | (go_at_call 45; (with_reducible refine (W3.out _).mono ?_); rintro e w2 ⟨rfl, rfl⟩)
    | (refine wpList_load_mid rfl 31 (.tmp 33) rfl g 3 rfl (ints qs) _ hf1.q Try.underlying31 rfl (by rw [hql.out]; exact size48) ?_)
    | (go_at_call 46; (with_reducible refine (HQ.out _).mono ?_); rintro e w2 ⟨rfl, hx2⟩; have hb2 := hb1.ext hx2; have hf2 := HF.out _ _ hb2))
  go_ret
  exact ⟨rfl, hx1.trans hx2⟩
end Go.Proofs.Ytlepchdlkhogiaa
/- file.Check: arguments within their bounds. -/
namespace Go.Proofs.Ytlepchdlkhogiaa
set_option linter.unusedVariables false
set_option linter.unusedSimpArgs false
open Go.RowKit
set_option maxRecDepth 20000 in
set_option maxHeartbeats 4000000 in
theorem fcheck_y3f (wd hi ev : Int) (qs : List Int) (t1 t2 : List Value) (A : Option Addr) (n c : Nat) (z1 z2 : Int) (w : World) (hq : qs.length = 64) (h1 : t1.length = 17) (h2 : t2.length = 17)
    (k1 : inB wd 1 64 = true) (k2 : inB hi 1 64 = true) (k3 : inB ev 0 100 = true) (kq : allIn qs 1 255 = false) :
    Calls Try.prog 23 #[.agg (fileL wd hi 3 qs t1 t2 ev (.slice A n c)).toArray] w fun e w' => e = .returned (.int .i64 (1)) ∧ Ext w w' := by
  have HF := hid_ (fun W g (hb : Blk W g 50 (fileL wd hi 3 qs t1 t2 ev (.slice A n c)).toArray) => fileB hb hq h1 h2)
  have W1 := hid_ (fun W => fwithin_any wd 1 64 W)
  have W2 := hid_ (fun W => fwithin_any hi 1 64 W)
  have W3 := hid_ (fun W => fwithin_any ev 0 100 W)
  have HQ : Hid (∀ W, Calls Try.prog 46 #[.agg (ints qs).toArray] W fun e w' => e = .returned (.int .i64 1) ∧ Ext W w') := hid_ (fun W => by have h := qcheck_any qs W hq; rw [kq] at h; exact h)
  clear kq
  have hql := hid_ ((ints_len qs).trans hq)
  have hl1 := hid_ h1
  have hl2 := hid_ h2
  clear hq h1 h2
  generalize (fileL wd hi 3 qs t1 t2 ev (.slice A n c)).toArray = fv at *
  generalize inB wd 1 64 = b1 at *
  generalize inB hi 1 64 = b2 at *
  generalize inB ev 0 100 = b3 at *
  subst k1 k2 k3
  go_enter Try.func23, Try.ntmps23
  go_wp2_with (first
    | (refine wpList_box_abs rfl 50 (.tmp 0) rfl fv rfl ?_; intro w1 g hb1 hx1 hg; have hf1 := HF.out _ _ hb1; have c0 := hf1.c0; have c1 := hf1.c1; have c2 := hf1.c2; have c101 := hf1.c101)
    | (go_at_call 45; (with_reducible refine (W1.out _).mono ?_); rintro e w2 ⟨rfl, rfl⟩)
    | (go_at_call 45; (with_reducible refine (W2.out _).mono ?_); rintro e w2 ⟨rfl, rfl⟩)
    | (go_at_call 45; (with_reducible refine (W3.out _).mono ?_); rintro e w2 ⟨rfl, rfl⟩)
    | (refine wpList_load_mid rfl 31 (.tmp 33) rfl g 3 rfl (ints qs) _ hf1.q Try.underlying31 rfl (by rw [hql.out]; exact size48) ?_)
    | (go_at_call 46; (with_reducible refine (HQ.out _).mono ?_); rintro e w2 ⟨rfl, hx2⟩; have hb2 := hb1.ext hx2; have hf2 := HF.out _ _ hb2))
  go_ret
  exact ⟨rfl, hx1.trans hx2⟩
end Go.Proofs.Ytlepchdlkhogiaa
/- file.Check: arguments within their bounds. -/
namespace Go.Proofs.Ytlepchdlkhogiaa
set_option linter.unusedVariables false
set_option linter.unusedSimpArgs false
open Go.RowKit
set_option maxRecDepth 20000 in
set_option maxHeartbeats 4000000 in
theorem fcheck_y1t (wd hi ev : Int) (qs : List Int) (t1 t2 : List Value) (A : Option Addr) (n c : Nat) (z1 z2 : Int) (w : World) (hq : qs.length = 64) (h1 : t1.length = 17) (h2 : t2.length = 17)
    (k1 : inB wd 1 64 = true) (k2 : inB hi 1 64 = true) (k3 : inB ev 0 100 = true) (kq : allIn qs 1 255 = true) (o1 : t1.toArray.all (·.oneCell') = true) (o2 : t2.toArray.all (·.oneCell') = true)
    (C1 : ∀ W, Ext w W → Calls Try.prog 47 #[.agg t1.toArray] W fun e W' => e = .returned (.int .i64 z1) ∧ Ext W W')
    (C2 : ∀ W, Ext w W → Calls Try.prog 47 #[.agg t2.toArray] W fun e W' => e = .returned (.int .i64 z2) ∧ Ext W W') :
    Calls Try.prog 23 #[.agg (fileL wd hi 1 qs t1 t2 ev (.slice A n c)).toArray] w fun e w' => e = .returned (.int .i64 (if z1 = 0 then (if z2 = 0 then (if 90000 < n then 2 else 0) else z2) else z1)) ∧ Ext w w' := by
  have HF := hid_ (fun W g (hb : Blk W g 50 (fileL wd hi 1 qs t1 t2 ev (.slice A n c)).toArray) => fileB hb hq h1 h2)
  have W1 := hid_ (fun W => fwithin_any wd 1 64 W)
  have W2 := hid_ (fun W => fwithin_any hi 1 64 W)
  have W3 := hid_ (fun W => fwithin_any ev 0 100 W)
  have HQ : Hid (∀ W, Calls Try.prog 46 #[.agg (ints qs).toArray] W fun e w' => e = .returned (.int .i64 0) ∧ Ext W w') := hid_ (fun W => by have h := qcheck_any qs W hq; rw [kq] at h; exact h)
  clear kq
  have hql := hid_ ((ints_len qs).trans hq)
  have hl1 := hid_ h1
  have hl2 := hid_ h2
  have HB2 := hid_ (built2 t1 t2 h1 h2)
  have HRT := hid_ (fun W g (hb : Blk W g 45 (t1 ++ t2).toArray) => range_two h1 hb)
  have hs1 : Hid (t1.toArray.size = 17) := hid_ (by simpa using h1)
  have hs2 : Hid (t2.toArray.size = 17) := hid_ (by simpa using h2)
  have hz17 : Hid ((ints (List.replicate 16 0) ++ [Value.slice none 0 0]).toArray.size = 17) := hid_ (by simp [ints])
  have hl3 : Hid ((t1 ++ t2).length = 34) := hid_ (by simp [h1, h2])
  have HO1 := hid_ o1
  have HO2 := hid_ o2
  have HC1 := hid_ C1
  have HC2 := hid_ C2
  clear o1 o2 C1 C2
  generalize hR : (if z1 = 0 then (if z2 = 0 then (if 90000 < n then (2 : Int) else 0) else z2) else z1) = R
  have HR := hid_ hR
  clear hR
  clear hq h1 h2
  generalize (fileL wd hi 1 qs t1 t2 ev (.slice A n c)).toArray = fv at *
  generalize inB wd 1 64 = b1 at *
  generalize inB hi 1 64 = b2 at *
  generalize inB ev 0 100 = b3 at *
  subst k1 k2 k3
  go_enter Try.func23, Try.ntmps23
  go_wp2_with (first
    | (refine wpList_box_abs rfl 50 (.tmp 0) rfl fv rfl ?_; intro w1 g hb1 hx1 hg; have hf1 := HF.out _ _ hb1; have c0 := hf1.c0; have c1 := hf1.c1; have c2 := hf1.c2; have c101 := hf1.c101)
    | (go_at_call 45; (with_reducible refine (W1.out _).mono ?_); rintro e w2 ⟨rfl, rfl⟩)
    | (go_at_call 45; (with_reducible refine (W2.out _).mono ?_); rintro e w2 ⟨rfl, rfl⟩)
    | (go_at_call 45; (with_reducible refine (W3.out _).mono ?_); rintro e w2 ⟨rfl, rfl⟩)
    | (refine wpList_load_mid rfl 31 (.tmp 33) rfl g 3 rfl (ints qs) _ hf1.q Try.underlying31 rfl (by rw [hql.out]; exact size48) ?_)
    | (go_at_call 46; (with_reducible refine (HQ.out _).mono ?_); rintro e w2 ⟨rfl, hx2⟩; have hb2 := hb1.ext hx2; have hf2 := HF.out _ _ hb2)
    | (refine wpList_load_mid rfl 45 (.tmp 40) rfl g 67 rfl t1 _ hf2.ta Try.underlying45 rfl (by rw [hl1.out]; exact sizeTbl) ?_)
    | (refine wpList_load_mid rfl 45 (.tmp 43) rfl g 84 rfl t2 _ hf2.tb Try.underlying45 rfl (by rw [hl2.out]; exact sizeTbl) ?_)
    | (refine Go.Great.wpList_buildSliceTo rfl 82 45 2 _ rfl _ rfl (some 45) rfl Try.underlying82 _ (by simp [Act.eval]; exact HB2.out) ?_))
  have hbn0 := Blk.new w2 45 (t1 ++ t2).toArray
  have hb3 := hb2.alloc (.cells (t1 ++ t2).toArray 45)
  have hx3 := (hx1.trans hx2).alloc (.cells (t1 ++ t2).toArray 45)
  clear hb1 hb2 hf1 hf2 hx1 hx2 c0 c1 c2 c101
  go_loopw [47] (fun i wr => ∃ k : Nat, k ≤ 2 ∧ i = .int .i64 (k : Int) ∧ (1 ≤ k → z1 = 0) ∧ (2 ≤ k → z2 = 0) ∧ Blk wr g 50 fv ∧ Blk wr w2.heap.size 45 (t1 ++ t2).toArray ∧ Ext w wr) (fun i _ => 2 - (intOf i).toNat)
  case atStart => exact ⟨0, by omega, rfl, fun h => absurd h (by omega), fun h => absurd h (by omega), hb3, hbn0, hx3⟩
  case round =>
    clear hb3 hbn0 hx3
    obtain ⟨k, hk, rfl, e1, e2, hb, hbn, hx⟩ := hrel
    rcases (by omega : k = 0 ∨ k = 1 ∨ k = 2) with rfl | rfl | rfl
    · have hr := (HRT.out _ _ hbn).1
      by_cases hz : z1 = 0
      · subst hz
        go_wp2_with (first
          | (refine wpList_load_mid rfl 45 (.tmp 49) rfl _ 0 rfl t1 _ hr Try.underlying45 rfl (by rw [hl1.out]; exact sizeTbl) ?_)
          | (refine wpList_alloc_abs' rfl (some 5) rfl 45 rfl _ zeroTbl ?_; intro w4 ga hba4 hx4 hga)
          | (refine wpList_store_blk rfl 45 (.tmp 5) (.tmp 50) rfl _ _ rfl rfl hba4 17 sizeTbl hs1.out hz17.out HO1.out ?_; intro w5 hba5 hg5; have hx5 := (hx.trans hx4).grown hg5 (by have := hx.size; omega))
          | (refine wpList_load_blk rfl 45 (.tmp 5) rfl _ rfl hba5 _ Try.underlying45 rfl 17 sizeTbl hs1.out ?_)
          | (go_at_call 47; (with_reducible refine (HC1.out _ hx5).mono ?_); rintro e w6 ⟨rfl, hx6⟩))
        go_roundw
        case rel => exact ⟨1, by omega, by go_num, by simp, fun h => absurd h (by omega), ((hb.ext hx4).grown hg5 (by have := hb.lt; simp; omega)).ext hx6, ((hbn.ext hx4).grown hg5 (by have := hbn.lt; simp; omega)).ext hx6, hx5.trans hx6⟩
        case measure => simp [intOf]
      · have hz1 : (z1 != 0) = true := by simpa using hz
        have HZ := hid_ hz
        clear hz
        go_wp2_with (first
          | (refine wpList_load_mid rfl 45 (.tmp 49) rfl _ 0 rfl t1 _ hr Try.underlying45 rfl (by rw [hl1.out]; exact sizeTbl) ?_)
          | (refine wpList_alloc_abs' rfl (some 5) rfl 45 rfl _ zeroTbl ?_; intro w4 ga hba4 hx4 hga)
          | (refine wpList_store_blk rfl 45 (.tmp 5) (.tmp 50) rfl _ _ rfl rfl hba4 17 sizeTbl hs1.out hz17.out HO1.out ?_; intro w5 hba5 hg5; have hx5 := (hx.trans hx4).grown hg5 (by have := hx.size; omega))
          | (refine wpList_load_blk rfl 45 (.tmp 5) rfl _ rfl hba5 _ Try.underlying45 rfl 17 sizeTbl hs1.out ?_)
          | (go_at_call 47; (with_reducible refine (HC1.out _ hx5).mono ?_); rintro e w6 ⟨rfl, hx6⟩))
        go_ret
        exact ⟨by rw [← HR.out]; simp [HZ.out], hx5.trans hx6⟩
    · have hr := (HRT.out _ _ hbn).2
      by_cases hz : z2 = 0
      · subst hz
        go_wp2_with (first
          | (refine wpList_load_mid rfl 45 (.tmp 49) rfl _ 17 rfl t2 _ hr Try.underlying45 rfl (by rw [hl2.out]; exact sizeTbl) ?_)
          | (refine wpList_alloc_abs' rfl (some 5) rfl 45 rfl _ zeroTbl ?_; intro w4 ga hba4 hx4 hga)
          | (refine wpList_store_blk rfl 45 (.tmp 5) (.tmp 50) rfl _ _ rfl rfl hba4 17 sizeTbl hs2.out hz17.out HO2.out ?_; intro w5 hba5 hg5; have hx5 := (hx.trans hx4).grown hg5 (by have := hx.size; omega))
          | (refine wpList_load_blk rfl 45 (.tmp 5) rfl _ rfl hba5 _ Try.underlying45 rfl 17 sizeTbl hs2.out ?_)
          | (go_at_call 47; (with_reducible refine (HC2.out _ hx5).mono ?_); rintro e w6 ⟨rfl, hx6⟩))
        go_roundw
        case rel => exact ⟨2, by omega, by go_num, fun _ => e1 (by omega), by simp, ((hb.ext hx4).grown hg5 (by have := hb.lt; simp; omega)).ext hx6, ((hbn.ext hx4).grown hg5 (by have := hbn.lt; simp; omega)).ext hx6, hx5.trans hx6⟩
        case measure => simp [intOf]
      · have hz1 : (z2 != 0) = true := by simpa using hz
        have HZ := hid_ hz
        clear hz
        go_wp2_with (first
          | (refine wpList_load_mid rfl 45 (.tmp 49) rfl _ 17 rfl t2 _ hr Try.underlying45 rfl (by rw [hl2.out]; exact sizeTbl) ?_)
          | (refine wpList_alloc_abs' rfl (some 5) rfl 45 rfl _ zeroTbl ?_; intro w4 ga hba4 hx4 hga)
          | (refine wpList_store_blk rfl 45 (.tmp 5) (.tmp 50) rfl _ _ rfl rfl hba4 17 sizeTbl hs2.out hz17.out HO2.out ?_; intro w5 hba5 hg5; have hx5 := (hx.trans hx4).grown hg5 (by have := hx.size; omega))
          | (refine wpList_load_blk rfl 45 (.tmp 5) rfl _ rfl hba5 _ Try.underlying45 rfl 17 sizeTbl hs2.out ?_)
          | (go_at_call 47; (with_reducible refine (HC2.out _ hx5).mono ?_); rintro e w6 ⟨rfl, hx6⟩))
        go_ret
        exact ⟨by rw [← HR.out]; simp [HZ.out, e1 (by omega)], hx5.trans hx6⟩
    · have c102 := (HF.out _ _ hb).c102
      have Z1 := hid_ (e1 (by omega))
      have Z2 := hid_ (e2 (by omega))
      clear e1 e2
      by_cases hn : 90000 < n
      · have hn' : decide ((90000 : Int) < (n : Int)) = true := by simp; omega
        go_wp2_with fail
        go_ret
        have h2 : R = 2 := by rw [← HR.out, if_pos Z1.out, if_pos Z2.out, if_pos hn]
        subst h2
        exact ⟨rfl, hx⟩
      · have hn' : decide ((90000 : Int) < (n : Int)) = false := by simp; omega
        go_wp2_with fail
        go_ret
        have h2 : R = 0 := by rw [← HR.out, if_pos Z1.out, if_pos Z2.out, if_neg hn]
        subst h2
        exact ⟨rfl, hx⟩
end Go.Proofs.Ytlepchdlkhogiaa
/- file.Check: arguments within their bounds. -/
namespace Go.Proofs.Ytlepchdlkhogiaa
set_option linter.unusedVariables false
set_option linter.unusedSimpArgs false
open Go.RowKit
set_option maxRecDepth 20000 in
set_option maxHeartbeats 4000000 in
theorem fcheck_y3t (wd hi ev : Int) (qs : List Int) (t1 t2 : List Value) (A : Option Addr) (n c : Nat) (z1 z2 : Int) (w : World) (hq : qs.length = 64) (h1 : t1.length = 17) (h2 : t2.length = 17)
    (k1 : inB wd 1 64 = true) (k2 : inB hi 1 64 = true) (k3 : inB ev 0 100 = true) (kq : allIn qs 1 255 = true) (o1 : t1.toArray.all (·.oneCell') = true) (o2 : t2.toArray.all (·.oneCell') = true)
    (C1 : ∀ W, Ext w W → Calls Try.prog 47 #[.agg t1.toArray] W fun e W' => e = .returned (.int .i64 z1) ∧ Ext W W')
    (C2 : ∀ W, Ext w W → Calls Try.prog 47 #[.agg t2.toArray] W fun e W' => e = .returned (.int .i64 z2) ∧ Ext W W') :
    Calls Try.prog 23 #[.agg (fileL wd hi 3 qs t1 t2 ev (.slice A n c)).toArray] w fun e w' => e = .returned (.int .i64 (if z1 = 0 then (if z2 = 0 then (if 90000 < n then 2 else 0) else z2) else z1)) ∧ Ext w w' := by
  have HF := hid_ (fun W g (hb : Blk W g 50 (fileL wd hi 3 qs t1 t2 ev (.slice A n c)).toArray) => fileB hb hq h1 h2)
  have W1 := hid_ (fun W => fwithin_any wd 1 64 W)
  have W2 := hid_ (fun W => fwithin_any hi 1 64 W)
  have W3 := hid_ (fun W => fwithin_any ev 0 100 W)
  have HQ : Hid (∀ W, Calls Try.prog 46 #[.agg (ints qs).toArray] W fun e w' => e = .returned (.int .i64 0) ∧ Ext W w') := hid_ (fun W => by have h := qcheck_any qs W hq; rw [kq] at h; exact h)
  clear kq
  have hql := hid_ ((ints_len qs).trans hq)
  have hl1 := hid_ h1
  have hl2 := hid_ h2
  have HB2 := hid_ (built2 t1 t2 h1 h2)
  have HRT := hid_ (fun W g (hb : Blk W g 45 (t1 ++ t2).toArray) => range_two h1 hb)
  have hs1 : Hid (t1.toArray.size = 17) := hid_ (by simpa using h1)
  have hs2 : Hid (t2.toArray.size = 17) := hid_ (by simpa using h2)
  have hz17 : Hid ((ints (List.replicate 16 0) ++ [Value.slice none 0 0]).toArray.size = 17) := hid_ (by simp [ints])
  have hl3 : Hid ((t1 ++ t2).length = 34) := hid_ (by simp [h1, h2])
  have HO1 := hid_ o1
  have HO2 := hid_ o2
  have HC1 := hid_ C1
  have HC2 := hid_ C2
  clear o1 o2 C1 C2
  generalize hR : (if z1 = 0 then (if z2 = 0 then (if 90000 < n then (2 : Int) else 0) else z2) else z1) = R
  have HR := hid_ hR
  clear hR
  clear hq h1 h2
  generalize (fileL wd hi 3 qs t1 t2 ev (.slice A n c)).toArray = fv at *
  generalize inB wd 1 64 = b1 at *
  generalize inB hi 1 64 = b2 at *
  generalize inB ev 0 100 = b3 at *
  subst k1 k2 k3
  go_enter Try.func23, Try.ntmps23
  go_wp2_with (first
    | (refine wpList_box_abs rfl 50 (.tmp 0) rfl fv rfl ?_; intro w1 g hb1 hx1 hg; have hf1 := HF.out _ _ hb1; have c0 := hf1.c0; have c1 := hf1.c1; have c2 := hf1.c2; have c101 := hf1.c101)
    | (go_at_call 45; (with_reducible refine (W1.out _).mono ?_); rintro e w2 ⟨rfl, rfl⟩)
    | (go_at_call 45; (with_reducible refine (W2.out _).mono ?_); rintro e w2 ⟨rfl, rfl⟩)
    | (go_at_call 45; (with_reducible refine (W3.out _).mono ?_); rintro e w2 ⟨rfl, rfl⟩)
    | (refine wpList_load_mid rfl 31 (.tmp 33) rfl g 3 rfl (ints qs) _ hf1.q Try.underlying31 rfl (by rw [hql.out]; exact size48) ?_)
    | (go_at_call 46; (with_reducible refine (HQ.out _).mono ?_); rintro e w2 ⟨rfl, hx2⟩; have hb2 := hb1.ext hx2; have hf2 := HF.out _ _ hb2)
    | (refine wpList_load_mid rfl 45 (.tmp 40) rfl g 67 rfl t1 _ hf2.ta Try.underlying45 rfl (by rw [hl1.out]; exact sizeTbl) ?_)
    | (refine wpList_load_mid rfl 45 (.tmp 43) rfl g 84 rfl t2 _ hf2.tb Try.underlying45 rfl (by rw [hl2.out]; exact sizeTbl) ?_)
    | (refine Go.Great.wpList_buildSliceTo rfl 82 45 2 _ rfl _ rfl (some 45) rfl Try.underlying82 _ (by simp [Act.eval]; exact HB2.out) ?_))
  have hbn0 := Blk.new w2 45 (t1 ++ t2).toArray
  have hb3 := hb2.alloc (.cells (t1 ++ t2).toArray 45)
  have hx3 := (hx1.trans hx2).alloc (.cells (t1 ++ t2).toArray 45)
  clear hb1 hb2 hf1 hf2 hx1 hx2 c0 c1 c2 c101
  go_loopw [47] (fun i wr => ∃ k : Nat, k ≤ 2 ∧ i = .int .i64 (k : Int) ∧ (1 ≤ k → z1 = 0) ∧ (2 ≤ k → z2 = 0) ∧ Blk wr g 50 fv ∧ Blk wr w2.heap.size 45 (t1 ++ t2).toArray ∧ Ext w wr) (fun i _ => 2 - (intOf i).toNat)
  case atStart => exact ⟨0, by omega, rfl, fun h => absurd h (by omega), fun h => absurd h (by omega), hb3, hbn0, hx3⟩
  case round =>
    clear hb3 hbn0 hx3
    obtain ⟨k, hk, rfl, e1, e2, hb, hbn, hx⟩ := hrel
    rcases (by omega : k = 0 ∨ k = 1 ∨ k = 2) with rfl | rfl | rfl
    · have hr := (HRT.out _ _ hbn).1
      by_cases hz : z1 = 0
      · subst hz
        go_wp2_with (first
          | (refine wpList_load_mid rfl 45 (.tmp 49) rfl _ 0 rfl t1 _ hr Try.underlying45 rfl (by rw [hl1.out]; exact sizeTbl) ?_)
          | (refine wpList_alloc_abs' rfl (some 5) rfl 45 rfl _ zeroTbl ?_; intro w4 ga hba4 hx4 hga)
          | (refine wpList_store_blk rfl 45 (.tmp 5) (.tmp 50) rfl _ _ rfl rfl hba4 17 sizeTbl hs1.out hz17.out HO1.out ?_; intro w5 hba5 hg5; have hx5 := (hx.trans hx4).grown hg5 (by have := hx.size; omega))
          | (refine wpList_load_blk rfl 45 (.tmp 5) rfl _ rfl hba5 _ Try.underlying45 rfl 17 sizeTbl hs1.out ?_)
          | (go_at_call 47; (with_reducible refine (HC1.out _ hx5).mono ?_); rintro e w6 ⟨rfl, hx6⟩))
        go_roundw
        case rel => exact ⟨1, by omega, by go_num, by simp, fun h => absurd h (by omega), ((hb.ext hx4).grown hg5 (by have := hb.lt; simp; omega)).ext hx6, ((hbn.ext hx4).grown hg5 (by have := hbn.lt; simp; omega)).ext hx6, hx5.trans hx6⟩
        case measure => simp [intOf]
      · have hz1 : (z1 != 0) = true := by simpa using hz
        have HZ := hid_ hz
        clear hz
        go_wp2_with (first
          | (refine wpList_load_mid rfl 45 (.tmp 49) rfl _ 0 rfl t1 _ hr Try.underlying45 rfl (by rw [hl1.out]; exact sizeTbl) ?_)
          | (refine wpList_alloc_abs' rfl (some 5) rfl 45 rfl _ zeroTbl ?_; intro w4 ga hba4 hx4 hga)
          | (refine wpList_store_blk rfl 45 (.tmp 5) (.tmp 50) rfl _ _ rfl rfl hba4 17 sizeTbl hs1.out hz17.out HO1.out ?_; intro w5 hba5 hg5; have hx5 := (hx.trans hx4).grown hg5 (by have := hx.size; omega))
          | (refine wpList_load_blk rfl 45 (.tmp 5) rfl _ rfl hba5 _ Try.underlying45 rfl 17 sizeTbl hs1.out ?_)
          | (go_at_call 47; (with_reducible refine (HC1.out _ hx5).mono ?_); rintro e w6 ⟨rfl, hx6⟩))
        go_ret
        exact ⟨by rw [← HR.out]; simp [HZ.out], hx5.trans hx6⟩
    · have hr := (HRT.out _ _ hbn).2
      by_cases hz : z2 = 0
      · subst hz
        go_wp2_with (first
          | (refine wpList_load_mid rfl 45 (.tmp 49) rfl _ 17 rfl t2 _ hr Try.underlying45 rfl (by rw [hl2.out]; exact sizeTbl) ?_)
          | (refine wpList_alloc_abs' rfl (some 5) rfl 45 rfl _ zeroTbl ?_; intro w4 ga hba4 hx4 hga)
          | (refine wpList_store_blk rfl 45 (.tmp 5) (.tmp 50) rfl _ _ rfl rfl hba4 17 sizeTbl hs2.out hz17.out HO2.out ?_; intro w5 hba5 hg5; have hx5 := (hx.trans hx4).grown hg5 (by have := hx.size; omega))
          | (refine wpList_load_blk rfl 45 (.tmp 5) rfl _ rfl hba5 _ Try.underlying45 rfl 17 sizeTbl hs2.out ?_)
          | (go_at_call 47; (with_reducible refine (HC2.out _ hx5).mono ?_); rintro e w6 ⟨rfl, hx6⟩))
        go_roundw
        case rel => exact ⟨2, by omega, by go_num, fun _ => e1 (by omega), by simp, ((hb.ext hx4).grown hg5 (by have := hb.lt; simp; omega)).ext hx6, ((hbn.ext hx4).grown hg5 (by have := hbn.lt; simp; omega)).ext hx6, hx5.trans hx6⟩
        case measure => simp [intOf]
      · have hz1 : (z2 != 0) = true := by simpa using hz
        have HZ := hid_ hz
        clear hz
        go_wp2_with (first
          | (refine wpList_load_mid rfl 45 (.tmp 49) rfl _ 17 rfl t2 _ hr Try.underlying45 rfl (by rw [hl2.out]; exact sizeTbl) ?_)
          | (refine wpList_alloc_abs' rfl (some 5) rfl 45 rfl _ zeroTbl ?_; intro w4 ga hba4 hx4 hga)
          | (refine wpList_store_blk rfl 45 (.tmp 5) (.tmp 50) rfl _ _ rfl rfl hba4 17 sizeTbl hs2.out hz17.out HO2.out ?_; intro w5 hba5 hg5; have hx5 := (hx.trans hx4).grown hg5 (by have := hx.size; omega))
          | (refine wpList_load_blk rfl 45 (.tmp 5) rfl _ rfl hba5 _ Try.underlying45 rfl 17 sizeTbl hs2.out ?_)
          | (go_at_call 47; (with_reducible refine (HC2.out _ hx5).mono ?_); rintro e w6 ⟨rfl, hx6⟩))
        go_ret
        exact ⟨by rw [← HR.out]; simp [HZ.out, e1 (by omega)], hx5.trans hx6⟩
    · have c102 := (HF.out _ _ hb).c102
      have Z1 := hid_ (e1 (by omega))
      have Z2 := hid_ (e2 (by omega))
      clear e1 e2
      by_cases hn : 90000 < n
      · have hn' : decide ((90000 : Int) < (n : Int)) = true := by simp; omega
        go_wp2_with fail
        go_ret
        have h2 : R = 2 := by rw [← HR.out, if_pos Z1.out, if_pos Z2.out, if_pos hn]
        subst h2
        exact ⟨rfl, hx⟩
      · have hn' : decide ((90000 : Int) < (n : Int)) = false := by simp; omega
        go_wp2_with fail
        go_ret
        have h2 : R = 0 := by rw [← HR.out, if_pos Z1.out, if_pos Z2.out, if_neg hn]
        subst h2
        exact ⟨rfl, hx⟩
end Go.Proofs.Ytlepchdlkhogiaa
/- R.FileCheck: an argument out of its bounds. -/
namespace Go.Proofs.Ytlepchdlkhogiaa
set_option linter.unusedVariables false
set_option linter.unusedSimpArgs false
open Go.RowKit
set_option maxRecDepth 20000 in
set_option maxHeartbeats 4000000 in
theorem rfcheck_na (wd hi pt ev : Int) (qs : List Int) (t1 t2 : List Value) (sd : Value) (w : World) (hq : qs.length = 64) (h1 : t1.length = 17) (h2 : t2.length = 17) (k1 : inB wd 1 64 = false) :
    Calls Try.prog 43 #[.agg (fileL wd hi pt qs t1 t2 ev sd).toArray] w fun e w' => e = .returned (.int .i64 1) ∧ Ext w w' := by
  have HF := hid_ (fun W g (hb : Blk W g 50 (fileL wd hi pt qs t1 t2 ev sd).toArray) => fileB hb hq h1 h2)
  have W1 := hid_ (fun W => outside_any wd 1 64 W)
  have W2 := hid_ (fun W => outside_any hi 1 64 W)
  have W3 := hid_ (fun W => outside_any ev 0 100 W)
  generalize (fileL wd hi pt qs t1 t2 ev sd).toArray = fv at *
  generalize inB wd 1 64 = b1 at *
  generalize inB hi 1 64 = b2 at *
  generalize inB ev 0 100 = b3 at *
  subst k1
  go_enter Try.func43, Try.ntmps43
  go_wp2_with (first
    | (refine wpList_box_abs rfl 50 (.tmp 0) rfl fv rfl ?_; intro w1 g hb1 hx1 hg; obtain ⟨c0, c1, c2, -, -, -, -, c101, -⟩ := HF.out _ _ hb1)
    | (go_at_call 36; (with_reducible refine (W1.out _).mono ?_); rintro e w2 ⟨rfl, rfl⟩)
    | (go_at_call 36; (with_reducible refine (W2.out _).mono ?_); rintro e w2 ⟨rfl, rfl⟩)
    | (go_at_call 36; (with_reducible refine (W3.out _).mono ?_); rintro e w2 ⟨rfl, rfl⟩))
  go_ret
  exact ⟨rfl, hx1⟩
end Go.Proofs.Ytlepchdlkhogiaa
/- R.FileCheck: an argument out of its bounds. -/
namespace Go.Proofs.Ytlepchdlkhogiaa
set_option linter.unusedVariables false
set_option linter.unusedSimpArgs false
open Go.RowKit
set_option maxRecDepth 20000 in
set_option maxHeartbeats 4000000 in
theorem rfcheck_nb (wd hi pt ev : Int) (qs : List Int) (t1 t2 : List Value) (sd : Value) (w : World) (hq : qs.length = 64) (h1 : t1.length = 17) (h2 : t2.length = 17) (k1 : inB wd 1 64 = true) (k2 : inB hi 1 64 = false) :
    Calls Try.prog 43 #[.agg (fileL wd hi pt qs t1 t2 ev sd).toArray] w fun e w' => e = .returned (.int .i64 1) ∧ Ext w w' := by
  have HF := hid_ (fun W g (hb : Blk W g 50 (fileL wd hi pt qs t1 t2 ev sd).toArray) => fileB hb hq h1 h2)
  have W1 := hid_ (fun W => outside_any wd 1 64 W)
  have W2 := hid_ (fun W => outside_any hi 1 64 W)
  have W3 := hid_ (fun W => outside_any ev 0 100 W)
  generalize (fileL wd hi pt qs t1 t2 ev sd).toArray = fv at *
  generalize inB wd 1 64 = b1 at *
  generalize inB hi 1 64 = b2 at *
  generalize inB ev 0 100 = b3 at *
  subst k1 k2
  go_enter Try.func43, Try.ntmps43
  go_wp2_with (first
    | (refine wpList_box_abs rfl 50 (.tmp 0) rfl fv rfl ?_; intro w1 g hb1 hx1 hg; obtain ⟨c0, c1, c2, -, -, -, -, c101, -⟩ := HF.out _ _ hb1)
    | (go_at_call 36; (with_reducible refine (W1.out _).mono ?_); rintro e w2 ⟨rfl, rfl⟩)
    | (go_at_call 36; (with_reducible refine (W2.out _).mono ?_); rintro e w2 ⟨rfl, rfl⟩)
    | (go_at_call 36; (with_reducible refine (W3.out _).mono ?_); rintro e w2 ⟨rfl, rfl⟩))
  go_ret
  exact ⟨rfl, hx1⟩
end Go.Proofs.Ytlepchdlkhogiaa
