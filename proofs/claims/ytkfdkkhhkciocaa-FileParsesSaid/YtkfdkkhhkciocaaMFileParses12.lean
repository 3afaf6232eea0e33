/- Contracts for the law FileParses, part 12: what the functions that it reaches answer, for all arguments that the theorems name. -/
import Derived.Test.YtkfdkkhhkciocaaMFileParses11
import Derived.Test.YtkfdkkhhkciocaaMFileParses6
import Derived.Test.YtkfdkkhhkciocaaMFileParses9
import Derived.Test.YtkfdkkhhkciocaaMFileParses2
import Derived.Test.YtkfdkkhhkciocaaMFileParses3
import Derived.Laws.BytesArg
import Derived.Lib.LazyBuf
import Derived.Test.YtkfdkkhhkciocaaMFileParses4
import Derived.Deep.MidRow
import Derived.Test.YtkfdkkhhkciocaaMFileParses10
/- file.Pack and FilePack of the reference: one contract each, for all arguments. -/
namespace Go.Proofs.Ytkfdkkhhkciocaa
set_option linter.unusedVariables false
set_option linter.unusedSimpArgs false
open Go.RowKit
def natsOf (zs : List Int) : List Nat := zs.map Int.toNat
theorem natI_toNat : ∀ (zs : List Int), (∀ z ∈ zs, 0 ≤ z) → natI (natsOf zs) = zs
  | [], _ => rfl
  | z :: zs, h => by
    have ih := natI_toNat zs (fun y hy => h y (by simp [hy]))
    have hz := h z (by simp)
    simp only [natI, natsOf, List.map_cons, List.map_map] at ih ⊢
    rw [ih]
    congr 1
    omega
theorem natsOf_lt {zs : List Int} {lo hi : Int} {N : Nat} (h : allIn zs lo hi = true) (h0 : 0 ≤ lo) (hN : hi < N) : ∀ n ∈ natsOf zs, n < N := by
  intro n hn
  obtain ⟨z, hz, rfl⟩ := List.mem_map.1 hn
  have := allIn_iff.1 h z hz
  omega
theorem natsOf_len (zs : List Int) : (natsOf zs).length = zs.length := by simp [natsOf]
def packE (wd hi pt ev : Int) (qs cs1 xs1 cs2 xs2 : List Int) (n : Nat) : Int := fcheckZ wd hi pt qs (checkZ cs1 xs1) (checkZ cs2 xs2) ev n
def packL (wd hi pt ev : Int) (qs cs1 xs1 cs2 xs2 : List Int) (bs : List Nat) : List Nat :=
  if packE wd hi pt ev qs cs1 xs1 cs2 xs2 bs.length = 0 then packN wd.toNat hi.toNat pt.toNat ev.toNat (natsOf (zto qs)) (natsOf cs1) (natsOf xs1) (natsOf cs2) (natsOf xs2) bs else []
def PackIs (E : Int) (L : List Nat) (w : World) (e : Ending) (w' : World) : Prop := ∃ A c, e = .returned (.tuple #[.slice A L.length c, .int .i64 E]) ∧ SL w' 1 (.slice A L.length c) L.length (bytesV L) ∧ Ext w w'
theorem packE_zero {wd hi pt ev : Int} {qs cs1 xs1 cs2 xs2 : List Int} {n : Nat} (h : packE wd hi pt ev qs cs1 xs1 cs2 xs2 n = 0) : argsOK wd hi pt ev = true ∧ allIn qs 1 255 = true ∧ checkZ cs1 xs1 = 0 ∧ checkZ cs2 xs2 = 0 ∧ n ≤ 90000 := by
  unfold packE fcheckZ at h
  by_cases h1 : (argsOK wd hi pt ev && allIn qs 1 255) = true
  · rw [if_pos h1] at h
    rw [Bool.and_eq_true] at h1
    by_cases h2 : checkZ cs1 xs1 = 0
    · rw [if_pos h2] at h
      by_cases h3 : checkZ cs2 xs2 = 0
      · rw [if_pos h3] at h
        by_cases h4 : 90000 < n
        · rw [if_pos h4] at h; cases h
        · exact ⟨h1.1, h1.2, h2, h3, by omega⟩
      · rw [if_neg h3] at h; exact absurd h h3
    · rw [if_neg h2] at h; exact absurd h h2
  · rw [if_neg h1] at h; cases h
theorem check_ok {cs xs : List Int} (h : checkZ cs xs = 0) : allIn cs 0 256 = true ∧ allIn xs 0 255 = true ∧ xs.length ≤ 256 := by
  cases ht : totOK cs xs with
  | false => rw [checkZ_tot ht] at h; cases h
  | true =>
    obtain ⟨a, b, c⟩ := totOK_iff.1 ht
    cases hx : allIn xs 0 255 with
    | false => rw [checkZ_arg ht hx] at h; cases h
    | true => exact ⟨a, rfl, by omega⟩
theorem zto_in {qs : List Int} (hq : qs.length = 64) (h : allIn qs 1 255 = true) : allIn (zto qs) 1 255 = true := by
  refine allIn_iff.2 fun z hz => ?_
  unfold zto at hz
  obtain ⟨k, hk, rfl⟩ := List.mem_map.1 hz
  have hk' := List.mem_range.1 hk
  have hb := zigAt_bd k hk'
  have hlt : (zigAt k).toNat < qs.length := by omega
  rw [List.getD_eq_getElem?_getD, List.getElem?_eq_getElem hlt]
  exact allIn_iff.1 h _ (List.getElem_mem hlt)
set_option maxRecDepth 20000 in
set_option maxHeartbeats 1000000 in
theorem pack_bad (fv : Array Value) (E : Int) (h0 : E ≠ 0) (hfs : fv.size = 103) (w : World) (HC : ∀ W, Ext w W → Calls Try.prog 17 #[.agg fv] W fun e W' => e = .returned (.int .i64 E) ∧ Ext W W') :
    Calls Try.prog 39 #[.agg fv] w (PackIs E [] w) := by
  have HFS := hid_ hfs
  have HCK := hid_ HC
  have hE : (E != 0) = true := by simpa using h0
  clear hfs HC h0
  go_enter Try.func39, Try.ntmps39
  go_wp2_with (first
    | (refine wpList_box_abs rfl 45 (.tmp 0) rfl fv rfl ?_; intro w1 g hb1 hx1 hg)
    | (refine wpList_load_blk rfl 45 (.tmp 1) rfl _ rfl hb1 _ Try.underlying45 rfl 103 sizeFile HFS.out ?_)
    | (go_at_call 17; (with_reducible refine (HCK.out _ hx1).mono ?_); rintro e w2 ⟨rfl, hx2⟩))
  go_ret2
  exact ⟨none, 0, rfl, SL.nil _ _, hx1.trans hx2⟩
theorem pack_any (wd hi pt ev : Int) (qs cs1 xs1 : List Int) (s1 : Value) (cs2 xs2 : List Int) (s2 : Value) (bs : List Nat) (sd : Value) (w : World) (hq : qs.length = 64) (h1 : cs1.length = 16) (h2 : cs2.length = 16)
    (hs1 : SL w 1 s1 xs1.length (ints xs1)) (hs2 : SL w 1 s2 xs2.length (ints xs2)) (hsd : SL w 1 sd bs.length (bytesV bs)) :
    Calls Try.prog 39 #[.agg (fileL wd hi pt qs (tblL cs1 s1) (tblL cs2 s2) ev sd).toArray] w (PackIs (packE wd hi pt ev qs cs1 xs1 cs2 xs2 bs.length) (packL wd hi pt ev qs cs1 xs1 cs2 xs2 bs) w) := by
  have HC : ∀ W, Ext w W → Calls Try.prog 17 #[.agg (fileL wd hi pt qs (tblL cs1 s1) (tblL cs2 s2) ev sd).toArray] W fun e W' => e = .returned (.int .i64 (packE wd hi pt ev qs cs1 xs1 cs2 xs2 bs.length)) ∧ Ext W W' :=
    fun W hW => fcheck_any wd hi pt ev qs cs1 xs1 s1 cs2 xs2 s2 bs sd W hq h1 h2 (hs1.ext hW) (hs2.ext hW) (hsd.ext hW)
  have l1 := tblL_len cs1 s1 h1
  have l2 := tblL_len cs2 s2 h2
  by_cases hE : packE wd hi pt ev qs cs1 xs1 cs2 xs2 bs.length = 0
  · obtain ⟨ha, kq, z1, z2, hb⟩ := packE_zero hE
    obtain ⟨k1, k2, k3, hp⟩ := argsOK_iff ha
    have k1 := inB_iff.1 k1
    have k2 := inB_iff.1 k2
    have k3 := inB_iff.1 k3
    obtain ⟨a1, b1, c1⟩ := check_ok z1
    obtain ⟨a2, b2, c2⟩ := check_ok z2
    have o1 := tblL_one cs1 s1 (let ⟨A, c, h, _⟩ := hs1; ⟨A, _, c, h⟩)
    have o2 := tblL_one cs2 s2 (let ⟨A, c, h, _⟩ := hs2; ⟨A, _, c, h⟩)
    obtain ⟨A0, c0, rfl, -⟩ := id hsd
    obtain ⟨wd, rfl⟩ := Int.eq_ofNat_of_zero_le (show 0 ≤ wd by omega)
    obtain ⟨hi, rfl⟩ := Int.eq_ofNat_of_zero_le (show 0 ≤ hi by omega)
    obtain ⟨pt, rfl⟩ := Int.eq_ofNat_of_zero_le (show 0 ≤ pt by omega)
    obtain ⟨ev, rfl⟩ := Int.eq_ofNat_of_zero_le (show 0 ≤ ev by omega)
    have e1 := natI_toNat cs1 (fun z hz => (allIn_iff.1 a1 z hz).1)
    have e2 := natI_toNat cs2 (fun z hz => (allIn_iff.1 a2 z hz).1)
    have e3 := natI_toNat xs1 (fun z hz => (allIn_iff.1 b1 z hz).1)
    have e4 := natI_toNat xs2 (fun z hz => (allIn_iff.1 b2 z hz).1)
    have hzi := zto_in hq kq
    have e5 := natI_toNat (zto qs) (fun z hz => by have := (allIn_iff.1 hzi z hz).1; omega)
    have hL : packL (wd : Int) hi pt ev qs cs1 xs1 cs2 xs2 bs = packN wd hi pt ev (natsOf (zto qs)) (natsOf cs1) (natsOf xs1) (natsOf cs2) (natsOf xs2) bs := by unfold packL; rw [if_pos hE]; rfl
    rw [hE] at HC ⊢
    rw [hL]
    have key := pack_good wd hi pt ev qs (natsOf (zto qs)) (natsOf cs1) (natsOf xs1) (natsOf cs2) (natsOf xs2) s1 s2 bs A0 c0 w hq e5.symm (natsOf_lt hzi (by decide) (by decide)) (by omega) (by omega) (by omega) (by omega)
      (by rw [natsOf_len]; exact h1) (by rw [natsOf_len]; exact h2) (fun n hn => by have := natsOf_lt (N := 257) a1 (by decide) (by decide) n hn; omega) (fun n hn => by have := natsOf_lt (N := 257) a2 (by decide) (by decide) n hn; omega)
      (natsOf_lt b1 (by decide) (by decide)) (natsOf_lt b2 (by decide) (by decide)) (by rw [natsOf_len]; exact c1) (by rw [natsOf_len]; exact c2)
      (by rw [natsOf_len, e3]; exact hs1) (by rw [natsOf_len, e4]; exact hs2) hsd hb (by rw [e1]; exact o1) (by rw [e2]; exact o2)
    rw [e1, e2] at key
    refine (key HC).mono ?_
    rintro e w' ⟨A, n, c, rfl, rfl, hs, hx⟩
    exact ⟨A, c, rfl, hs, hx⟩
  · have hL : packL wd hi pt ev qs cs1 xs1 cs2 xs2 bs = [] := by unfold packL; rw [if_neg hE]
    rw [hL]
    exact pack_bad _ _ hE (fileL_len wd hi pt qs (tblL cs1 s1) (tblL cs2 s2) ev sd hq l1 l2) w HC
set_option maxRecDepth 20000 in
set_option maxHeartbeats 1000000 in
theorem rpack_bad (fv : Array Value) (E : Int) (h0 : E ≠ 0) (hfs : fv.size = 103) (w : World) (HC : ∀ W, Ext w W → Calls Try.prog 80 #[.agg fv] W fun e W' => e = .returned (.int .i64 E) ∧ Ext W W') :
    Calls Try.prog 43 #[.agg fv] w (PackIs E [] w) := by
  have HFS := hid_ hfs
  have HCK := hid_ HC
  have hE : (E != 0) = true := by simpa using h0
  clear hfs HC h0
  go_enter Try.func43, Try.ntmps43
  go_wp2_with (first
    | (refine wpList_box_abs rfl 45 (.tmp 0) rfl fv rfl ?_; intro w1 g hb1 hx1 hg)
    | (refine wpList_load_blk rfl 45 (.tmp 1) rfl _ rfl hb1 _ Try.underlying45 rfl 103 sizeFile HFS.out ?_)
    | (go_at_call 80; (with_reducible refine (HCK.out _ hx1).mono ?_); rintro e w2 ⟨rfl, hx2⟩))
  go_ret2
  exact ⟨none, 0, rfl, SL.nil _ _, hx1.trans hx2⟩
theorem rpack_any (wd hi pt ev : Int) (qs cs1 xs1 : List Int) (s1 : Value) (cs2 xs2 : List Int) (s2 : Value) (bs : List Nat) (sd : Value) (w : World) (hq : qs.length = 64) (h1 : cs1.length = 16) (h2 : cs2.length = 16)
    (hs1 : SL w 1 s1 xs1.length (ints xs1)) (hs2 : SL w 1 s2 xs2.length (ints xs2)) (hsd : SL w 1 sd bs.length (bytesV bs)) :
    Calls Try.prog 43 #[.agg (fileL wd hi pt qs (tblL cs1 s1) (tblL cs2 s2) ev sd).toArray] w (PackIs (packE wd hi pt ev qs cs1 xs1 cs2 xs2 bs.length) (packL wd hi pt ev qs cs1 xs1 cs2 xs2 bs) w) := by
  have HC : ∀ W, Ext w W → Calls Try.prog 80 #[.agg (fileL wd hi pt qs (tblL cs1 s1) (tblL cs2 s2) ev sd).toArray] W fun e W' => e = .returned (.int .i64 (packE wd hi pt ev qs cs1 xs1 cs2 xs2 bs.length)) ∧ Ext W W' :=
    fun W hW => rfcheck_any wd hi pt ev qs cs1 xs1 s1 cs2 xs2 s2 bs sd W hq h1 h2 (hs1.ext hW) (hs2.ext hW) (hsd.ext hW)
  have l1 := tblL_len cs1 s1 h1
  have l2 := tblL_len cs2 s2 h2
  by_cases hE : packE wd hi pt ev qs cs1 xs1 cs2 xs2 bs.length = 0
  · obtain ⟨ha, kq, z1, z2, hb⟩ := packE_zero hE
    obtain ⟨k1, k2, k3, hp⟩ := argsOK_iff ha
    have k1 := inB_iff.1 k1
    have k2 := inB_iff.1 k2
    have k3 := inB_iff.1 k3
    obtain ⟨a1, b1, c1⟩ := check_ok z1
    obtain ⟨a2, b2, c2⟩ := check_ok z2
    have o1 := tblL_one cs1 s1 (let ⟨A, c, h, _⟩ := hs1; ⟨A, _, c, h⟩)
    have o2 := tblL_one cs2 s2 (let ⟨A, c, h, _⟩ := hs2; ⟨A, _, c, h⟩)
    obtain ⟨A0, c0, rfl, -⟩ := id hsd
    obtain ⟨wd, rfl⟩ := Int.eq_ofNat_of_zero_le (show 0 ≤ wd by omega)
    obtain ⟨hi, rfl⟩ := Int.eq_ofNat_of_zero_le (show 0 ≤ hi by omega)
    obtain ⟨pt, rfl⟩ := Int.eq_ofNat_of_zero_le (show 0 ≤ pt by omega)
    obtain ⟨ev, rfl⟩ := Int.eq_ofNat_of_zero_le (show 0 ≤ ev by omega)
    have e1 := natI_toNat cs1 (fun z hz => (allIn_iff.1 a1 z hz).1)
    have e2 := natI_toNat cs2 (fun z hz => (allIn_iff.1 a2 z hz).1)
    have e3 := natI_toNat xs1 (fun z hz => (allIn_iff.1 b1 z hz).1)
    have e4 := natI_toNat xs2 (fun z hz => (allIn_iff.1 b2 z hz).1)
    have hzi := zto_in hq kq
    have e5 := natI_toNat (zto qs) (fun z hz => by have := (allIn_iff.1 hzi z hz).1; omega)
    have hL : packL (wd : Int) hi pt ev qs cs1 xs1 cs2 xs2 bs = packN wd hi pt ev (natsOf (zto qs)) (natsOf cs1) (natsOf xs1) (natsOf cs2) (natsOf xs2) bs := by unfold packL; rw [if_pos hE]; rfl
    rw [hE] at HC ⊢
    rw [hL]
    have key := rpack_good wd hi pt ev qs (natsOf (zto qs)) (natsOf cs1) (natsOf xs1) (natsOf cs2) (natsOf xs2) s1 s2 bs A0 c0 w hq e5.symm (natsOf_lt hzi (by decide) (by decide)) (by omega) (by omega) (by omega) (by omega)
      (by rw [natsOf_len]; exact h1) (by rw [natsOf_len]; exact h2) (fun n hn => by have := natsOf_lt (N := 257) a1 (by decide) (by decide) n hn; omega) (fun n hn => by have := natsOf_lt (N := 257) a2 (by decide) (by decide) n hn; omega)
      (natsOf_lt b1 (by decide) (by decide)) (natsOf_lt b2 (by decide) (by decide)) (by rw [natsOf_len]; exact c1) (by rw [natsOf_len]; exact c2)
      (by rw [natsOf_len, e3]; exact hs1) (by rw [natsOf_len, e4]; exact hs2) hsd hb (by rw [e1]; exact o1) (by rw [e2]; exact o2)
    rw [e1, e2] at key
    refine (key HC).mono ?_
    rintro e w' ⟨A, n, c, rfl, rfl, hs, hx⟩
    exact ⟨A, c, rfl, hs, hx⟩
  · have hL : packL wd hi pt ev qs cs1 xs1 cs2 xs2 bs = [] := by unfold packL; rw [if_neg hE]
    rw [hL]
    exact rpack_bad _ _ hE (fileL_len wd hi pt qs (tblL cs1 s1) (tblL cs2 s2) ev sd hq l1 l2) w HC
end Go.Proofs.Ytkfdkkhhkciocaa
/- Parsing a file, in plain words. -/
namespace Go.Proofs.Ytkfdkkhhkciocaa
set_option linter.unusedVariables false
set_option linter.unusedSimpArgs false
open Go.RowKit
/-- what a file holds -/
structure FC where
  wd : Int
  hi : Int
  pt : Int
  qs : List Int
  cs1 : List Int
  xs1 : List Int
  cs2 : List Int
  xs2 : List Int
  ev : Int
  data : List Nat
def FC.zero : FC := ⟨0, 0, 0, List.replicate 64 0, List.replicate 16 0, [], List.replicate 16 0, [], 0, []⟩
def FC.cells (F : FC) (s1 s2 sd : Value) : Array Value := (fileL F.wd F.hi F.pt F.qs (tblL F.cs1 s1) (tblL F.cs2 s2) F.ev sd).toArray
/-- its lists lie in memory -/
def FC.at_ (F : FC) (w : World) (s1 s2 sd : Value) : Prop := SL w 1 s1 F.xs1.length (ints F.xs1) ∧ SL w 1 s2 F.xs2.length (ints F.xs2) ∧ SL w 1 sd F.data.length (bytesV F.data)
def FC.shaped (F : FC) : Prop := F.qs.length = 64 ∧ F.cs1.length = 16 ∧ F.cs2.length = 16
theorem FC.at_.ext {F : FC} {w w' : World} {s1 s2 sd : Value} (h : F.at_ w s1 s2 sd) (hx : Ext w w') : F.at_ w' s1 s2 sd := ⟨h.1.ext hx, h.2.1.ext hx, h.2.2.ext hx⟩
theorem FC.size {F : FC} (h : F.shaped) (s1 s2 sd : Value) : (F.cells s1 s2 sd).size = 103 := fileL_len _ _ _ _ _ _ _ _ h.1 (tblL_len _ _ h.2.1) (tblL_len _ _ h.2.2)
def FC.packE (F : FC) : Int := Go.Proofs.Ytkfdkkhhkciocaa.packE F.wd F.hi F.pt F.ev F.qs F.cs1 F.xs1 F.cs2 F.xs2 F.data.length
def FC.packL (F : FC) : List Nat := Go.Proofs.Ytkfdkkhhkciocaa.packL F.wd F.hi F.pt F.ev F.qs F.cs1 F.xs1 F.cs2 F.xs2 F.data
theorem FC.pack (F : FC) (h : F.shaped) (s1 s2 sd : Value) (w : World) (ha : F.at_ w s1 s2 sd) : Calls Try.prog 39 #[.agg (F.cells s1 s2 sd)] w (PackIs F.packE F.packL w) :=
  pack_any F.wd F.hi F.pt F.ev F.qs F.cs1 F.xs1 s1 F.cs2 F.xs2 s2 F.data sd w h.1 h.2.1 h.2.2 ha.1 ha.2.1 ha.2.2
theorem FC.rpack (F : FC) (h : F.shaped) (s1 s2 sd : Value) (w : World) (ha : F.at_ w s1 s2 sd) : Calls Try.prog 43 #[.agg (F.cells s1 s2 sd)] w (PackIs F.packE F.packL w) :=
  rpack_any F.wd F.hi F.pt F.ev F.qs F.cs1 F.xs1 s1 F.cs2 F.xs2 s2 F.data sd w h.1 h.2.1 h.2.2 ha.1 ha.2.1 ha.2.2
theorem FC.packL_lt (F : FC) (hq : F.qs.length = 64) (hd : ∀ b ∈ F.data, b < 256) : ∀ b ∈ F.packL, b < 256 := by
  intro b hb
  unfold FC.packL Go.Proofs.Ytkfdkkhhkciocaa.packL at hb
  split at hb
  · rename_i h0
    obtain ⟨ha, hqs, h1, h2, -⟩ := packE_zero h0
    obtain ⟨c1, x1, -⟩ := check_ok h1
    obtain ⟨c2, x2, -⟩ := check_ok h2
    have ha' : (1 ≤ F.wd ∧ F.wd ≤ 64) ∧ (1 ≤ F.hi ∧ F.hi ≤ 64) ∧ (F.pt = 1 ∨ F.pt = 3) ∧ (0 ≤ F.ev ∧ F.ev ≤ 100) := by
      unfold argsOK at ha
      simp only [Bool.and_eq_true, Bool.or_eq_true, beq_iff_eq, inB_iff] at ha
      exact ⟨ha.1.1.1, ha.1.1.2, ha.1.2, ha.2⟩
    have ht : ∀ (cs xs : List Int), allIn cs 0 256 = true → allIn xs 0 255 = true → ∀ n ∈ tabN (natsOf cs) (natsOf xs), n < 256 := by
      intro cs xs hc hx n hn
      unfold tabN at hn
      rcases List.mem_append.1 hn with hn | hn
      · obtain ⟨m, hm, hn⟩ := List.mem_flatMap.1 hn
        have := natsOf_lt (N := 257) hc (by omega) (by omega) m hm
        simp at hn
        omega
      · exact natsOf_lt (N := 256) hx (by omega) (by omega) n hn
    unfold packN at hb
    simp only [List.mem_append] at hb
    rcases hb with ((hb | hb) | (hb | hb)) | hb
    · simp at hb
      omega
    · exact natsOf_lt (N := 256) (zto_in hq hqs) (by omega) (by omega) b hb
    · exact ht _ _ c1 x1 b hb
    · exact ht _ _ c2 x2 b hb
    · exact hd b hb
  · cases hb
def p2 (bs : List Nat) : Nat := 70 + 32 + cntS bs 70 16
def p3 (bs : List Nat) : Nat := p2 bs + 32 + cntS bs (p2 bs) 16
def quL (bs : List Nat) (k : Nat) : List Int := (List.range k).map fun j => ((bs.getD (6 + j) 0 : Nat) : Int)
theorem quL_len (bs : List Nat) (k : Nat) : (quL bs k).length = k := by simp [quL]
theorem quL_succ (bs : List Nat) (k : Nat) : quL bs (k + 1) = quL bs k ++ [((bs.getD (6 + k) 0 : Nat) : Int)] := by simp [quL, List.range_succ]
theorem quL_set (bs : List Nat) (k : Nat) (h : k < 64) : (quL bs k ++ List.replicate (64 - k) 0).set k ((bs.getD (6 + k) 0 : Nat) : Int) = quL bs (k + 1) ++ List.replicate (64 - (k + 1)) 0 := by
  rw [List.set_append_right _ _ (by rw [quL_len]; omega), quL_len, Nat.sub_self, show 64 - k = (64 - (k + 1)) + 1 by omega, List.replicate_succ, List.set_cons_zero, quL_succ, List.append_assoc]
  rfl
def parsed (bs : List Nat) : FC := ⟨((bs.getD 2 0 : Nat) : Int), ((bs.getD 3 0 : Nat) : Int), ((bs.getD 4 0 : Nat) : Int), zfrom (quL bs 64) 64, cntL bs 70 16, symL bs (70 + 32) (cntS bs 70 16), cntL bs (p2 bs) 16, symL bs (p2 bs + 32) (cntS bs (p2 bs) 16), ((bs.getD 5 0 : Nat) : Int), bs.drop (p3 bs)⟩
theorem parsed_shaped (bs : List Nat) : (parsed bs).shaped := by
  unfold FC.shaped parsed
  dsimp only
  exact ⟨zfrom_len _ _, cntL_len _ _ _, cntL_len _ _ _⟩
theorem zero_shaped : FC.zero.shaped := ⟨rfl, rfl, rfl⟩
def parseZ (bs : List Nat) : FC × Int := if 91000 < bs.length then (FC.zero, 2) else if bs.length < p3 bs then (FC.zero, 3) else if (parsed bs).packE = 0 ∧ (parsed bs).packL = bs then (parsed bs, 0) else (FC.zero, 4)
/-- a parse answers this -/
def FpIs (z : FC × Int) (w : World) (e : Ending) (w' : World) : Prop := ∃ s1 s2 sd, e = .returned (.tuple #[.agg (z.1.cells s1 s2 sd), .int .i64 z.2]) ∧ z.1.at_ w' s1 s2 sd ∧ Ext w w'
def zFile : Array Value := FC.zero.cells (.slice none 0 0) (.slice none 0 0) (.slice none 0 0)
theorem zero_at (w : World) : FC.zero.at_ w (.slice none 0 0) (.slice none 0 0) (.slice none 0 0) := ⟨SL.nil w 1, SL.nil w 1, SL.nil w 1⟩
theorem FpIs.err {z : FC × Int} {w w' : World} {E : Int} (h : z = (FC.zero, E)) (hx : Ext w w') : FpIs z w (.returned (.tuple #[.agg zFile, .int .i64 E])) w' := by
  subst h
  exact ⟨.slice none 0 0, .slice none 0 0, .slice none 0 0, rfl, zero_at w', hx⟩
theorem zeroFileV : (Try.prog.info? 45).bind (·.zero) = some (.agg zFile) := by kernel_rfl
set_option maxRecDepth 20000 in
theorem built0F : Try.prog.built 45 [] = some zFile := by
  show _ = _
  kernel_rfl
set_option maxRecDepth 20000 in
theorem builtF (a b c d : Int) : Try.prog.built 45 [(0, .int .i64 a), (1, .int .i64 b), (2, .int .i64 c), (5, .int .i64 d)] = some (FC.cells ⟨a, b, c, List.replicate 64 0, List.replicate 16 0, [], List.replicate 16 0, [], d, []⟩ (.slice none 0 0) (.slice none 0 0) (.slice none 0 0)) := by
  show _ = _
  kernel_rfl
theorem zFile_size : zFile.size = 103 := by unfold zFile; exact FC.size zero_shaped _ _ _
end Go.Proofs.Ytkfdkkhhkciocaa
/- '==' on arrays of integers. -/
namespace Go.Proofs.Ytkfdkkhhkciocaa
set_option linter.unusedVariables false
set_option linter.unusedSimpArgs false
open Go.RowKit
section
variable {P : Program} (w : World)
theorem run_part_int (e : TypeId) (he : P.underlying e = some (.int .i64)) (zs : List Int) (i : Nat) (hi : i < zs.length) : (part e (bv zs) i).run P w = .ok (.int .i64 zs[i]) w := by
  have hagg : (isAgg e).run P w = .ok false w := by
    unfold isAgg
    rw [Sem.run_bind, run_underlying he w]
    rfl
  simp [part, hagg, bv_at zs i hi]
theorem run_equalIn_ints (d : Nat) (t e : TypeId) (n : Nat) (ht : P.underlying t = some (.array n e)) (he : P.underlying e = some (.int .i64)) (hs : (P.info? e).map (·.size) = some 1) (xs ys : List Int) (hx : xs.length = n) (hy : ys.length = n) :
    (Op.equalIn (d + 2) t (.agg (bv xs)) (.agg (bv ys))).run P w = .ok (decide (xs = ys)) w := by
  cases hq : P.info? e with
  | none => simp [hq] at hs
  | some inf =>
    have hz : inf.size = 1 := by simpa [hq] using hs
    have hso : (sizeOf e).run P w = .ok 1 w := by simp [sizeOf, typeInfo, hq, hz]
    unfold Op.equalIn
    simp only [Sem.run_bind, run_underlying ht, Result.andThen_ok, hso, Nat.mul_one]
    rw [Std.Legacy.Range.forIn_eq_forIn_range']
    simp only [Std.Legacy.Range.size, Nat.sub_zero, Nat.add_sub_cancel, Nat.div_one]
    have key : ∀ (m s : Nat), s + m = n →
        (forIn (m := Sem) (List.range' s m) ((none, ()) : Option Bool × Unit) fun i __s => do
            let __do_lift ← part e (bv xs) i
            let __do_lift_1 ← part e (bv ys) i
            let __do_lift ← Op.equalIn (d + 1) e __do_lift __do_lift_1
            if (!__do_lift) = true then pure (ForInStep.done (some false, ())) else pure (ForInStep.yield (none, ()))).run P w
          = .ok (if xs.drop s = ys.drop s then (none, ()) else (some false, ())) w := by
      intro m
      induction m with
      | zero =>
        intro s hsn
        rw [List.drop_eq_nil_of_le (by omega), List.drop_eq_nil_of_le (by omega)]
        simp
      | succ m ih =>
        intro s hsn
        have h1 : s < xs.length := by omega
        have h2 : s < ys.length := by omega
        rw [List.range'_succ, List.forIn_cons]
        simp only [Sem.run_bind, run_part_int w e he xs s h1, run_part_int w e he ys s h2, Result.andThen_ok, run_equalIn_int w d e .i64 .i64 _ _ he]
        have hd : (xs.drop s = ys.drop s) = (xs[s] = ys[s] ∧ xs.drop (s + 1) = ys.drop (s + 1)) := by
          have e1 := List.drop_eq_getElem_cons h1
          have e2 := List.drop_eq_getElem_cons h2
          rw [e1, e2, List.cons.injEq]
        simp only [hd]
        by_cases hq2 : xs[s] = ys[s]
        · have hb : (xs[s] == ys[s]) = true := by simpa using hq2
          simp only [hb, Bool.not_true, Bool.false_eq_true, if_false, Sem.run_pure, Result.andThen_ok, ih (s + 1) (by omega)]
          simp [hq2]
        · have hb : (xs[s] == ys[s]) = false := by simpa using hq2
          simp only [hb, Bool.not_false, if_true, Sem.run_pure, Result.andThen_ok]
          simp [hq2]
    rw [key n 0 (by omega)]
    by_cases h : xs = ys
    · simp [h]
    · simp [h]
theorem guard48 : Try.prog.eqGuardType Try.prog.depth 24 = false := by kernel_rfl
theorem run_eql48 (w : World) (xs ys : List Int) (hx : xs.length = 64) (hy : ys.length = 64) : (binOp .eql 24 (.agg (bv xs)) (.agg (bv ys))).run Try.prog w = .ok (.bool (decide (xs = ys))) w := by
  rw [run_eql_struct, run_equalIn_ints w 9998 24 3 64 Try.underlying24 Try.underlying3 sizeInt xs ys hx hy]
  rfl
theorem run_neq48 (w : World) (xs ys : List Int) (hx : xs.length = 64) (hy : ys.length = 64) : (binOp .neq 24 (.agg (bv xs)) (.agg (bv ys))).run Try.prog w = .ok (.bool (!decide (xs = ys))) w := by
  rw [run_neq_struct, run_equalIn_ints w 9998 24 3 64 Try.underlying24 Try.underlying3 sizeInt xs ys hx hy]
  rfl
theorem run_eql48_same (w : World) (xs : List Int) (hx : xs.length = 64) : (binOp .eql 24 (.agg (bv xs)) (.agg (bv xs))).run Try.prog w = .ok (.bool true) w := by
  rw [run_eql48 w xs xs hx hx]; simp
theorem eqIn48 (w : World) (xs ys : List Int) (hx : xs.length = 64) (hy : ys.length = 64) : (Op.equalIn 10000 24 (.agg (bv xs)) (.agg (bv ys))).run Try.prog w = .ok (decide (xs = ys)) w :=
  run_equalIn_ints w 9998 24 3 64 Try.underlying24 Try.underlying3 sizeInt xs ys hx hy
theorem eqIn48_same (w : World) (xs : List Int) (hx : xs.length = 64) : (Op.equalIn 10000 24 (.agg (bv xs)) (.agg (bv xs))).run Try.prog w = .ok true w := by
  rw [eqIn48 w xs xs hx hx]; simp
theorem run_guard48 (w : World) (op : BinOp) (x y : Operand) (xs ys : Array Value) : (eqGuard op 24 x y (.agg xs) (.agg ys)).run Try.prog w = .ok () w := run_eqGuard_agg w op _ x y xs ys guard48
end
end Go.Proofs.Ytkfdkkhhkciocaa
/- Eq of bytes. -/
namespace Go.Proofs.Ytkfdkkhhkciocaa
set_option linter.unusedVariables false
set_option linter.unusedSimpArgs false
open Go.RowKit
/-- Eq of bytes -/
theorem bytesV_at (l : List Nat) (k : Nat) (u : Value) (h : (bytesV l)[k]? = some u) : ∃ hk : k < l.length, u = .int .u8 (l[k] : Int) := by
  unfold bytesV at h
  rw [List.getElem?_map] at h
  obtain ⟨z, hz, rfl⟩ := Option.map_eq_some_iff.1 h
  obtain ⟨hk, e⟩ := List.getElem?_eq_some_iff.1 hz
  exact ⟨hk, by rw [e]⟩
set_option maxHeartbeats 400000 in
theorem eqByte_same (u v : Value) (xs : List Nat) (w : World) (hu : SL w 1 u xs.length (bytesV xs)) (hv : SL w 1 v xs.length (bytesV xs)) :
    Calls Try.prog 44 #[u, v] w fun e w' => e = .returned (.bool true) ∧ w = w' := by
  have hu' := hu
  have hv' := hv
  obtain ⟨A, c, rfl, hc1, hc2, -, -⟩ := hu'
  obtain ⟨B, d, rfl, hd1, hd2, -, -⟩ := hv'
  go_enter Try.func44, Try.ntmps44
  go_wp2_with fail
  go_loop [14] (fun i => ∃ k : Nat, k ≤ xs.length ∧ i = .int .i64 k) (fun i => xs.length - (intOf i).toNat)
  case atStart => exact ⟨0, by omega, rfl⟩
  case round =>
    obtain ⟨k, hk, rfl⟩ := hrel
    by_cases hlt : k < xs.length
    · obtain ⟨ad, u, rfl, -, hx, hcell⟩ := hu.at1 hlt
      obtain ⟨_, rfl⟩ := bytesV_at _ _ _ hx
      obtain ⟨bd, u, rfl, -, hy, hcell2⟩ := hv.at1 hlt
      obtain ⟨_, rfl⟩ := bytesV_at _ _ _ hy
      clear hx hy
      generalize xs[k] = x at *
      go_wp2_with fail
      go_round
      case rel => exact ⟨k + 1, by omega, by go_num⟩
      case measure => simp [intOf]; omega
    · go_wp2_with fail
      go_ret
      exact ⟨rfl, rfl⟩
set_option maxHeartbeats 400000 in
theorem eqByte_any (u v : Value) (xs ys : List Nat) (w : World) (hu : SL w 1 u xs.length (bytesV xs)) (hv : SL w 1 v ys.length (bytesV ys)) :
    Calls Try.prog 44 #[u, v] w fun e w' => e = .returned (.bool (decide (xs = ys))) ∧ w = w' := by
  have hu' := hu
  have hv' := hv
  obtain ⟨A, c, rfl, hc1, hc2, -, -⟩ := hu'
  obtain ⟨B, d, rfl, hd1, hd2, -, -⟩ := hv'
  by_cases hl : (xs.length : Int) != ys.length
  · go_enter Try.func44, Try.ntmps44
    go_wp2
    go_ret
    refine ⟨?_, rfl⟩
    have : xs ≠ ys := by rintro rfl; simp at hl
    simp [this]
  · have h9 : (xs.length : Int) = ys.length := by simpa using hl
    have hl' : xs.length = ys.length := by omega
    clear h9
    have HL := hl'
    have hn : ((xs.length : Int) != ys.length) = false := by simpa using hl
    have HE : Hid (xs.length = ys.length) := HL
    clear hl HL
    go_enter Try.func44, Try.ntmps44
    clear hl'
    go_wp2
    go_loop [14] (fun i => ∃ k : Nat, k ≤ xs.length ∧ i = .int .i64 k ∧ xs.take k = ys.take k) (fun i => xs.length - (intOf i).toNat)
    case atStart => exact ⟨0, by omega, rfl, by simp⟩
    case round =>
      obtain ⟨k, hk, rfl, ht⟩ := hrel
      have HT : Hid (xs.take k = ys.take k) := ht
      clear ht
      by_cases hlt : k < xs.length
      · have hlt2 : k < ys.length := by have := HE.out; omega
        obtain ⟨ad, u, rfl, -, hx, hcell⟩ := hu.at1 hlt
        obtain ⟨_, rfl⟩ := bytesV_at _ _ _ hx
        obtain ⟨bd, u, rfl, -, hy, hcell2⟩ := hv.at1 hlt2
        obtain ⟨_, rfl⟩ := bytesV_at _ _ _ hy
        clear hx hy
        by_cases hq : xs[k] = ys[k]
        · have hq' : ((xs[k] : Nat) != ys[k]) = false := by simpa using hq
          have HQ : Hid (xs[k] = ys[k]) := hq
          clear hq
          go_wp2
          go_round
          case rel => exact ⟨k + 1, by omega, by go_num, (take_succ_iff _ _ _ hlt hlt2).2 ⟨HT.out, HQ.out⟩⟩
          case measure => simp [intOf]; omega
        · have hq' : ((xs[k] : Nat) != ys[k]) = true := by simpa using hq
          go_wp2
          go_ret
          refine ⟨?_, rfl⟩
          have : xs ≠ ys := by rintro rfl; exact hq rfl
          simp [this]
      · go_wp2
        go_ret
        refine ⟨?_, rfl⟩
        have e : xs = ys := by
          have := HT.out
          rwa [List.take_of_length_le (by omega), List.take_of_length_le (by have := HE.out; omega)] at this
        simp [e]
end Go.Proofs.Ytkfdkkhhkciocaa
/- bytes.Equal, bytes.Clone, Copy of bytes: one contract each. -/
namespace Go.Proofs.Ytkfdkkhhkciocaa
set_option linter.unusedVariables false
set_option linter.unusedSimpArgs false
open Go.RowKit
def strN (bs : List Nat) : ByteArray := strOfNums (bs.map fun n : Nat => (n : Int))
theorem strN_back : ∀ (a : List Nat), (∀ x ∈ a, x < 256) → (strN a).data.toList.map UInt8.toNat = a := by
  intro a ha
  unfold strN strOfNums
  rw [List.map_map]
  induction a with
  | nil => rfl
  | cons x l ih =>
    have h1 := ha x (by simp)
    have h2 := ih (fun y hy => ha y (by simp [hy]))
    simp only [List.map_cons, Function.comp, Int.toNat_natCast] at h2 ⊢
    rw [h2, UInt8.toNat_ofNat', Nat.mod_eq_of_lt (by omega)]
theorem strN_inj {a b : List Nat} (ha : ∀ x ∈ a, x < 256) (hb : ∀ x ∈ b, x < 256) (h : (strN a).data.toList = (strN b).data.toList) : a = b := by
  rw [← strN_back a ha, ← strN_back b hb, h]
set_option maxRecDepth 20000 in
theorem conv_bytes {w : World} {A : Option Addr} {n c : Nat} {bs : List Nat} (h : SL w 1 (.slice A n c) n (bytesV bs)) :
    (convert 38 9 (.slice A n c)).run Try.prog w = .ok (.string (strN bs)) w := by
  obtain ⟨A', c', e, h1, h2, h3, h4⟩ := h
  injection e with e1 e2 e3
  subst e1 e3
  rw [run_convert_bytes_string w 38 9 5 _ n c Try.underlying38 Try.underlying5 Try.underlying9]
  by_cases h0 : 0 < n
  · obtain ⟨ad, rfl, -, hc⟩ := h4 h0
    have hl : (loadCells ad n).run Try.prog w = .ok ((bs.map fun n : Nat => (n : Int)).map (Value.int .u8)).toArray w := by
      have := run_loadCells_list (P := Try.prog) w ad (bytesV bs) (fun j v hj => hc j v hj)
      rw [show (bytesV bs).length = n by omega] at this
      rw [this]
      simp [bytesV, Function.comp_def]
    rw [run_bytesToString w ad n c _ hl, foldl_push_bytes]
    simp [strN, strOfNums, ByteArray.empty, ByteArray.emptyWithCapacity]
    rfl
  · obtain rfl : n = 0 := by omega
    have : bs = [] := by simpa [bytesV] using h3
    subst this
    cases A <;> simp [Conv.bytesToString, loadCells, strN, strOfNums] <;> rfl
theorem ex_strEql {o : Oper} {a : Act} {x y : Operand} {t2 : TypeId} (ho : o.op = .binOp .eql 9 x y t2) {s u : ByteArray} (hx : a.eval x = .string s) (hy : a.eval y = .string u) {b : Bool} (h : (s.toList == u.toList) = b) (w : World) : (execOp a.eval o).run Try.prog w = .ok (.value (.bool b)) w := by
  subst h
  simp [execOp, ho, hx, hy, binOp, eqGuard, Op.stringOp]
set_option maxHeartbeats 1000000 in
theorem bytesEqual_any (u v : Value) (xs ys : List Nat) (w : World) (hx : ∀ b ∈ xs, b < 256) (hy : ∀ b ∈ ys, b < 256) (hu : SL w 1 u xs.length (bytesV xs)) (hv : SL w 1 v ys.length (bytesV ys)) :
    Calls Try.prog 40 #[u, v] w fun e w' => e = .returned (.bool (decide (xs = ys))) ∧ Ext w w' := by
  have hu' := hu
  have hv' := hv
  obtain ⟨A, c, rfl, -, -, -, -⟩ := hu'
  obtain ⟨B, d, rfl, -, -, -, -⟩ := hv'
  have k1 := hid_ (conv_bytes hu)
  have k2 := hid_ (conv_bytes hv)
  have HE : Hid (((strN xs).toList == (strN ys).toList) = decide (xs = ys)) := hid_ (by
    rw [Bool.eq_iff_iff]
    simp only [beq_iff_eq, decide_eq_true_eq, ByteArray.toList_eq]
    exact ⟨strN_inj hx hy, fun h => by rw [h]⟩)
  generalize decide (xs = ys) = r at *
  generalize strN xs = s1 at *
  generalize strN ys = s2 at *
  clear hu hv hx hy
  generalize xs.length = n at *
  generalize ys.length = m at *
  go_enter Try.func40, Try.ntmps40
  go_wp2_with (first
    | (show wpList _ _ _ (⟨some 6, _, _, _, _, _⟩ :: _) _ _; refine wl_read rfl (.string s1) (by simp [execOp, Act.eval, k1.out]) ?_)
    | (show wpList _ _ _ (⟨some 8, _, _, _, _, _⟩ :: _) _ _; refine wl_read rfl (.string s2) (by simp [execOp, Act.eval, k2.out]) ?_)
    | (show wpList _ _ _ (⟨some 9, _, _, _, _, _⟩ :: _) _ _; refine wl_run rfl (.bool r) (ex_strEql rfl rfl rfl HE.out) ?_))
  go_ret
  exact ⟨rfl, Ext.refl _⟩
theorem elt_u8C : Elt Try.prog 38 5 1 1 := ⟨Try.underlying38, by kernel_rfl, by omega⟩
theorem bytesV_one (l : List Nat) : ∀ u ∈ bytesV l, u.oneCell' = true := by
  intro u hu
  obtain ⟨n, -, rfl⟩ := List.mem_map.1 hu
  rfl
theorem run_eqNil (w : World) (a : Option Addr) (l c : Nat) : (binOp .eql 38 (.slice a l c) (.slice none 0 0)).run Try.prog w = .ok (.bool a.isNone) w := by
  exact _root_.Go.run_eql_slice_nil w 38 5 a l c Try.underlying38
/-- what Clone and Copy hand back -/
def CloneIs (bs : List Nat) (w : World) (e : Ending) (w' : World) : Prop := ∃ B d, e = .returned (.slice B bs.length d) ∧ w'.ownsRow w.heap.size 5 1 (.slice B bs.length d) bs.length (bytesV bs) ∧ Ext w w'
theorem own_emptyC (w : World) (base : Nat) (e : TypeId) (hb : base ≤ w.heap.size) : (w.alloc (.cells #[] e)).ownsRow base e 1 (.slice (some ⟨w.heap.size, 0, none⟩) 0 0) 0 [] :=
  ⟨rfl, .inr ⟨w.heap.size, 0, #[], rfl, hb, heap_alloc_new w _, by simp, by simp, by simp⟩⟩
set_option maxRecDepth 20000 in
set_option maxHeartbeats 1000000 in
theorem clone_any (A : Option Addr) (n c : Nat) (bs : List Nat) (w : World) (hn : bs.length = n) (hN : n ≤ 1000000) (h : SL w 1 (.slice A n c) n (bytesV bs)) :
    Calls Try.prog 38 #[.slice A n c] w (CloneIs bs w) := by
  unfold CloneIs
  rw [hn]
  cases A with
  | none =>
    obtain ⟨A', c', e, h1, h2, h3, h4⟩ := h
    injection e with e1 e2 e3
    have h0 : n = 0 := by
      rcases Nat.eq_zero_or_pos n with h | h
      · exact h
      · obtain ⟨ad, q, -⟩ := h4 h
        rw [← e1] at q
        cases q
    subst h0
    have hb : bs = [] := List.length_eq_zero_iff.1 hn
    subst hb
    clear h4 h3 e1 e2 e3
    have HNIL := hid_ (fun W => run_eqNil W none 0 c)
    go_enter Try.func38, Try.ntmps38
    go_wp2_with (show wpList _ _ _ (⟨some 4, _, _, _, _, _⟩ :: _) _ _; refine wl_run rfl (.bool true) (by intro W; simp [execOp, Act.eval, HNIL.out, eqGuard]) ?_)
    go_ret
    exact ⟨none, 0, rfl, own_nil _ _ _ _, Ext.refl _⟩
  | some ad =>
    have HS := hid_ h
    have HNIL := hid_ (fun W => run_eqNil W (some ad) n c)
    have h5 := own_emptyC w w.heap.size 5 (Nat.le_refl _)
    have hx5 := (Ext.refl w).alloc (.cells #[] 5)
    clear h
    go_enter Try.func38, Try.ntmps38
    go_wp2_with (first
      | (show wpList _ _ _ (⟨some 4, _, _, _, _, _⟩ :: _) _ _; refine wl_run rfl (.bool false) (by intro W; simp [execOp, Act.eval, HNIL.out, eqGuard]) ?_)
      | (show wpList _ _ _ (⟨some 7, _, _, _, _, _⟩ :: _) _ _; refine wpList_append_slf elt_u8C rfl (.tmp 5) (.tmp 6) rfl w.heap.size (.slice (some ⟨w.heap.size, 0, none⟩) 0 0) 0 [] rfl h5 (.slice (some ad) n c) n (bytesV bs) rfl (HS.out.ext hx5) (bytesV_one bs) (by omega) (by omega) (by simp) ?_; intro B d w7 ho7 hg7 hr7; rw [Nat.zero_add, List.nil_append] at ho7; rw [Nat.zero_add]))
    go_ret
    exact ⟨_, _, rfl, ho7, Below.grown hx5 hg7 hx5.size (fun k hk => by simp [Value.ownBlock] at hk; omega)⟩
set_option maxRecDepth 20000 in
set_option maxHeartbeats 1000000 in
theorem copyB_any (A : Option Addr) (n c : Nat) (bs : List Nat) (w : World) (hn : bs.length = n) (hN : n ≤ 1000000) (h : SL w 1 (.slice A n c) n (bytesV bs)) :
    Calls Try.prog 42 #[.slice A n c] w (CloneIs bs w) := by
  unfold CloneIs
  rw [hn]
  have HS := hid_ h
  have h5 := own_nil w w.heap.size 5 1
  clear h
  go_enter Try.func42, Try.ntmps42
  go_wp2_with (first
    | (show wpList _ _ _ (⟨some 4, _, _, _, _, _⟩ :: _) _ _; refine wpList_append_slf elt_u8C rfl _ _ rfl w.heap.size (.slice none 0 0) 0 [] rfl h5 (.slice A n c) n (bytesV bs) rfl HS.out (bytesV_one bs) (by omega) (by omega) (by simp) ?_; intro B d w7 ho7 hg7 hr7; rw [Nat.zero_add, List.nil_append] at ho7; rw [Nat.zero_add]))
  go_ret
  exact ⟨_, _, rfl, ho7, Below.grown (Ext.refl w) hg7 (Nat.le_refl _) (fun k hk => by cases hk)⟩
end Go.Proofs.Ytkfdkkhhkciocaa
/- Stores of many cells into the middle of a block. -/
namespace Go.Proofs.Ytkfdkkhhkciocaa
set_option linter.unusedVariables false
set_option linter.unusedSimpArgs false
open Go.RowKit
theorem blk_setCells {g : Nat} {t : TypeId} : ∀ (news old a b : List Value) (w : World), old.length = news.length → Blk w g t (a ++ (old ++ b)).toArray → Blk (w.setCells g a.length news) g t (a ++ (news ++ b)).toArray
  | [], old, a, b, w, hl, h => by
    have : old = [] := List.length_eq_zero_iff.1 (by simpa using hl)
    subst this
    exact h
  | v :: news, [], a, b, w, hl, h => by simp at hl
  | v :: news, o :: old, a, b, w, hl, h => by
    have h1 := h.set_ a.length v
    rw [List.setIfInBounds_toArray, List.set_append_right _ _ (Nat.le_refl _), Nat.sub_self, List.cons_append, List.set_cons_zero] at h1
    have h2 : Blk (w.setCell ⟨g, a.length, none⟩ v) g t ((a ++ [v]) ++ (old ++ b)).toArray := by simpa using h1
    have h3 := blk_setCells news old (a ++ [v]) b _ (by simpa using hl) h2
    rw [World.setCells]
    have e : (a ++ [v]).length = a.length + 1 := by simp
    rw [e] at h3
    simpa using h3
theorem upd_setCells {g : Nat} : ∀ (news : List Value) (o : Nat) (w : World), Upd (fun b => b = g) w (w.setCells g o news)
  | [], _, w => Upd.refl _ w
  | v :: news, o, w => by
    rw [World.setCells]
    have h1 := (Upd.refl (fun b => b = g) w).setCell (p := ⟨g, o, none⟩) rfl v
    exact h1.trans (upd_setCells news (o + 1) _) (fun x h => .inl h)
section
variable {P : Program} {ops : Array Oper} {rest : List Oper} {o : Oper} {ac : Act} {w : World} {Q : Exit → Act → World → Prop}
/-- a store of the cells news in the place of old, behind a, before b -/
theorem wpList_store_part (hgd : o.guard = none) (ty : TypeId) (x y : Operand) (ho : o.op = .store ty x y) (g off : Nat) (news : List Value) (hx : ac.eval x = .pointer (some ⟨g, off, none⟩)) (hy : ac.eval y = .agg news.toArray)
    {t : TypeId} {a old b : List Value} (hB : Blk w g t (a ++ (old ++ b)).toArray) (ha : a.length = off) (hl : old.length = news.length) (hs : (P.info? ty).map (·.size) = some news.length) (h1 : ∀ v ∈ news, v.oneCell' = true)
    (h : ∀ w1, Blk w1 g t (a ++ (news ++ b)).toArray → Upd (fun b => b = g) w w1 → wpList P ops Q rest (ac.put o.dst undef) w1) : wpList P ops Q (o :: rest) ac w := by
  subst ha
  refine wpList_store_mid hgd ty x y ho g a.length news.toArray hx hy (fun j hj => ⟨?_, hB.frozen _⟩) (by simpa using hs) (all_oneCell_toArray h1) (h _ (blk_setCells news old a b w hl hB) (upd_setCells _ _ _))
  rw [hB.cell]
  have hj : j < news.length := by simpa using hj
  simp only [List.getElem?_toArray]
  rw [List.getElem?_append_right (by omega), List.getElem?_append_left (by omega), List.getElem?_eq_getElem (by omega)]
  rfl
end
/-- a store of one cell -/
theorem set_part (a m b : List Value) (off k : Nat) (v : Value) (ha : a.length = off) (hk : k < m.length) : (a ++ (m ++ b)).toArray.setIfInBounds (off + k) v = (a ++ (m.set k v ++ b)).toArray := by
  subst ha
  rw [List.setIfInBounds_toArray, List.set_append_right _ _ (by omega), List.set_append_left _ _ (by omega)]
  congr 4
  omega
theorem get_part (a m b : List Value) (off k : Nat) (ha : a.length = off) (hk : k < m.length) : (a ++ (m ++ b)).toArray[off + k]? = m[k]? := by
  subst ha
  rw [List.getElem?_toArray, List.getElem?_append_right (by omega), List.getElem?_append_left (by omega)]
  congr 1
  omega
end Go.Proofs.Ytkfdkkhhkciocaa
/- file.Parse. Printed by wip/gen/mkparse.py. -/
namespace Go.Proofs.Ytkfdkkhhkciocaa
set_option linter.unusedVariables false
set_option linter.unusedSimpArgs false
open Go.RowKit
/-- numbers of the parse: a place in the file's block -/
theorem cells_q (wd hi pt ev : Int) (qs : List Int) (t1 t2 : List Value) (sd : Value) : (fileL wd hi pt qs t1 t2 ev sd).toArray = (ints [wd, hi, pt] ++ (ints qs ++ (t1 ++ t2 ++ [.int .i64 ev, sd]))).toArray := by simp [fileL]
theorem cells_1 (wd hi pt ev : Int) (qs : List Int) (t1 t2 : List Value) (sd : Value) : (fileL wd hi pt qs t1 t2 ev sd).toArray = ((ints [wd, hi, pt] ++ ints qs) ++ (t1 ++ (t2 ++ [.int .i64 ev, sd]))).toArray := by simp [fileL]
theorem cells_2 (wd hi pt ev : Int) (qs : List Int) (t1 t2 : List Value) (sd : Value) : (fileL wd hi pt qs t1 t2 ev sd).toArray = ((ints [wd, hi, pt] ++ ints qs ++ t1) ++ (t2 ++ [.int .i64 ev, sd])).toArray := by simp [fileL]
theorem cells_d (wd hi pt ev : Int) (qs : List Int) (t1 t2 : List Value) (sd u : Value) (hq : qs.length = 64) (h1 : t1.length = 17) (h2 : t2.length = 17) : (fileL wd hi pt qs t1 t2 ev sd).toArray.setIfInBounds 102 u = (fileL wd hi pt qs t1 t2 ev u).toArray := by
  have e : ∀ s, (fileL wd hi pt qs t1 t2 ev s).toArray = ((ints [wd, hi, pt] ++ ints qs ++ t1 ++ t2 ++ [Value.int .i64 ev]) ++ ([s] ++ [])).toArray := fun s => by simp [fileL]
  rw [e sd, e u]
  exact set_part _ _ _ 102 0 u (by simp [ints_len, hq, h1, h2]) (by simp)
theorem q_set (wd hi pt ev : Int) (qs : List Int) (t1 t2 : List Value) (sd : Value) (k : Nat) (z : Int) (h : k < qs.length) : (fileL wd hi pt qs t1 t2 ev sd).toArray.setIfInBounds (3 + k) (.int .i64 z) = (fileL wd hi pt (qs.set k z) t1 t2 ev sd).toArray := by
  rw [cells_q, cells_q, set_part _ _ _ 3 k _ rfl (by rw [ints_len]; exact h)]
  unfold ints
  rw [List.map_set]
theorem tblP_one (cs : List Int) (A : Option Addr) (k c : Nat) : ∀ v ∈ tblL cs (.slice A k c), v.oneCell' = true := by
  intro v hv
  unfold tblL at hv
  rcases List.mem_append.1 hv with hv | hv
  · exact ints_one_mem _ v hv
  · simp at hv; subst hv; rfl
theorem sizeRd : (Try.prog.info? 83).map (·.size) = some 2 := by kernel_rfl
theorem fileOne (F : FC) (A B C : Option Addr) (a b c d e f : Nat) : (F.cells (.slice A a b) (.slice B c d) (.slice C e f)).all (·.oneCell') = true := by
  unfold FC.cells fileL
  rw [List.all_toArray, List.all_eq_true]
  intro v hv
  simp only [List.mem_append] at hv
  rcases hv with (((hv | hv) | hv) | hv) | hv
  · exact ints_one_mem _ v hv
  · exact ints_one_mem _ v hv
  · exact tblP_one _ _ _ _ v hv
  · exact tblP_one _ _ _ _ v hv
  · simp at hv; rcases hv with rfl | rfl <;> rfl
theorem zFile_one : zFile.all (·.oneCell') = true := fileOne _ _ _ _ _ _ _ _ _ _
set_option maxRecDepth 20000 in
set_option maxHeartbeats 2000000 in
theorem parse_large (A : Option Addr) (n c : Nat) (bs : List Nat) (w : World) (hn : bs.length = n) (hl : 91000 < n) :
    Calls Try.prog 14 #[.slice A n c] w (FpIs (parseZ bs) w) := by
  have HZ : Hid (parseZ bs = (FC.zero, 2)) := hid_ (by unfold parseZ; rw [if_pos (by omega)])
  have HE := hid_ (fun W (h : Ext w W) => FpIs.err HZ.out h)
  have hzs := hid_ zFile_size
  have hzo := hid_ zFile_one
  have hz0 := zeroFileV
  have hbf := hid_ built0F
  generalize zFile = zf at *
  generalize parseZ bs = pz at *
  clear HZ hn
  go_enter Try.func14, Try.ntmps14
  go_wp2_with (first
    | (show wpList _ _ _ (⟨some 2, _, _, _, _, _⟩ :: _) _ _; refine wpList_alloc_abs' rfl (some 2) rfl 45 rfl _ hz0 ?_; intro w1 g0 hb0 hx1 hg0)
    | (show wpList _ _ _ (⟨some 12, _, _, _, _, _⟩ :: _) _ _; refine wpList_build0_g (by rfl) 45 rfl _ hbf.out ?_)
    | (show wpList _ _ _ (⟨none, .store _ (.tmp 2) (.tmp 12), _, _, _, _⟩ :: _) _ _; refine wpList_store_blk rfl 45 (.tmp 2) (.tmp 12) rfl g0 zf rfl rfl hb0 103 sizeFile hzs.out hzs.out hzo.out ?_; intro w2 hb2 hg2))
  exact ret_cell_tmp rfl rfl g0 rfl hb2 _ Try.underlying45 rfl 103 sizeFile hzs.out (HE.out _ (hx1.grown hg2 hg0))
end Go.Proofs.Ytkfdkkhhkciocaa
