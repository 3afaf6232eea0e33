/- Contracts for the law FilePacks, part 9: what the functions that it reaches answer, for all arguments that the theorems name. -/
import Derived.Test.YtlepchdlkhogiaaMFilePacks8
import Derived.Test.YtlepchdlkhogiaaMFilePacks2
import Derived.Test.YtlepchdlkhogiaaMFilePacks1
import Derived.ProofKit
import Derived.OpenShut
import Derived.ChangeSlices
import Derived.Deep.SlicePairs
import Derived.Test.YtlepchdlkhogiaaRows
import Derived.JoinedCond
/- file.Pack and FilePack of the reference: one contract each, for all arguments. -/
namespace Go.Proofs.Ytlepchdlkhogiaa
set_option linter.unusedVariables false
set_option linter.unusedSimpArgs false
open Go.RowKit
def natsOf (zs : List Int) : List Nat := zs.map Int.toNat
theorem natI_toNat : ∀ (zs : List Int), (∀ z ∈ zs, 0 ≤ z) → natI (natsOf zs) = zs
  | [], _ => rfl
  | z :: zs, h => by
    have ih := natI_toNat zs (fun y hy => h y (by simp [hy]))
    have hz := h z (by simp)
    simp only [natI, natsOf, List.map_cons, List.map_map] at ih ⊢
    rw [ih]
    congr 1
    omega
theorem natsOf_lt {zs : List Int} {lo hi : Int} {N : Nat} (h : allIn zs lo hi = true) (h0 : 0 ≤ lo) (hN : hi < N) : ∀ n ∈ natsOf zs, n < N := by
  intro n hn
  obtain ⟨z, hz, rfl⟩ := List.mem_map.1 hn
  have := allIn_iff.1 h z hz
  omega
theorem natsOf_len (zs : List Int) : (natsOf zs).length = zs.length := by simp [natsOf]
def packE (wd hi pt ev : Int) (qs cs1 xs1 cs2 xs2 : List Int) (n : Nat) : Int := fcheckZ wd hi pt qs (checkZ cs1 xs1) (checkZ cs2 xs2) ev n
def packL (wd hi pt ev : Int) (qs cs1 xs1 cs2 xs2 : List Int) (bs : List Nat) : List Nat :=
  if packE wd hi pt ev qs cs1 xs1 cs2 xs2 bs.length = 0 then packN wd.toNat hi.toNat pt.toNat ev.toNat (natsOf (zto qs)) (natsOf cs1) (natsOf xs1) (natsOf cs2) (natsOf xs2) bs else []
def PackIs (E : Int) (L : List Nat) (w : World) (e : Ending) (w' : World) : Prop := ∃ A c, e = .returned (.tuple #[.slice A L.length c, .int .i64 E]) ∧ SL w' 1 (.slice A L.length c) L.length (bytesV L) ∧ Ext w w'
theorem packE_zero {wd hi pt ev : Int} {qs cs1 xs1 cs2 xs2 : List Int} {n : Nat} (h : packE wd hi pt ev qs cs1 xs1 cs2 xs2 n = 0) : argsOK wd hi pt ev = true ∧ allIn qs 1 255 = true ∧ checkZ cs1 xs1 = 0 ∧ checkZ cs2 xs2 = 0 ∧ n ≤ 90000 := by
  unfold packE fcheckZ at h
  by_cases h1 : (argsOK wd hi pt ev && allIn qs 1 255) = true
  · rw [if_pos h1] at h
    rw [Bool.and_eq_true] at h1
    by_cases h2 : checkZ cs1 xs1 = 0
    · rw [if_pos h2] at h
      by_cases h3 : checkZ cs2 xs2 = 0
      · rw [if_pos h3] at h
        by_cases h4 : 90000 < n
        · rw [if_pos h4] at h; cases h
        · exact ⟨h1.1, h1.2, h2, h3, by omega⟩
      · rw [if_neg h3] at h; exact absurd h h3
    · rw [if_neg h2] at h; exact absurd h h2
  · rw [if_neg h1] at h; cases h
theorem check_ok {cs xs : List Int} (h : checkZ cs xs = 0) : allIn cs 0 256 = true ∧ allIn xs 0 255 = true ∧ xs.length ≤ 256 := by
  cases ht : totOK cs xs with
  | false => rw [checkZ_tot ht] at h; cases h
  | true =>
    obtain ⟨a, b, c⟩ := totOK_iff.1 ht
    cases hx : allIn xs 0 255 with
    | false => rw [checkZ_arg ht hx] at h; cases h
    | true => exact ⟨a, rfl, by omega⟩
theorem zto_in {qs : List Int} (hq : qs.length = 64) (h : allIn qs 1 255 = true) : allIn (zto qs) 1 255 = true := by
  refine allIn_iff.2 fun z hz => ?_
  unfold zto at hz
  obtain ⟨k, hk, rfl⟩ := List.mem_map.1 hz
  have hk' := List.mem_range.1 hk
  have hb := zigAt_bd k hk'
  have hlt : (zigAt k).toNat < qs.length := by omega
  rw [List.getD_eq_getElem?_getD, List.getElem?_eq_getElem hlt]
  exact allIn_iff.1 h _ (List.getElem_mem hlt)
set_option maxRecDepth 20000 in
set_option maxHeartbeats 1000000 in
theorem pack_bad (fv : Array Value) (E : Int) (h0 : E ≠ 0) (hfs : fv.size = 103) (w : World) (HC : ∀ W, Ext w W → Calls Try.prog 23 #[.agg fv] W fun e W' => e = .returned (.int .i64 E) ∧ Ext W W') :
    Calls Try.prog 20 #[.agg fv] w (PackIs E [] w) := by
  have HFS := hid_ hfs
  have HCK := hid_ HC
  have hE : (E != 0) = true := by simpa using h0
  clear hfs HC h0
  go_enter Try.func20, Try.ntmps20
  go_wp2_with (first
    | (refine wpList_box_abs rfl 50 (.tmp 0) rfl fv rfl ?_; intro w1 g hb1 hx1 hg)
    | (refine wpList_load_blk rfl 50 (.tmp 1) rfl _ rfl hb1 _ Try.underlying50 rfl 103 sizeFile HFS.out ?_)
    | (go_at_call 23; (with_reducible refine (HCK.out _ hx1).mono ?_); rintro e w2 ⟨rfl, hx2⟩))
  go_ret2
  exact ⟨none, 0, rfl, SL.nil _ _, hx1.trans hx2⟩
theorem pack_any (wd hi pt ev : Int) (qs cs1 xs1 : List Int) (s1 : Value) (cs2 xs2 : List Int) (s2 : Value) (bs : List Nat) (sd : Value) (w : World) (hq : qs.length = 64) (h1 : cs1.length = 16) (h2 : cs2.length = 16)
    (hs1 : SL w 1 s1 xs1.length (ints xs1)) (hs2 : SL w 1 s2 xs2.length (ints xs2)) (hsd : SL w 1 sd bs.length (bytesV bs)) :
    Calls Try.prog 20 #[.agg (fileL wd hi pt qs (tblL cs1 s1) (tblL cs2 s2) ev sd).toArray] w (PackIs (packE wd hi pt ev qs cs1 xs1 cs2 xs2 bs.length) (packL wd hi pt ev qs cs1 xs1 cs2 xs2 bs) w) := by
  have HC : ∀ W, Ext w W → Calls Try.prog 23 #[.agg (fileL wd hi pt qs (tblL cs1 s1) (tblL cs2 s2) ev sd).toArray] W fun e W' => e = .returned (.int .i64 (packE wd hi pt ev qs cs1 xs1 cs2 xs2 bs.length)) ∧ Ext W W' :=
    fun W hW => fcheck_any wd hi pt ev qs cs1 xs1 s1 cs2 xs2 s2 bs sd W hq h1 h2 (hs1.ext hW) (hs2.ext hW) (hsd.ext hW)
  have l1 := tblL_len cs1 s1 h1
  have l2 := tblL_len cs2 s2 h2
  by_cases hE : packE wd hi pt ev qs cs1 xs1 cs2 xs2 bs.length = 0
  · obtain ⟨ha, kq, z1, z2, hb⟩ := packE_zero hE
    obtain ⟨k1, k2, k3, hp⟩ := argsOK_iff ha
    have k1 := inB_iff.1 k1
    have k2 := inB_iff.1 k2
    have k3 := inB_iff.1 k3
    obtain ⟨a1, b1, c1⟩ := check_ok z1
    obtain ⟨a2, b2, c2⟩ := check_ok z2
    have o1 := tblL_one cs1 s1 (let ⟨A, c, h, _⟩ := hs1; ⟨A, _, c, h⟩)
    have o2 := tblL_one cs2 s2 (let ⟨A, c, h, _⟩ := hs2; ⟨A, _, c, h⟩)
    obtain ⟨A0, c0, rfl, -⟩ := id hsd
    obtain ⟨wd, rfl⟩ := Int.eq_ofNat_of_zero_le (show 0 ≤ wd by omega)
    obtain ⟨hi, rfl⟩ := Int.eq_ofNat_of_zero_le (show 0 ≤ hi by omega)
    obtain ⟨pt, rfl⟩ := Int.eq_ofNat_of_zero_le (show 0 ≤ pt by omega)
    obtain ⟨ev, rfl⟩ := Int.eq_ofNat_of_zero_le (show 0 ≤ ev by omega)
    have e1 := natI_toNat cs1 (fun z hz => (allIn_iff.1 a1 z hz).1)
    have e2 := natI_toNat cs2 (fun z hz => (allIn_iff.1 a2 z hz).1)
    have e3 := natI_toNat xs1 (fun z hz => (allIn_iff.1 b1 z hz).1)
    have e4 := natI_toNat xs2 (fun z hz => (allIn_iff.1 b2 z hz).1)
    have hzi := zto_in hq kq
    have e5 := natI_toNat (zto qs) (fun z hz => by have := (allIn_iff.1 hzi z hz).1; omega)
    have hL : packL (wd : Int) hi pt ev qs cs1 xs1 cs2 xs2 bs = packN wd hi pt ev (natsOf (zto qs)) (natsOf cs1) (natsOf xs1) (natsOf cs2) (natsOf xs2) bs := by unfold packL; rw [if_pos hE]; rfl
    rw [hE] at HC ⊢
    rw [hL]
    have key := pack_good wd hi pt ev qs (natsOf (zto qs)) (natsOf cs1) (natsOf xs1) (natsOf cs2) (natsOf xs2) s1 s2 bs A0 c0 w hq e5.symm (natsOf_lt hzi (by decide) (by decide)) (by omega) (by omega) (by omega) (by omega)
      (by rw [natsOf_len]; exact h1) (by rw [natsOf_len]; exact h2) (fun n hn => by have := natsOf_lt (N := 257) a1 (by decide) (by decide) n hn; omega) (fun n hn => by have := natsOf_lt (N := 257) a2 (by decide) (by decide) n hn; omega)
      (natsOf_lt b1 (by decide) (by decide)) (natsOf_lt b2 (by decide) (by decide)) (by rw [natsOf_len]; exact c1) (by rw [natsOf_len]; exact c2)
      (by rw [natsOf_len, e3]; exact hs1) (by rw [natsOf_len, e4]; exact hs2) hsd hb (by rw [e1]; exact o1) (by rw [e2]; exact o2)
    rw [e1, e2] at key
    refine (key HC).mono ?_
    rintro e w' ⟨A, n, c, rfl, rfl, hs, hx⟩
    exact ⟨A, c, rfl, hs, hx⟩
  · have hL : packL wd hi pt ev qs cs1 xs1 cs2 xs2 bs = [] := by unfold packL; rw [if_neg hE]
    rw [hL]
    exact pack_bad _ _ hE (fileL_len wd hi pt qs (tblL cs1 s1) (tblL cs2 s2) ev sd hq l1 l2) w HC
set_option maxRecDepth 20000 in
set_option maxHeartbeats 1000000 in
theorem rpack_bad (fv : Array Value) (E : Int) (h0 : E ≠ 0) (hfs : fv.size = 103) (w : World) (HC : ∀ W, Ext w W → Calls Try.prog 43 #[.agg fv] W fun e W' => e = .returned (.int .i64 E) ∧ Ext W W') :
    Calls Try.prog 21 #[.agg fv] w (PackIs E [] w) := by
  have HFS := hid_ hfs
  have HCK := hid_ HC
  have hE : (E != 0) = true := by simpa using h0
  clear hfs HC h0
  go_enter Try.func21, Try.ntmps21
  go_wp2_with (first
    | (refine wpList_box_abs rfl 50 (.tmp 0) rfl fv rfl ?_; intro w1 g hb1 hx1 hg)
    | (refine wpList_load_blk rfl 50 (.tmp 1) rfl _ rfl hb1 _ Try.underlying50 rfl 103 sizeFile HFS.out ?_)
    | (go_at_call 43; (with_reducible refine (HCK.out _ hx1).mono ?_); rintro e w2 ⟨rfl, hx2⟩))
  go_ret2
  exact ⟨none, 0, rfl, SL.nil _ _, hx1.trans hx2⟩
theorem rpack_any (wd hi pt ev : Int) (qs cs1 xs1 : List Int) (s1 : Value) (cs2 xs2 : List Int) (s2 : Value) (bs : List Nat) (sd : Value) (w : World) (hq : qs.length = 64) (h1 : cs1.length = 16) (h2 : cs2.length = 16)
    (hs1 : SL w 1 s1 xs1.length (ints xs1)) (hs2 : SL w 1 s2 xs2.length (ints xs2)) (hsd : SL w 1 sd bs.length (bytesV bs)) :
    Calls Try.prog 21 #[.agg (fileL wd hi pt qs (tblL cs1 s1) (tblL cs2 s2) ev sd).toArray] w (PackIs (packE wd hi pt ev qs cs1 xs1 cs2 xs2 bs.length) (packL wd hi pt ev qs cs1 xs1 cs2 xs2 bs) w) := by
  have HC : ∀ W, Ext w W → Calls Try.prog 43 #[.agg (fileL wd hi pt qs (tblL cs1 s1) (tblL cs2 s2) ev sd).toArray] W fun e W' => e = .returned (.int .i64 (packE wd hi pt ev qs cs1 xs1 cs2 xs2 bs.length)) ∧ Ext W W' :=
    fun W hW => rfcheck_any wd hi pt ev qs cs1 xs1 s1 cs2 xs2 s2 bs sd W hq h1 h2 (hs1.ext hW) (hs2.ext hW) (hsd.ext hW)
  have l1 := tblL_len cs1 s1 h1
  have l2 := tblL_len cs2 s2 h2
  by_cases hE : packE wd hi pt ev qs cs1 xs1 cs2 xs2 bs.length = 0
  · obtain ⟨ha, kq, z1, z2, hb⟩ := packE_zero hE
    obtain ⟨k1, k2, k3, hp⟩ := argsOK_iff ha
    have k1 := inB_iff.1 k1
    have k2 := inB_iff.1 k2
    have k3 := inB_iff.1 k3
    obtain ⟨a1, b1, c1⟩ := check_ok z1
    obtain ⟨a2, b2, c2⟩ := check_ok z2
    have o1 := tblL_one cs1 s1 (let ⟨A, c, h, _⟩ := hs1; ⟨A, _, c, h⟩)
    have o2 := tblL_one cs2 s2 (let ⟨A, c, h, _⟩ := hs2; ⟨A, _, c, h⟩)
    obtain ⟨A0, c0, rfl, -⟩ := id hsd
    obtain ⟨wd, rfl⟩ := Int.eq_ofNat_of_zero_le (show 0 ≤ wd by omega)
    obtain ⟨hi, rfl⟩ := Int.eq_ofNat_of_zero_le (show 0 ≤ hi by omega)
    obtain ⟨pt, rfl⟩ := Int.eq_ofNat_of_zero_le (show 0 ≤ pt by omega)
    obtain ⟨ev, rfl⟩ := Int.eq_ofNat_of_zero_le (show 0 ≤ ev by omega)
    have e1 := natI_toNat cs1 (fun z hz => (allIn_iff.1 a1 z hz).1)
    have e2 := natI_toNat cs2 (fun z hz => (allIn_iff.1 a2 z hz).1)
    have e3 := natI_toNat xs1 (fun z hz => (allIn_iff.1 b1 z hz).1)
    have e4 := natI_toNat xs2 (fun z hz => (allIn_iff.1 b2 z hz).1)
    have hzi := zto_in hq kq
    have e5 := natI_toNat (zto qs) (fun z hz => by have := (allIn_iff.1 hzi z hz).1; omega)
    have hL : packL (wd : Int) hi pt ev qs cs1 xs1 cs2 xs2 bs = packN wd hi pt ev (natsOf (zto qs)) (natsOf cs1) (natsOf xs1) (natsOf cs2) (natsOf xs2) bs := by unfold packL; rw [if_pos hE]; rfl
    rw [hE] at HC ⊢
    rw [hL]
    have key := rpack_good wd hi pt ev qs (natsOf (zto qs)) (natsOf cs1) (natsOf xs1) (natsOf cs2) (natsOf xs2) s1 s2 bs A0 c0 w hq e5.symm (natsOf_lt hzi (by decide) (by decide)) (by omega) (by omega) (by omega) (by omega)
      (by rw [natsOf_len]; exact h1) (by rw [natsOf_len]; exact h2) (fun n hn => by have := natsOf_lt (N := 257) a1 (by decide) (by decide) n hn; omega) (fun n hn => by have := natsOf_lt (N := 257) a2 (by decide) (by decide) n hn; omega)
      (natsOf_lt b1 (by decide) (by decide)) (natsOf_lt b2 (by decide) (by decide)) (by rw [natsOf_len]; exact c1) (by rw [natsOf_len]; exact c2)
      (by rw [natsOf_len, e3]; exact hs1) (by rw [natsOf_len, e4]; exact hs2) hsd hb (by rw [e1]; exact o1) (by rw [e2]; exact o2)
    rw [e1, e2] at key
    refine (key HC).mono ?_
    rintro e w' ⟨A, n, c, rfl, rfl, hs, hx⟩
    exact ⟨A, c, rfl, hs, hx⟩
  · have hL : packL wd hi pt ev qs cs1 xs1 cs2 xs2 bs = [] := by unfold packL; rw [if_neg hE]
    rw [hL]
    exact rpack_bad _ _ hE (fileL_len wd hi pt qs (tblL cs1 s1) (tblL cs2 s2) ev sd hq l1 l2) w HC
end Go.Proofs.Ytlepchdlkhogiaa
/- Eq of bytes. -/
namespace Go.Proofs.Ytlepchdlkhogiaa
set_option linter.unusedVariables false
set_option linter.unusedSimpArgs false
open Go.RowKit
/-- Eq of bytes -/
theorem bytesV_at (l : List Nat) (k : Nat) (u : Value) (h : (bytesV l)[k]? = some u) : ∃ hk : k < l.length, u = .int .u8 (l[k] : Int) := by
  unfold bytesV at h
  rw [List.getElem?_map] at h
  obtain ⟨z, hz, rfl⟩ := Option.map_eq_some_iff.1 h
  obtain ⟨hk, e⟩ := List.getElem?_eq_some_iff.1 hz
  exact ⟨hk, by rw [e]⟩
set_option maxHeartbeats 400000 in
theorem eqByte_same (u v : Value) (xs : List Nat) (w : World) (hu : SL w 1 u xs.length (bytesV xs)) (hv : SL w 1 v xs.length (bytesV xs)) :
    Calls Try.prog 22 #[u, v] w fun e w' => e = .returned (.bool true) ∧ w = w' := by
  have hu' := hu
  have hv' := hv
  obtain ⟨A, c, rfl, hc1, hc2, -, -⟩ := hu'
  obtain ⟨B, d, rfl, hd1, hd2, -, -⟩ := hv'
  go_enter Try.func22, Try.ntmps22
  go_wp2_with fail
  go_loop [14] (fun i => ∃ k : Nat, k ≤ xs.length ∧ i = .int .i64 k) (fun i => xs.length - (intOf i).toNat)
  case atStart => exact ⟨0, by omega, rfl⟩
  case round =>
    obtain ⟨k, hk, rfl⟩ := hrel
    by_cases hlt : k < xs.length
    · obtain ⟨ad, u, rfl, -, hx, hcell⟩ := hu.at1 hlt
      obtain ⟨_, rfl⟩ := bytesV_at _ _ _ hx
      obtain ⟨bd, u, rfl, -, hy, hcell2⟩ := hv.at1 hlt
      obtain ⟨_, rfl⟩ := bytesV_at _ _ _ hy
      clear hx hy
      generalize xs[k] = x at *
      go_wp2_with fail
      go_round
      case rel => exact ⟨k + 1, by omega, by go_num⟩
      case measure => simp [intOf]; omega
    · go_wp2_with fail
      go_ret
      exact ⟨rfl, rfl⟩
set_option maxHeartbeats 400000 in
theorem eqByte_any (u v : Value) (xs ys : List Nat) (w : World) (hu : SL w 1 u xs.length (bytesV xs)) (hv : SL w 1 v ys.length (bytesV ys)) :
    Calls Try.prog 22 #[u, v] w fun e w' => e = .returned (.bool (decide (xs = ys))) ∧ w = w' := by
  have hu' := hu
  have hv' := hv
  obtain ⟨A, c, rfl, hc1, hc2, -, -⟩ := hu'
  obtain ⟨B, d, rfl, hd1, hd2, -, -⟩ := hv'
  by_cases hl : (xs.length : Int) != ys.length
  · go_enter Try.func22, Try.ntmps22
    go_wp2
    go_ret
    refine ⟨?_, rfl⟩
    have : xs ≠ ys := by rintro rfl; simp at hl
    simp [this]
  · have h9 : (xs.length : Int) = ys.length := by simpa using hl
    have hl' : xs.length = ys.length := by omega
    clear h9
    have HL := hl'
    have hn : ((xs.length : Int) != ys.length) = false := by simpa using hl
    have HE : Hid (xs.length = ys.length) := HL
    clear hl HL
    go_enter Try.func22, Try.ntmps22
    clear hl'
    go_wp2
    go_loop [14] (fun i => ∃ k : Nat, k ≤ xs.length ∧ i = .int .i64 k ∧ xs.take k = ys.take k) (fun i => xs.length - (intOf i).toNat)
    case atStart => exact ⟨0, by omega, rfl, by simp⟩
    case round =>
      obtain ⟨k, hk, rfl, ht⟩ := hrel
      have HT : Hid (xs.take k = ys.take k) := ht
      clear ht
      by_cases hlt : k < xs.length
      · have hlt2 : k < ys.length := by have := HE.out; omega
        obtain ⟨ad, u, rfl, -, hx, hcell⟩ := hu.at1 hlt
        obtain ⟨_, rfl⟩ := bytesV_at _ _ _ hx
        obtain ⟨bd, u, rfl, -, hy, hcell2⟩ := hv.at1 hlt2
        obtain ⟨_, rfl⟩ := bytesV_at _ _ _ hy
        clear hx hy
        by_cases hq : xs[k] = ys[k]
        · have hq' : ((xs[k] : Nat) != ys[k]) = false := by simpa using hq
          have HQ : Hid (xs[k] = ys[k]) := hq
          clear hq
          go_wp2
          go_round
          case rel => exact ⟨k + 1, by omega, by go_num, (take_succ_iff _ _ _ hlt hlt2).2 ⟨HT.out, HQ.out⟩⟩
          case measure => simp [intOf]; omega
        · have hq' : ((xs[k] : Nat) != ys[k]) = true := by simpa using hq
          go_wp2
          go_ret
          refine ⟨?_, rfl⟩
          have : xs ≠ ys := by rintro rfl; exact hq rfl
          simp [this]
      · go_wp2
        go_ret
        refine ⟨?_, rfl⟩
        have e : xs = ys := by
          have := HT.out
          rwa [List.take_of_length_le (by omega), List.take_of_length_le (by have := HE.out; omega)] at this
        simp [e]
end Go.Proofs.Ytlepchdlkhogiaa
/- The law FilePacks, walked. -/
namespace Go.Proofs.Ytlepchdlkhogiaa.filePacks
set_option linter.unusedVariables false
set_option linter.unusedSimpArgs false
open Go.RowKit
set_option maxRecDepth 20000 in
set_option maxHeartbeats 1000000 in
theorem walk (wd hi pt ev : Int) (qs cs1 xs1 : List Int) (s1 : Value) (cs2 xs2 : List Int) (s2 : Value) (bs : List Nat) (sd : Value) (hq : qs.length = 64) (h1 : cs1.length = 16) (h2 : cs2.length = 16) (w : World)
    (hs1 : SL w 1 s1 xs1.length (ints xs1)) (hs2 : SL w 1 s2 xs2.length (ints xs2)) (hsd : SL w 1 sd bs.length (bytesV bs)) :
    Calls Try.prog 6 #[.agg (fileL wd hi pt qs (tblL cs1 s1) (tblL cs2 s2) ev sd).toArray] w fun e w' => e = .returned (.bool true) ∧ Ext w w' := by
  have H1 := hid_ (fun W hW => pack_any wd hi pt ev qs cs1 xs1 s1 cs2 xs2 s2 bs sd W hq h1 h2 (hs1.ext hW) (hs2.ext hW) (hsd.ext hW))
  have H2 := hid_ (fun W hW => rpack_any wd hi pt ev qs cs1 xs1 s1 cs2 xs2 s2 bs sd W hq h1 h2 (hs1.ext hW) (hs2.ext hW) (hsd.ext hW))
  have hfs := hid_ (fileL_len wd hi pt qs (tblL cs1 s1) (tblL cs2 s2) ev sd hq (tblL_len cs1 s1 h1) (tblL_len cs2 s2 h2))
  obtain ⟨fz, hbt, HZ⟩ := builtFile
  have HBT := hid_ hbt
  have HCZ := hid_ HZ
  unfold PackIs at H1 H2
  generalize (fileL wd hi pt qs (tblL cs1 s1) (tblL cs2 s2) ev sd).toArray = fv at *
  generalize packE wd hi pt ev qs cs1 xs1 cs2 xs2 bs.length = E at *
  generalize packL wd hi pt ev qs cs1 xs1 cs2 xs2 bs = L at *
  have HE := hid_ (fun W u v (a : SL W 1 u L.length (bytesV L)) (b : SL W 1 v L.length (bytesV L)) => eqByte_same u v L W a b)
  clear hbt HZ hq h1 h2
  go_enter Try.func6, Try.ntmps6
  go_wp2_with (first
    | (refine wpList_box_abs rfl 50 (.tmp 0) rfl fv rfl ?_; intro w1 g hb1 hx1 hg)
    | (refine wpList_load_blk rfl 50 (.tmp 1) rfl _ rfl hb1 _ Try.underlying50 rfl 103 sizeFile hfs.out ?_)
    | (go_at_call 20; (with_reducible refine (H1.out _ hx1).mono ?_); rintro e w2 ⟨A, c, rfl, hp2, hx2⟩; have hb2 := hb1.ext hx2; have hx12 := hx1.trans hx2)
    | (refine wpList_load_blk rfl 50 (.tmp 1) rfl _ rfl hb2 _ Try.underlying50 rfl 103 sizeFile hfs.out ?_)
    | (go_at_call 21; (with_reducible refine (H2.out _ hx12).mono ?_); rintro e w3 ⟨B, d, rfl, hp3, hx3⟩; have hp23 := hp2.ext hx3)
    | (go_at_call 22; (with_reducible refine (HE.out _ _ _ hp23 hp3).mono ?_); rintro e w4 ⟨rfl, rfl⟩)
    | (refine wpList_build0_g (by rfl) 50 rfl _ HBT.out ?_)
    | (go_at_call 23; (with_reducible refine (HCZ.out _).mono ?_); rintro e w5 ⟨rfl, hx5⟩))
  go_ret
  exact ⟨rfl, (hx12.trans hx3).trans hx5⟩
end Go.Proofs.Ytlepchdlkhogiaa.filePacks
/- Arguments opened: what their reading says of their cells. -/
namespace Go.Proofs.Ytlepchdlkhogiaa
set_option linter.unusedVariables false
set_option linter.unusedSimpArgs false
open Go.RowKit Go.ChangeShapes Go.WideShapes Go.ChangeAt
def inI64 (z : Int) : Prop := -9223372036854775808 ≤ z ∧ z ≤ 9223372036854775807
theorem inI64_of_wf {z : Int} (h : (Lit.int .i64 z).wf = true) : inI64 z := by
  simp [Lit.wf, IntKind.min, IntKind.max, IntKind.signed, IntKind.bits] at h
  exact ⟨by omega, by omega⟩
theorem ints_of_cells {Q : Int → Prop} : ∀ (cs : List Value), (∀ i, i < cs.length → ∃ z, cs[i]? = some (.int .i64 z) ∧ Q z) → ∃ zs : List Int, cs = ints zs ∧ ∀ z ∈ zs, Q z
  | [], _ => ⟨[], rfl, by simp⟩
  | c :: cs, h => by
    obtain ⟨z, hz, hq⟩ := h 0 (by simp)
    obtain ⟨zs, rfl, hqs⟩ := ints_of_cells cs (fun i hi => by have := h (i + 1) (by simpa using hi); simpa using this)
    refine ⟨z :: zs, ?_, ?_⟩
    · simp at hz; subst hz; rfl
    · intro y hy
      cases hy with
      | head => exact hq
      | tail _ hy => exact hqs y hy
section
variable {H : Type} {enc : TypeId × Value → H} {P : Program} {w : World} {base : Nat} {spare : Nat → Bool} {held : Bool}
theorem trod_int_cell {t : TypeId} {fuel : Nat} {cs : List Value} {x : DataW H × List MemPlace} (ht : P.underlying t = some (.int .i64)) (h : DataW.trod enc P w base spare held fuel t cs = some x) :
    ∃ z, cs = [.int .i64 z] ∧ inI64 z := by
  obtain ⟨z, e, -, hw⟩ := DataW.trod_int ht h
  exact ⟨z, e, inI64_of_wf hw⟩
theorem trod_ints_arr {n : Nat} {t e : TypeId} {fuel : Nat} {cs : List Value} {x : DataW H × List MemPlace} (ht : P.underlying t = some (.array n e)) (he : P.underlying e = some (.int .i64)) (hce : P.cellsOf e = 1) (hct : P.cellsOf t = n)
    (h : DataW.trod enc P w base spare held fuel t cs = some x) : ∃ zs : List Int, zs.length = n ∧ cs = ints zs ∧ ∀ z ∈ zs, inI64 z := by
  obtain ⟨xs, m, -, -, hlen, hxl, hi⟩ := DataW.trod_array ht h
  rw [hct] at hlen
  have hcells : ∀ i, i < cs.length → ∃ z, cs[i]? = some (.int .i64 z) ∧ inI64 z := by
    intro i hlt
    have h1 := hi i (by omega)
    rw [hce, Nat.mul_one] at h1
    have hx : xs[i]? = some (xs[i]'(by omega)) := List.getElem?_eq_getElem (by omega)
    rw [hx] at h1
    obtain ⟨z, hz, hq⟩ := trod_int_cell he h1
    refine ⟨z, ?_, hq⟩
    rw [List.drop_eq_getElem_cons hlt] at hz
    simp only [List.take_succ_cons, List.take_zero, List.cons.injEq, and_true] at hz
    rw [List.getElem?_eq_getElem hlt, hz]
  obtain ⟨zs, rfl, hq⟩ := ints_of_cells cs hcells
  exact ⟨zs, by simpa [ints_len] using hlen, rfl, hq⟩
theorem okWide_array {P : Program} {w : World} {r : Reach} {base : Nat} {t e : TypeId} {n : Nat} {v : Value} (ht : P.underlying t = some (.array n e)) (h : Value.okWide P w r base t v) : ∃ cs, v = .agg cs ∧ cs.size = P.cellsOf t := by
  simp only [Value.okWide, ht] at h
  obtain ⟨cs, h1, h2, _⟩ := h
  exact ⟨cs, h1, h2⟩
theorem cells64 : Try.prog.cellsOf 31 = 64 := by kernel_rfl
theorem cellsInt : Try.prog.cellsOf 3 = 1 := by kernel_rfl
set_option maxRecDepth 8000 in
theorem open_block {w : World} {base b0 : Nat} {r : Reach} {v : Value} {d : DataW H} {p : List MemPlace} (hv : Value.okWide Try.prog w r b0 31 v) (h : DataW.Trod enc Try.prog w base spare held 31 v d p) :
    ∃ zs : List Int, v = .agg (ints zs).toArray ∧ zs.length = 64 ∧ ∀ z ∈ zs, inI64 z := by
  obtain ⟨cs, rfl, hsz⟩ := okWide_array Try.underlying31 hv
  obtain ⟨fuel, hf⟩ := h
  obtain ⟨zs, hl, hc, hq⟩ := trod_ints_arr Try.underlying31 Try.underlying3 cellsInt cells64 hf
  refine ⟨zs, ?_, hl, hq⟩
  have : cs.toList = ints zs := hc
  rw [← this]
end
end Go.Proofs.Ytlepchdlkhogiaa
/- Opening a parameter: a list of integers, a table. -/
namespace Go.Proofs.Ytlepchdlkhogiaa
set_option linter.unusedVariables false
set_option linter.unusedSimpArgs false
open Go.RowKit Go.ChangeShapes Go.WideShapes Go.ChangeAt
section
variable {H : Type} {enc : TypeId × Value → H} {w : World} {base : Nat} {spare : Nat → Bool} {held : Bool}
theorem open_intsX {fuel : Nat} {cs : List Value} {x : DataW H × List MemPlace} (h : DataW.trod enc Try.prog w base spare held fuel 22 cs = some x) :
    ∃ (zs : List Int) (v : Value), cs = [v] ∧ SL w 1 v zs.length (ints zs) ∧ ∀ z ∈ zs, inI64 z := by
  rcases open_ints Try.underlying22 Try.underlying3 cellsInt h with ⟨rfl, -⟩ | ⟨a, len, cap, zs, rfl, -, hlc, hcm, hzl, -, hcell, hwf⟩
  · exact ⟨[], _, rfl, SL.nil w 1, by simp⟩
  · have hlen : len ≤ zs.length := by rw [hzl]; split <;> omega
    refine ⟨zs.take len, _, rfl, ?_, fun z hz => inI64_of_wf (hwf z (List.mem_of_mem_take hz))⟩
    have hl : (zs.take len).length = len := by rw [List.length_take]; omega
    rw [hl]
    refine ⟨some a, cap, rfl, hlc, by unfold maxLen at hcm; omega, by rw [ints_len, hl]; omega, fun h0 => ⟨a, rfl, ?_, fun j u hu => ?_⟩⟩
    · have := hcell 0 (by omega)
      have h2 := World.block_lt_of_cell? w _ this
      rwa [block_of_add] at h2
    · obtain ⟨hj, rfl⟩ := ints_at _ _ _ hu
      have hj2 : j < len := by omega
      rw [hcell j (by omega)]
      simp [List.getD_eq_getElem?_getD, show j < zs.length by omega]
theorem cells16 : Try.prog.cellsOf 43 = 16 := by kernel_rfl
theorem cellsSl : Try.prog.cellsOf 22 = 1 := by kernel_rfl
theorem cellsTbl : Try.prog.cellsOf 45 = 17 := by kernel_rfl
set_option maxRecDepth 20000 in
theorem open_table {b0 : Nat} {r : Reach} {v : Value} {d : DataW H} {p : List MemPlace} (hv : Value.okWide Try.prog w r b0 45 v) (h : DataW.Trod enc Try.prog w base spare held 45 v d p) :
    ∃ (zs xs : List Int) (sl : Value), v = .agg (tblv zs sl) ∧ zs.length = 16 ∧ (∀ z ∈ zs, inI64 z) ∧ SL w 1 sl xs.length (ints xs) ∧ ∀ z ∈ xs, inI64 z := by
  obtain ⟨cs, rfl, hsz⟩ := okWide_struct Try.underlying45 hv
  obtain ⟨fuel, hf⟩ := h
  obtain ⟨y0, y1, n, -, hlen, h0, h1⟩ := trod_struct2 Try.underlying45 hf
  have hL : cs.toList.length = 17 := by rw [show cs.toList.length = cs.size by simp, hsz, cellsTbl]
  have hcs : (Value.agg cs).cells.toList = cs.toList := rfl
  rw [hcs] at h0 h1
  dsimp only at h0 h1
  obtain ⟨zs, hz, hc, hq⟩ := trod_ints_arr Try.underlying43 Try.underlying3 cellsInt cells16 h0
  obtain ⟨xs, sl, hs, hsl, hxq⟩ := open_intsX h1
  rw [cells16, List.drop_zero] at hc
  rw [cellsSl] at hs
  refine ⟨zs, xs, sl, ?_, hz, hq, hsl, hxq⟩
  have e2 : cs.toList.drop 16 = [sl] := by
    rw [← hs]
    rw [List.take_of_length_le (by rw [List.length_drop, hL]; omega)]
  have e : cs.toList = ints zs ++ [sl] := by
    rw [← hc, ← e2, List.take_append_drop]
  congr 1
  apply Array.ext'
  rw [e]
  simp [tblv]
end
end Go.Proofs.Ytlepchdlkhogiaa
/- Opening a parameter that is a slice. -/
namespace Go.Proofs.Ytlepchdlkhogiaa
set_option linter.unusedVariables false
set_option linter.unusedSimpArgs false
open Go.RowKit Go.ChangeShapes Go.WideShapes Go.ChangeAt
section
variable {H : Type} {enc : TypeId × Value → H} {w : World} {base : Nat} {spare : Nat → Bool} {held : Bool}
theorem slice_value {P : Program} {r : Reach} {b0 : Nat} {t e : TypeId} {v : Value} {u : Value} (ht : P.underlying t = some (.slice e)) (hv : Value.okWide P w r b0 t v) (hc : v.cells.toList = [u]) (hu : ∀ cs, u ≠ .agg cs) : v = u := by
  cases v with
  | agg cs =>
    simp [Value.okWide, ht, Cell.okWide, Cell.ok] at hv
  | _ => simpa [Value.cells] using hc
set_option maxRecDepth 20000 in
theorem open_ints_v {b0 : Nat} {r : Reach} {v : Value} {d : DataW H} {p : List MemPlace} (hv : Value.okWide Try.prog w r b0 22 v) (h : DataW.Trod enc Try.prog w base spare held 22 v d p) :
    ∃ zs : List Int, SL w 1 v zs.length (ints zs) ∧ ∀ z ∈ zs, inI64 z := by
  obtain ⟨fuel, hf⟩ := h
  obtain ⟨zs, u, hcs, hs, hz⟩ := open_intsX hf
  have : v = u := slice_value Try.underlying22 hv hcs (by obtain ⟨A, c, rfl, -⟩ := hs; simp)
  subst this
  exact ⟨zs, hs, hz⟩
theorem bytes_of (zs : List Int) (h : ∀ n ∈ zs, (Lit.int .u8 n).wf = true) : ∃ bs : List Nat, zs.map (Value.int .u8) = bytesV bs ∧ ∀ b ∈ bs, b < 256 := by
  refine ⟨zs.map Int.toNat, ?_, ?_⟩
  · unfold bytesV
    rw [List.map_map]
    apply List.map_congr_left
    intro z hz
    have := h z hz
    simp [Lit.wf, IntKind.min, IntKind.max, IntKind.signed, IntKind.bits] at this
    simp; omega
  · intro b hb
    obtain ⟨z, hz, rfl⟩ := List.mem_map.1 hb
    have := h z hz
    simp [Lit.wf, IntKind.min, IntKind.max, IntKind.signed, IntKind.bits] at this
    omega
set_option maxRecDepth 20000 in
theorem open_bytes_v {b0 : Nat} {r : Reach} {v : Value} {d : DataW H} {p : List MemPlace} (hv : Value.okWide Try.prog w r b0 48 v) (h : DataW.Trod enc Try.prog w base spare held 48 v d p) :
    ∃ bs : List Nat, SL w 1 v bs.length (bytesV bs) ∧ ∀ b ∈ bs, b < 256 := by
  obtain ⟨fuel, hf⟩ := h
  rcases open_ints Try.underlying48 Try.underlying5 (by kernel_rfl) hf with ⟨hcs, -⟩ | ⟨a, len, cap, zs, hcs, -, hlc, hcm, hzl, -, hcell, hwf⟩
  · obtain rfl := slice_value Try.underlying48 hv hcs (by simp)
    exact ⟨[], SL.nil w 1, by simp⟩
  · obtain rfl := slice_value Try.underlying48 hv hcs (by simp)
    have hlen : len ≤ zs.length := by rw [hzl]; split <;> omega
    obtain ⟨bs, hbs, hlt⟩ := bytes_of (zs.take len) (fun n hn => hwf n (List.mem_of_mem_take hn))
    have hl : bs.length = len := by
      have := congrArg List.length hbs
      simp [bytesV] at this
      omega
    refine ⟨bs, ?_, hlt⟩
    rw [hl]
    refine ⟨some a, cap, rfl, hlc, by unfold maxLen at hcm; omega, by rw [bytesV_len, hl]; omega, fun h0 => ⟨a, rfl, ?_, fun j u hu => ?_⟩⟩
    · have := hcell 0 (by omega)
      have h2 := World.block_lt_of_cell? w _ this
      rwa [block_of_add] at h2
    · rw [← hbs, List.getElem?_map] at hu
      obtain ⟨z, hz, rfl⟩ := Option.map_eq_some_iff.1 hu
      have hj : j < len := by have := (List.getElem?_eq_some_iff.1 hz).1; simp at this; omega
      rw [List.getElem?_take_of_lt hj] at hz
      rw [hcell j (by omega)]
      simp [List.getD_eq_getElem?_getD, hz]
end
end Go.Proofs.Ytlepchdlkhogiaa
/- Opening a parameter that is a file. -/
namespace Go.Proofs.Ytlepchdlkhogiaa
set_option linter.unusedVariables false
set_option linter.unusedSimpArgs false
open Go.RowKit Go.ChangeShapes Go.WideShapes Go.ChangeAt
section
variable {H : Type} {enc : TypeId × Value → H} {w : World} {base : Nat} {spare : Nat → Bool} {held : Bool}
theorem trod_struct7 {P : Program} {t : TypeId} {f0 f1 f2 f3 f4 f5 f6 : Field} {fuel : Nat} {cs : List Value} {x : DataW H × List MemPlace} (ht : P.underlying t = some (.struct #[f0, f1, f2, f3, f4, f5, f6])) (h : DataW.trod enc P w base spare held fuel t cs = some x) :
    ∃ y0 y1 y2 y3 y4 y5 y6 n, cs.length = P.cellsOf t ∧ DataW.trod enc P w base spare held n f0.type ((cs.drop f0.offset).take (P.cellsOf f0.type)) = some y0 ∧
      DataW.trod enc P w base spare held n f1.type ((cs.drop f1.offset).take (P.cellsOf f1.type)) = some y1 ∧ DataW.trod enc P w base spare held n f2.type ((cs.drop f2.offset).take (P.cellsOf f2.type)) = some y2 ∧
      DataW.trod enc P w base spare held n f3.type ((cs.drop f3.offset).take (P.cellsOf f3.type)) = some y3 ∧ DataW.trod enc P w base spare held n f4.type ((cs.drop f4.offset).take (P.cellsOf f4.type)) = some y4 ∧
      DataW.trod enc P w base spare held n f5.type ((cs.drop f5.offset).take (P.cellsOf f5.type)) = some y5 ∧ DataW.trod enc P w base spare held n f6.type ((cs.drop f6.offset).take (P.cellsOf f6.type)) = some y6 := by
  obtain ⟨xs, n, _, rfl, hl, hlen, hf⟩ := DataW.trod_struct ht h
  match xs, hlen with
  | [y0, y1, y2, y3, y4, y5, y6], _ => exact ⟨y0, y1, y2, y3, y4, y5, y6, n, hl, by simpa using hf 0 f0 rfl, by simpa using hf 1 f1 rfl, by simpa using hf 2 f2 rfl, by simpa using hf 3 f3 rfl, by simpa using hf 4 f4 rfl, by simpa using hf 5 f5 rfl, by simpa using hf 6 f6 rfl⟩
theorem cellsTbls : Try.prog.cellsOf 47 = 34 := by kernel_rfl
theorem cellsFile : Try.prog.cellsOf 50 = 103 := by kernel_rfl
theorem cellsBy : Try.prog.cellsOf 48 = 1 := by kernel_rfl
theorem open_tableX {fuel : Nat} {cs : List Value} {x : DataW H × List MemPlace} (hL : cs.length = 17) (hf : DataW.trod enc Try.prog w base spare held fuel 45 cs = some x) :
    ∃ (zs xs : List Int) (sl : Value), cs = tblL zs sl ∧ zs.length = 16 ∧ SL w 1 sl xs.length (ints xs) := by
  obtain ⟨y0, y1, n, -, hlen, h0, h1⟩ := trod_struct2 Try.underlying45 hf
  dsimp only at h0 h1
  obtain ⟨zs, hz, hc, hq⟩ := trod_ints_arr Try.underlying43 Try.underlying3 cellsInt cells16 h0
  obtain ⟨xs, sl, hs, hsl, hxq⟩ := open_intsX h1
  rw [cells16, List.drop_zero] at hc
  rw [cellsSl] at hs
  refine ⟨zs, xs, sl, ?_, hz, hsl⟩
  have e2 : cs.drop 16 = [sl] := by
    rw [← hs]
    rw [List.take_of_length_le (by rw [List.length_drop, hL]; omega)]
  unfold tblL
  rw [← hc, ← e2, List.take_append_drop]
theorem open_bytesX {fuel : Nat} {cs : List Value} {x : DataW H × List MemPlace} (hf : DataW.trod enc Try.prog w base spare held fuel 48 cs = some x) :
    ∃ (v : Value) (bs : List Nat), cs = [v] ∧ SL w 1 v bs.length (bytesV bs) := by
  rcases open_ints Try.underlying48 Try.underlying5 (by kernel_rfl) hf with ⟨rfl, -⟩ | ⟨a, len, cap, zs, rfl, -, hlc, hcm, hzl, -, hcell, hwf⟩
  · exact ⟨_, [], rfl, SL.nil w 1⟩
  · have hlen : len ≤ zs.length := by rw [hzl]; split <;> omega
    obtain ⟨bs, hbs, hlt⟩ := bytes_of (zs.take len) (fun n hn => hwf n (List.mem_of_mem_take hn))
    have hl : bs.length = len := by
      have := congrArg List.length hbs
      simp [bytesV] at this
      omega
    refine ⟨_, bs, rfl, ?_⟩
    rw [hl]
    refine ⟨some a, cap, rfl, hlc, by unfold maxLen at hcm; omega, by rw [bytesV_len, hl]; omega, fun h0 => ⟨a, rfl, ?_, fun j u hu => ?_⟩⟩
    · have := hcell 0 (by omega)
      have h2 := World.block_lt_of_cell? w _ this
      rwa [block_of_add] at h2
    · rw [← hbs, List.getElem?_map] at hu
      obtain ⟨z, hz, rfl⟩ := Option.map_eq_some_iff.1 hu
      have hj : j < len := by have := (List.getElem?_eq_some_iff.1 hz).1; simp at this; omega
      rw [List.getElem?_take_of_lt hj] at hz
      rw [hcell j (by omega)]
      simp [List.getD_eq_getElem?_getD, hz]
theorem one_at {cs : List Value} {i : Nat} {v : Value} (h : (cs.drop i).take 1 = [v]) : cs[i]? = some v := by
  have := congrArg (·[0]?) h
  simpa using this
theorem parts_of (cs : List Value) (hL : cs.length = 103) {a b c e f : Value} {q t1 t2 : List Value} (h0 : (cs.drop 0).take 1 = [a]) (h1 : (cs.drop 1).take 1 = [b]) (h2 : (cs.drop 2).take 1 = [c]) (h3 : (cs.drop 3).take 64 = q)
    (h4 : (cs.drop 67).take 17 = t1) (h5 : (cs.drop 84).take 17 = t2) (h6 : (cs.drop 101).take 1 = [e]) (h7 : (cs.drop 102).take 1 = [f]) : cs = [a, b, c] ++ q ++ t1 ++ t2 ++ [e, f] := by
  have k7 : cs.drop 102 = [f] := by rw [← h7, List.take_of_length_le (by rw [List.length_drop, hL]; omega)]
  have k6 : cs.drop 101 = [e, f] := by rw [← List.take_append_drop 1 (cs.drop 101), h6, List.drop_drop]; rw [k7]; rfl
  have k5 : cs.drop 84 = t2 ++ [e, f] := by rw [← List.take_append_drop 17 (cs.drop 84), h5, List.drop_drop]; rw [k6]
  have k4 : cs.drop 67 = t1 ++ (t2 ++ [e, f]) := by rw [← List.take_append_drop 17 (cs.drop 67), h4, List.drop_drop]; rw [k5]
  have k3 : cs.drop 3 = q ++ (t1 ++ (t2 ++ [e, f])) := by rw [← List.take_append_drop 64 (cs.drop 3), h3, List.drop_drop]; rw [k4]
  have k2 : cs.drop 2 = c :: (q ++ (t1 ++ (t2 ++ [e, f]))) := by rw [← List.take_append_drop 1 (cs.drop 2), h2, List.drop_drop]; rw [k3]; rfl
  have k1 : cs.drop 1 = b :: c :: (q ++ (t1 ++ (t2 ++ [e, f]))) := by rw [← List.take_append_drop 1 (cs.drop 1), h1, List.drop_drop]; rw [k2]; rfl
  rw [← List.take_append_drop 1 cs, k1, show cs.take 1 = [a] from h0]
  simp
set_option maxRecDepth 20000 in
theorem open_file {b0 : Nat} {r : Reach} {v : Value} {d : DataW H} {p : List MemPlace} (hv : Value.okWide Try.prog w r b0 50 v) (h : DataW.Trod enc Try.prog w base spare held 50 v d p) :
    ∃ (wd hi pt ev : Int) (qs cs1 xs1 : List Int) (s1 : Value) (cs2 xs2 : List Int) (s2 : Value) (bs : List Nat) (sd : Value), v = .agg (fileL wd hi pt qs (tblL cs1 s1) (tblL cs2 s2) ev sd).toArray ∧ qs.length = 64 ∧ cs1.length = 16 ∧ cs2.length = 16 ∧
      SL w 1 s1 xs1.length (ints xs1) ∧ SL w 1 s2 xs2.length (ints xs2) ∧ SL w 1 sd bs.length (bytesV bs) := by
  obtain ⟨cs, rfl, hsz⟩ := okWide_struct Try.underlying50 hv
  obtain ⟨fuel, hf⟩ := h
  obtain ⟨y0, y1, y2, y3, y4, y5, y6, n, hlen, h0, h1, h2, h3, h4, h5, h6⟩ := trod_struct7 Try.underlying50 hf
  have hL : cs.toList.length = 103 := by rw [show cs.toList.length = cs.size by simp, hsz, cellsFile]
  have hcs : (Value.agg cs).cells.toList = cs.toList := rfl
  rw [hcs] at h0 h1 h2 h3 h4 h5 h6
  dsimp only at h0 h1 h2 h3 h4 h5 h6
  rw [cellsInt] at h0 h1 h2 h5
  rw [cells64] at h3
  rw [cellsTbls] at h4
  rw [cellsBy] at h6
  obtain ⟨wd, e0, -⟩ := trod_int_cell Try.underlying3 h0
  obtain ⟨hi, e1, -⟩ := trod_int_cell Try.underlying3 h1
  obtain ⟨pt, e2, -⟩ := trod_int_cell Try.underlying3 h2
  obtain ⟨ev, e5, -⟩ := trod_int_cell Try.underlying3 h5
  obtain ⟨qs, hq, e3, -⟩ := trod_ints_arr Try.underlying31 Try.underlying3 cellsInt cells64 h3
  obtain ⟨z0, z1, m, -, hlen4, g0, g1⟩ := trod_struct2 Try.underlying47 h4
  dsimp only at g0 g1
  rw [cellsTbl, List.drop_zero, List.take_take] at g0
  rw [cellsTbl, List.drop_take, List.take_take, List.drop_drop] at g1
  obtain ⟨cs1, xs1, s1, e4, hc1, hs1⟩ := open_tableX (by rw [List.length_take, List.length_drop, hL]; rfl) g0
  obtain ⟨cs2, xs2, s2, e6, hc2, hs2⟩ := open_tableX (by rw [List.length_take, List.length_drop, hL]; rfl) g1
  obtain ⟨sd, bs, e7, hsd⟩ := open_bytesX h6
  refine ⟨wd, hi, pt, ev, qs, cs1, xs1, s1, cs2, xs2, s2, bs, sd, ?_, hq, hc1, hc2, hs1, hs2, hsd⟩
  congr 1
  apply Array.ext'
  rw [parts_of cs.toList hL e0 e1 e2 e3 e4 e6 e5 e7]
  simp [fileL, ints]
end
end Go.Proofs.Ytlepchdlkhogiaa
namespace Go.Proofs.Ytlepchdlkhogiaa
set_option linter.unusedVariables false
set_option linter.unusedSimpArgs false
open Go.RowKit Go.ChangeShapes Go.WideShapes Go.ChangeAt
theorem own : ownKnob Try.prog.godebug = none := by kernel_rfl
theorem laidOut : laidOutB Try.prog = true := by kernel_rfl
section
variable {H : Type} {enc : TypeId × Value → H} {P : Program}
theorem below_trodAll (hl : laidOutB P = true) {W W' : World} (hb : Below W.heap.size W W') : ∀ {ts : List TypeId} {vs : List Value} {ds : List (DataW H)} {ps : List MemPlace},
    (∀ t ∈ ts, P.readableRec t = true ∧ t < P.types.size) → DataW.TrodAll enc P W 0 (fun _ => true) true ts vs ds ps → (∀ x ∈ ps, x.block < W.heap.size) →
    DataW.TrodAll enc P W' 0 (fun b => decide (b < W.heap.size)) true ts vs ds ps
  | [], _, _, _, _, h, _ => by
    obtain ⟨rfl, rfl, rfl⟩ := trodAll_nil h
    exact trodAll_mk0
  | t :: ts, vs, ds, ps, hr, h, hlt => by
    obtain ⟨v, vs1, d, ds1, a, b, rfl, rfl, rfl, h1, h2⟩ := trodAll_cons h
    exact ⟨a, b, Below.trod hl (hr t (by simp)).1 (hr t (by simp)).2 h1 hb (fun x hx => hlt x (by simp [hx])),
      below_trodAll hl hb (fun t ht => hr t (by simp [ht])) h2 (fun x hx => hlt x (by simp [hx])), rfl⟩

/-- a law's row is met: true, and new blocks alone -/
theorem law_post {f : Func} {s : ChangeSpec} {W W' : World} {args : Array Value} {ds gs : List (DataW H)} {before : List MemPlace}
    (hl : laidOutB P = true) (tb : TypeId) (htb : P.underlying tb = some .bool) (hft : f.resultTypes = #[tb]) (hvars : s.vars = [])
    (hr : ∀ t ∈ f.params.toList, P.readableRec t = true ∧ t < P.types.size)
    (hW : DataW.Whole enc P f.params.toList s.vars false W args.toList ds gs before)
    (hfn : s.fn H (ds ++ gs) = { results := [.lit (.bool true)], args := ds })
    (hb : Ext W W') : s.post enc P f false true false false W args (.bool true) W' := by
  have hlt : ∀ p ∈ before, p.block < W.heap.size := fun p hp => by simpa using hW.lt p hp
  have hW' := hW
  obtain ⟨p, q, hA, hV, rfl, hfz, hnd⟩ := hW
  rw [hvars] at hV
  obtain ⟨rfl, rfl⟩ := trodVars_none hV
  simp only [List.append_nil] at hlt hW'
  refine ⟨ds, [], p, [], p, [], hW', ?_, ?_, ?_, ?_, fun h => by cases h⟩
  · rw [hft, hfn]
    exact trodAll_cons_mk (shut_bool htb _) trodAll_mk0
  · rw [hfn]
    exact below_trodAll hl hb hr hA hlt
  · rw [hfn, hvars]
    rfl
  · exact World.keptBut_mono (fun p hp => ⟨hp, Or.inr (Or.inl hp)⟩) (hb.frame (· ∈ p))
end
end Go.Proofs.Ytlepchdlkhogiaa
