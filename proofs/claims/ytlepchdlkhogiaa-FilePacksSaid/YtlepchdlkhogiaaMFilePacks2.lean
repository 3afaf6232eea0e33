/- Contracts for the law FilePacks, part 2: what the functions that it reaches answer, for all arguments that the theorems name. -/
import Derived.Deep.MidRow
import Derived.Test.YtlepchdlkhogiaaMFilePacks1
import Derived.Great.Walk
/- Tables: table.total, Has of the reference. -/
namespace Go.Proofs.Ytlepchdlkhogiaa
set_option linter.unusedVariables false
set_option linter.unusedSimpArgs false
open Go.RowKit
def tblv (cs : List Int) (sl : Value) : Array Value := (ints cs ++ [sl]).toArray
theorem sizeTbl : (Try.prog.info? 45).map (·.size) = some 17 := by kernel_rfl
theorem size16 : (Try.prog.info? 43).map (·.size) = some 16 := by kernel_rfl
theorem tblv_size (cs : List Int) (sl : Value) (h : cs.length = 16) : (tblv cs sl).size = 17 := by simp [tblv, ints_len, h]
theorem tblv_range {w : World} {g : Nat} {T : TypeId} {cs : List Int} {sl : Value} (h : Blk w g T (tblv cs sl)) : w.rangeAt g 0 (ints cs) := by
  intro j v hv
  rw [Nat.zero_add, h.cell]
  unfold tblv
  rw [List.getElem?_toArray, List.getElem?_append_left (List.getElem?_eq_some_iff.1 hv).1]
  exact hv
theorem tblv_last {w : World} {g : Nat} {T : TypeId} {cs : List Int} {sl : Value} (h : Blk w g T (tblv cs sl)) (hl : cs.length = 16) : w.cell? ⟨g, 16, none⟩ = some sl := by
  rw [h.cell]
  simp [tblv, ints_len, hl]
theorem run_index16 (cs : Array Value) (i : Nat) (u : Value) (hi : i < 16) (hu : cs[i]? = some u) (w : World) : (Instr.index 43 (.agg cs) (.int .i64 (i : Int))).run Try.prog w = .ok u w :=
  run_index_agg _ _ 16 cs i u Try.underlying43 _ Try.underlying3 sizeInt hi hu w
def sumL (cs : List Int) (k : Nat) : Int := (cs.take k).sum
theorem sumL_succ (cs : List Int) (k : Nat) (h : k < cs.length) : sumL cs (k + 1) = sumL cs k + cs[k] := by
  unfold sumL
  rw [List.take_succ_eq_append_getElem h, List.sum_append]
  simp
def totalZ (cs : List Int) : Int × Bool := if allIn cs 0 256 then (sumL cs 16, decide (sumL cs 16 ≤ 256)) else (0, false)
set_option maxHeartbeats 400000 in
theorem total_any (cs : List Int) (sl : Value) (w : World) (hl : cs.length = 16) :
    Calls Try.prog 69 #[.agg (tblv cs sl)] w fun e w' => e = .returned (.tuple #[.int .i64 (totalZ cs).1, .bool (totalZ cs).2]) ∧ Ext w w' := by
  have HL := hid_ hl
  have HRG := hid_ (fun W g (h : Blk W g 45 (tblv cs sl)) => tblv_range h)
  have hcl := hid_ ((ints_len cs).trans hl)
  have HIX := hid_ (fun k (hk : k < cs.length) (h16 : k < 16) => fun W => run_index16 (bv cs) k (.int .i64 cs[k]) h16 (bv_at cs k hk) W)
  generalize tblv cs sl = tv at *
  have hbv : (ints cs).toArray = bv cs := rfl
  go_enter Try.func69, Try.ntmps69
  go_wp2_with (first
    | (refine wpList_box_abs rfl 45 (.tmp 0) rfl tv rfl ?_; intro w1 g hb1 hx1 hg)
    | (refine wpList_load_mid rfl 43 (.tmp 7) rfl g 0 rfl (ints cs) _ (HRG.out _ _ hb1) Try.underlying43 rfl (by rw [hcl.out]; exact size16) ?_))
  go_loop [4, 9] (fun v i => ∃ k : Nat, k ≤ 16 ∧ i = .int .i64 (k : Int) ∧ v = .int .i64 (sumL cs k) ∧ (∀ z ∈ cs.take k, 0 ≤ z ∧ z ≤ 256) ∧ 0 ≤ sumL cs k ∧ sumL cs k ≤ 256 * k) (fun _ i => 16 - (intOf i).toNat)
  case atStart => exact ⟨0, by omega, rfl, rfl, by simp, by simp [sumL], by simp [sumL]⟩
  case round =>
    obtain ⟨k, hk, rfl, rfl, hin, s1, s2⟩ := hrel
    by_cases hlt : k < 16
    · have hkl : k < cs.length := by have := HL.out; omega
      have hix := HIX.out k hkl hlt
      have HS := hid_ (sumL_succ cs k hkl)
      have HIN := hid_ hin
      clear hin
      cases hq : inB cs[k] 0 256 with
      | true =>
        obtain ⟨q1, q2⟩ := inB_iff.1 hq
        have HN := hid_ (allIn_take HIN.out hkl ⟨q1, q2⟩)
        generalize sumL cs k = s at *
        go_wp2_with fail
        go_round
        case rel => exact ⟨k + 1, by omega, by go_num, by rw [HS.out], HN.out, by rw [HS.out]; omega, by rw [HS.out]; omega⟩
        case measure => simp [intOf]; omega
      | false =>
        have HF := hid_ (show totalZ cs = (0, false) by unfold totalZ; rw [allIn_no hkl hq]; rfl)
        rcases Int.lt_or_le cs[k] 0 with h0 | h0
        · have h0' : decide (cs[k] < 0) = true := by simpa using h0
          clear hq
          go_wp2_with fail
          go_ret2
          exact ⟨by rw [HF.out]; rfl, hx1⟩
        · have h0' : decide (cs[k] < 0) = false := by simpa using h0
          have h1' : decide (256 < cs[k]) = true := by have := inB_not.1 hq; simp; omega
          clear hq
          go_wp2_with fail
          go_ret2
          exact ⟨by rw [HF.out]; rfl, hx1⟩
    · have ek : k = 16 := by omega
      have HF := hid_ (show totalZ cs = (sumL cs 16, decide (sumL cs 16 ≤ 256)) by
        unfold totalZ
        rw [allIn_iff.2 (fun z hz => hin z (by rwa [List.take_of_length_le (by have := HL.out; omega)]))]
        rfl)
      rw [ek]
      rw [ek] at s1 s2
      clear hin ek hk hlt
      go_wp2_with fail
      go_ret2
      exact ⟨by rw [HF.out]; rfl, hx1⟩
theorem has_any (xs : List Int) (A : Option Addr) (c n : Nat) (x : Int) (w : World) (hn : xs.length = n) (hs : SL w 1 (.slice A n c) n (ints xs)) :
    Calls Try.prog 99 #[.slice A n c, .int .i64 x] w fun e w' => e = .returned (.bool (decide (x ∈ xs))) ∧ w = w' := by
  subst hn
  have hc1 : xs.length ≤ c ∧ c ≤ 9223372036854775807 := by obtain ⟨A', c', e, h1, h2, -⟩ := hs; injection e with e1 e2 e3; subst e3; exact ⟨h1, h2⟩
  obtain ⟨hc1, hc2⟩ := hc1
  go_enter Try.func99, Try.ntmps99
  go_wp2_with fail
  go_loop [9] (fun i => ∃ k : Nat, k ≤ xs.length ∧ i = .int .i64 k ∧ x ∉ xs.take k) (fun i => xs.length - (intOf i).toNat)
  case atStart => exact ⟨0, by omega, rfl, by simp⟩
  case round =>
    obtain ⟨k, hk, rfl, ht⟩ := hrel
    have HT := hid_ ht
    clear ht
    by_cases hlt : k < xs.length
    · obtain ⟨ad, u, rfl, -, hx, hcell⟩ := hs.at1 hlt
      obtain ⟨_, rfl⟩ := ints_at _ _ _ hx
      clear hx
      by_cases hq : x = xs[k]
      · have hq' : (x == xs[k]) = true := by simpa using hq
        have HC := hid_ (show decide (x ∈ xs) = true by rw [decide_eq_true_eq, hq]; exact List.getElem_mem hlt)
        clear hq
        go_wp2_with fail
        go_ret
        exact ⟨by rw [HC.out]; rfl, rfl⟩
      · have hq' : (x == xs[k]) = false := by simpa using hq
        have HN := hid_ (show x ∉ xs.take (k + 1) by rw [List.take_succ_eq_append_getElem hlt, List.mem_append]; exact fun h => h.elim HT.out (fun h => hq (by simpa using h)))
        clear hq
        go_wp2_with fail
        go_round
        case rel => exact ⟨k + 1, by omega, by go_num, HN.out⟩
        case measure => simp [intOf]; omega
    · have HC := hid_ (show decide (x ∈ xs) = false by
        have := HT.out
        rw [List.take_of_length_le (by omega)] at this
        simpa using this)
      go_wp2_with fail
      go_ret
      exact ⟨by rw [HC.out]; rfl, rfl⟩
end Go.Proofs.Ytlepchdlkhogiaa
namespace Go.Proofs.Ytlepchdlkhogiaa
set_option linter.unusedVariables false
set_option linter.unusedSimpArgs false
open Go.RowKit
theorem rround_any (n d : Int) (w : World) (hn1 : -1000000000000000000 ≤ n) (hn : n ≤ 1000000000000000000) (hd : 1 ≤ d) (hd2 : d ≤ 1000000000000000000) :
    Calls Try.prog 79 #[.int .i64 n, .int .i64 d] w fun e w' => e = .returned (.int .i64 (rnd n d)) ∧ w = w' := by
  have pos : ∀ n : Int, 0 ≤ n → 0 ≤ n / d ∧ n / d ≤ n ∧ 0 ≤ n % d ∧ n % d < d := fun n h0 =>
    ⟨Int.ediv_nonneg h0 (by omega), Int.ediv_le_self _ h0, Int.emod_nonneg _ (by omega), Int.emod_lt_of_pos _ (by omega)⟩
  by_cases h : n < 0
  · obtain ⟨m, rfl⟩ : ∃ m, n = -m := ⟨-n, by omega⟩
    have hm : 0 < m := by omega
    obtain ⟨q0, q1, r0, r1⟩ := pos m (by omega)
    have hfin : rnd (-m) d = -(m / d + (if d ≤ 2 * (m % d) then 1 else 0)) := by rw [rnd, if_pos h, rp_eq _ _ hd]; simp
    clear h pos
    by_cases h2 : d ≤ 2 * (m % d)
    · rw [hfin, if_pos h2]; clear hfin
      go_enter Try.func79, Try.ntmps79
      go_wp2
      go_ret
      exact ⟨by simp, rfl⟩
    · rw [hfin, if_neg h2]; clear hfin
      go_enter Try.func79, Try.ntmps79
      go_wp2
      go_ret
      exact ⟨by simp, rfl⟩
  · obtain ⟨q0, q1, r0, r1⟩ := pos n (by omega)
    have hfin : rnd n d = n / d + (if d ≤ 2 * (n % d) then 1 else 0) := by rw [rnd, if_neg h, rp_eq _ _ hd]
    clear pos
    by_cases h2 : d ≤ 2 * (n % d)
    · rw [hfin, if_pos h2]; clear hfin
      go_enter Try.func79, Try.ntmps79
      go_wp2
      go_ret
      exact ⟨rfl, rfl⟩
    · rw [hfin, if_neg h2]; clear hfin
      go_enter Try.func79, Try.ntmps79
      go_wp2
      go_ret
      exact ⟨by simp, rfl⟩
theorem clamp_any (n lo hi : Int) (w : World) :
    Calls Try.prog 40 #[.int .i64 n, .int .i64 lo, .int .i64 hi] w fun e w' => e = .returned (.int .i64 (clampZ n lo hi)) ∧ w = w' := by
  by_cases h : n < lo
  · go_enter Try.func40, Try.ntmps40
    go_wp2
    go_ret
    exact ⟨by simp [clampZ, h], rfl⟩
  · by_cases h2 : hi < n
    · go_enter Try.func40, Try.ntmps40
      go_wp2
      go_ret
      exact ⟨by unfold clampZ; rw [if_neg (by omega), if_pos h2]; rfl, rfl⟩
    · go_enter Try.func40, Try.ntmps40
      go_wp2
      go_ret
      exact ⟨by unfold clampZ; rw [if_neg (by omega), if_neg (by omega)]; rfl, rfl⟩
theorem outside_any (n lo hi : Int) (w : World) :
    Calls Try.prog 36 #[.int .i64 n, .int .i64 lo, .int .i64 hi] w fun e w' => e = .returned (.bool (!inB n lo hi)) ∧ w = w' := by
  by_cases h : n < lo
  · have h' : decide (n < lo) = true := by simpa using h
    have e : (!inB n lo hi) = true := by rw [inB_not.2 (Or.inl h)]; rfl
    rw [e]; clear e
    go_enter Try.func36, Try.ntmps36
    go_wp2
    go_ret
    exact ⟨rfl, rfl⟩
  · have h' : decide (n < lo) = false := by simpa using h
    have e : (!inB n lo hi) = decide (hi < n) := by rw [Bool.eq_iff_iff, Bool.not_eq_true', inB_not]; simp; omega
    rw [e]; clear e
    go_enter Try.func36, Try.ntmps36
    go_wp2
    go_ret
    exact ⟨rfl, rfl⟩
end Go.Proofs.Ytlepchdlkhogiaa
/- slices.IndexFunc, slices.ContainsFunc over a []int, whatever the function value. -/
namespace Go.Proofs.Ytlepchdlkhogiaa
set_option linter.unusedVariables false
set_option linter.unusedSimpArgs false
open Go.RowKit
def Enters (P : Program) (f : FuncId) : Prop := ∀ (args : Array Value) (w : World), (callFunc f args).run P w = .ok (.enter f args) w
theorem enters_of {P : Program} {f : FuncId} {fn : Func} {c : Code} (hf : P.funcs[f]? = some fn) (hname : (fn.name == "runtime.NumGoroutine") = false) (hb : fn.body = some c) : Enters P f := by
  intro args w
  have hn : ¬ fn.name = "runtime.NumGoroutine" := by simpa using hname
  simp [callFunc, hf, hb, hn]
def idxOf (p : Int → Bool) (zs : List Int) : Int := match zs.findIdx? p with | some k => k | none => -1
theorem indexFunc_any (g : Nat) (cap : Array Value) (p : Int → Bool) (eg : Enters Try.prog g) (v : Value) (zs : List Int) (w : World) (hs : SL w 1 v zs.length (ints zs))
    (hp : ∀ z ∈ zs, Calls Try.prog g (#[.int .i64 z] ++ cap) w fun e w' => e = .returned (.bool (p z)) ∧ w = w') :
    Calls Try.prog 63 #[v, .func (.func g) #[] cap] w fun e w' => e = .returned (.int .i64 (idxOf p zs)) ∧ w = w' := by
  have hs' := hs
  obtain ⟨A, c, rfl, hc1, hc2, -, -⟩ := hs'
  go_enter Try.func63, Try.ntmps63
  go_wp2_with fail
  go_loop [8] (fun i => ∃ k : Nat, k ≤ zs.length ∧ i = .int .i64 k ∧ ∀ z ∈ zs.take k, p z = false) (fun i => zs.length - (intOf i).toNat)
  case atStart => exact ⟨0, by omega, rfl, by simp⟩
  case round =>
    obtain ⟨k, hk, rfl, ht⟩ := hrel
    have HT : Hid (∀ z ∈ zs.take k, p z = false) := ht
    clear ht
    by_cases hlt : k < zs.length
    · obtain ⟨ad, u, rfl, -, hx, hcell⟩ := hs.at1 hlt
      obtain ⟨_, rfl⟩ := ints_at _ _ _ hx
      clear hx
      have hcall := hp zs[k] (List.getElem_mem _)
      have HC : Hid (Calls Try.prog g (#[.int .i64 zs[k]] ++ cap) w fun e w' => e = .returned (.bool (p zs[k])) ∧ w = w') := hcall
      have HP : Hid (∀ z ∈ zs, Calls Try.prog g (#[.int .i64 z] ++ cap) w fun e w' => e = .returned (.bool (p z)) ∧ w = w') := hp
      clear hcall hp
      unfold Enters at eg
      by_cases hz : p zs[k] = true
      · have hfin : idxOf p zs = k := by
          unfold idxOf
          have : zs.findIdx? p = some k := by
            rw [List.findIdx?_eq_some_iff_getElem]
            refine ⟨hlt, hz, fun j hj => ?_⟩
            have := HT.out zs[j] (by
              rw [List.mem_take_iff_getElem]
              exact ⟨j, by omega, rfl⟩)
            simp [this]
          rw [this]
        have HF := hid_ hfin
        clear hfin
        go_wp2_with fail
        refine HC.out.mono ?_
        rintro e w' ⟨rfl, rfl⟩
        rw [hz]; clear hz
        go_wp2
        go_ret
        exact ⟨by rw [HF.out]; rfl, rfl⟩
      · have hz' : p zs[k] = false := by simpa using hz
        have HZ := hid_ hz'
        clear hz
        go_wp2_with fail
        refine HC.out.mono ?_
        rintro e w' ⟨rfl, rfl⟩
        rw [hz']; clear hz'
        go_wp2
        go_round
        case rel =>
          refine ⟨k + 1, by omega, by go_num, fun z hz => ?_⟩
          rw [List.take_succ_eq_append_getElem hlt] at hz
          rcases List.mem_append.1 hz with h1 | h1
          · exact HT.out z h1
          · simp at h1; subst h1; exact HZ.out
        case measure => simp [intOf]; omega
    · have hfin : idxOf p zs = -1 := by
        unfold idxOf
        have : zs.findIdx? p = none := by
          rw [List.findIdx?_eq_none_iff]
          have h := HT.out
          rwa [List.take_of_length_le (by omega)] at h
        rw [this]
      have HF := hid_ hfin
      clear hfin
      go_wp2
      go_ret
      exact ⟨by rw [HF.out]; rfl, rfl⟩
theorem idxOf_ge (p : Int → Bool) (zs : List Int) : decide (idxOf p zs ≥ 0) = zs.any p := by
  unfold idxOf
  cases h : zs.findIdx? p with
  | none =>
    have : zs.any p = false := by rw [List.any_eq_false]; intro x hx; have := List.findIdx?_eq_none_iff.1 h x hx; simp [this]
    simp [this]
  | some k =>
    have : zs.any p = true := by
      rw [List.any_eq_true]
      obtain ⟨hk, hp, -⟩ := List.findIdx?_eq_some_iff_getElem.1 h
      exact ⟨_, List.getElem_mem hk, hp⟩
    simp [this]
theorem containsFunc_any (g : Nat) (cap : Array Value) (p : Int → Bool) (eg : Enters Try.prog g) (v : Value) (zs : List Int) (w : World) (hs : SL w 1 v zs.length (ints zs))
    (hp : ∀ z ∈ zs, Calls Try.prog g (#[.int .i64 z] ++ cap) w fun e w' => e = .returned (.bool (p z)) ∧ w = w') :
    Calls Try.prog 32 #[v, .func (.func g) #[] cap] w fun e w' => e = .returned (.bool (zs.any p)) ∧ w = w' := by
  have HP := hid_ hp
  have HG := hid_ eg
  clear hp eg
  go_enter Try.func32, Try.ntmps32
  go_wp2_with (go_at_call 63; refine (indexFunc_any g cap p HG.out v zs _ hs HP.out).mono ?_; rintro e w' ⟨rfl, rfl⟩)
  go_ret
  exact ⟨by rw [← idxOf_ge]; rfl, rfl⟩
end Go.Proofs.Ytlepchdlkhogiaa
/- api.Block by value: the facts of its type, and the contracts on whether all its numbers lie within bounds. -/
namespace Go.Proofs.Ytlepchdlkhogiaa
set_option linter.unusedVariables false
set_option linter.unusedSimpArgs false
open Go.RowKit
theorem run_index48 (cs : Array Value) (i : Nat) (u : Value) (hi : i < 64) (hu : cs[i]? = some u) (w : World) : (Instr.index 31 (.agg cs) (.int .i64 (i : Int))).run Try.prog w = .ok u w :=
  run_index_agg _ _ 64 cs i u Try.underlying31 _ Try.underlying3 sizeInt hi hu w
theorem size48 : (Try.prog.info? 31).map (·.size) = some 64 := by kernel_rfl
set_option maxHeartbeats 400000 in
theorem blockWithin_any (zs : List Int) (lo hi : Int) (w : World) (hz : zs.length = 64) :
    Calls Try.prog 39 #[.agg (bv zs), .int .i64 lo, .int .i64 hi] w fun e w' => e = .returned (.bool (allIn zs lo hi)) ∧ Ext w w' := by
  have HZ : Hid (zs.length = 64) := hz
  have hs := (bv_size zs).trans hz
  have HS : Hid ((bv zs).size = 64) := hs
  have hat := bv_at zs
  generalize hcs : bv zs = cs at *
  have HA : Hid (∀ (k : Nat) (h : k < zs.length), cs[k]? = some (.int .i64 zs[k])) := hat
  clear hat hs hz hcs
  go_enter Try.func39, Try.ntmps39
  go_wp2_with (refine wpList_load_blk rfl 31 _ rfl _ rfl (Blk.new w 31 cs) _ Try.underlying31 rfl 64 size48 HS.out ?_)
  go_loop [10] (fun i => ∃ k : Nat, k ≤ 64 ∧ i = .int .i64 k ∧ ∀ z ∈ zs.take k, lo ≤ z ∧ z ≤ hi) (fun i => 64 - (intOf i).toNat)
  case atStart => exact ⟨0, by omega, rfl, by simp⟩
  case round =>
    obtain ⟨k, hk, rfl, ht⟩ := hrel
    have HT : Hid (∀ z ∈ zs.take k, lo ≤ z ∧ z ≤ hi) := ht
    clear ht
    by_cases hlt : k < 64
    · have hlt2 : k < zs.length := by have := HZ.out; omega
      have hat := fun W => run_index48 cs k _ hlt (HA.out k hlt2) W
      cases hd : inB zs[k] lo hi with
      | true =>
        have HI := hid_ (inB_iff.1 hd)
        go_wp2_with (go_at_call 36; refine (outside_any _ _ _ _).mono ?_; rintro e w' ⟨rfl, rfl⟩)
        go_round
        case rel => exact ⟨k + 1, by omega, by go_num, allIn_take HT.out hlt2 HI.out⟩
        case measure => simp [intOf]; omega
      | false =>
        have HF := hid_ (allIn_no hlt2 hd)
        go_wp2_with (go_at_call 36; refine (outside_any _ _ _ _).mono ?_; rintro e w' ⟨rfl, rfl⟩)
        go_ret
        exact ⟨by rw [HF.out]; rfl, (Ext.refl w).alloc _⟩
    · have hfin : allIn zs lo hi = true := allIn_iff.2 (by have := HT.out; rwa [List.take_of_length_le (by have := HZ.out; omega)] at this)
      have HF : Hid (allIn zs lo hi = true) := hfin
      clear hfin
      go_wp2
      go_ret
      exact ⟨by rw [HF.out]; rfl, (Ext.refl w).alloc _⟩
end Go.Proofs.Ytlepchdlkhogiaa
/- A row of bytes, as values. -/
namespace Go.Proofs.Ytlepchdlkhogiaa
set_option linter.unusedVariables false
set_option linter.unusedSimpArgs false
open Go.RowKit
def bytesV (l : List Nat) : List Value := l.map fun x : Nat => Value.int .u8 (x : Int)
theorem bytesV_len (l : List Nat) : (bytesV l).length = l.length := by simp [bytesV]
theorem bytesV_snoc (l : List Nat) (x : Nat) : bytesV (l ++ [x]) = bytesV l ++ [.int .u8 (x : Int)] := by simp [bytesV]
end Go.Proofs.Ytlepchdlkhogiaa
/- Files: the value and where its parts lie. -/
namespace Go.Proofs.Ytlepchdlkhogiaa
set_option linter.unusedVariables false
set_option linter.unusedSimpArgs false
open Go.RowKit
def fileL (wd hi pt : Int) (qs : List Int) (t1 t2 : List Value) (ev : Int) (sd : Value) : List Value := ints [wd, hi, pt] ++ ints qs ++ t1 ++ t2 ++ [.int .i64 ev, sd]
theorem sizeFile : (Try.prog.info? 50).map (·.size) = some 103 := by kernel_rfl
theorem sizeTbls : (Try.prog.info? 47).map (·.size) = some 34 := by kernel_rfl
theorem zeroTbl : (Try.prog.info? 45).bind (·.zero) = some (.agg (ints (List.replicate 16 0) ++ [Value.slice none 0 0]).toArray) := by kernel_rfl
theorem range_part {w : World} {g : Nat} {T : TypeId} {a m b : List Value} (h : Blk w g T (a ++ (m ++ b)).toArray) : w.rangeAt g a.length m := by
  intro j v hv
  rw [h.cell, List.getElem?_toArray, List.getElem?_append_right (by omega), Nat.add_sub_cancel_left, List.getElem?_append_left (List.getElem?_eq_some_iff.1 hv).1]
  exact hv
/-- a file lies in block g -/
structure FileB (w : World) (g : Nat) (wd hi pt : Int) (qs : List Int) (t1 t2 : List Value) (ev : Int) (sd : Value) : Prop where
  c0 : w.cell? ⟨g, 0, none⟩ = some (.int .i64 wd)
  c1 : w.cell? ⟨g, 1, none⟩ = some (.int .i64 hi)
  c2 : w.cell? ⟨g, 2, none⟩ = some (.int .i64 pt)
  q : w.rangeAt g 3 (ints qs)
  ta : w.rangeAt g 67 t1
  tb : w.rangeAt g 84 t2
  tt : w.rangeAt g 67 (t1 ++ t2)
  c101 : w.cell? ⟨g, 101, none⟩ = some (.int .i64 ev)
  c102 : w.cell? ⟨g, 102, none⟩ = some sd
theorem fileB {w : World} {g : Nat} {T : TypeId} {wd hi pt : Int} {qs : List Int} {t1 t2 : List Value} {ev : Int} {sd : Value} (h : Blk w g T (fileL wd hi pt qs t1 t2 ev sd).toArray) (hq : qs.length = 64) (h1 : t1.length = 17) (h2 : t2.length = 17) :
    FileB w g wd hi pt qs t1 t2 ev sd := by
  have hql := (ints_len qs).trans hq
  have r0 : w.rangeAt g 0 (ints [wd, hi, pt]) := range_part (a := []) (m := ints [wd, hi, pt]) (b := ints qs ++ t1 ++ t2 ++ [.int .i64 ev, sd]) (T := T) (by simpa [fileL] using h)
  have r1 := range_part (a := ints [wd, hi, pt]) (m := ints qs) (b := t1 ++ t2 ++ [.int .i64 ev, sd]) (T := T) (w := w) (g := g) (by simpa [fileL] using h)
  have r2 := range_part (a := ints [wd, hi, pt] ++ ints qs) (m := t1) (b := t2 ++ [.int .i64 ev, sd]) (T := T) (w := w) (g := g) (by simpa [fileL] using h)
  have r3 := range_part (a := ints [wd, hi, pt] ++ ints qs ++ t1) (m := t2) (b := [.int .i64 ev, sd]) (T := T) (w := w) (g := g) (by simpa [fileL] using h)
  have r4 := range_part (a := ints [wd, hi, pt] ++ ints qs) (m := t1 ++ t2) (b := [.int .i64 ev, sd]) (T := T) (w := w) (g := g) (by simpa [fileL] using h)
  have r5 := range_part (a := ints [wd, hi, pt] ++ ints qs ++ t1 ++ t2) (m := [.int .i64 ev, sd]) (b := []) (T := T) (w := w) (g := g) (by simpa [fileL] using h)
  simp only [List.length_append, hql, h1, h2, ints_len, List.length_cons, List.length_nil] at r1 r2 r3 r4 r5
  exact ⟨r0 0 _ rfl, r0 1 _ rfl, r0 2 _ rfl, r1, r2, r3, r4, r5 0 _ rfl, r5 1 _ rfl⟩
theorem fileL_len (wd hi pt : Int) (qs : List Int) (t1 t2 : List Value) (ev : Int) (sd : Value) (hq : qs.length = 64) (h1 : t1.length = 17) (h2 : t2.length = 17) : (fileL wd hi pt qs t1 t2 ev sd).toArray.size = 103 := by
  simp [fileL, ints_len, hq, h1, h2]
/-- a table's cells -/
def tblL (cs : List Int) (sl : Value) : List Value := ints cs ++ [sl]
theorem tblv_tblL (cs : List Int) (sl : Value) : tblv cs sl = (tblL cs sl).toArray := rfl
theorem tblL_len (cs : List Int) (sl : Value) (h : cs.length = 16) : (tblL cs sl).length = 17 := by simp [tblL, ints_len, h]
set_option maxRecDepth 20000 in
theorem built2 (t1 t2 : List Value) (h1 : t1.length = 17) (h2 : t2.length = 17) : Try.prog.builtSlice 45 2 [(0, .agg t1.toArray), (1, .agg t2.toArray)] = some (t1 ++ t2).toArray := by
  match t1, h1 with
  | [a0, a1, a2, a3, a4, a5, a6, a7, a8, a9, a10, a11, a12, a13, a14, a15, a16], _ =>
    match t2, h2 with
    | [b0, b1, b2, b3, b4, b5, b6, b7, b8, b9, b10, b11, b12, b13, b14, b15, b16], _ =>
      show _ = _
      kernel_rfl
theorem wpList_load_mid_g {P : Program} {ops : Array Oper} {rest : List Oper} {op : Oper} {a : Act} {w : World} {Q : Exit → Act → World → Prop} (hw : Region.wanted op (yielded ops a.tmps) = true) (ty : TypeId) (x : Operand) (ho : op.op = .load ty x)
    (b o : Nat) (hx : a.eval x = .pointer (some ⟨b, o, none⟩)) (cs : List Value) (d : TypeDesc) (hc : w.rangeAt b o cs)
    (hu : P.underlying ty = some d) (hd : d.isRow = true) (hi : (P.info? ty).map (·.size) = some cs.length)
    (h : wpList P ops Q rest (a.put op.dst (.agg cs.toArray)) w) : wpList P ops Q (op :: rest) a w :=
  wpList_wanted hw fun _ hK => wp_load_mid ty x ho b o hx cs d hc hu hd hi (hK _ _ h)
theorem range_two {w : World} {g : Nat} {T : TypeId} {t1 t2 : List Value} (h1 : t1.length = 17) (h : Blk w g T (t1 ++ t2).toArray) : w.rangeAt g 0 t1 ∧ w.rangeAt g 17 t2 := by
  refine ⟨range_part (a := []) (m := t1) (b := t2) (T := T) (by simpa using h), ?_⟩
  have := range_part (a := t1) (m := t2) (b := []) (T := T) (w := w) (g := g) (by simpa using h)
  rwa [h1] at this
/-- the results of Check -/
def argsOK (wd hi pt ev : Int) : Bool := inB wd 1 64 && inB hi 1 64 && (pt == 1 || pt == 3) && inB ev 0 100
def fcheckZ (wd hi pt : Int) (qs : List Int) (z1 z2 : Int) (ev : Int) (n : Nat) : Int :=
  if argsOK wd hi pt ev && allIn qs 1 255 then (if z1 = 0 then (if z2 = 0 then (if 90000 < n then 2 else 0) else z2) else z1) else 1
end Go.Proofs.Ytlepchdlkhogiaa
/- file.within. -/
namespace Go.Proofs.Ytlepchdlkhogiaa
set_option linter.unusedVariables false
set_option linter.unusedSimpArgs false
open Go.RowKit
theorem fwithin_any (n lo hi : Int) (w : World) :
    Calls Try.prog 45 #[.int .i64 n, .int .i64 lo, .int .i64 hi] w fun e w' => e = .returned (.bool (inB n lo hi)) ∧ w = w' := by
  by_cases h : lo ≤ n
  · have h' : decide (lo ≤ n) = true := by simpa using h
    have e : inB n lo hi = decide (n ≤ hi) := by rw [Bool.eq_iff_iff, inB_iff]; simp; omega
    rw [e]; clear e
    go_enter Try.func45, Try.ntmps45
    go_wp2
    go_ret
    exact ⟨rfl, rfl⟩
  · have h' : decide (lo ≤ n) = false := by simpa using h
    have e : inB n lo hi = false := inB_not.2 (by omega)
    rw [e]; clear e
    go_enter Try.func45, Try.ntmps45
    go_wp2
    go_ret
    exact ⟨rfl, rfl⟩
end Go.Proofs.Ytlepchdlkhogiaa
/- file.Check: an argument out of its bounds. -/
namespace Go.Proofs.Ytlepchdlkhogiaa
set_option linter.unusedVariables false
set_option linter.unusedSimpArgs false
open Go.RowKit
set_option maxRecDepth 20000 in
set_option maxHeartbeats 4000000 in
theorem fcheck_na (wd hi pt ev : Int) (qs : List Int) (t1 t2 : List Value) (sd : Value) (w : World) (hq : qs.length = 64) (h1 : t1.length = 17) (h2 : t2.length = 17) (k1 : inB wd 1 64 = false) :
    Calls Try.prog 23 #[.agg (fileL wd hi pt qs t1 t2 ev sd).toArray] w fun e w' => e = .returned (.int .i64 1) ∧ Ext w w' := by
  have HF := hid_ (fun W g (hb : Blk W g 50 (fileL wd hi pt qs t1 t2 ev sd).toArray) => fileB hb hq h1 h2)
  have W1 := hid_ (fun W => fwithin_any wd 1 64 W)
  have W2 := hid_ (fun W => fwithin_any hi 1 64 W)
  have W3 := hid_ (fun W => fwithin_any ev 0 100 W)
  generalize (fileL wd hi pt qs t1 t2 ev sd).toArray = fv at *
  generalize inB wd 1 64 = b1 at *
  generalize inB hi 1 64 = b2 at *
  generalize inB ev 0 100 = b3 at *
  subst k1
  go_enter Try.func23, Try.ntmps23
  go_wp2_with (first
    | (refine wpList_box_abs rfl 50 (.tmp 0) rfl fv rfl ?_; intro w1 g hb1 hx1 hg; obtain ⟨c0, c1, c2, -, -, -, -, c101, -⟩ := HF.out _ _ hb1)
    | (go_at_call 45; (with_reducible refine (W1.out _).mono ?_); rintro e w2 ⟨rfl, rfl⟩)
    | (go_at_call 45; (with_reducible refine (W2.out _).mono ?_); rintro e w2 ⟨rfl, rfl⟩)
    | (go_at_call 45; (with_reducible refine (W3.out _).mono ?_); rintro e w2 ⟨rfl, rfl⟩))
  go_ret
  exact ⟨rfl, hx1⟩
end Go.Proofs.Ytlepchdlkhogiaa
/- file.Check: an argument out of its bounds. -/
namespace Go.Proofs.Ytlepchdlkhogiaa
set_option linter.unusedVariables false
set_option linter.unusedSimpArgs false
open Go.RowKit
set_option maxRecDepth 20000 in
set_option maxHeartbeats 4000000 in
theorem fcheck_nb (wd hi pt ev : Int) (qs : List Int) (t1 t2 : List Value) (sd : Value) (w : World) (hq : qs.length = 64) (h1 : t1.length = 17) (h2 : t2.length = 17) (k1 : inB wd 1 64 = true) (k2 : inB hi 1 64 = false) :
    Calls Try.prog 23 #[.agg (fileL wd hi pt qs t1 t2 ev sd).toArray] w fun e w' => e = .returned (.int .i64 1) ∧ Ext w w' := by
  have HF := hid_ (fun W g (hb : Blk W g 50 (fileL wd hi pt qs t1 t2 ev sd).toArray) => fileB hb hq h1 h2)
  have W1 := hid_ (fun W => fwithin_any wd 1 64 W)
  have W2 := hid_ (fun W => fwithin_any hi 1 64 W)
  have W3 := hid_ (fun W => fwithin_any ev 0 100 W)
  generalize (fileL wd hi pt qs t1 t2 ev sd).toArray = fv at *
  generalize inB wd 1 64 = b1 at *
  generalize inB hi 1 64 = b2 at *
  generalize inB ev 0 100 = b3 at *
  subst k1 k2
  go_enter Try.func23, Try.ntmps23
  go_wp2_with (first
    | (refine wpList_box_abs rfl 50 (.tmp 0) rfl fv rfl ?_; intro w1 g hb1 hx1 hg; obtain ⟨c0, c1, c2, -, -, -, -, c101, -⟩ := HF.out _ _ hb1)
    | (go_at_call 45; (with_reducible refine (W1.out _).mono ?_); rintro e w2 ⟨rfl, rfl⟩)
    | (go_at_call 45; (with_reducible refine (W2.out _).mono ?_); rintro e w2 ⟨rfl, rfl⟩)
    | (go_at_call 45; (with_reducible refine (W3.out _).mono ?_); rintro e w2 ⟨rfl, rfl⟩))
  go_ret
  exact ⟨rfl, hx1⟩
end Go.Proofs.Ytlepchdlkhogiaa
/- file.Check: an argument out of its bounds. -/
namespace Go.Proofs.Ytlepchdlkhogiaa
set_option linter.unusedVariables false
set_option linter.unusedSimpArgs false
open Go.RowKit
set_option maxRecDepth 20000 in
set_option maxHeartbeats 4000000 in
theorem fcheck_nc (wd hi pt ev : Int) (qs : List Int) (t1 t2 : List Value) (sd : Value) (w : World) (hq : qs.length = 64) (h1 : t1.length = 17) (h2 : t2.length = 17) (k1 : inB wd 1 64 = true) (k2 : inB hi 1 64 = true) (p1 : (pt != 1) = true) (p2 : (pt != 3) = true) :
    Calls Try.prog 23 #[.agg (fileL wd hi pt qs t1 t2 ev sd).toArray] w fun e w' => e = .returned (.int .i64 1) ∧ Ext w w' := by
  have HF := hid_ (fun W g (hb : Blk W g 50 (fileL wd hi pt qs t1 t2 ev sd).toArray) => fileB hb hq h1 h2)
  have W1 := hid_ (fun W => fwithin_any wd 1 64 W)
  have W2 := hid_ (fun W => fwithin_any hi 1 64 W)
  have W3 := hid_ (fun W => fwithin_any ev 0 100 W)
  generalize (fileL wd hi pt qs t1 t2 ev sd).toArray = fv at *
  generalize inB wd 1 64 = b1 at *
  generalize inB hi 1 64 = b2 at *
  generalize inB ev 0 100 = b3 at *
  subst k1 k2
  go_enter Try.func23, Try.ntmps23
  go_wp2_with (first
    | (refine wpList_box_abs rfl 50 (.tmp 0) rfl fv rfl ?_; intro w1 g hb1 hx1 hg; obtain ⟨c0, c1, c2, -, -, -, -, c101, -⟩ := HF.out _ _ hb1)
    | (go_at_call 45; (with_reducible refine (W1.out _).mono ?_); rintro e w2 ⟨rfl, rfl⟩)
    | (go_at_call 45; (with_reducible refine (W2.out _).mono ?_); rintro e w2 ⟨rfl, rfl⟩)
    | (go_at_call 45; (with_reducible refine (W3.out _).mono ?_); rintro e w2 ⟨rfl, rfl⟩))
  go_ret
  exact ⟨rfl, hx1⟩
end Go.Proofs.Ytlepchdlkhogiaa
/- file.Check: an argument out of its bounds. -/
namespace Go.Proofs.Ytlepchdlkhogiaa
set_option linter.unusedVariables false
set_option linter.unusedSimpArgs false
open Go.RowKit
set_option maxRecDepth 20000 in
set_option maxHeartbeats 4000000 in
theorem fcheck_nd (wd hi ev : Int) (qs : List Int) (t1 t2 : List Value) (sd : Value) (w : World) (hq : qs.length = 64) (h1 : t1.length = 17) (h2 : t2.length = 17) (k1 : inB wd 1 64 = true) (k2 : inB hi 1 64 = true) (k3 : inB ev 0 100 = false) :
    Calls Try.prog 23 #[.agg (fileL wd hi 1 qs t1 t2 ev sd).toArray] w fun e w' => e = .returned (.int .i64 1) ∧ Ext w w' := by
  have HF := hid_ (fun W g (hb : Blk W g 50 (fileL wd hi 1 qs t1 t2 ev sd).toArray) => fileB hb hq h1 h2)
  have W1 := hid_ (fun W => fwithin_any wd 1 64 W)
  have W2 := hid_ (fun W => fwithin_any hi 1 64 W)
  have W3 := hid_ (fun W => fwithin_any ev 0 100 W)
  generalize (fileL wd hi 1 qs t1 t2 ev sd).toArray = fv at *
  generalize inB wd 1 64 = b1 at *
  generalize inB hi 1 64 = b2 at *
  generalize inB ev 0 100 = b3 at *
  subst k1 k2 k3
  go_enter Try.func23, Try.ntmps23
  go_wp2_with (first
    | (refine wpList_box_abs rfl 50 (.tmp 0) rfl fv rfl ?_; intro w1 g hb1 hx1 hg; obtain ⟨c0, c1, c2, -, -, -, -, c101, -⟩ := HF.out _ _ hb1)
    | (go_at_call 45; (with_reducible refine (W1.out _).mono ?_); rintro e w2 ⟨rfl, rfl⟩)
    | (go_at_call 45; (with_reducible refine (W2.out _).mono ?_); rintro e w2 ⟨rfl, rfl⟩)
    | (go_at_call 45; (with_reducible refine (W3.out _).mono ?_); rintro e w2 ⟨rfl, rfl⟩))
  go_ret
  exact ⟨rfl, hx1⟩
end Go.Proofs.Ytlepchdlkhogiaa
/- file.Check: an argument out of its bounds. -/
namespace Go.Proofs.Ytlepchdlkhogiaa
set_option linter.unusedVariables false
set_option linter.unusedSimpArgs false
open Go.RowKit
set_option maxRecDepth 20000 in
set_option maxHeartbeats 4000000 in
theorem fcheck_ne (wd hi ev : Int) (qs : List Int) (t1 t2 : List Value) (sd : Value) (w : World) (hq : qs.length = 64) (h1 : t1.length = 17) (h2 : t2.length = 17) (k1 : inB wd 1 64 = true) (k2 : inB hi 1 64 = true) (k3 : inB ev 0 100 = false) :
    Calls Try.prog 23 #[.agg (fileL wd hi 3 qs t1 t2 ev sd).toArray] w fun e w' => e = .returned (.int .i64 1) ∧ Ext w w' := by
  have HF := hid_ (fun W g (hb : Blk W g 50 (fileL wd hi 3 qs t1 t2 ev sd).toArray) => fileB hb hq h1 h2)
  have W1 := hid_ (fun W => fwithin_any wd 1 64 W)
  have W2 := hid_ (fun W => fwithin_any hi 1 64 W)
  have W3 := hid_ (fun W => fwithin_any ev 0 100 W)
  generalize (fileL wd hi 3 qs t1 t2 ev sd).toArray = fv at *
  generalize inB wd 1 64 = b1 at *
  generalize inB hi 1 64 = b2 at *
  generalize inB ev 0 100 = b3 at *
  subst k1 k2 k3
  go_enter Try.func23, Try.ntmps23
  go_wp2_with (first
    | (refine wpList_box_abs rfl 50 (.tmp 0) rfl fv rfl ?_; intro w1 g hb1 hx1 hg; obtain ⟨c0, c1, c2, -, -, -, -, c101, -⟩ := HF.out _ _ hb1)
    | (go_at_call 45; (with_reducible refine (W1.out _).mono ?_); rintro e w2 ⟨rfl, rfl⟩)
    | (go_at_call 45; (with_reducible refine (W2.out _).mono ?_); rintro e w2 ⟨rfl, rfl⟩)
    | (go_at_call 45; (with_reducible refine (W3.out _).mono ?_); rintro e w2 ⟨rfl, rfl⟩))
  go_ret
  exact ⟨rfl, hx1⟩
end Go.Proofs.Ytlepchdlkhogiaa
/- file.Check: an argument out of its bounds. -/
namespace Go.Proofs.Ytlepchdlkhogiaa
set_option linter.unusedVariables false
set_option linter.unusedSimpArgs false
open Go.RowKit
theorem fcheck_no (wd hi pt ev : Int) (qs : List Int) (t1 t2 : List Value) (sd : Value) (w : World) (hq : qs.length = 64) (h1 : t1.length = 17) (h2 : t2.length = 17) (h : argsOK wd hi pt ev = false) :
    Calls Try.prog 23 #[.agg (fileL wd hi pt qs t1 t2 ev sd).toArray] w fun e w' => e = .returned (.int .i64 1) ∧ Ext w w' := by
  unfold argsOK at h
  cases k1 : inB wd 1 64 with
  | false => exact fcheck_na wd hi pt ev qs t1 t2 sd w hq h1 h2 k1
  | true =>
    cases k2 : inB hi 1 64 with
    | false => exact fcheck_nb wd hi pt ev qs t1 t2 sd w hq h1 h2 k1 k2
    | true =>
      by_cases p1 : pt = 1
      · subst p1
        cases k3 : inB ev 0 100 with
        | false => exact fcheck_nd wd hi ev qs t1 t2 sd w hq h1 h2 k1 k2 k3
        | true => rw [k1, k2, k3] at h; cases h
      · by_cases p3 : pt = 3
        · subst p3
          cases k3 : inB ev 0 100 with
          | false => exact fcheck_ne wd hi ev qs t1 t2 sd w hq h1 h2 k1 k2 k3
          | true => rw [k1, k2, k3] at h; cases h
        · exact fcheck_nc wd hi pt ev qs t1 t2 sd w hq h1 h2 k1 k2 (by simpa using p1) (by simpa using p3)
end Go.Proofs.Ytlepchdlkhogiaa
/- binary of the reference. -/
namespace Go.Proofs.Ytlepchdlkhogiaa
set_option linter.unusedVariables false
set_option linter.unusedSimpArgs false
open Go.RowKit
/-- the last k binary digits of n, as a string -/
def binS (n : Nat) : Nat → ByteArray
  | 0 => ⟨#[]⟩
  | k + 1 => Utf8.encode (48 + (((n / 2 ^ k) % 2 : Nat) : Int)) ++ binS n k
theorem digit_size (m : Nat) : (Utf8.encode (48 + ((m % 2 : Nat) : Int))).size = 1 := by
  rcases (show m % 2 = 0 ∨ m % 2 = 1 by omega) with h | h <;> rw [h] <;> decide
theorem binS_size (n k : Nat) : (binS n k).size = k := by
  induction k with
  | zero => rfl
  | succ k ih => unfold binS; rw [ByteArray.size_append, digit_size, ih]; omega
set_option maxHeartbeats 400000 in
theorem binary_any (width n : Nat) (w : World) (hw : width ≤ 1000) (hn : n ≤ 1000000000) :
    Calls Try.prog 102 #[.int .i64 (width : Int), .int .i64 (n : Int)] w fun e w' => e = .returned (.string (binS n width)) ∧ w = w' := by
  have HB := hid_ (binS_size n)
  have HN : Hid (∀ k, binS n (k + 1) = Utf8.encode (48 + (((n / 2 ^ k) % 2 : Nat) : Int)) ++ binS n k) := hid_ (fun k => rfl)
  go_enter Try.func102, Try.ntmps102
  go_wp2_with fail
  go_loop [1, 5, 7] (fun v s i => ∃ k m : Nat, k ≤ width ∧ m ≤ 1000000000 ∧ m = n / 2 ^ k ∧ i = .int .i64 (k : Int) ∧ v = .int .i64 (m : Int) ∧ s = .string (binS n k)) (fun _ _ i => width - (intOf i).toNat)
  case atStart => exact ⟨0, n, by omega, hn, by simp, rfl, rfl, rfl⟩
  case round =>
    obtain ⟨k, m, hk, hm, hmn, rfl, rfl, rfl⟩ := hrel
    have HM := hid_ hmn
    clear hmn
    by_cases hlt : k < width
    · have hd := digit_size m
      have hbs := HB.out k
      have HNK := hid_ (HN.out k)
      rw [← HM.out] at HNK
      have em : ((m % 2 : Nat) : Int) = (m : Int) % 2 := by omega
      rw [em] at hd HNK
      clear em
      generalize binS n k = b at *
      generalize hu : Utf8.encode (48 + (m : Int) % 2) = u at *
      have hlim : ¬ 9223372036854775807 < u.size + b.size := by omega
      go_wp2_with fail
      go_round
      case rel => exact ⟨k + 1, m / 2, by omega, by omega, by rw [HM.out, Nat.div_div_eq_div_mul, Nat.pow_succ], by go_num, by simp, by rw [HNK.out]⟩
      case measure => simp [intOf]; omega
    · obtain rfl : k = width := by omega
      go_wp2_with fail
      go_ret
      exact ⟨rfl, rfl⟩
end Go.Proofs.Ytlepchdlkhogiaa
/- power of the reference: 1 << k. -/
namespace Go.Proofs.Ytlepchdlkhogiaa
set_option linter.unusedVariables false
set_option linter.unusedSimpArgs false
open Go.RowKit
theorem pow_le (k m : Nat) (h : k ≤ m) : (2 : Int) ^ k ≤ 2 ^ m := by
  have := Nat.pow_le_pow_right (n := 2) (by omega) h
  exact_mod_cast this
theorem pow_pos' (k : Nat) : (1 : Int) ≤ 2 ^ k := by
  have := Nat.two_pow_pos k
  exact_mod_cast this
theorem power_any (k : Nat) (w : World) (hk : k ≤ 62) : Calls Try.prog 80 #[.int .i64 k] w fun e w' => e = .returned (.int .i64 (2 ^ k)) ∧ w = w' := by
  have h1 := pow_le k 62 hk
  have h2 := pow_pos' k
  have h3 : (2 : Int) ^ 62 = 4611686018427387904 := by decide
  rw [h3] at h1
  clear h3
  go_enter Try.func80, Try.ntmps80
  go_wp2
  go_ret
  exact ⟨rfl, rfl⟩
end Go.Proofs.Ytlepchdlkhogiaa
