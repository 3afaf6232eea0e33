/- wordOf of the reference. -/
import Derived.Test.YtlcpkngbpjfnjaaFindT
namespace Go.Proofs.Ytlcpkngbpjfnjaa
set_option linter.unusedVariables false
set_option linter.unusedSimpArgs false
open Go.RowKit
set_option maxRecDepth 20000 in
set_option maxHeartbeats 1000000 in
theorem wordOf_any (cs xs : List Int) (sl : Value) (s : Int) (w : World) (hl : cs.length = 16) (hs : SL w 1 sl xs.length (ints xs)) (h : checkZ cs xs = 0) :
    Calls Try.prog 19 #[.agg (tblv cs sl), .int .i64 s] w fun e w' => e = .returned (.tuple #[.string (strB (bitsT (zipC (codesW cs 16) xs) s)), .bool (findT (zipC (codesW cs 16) xs) s).isSome]) ∧ Ext w w' := by
  obtain ⟨hal, hsum, hx256, hok, -, -⟩ := checkZ_zero h
  have hlast := hid_ (fun W g (h : Blk W g 25 (tblv cs sl)) => tblv_last h hl)
  have hts := hid_ (tblv_size cs sl hl)
  have HWO := hid_ (fun W => wordsOf_yes cs sl W hl hal hok)
  have hlen : (codesW cs 16).length = xs.length := by have := codesW_len cs (fun z hz => (allIn_iff.1 hal z hz).1) 16 (by omega); omega
  have hol := outW_len cs
  rw [hlen] at hol
  rw [hol] at HWO
  have HAT := hid_ (outW_at cs)
  have HZ := hid_ (zipC_syms (codesW cs 16) xs hlen)
  have HZA := hid_ (zipC_at (codesW cs 16) xs)
  have HZL : Hid ((zipC (codesW cs 16) xs).length = xs.length) := hid_ (by rw [zipC_len _ _ (by omega), hlen])
  have HCL := hid_ hlen
  have hs' := hs
  obtain ⟨A, c, rfl, hc1, hc2, -, -⟩ := hs'
  generalize tblv cs (.slice A xs.length c) = tv at *
  generalize strs (outW cs 16) = SS at *
  generalize codesW cs 16 = C at *
  clear hal hok hsum h hol hlen
  go_enter Try.func19, Try.ntmps19
  go_wp2_with (first
    | (refine wpList_box_abs rfl 25 (.tmp 0) rfl tv rfl ?_; intro w1 g hb1 hx1 hg)
    | (refine wpList_load_blk rfl 25 (.tmp 2) rfl _ rfl hb1 _ Try.underlying25 rfl 17 sizeTbl hts.out ?_)
    | (go_at_call 34; (with_reducible refine (HWO.out _).mono ?_); rintro e w2 ⟨B, d, rfl, hs2, hx2⟩; have hc16 := hlast.out _ _ (hb1.ext hx2)))
  have hsx := hs.ext (hx1.trans hx2)
  have hxw := hx1.trans hx2
  clear hc16
  go_loop [18] (fun i => ∃ k : Nat, k ≤ xs.length ∧ i = .int .i64 (k : Int) ∧ s ∉ xs.take k) (fun i => xs.length - (intOf i).toNat)
  case atStart => exact ⟨0, by omega, rfl, by simp⟩
  case round =>
    obtain ⟨k, hk, rfl, hno⟩ := hrel
    have HNO := hid_ hno
    clear hno
    by_cases hlt : k < xs.length
    · have hkC : k < C.length := by have := HCL.out; omega
      obtain ⟨ad, u, hA, -, hxk, hcell⟩ := hsx.at1 hlt
      obtain ⟨hkl2, rfl⟩ := ints_at _ _ _ hxk
      obtain ⟨bd, u, hB, hbl, hsk, hcells⟩ := hs2.at1 hlt
      rw [HAT.out k hkC] at hsk
      injection hsk with hsk
      subst hsk
      subst hA hB
      clear hxk
      by_cases hq : xs[k] = s
      · have hq' : (xs[k] == s) = true := by simpa using hq
        have HF : Hid (findT (zipC C xs) s = some (s, ((C[k]).1 : Int), ((C[k]).2 : Int))) := hid_ (by
          have hkz : k < (zipC C xs).length := by rw [HZL.out]; exact hlt
          have e1 := HZA.out k hkC hkl2 hkz
          have := findT_at (Z := zipC C xs) (s := s) hkz (by rw [HZ.out]; exact HNO.out) (by rw [e1]; exact hq)
          rw [this, e1]
          simp [hq])
        have HBT := hid_ (bitsT_some HF.out)
        clear hq
        generalize C[k] = p at *
        obtain ⟨p1, p2⟩ := p
        simp only at HF HBT hcells
        go_wp2_with fail
        go_ret2
        rw [HBT.out, HF.out]
        exact ⟨rfl, hxw⟩
      · have hq' : (xs[k] == s) = false := by simpa using hq
        have HN : Hid (s ∉ xs.take (k + 1)) := hid_ (by
          rw [List.take_succ_eq_append_getElem hkl2, List.mem_append]
          exact fun h => h.elim HNO.out (fun h => hq (List.mem_singleton.1 h).symm))
        clear hq
        go_wp2_with fail
        go_round
        case rel => exact ⟨k + 1, by omega, by go_num, HN.out⟩
        case measure => simp [intOf]; omega
    · have HF : Hid (findT (zipC C xs) s = none) := hid_ (findT_none (by
        rw [HZ.out]
        have := HNO.out
        rwa [List.take_of_length_le (by omega)] at this))
      have HBT : Hid (bitsT (zipC C xs) s = []) := hid_ (by unfold bitsT; rw [HF.out])
      go_wp2_with fail
      go_ret2
      rw [HBT.out, HF.out]
      exact ⟨rfl, hxw⟩
end Go.Proofs.Ytlcpkngbpjfnjaa
