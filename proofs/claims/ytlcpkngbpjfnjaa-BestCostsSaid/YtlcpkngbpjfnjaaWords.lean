/- table.words, table.Words. -/
import Derived.Test.YtlcpkngbpjfnjaaWord
import Derived.Test.YtlcpkngbpjfnjaaCheck
namespace Go.Proofs.Ytlcpkngbpjfnjaa
set_option linter.unusedVariables false
set_option linter.unusedSimpArgs false
open Go.RowKit
/-- an owned row, its value written out -/
def OwnV (w : World) (base : Nat) (e : TypeId) (size : Nat) (v : Value) (n : Nat) (xs : List Value) : Prop := ∃ A c, v = .slice A n c ∧ w.ownsRow base e size (.slice A n c) n xs
theorem OwnV.mk {w : World} {base : Nat} {e : TypeId} {size n : Nat} {v : Value} {xs : List Value} (h : w.ownsRow base e size v n xs) : OwnV w base e size v n xs := by
  obtain ⟨A, c, rfl, -, -⟩ := own_form h
  exact ⟨A, c, rfl, h⟩
theorem OwnV.nil (w : World) (base : Nat) (e : TypeId) (size : Nat) : OwnV w base e size (.slice none 0 0) 0 [] := ⟨none, 0, rfl, World.ownsRow_nil _ _ _ _⟩
theorem own_out {w : World} {base : Nat} {e : TypeId} {size n c : Nat} {A : Option Addr} {xs : List Value} (h : w.ownsRow base e size (.slice A n c) n xs) : SL w size (.slice A n c) n xs ∧ ∀ ad, A = some ad → base ≤ ad.block := by
  obtain ⟨B, d, e1, h1, h2⟩ := own_form h
  injection e1 with e1 e2 e3
  subst e1 e3
  exact ⟨h1, h2⟩
theorem own_ext0 {w w' : World} {base : Nat} {e : TypeId} {size n : Nat} {v : Value} {xs : List Value} (h : w.ownsRow base e size v n xs) (hb : Ext w w') : w'.ownsRow base e size v n xs := by
  obtain ⟨hl, hh⟩ := h
  refine ⟨hl, ?_⟩
  rcases hh with ⟨rfl, rfl⟩ | ⟨g, cap, cur, rfl, h1, hg, h2⟩
  · exact .inl ⟨rfl, rfl⟩
  · exact .inr ⟨g, cap, cur, rfl, h1, (hb.block g (Blk.lt (w := w) (t := e) (cs := cur) hg)).trans hg, h2⟩
set_option maxRecDepth 20000 in
set_option maxHeartbeats 1000000 in
theorem words_any (cs xs : List Int) (sl : Value) (w : World) (hl : cs.length = 16) (hs : SL w 1 sl xs.length (ints xs)) (hal : allIn cs 0 256 = true) (hok : okW cs = true) (hsum : sumL cs 16 = xs.length) (hx256 : xs.length ≤ 256) :
    Calls Try.prog 30 #[.agg (tblv cs sl)] w fun e w' => ∃ A c, e = .returned (.slice A xs.length c) ∧ SL w' 3 (.slice A xs.length c) xs.length (toks (zipC (codesW cs 16) xs)) ∧ (∀ ad, A = some ad → w.heap.size ≤ ad.block) ∧ Ext w w' := by
  have hlast := hid_ (fun W g (h : Blk W g 25 (tblv cs sl)) => tblv_last h hl)
  have HRG := hid_ (fun W g (h : Blk W g 25 (tblv cs sl)) => tblv_range h)
  have hcl := hid_ ((ints_len cs).trans hl)
  have HIX := hid_ (fun k (hk : k < cs.length) (h16 : k < 16) => fun W => run_index16 (ints cs).toArray k (.int .i64 cs[k]) h16 (bv_at cs k hk) W)
  have HAL := hid_ (allIn_iff.1 hal)
  have HL := hid_ hl
  have HLEN : Hid ((codesW cs 16).length = xs.length) := hid_ (by have := codesW_len cs (fun z hz => (HAL.out z hz).1) 16 (by omega); omega)
  have HOKS := hid_ (fun k (hk : k < 16) => by simpa using List.all_eq_true.1 hok k (List.mem_range.2 hk))
  have hs' := hs
  obtain ⟨A, c, rfl, hc1, hc2, -, -⟩ := hs'
  generalize tblv cs (.slice A xs.length c) = tv at *
  clear hal hok hsum
  go_enter Try.func30, Try.ntmps30
  go_wp2_with (first
    | (refine wpList_box_abs rfl 25 (.tmp 0) rfl tv rfl ?_; intro w1 g hb1 hx1 hg)
    | (refine wpList_load_mid rfl 22 (.tmp 7) rfl g 0 rfl (ints cs) _ (HRG.out _ _ hb1) Try.underlying22 rfl (by rw [hcl.out]; exact size16) ?_))
  have hs1 := hs.ext hx1
  have hgw := hb1.lt
  have hsz1 := hx1.size
  go_loopw [3, 4, 9] (fun v nx i wr => ∃ k : Nat, k ≤ 16 ∧ i = .int .i64 (k : Int) ∧ nx = .int .i64 (nextW cs k : Nat) ∧ nextW cs k + 1 ≤ 2 ^ k ∧ OwnV wr w1.heap.size 51 3 v (codesW cs k).length (toks (zipC (codesW cs k) xs)) ∧ Ext w1 wr) (fun _ _ i _ => 16 - (intOf i).toNat)
  case atStart => exact ⟨0, by omega, rfl, rfl, by simp [nextW], by rw [codesW_zero]; exact OwnV.nil _ _ _ _, Ext.refl _⟩
  case round =>
    obtain ⟨k, hk, rfl, rfl, hnx, ⟨B0, d0, rfl, hown⟩, hx⟩ := hrel
    by_cases hlt : k < 16
    · have hsd : decide ((k : Int) < 16) = true := by simp; omega
      have hkl : k < cs.length := by have := HL.out; omega
      have hix := HIX.out k hkl hlt
      obtain ⟨q1, q2⟩ := HAL.out _ (List.getElem_mem hkl)
      obtain ⟨n, hn⟩ : ∃ n : Nat, cs[k] = (n : Int) := ⟨cs[k].toNat, by omega⟩
      have HNW := hid_ (nextW_succ cs k n hkl hn)
      have HCW := hid_ (codesW_step cs k n hkl hn)
      have HOK := hid_ (HOKS.out k hlt)
      have HMO := hid_ (codesW_mono cs (k + 1) 16 (by omega))
      rw [hn] at hix q1 q2
      have hp : (2 : Nat) ^ k ≤ 65536 := by have := Nat.pow_le_pow_right (n := 2) (by omega) hk; simpa using this
      have HP : Hid (2 ^ (k + 1) = 2 * 2 ^ k) := hid_ (by rw [Nat.pow_succ]; omega)
      have HRS := hid_ (rowC_succ cs k)
      have HR0 : Hid (rowC cs k 0 = []) := hid_ rfl
      have HRL := hid_ (rowC_len cs k)
      have hbound : (codesW cs k).length + n ≤ xs.length := by have h1 := HMO.out; have h2 := HLEN.out; rw [HCW.out, List.length_append, HRL.out] at h1; omega
      generalize nextW cs k = N at *
      generalize (2 : Nat) ^ k = Pw at *
      clear hn hkl
      generalize codesW cs k = C at *
      have HC0 : Hid (zipC (C ++ rowC cs k 0) xs = zipC C xs) := hid_ (by rw [HR0.out, List.append_nil])
      go_wp2_with fail
      go_loopw [3, 4, 16] (fun v nx i wr => ∃ j : Nat, j ≤ n ∧ i = .int .i64 (j : Int) ∧ nx = .int .i64 ((2 * N + j : Nat) : Int) ∧ OwnV wr w1.heap.size 51 3 v (C.length + j) (toks (zipC (C ++ rowC cs k j) xs)) ∧ Ext w1 wr) (fun _ _ i _ => n - (intOf i).toNat)
      case atStart => exact ⟨0, by omega, rfl, vint (by omega), by rw [HC0.out]; exact OwnV.mk hown, hx⟩
      case round =>
        clear hown hx
        obtain ⟨j, hj, rfl, rfl, ⟨B, d, rfl, hown⟩, hx⟩ := hrel
        have hclen : (C ++ rowC cs k j).length = C.length + j := by rw [List.length_append, HRL.out]
        have hzl : (zipC (C ++ rowC cs k j) xs).length = C.length + j := by rw [zipC_len _ _ (by omega), hclen]
        have hcz := hid_ hclen
        have HZL := hid_ hzl
        clear hclen
        by_cases hlj : j < n
        · have hix2 : C.length + j < xs.length := by omega
          have HZS : Hid (zipC (C ++ rowC cs k (j + 1)) xs = zipC (C ++ rowC cs k j) xs ++ [(xs[C.length + j], ((k + 1 : Nat) : Int), ((2 * N + j : Nat) : Int))]) := hid_ (by
            rw [HRS.out j, ← List.append_assoc, zipC_snoc _ _ _ (by rw [hcz.out]; exact hix2)]
            simp only [hcz.out])
          obtain ⟨ad, u, hA, -, hxk, hcell⟩ := (hs1.ext hx).at1 hix2
          obtain ⟨hkl2, rfl⟩ := ints_at _ _ _ hxk
          subst hA
          have hc16 := hlast.out _ _ (hb1.ext hx)
          generalize xs[C.length + j] = x at *
          generalize zipC (C ++ rowC cs k j) xs = T at *
          generalize hM : C.length + j = M at *
          have hM256 : M < 256 := by omega
          have HM := hid_ hM
          clear hxk hM hzl
          go_wp2_with (at_builtin; go_must (refine wpList_append_sl elt_word rfl _ _ rfl w1.heap.size _ _ _ rfl (hown.alloc _) _ 1 [.int .i64 _, .int .i64 _, .int .i64 _] rfl (one_sl3' _ _ _ _ _) (int3_one _ _ _) (by omega) (by omega) (by have := hx.size; simp; omega) ?_); intro v' w7 hown7 hb7)
          go_roundw
          case rel =>
            refine ⟨j + 1, by omega, by go_num, vint (by omega), ?_, (hx.alloc _).trans' hb7⟩
            rw [HZS.out]
            have := own_tok3 (T := T) (by rw [HZL.out]; exact hown7)
            rw [List.length_append, HZL.out, ← HM.out] at this
            simpa [Nat.add_assoc] using OwnV.mk this
          case measure => simp [intOf]; omega
        · obtain rfl : j = n := by omega
          clear hzl
          go_wp2_with fail
          go_roundw
          case rel => exact ⟨k + 1, by omega, by go_num, by rw [HNW.out], by rw [HNW.out, HP.out]; have := HOK.out; rw [HNW.out, HP.out] at this; omega, by rw [HCW.out, hcz.out]; exact OwnV.mk hown, hx⟩
          case measure => simp [intOf]; omega
    · have ek : k = 16 := by omega
      rw [ek] at hown ⊢
      rw [HLEN.out] at hown ⊢
      go_wp2_with fail
      go_ret
      obtain ⟨hsl, hfs⟩ := own_out hown
      exact ⟨B0, d0, rfl, hsl, fun ad h => by have := hfs ad h; omega, hx1.trans hx⟩
set_option maxHeartbeats 400000 in
theorem tWords_no (cs xs : List Int) (sl : Value) (w : World) (hl : cs.length = 16) (hs : SL w 1 sl xs.length (ints xs)) (h : checkZ cs xs ≠ 0) :
    Calls Try.prog 15 #[.agg (tblv cs sl)] w fun e w' => e = .returned (.tuple #[.slice none 0 0, .int .i64 (checkZ cs xs)]) ∧ Ext w w' := by
  have HC := hid_ (fun W h => check_any cs xs sl W hl h)
  have hts := hid_ (tblv_size cs sl hl)
  generalize tblv cs sl = tv at *
  generalize checkZ cs xs = z at *
  have hz : (z != 0) = true := by simpa using h
  clear h
  go_enter Try.func15, Try.ntmps15
  go_wp2_with (first
    | (refine wpList_box_abs rfl 25 (.tmp 0) rfl tv rfl ?_; intro w1 g hb1 hx1 hg; have hs1 := hs.ext hx1)
    | (refine wpList_load_blk rfl 25 (.tmp 1) rfl _ rfl hb1 _ Try.underlying25 rfl 17 sizeTbl hts.out ?_)
    | (go_at_call 29; (with_reducible refine (HC.out _ hs1).mono ?_); rintro e w2 ⟨rfl, hx2⟩))
  go_ret2
  exact ⟨rfl, hx1.trans hx2⟩
theorem checkZ_zero {cs xs : List Int} (h : checkZ cs xs = 0) : allIn cs 0 256 = true ∧ sumL cs 16 = xs.length ∧ xs.length ≤ 256 ∧ okW cs = true ∧ allIn xs 0 255 = true ∧ xs.Nodup := by
  unfold checkZ at h
  split at h
  · next h1 =>
    obtain ⟨q1, q2, q3⟩ := totOK_iff.1 h1
    split at h
    · next h2 =>
      split at h
      · next h3 =>
        simp only [Bool.and_eq_true, decide_eq_true_eq] at h3
        exact ⟨q1, q3, by omega, h3.2, h2, h3.1⟩
      · cases h
    · cases h
  · cases h
set_option maxHeartbeats 400000 in
theorem tWords_yes (cs xs : List Int) (sl : Value) (w : World) (hl : cs.length = 16) (hs : SL w 1 sl xs.length (ints xs)) (h : checkZ cs xs = 0) :
    Calls Try.prog 15 #[.agg (tblv cs sl)] w fun e w' => ∃ A c, e = .returned (.tuple #[.slice A xs.length c, .int .i64 0]) ∧ SL w' 3 (.slice A xs.length c) xs.length (toks (zipC (codesW cs 16) xs)) ∧ (∀ ad, A = some ad → w.heap.size ≤ ad.block) ∧ Ext w w' := by
  obtain ⟨q1, q2, q3, q4, -, -⟩ := checkZ_zero h
  have HC := hid_ (fun W h => check_any cs xs sl W hl h)
  rw [h] at HC
  have HW := hid_ (fun W h => words_any cs xs sl W hl h q1 q4 q2 q3)
  have hts := hid_ (tblv_size cs sl hl)
  generalize tblv cs sl = tv at *
  generalize zipC (codesW cs 16) xs = Z at *
  clear h q1 q2 q3 q4
  go_enter Try.func15, Try.ntmps15
  go_wp2_with (first
    | (refine wpList_box_abs rfl 25 (.tmp 0) rfl tv rfl ?_; intro w1 g hb1 hx1 hg; have hs1 := hs.ext hx1)
    | (refine wpList_load_blk rfl 25 (.tmp 1) rfl _ rfl hb1 _ Try.underlying25 rfl 17 sizeTbl hts.out ?_)
    | (go_at_call 29; (with_reducible refine (HC.out _ hs1).mono ?_); rintro e w2 ⟨rfl, hx2⟩; have hb2 := hb1.ext hx2; have hs2 := hs1.ext hx2)
    | (refine wpList_load_blk rfl 25 (.tmp 1) rfl _ rfl hb2 _ Try.underlying25 rfl 17 sizeTbl hts.out ?_)
    | (go_at_call 30; (with_reducible refine (HW.out _ hs2).mono ?_); rintro e w3 ⟨A, c, rfl, hs3, hf3, hx3⟩))
  go_ret2
  have := hx1.size
  have := hx2.size
  exact ⟨A, c, rfl, hs3, fun ad h => by have := hf3 ad h; omega, (hx1.trans hx2).trans hx3⟩
end Go.Proofs.Ytlcpkngbpjfnjaa
