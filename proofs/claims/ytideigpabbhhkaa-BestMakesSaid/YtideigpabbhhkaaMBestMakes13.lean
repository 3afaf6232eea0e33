/- Contracts for the law BestMakes, part 13: what the functions that it reaches answer, for all arguments that the theorems name. -/
import Derived.Test.YtideigpabbhhkaaMBestMakes12
import Derived.Test.YtideigpabbhhkaaMBestMakes1
import Derived.Test.YtideigpabbhhkaaMBestMakes3
import Derived.Test.YtideigpabbhhkaaMBestMakes10
/- best.check, best.Cost. -/
namespace Go.Proofs.Ytideigpabbhhkaa
set_option linter.unusedVariables false
set_option linter.unusedSimpArgs false
open Go.RowKit Go.Maps
def bcheckZ (counts : List Int) : Int := if 256 < counts.length then 2 else if allIn counts 0 9999 then 0 else 1
theorem bcheck1_any (z : Int) (w : World) : Calls Try.prog 36 (#[.int .i64 z] ++ #[]) w fun e w' => e = .returned (.bool (!inB z 0 9999)) ∧ w = w' := by
  by_cases h : z < 0
  · have h' : decide (z < 0) = true := by simpa using h
    have e : inB z 0 9999 = false := inB_not.2 (by omega)
    rw [e]; clear e
    go_enter Try.func36, Try.ntmps36
    go_wp2_with fail
    go_ret
    exact ⟨rfl, rfl⟩
  · have h' : decide (z < 0) = false := by simpa using h
    have e : (!inB z 0 9999) = decide (9999 < z) := by rw [Bool.eq_iff_iff]; simp [inB]; omega
    rw [e]; clear e
    go_enter Try.func36, Try.ntmps36
    go_wp2_with fail
    go_ret
    exact ⟨rfl, rfl⟩
theorem enters_bcheck1 : Enters Try.prog 36 := enters_of Try.func36 (by kernel_rfl) rfl
set_option maxHeartbeats 400000 in
theorem bcheck_any (counts : List Int) (v : Value) (w : World) (hv : SL w 1 v counts.length (ints counts)) :
    Calls Try.prog 25 #[v] w fun e w' => e = .returned (.int .i64 (bcheckZ counts)) ∧ w = w' := by
  have HCF := hid_ (fun W (hs : SL W 1 v counts.length (ints counts)) => containsFunc_any 36 #[] (fun z => !inB z 0 9999) enters_bcheck1 v counts W hs (fun z _ => bcheck1_any z W))
  simp only [inB_any] at HCF
  have hv' := hv
  obtain ⟨A, c, rfl, hc1, hc2, -, -⟩ := hv'
  unfold bcheckZ
  by_cases h : 256 < counts.length
  · rw [if_pos h]
    go_enter Try.func25, Try.ntmps25
    go_wp2_with fail
    go_ret
    exact ⟨rfl, rfl⟩
  · rw [if_neg h]
    cases ha : allIn counts 0 9999 with
    | true =>
      rw [ha] at HCF
      clear ha
      go_enter Try.func25, Try.ntmps25
      go_wp2_with (go_at_call 35; (with_reducible refine (HCF.out _ hv).mono ?_); rintro e w' ⟨rfl, rfl⟩)
      go_ret
      exact ⟨rfl, rfl⟩
    | false =>
      rw [ha] at HCF
      clear ha
      go_enter Try.func25, Try.ntmps25
      go_wp2_with (go_at_call 35; (with_reducible refine (HCF.out _ hv).mono ?_); rintro e w' ⟨rfl, rfl⟩)
      go_ret
      exact ⟨rfl, rfl⟩
/-- how long a symbol's word is -/
def lenT (T : List Tok) (s : Int) : Nat := (bitsT T s).length
/-- what the first k counts take -/
def costL (T : List Tok) (counts : List Int) : Nat → Int
  | 0 => 0
  | k + 1 => costL T counts k + counts.getD k 0 * (lenT T (k : Int) : Int)
theorem costL_succ (T : List Tok) (counts : List Int) (k : Nat) (h : k < counts.length) : costL T counts (k + 1) = costL T counts k + counts[k] * (lenT T (k : Int) : Int) := by
  show costL T counts k + counts.getD k 0 * (lenT T (k : Int) : Int) = _
  rw [show counts.getD k 0 = counts[k] by simp [h]]
def hasAll (T : List Tok) (counts : List Int) : Bool := (List.range counts.length).all fun k => decide (counts.getD k 0 ≤ 0) || (findT T (k : Int)).isSome
def costZ (cs xs counts : List Int) : Int × Int :=
  if checkZ cs xs = 0 then (if bcheckZ counts = 0 then (if hasAll (zipC (codesW cs 16) xs) counts then (costL (zipC (codesW cs 16) xs) counts counts.length, 0) else (0, 5)) else (0, bcheckZ counts)) else (0, checkZ cs xs)
theorem bcheck_zero {counts : List Int} (h : bcheckZ counts = 0) : counts.length ≤ 256 ∧ allIn counts 0 9999 = true := by
  unfold bcheckZ at h
  split at h
  · cases h
  · split at h
    · next h1 h2 => exact ⟨by omega, h2⟩
    · cases h
theorem hasAll_no {T : List Tok} {counts : List Int} {k : Nat} (hk : k < counts.length) (h : 0 < counts[k]) (hf : findT T (k : Int) = none) : hasAll T counts = false := by
  rw [← Bool.not_eq_true]
  intro h2
  have := List.all_eq_true.1 h2 k (List.mem_range.2 hk)
  simp [hf, hk] at this
  omega
theorem hasAll_yes {T : List Tok} {counts : List Int} (h : ∀ k, (hk : k < counts.length) → counts[k] ≤ 0 ∨ (findT T (k : Int)).isSome = true) : hasAll T counts = true := by
  refine List.all_eq_true.2 fun k hk => ?_
  have hk' := List.mem_range.1 hk
  rcases h k hk' with h1 | h1
  · simp [hk', h1]
  · simp [h1]
theorem costL_bd {T : List Tok} (hf : FitT T) {counts : List Int} (ha : allIn counts 0 9999 = true) : ∀ k, k ≤ counts.length → 0 ≤ costL T counts k ∧ costL T counts k ≤ 159984 * k := by
  intro k
  induction k with
  | zero => intro _; simp [costL]
  | succ k ih =>
    intro hk
    obtain ⟨a, b⟩ := ih (by omega)
    have h1 := allIn_iff.1 ha _ (List.getElem_mem (show k < counts.length by omega))
    have h2 := bitsT_len hf (k : Int)
    have e : counts.getD k 0 = counts[k]'(by omega) := by simp [show k < counts.length by omega]
    show 0 ≤ costL T counts k + counts.getD k 0 * (lenT T (k : Int) : Int) ∧ costL T counts k + counts.getD k 0 * (lenT T (k : Int) : Int) ≤ _
    rw [e]
    unfold lenT
    obtain ⟨z, hz⟩ : ∃ z : Nat, counts[k]'(by omega) = (z : Int) := ⟨(counts[k]'(by omega)).toNat, by omega⟩
    rw [hz] at h1 ⊢
    generalize (bitsT T (k : Int)).length = n at *
    have : z * n ≤ 9999 * 16 := Nat.mul_le_mul (by omega) h2
    have h5 : ((z * n : Nat) : Int) = (z : Int) * (n : Int) := by push_cast; rfl
    constructor
    · rw [← h5]; omega
    · rw [← h5]; push_cast; omega
/-- the map of lengths -/
def longF (T : List Tok) (s : Int) : Option Value := (T.find? (fun t => t.1 == s)).map (fun t => Value.int .i64 t.2.1)
theorem longF_snoc_same (T : List Tok) (t : Tok) (h : ∀ u ∈ T, u.1 ≠ t.1) : longF (T ++ [t]) t.1 = some (.int .i64 t.2.1) := by
  have h1 : T.find? (fun u => u.1 == t.1) = none := by
    rw [List.find?_eq_none]
    intro u hu
    simpa using h u hu
  unfold longF
  rw [List.find?_append, h1]
  simp
theorem longF_snoc_other (T : List Tok) (t : Tok) (s : Int) (h : s ≠ t.1) : longF (T ++ [t]) s = longF T s := by
  have h1 : [t].find? (fun u => u.1 == s) = none := by
    rw [List.find?_eq_none]
    intro u hu
    have : u = t := by simpa using hu
    subst this
    simpa using fun h2 => h h2.symm
  unfold longF
  rw [List.find?_append, h1, Option.or_none]
theorem longF_look {T : List Tok} (hf : FitT T) (s : Int) : (longF T s).getD (.int .i64 0) = .int .i64 (lenT T s : Nat) := by
  unfold longF lenT bitsT
  cases h : findT T s with
  | none => unfold findT at h; rw [h]; rfl
  | some t =>
    obtain ⟨long, code, rfl, h1, h2, h3⟩ := hf s t h
    unfold findT at h
    rw [h]
    simp [digs_len]
theorem lenT_zero {T : List Tok} (hf : FitT T) (s : Int) : lenT T s = 0 ↔ findT T s = none := by
  unfold lenT bitsT
  cases h : findT T s with
  | none => simp
  | some t =>
    obtain ⟨long, code, rfl, h1, h2, h3⟩ := hf s t h
    simp [digs_len]
    omega
theorem keyed_int' : Keyed Try.prog 3 := int_keyed Try.underlying3
theorem zero_int (w : World) : (zeroValue 3).run Try.prog w = .ok (.int .i64 0) w := by kernel_rfl
theorem zipC_apart1 (cs xs : List Int) (hxs : xs.Nodup) (hl : (codesW cs 16).length = xs.length) (k : Nat) (hk : k < (zipC (codesW cs 16) xs).length) :
    ∀ u ∈ (zipC (codesW cs 16) xs).take k, u.1 ≠ ((zipC (codesW cs 16) xs)[k]).1 := by
  have hz : (zipC (codesW cs 16) xs).length = xs.length := by rw [zipC_len _ _ (by omega), hl]
  generalize codesW cs 16 = C at *
  intro u hu
  obtain ⟨j, hj, rfl⟩ := List.mem_iff_getElem.1 hu
  simp at hj
  rw [List.getElem_take]
  rw [zipC_at C xs j (by omega) (by omega), zipC_at C xs k (by omega) (by omega)]
  intro e
  have := (List.getElem_inj hxs).1 e
  omega
set_option maxRecDepth 20000 in
set_option maxHeartbeats 1000000 in
theorem cost_bad (cs xs counts : List Int) (sl sv : Value) (w : World) (hl : cs.length = 16) (hs : SL w 1 sl xs.length (ints xs)) (hv : SL w 1 sv counts.length (ints counts)) (h : checkZ cs xs ≠ 0 ∨ (checkZ cs xs = 0 ∧ bcheckZ counts ≠ 0)) :
    Calls Try.prog 13 #[.agg (tblv cs sl), sv] w fun e w' => e = .returned (.tuple #[.int .i64 (costZ cs xs counts).1, .int .i64 (costZ cs xs counts).2]) ∧ Ext w w' := by
  have hts := hid_ (tblv_size cs sl hl)
  rcases h with h | ⟨h, h2⟩
  · have HW := hid_ (fun W h' => tWords_no cs xs sl W hl h' h)
    have HE : Hid (costZ cs xs counts = (0, checkZ cs xs)) := hid_ (by unfold costZ; rw [if_neg h])
    rw [HE.out]
    generalize tblv cs sl = tv at *
    generalize checkZ cs xs = z at *
    have hz : (z == 0) = false := by simpa using h
    have hz2 : (z != 0) = true := by simpa using h
    clear h
    go_enter Try.func13, Try.ntmps13
    go_wp2_with (first
      | (refine wpList_box_abs rfl 25 (.tmp 0) rfl tv rfl ?_; intro w1 g hb1 hx1 hg; have hs1 := hs.ext hx1)
      | (refine wpList_load_blk rfl 25 (.tmp 2) rfl _ rfl hb1 _ Try.underlying25 rfl 17 sizeTbl hts.out ?_)
      | (go_at_call 10; (with_reducible refine (HW.out _ hs1).mono ?_); rintro e w2 ⟨rfl, hx2⟩))
    go_ret2
    exact ⟨rfl, hx1.trans hx2⟩
  · have HW := hid_ (fun W h' => tWords_yes cs xs sl W hl h' h)
    have HB := hid_ (fun W h' => bcheck_any counts sv W h')
    have HE : Hid (costZ cs xs counts = (0, bcheckZ counts)) := hid_ (by unfold costZ; rw [if_pos h, if_neg h2])
    rw [HE.out]
    generalize tblv cs sl = tv at *
    generalize bcheckZ counts = z at *
    have hz2 : (z != 0) = true := by simpa using h2
    clear h h2
    go_enter Try.func13, Try.ntmps13
    go_wp2_with (first
      | (refine wpList_box_abs rfl 25 (.tmp 0) rfl tv rfl ?_; intro w1 g hb1 hx1 hg; have hs1 := hs.ext hx1)
      | (refine wpList_load_blk rfl 25 (.tmp 2) rfl _ rfl hb1 _ Try.underlying25 rfl 17 sizeTbl hts.out ?_)
      | (go_at_call 10; (with_reducible refine (HW.out _ hs1).mono ?_); rintro e w2 ⟨B, d, rfl, hs2, hf2, hx2⟩; have hv2 := (hv.ext hx1).ext hx2)
      | (go_at_call 25; (with_reducible refine (HB.out _ hv2).mono ?_); rintro e w3 ⟨rfl, rfl⟩))
    go_ret2
    exact ⟨rfl, hx1.trans hx2⟩
set_option maxRecDepth 20000 in
set_option maxHeartbeats 1000000 in
theorem cost_good (cs xs counts : List Int) (sl sv : Value) (w : World) (hl : cs.length = 16) (hs : SL w 1 sl xs.length (ints xs)) (hv : SL w 1 sv counts.length (ints counts)) (h : checkZ cs xs = 0) (h2 : bcheckZ counts = 0) :
    Calls Try.prog 13 #[.agg (tblv cs sl), sv] w fun e w' => e = .returned (.tuple #[.int .i64 (costZ cs xs counts).1, .int .i64 (costZ cs xs counts).2]) ∧ Ext w w' := by
  have hts := hid_ (tblv_size cs sl hl)
  have HW := hid_ (fun W h' => tWords_yes cs xs sl W hl h' h)
  have HB := hid_ (fun W h' => bcheck_any counts sv W h')
  rw [h2] at HB
  obtain ⟨q1, q2, q3, q4, q5, q6⟩ := checkZ_zero h
  obtain ⟨b1, b2⟩ := bcheck_zero h2
  have hlen : (codesW cs 16).length = xs.length := by have := codesW_len cs (fun z hz => (allIn_iff.1 q1 z hz).1) 16 (by omega); omega
  have HZL : Hid ((zipC (codesW cs 16) xs).length = xs.length) := hid_ (by rw [zipC_len _ _ (by omega), hlen])
  have HAP := hid_ (zipC_apart1 cs xs q6 hlen)
  have HF := hid_ (fitT_of cs xs hl h)
  have HAT := hid_ (fun k (h1 : k < (codesW cs 16).length) (h2 : k < xs.length) hk => zipC_at (codesW cs 16) xs k h1 h2 hk)
  have HIN := hid_ (allIn_iff.1 q5)
  have HBD : Hid (∀ k (hk : k < (zipC (codesW cs 16) xs).length), 0 ≤ ((zipC (codesW cs 16) xs)[k]).1 ∧ ((zipC (codesW cs 16) xs)[k]).1 ≤ 255) := hid_ (fun k hk => by
    have := HZL.out
    have hk1 : k < (codesW cs 16).length := by omega
    have hk2 : k < xs.length := by omega
    rw [HAT.out k hk1 hk2 hk]
    exact HIN.out _ (List.getElem_mem hk2))
  have HE : Hid (costZ cs xs counts = if hasAll (zipC (codesW cs 16) xs) counts then (costL (zipC (codesW cs 16) xs) counts counts.length, 0) else (0, 5)) := hid_ (by unfold costZ; rw [if_pos h, if_pos h2])
  have HCB := hid_ (costL_bd HF.out b2)
  have HALL := hid_ (allIn_iff.1 b2)
  have hmm := @run_makeMap Try.prog
  generalize costZ cs xs counts = ez at *
  generalize tblv cs sl = tv at *
  generalize zipC (codesW cs 16) xs = T at *
  clear h h2 q1 q2 q4 q5 q6 b2 hlen HAT HIN
  have hv' := hv
  obtain ⟨Av, cv, rfl, hcv1, hcv2, -, -⟩ := hv'
  go_enter Try.func13, Try.ntmps13
  go_wp2_with (first
    | (refine wpList_box_abs rfl 25 (.tmp 0) rfl tv rfl ?_; intro w1 g hb1 hx1 hg; have hs1 := hs.ext hx1)
    | (refine wpList_load_blk rfl 25 (.tmp 2) rfl _ rfl hb1 _ Try.underlying25 rfl 17 sizeTbl hts.out ?_)
    | (go_at_call 10; (with_reducible refine (HW.out _ hs1).mono ?_); rintro e w2 ⟨B, d, rfl, hs2, hf2, hx2⟩; have hv2 := (hv.ext hx1).ext hx2)
    | (go_at_call 25; (with_reducible refine (HB.out _ hv2).mono ?_); rintro e w3 ⟨rfl, rfl⟩))
  have hm0 : MapI Try.prog 3 (w2.alloc (.map #[] 0)) w2.heap.size 0 (longF []) := MapG.made w2
  have hxw := (hx1.trans hx2).alloc (.map #[] 0)
  have hzw := (hx1.trans hx2).size
  have hE25 : Below w2.heap.size w2 (w2.alloc (.map #[] 0)) := (Ext.refl w2).alloc _
  have hd1 : xs.length ≤ d ∧ d ≤ 9223372036854775807 := by obtain ⟨A', c', e, h1, h2, -⟩ := hs2; injection e with e1 e2 e3; subst e3; exact ⟨h1, h2⟩
  obtain ⟨hd1, hd2⟩ := hd1
  generalize hM : w2.heap.size = M at *
  have hw2z : w2.heap.size ≤ M := by omega
  generalize hw5 : w2.alloc (.map #[] 0) = w5 at *
  have hw5z : M < w5.heap.size := by rw [← hw5, World.size_alloc]; omega
  clear hw5 hM hmm hs1 hb1 hx1 hx2 hs hv
  go_loopw [29] (fun i wr => ∃ k : Nat, k ≤ xs.length ∧ i = .int .i64 (k : Int) ∧ MapI Try.prog 3 wr M k (longF (T.take k)) ∧ Upd (fun b => b = M) w5 wr) (fun i _ => xs.length - (intOf i).toNat)
  case atStart => exact ⟨0, by omega, rfl, hm0, Upd.refl _ _⟩
  case round =>
    clear hm0
    obtain ⟨k, hk, rfl, hm, hu⟩ := hrel
    by_cases hlt : k < xs.length
    · have hkT : k < T.length := by have := HZL.out; omega
      have hslr := hs2.below (hE25.trans (hu.below (fun x hx => by omega) (by omega))) hw2z
      obtain ⟨ad, rfl, hbl, h1, h2, h3⟩ := hslr.tok hlt HZL.out hkT
      have a1 := HAP.out k hkT
      obtain ⟨b3, b4⟩ := HBD.out k hkT
      have HS1 := hid_ (longF_snoc_same (T.take k) T[k] a1)
      have HS2 := hid_ (fun s => longF_snoc_other (T.take k) T[k] s)
      have HTS : Hid (T.take (k + 1) = T.take k ++ [T[k]]) := hid_ (List.take_succ_eq_append_getElem hkT)
      generalize T[k] = t at *
      obtain ⟨t1, t2, t3⟩ := t
      simp only at b3 b4 h1 h2 h3
      have hkey1 := hid_ (keyOf_i64 (P := Try.prog) Try.underlying3 (a := t1) (by omega) (by omega))
      have hma := hm.alloc (.cells #[.int .i64 t1, .int .i64 t2, .int .i64 t3] 35)
      have hua := hu.trans (Upd.of_ext (S := fun _ => False) ((Ext.refl wr).alloc (.cells #[.int .i64 t1, .int .i64 t2, .int .i64 t3] 35))) (fun x hx => hx.elim)
      clear a1 hm hu hslr
      go_wp2_with (at_mapUpdate; refine wpList_upd_g (by rfl) _ _ _ 55 3 rfl keyed_int' Try.underlying55 rfl hma (by omega) _ rfl _ rfl t1 hkey1.out (longF (T.take k ++ [(t1, t2, t3)])) HS1.out (fun j _ hj => HS2.out j (fun e => hj (by rw [e]))) (fun j _ hj => by injection hj) ?_; intro w7 hm7 hg7)
      go_roundw
      case rel => exact ⟨k + 1, by omega, by go_num, by rw [HTS.out]; exact hm7, hua.grown hg7 (fun b hb => .inl (by injection hb with hb; exact hb.symm))⟩
      case measure => simp [intOf]; omega
    · have ek : k = xs.length := by omega
      have HFT : Hid (T.take k = T) := hid_ (List.take_of_length_le (by have := HZL.out; omega))
      rw [HFT.out] at hm
      have hvr : SL wr 1 (.slice Av counts.length cv) counts.length (ints counts) := hv2.below (hE25.trans (hu.below (fun x hx => by omega) (by omega))) hw2z
      have hxr := hu.ext hxw (by omega)
      have HLK := hid_ (longF_look HF.out)
      have HLZ := hid_ (lenT_zero HF.out)
      have HLB : Hid (∀ s, lenT T s ≤ 16) := hid_ (fun s => bitsT_len HF.out s)
      clear hs2 hv2 hu hxw ek
      go_wp2_with fail
      go_loop [11, 41] (fun v i => ∃ k : Nat, k ≤ counts.length ∧ i = .int .i64 (k : Int) ∧ v = .int .i64 (costL T counts k) ∧ (∀ j, (hj : j < counts.length) → j < k → counts[j] ≤ 0 ∨ (findT T (j : Int)).isSome = true)) (fun _ i => counts.length - (intOf i).toNat)
      case atStart => exact ⟨0, by omega, rfl, rfl, by intro j _ hj; omega⟩
      case round =>
        obtain ⟨m, hmk, rfl, rfl, hall⟩ := hrel
        have HALR := hid_ hall
        clear hall
        by_cases hlt2 : m < counts.length
        · obtain ⟨ad, u, hA, -, hxk, hcell⟩ := hvr.at1 hlt2
          obtain ⟨hkl, rfl⟩ := ints_at _ _ _ hxk
          subst hA
          obtain ⟨n0, n1⟩ := HALL.out _ (List.getElem_mem hkl)
          obtain ⟨z0, z1⟩ := HCB.out m (by omega)
          have HCS := hid_ (costL_succ T counts m hkl)
          have hlk := HLK.out (m : Int)
          have hlz := HLZ.out (m : Int)
          have hlb := HLB.out (m : Int)
          have HNO := hid_ (fun h h' => hasAll_no (T := T) hkl h h')
          have hkeym := hid_ (keyOf_i64 (P := Try.prog) Try.underlying3 (a := (m : Int)) (by omega) (by omega))
          generalize hn : counts[m] = n at *
          have HN := hid_ hn
          clear hxk hn
          obtain ⟨nn, rfl⟩ : ∃ nn : Nat, n = (nn : Int) := ⟨n.toNat, by omega⟩
          have hprod : nn * lenT T (m : Int) ≤ 9999 * 16 := Nat.mul_le_mul (by omega) hlb
          have HLKM := hid_ hlk
          have HLZM := hid_ hlz
          clear hlk hlz
          generalize lenT T (m : Int) = l at *
          have hp0 : (0 : Int) ≤ (nn : Int) * (l : Int) := by rw [← Int.natCast_mul]; omega
          have hp1 : (nn : Int) * (l : Int) ≤ 159984 := by rw [← Int.natCast_mul]; omega
          by_cases hpos : 0 < nn
          · have hd : decide ((0 : Int) < (nn : Int)) = true := by simpa using hpos
            by_cases hl0 : l = 0
            · have HNO' := hid_ (HNO.out (by omega) (HLZM.out.1 hl0))
              have HLK0 : Hid ((longF T (m : Int)).getD (.int .i64 0) = .int .i64 0) := hid_ (by rw [HLKM.out, hl0]; rfl)
              clear hprod hl0
              go_wp2_with (at_lookup; refine wpList_look_g (by rfl) _ _ 55 3 rfl keyed_int' Try.underlying55 _ (zero_int _) rfl hm _ rfl (m : Int) trivial hkeym.out _ HLK0.out ?_)
              go_ret2
              rw [HE.out, HNO'.out]
              exact ⟨rfl, hxr⟩
            · have hl1 : ((l : Int) == 0) = false := by simpa using hl0
              have HSM : Hid ((findT T (m : Int)).isSome = true) := hid_ (by
                cases hq : findT T (m : Int) with
                | none => exact absurd (HLZM.out.2 hq) hl0
                | some t => rfl)
              clear hprod hl0
              go_wp2_with (first
                | (at_lookup; refine wpList_look_g (by rfl) _ _ 55 3 rfl keyed_int' Try.underlying55 _ (zero_int _) rfl hm _ rfl (m : Int) trivial hkeym.out _ HLKM.out ?_))
              go_round
              case rel =>
                refine ⟨m + 1, by omega, by go_num, by rw [HCS.out], fun j hj hjm => ?_⟩
                by_cases hjk : j = m
                · subst hjk; exact .inr HSM.out
                · exact HALR.out j hj (by omega)
              case measure => simp [intOf]; omega
          · have hd : decide ((0 : Int) < (nn : Int)) = false := by simpa using hpos
            obtain rfl : nn = 0 := by omega
            have hzm : ((0 : Nat) : Int) * (l : Int) = 0 := by simp
            clear hprod hpos hd
            go_wp2_with (at_lookup; refine wpList_look_g (by rfl) _ _ 55 3 rfl keyed_int' Try.underlying55 _ (zero_int _) rfl hm _ rfl (m : Int) trivial hkeym.out _ HLKM.out ?_)
            go_round
            case rel =>
              refine ⟨m + 1, by omega, by go_num, vint (by rw [HCS.out]; simp), fun j hj hjm => ?_⟩
              by_cases hjk : j = m
              · subst hjk; exact .inl (by have := HN.out; omega)
              · exact HALR.out j hj (by omega)
            case measure => simp [intOf]; omega
        · have emk : m = counts.length := by omega
          have HYES := hid_ (hasAll_yes (T := T) (counts := counts) (fun j hj => HALR.out j hj (by omega)))
          rw [emk]
          go_wp2_with fail
          go_ret2
          rw [HE.out, HYES.out]
          exact ⟨rfl, hxr⟩
theorem cost_any (cs xs counts : List Int) (sl sv : Value) (w : World) (hl : cs.length = 16) (hs : SL w 1 sl xs.length (ints xs)) (hv : SL w 1 sv counts.length (ints counts)) :
    Calls Try.prog 13 #[.agg (tblv cs sl), sv] w fun e w' => e = .returned (.tuple #[.int .i64 (costZ cs xs counts).1, .int .i64 (costZ cs xs counts).2]) ∧ Ext w w' := by
  by_cases h : checkZ cs xs = 0
  · by_cases h2 : bcheckZ counts = 0
    · exact cost_good cs xs counts sl sv w hl hs hv h h2
    · exact cost_bad cs xs counts sl sv w hl hs hv (.inr ⟨h, h2⟩)
  · exact cost_bad cs xs counts sl sv w hl hs hv (.inl h)
end Go.Proofs.Ytideigpabbhhkaa
/- best.Make: facts for its end: counts in a map, the head of a row. -/
namespace Go.Proofs.Ytideigpabbhhkaa
set_option linter.unusedVariables false
set_option linter.unusedSimpArgs false
open Go.RowKit
theorem run_headP (A : Option Addr) (n c h : Nat) (hh : h ≤ n) (hc : n ≤ c) (w : World) :
    (Instr.slice 60 (.slice A n c) none (some (.int .i64 (h : Int))) none).run Try.prog w = .ok (.slice A h c) w := by
  have e2 : ((h : Int) ≤ (c : Int)) := by omega
  go_simp
theorem ex_headP {o : Oper} {a : Act} {x hi : Operand} (ho : o.op = .slice 60 x none (some hi) none) {A : Option Addr} {n c h : Nat} (hx : a.eval x = .slice A n c) (h1 : a.eval hi = .int .i64 (h : Int)) (hh : h ≤ n) (hc : n ≤ c) (w : World) :
    (execOp a.eval o).run Try.prog w = .ok (.value (.slice A h c)) w := by
  simp [execOp, ho, hx, h1, Instr.sliceAt, Sem.run_bind, run_underlying Try.underlying60, run_headP A n c h hh hc w]
theorem zeroPkV : (Try.prog.info? 59).bind (·.zero) = some (.agg (pkV (0, .slice none 0 0))) := by kernel_rfl
theorem le_mul32 {x y j k : Nat} (a : x ≤ y * k) (b : y ≤ j) : x ≤ j * k := Nat.le_trans a (Nat.mul_le_mul_right k b)
theorem pk_one (z : Int) (A : Option Addr) (n c : Nat) : (pkV (z, .slice A n c)).all (·.oneCell') = true := by simp [pkV, Value.oneCell']
/-- how often each symbol stands in C, as a map -/
def cntF (C : List Int) (s : Int) : Option Value := if C.count s = 0 then none else some (.int .i64 ((C.count s : Nat) : Int))
theorem cntF_nil : cntF [] = fun _ => none := by funext s; simp [cntF]
theorem cntF_look (C : List Int) (s : Int) : (cntF C s).getD (.int .i64 0) = .int .i64 ((C.count s : Nat) : Int) := by
  unfold cntF
  split
  · rename_i h; rw [h]; rfl
  · rfl
theorem cntF_same (C : List Int) (s : Int) : cntF (C ++ [s]) s = some (.int .i64 ((C.count s + 1 : Nat) : Int)) := by
  unfold cntF
  rw [List.count_append, List.count_singleton_self, if_neg (by omega)]
theorem cntF_other (C : List Int) (s t : Int) (h : t ≠ s) : cntF (C ++ [s]) t = cntF C t := by
  unfold cntF
  rw [List.count_append, List.count_cons, List.count_nil]
  simp [Ne.symm h]
theorem MapG.not_cells {ι : Type} {P : Program} {k : TypeId} {kl : ι → Lit} {ok : ι → Prop} {w : World} {b n : Nat} {g : ι → Option Value} (h : MapG P k kl ok w b n g) {T : TypeId} {cs : Array Value} : ¬ Blk w b T cs := by
  obtain ⟨D, ⟨es, clock, hb, -⟩, -⟩ := h
  intro q
  unfold Blk at q
  rw [hb] at q
  cases q
theorem own_map_ne {ι : Type} {P : Program} {k : TypeId} {kl : ι → Lit} {ok : ι → Prop} {w : World} {b n B s m : Nat} {g : ι → Option Value} {e : TypeId} {v : Value} {xs : List Value} (ho : w.ownsRow B e s v m xs) (h : MapG P k kl ok w b n g) : some b ≠ v.ownBlock := fun q => by
  obtain ⟨cs, hc⟩ := own_typed ho b q.symm
  exact h.not_cells (T := e) (cs := cs) hc
namespace BM
theorem cont_take_succ (L : List Pack) (j : Nat) (h : j < L.length) : cont (L.take (j + 1)) = cont (L.take j) ++ L[j].2 := by
  rw [List.take_succ_eq_append_getElem h, cont_append]
  simp [cont]
theorem cont_len {L : List Pack} {b : Nat} (h : ∀ p ∈ L, p.2.length ≤ b) : (cont L).length ≤ L.length * b := by
  induction L with
  | nil => simp [cont]
  | cons p L ih =>
    have h1 := h p (by simp)
    have h2 := ih (fun q hq => h q (by simp [hq]))
    have e : cont (p :: L) = p.2 ++ cont L := by simp [cont]
    rw [e, List.length_append, List.length_cons, Nat.add_mul]
    omega
theorem singN_syms (cs : List Int) : ∀ i, ∀ p ∈ singN cs i, ∀ s ∈ p.2, -1 ≤ s ∧ s < i
  | 0, p, hp, s, hs => by simp [singN] at hp; subst hp; simp at hs; omega
  | i + 1, p, hp, s, hs => by
    rw [singN, List.mem_append] at hp
    rcases hp with hp | hp
    · have := singN_syms cs i p hp s hs; omega
    · split at hp
      · have e : p = ((cs.getD i 0).toNat, [(i : Int)]) := by simpa using hp
        subst e
        simp at hs
        omega
      · cases hp
theorem Reach.syms {S : List Pack} {R : Int → Prop} (hS : ∀ p ∈ S, ∀ s ∈ p.2, R s) : ∀ {f L}, Reach S f L → ∀ p ∈ L, ∀ s ∈ p.2, R s
  | _, _, .zero, p, hp => hS p hp
  | _, _, .step h hp _, p, hm => by
    have h1 := hp.subset hm
    rcases List.mem_append.1 h1 with h1 | h1
    · obtain ⟨x, hx, y, hy, e⟩ := pairP_mem _ _ h1
      subst e
      intro s hs
      rcases List.mem_append.1 hs with hs | hs
      · exact h.syms hS x hx s hs
      · exact h.syms hS y hy s hs
    · exact hS p h1
end BM
end Go.Proofs.Ytideigpabbhhkaa
