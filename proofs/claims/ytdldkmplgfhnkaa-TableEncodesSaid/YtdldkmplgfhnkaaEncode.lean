/- Coder.Put, table.Encode. -/
import Derived.Test.YtdldkmplgfhnkaaCoder
import Derived.Test.YtdldkmplgfhnkaaBytes
import Derived.Test.YtdldkmplgfhnkaaOpenTable
namespace Go.Proofs.Ytdldkmplgfhnkaa
set_option linter.unusedVariables false
set_option linter.unusedSimpArgs false
open Go.RowKit Go.Maps Go.WideMaps
theorem SL.below {w w' : World} {size n B : Nat} {v : Value} {xs : List Value} (h : SL w size v n xs) (hb : Below B w w') (hB : w.heap.size ≤ B) : SL w' size v n xs := by
  obtain ⟨A, c, rfl, h1, h1', h2, h3⟩ := h
  refine ⟨A, c, rfl, h1, h1', h2, fun hn => ?_⟩
  obtain ⟨ad, e, hlt, hc⟩ := h3 hn
  exact ⟨ad, e, Nat.lt_of_lt_of_le hlt hb.size, fun j u hu => (hb.cell (by rw [block_of_add]; omega)).trans (hc j u hu)⟩
theorem zero_word (w : World) : (zeroValue 35).run Try.prog w = .ok (.agg #[.int .i64 0, .int .i64 0, .int .i64 0]) w := by kernel_rfl
def findT (T : List Tok) (s : Int) : Option Tok := T.find? (fun t => t.1 == s)
theorem symF_some {T : List Tok} {s : Int} {t : Tok} (h : findT T s = some t) : symF T s = some (.agg #[.int .i64 t.1, .int .i64 t.2.1, .int .i64 t.2.2]) := by
  unfold symF; unfold findT at h; rw [h]; rfl
theorem symF_none {T : List Tok} {s : Int} (h : findT T s = none) : symF T s = none := by
  unfold symF; unfold findT at h; rw [h]; rfl
set_option maxHeartbeats 400000 in
theorem coderPut_no (gc gw : Nat) (T : List Tok) (s : Int) (w : World) (hc : CoderS w gc T) (hf : findT T s = none) (h0 : -9223372036854775808 ≤ s) (h1 : s ≤ 9223372036854775807) :
    Calls Try.prog 32 #[.pointer (some ⟨gc, 0, none⟩), .pointer (some ⟨gw, 0, none⟩), .int .i64 s] w fun e w' => e = .returned (.bool false) ∧ Ext w w' := by
  obtain ⟨m1, m2, n, hB, hm1, hm2⟩ := hc
  have c0 := hB.cell 0
  simp only [List.getElem?_toArray, List.getElem?_cons_zero] at c0
  have HS := hid_ (symF_none hf)
  have hkey := hid_ (keyOf_i64 (P := Try.prog) Try.underlying3 h0 h1)
  clear hf
  go_enter Try.func32, Try.ntmps32
  go_wp2_with (at_lookup; refine wpList_look_ok_g (by rfl) _ _ 97 35 rfl keyed_int Try.underlying97 _ (zero_word _) rfl hm1 _ rfl s trivial hkey.out (.agg #[.int .i64 0, .int .i64 0, .int .i64 0]) (by rw [HS.out]; rfl) false (by rw [HS.out]; rfl) ?_)
  go_ret
  exact ⟨rfl, (Ext.refl w).alloc _⟩
set_option maxHeartbeats 400000 in
theorem coderPut_yes (gc gw : Nat) (T : List Tok) (L : List Bool) (r : Option Nat) (s : Int) (long code : Nat) (w : World) (hc : CoderS w gc T) (hw : WrS w gw L r) (hf : findT T s = some (s, (long : Int), (code : Int))) (h0 : -9223372036854775808 ≤ s) (h1 : s ≤ 9223372036854775807)
    (hlong : long ≤ 24) (hcode : code < 2 ^ long) (hl : L.length ≤ 1000000000000) :
    Calls Try.prog 32 #[.pointer (some ⟨gc, 0, none⟩), .pointer (some ⟨gw, 0, none⟩), .int .i64 s] w fun e w' => e = .returned (.bool true) ∧
      ∃ r', WrS w' gw (L ++ digs code long) r' ∧ (r' = r ∨ ∃ b, r' = some b ∧ w.heap.size ≤ b) ∧ Upd (fun b => b = gw ∨ r = some b) w w' := by
  obtain ⟨m1, m2, n, hB, hm1, hm2⟩ := hc
  have c0 := hB.cell 0
  simp only [List.getElem?_toArray, List.getElem?_cons_zero] at c0
  have HS := hid_ (symF_some hf)
  simp only at HS
  have HP := hid_ (fun W (hW : WrS W gw L r) => put_any gw L r code long W hW hlong hcode hl)
  have hkey := hid_ (keyOf_i64 (P := Try.prog) Try.underlying3 h0 h1)
  clear hf hcode
  generalize digs code long = D at *
  go_enter Try.func32, Try.ntmps32
  go_wp2_with (first
    | (at_lookup; refine wpList_look_ok_g (by rfl) _ _ 97 35 rfl keyed_int Try.underlying97 _ (zero_word _) rfl hm1 _ rfl s trivial hkey.out (.agg #[.int .i64 s, .int .i64 (long : Int), .int .i64 (code : Int)]) (by rw [HS.out]; rfl) true (by rw [HS.out]; rfl) ?_)
    | (go_at_call 42; (with_reducible refine (HP.out _ (hw.ext ((Ext.refl w).alloc _))).mono ?_); rintro e w5 ⟨rfl, r', hW5, hrr, hu5⟩))
  go_ret
  exact ⟨rfl, r', hW5, hrr.imp id (fun ⟨b, h1, h2⟩ => ⟨b, h1, by rw [World.size_alloc] at h2; omega⟩), (Upd.of_ext (S := fun b => b = gw ∨ r = some b) ((Ext.refl w).alloc _)).trans hu5 (fun x hx => .inl hx)⟩
/-- the digits of a symbol's word -/
def bitsT (T : List Tok) (s : Int) : List Bool := match findT T s with | some t => digs t.2.2.toNat t.2.1.toNat | none => []
def encL (T : List Tok) (syms : List Int) : List Bool := syms.flatMap (bitsT T)
/-- the words of a table fit -/
def FitT (T : List Tok) : Prop := ∀ s t, findT T s = some t → ∃ long code : Nat, t = (s, (long : Int), (code : Int)) ∧ 1 ≤ long ∧ long ≤ 16 ∧ code < 2 ^ long
theorem fitT_of (cs xs : List Int) (hl : cs.length = 16) (h : checkZ cs xs = 0) : FitT (zipC (codesW cs 16) xs) := by
  obtain ⟨q1, q2, q3, q4, q5, q6⟩ := checkZ_zero h
  have hfit := codesW_fit cs q4 hl 16 (by omega)
  intro s t ht
  have hm := List.mem_of_find?_eq_some ht
  have hs := List.find?_some ht
  simp only [beq_iff_eq] at hs
  unfold zipC at hm
  obtain ⟨i, hi, rfl⟩ := List.mem_iff_getElem.1 hm
  simp only [List.getElem_zipWith] at hs ⊢
  simp only [List.length_zipWith] at hi
  obtain ⟨f1, f2, f3⟩ := hfit _ (List.getElem_mem (show i < (codesW cs 16).length by omega))
  exact ⟨_, _, by rw [hs], f1, f2, by omega⟩
theorem bitsT_some {T : List Tok} {s : Int} {long code : Nat} (h : findT T s = some (s, (long : Int), (code : Int))) : bitsT T s = digs code long := by
  unfold bitsT; rw [h]; simp
theorem encL_succ (T : List Tok) (syms : List Int) (k : Nat) (h : k < syms.length) : encL T (syms.take (k + 1)) = encL T (syms.take k) ++ bitsT T syms[k] := by
  unfold encL
  rw [List.take_succ_eq_append_getElem h, List.flatMap_append]
  simp
theorem bitsT_len {T : List Tok} (hf : FitT T) (s : Int) : (bitsT T s).length ≤ 16 := by
  unfold bitsT
  cases h : findT T s with
  | none => simp
  | some t =>
    obtain ⟨long, code, rfl, h1, h2, h3⟩ := hf s t h
    simp [digs_len]
    omega
theorem encL_len {T : List Tok} (hf : FitT T) (syms : List Int) : (encL T syms).length ≤ 16 * syms.length := by
  induction syms with
  | nil => simp [encL]
  | cons s l ih =>
    have := bitsT_len hf s
    simp only [encL, List.flatMap_cons, List.length_append, List.length_cons] at ih ⊢
    omega
def allT (T : List Tok) (syms : List Int) : Bool := syms.all fun s => (findT T s).isSome
/-- what Encode answers -/
def encZ (cs xs syms : List Int) : List Nat × Int :=
  if checkZ cs xs = 0 then (if syms.length ≤ 20000 then (if allT (zipC (codesW cs 16) xs) syms then (packB (padB (encL (zipC (codesW cs 16) xs) syms)), 0) else ([], 5)) else ([], 2)) else ([], checkZ cs xs)
theorem allT_no {T : List Tok} {syms : List Int} {k : Nat} (hk : k < syms.length) (h : findT T syms[k] = none) : allT T syms = false := by
  rw [← Bool.not_eq_true]
  intro h2
  have := List.all_eq_true.1 h2 _ (List.getElem_mem hk)
  simp [h] at this
theorem allT_yes {T : List Tok} {syms : List Int} (h : ∀ s ∈ syms, (findT T s).isSome = true) : allT T syms = true := List.all_eq_true.2 h
set_option maxRecDepth 20000 in
set_option maxHeartbeats 1000000 in
theorem encode_bad (cs xs syms : List Int) (sl sv : Value) (w : World) (hl : cs.length = 16) (hs : SL w 1 sl xs.length (ints xs)) (hv : SL w 1 sv syms.length (ints syms)) (h : checkZ cs xs ≠ 0 ∨ (checkZ cs xs = 0 ∧ 20000 < syms.length)) :
    Calls Try.prog 15 #[.agg (tblv cs sl), sv] w fun e w' => e = .returned (.tuple #[.slice none 0 0, .int .i64 (encZ cs xs syms).2]) ∧ (encZ cs xs syms).1 = [] ∧ Ext w w' := by
  have HC := hid_ (fun W h => check_any cs xs sl W hl h)
  have hts := hid_ (tblv_size cs sl hl)
  obtain ⟨A, c, rfl, hc1, hc2, -, -⟩ := hv
  rcases h with h | ⟨h, h2⟩
  · have HE : Hid (encZ cs xs syms = ([], checkZ cs xs)) := hid_ (by unfold encZ; rw [if_neg h])
    rw [HE.out]
    generalize tblv cs sl = tv at *
    generalize checkZ cs xs = z at *
    have hz : (z != 0) = true := by simpa using h
    clear h
    go_enter Try.func15, Try.ntmps15
    go_wp2_with (first
      | (refine wpList_box_abs rfl 25 (.tmp 0) rfl tv rfl ?_; intro w1 g hb1 hx1 hg; have hs1 := hs.ext hx1)
      | (refine wpList_load_blk rfl 25 (.tmp 2) rfl _ rfl hb1 _ Try.underlying25 rfl 17 sizeTbl hts.out ?_)
      | (go_at_call 9; (with_reducible refine (HC.out _ hs1).mono ?_); rintro e w2 ⟨rfl, hx2⟩))
    go_ret2
    exact ⟨rfl, (by first | trivial | rfl), hx1.trans hx2⟩
  · have HE : Hid (encZ cs xs syms = ([], 2)) := hid_ (by unfold encZ; rw [if_pos h, if_neg (by omega)])
    rw [HE.out]
    rw [h] at HC
    generalize tblv cs sl = tv at *
    clear h
    go_enter Try.func15, Try.ntmps15
    go_wp2_with (first
      | (refine wpList_box_abs rfl 25 (.tmp 0) rfl tv rfl ?_; intro w1 g hb1 hx1 hg; have hs1 := hs.ext hx1)
      | (refine wpList_load_blk rfl 25 (.tmp 2) rfl _ rfl hb1 _ Try.underlying25 rfl 17 sizeTbl hts.out ?_)
      | (go_at_call 9; (with_reducible refine (HC.out _ hs1).mono ?_); rintro e w2 ⟨rfl, hx2⟩))
    go_ret2
    exact ⟨rfl, (by first | trivial | rfl), hx1.trans hx2⟩
set_option maxRecDepth 20000 in
set_option maxHeartbeats 1000000 in
theorem encode_good (cs xs syms : List Int) (sl sv : Value) (w : World) (hl : cs.length = 16) (hs : SL w 1 sl xs.length (ints xs)) (hv : SL w 1 sv syms.length (ints syms)) (hin : ∀ z ∈ syms, inI64 z) (h : checkZ cs xs = 0) (h2 : syms.length ≤ 20000) :
    Calls Try.prog 15 #[.agg (tblv cs sl), sv] w fun e w' => ∃ A c, e = .returned (.tuple #[.slice A (encZ cs xs syms).1.length c, .int .i64 (encZ cs xs syms).2]) ∧ SL w' 1 (.slice A (encZ cs xs syms).1.length c) (encZ cs xs syms).1.length (bytesV (encZ cs xs syms).1) ∧ Ext w w' := by
  have HC := hid_ (fun W h => check_any cs xs sl W hl h)
  rw [h] at HC
  have HN := hid_ (fun W h' => newCoder_any cs xs sl W hl h' h)
  have hts := hid_ (tblv_size cs sl hl)
  have HF := hid_ (fitT_of cs xs hl h)
  have HE : Hid (encZ cs xs syms = if allT (zipC (codesW cs 16) xs) syms then (packB (padB (encL (zipC (codesW cs 16) xs) syms)), 0) else ([], 5)) := hid_ (by unfold encZ; rw [if_pos h, if_pos h2])
  generalize encZ cs xs syms = ez at *
  generalize zipC (codesW cs 16) xs = T at *
  generalize tblv cs sl = tv at *
  have HIN := hid_ hin
  have hv' := hv
  obtain ⟨A, c, rfl, hc1, hc2, -, -⟩ := hv'
  clear h hin
  go_enter Try.func15, Try.ntmps15
  go_wp2_with (first
    | (refine wpList_box_abs rfl 25 (.tmp 0) rfl tv rfl ?_; intro w1 g hb1 hx1 hg; have hs1 := hs.ext hx1)
    | (refine wpList_load_blk rfl 25 (.tmp 2) rfl _ rfl hb1 _ Try.underlying25 rfl 17 sizeTbl hts.out ?_)
    | (go_at_call 9; (with_reducible refine (HC.out _ hs1).mono ?_); rintro e w2 ⟨rfl, hx2⟩; have hb2 := hb1.ext hx2; have hs2 := hs1.ext hx2)
    | (refine wpList_load_blk rfl 25 (.tmp 2) rfl _ rfl hb2 _ Try.underlying25 rfl 17 sizeTbl hts.out ?_)
    | (go_at_call 31; (with_reducible refine (HN.out _ hs2).mono ?_); rintro e w3 ⟨gc, rfl, hcd, hx3⟩))
  have hx : Ext w w3 := (hx1.trans hx2).trans hx3
  have hvs := hv.ext hx
  have hw0 := WrS.nil (w3.alloc (.cells #[.slice none 0 0, .int .u64 0, .int .i64 0] 68)) w3.heap.size (Blk.new _ _ _)
  have hbw : Below w3.heap.size w3 (w3.alloc (.cells #[.slice none 0 0, .int .u64 0, .int .i64 0] 68)) := (Ext.refl w3).alloc _
  generalize hgw : w3.heap.size = gw at *
  have hgw' : w3.heap.size ≤ gw := by omega
  clear hgw hb1 hb2 hs1 hs2 hx1 hx2 hx3 hs
  go_loopw [25] (fun i wr => ∃ (k : Nat) (r : Option Nat), k ≤ syms.length ∧ i = .int .i64 (k : Int) ∧ WrS wr gw (encL T (syms.take k)) r ∧ (∀ s ∈ syms.take k, (findT T s).isSome = true) ∧ Below gw w3 wr) (fun i _ => syms.length - (intOf i).toNat)
  case atStart => exact ⟨0, none, by omega, rfl, by simpa [encL] using hw0, by simp, hbw⟩
  case round =>
    clear hw0 hbw
    obtain ⟨k, r, hk, rfl, hwr, hall, hbl⟩ := hrel
    have HALL := hid_ hall
    clear hall
    by_cases hlt : k < syms.length
    · obtain ⟨ad, u, rfl, -, hxk, hcell⟩ := (hvs.below hbl hgw').at1 hlt
      obtain ⟨hkl, rfl⟩ := ints_at _ _ _ hxk
      clear hxk
      obtain ⟨i0, i1⟩ := HIN.out _ (List.getElem_mem hkl)
      have hcr := hcd.below hgw' hbl
      have HES := hid_ (encL_succ T syms k hkl)
      have HLL := hid_ (encL_len HF.out (syms.take k))
      have hll : (encL T (syms.take k)).length ≤ 1000000000000 := by have := HLL.out; have : (syms.take k).length ≤ k := List.length_take_le _ _; omega
      cases hf : findT T syms[k] with
      | none =>
        have HNO := hid_ (allT_no hkl hf)
        have HP := hid_ (fun W h => coderPut_no gc gw T syms[k] W h hf i0 i1)
        clear hf
        generalize syms[k] = s at *
        go_wp2_with (go_at_call 32; (with_reducible refine (HP.out _ hcr).mono ?_); rintro e w5 ⟨rfl, hx5⟩)
        go_ret2
        rw [HE.out, HNO.out]
        exact ⟨none, 0, rfl, SL.nil _ _, (hx.trans (show Ext w3 wr from Below.mono hbl hgw')).trans hx5⟩
      | some t =>
        obtain ⟨long, code, rfl, f1, f2, f3⟩ := HF.out _ _ hf
        have HBT := hid_ (bitsT_some hf)
        have HP := hid_ (fun W h1 h2 => coderPut_yes gc gw T (encL T (syms.take k)) r syms[k] long code W h1 h2 hf i0 i1 (by omega) f3 hll)
        have HAS : Hid (∀ s ∈ syms.take (k + 1), (findT T s).isSome = true) := hid_ (fun s hs => by
          rw [List.take_succ_eq_append_getElem hkl] at hs
          rcases List.mem_append.1 hs with h1 | h1
          · exact HALL.out s h1
          · simp at h1; subst h1; rw [hf]; rfl)
        have hrow := hwr.row
        have hgl := hwr.lt
        clear hf f3
        generalize syms[k] = s at *
        generalize hd : digs code long = D at *
        have HD := hid_ hd
        clear hd
        go_wp2_with (go_at_call 32; (with_reducible refine (HP.out _ hcr hwr).mono ?_); rintro e w5 ⟨rfl, r', hw5, hrr, hu5⟩)
        go_roundw
        case rel =>
          refine ⟨k + 1, r', by omega, by go_num, ?_, HAS.out, hbl.trans (hu5.below (fun x hx => ?_) (by omega))⟩
          · rw [HES.out, HBT.out]; exact hw5
          · rcases hx with rfl | hx
            · exact Nat.le_refl _
            · have := hrow x hx; omega
        case measure => simp [intOf]; omega
    · have ek : k = syms.length := by omega
      have e1 : syms.take k = syms := List.take_of_length_le (by omega)
      rw [e1] at hwr HALL
      have HYES := hid_ (allT_yes HALL.out)
      have HLL := hid_ (encL_len HF.out syms)
      have HB := hid_ (fun W h => bytes_any gw (encL T syms) r W h (by have := HLL.out; omega))
      have hrow := hwr.row
      have hgl := hwr.lt
      have HEZ : Hid (ez = (packB (padB (encL T syms)), 0)) := hid_ (by rw [HE.out, HYES.out]; rfl)
      generalize packB (padB (encL T syms)) = out at *
      go_wp2_with (go_at_call 33; (with_reducible refine (HB.out _ hwr).mono ?_); rintro e w6 ⟨A6, c6, rfl, hs6, hf6, hu6⟩)
      go_ret2
      rw [HEZ.out]
      refine ⟨A6, c6, rfl, hs6, hx.trans (show Ext w3 w6 from Below.mono (hbl.trans (hu6.below (fun x hx => ?_) (by omega))) hgw')⟩
      rcases hx with rfl | hx
      · exact Nat.le_refl _
      · have := hrow x hx; omega
end Go.Proofs.Ytdldkmplgfhnkaa
