/- Contracts for the law BestMakes, part 12: what the functions that it reaches answer, for all arguments that the theorems name. -/
import Derived.Maps.OwnSet
import Derived.Test.YtideigpabbhhkaaMBestMakes1
import Derived.Test.YtideigpabbhhkaaMBestMakes11
import Derived.Outline
import Derived.Test.YtideigpabbhhkaaMBestMakes9
/- Maps that the call makes: elements as they are, read as a function of the keys. -/
namespace Go.Proofs.Ytideigpabbhhkaa
set_option linter.unusedVariables false
set_option linter.unusedSimpArgs false
open Go.RowKit Go.Maps
/-- an element reads as itself -/
def VR (v : Value) : Option (DataW Value × List MemPlace) := some (.held v, [])
/-- block b is a map of at most n entries; at the key of i it holds g i -/
def MapG {ι : Type} (P : Program) (k : TypeId) (kl : ι → Lit) (ok : ι → Prop) (w : World) (b n : Nat) (g : ι → Option Value) : Prop :=
  ∃ D : DataW Value, w.ownsMap P k VR b n D ∧ IsMap D ∧ ∀ i, ok i → Maps.has D (kl i) = (g i).isSome ∧ ∀ z, D.atKey (kl i) (.held z) = .held ((g i).getD z)
section
variable {ι : Type} {P : Program} {k : TypeId} {kl : ι → Lit} {ok : ι → Prop} {w w' : World} {b n : Nat} {g : ι → Option Value}
theorem MapG.made (w : World) : MapG P k kl ok (w.alloc (.map #[] 0)) w.heap.size 0 (fun _ => none) :=
  ⟨.map [], World.ownsMap_made _ _ _ _, isMap_empty, fun _ _ => ⟨rfl, fun _ => rfl⟩⟩
theorem MapG.lt (h : MapG P k kl ok w b n g) : b < w.heap.size := by obtain ⟨D, h1, -⟩ := h; exact h1.lt
theorem MapG.alloc (h : MapG P k kl ok w b n g) (o : Obj) : MapG P k kl ok (w.alloc o) b n g := by
  obtain ⟨D, h1, h2⟩ := h; exact ⟨D, h1.alloc o, h2⟩
theorem MapG.ext (h : MapG P k kl ok w b n g) (hx : Ext w w') : MapG P k kl ok w' b n g := by
  obtain ⟨D, ⟨es, clock, hb, r⟩, h2⟩ := h
  refine ⟨D, ⟨es, clock, (hx.block b ?_).trans hb, r⟩, h2⟩
  exact World.ownsMap.lt (R := VR) ⟨es, clock, hb, r⟩
theorem MapG.grown {row : Option Nat} (h : MapG P k kl ok w b n g) (hg : w.grownBy w' row) (hne : some b ≠ row) : MapG P k kl ok w' b n g := by
  obtain ⟨D, h1, h2⟩ := h; exact ⟨D, h1.kept hg hne, h2⟩
theorem MapG.below {B : Nat} (h : MapG P k kl ok w b n g) (hx : Below B w w') (hb : b < B) : MapG P k kl ok w' b n g := by
  obtain ⟨D, ⟨es, clock, h3, r⟩, h2⟩ := h
  exact ⟨D, ⟨es, clock, (hx.block b hb).trans h3, r⟩, h2⟩
theorem MapG.setCell (h : MapG P k kl ok w b n g) {a : Addr} (ha : b ≠ a.block) (u : Value) : MapG P k kl ok (w.setCell a u) b n g := by
  obtain ⟨D, h1, h2⟩ := h; exact ⟨D, h1.setCell ha u, h2⟩
theorem MapG.mono (h : MapG P k kl ok w b n g) {m : Nat} (hm : n ≤ m) : MapG P k kl ok w b m g := by
  obtain ⟨D, h1, h2⟩ := h; exact ⟨D, h1.mono hm, h2⟩
variable {ops : Array Oper} {rest : List Oper} {o : Oper} {a : Act} {Q : Exit → Act → World → Prop}
theorem wpList_look_g (hw : Region.wanted o (yielded ops a.tmps) = true) (m x : Operand) (t e : TypeId) (hop : o.op = Op.lookup t m x false) (K : Keyed P k) (ht : P.underlying t = some (.map k e))
    (z : Value) (hz : (zeroValue e).run P w = .ok z w) (hm : a.eval m = .map (some b)) (h : MapG P k kl ok w b n g) (key : Value) (hx : a.eval x = key)
    (i : ι) (hi : ok i) (hk : keyOf P k key = some (kl i)) (u : Value) (hu : (g i).getD z = u) (hK : wpList P ops Q rest (a.put o.dst u) w) : wpList P ops Q (o :: rest) a w := by
  refine wpList_wanted hw fun K' hK' => ?_
  obtain ⟨D, h1, -, h2⟩ := h
  obtain ⟨v, ps, hrun, hv⟩ := h1.lookup K ht hz (zd := .held z) (zp := []) rfl hk
  rw [(h2 i hi).2 z, hu] at hv
  have : v = u := by unfold VR at hv; injection hv with hv; injection hv with hv _; injection hv
  subst this
  unfold Oper.wp
  simp [execOp, hop, hm, hx, hrun, Result.andThen]
  exact hK' _ _ hK
theorem wpList_look_ok_g (hw : Region.wanted o (yielded ops a.tmps) = true) (m x : Operand) (t e : TypeId) (hop : o.op = Op.lookup t m x true) (K : Keyed P k) (ht : P.underlying t = some (.map k e))
    (z : Value) (hz : (zeroValue e).run P w = .ok z w) (hm : a.eval m = .map (some b)) (h : MapG P k kl ok w b n g) (key : Value) (hx : a.eval x = key)
    (i : ι) (hi : ok i) (hk : keyOf P k key = some (kl i)) (u : Value) (hu : (g i).getD z = u) (c : Bool) (hc : (g i).isSome = c) (hK : wpList P ops Q rest (a.put o.dst (.tuple #[u, .bool c])) w) : wpList P ops Q (o :: rest) a w := by
  refine wpList_wanted hw fun K' hK' => ?_
  obtain ⟨D, h1, -, h2⟩ := h
  obtain ⟨v, ps, hrun, hv⟩ := h1.look_ok K ht hz (zd := .held z) (zp := []) rfl hk
  rw [(h2 i hi).2 z, hu] at hv
  rw [(h2 i hi).1, hc] at hrun
  have : v = u := by unfold VR at hv; injection hv with hv; injection hv with hv _; injection hv
  subst this
  unfold Oper.wp
  simp [execOp, hop, hm, hx, hrun, Result.andThen]
  exact hK' _ _ hK
theorem wpList_upd_g (hw : Region.wanted o (yielded ops a.tmps) = true) (m x y : Operand) (t e : TypeId) (hop : o.op = Op.mapUpdate t m x y) (K : Keyed P k) (ht : P.underlying t = some (.map k e))
    (hm : a.eval m = .map (some b)) (h : MapG P k kl ok w b n g) (hn : n < 9223372036854775807) (key : Value) (hx : a.eval x = key) (v : Value) (hy : a.eval y = v)
    (i : ι) (hk : keyOf P k key = some (kl i)) (g' : ι → Option Value) (h1 : g' i = some v) (h2 : ∀ j, ok j → kl j ≠ kl i → g' j = g j) (h3 : ∀ j, ok j → kl j = kl i → j = i)
    (hK : ∀ w', MapG P k kl ok w' b (n + 1) g' → w.grownBy w' (some b) → wpList P ops Q rest (a.put o.dst undef) w') : wpList P ops Q (o :: rest) a w := by
  refine wpList_wanted hw fun K' hK' => ?_
  obtain ⟨D, d1, d3, d2⟩ := h
  obtain ⟨w', hrun, r1, r2⟩ := d1.update K ht (by unfold maxLen; omega) hk (val := v) (d := .held v) (ps := []) rfl
  unfold Oper.wp
  simp [execOp, hop, hm, hx, hy, hrun, Result.andThen]
  refine hK' _ _ (hK w' ⟨_, r1, d3.put _ _, fun j hj => ?_⟩ r2)
  by_cases e1 : kl j = kl i
  · obtain rfl := h3 j hj e1
    rw [has_put_same d3 (K.key hk), h1]
    exact ⟨rfl, fun z => atKey_put_same d3 (K.key hk) _ _⟩
  · rw [has_put_other e1, h2 j hj e1]
    exact ⟨(d2 j hj).1, fun z => by rw [atKey_put_other e1]; exact (d2 j hj).2 z⟩
end
/-- integer keys -/
abbrev MapI (P : Program) (k : TypeId) (w : World) (b n : Nat) (g : Int → Option Value) : Prop := MapG P k (fun x : Int => Lit.int .i64 x) (fun _ => True) w b n g
theorem keyOf_i64 {P : Program} {k : TypeId} (hk : P.underlying k = some (.int .i64)) {a : Int} (h0 : -9223372036854775808 ≤ a) (h1 : a ≤ 9223372036854775807) : keyOf P k (.int .i64 a) = some (.int .i64 a) :=
  keyOf_int_mk hk (WalkArith.wf_i64 ⟨by omega, by omega⟩)
theorem ext_grown_new {a w w' : World} (h : Ext a w) {g : Nat} (hg : w.grownBy w' (some g)) (hB : a.heap.size ≤ g) : Ext a w' := h.grown hg hB
end Go.Proofs.Ytideigpabbhhkaa
/- table.Check. -/
namespace Go.Proofs.Ytideigpabbhhkaa
set_option linter.unusedVariables false
set_option linter.unusedSimpArgs false
open Go.RowKit Go.Maps
theorem keyed_int : Keyed Try.prog 3 := int_keyed Try.underlying3
theorem zero_bool (w : World) : (zeroValue 4).run Try.prog w = .ok (.bool false) w := by kernel_rfl
/-- the set of the first numbers of a list -/
def seenF (l : List Int) (x : Int) : Option Value := if x ∈ l then some (.bool true) else none
theorem seenF_look (l : List Int) (x : Int) : (seenF l x).getD (.bool false) = .bool (decide (x ∈ l)) := by
  unfold seenF; by_cases h : x ∈ l <;> simp [h]
/-- what Check needs of its table -/
theorem check_tot (cs xs : List Int) (sl : Value) (w : World) (hl : cs.length = 16) (hs : SL w 1 sl xs.length (ints xs)) (h : totOK cs xs = false) :
    Calls Try.prog 7 #[.agg (tblv cs sl)] w fun e w' => e = .returned (.int .i64 4) ∧ Ext w w' := by
  have HT := hid_ (fun W => total_any cs sl W hl)
  have hlast := hid_ (fun W g (h : Blk W g 25 (tblv cs sl)) => tblv_last h hl)
  have hts := hid_ (tblv_size cs sl hl)
  have hq : (totalZ cs).2 = false ∨ ((totalZ cs).2 = true ∧ ((totalZ cs).1 != (xs.length : Int)) = true) := by
    unfold totOK at h
    unfold totalZ
    cases h1 : allIn cs 0 256 with
    | false => left; simp
    | true =>
      rw [h1] at h
      simp only [if_true]
      by_cases h2 : sumL cs 16 ≤ 256
      · right
        simp [h2] at h ⊢
        exact h
      · left; simpa using h2
  generalize totalZ cs = tz at *
  obtain ⟨all, is⟩ := tz
  generalize tblv cs sl = tv at *
  obtain ⟨A, c, rfl, hc1, hc2, -, -⟩ := hs
  rcases hq with hq | ⟨hq, hq2⟩
  · simp only at hq
    subst hq
    go_enter Try.func7, Try.ntmps7
    go_wp2_with (first
      | (refine wpList_box_abs rfl 25 (.tmp 0) rfl tv rfl ?_; intro w1 g hb1 hx1 hg)
      | (refine wpList_load_blk rfl 25 (.tmp 1) rfl _ rfl hb1 _ Try.underlying25 rfl 17 sizeTbl hts.out ?_)
      | (go_at_call 19; (with_reducible refine (HT.out _).mono ?_); rintro e w2 ⟨rfl, hx2⟩))
    go_ret
    exact ⟨rfl, hx1.trans hx2⟩
  · simp only at hq hq2
    subst hq
    go_enter Try.func7, Try.ntmps7
    go_wp2_with (first
      | (refine wpList_box_abs rfl 25 (.tmp 0) rfl tv rfl ?_; intro w1 g hb1 hx1 hg)
      | (refine wpList_load_blk rfl 25 (.tmp 1) rfl _ rfl hb1 _ Try.underlying25 rfl 17 sizeTbl hts.out ?_)
      | (go_at_call 19; (with_reducible refine (HT.out _).mono ?_); rintro e w2 ⟨rfl, hx2⟩; have hc16 := hlast.out _ _ (hb1.ext hx2)))
    go_ret
    exact ⟨rfl, hx1.trans hx2⟩
theorem seenF_upd (xs : List Int) (k : Nat) (hk : k < xs.length) : seenF (xs.take (k + 1)) xs[k] = some (.bool true) := by
  unfold seenF
  rw [if_pos (by rw [List.take_succ_eq_append_getElem hk]; exact List.mem_append_right _ (by simp))]
theorem seenF_other (xs : List Int) (k : Nat) (hk : k < xs.length) (j : Int) (hj : j ≠ xs[k]) : seenF (xs.take (k + 1)) j = seenF (xs.take k) j := by
  unfold seenF
  have : j ∈ xs.take (k + 1) ↔ j ∈ xs.take k := by rw [List.take_succ_eq_append_getElem hk, List.mem_append]; simp [hj]
  by_cases h : j ∈ xs.take k
  · rw [if_pos h, if_pos (this.2 h)]
  · rw [if_neg h, if_neg (fun h2 => h (this.1 h2))]
set_option maxRecDepth 20000 in
set_option maxHeartbeats 1000000 in
theorem check_in (cs xs : List Int) (sl : Value) (w : World) (hl : cs.length = 16) (hs : SL w 1 sl xs.length (ints xs)) (h : totOK cs xs = true) :
    Calls Try.prog 7 #[.agg (tblv cs sl)] w fun e w' => e = .returned (.int .i64 (checkZ cs xs)) ∧ Ext w w' := by
  have HT := hid_ (fun W => total_any cs sl W hl)
  have hlast := hid_ (fun W g (h : Blk W g 25 (tblv cs sl)) => tblv_last h hl)
  have hts := hid_ (tblv_size cs sl hl)
  have HRG := hid_ (fun W g (h : Blk W g 25 (tblv cs sl)) => tblv_range h)
  have hcl := hid_ ((ints_len cs).trans hl)
  have HIX := hid_ (fun k (hk : k < cs.length) (h16 : k < 16) => fun W => run_index16 (ints cs).toArray k (.int .i64 cs[k]) h16 (bv_at cs k hk) W)
  obtain ⟨q1, q2, q3⟩ := totOK_iff.1 h
  have HZ1 := hid_ (fun h2 => checkZ_arg h h2)
  have HZ2 := hid_ (fun h2 h3 => checkZ_dup h h2 h3)
  have HZ3 := hid_ (fun h2 h3 => checkZ_words h h2 h3)
  have HT1 : Hid (totalZ cs = ((xs.length : Int), true)) := hid_ (by unfold totalZ; rw [q1, q3]; simp; omega)
  rw [HT1.out] at HT
  have hlen : xs.length ≤ 256 := by omega
  have HAL := hid_ (allIn_iff.1 q1)
  have HL := hid_ hl
  have hneq : ((xs.length : Int) != (xs.length : Int)) = false := by simp
  have hmm := @run_makeMap Try.prog
  have hs' := hs
  obtain ⟨A, c, rfl, hc1, hc2, -, -⟩ := hs'
  generalize tblv cs (.slice A xs.length c) = tv at *
  clear h q1 q2 q3
  go_enter Try.func7, Try.ntmps7
  go_wp2_with (first
    | (refine wpList_box_abs rfl 25 (.tmp 0) rfl tv rfl ?_; intro w1 g hb1 hx1 hg)
    | (refine wpList_load_blk rfl 25 (.tmp 1) rfl _ rfl hb1 _ Try.underlying25 rfl 17 sizeTbl hts.out ?_)
    | (go_at_call 19; (with_reducible refine (HT.out _).mono ?_); rintro e w2 ⟨rfl, hx2⟩; have hc16 := hlast.out _ _ (hb1.ext hx2); have hc16b := hlast.out _ _ ((hb1.ext hx2).alloc (.map #[] 0))))
  have hb2 := hb1.ext hx2
  have hxm := hx1.trans hx2
  have hgm := hxm.size
  have hne := hb2.lt
  clear hmm hb1 hx1 hx2 hc16 hc16b
  go_loopw [6, 30] (fun tw i wr => ∃ (k : Nat) (tb : Bool), k ≤ xs.length ∧ i = .int .i64 (k : Int) ∧ tw = .bool tb ∧ tb = (!decide (xs.take k).Nodup) ∧ (∀ z ∈ xs.take k, 0 ≤ z ∧ z ≤ 255) ∧ MapI Try.prog 3 wr w2.heap.size k (seenF (xs.take k)) ∧ Blk wr g 25 tv ∧ Ext w wr) (fun _ i _ => xs.length - (intOf i).toNat)
  case atStart => exact ⟨0, false, by omega, rfl, rfl, by simp, by simp, MapG.made _, hb2.alloc _, hxm.alloc _⟩
  case round =>
    clear hb2 hxm
    obtain ⟨k, tb, hk, rfl, rfl, htb, hin, hm, hb, hx⟩ := hrel
    have HTB := hid_ htb
    have HIN := hid_ hin
    clear htb hin
    by_cases hlt : k < xs.length
    · obtain ⟨ad, u, rfl, -, hxk, hcell⟩ := (hs.ext hx).at1 hlt
      obtain ⟨hkl, rfl⟩ := ints_at _ _ _ hxk
      clear hxk
      cases hq : inB xs[k] 0 255 with
      | true =>
        obtain ⟨q1, q2⟩ := inB_iff.1 hq
        have h0' : decide (xs[k] < 0) = false := by simpa using q1
        have h1' : decide (256 ≤ xs[k]) = false := by simp; omega
        have HN := hid_ (allIn_take HIN.out hkl ⟨q1, q2⟩)
        have HND := hid_ (nodup_take_succ hkl)
        have HU := hid_ (seenF_upd xs k hkl)
        have HO := hid_ (seenF_other xs k hkl)
        have HLK := hid_ (seenF_look (xs.take k) xs[k])
        have hkey := hid_ (keyOf_i64 (P := Try.prog) Try.underlying3 (a := xs[k]) (by omega) (by omega))
        generalize xs[k] = x at *
        clear hq
        cases tb with
        | true =>
          go_wp2_with (at_mapUpdate; refine wpList_upd_g (by rfl) _ _ _ 47 4 rfl keyed_int Try.underlying47 rfl hm (by omega) _ rfl _ rfl x hkey.out (seenF (xs.take (k + 1))) HU.out (fun j _ hj => HO.out j (fun e => hj (by rw [e]))) (fun j _ hj => by injection hj) ?_; intro w7 hm7 hg7)
          go_roundw
          case rel =>
            exact ⟨k + 1, true, by omega, by go_num, rfl, by have h1 := HTB.out; have h2 := HND.out; simp at h1 ⊢; rw [h2]; simp [h1], HN.out, hm7, hb.grown hg7 (by simp; omega), ext_grown_new hx hg7 (by omega)⟩
          case measure => simp [intOf]; omega
        | false =>
          go_wp2_with (first
            | (at_lookup; refine wpList_look_g (by rfl) _ _ 47 4 rfl keyed_int Try.underlying47 _ (zero_bool _) rfl hm _ rfl x trivial hkey.out _ HLK.out ?_)
            | (at_mapUpdate; refine wpList_upd_g (by rfl) _ _ _ 47 4 rfl keyed_int Try.underlying47 rfl hm (by omega) _ rfl _ rfl x hkey.out (seenF (xs.take (k + 1))) HU.out (fun j _ hj => HO.out j (fun e => hj (by rw [e]))) (fun j _ hj => by injection hj) ?_; intro w7 hm7 hg7))
          go_roundw
          case rel =>
            exact ⟨k + 1, decide (x ∈ xs.take k), by omega, by go_num, rfl, by have h1 := HTB.out; have h2 := HND.out; simp at h1; by_cases hm : x ∈ xs.take k <;> simp [h2, h1, hm], HN.out, hm7, hb.grown hg7 (by simp; omega), ext_grown_new hx hg7 (by omega)⟩
          case measure => simp [intOf]; omega
      | false =>
        have HF := hid_ (HZ1.out (allIn_no hkl hq))
        rcases Int.lt_or_le xs[k] 0 with h0 | h0
        · have h0' : decide (xs[k] < 0) = true := by simpa using h0
          clear hq
          go_wp2_with fail
          go_ret
          exact ⟨by rw [HF.out]; rfl, hx⟩
        · have h0' : decide (xs[k] < 0) = false := by simpa using h0
          have h1' : decide (256 ≤ xs[k]) = true := by have := inB_not.1 hq; simp; omega
          clear hq
          go_wp2_with fail
          go_ret
          exact ⟨by rw [HF.out]; rfl, hx⟩
    · have hkx : k = xs.length := by omega
      have e1 : xs.take k = xs := List.take_of_length_le (by omega)
      rw [e1] at HTB HIN
      have HA := hid_ (allIn_iff.2 HIN.out)
      clear e1 hm
      go_wp2_with (refine wpList_load_mid rfl 22 (.tmp 49) rfl g 0 rfl (ints cs) _ (HRG.out _ _ hb) Try.underlying22 rfl (by rw [hcl.out]; exact size16) ?_)
      go_loop [9, 51] (fun nx i => ∃ k : Nat, k ≤ 16 ∧ i = .int .i64 (k : Int) ∧ nx = .int .i64 (nextW cs k : Nat) ∧ nextW cs k + 1 ≤ 2 ^ k ∧ (∀ j, j < k → nextW cs (j + 1) + 1 ≤ 2 ^ (j + 1)) ∧ (0 < k → tb = false)) (fun _ i => 16 - (intOf i).toNat)
      case atStart => exact ⟨0, by omega, rfl, rfl, by simp [nextW], by intro j hj; omega, by omega⟩
      case round =>
        obtain ⟨k, hk, rfl, rfl, hnx, hall, htw⟩ := hrel
        have HALL := hid_ hall
        have HTW := hid_ htw
        clear hall htw
        by_cases hlt2 : k < 16
        · have hkl : k < cs.length := by have := HL.out; omega
          have hix := HIX.out k hkl hlt2
          obtain ⟨q1, q2⟩ := HAL.out _ (List.getElem_mem hkl)
          obtain ⟨n, hn⟩ : ∃ n : Nat, cs[k] = (n : Int) := ⟨cs[k].toNat, by omega⟩
          have HNW := hid_ (nextW_succ cs k n hkl hn)
          have HNO := hid_ (fun h => okW_no (cs := cs) hlt2 h)
          rw [hn] at hix q1 q2
          have hp : (2 : Nat) ^ k ≤ 65536 := by have := Nat.pow_le_pow_right (n := 2) (by omega) (show k ≤ 16 by omega); simpa using this
          have HP : Hid (2 ^ (k + 1) = 2 * 2 ^ k) := hid_ (by rw [Nat.pow_succ]; omega)
          rw [HNW.out, HP.out] at HNO
          have hp1 : (1 : Int) ≤ 2 ^ (k + 1) := pow_pos' (k + 1)
          have hp2 : (2 : Int) ^ (k + 1) ≤ 131072 := by have := pow_le (k + 1) 17 (by omega); simpa using this
          have HPI : Hid ((2 : Int) ^ (k + 1) = ((2 * 2 ^ k : Nat) : Int)) := hid_ (by rw [← HP.out]; simp)
          clear hn
          cases tb with
          | true =>
            have HF := hid_ (HZ2.out HA.out (by have := HTB.out; simpa using this))
            go_wp2_with fail
            go_ret
            exact ⟨by rw [HF.out]; rfl, hx⟩
          | false =>
            generalize nextW cs k = N at *
            by_cases hbad : 2 * N + n + 1 ≤ 2 * 2 ^ k
            · have hd : decide ((2 : Int) ^ (k + 1) - 1 < (N : Int) * 2 + (n : Int)) = false := by have := HPI.out; simp; omega
              go_wp2_with fail
              go_round
              case rel =>
                refine ⟨k + 1, by omega, by go_num, by rw [HNW.out]; congr 1; omega, by rw [HNW.out, HP.out]; omega, ?_, by simp⟩
                intro i hi
                by_cases hik : i = k
                · subst hik; rw [HNW.out, HP.out]; omega
                · exact HALL.out i (by omega)
              case measure => simp [intOf]; omega
            · have hd : decide ((2 : Int) ^ (k + 1) - 1 < (N : Int) * 2 + (n : Int)) = true := by have := HPI.out; simp; omega
              have HF := hid_ (HZ3.out HA.out (by have := HTB.out; simpa using this))
              have HNO' := hid_ (HNO.out (by omega))
              go_wp2_with fail
              go_ret
              exact ⟨by rw [HF.out, HNO'.out]; rfl, hx⟩
        · obtain rfl : k = 16 := by omega
          obtain rfl := HTW.out (by omega)
          have HF := hid_ (HZ3.out HA.out (by have := HTB.out; simpa using this))
          have HOK := hid_ (okW_yes HALL.out)
          go_wp2_with fail
          go_ret
          exact ⟨by rw [HF.out, HOK.out]; rfl, hx⟩
theorem check_any (cs xs : List Int) (sl : Value) (w : World) (hl : cs.length = 16) (hs : SL w 1 sl xs.length (ints xs)) :
    Calls Try.prog 7 #[.agg (tblv cs sl)] w fun e w' => e = .returned (.int .i64 (checkZ cs xs)) ∧ Ext w w' := by
  cases h : totOK cs xs with
  | true => exact check_in cs xs sl w hl hs h
  | false => rw [checkZ_tot h]; exact check_tot cs xs sl w hl hs h
end Go.Proofs.Ytideigpabbhhkaa
/- table.words, table.Words. -/
namespace Go.Proofs.Ytideigpabbhhkaa
set_option linter.unusedVariables false
set_option linter.unusedSimpArgs false
open Go.RowKit
set_option maxRecDepth 20000 in
set_option maxHeartbeats 1000000 in
theorem words_any (cs xs : List Int) (sl : Value) (w : World) (hl : cs.length = 16) (hs : SL w 1 sl xs.length (ints xs)) (hal : allIn cs 0 256 = true) (hok : okW cs = true) (hsum : sumL cs 16 = xs.length) (hx256 : xs.length ≤ 256) :
    Calls Try.prog 23 #[.agg (tblv cs sl)] w fun e w' => ∃ A c, e = .returned (.slice A xs.length c) ∧ SL w' 3 (.slice A xs.length c) xs.length (toks (zipC (codesW cs 16) xs)) ∧ (∀ ad, A = some ad → w.heap.size ≤ ad.block) ∧ Ext w w' := by
  have hlast := hid_ (fun W g (h : Blk W g 25 (tblv cs sl)) => tblv_last h hl)
  have HRG := hid_ (fun W g (h : Blk W g 25 (tblv cs sl)) => tblv_range h)
  have hcl := hid_ ((ints_len cs).trans hl)
  have HIX := hid_ (fun k (hk : k < cs.length) (h16 : k < 16) => fun W => run_index16 (ints cs).toArray k (.int .i64 cs[k]) h16 (bv_at cs k hk) W)
  have HAL := hid_ (allIn_iff.1 hal)
  have HL := hid_ hl
  have HLEN : Hid ((codesW cs 16).length = xs.length) := hid_ (by have := codesW_len cs (fun z hz => (HAL.out z hz).1) 16 (by omega); omega)
  have HOKS := hid_ (fun k (hk : k < 16) => by simpa using List.all_eq_true.1 hok k (List.mem_range.2 hk))
  have hs' := hs
  obtain ⟨A, c, rfl, hc1, hc2, -, -⟩ := hs'
  generalize tblv cs (.slice A xs.length c) = tv at *
  clear hal hok hsum
  go_enter Try.func23, Try.ntmps23
  go_wp2_with (first
    | (refine wpList_box_abs rfl 25 (.tmp 0) rfl tv rfl ?_; intro w1 g hb1 hx1 hg)
    | (refine wpList_load_mid rfl 22 (.tmp 7) rfl g 0 rfl (ints cs) _ (HRG.out _ _ hb1) Try.underlying22 rfl (by rw [hcl.out]; exact size16) ?_))
  have hs1 := hs.ext hx1
  have hgw := hb1.lt
  have hsz1 := hx1.size
  go_loopw [3, 4, 9] (fun v nx i wr => ∃ k : Nat, k ≤ 16 ∧ i = .int .i64 (k : Int) ∧ nx = .int .i64 (nextW cs k : Nat) ∧ nextW cs k + 1 ≤ 2 ^ k ∧ OwnV wr w1.heap.size 35 3 v (codesW cs k).length (toks (zipC (codesW cs k) xs)) ∧ Ext w1 wr) (fun _ _ i _ => 16 - (intOf i).toNat)
  case atStart => exact ⟨0, by omega, rfl, rfl, by simp [nextW], by rw [codesW_zero]; exact OwnV.nil _ _ _ _, Ext.refl _⟩
  case round =>
    obtain ⟨k, hk, rfl, rfl, hnx, ⟨B0, d0, rfl, hown⟩, hx⟩ := hrel
    by_cases hlt : k < 16
    · have hsd : decide ((k : Int) < 16) = true := by simp; omega
      have hkl : k < cs.length := by have := HL.out; omega
      have hix := HIX.out k hkl hlt
      obtain ⟨q1, q2⟩ := HAL.out _ (List.getElem_mem hkl)
      obtain ⟨n, hn⟩ : ∃ n : Nat, cs[k] = (n : Int) := ⟨cs[k].toNat, by omega⟩
      have HNW := hid_ (nextW_succ cs k n hkl hn)
      have HCW := hid_ (codesW_step cs k n hkl hn)
      have HOK := hid_ (HOKS.out k hlt)
      have HMO := hid_ (codesW_mono cs (k + 1) 16 (by omega))
      rw [hn] at hix q1 q2
      have hp : (2 : Nat) ^ k ≤ 65536 := by have := Nat.pow_le_pow_right (n := 2) (by omega) hk; simpa using this
      have HP : Hid (2 ^ (k + 1) = 2 * 2 ^ k) := hid_ (by rw [Nat.pow_succ]; omega)
      have HRS := hid_ (rowC_succ cs k)
      have HR0 : Hid (rowC cs k 0 = []) := hid_ rfl
      have HRL := hid_ (rowC_len cs k)
      have hbound : (codesW cs k).length + n ≤ xs.length := by have h1 := HMO.out; have h2 := HLEN.out; rw [HCW.out, List.length_append, HRL.out] at h1; omega
      generalize nextW cs k = N at *
      generalize (2 : Nat) ^ k = Pw at *
      clear hn hkl
      generalize codesW cs k = C at *
      have HC0 : Hid (zipC (C ++ rowC cs k 0) xs = zipC C xs) := hid_ (by rw [HR0.out, List.append_nil])
      go_wp2_with fail
      go_loopw [3, 4, 16] (fun v nx i wr => ∃ j : Nat, j ≤ n ∧ i = .int .i64 (j : Int) ∧ nx = .int .i64 ((2 * N + j : Nat) : Int) ∧ OwnV wr w1.heap.size 35 3 v (C.length + j) (toks (zipC (C ++ rowC cs k j) xs)) ∧ Ext w1 wr) (fun _ _ i _ => n - (intOf i).toNat)
      case atStart => exact ⟨0, by omega, rfl, vint (by omega), by rw [HC0.out]; exact OwnV.mk hown, hx⟩
      case round =>
        clear hown hx
        obtain ⟨j, hj, rfl, rfl, ⟨B, d, rfl, hown⟩, hx⟩ := hrel
        have hclen : (C ++ rowC cs k j).length = C.length + j := by rw [List.length_append, HRL.out]
        have hzl : (zipC (C ++ rowC cs k j) xs).length = C.length + j := by rw [zipC_len _ _ (by omega), hclen]
        have hcz := hid_ hclen
        have HZL := hid_ hzl
        clear hclen
        by_cases hlj : j < n
        · have hix2 : C.length + j < xs.length := by omega
          have HZS : Hid (zipC (C ++ rowC cs k (j + 1)) xs = zipC (C ++ rowC cs k j) xs ++ [(xs[C.length + j], ((k + 1 : Nat) : Int), ((2 * N + j : Nat) : Int))]) := hid_ (by
            rw [HRS.out j, ← List.append_assoc, zipC_snoc _ _ _ (by rw [hcz.out]; exact hix2)]
            simp only [hcz.out])
          obtain ⟨ad, u, hA, -, hxk, hcell⟩ := (hs1.ext hx).at1 hix2
          obtain ⟨hkl2, rfl⟩ := ints_at _ _ _ hxk
          subst hA
          have hc16 := hlast.out _ _ (hb1.ext hx)
          generalize xs[C.length + j] = x at *
          generalize zipC (C ++ rowC cs k j) xs = T at *
          generalize hM : C.length + j = M at *
          have hM256 : M < 256 := by omega
          have HM := hid_ hM
          clear hxk hM hzl
          go_wp2_with (at_builtin; go_must (refine wpList_append_sl elt_word rfl _ _ rfl w1.heap.size _ _ _ rfl (hown.alloc _) _ 1 [.int .i64 _, .int .i64 _, .int .i64 _] rfl (one_sl3' _ _ _ _ _) (int3_one _ _ _) (by omega) (by omega) (by have := hx.size; simp; omega) ?_); intro v' w7 hown7 hb7)
          go_roundw
          case rel =>
            refine ⟨j + 1, by omega, by go_num, vint (by omega), ?_, (hx.alloc _).trans' hb7⟩
            rw [HZS.out]
            have := own_tok3 (T := T) (by rw [HZL.out]; exact hown7)
            rw [List.length_append, HZL.out, ← HM.out] at this
            simpa [Nat.add_assoc] using OwnV.mk this
          case measure => simp [intOf]; omega
        · obtain rfl : j = n := by omega
          clear hzl
          go_wp2_with fail
          go_roundw
          case rel => exact ⟨k + 1, by omega, by go_num, by rw [HNW.out], by rw [HNW.out, HP.out]; have := HOK.out; rw [HNW.out, HP.out] at this; omega, by rw [HCW.out, hcz.out]; exact OwnV.mk hown, hx⟩
          case measure => simp [intOf]; omega
    · have ek : k = 16 := by omega
      rw [ek] at hown ⊢
      rw [HLEN.out] at hown ⊢
      go_wp2_with fail
      go_ret
      obtain ⟨hsl, hfs⟩ := own_out hown
      exact ⟨B0, d0, rfl, hsl, fun ad h => by have := hfs ad h; omega, hx1.trans hx⟩
set_option maxHeartbeats 400000 in
theorem tWords_no (cs xs : List Int) (sl : Value) (w : World) (hl : cs.length = 16) (hs : SL w 1 sl xs.length (ints xs)) (h : checkZ cs xs ≠ 0) :
    Calls Try.prog 10 #[.agg (tblv cs sl)] w fun e w' => e = .returned (.tuple #[.slice none 0 0, .int .i64 (checkZ cs xs)]) ∧ Ext w w' := by
  have HC := hid_ (fun W h => check_any cs xs sl W hl h)
  have hts := hid_ (tblv_size cs sl hl)
  generalize tblv cs sl = tv at *
  generalize checkZ cs xs = z at *
  have hz : (z != 0) = true := by simpa using h
  clear h
  go_enter Try.func10, Try.ntmps10
  go_wp2_with (first
    | (refine wpList_box_abs rfl 25 (.tmp 0) rfl tv rfl ?_; intro w1 g hb1 hx1 hg; have hs1 := hs.ext hx1)
    | (refine wpList_load_blk rfl 25 (.tmp 1) rfl _ rfl hb1 _ Try.underlying25 rfl 17 sizeTbl hts.out ?_)
    | (go_at_call 7; (with_reducible refine (HC.out _ hs1).mono ?_); rintro e w2 ⟨rfl, hx2⟩))
  go_ret2
  exact ⟨rfl, hx1.trans hx2⟩
theorem checkZ_zero {cs xs : List Int} (h : checkZ cs xs = 0) : allIn cs 0 256 = true ∧ sumL cs 16 = xs.length ∧ xs.length ≤ 256 ∧ okW cs = true ∧ allIn xs 0 255 = true ∧ xs.Nodup := by
  unfold checkZ at h
  split at h
  · next h1 =>
    obtain ⟨q1, q2, q3⟩ := totOK_iff.1 h1
    split at h
    · next h2 =>
      split at h
      · next h3 =>
        simp only [Bool.and_eq_true, decide_eq_true_eq] at h3
        exact ⟨q1, q3, by omega, h3.2, h2, h3.1⟩
      · cases h
    · cases h
  · cases h
set_option maxHeartbeats 400000 in
theorem tWords_yes (cs xs : List Int) (sl : Value) (w : World) (hl : cs.length = 16) (hs : SL w 1 sl xs.length (ints xs)) (h : checkZ cs xs = 0) :
    Calls Try.prog 10 #[.agg (tblv cs sl)] w fun e w' => ∃ A c, e = .returned (.tuple #[.slice A xs.length c, .int .i64 0]) ∧ SL w' 3 (.slice A xs.length c) xs.length (toks (zipC (codesW cs 16) xs)) ∧ (∀ ad, A = some ad → w.heap.size ≤ ad.block) ∧ Ext w w' := by
  obtain ⟨q1, q2, q3, q4, -, -⟩ := checkZ_zero h
  have HC := hid_ (fun W h => check_any cs xs sl W hl h)
  rw [h] at HC
  have HW := hid_ (fun W h => words_any cs xs sl W hl h q1 q4 q2 q3)
  have hts := hid_ (tblv_size cs sl hl)
  generalize tblv cs sl = tv at *
  generalize zipC (codesW cs 16) xs = Z at *
  clear h q1 q2 q3 q4
  go_enter Try.func10, Try.ntmps10
  go_wp2_with (first
    | (refine wpList_box_abs rfl 25 (.tmp 0) rfl tv rfl ?_; intro w1 g hb1 hx1 hg; have hs1 := hs.ext hx1)
    | (refine wpList_load_blk rfl 25 (.tmp 1) rfl _ rfl hb1 _ Try.underlying25 rfl 17 sizeTbl hts.out ?_)
    | (go_at_call 7; (with_reducible refine (HC.out _ hs1).mono ?_); rintro e w2 ⟨rfl, hx2⟩; have hb2 := hb1.ext hx2; have hs2 := hs1.ext hx2)
    | (refine wpList_load_blk rfl 25 (.tmp 1) rfl _ rfl hb2 _ Try.underlying25 rfl 17 sizeTbl hts.out ?_)
    | (go_at_call 23; (with_reducible refine (HW.out _ hs2).mono ?_); rintro e w3 ⟨A, c, rfl, hs3, hf3, hx3⟩))
  go_ret2
  have := hx1.size
  have := hx2.size
  exact ⟨A, c, rfl, hs3, fun ad h => by have := hf3 ad h; omega, (hx1.trans hx2).trans hx3⟩
end Go.Proofs.Ytideigpabbhhkaa
/- The word of a symbol, in plain words. -/
namespace Go.Proofs.Ytideigpabbhhkaa
set_option linter.unusedVariables false
set_option linter.unusedSimpArgs false
open Go.RowKit
theorem outW_at (cs : List Int) (k : Nat) (h : k < (codesW cs 16).length) : (strs (outW cs 16))[k]? = some (.string (strB (digs (codesW cs 16)[k].2 (codesW cs 16)[k].1))) := by
  unfold strs
  rw [outW_codes]
  simp [h, binS_strB]
theorem outW_len (cs : List Int) : (outW cs 16).length = (codesW cs 16).length := by rw [outW_codes]; simp
theorem zipC_at (C : List (Nat × Nat)) (xs : List Int) (k : Nat) (h1 : k < C.length) (h2 : k < xs.length) (h : k < (zipC C xs).length) : (zipC C xs)[k] = (xs[k], ((C[k]).1 : Int), ((C[k]).2 : Int)) := by
  simp [zipC]
def findT (T : List Tok) (s : Int) : Option Tok := T.find? (fun t => t.1 == s)
/-- the digits of a symbol's word -/
def bitsT (T : List Tok) (s : Int) : List Bool := match findT T s with | some t => digs t.2.2.toNat t.2.1.toNat | none => []
/-- the words of a table fit -/
def FitT (T : List Tok) : Prop := ∀ s t, findT T s = some t → ∃ long code : Nat, t = (s, (long : Int), (code : Int)) ∧ 1 ≤ long ∧ long ≤ 16 ∧ code < 2 ^ long
theorem fitT_of (cs xs : List Int) (hl : cs.length = 16) (h : checkZ cs xs = 0) : FitT (zipC (codesW cs 16) xs) := by
  obtain ⟨q1, q2, q3, q4, q5, q6⟩ := checkZ_zero h
  have hfit := codesW_fit cs q4 hl 16 (by omega)
  intro s t ht
  have hm := List.mem_of_find?_eq_some ht
  have hs := List.find?_some ht
  simp only [beq_iff_eq] at hs
  unfold zipC at hm
  obtain ⟨i, hi, rfl⟩ := List.mem_iff_getElem.1 hm
  simp only [List.getElem_zipWith] at hs ⊢
  simp only [List.length_zipWith] at hi
  obtain ⟨f1, f2, f3⟩ := hfit _ (List.getElem_mem (show i < (codesW cs 16).length by omega))
  exact ⟨_, _, by rw [hs], f1, f2, by omega⟩
theorem bitsT_some {T : List Tok} {s : Int} {long code : Nat} (h : findT T s = some (s, (long : Int), (code : Int))) : bitsT T s = digs code long := by
  unfold bitsT; rw [h]; simp
theorem bitsT_len {T : List Tok} (hf : FitT T) (s : Int) : (bitsT T s).length ≤ 16 := by
  unfold bitsT
  cases h : findT T s with
  | none => simp
  | some t =>
    obtain ⟨long, code, rfl, h1, h2, h3⟩ := hf s t h
    simp [digs_len]
    omega
theorem zipC_syms (C : List (Nat × Nat)) (xs : List Int) (h : C.length = xs.length) : (zipC C xs).map (·.1) = xs := by
  induction C generalizing xs with
  | nil => cases xs with | nil => rfl | cons _ _ => simp at h
  | cons c C ih =>
    cases xs with
    | nil => simp at h
    | cons x xs =>
      have h' : C.length = xs.length := by simpa using h
      have := ih xs h'
      simp only [zipC, List.zipWith_cons_cons, List.map_cons] at this ⊢
      rw [this]
theorem findT_none {Z : List Tok} {s : Int} (h : s ∉ Z.map (·.1)) : findT Z s = none := by
  unfold findT
  rw [List.find?_eq_none]
  intro u hu
  simp only [beq_iff_eq]
  rintro rfl
  exact h (List.mem_map.2 ⟨u, hu, rfl⟩)
theorem findT_at {Z : List Tok} {s : Int} {k : Nat} (hk : k < Z.length) (h : s ∉ (Z.map (·.1)).take k) (h2 : (Z[k]).1 = s) : findT Z s = some Z[k] := by
  unfold findT
  rw [List.find?_eq_some_iff_getElem]
  refine ⟨by simpa using h2, k, hk, rfl, fun j hj => ?_⟩
  simp only [Bool.not_eq_true', beq_eq_false_iff_ne]
  intro h3
  apply h
  rw [← h3, List.mem_take_iff_getElem]
  exact ⟨j, by simp; omega, by simp⟩
end Go.Proofs.Ytideigpabbhhkaa
