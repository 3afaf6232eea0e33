/- Contracts for the law DeskRunsCard, part 24: what the functions that it reaches answer, for all arguments that the theorems name. -/
import Derived.Outline
import Derived.Test.YtlhggcbpipmjhaaGreatDoorMDeskRunsCard5
import Derived.Test.YtlhggcbpipmjhaaGreatDoorMDeskRunsCard4
import Derived.Test.YtlhggcbpipmjhaaGreatDoorMDeskRunsCard1
import Derived.Test.YtlhggcbpipmjhaaGreatDoorMDeskRunsCard19
import Derived.Test.YtlhggcbpipmjhaaGreatDoorMDeskRunsCard20
import Derived.Test.YtlhggcbpipmjhaaGreatDoorMDeskRunsCard21
import Derived.Test.YtlhggcbpipmjhaaGreatDoorMDeskRunsCard22
import Derived.Test.YtlhggcbpipmjhaaGreatDoorMDeskRunsCard13
import Derived.Test.YtlhggcbpipmjhaaGreatDoorMDeskRunsCard23
import Derived.Test.YtlhggcbpipmjhaaGreatDoorMDeskRunsCard6
namespace Go.Proofs.YtlhggcbpipmjhaaGreatDoor
set_option linter.unusedVariables false
set_option linter.unusedSimpArgs false
open Go.RowKit
set_option maxHeartbeats 400000 in
theorem rbcheck_any (counts : List Int) (v : Value) (w : World) (hv : SL w 1 v counts.length (ints counts)) :
 Calls Tryz.prog 26 #[v] w fun e w' => e = .returned (.int .i64 (bcheckZ counts)) ∧ w = w' := by
 have hv' := hv
 obtain ⟨A, c, rfl, hc1, hc2, -, -⟩ := hv'
 by_cases h : 256 < counts.length
 ·have HE : Hid (bcheckZ counts = 2) := hid_ (by unfold bcheckZ; rw [if_pos h])
  go_enter Tryz.func26, Tryz.ntmps26
  go_wp2_with fail
  go_ret
  exact ⟨by rw [HE.out]; rfl, rfl⟩
 ·have HE : Hid (bcheckZ counts = if allIn counts 0 9999 then 0 else 1) := hid_ (by unfold bcheckZ; rw [if_neg h])
  go_enter Tryz.func26, Tryz.ntmps26
  go_wp2_with fail
  go_loop [10] (fun i => ∃ k : Nat, k ≤ counts.length ∧ i = .int .i64 (k : Int) ∧ ∀ z ∈ counts.take k, 0 ≤ z ∧ z ≤ 9999) (fun i => counts.length - (intOf i).toNat)
  case atStart => exact ⟨0, by omega, rfl, by simp⟩
  case round =>
   obtain ⟨k, hk, rfl, hin⟩ := hrel
   have HIN := hid_ hin
   clear hin
   by_cases hlt : k < counts.length
   ·obtain ⟨ad, u, rfl, -, hxk, hcell⟩ := hv.at1 hlt
    obtain ⟨hkl, rfl⟩ := ints_at _ _ _ hxk
    clear hxk
    have HO := hid_ (fun W => outside_any counts[k] 0 9999 W)
    cases hq : inB counts[k] 0 9999 with
    | true =>
      have HN := hid_ (allIn_take HIN.out hkl (inB_iff.1 hq))
      rw [hq] at HO
      clear hq
      go_wp2_with (go_at_call 20; (with_reducible refine (HO.out _).mono ?_); rintro e w' ⟨rfl, rfl⟩)
      go_round
      case rel => exact ⟨k + 1, by omega, by go_num, HN.out⟩
      case measure => simp [intOf]; omega
    | false =>
      have HF := hid_ (allIn_no hkl hq)
      rw [hq] at HO
      clear hq
      go_wp2_with (go_at_call 20; (with_reducible refine (HO.out _).mono ?_); rintro e w' ⟨rfl, rfl⟩)
      go_ret
      exact ⟨by rw [HE.out, HF.out]; rfl, rfl⟩
   ·have HA : Hid (allIn counts 0 9999 = true) := hid_ (by have := HIN.out; rw [List.take_of_length_le (by omega)] at this; exact allIn_iff.2 this)
    go_wp2_with fail
    go_ret
    exact ⟨by rw [HE.out, HA.out]; rfl, rfl⟩
structure RD (w0 : World) (g3 g4 g7 g8 : Nat) (cb cq cz : Array Value) (W : World) : Prop where
 x : Ext w0 W
 b3 : Blk W g3 30 cb
 b4 : Blk W g4 30 cq
 b7 : Blk W g7 30 cz
 b8 : Blk W g8 30 cz
theorem RD.ext {w0 W W' : World} {g3 g4 g7 g8 : Nat} {cb cq cz : Array Value} (h : RD w0 g3 g4 g7 g8 cb cq cz W) (hx : Ext W W') : RD w0 g3 g4 g7 g8 cb cq cz W' := ⟨h.x.trans hx, h.b3.ext hx, h.b4.ext hx, h.b7.ext hx, h.b8.ext hx⟩
theorem RD.st7 {w0 W W' : World} {g3 g4 g7 g8 : Nat} {cb cq cz c7 : Array Value} (h : RD w0 g3 g4 g7 g8 cb cq cz W) (hb : Blk W' g7 30 c7) (hg : W.grownBy W' (some g7)) (ho : w0.heap.size ≤ g3 ∧ g3 < g4 ∧ g4 < g7 ∧ g7 < g8) : Ext w0 W' ∧ Blk W' g7 30 c7 ∧ Blk W' g8 30 cz := by
 have hu : Upd (fun x => x = g7) W W' := (Upd.refl (fun x => x = g7) W).grown hg (fun x hx => .inl (by cases hx; rfl))
 exact ⟨hu.ext h.x (fun x hx => by omega), hb, hu.blk h.b8 (by omega)⟩
theorem st8 {w0 W W' : World} {g3 g4 g7 g8 : Nat} {cz c7 c8 : Array Value} (h : Ext w0 W ∧ Blk W g7 30 c7 ∧ Blk W g8 30 cz) (hb : Blk W' g8 30 c8) (hg : W.grownBy W' (some g8)) (ho : w0.heap.size ≤ g3 ∧ g3 < g4 ∧ g4 < g7 ∧ g7 < g8) : Ext w0 W' ∧ Blk W' g7 30 c7 ∧ Blk W' g8 30 c8 := by
 have hu : Upd (fun x => x = g8) W W' := (Upd.refl (fun x => x = g8) W).grown hg (fun x hx => .inl (by cases hx; rfl))
 exact ⟨hu.ext h.1 (fun x hx => by omega), hu.blk h.2.1 (by omega), hb⟩
theorem bad_is {e : Int} {b q : List Int} {cb cq : Array Value} {w w' : World} (he : e ≠ 0) (hb : bv b = cb) (hq : bv q = cq) (hx : Ext w w') : RLineIs (noZ e b q) w (.returned (.tuple #[.string ⟨#[]⟩, .agg cb, .agg cq, .int .i64 e])) w' := by
 subst hb hq
 exact ⟨[], rfl, fun h => absurd h he, hx⟩
def cntG (N : Int) : List UInt8 → Option Value := fun j => if j = [98, 101, 115, 116] then some (.int .i64 (max 1 N)) else if j = [112, 108, 97, 105, 110] then some (.int .i64 3) else if j = [116, 105, 110, 116] then some (.int .i64 3) else if j = [115, 105, 122, 101] then some (.int .i64 1) else if j = [116, 111, 107, 101, 110, 115] then some (.int .i64 0) else if j = [117, 112] then some (.int .i64 0) else if j = [100, 111, 119, 110] then some (.int .i64 0) else if j = [98, 97, 99, 107] then some (.int .i64 0) else if j = [119, 97, 118, 101] then some (.int .i64 0) else if j = [115, 104, 111, 119] then some (.int .i64 0) else if j = [99, 111, 97, 114, 115, 101] then some (.int .i64 1) else if j = [115, 101, 116] then some (.int .i64 2) else none
def nameZ (k : Nat) : List UInt8 := match k with | 0 => [115, 101, 116] | 1 => [99, 111, 97, 114, 115, 101] | 2 => [115, 104, 111, 119] | 3 => [116, 111, 107, 101, 110, 115] | 4 => [119, 97, 118, 101] | 5 => [98, 97, 99, 107] | 6 => [100, 111, 119, 110] | 7 => [117, 112] | 8 => [115, 105, 122, 101] | 9 => [116, 105, 110, 116] | 10 => [112, 108, 97, 105, 110] | _ => [98, 101, 115, 116]
theorem kind_both {x : List UInt8} {k : Nat} (h : kindZ x = some k) : k < 12 ∧ x = nameZ k := by
 by_cases e0 : x = [115, 101, 116]
 ·subst e0
  obtain rfl : 0 = k := by simpa [kindZ] using h
  exact ⟨by omega, rfl⟩
 by_cases e1 : x = [99, 111, 97, 114, 115, 101]
 ·subst e1
  obtain rfl : 1 = k := by simpa [kindZ] using h
  exact ⟨by omega, rfl⟩
 by_cases e2 : x = [115, 104, 111, 119]
 ·subst e2
  obtain rfl : 2 = k := by simpa [kindZ] using h
  exact ⟨by omega, rfl⟩
 by_cases e3 : x = [116, 111, 107, 101, 110, 115]
 ·subst e3
  obtain rfl : 3 = k := by simpa [kindZ] using h
  exact ⟨by omega, rfl⟩
 by_cases e4 : x = [119, 97, 118, 101]
 ·subst e4
  obtain rfl : 4 = k := by simpa [kindZ] using h
  exact ⟨by omega, rfl⟩
 by_cases e5 : x = [98, 97, 99, 107]
 ·subst e5
  obtain rfl : 5 = k := by simpa [kindZ] using h
  exact ⟨by omega, rfl⟩
 by_cases e6 : x = [100, 111, 119, 110]
 ·subst e6
  obtain rfl : 6 = k := by simpa [kindZ] using h
  exact ⟨by omega, rfl⟩
 by_cases e7 : x = [117, 112]
 ·subst e7
  obtain rfl : 7 = k := by simpa [kindZ] using h
  exact ⟨by omega, rfl⟩
 by_cases e8 : x = [115, 105, 122, 101]
 ·subst e8
  obtain rfl : 8 = k := by simpa [kindZ] using h
  exact ⟨by omega, rfl⟩
 by_cases e9 : x = [116, 105, 110, 116]
 ·subst e9
  obtain rfl : 9 = k := by simpa [kindZ] using h
  exact ⟨by omega, rfl⟩
 by_cases e10 : x = [112, 108, 97, 105, 110]
 ·subst e10
  obtain rfl : 10 = k := by simpa [kindZ] using h
  exact ⟨by omega, rfl⟩
 by_cases e11 : x = [98, 101, 115, 116]
 ·subst e11
  obtain rfl : 11 = k := by simpa [kindZ] using h
  exact ⟨by omega, rfl⟩
 simp [kindZ, e0, e1, e2, e3, e4, e5, e6, e7, e8, e9, e10, e11] at h
theorem kind_lt {x : List UInt8} {k : Nat} (h : kindZ x = some k) : k < 12 := (kind_both h).1
theorem kind_name {x : List UInt8} {k : Nat} (h : kindZ x = some k) : x = nameZ k := (kind_both h).2
theorem cntG_ (N : Int) (x : List UInt8) : cntG N x = (kindZ x).map fun k => .int .i64 (if manyZ k < 0 then max 1 N else manyZ k) := by
 cases h : kindZ x with
 | none =>
   have n0 : x ≠ [115, 101, 116] := by rintro rfl; simp [kindZ] at h
   have n1 : x ≠ [99, 111, 97, 114, 115, 101] := by rintro rfl; simp [kindZ] at h
   have n2 : x ≠ [115, 104, 111, 119] := by rintro rfl; simp [kindZ] at h
   have n3 : x ≠ [116, 111, 107, 101, 110, 115] := by rintro rfl; simp [kindZ] at h
   have n4 : x ≠ [119, 97, 118, 101] := by rintro rfl; simp [kindZ] at h
   have n5 : x ≠ [98, 97, 99, 107] := by rintro rfl; simp [kindZ] at h
   have n6 : x ≠ [100, 111, 119, 110] := by rintro rfl; simp [kindZ] at h
   have n7 : x ≠ [117, 112] := by rintro rfl; simp [kindZ] at h
   have n8 : x ≠ [115, 105, 122, 101] := by rintro rfl; simp [kindZ] at h
   have n9 : x ≠ [116, 105, 110, 116] := by rintro rfl; simp [kindZ] at h
   have n10 : x ≠ [112, 108, 97, 105, 110] := by rintro rfl; simp [kindZ] at h
   have n11 : x ≠ [98, 101, 115, 116] := by rintro rfl; simp [kindZ] at h
   simp [cntG, n0, n1, n2, n3, n4, n5, n6, n7, n8, n9, n10, n11]
 | some k =>
   obtain ⟨h1, h2⟩ := kind_both h
   subst h2
   match k, h1 with
   | 0, _ => rfl
   | 1, _ => rfl
   | 2, _ => rfl
   | 3, _ => rfl
   | 4, _ => rfl
   | 5, _ => rfl
   | 6, _ => rfl
   | 7, _ => rfl
   | 8, _ => rfl
   | 9, _ => rfl
   | 10, _ => rfl
   | 11, _ => rfl
theorem zeroIV (w : World) : (zeroValue 3).run Tryz.prog w = .ok (.int .i64 0) w := by
 have h : (Tryz.prog.info? 3).bind (·.zero) = some (.int .i64 0) := by kernel_rfl
 unfold zeroValue typeInfo
 cases hi : Tryz.prog.info? 3 with
 | none => simp [hi] at h
 | some i =>
   rw [hi] at h
   have h' : i.zero = some (.int .i64 0) := h
   simp [Sem.run_bind, hi, h']
theorem VR_inj2 {v u : Value} {ps : List MemPlace} (h : VR v = some (.held u, ps)) : v = u := by
 unfold VR at h
 injection h with h
 injection h with h _
 injection h
theorem ex_lookI {o : Oper} {a : Act} {m x : Operand} (ho : o.op = .lookup 52 m x true) {mb n : Nat} {G : List UInt8 → Option Value} {w : World} (hm : a.eval m = .map (some mb)) (h : MapS Tryz.prog 9 w mb n G) {y : ByteArray} (hx : a.eval x = .string y) (hy : y.size ≤ 1000000)
 {u : Value} (hu : (G y.data.toList).getD (.int .i64 0) = u) {c : Bool} (hc : (G y.data.toList).isSome = c) : (execOp a.eval o).run Tryz.prog w = .ok (.value (.tuple #[u, .bool c])) w := by
 have hyl : y.size ≤ maxLen := Nat.le_trans hy (by decide)
 obtain ⟨D, h1, -, h2⟩ := h
 obtain ⟨v, ps, hrun, hv⟩ := h1.look_ok (Go.Maps.string_keyed Tryz.underlying9) Tryz.underlying52 (zeroIV w) (zd := .held (.int .i64 0)) (zp := []) rfl (WideMaps.keyOf_string_mk Tryz.underlying9 (s := y) hyl)
 rw [(h2 y.data.toList trivial).2, hu] at hv
 rw [(h2 y.data.toList trivial).1, hc] at hrun
 have : v = u := VR_inj2 hv
 subst this
 simp [execOp, ho, hm, hx, hrun, Result.andThen]
theorem ba_eq {y : ByteArray} {l : List UInt8} (h : y.data.toList = l) : y = ⟨l.toArray⟩ := by
 subst h
 apply ByteArray.ext
 simp
theorem ok_is {s : List UInt8} {b q : List Int} {c7 c8 : Array Value} {w w' : World} (hb : bv b = c7) (hq : bv q = c8) (hx : Ext w w') : RLineIs ⟨0, s, b, q⟩ w (.returned (.tuple #[.string ⟨s.toArray⟩, .agg c7, .agg c8, .int .i64 0])) w' := by
 subst hb hq
 exact ⟨s, rfl, fun _ => rfl, hx⟩
theorem said_is {z : Ans} {s : List UInt8} {e : Int} {c7 c8 : Array Value} {w w' : World} (he : z.e = e) (hs : z.e = 0 → s = z.s) (hb : bv z.b = c7) (hq : bv z.q = c8) (hx : Ext w w') : RLineIs z w (.returned (.tuple #[.string ⟨s.toArray⟩, .agg c7, .agg c8, .int .i64 e])) w' := by
 subst he hb hq
 exact ⟨s, rfl, hs, hx⟩
theorem said_if {T : List UInt8} {e : Int} {b q : List Int} {c7 c8 : Array Value} {w w' : World} (hb : bv b = c7) (hq : bv q = c8) (hx : Ext w w') : RLineIs (if e = 0 then ⟨0, T, b, q⟩ else noZ e b q) w (.returned (.tuple #[.string ⟨T.toArray⟩, .agg c7, .agg c8, .int .i64 e])) w' := by
 by_cases h : e = 0
 ·subst h; rw [if_pos rfl]; exact ok_is hb hq hx
 ·rw [if_neg h]; exact said_is (z := noZ e b q) rfl (fun h2 => absurd h2 h) hb hq hx
theorem sl8 {w : World} {g : Nat} {T : TypeId} {b : List Int} (h : Blk w g T (bv b)) (hb : b.length = 64) : SL w 1 (.slice (some ⟨g, 0, none⟩) 8 64) 8 (ints (b.take 8)) := by
 refine ⟨_, _, rfl, by omega, by omega, by simp [ints, hb], fun _ => ⟨_, rfl, h.lt, fun j u hu => ?_⟩⟩
 have hj : j < 8 := by
  have := (List.getElem?_eq_some_iff.1 hu).1
  simp [ints, hb] at this
  omega
 have e : (⟨g, 0, none⟩ : Addr).add j = ⟨g, j, none⟩ := by
  unfold Addr.add
  by_cases hj : j = 0
  ·subst hj; rfl
  ·rw [if_neg hj]; simp
 rw [e, h.cell j, ← hu]
 unfold bv ints
 rw [List.getElem?_toArray, List.getElem?_map, List.getElem?_map, List.getElem?_take_of_lt hj]
theorem RD.st4 {w0 W : World} {g3 g4 g7 g8 : Nat} {cb cq cz : Array Value} (h : RD w0 g3 g4 g7 g8 cb cq cz W) (i : Nat) (u : Value) (ho : w0.heap.size ≤ g3 ∧ g3 < g4 ∧ g4 < g7 ∧ g7 < g8) : RD w0 g3 g4 g7 g8 cb (cq.setIfInBounds i u) cz (W.setCell ⟨g4, i, none⟩ u) :=
 ⟨h.x.setCell (by show w0.heap.size ≤ g4; omega) u, h.b3.far (p := ⟨g4, i, none⟩) (by show g3 ≠ g4; omega) u, h.b4.set_ i u, h.b7.far (p := ⟨g4, i, none⟩) (by show g7 ≠ g4; omega) u, h.b8.far (p := ⟨g4, i, none⟩) (by show g8 ≠ g4; omega) u⟩
theorem RD.upd {w0 W W' : World} {g3 g4 g7 g8 g : Nat} {cb cq cz : Array Value} (h : RD w0 g3 g4 g7 g8 cb cq cz W) (hu : Upd (fun x => x = g) W W') (ho : w0.heap.size ≤ g3 ∧ g3 < g4 ∧ g4 < g7 ∧ g7 < g8) (hg : g8 < g) : RD w0 g3 g4 g7 g8 cb cq cz W' :=
 ⟨hu.ext h.x (fun x hx => by omega), hu.blk h.b3 (by omega), hu.blk h.b4 (by omega), hu.blk h.b7 (by omega), hu.blk h.b8 (by omega)⟩
theorem upd_of_grown {W W' : World} {g : Nat} (hg : W.grownBy W' (some g)) : Upd (fun x => x = g) W W' := (Upd.refl (fun x => x = g) W).grown hg (fun x hx => .inl (by cases hx; rfl))
theorem told_one (n : Int) : toldZ [n] = Lib.itoa n := by simp [toldZ, Lib.join]
theorem told_nil : toldZ [] = [] := by simp [toldZ, Lib.join]
theorem goesNumbers : Goes Tryz.prog 21 := ⟨_, Tryz.func21, rfl, rfl⟩
theorem goesDigits : Goes Tryz.prog 11 := ⟨_, Tryz.func11, rfl, rfl⟩
theorem goesBestCost : Goes Tryz.prog 27 := ⟨_, Tryz.func27, rfl, rfl⟩
theorem num_lit (l : List Int) (hl : l.length ≤ 1000) (hb : ∀ n ∈ l, -900000000000 ≤ n ∧ n ≤ 900000000000) :
 Hid (∀ v' n W (_ : l.length = n) (_ : SL W 1 v' n (ints l)), Calls Tryz.prog 21 #[v'] W fun e w' => e = .returned (.string ⟨(toldZ l).toArray⟩) ∧ Ext W w') :=
 hid_ fun v' n W hn hs => by
  subst hn
  exact numbers_any v' l hl hb W hs
end Go.Proofs.YtlhggcbpipmjhaaGreatDoor
