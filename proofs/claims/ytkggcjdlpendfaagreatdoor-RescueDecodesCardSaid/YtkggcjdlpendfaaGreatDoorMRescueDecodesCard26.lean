/- Contracts for the law RescueDecodesCard, part 26: what the functions that it reaches answer, for all arguments that the theorems name. -/
import Derived.Lib.FrozenHead
import Derived.Lib.Builder
import Derived.Lib.UnsafeStr
import Derived.Lib.AppendStr
import Derived.Laws.Externs
import Derived.RegionTactic
import Derived.Test.YtkggcjdlpendfaaGreatDoorMRescueDecodesCard14
import Derived.Test.YtkggcjdlpendfaaGreatDoorMRescueDecodesCard2
import Derived.Test.YtkggcjdlpendfaaGreatDoorMRescueDecodesCard10
import Derived.Test.YtkggcjdlpendfaaGreatDoorMRescueDecodesCard24
import Derived.Test.YtkggcjdlpendfaaGreatDoorMRescueDecodesCard25
import Derived.Test.YtkggcjdlpendfaaGreatDoorMRescueDecodesCard12
import Derived.Test.YtkggcjdlpendfaaGreatDoorMRescueDecodesCard18
import Derived.Test.YtkggcjdlpendfaaGreatDoorMRescueDecodesCard15
import Derived.Test.YtkggcjdlpendfaaGreatDoorMRescueDecodesCard21
import Derived.Test.YtkggcjdlpendfaaGreatDoorMRescueDecodesCard22
import Derived.Test.YtkggcjdlpendfaaGreatDoorMRescueDecodesCard19
namespace Go.Proofs.YtkggcjdlpendfaaGreatDoor
set_option linter.unusedVariables false
set_option linter.unusedSimpArgs false
open Go.RowKit
def bitC (L : List Bool) : List Value := Lib.byteCells (L.map chB)
theorem bitC_str (L D : List Bool) : bitC L ++ Lib.strCells (strB D) = bitC (L ++ D) := by
 simp [bitC, Lib.byteCells, Lib.strCells, strB_data]
def BldS (w : World) (b : Nat) (L : List Bool) (r : Option Nat) : Prop :=
 ∃ p v, (p = .pointer none ∨ p = .pointer (some ⟨b, 0, none⟩)) ∧ w.heap[b]? = some (.cells #[p, v] 173 (0, 0)) ∧ w.ownsRowF (b + 1) 5 1 v L.length (bitC L) ∧ v.ownBlock = r ∧ (L = [] → v = .slice none 0 0)
theorem BldS.new (w : World) (b : Nat) (h : Blk w b 173 #[.pointer none, .slice none 0 0]) : BldS w b [] none :=
 ⟨_, _, .inl rfl, h, ⟨by simp [bitC, Lib.byteCells], .inl ⟨rfl, rfl⟩⟩, rfl, fun _ => rfl⟩
theorem BldS.lt {w : World} {b : Nat} {L : List Bool} {r : Option Nat} (h : BldS w b L r) : b < w.heap.size := by
 obtain ⟨p, v, -, hb, -⟩ := h
 exact Blk.lt (w := w) (t := 173) (cs := #[p, v]) hb
theorem BldS.row {w : World} {b : Nat} {L : List Bool} {r : Option Nat} (h : BldS w b L r) : ∀ k, r = some k → b < k ∧ k < w.heap.size := by
 obtain ⟨p, v, -, hb, hown, hr, -⟩ := h
 intro k hk
 rcases hown.2 with ⟨rfl, -⟩ | ⟨g, cap, cur, fz, rfl, h1, hg, -⟩
 ·rw [← hr] at hk; simp [Value.ownBlock] at hk
 ·rw [← hr] at hk
  have : g = k := by simpa [Value.ownBlock] using hk
  subst this
  refine ⟨by omega, ?_⟩
  rcases Nat.lt_or_ge g w.heap.size with h' | h'
  ·exact h'
  ·simp [Array.getElem?_eq_none h'] at hg
theorem ownsRowF_upd {w w' : World} {B n : Nat} {e : TypeId} {v : Value} {xs : List Value} (hown : w.ownsRowF B e 1 v n xs) (h : ∀ k, v.ownBlock = some k → k < w.heap.size → w'.heap[k]? = w.heap[k]?) : w'.ownsRowF B e 1 v n xs := by
 refine ⟨hown.1, ?_⟩
 rcases hown.2 with ⟨rfl, h2⟩ | ⟨g, cap, cur, fz, rfl, h1, hg, h3⟩
 ·exact .inl ⟨rfl, h2⟩
 ·refine .inr ⟨g, cap, cur, fz, rfl, h1, ?_, h3⟩
  rw [h g (by simp [Value.ownBlock]) ?_]
  ·exact hg
  ·rcases Nat.lt_or_ge g w.heap.size with h' | h'
   ·exact h'
   ·simp [Array.getElem?_eq_none h'] at hg
theorem sizeBld : (Tryz.prog.info? 173).map (·.size) = some 2 := by kernel_rfl
theorem liesBld : liesAt Tryz.prog Tryz.prog.depth 173 (2 / Tryz.prog.cellsOf 173) 0 173 1 = true := by kernel_rfl
theorem zeroBld : (Tryz.prog.info? 173).bind (·.zero) = some (.agg #[.pointer none, .slice none 0 0]) := by kernel_rfl
theorem infoU8 : (Tryz.prog.info? 5).map (fun i => (i.zero, i.size, i.bytes)) = some (some (.int .u8 0), 1, 1) := by kernel_rfl
theorem cellsU8 : Tryz.prog.cellsOf 5 = 1 := by kernel_rfl
set_option maxHeartbeats 1000000 in
set_option maxRecDepth 100000 in
theorem copyCheck_used (b : Nat) (w : World) (h0 : w.cell? ⟨b, 0, none⟩ = some (.pointer (some ⟨b, 0, none⟩))) :
 Calls Tryz.prog 176 #[.pointer (some ⟨b, 0, none⟩)] w fun e w' => e = .returned (.tuple #[]) ∧ w = w' := by
 obtain ⟨j, hj, _⟩ := Option.map_eq_some_iff.1 sizeBld
 have hne := fun W => Lib.run_neq_ptr_same (P := Tryz.prog) W ⟨b, 0, none⟩ Tryz.underlying171 hj
 go_enter Tryz.func176, Tryz.ntmps176
 go_wp2_with fail
 go_end0
 exact ⟨rfl, rfl⟩
set_option maxHeartbeats 1000000 in
set_option maxRecDepth 100000 in
theorem copyCheck_fresh (b : Nat) (w : World) (h0 : w.cell? ⟨b, 0, none⟩ = some (.pointer none)) (hsh : w.shape? b = some (173, 2)) (hfz : w.frozen? ⟨b, 0, none⟩ = false) :
 Calls Tryz.prog 176 #[.pointer (some ⟨b, 0, none⟩)] w fun e w' => e = .returned (.tuple #[]) ∧ w' = w.setCell ⟨b, 0, none⟩ (.pointer (some ⟨b, 0, none⟩)) := by
 obtain ⟨j, hj, hjs⟩ := Option.map_eq_some_iff.1 sizeBld
 go_enter Tryz.func176, Tryz.ntmps176
 go_wp2_with fail
 rw [Lib.run_to_unsafe w ⟨b, 0, none⟩ Tryz.underlying171 Tryz.underlying254 hj (by rw [hjs]; decide) hsh (Nat.zero_lt_succ 1)]
 simp only [Result.andThen]
 rw [Oper.upon_value]
 go_wp2_with fail
 rw [run_callFunc_extern Tryz.func197 (by kernel_rfl) (by kernel_rfl) (by kernel_rfl) (e := Extern.AbiNoEscape.same) (by kernel_rfl)]
 rw [Lib.run_noEscape]
 simp only [Result.andThen]
 rw [Oper.upon_value]
 go_wp2_with fail
 rw [Lib.run_from_unsafe w ⟨b, 0, none⟩ Tryz.underlying254 Tryz.underlying171 hj hsh liesBld]
 simp only [Result.andThen]
 rw [Oper.upon_value]
 go_wp2_with fail
 go_end0
 exact ⟨rfl, rfl⟩
theorem copyCheck_any (b : Nat) (L : List Bool) (r : Option Nat) (w : World) (h : BldS w b L r) :
 Calls Tryz.prog 176 #[.pointer (some ⟨b, 0, none⟩)] w fun e w' => e = .returned (.tuple #[]) ∧ (∃ v, w'.heap[b]? = some (.cells #[.pointer (some ⟨b, 0, none⟩), v] 173 (0, 0)) ∧ w'.ownsRowF (b + 1) 5 1 v L.length (bitC L) ∧ v.ownBlock = r ∧ (L = [] → v = .slice none 0 0)) ∧ Upd (fun x => x = b) w w' := by
 obtain ⟨p, v, hp, hb, hown, hr, h0⟩ := h
 have c0 : w.cell? ⟨b, 0, none⟩ = some p := by rw [Lib.cell_of_heap hb]; rfl
 rcases hp with rfl | rfl
 ·refine (copyCheck_fresh b w c0 (by simp [World.shape?, hb]) (by simp [World.frozen?, hb])).mono ?_
  rintro e w' ⟨rfl, rfl⟩
  refine ⟨rfl, ⟨v, by simp [World.setCell, Array.getElem?_modify, hb], ownsRowF_upd hown (fun k hk hkl => Below.heap_setCell _ _ _ _ ?_), hr, h0⟩, (Upd.refl (fun x => x = b) w).setCell (p := ⟨b, 0, none⟩) rfl _⟩
  rcases hown.2 with ⟨rfl, -⟩ | ⟨g, cap, cur, fz, rfl, h1, -⟩
  ·simp [Value.ownBlock] at hk
  ·have : g = k := by simpa [Value.ownBlock] using hk
   show k ≠ b
   omega
 ·refine (copyCheck_used b w c0).mono ?_
  rintro e w' ⟨rfl, rfl⟩
  exact ⟨rfl, ⟨v, hb, hown, hr, h0⟩, Upd.refl _ w⟩
set_option maxHeartbeats 2000000 in
set_option maxRecDepth 100000 in
theorem writeString_any (b : Nat) (L D : List Bool) (r : Option Nat) (w : World) (h : BldS w b L r) (hlen : L.length + D.length ≤ 140737488355328) :
 Calls Tryz.prog 133 #[.pointer (some ⟨b, 0, none⟩), .string (strB D)] w fun e w' => e = .returned (.tuple #[.int .i64 (D.length : Int), .nilIface]) ∧
  ∃ r', BldS w' b (L ++ D) r' ∧ Upd (fun x => x = b ∨ r = some x) w w' := by
 obtain ⟨i0, hi, hz0, hz1, hz2⟩ := info_parts infoU8
 have hsz := strB_size D
 have HC := hid_ (copyCheck_any b L r w h)
 have hblt := h.lt
 have hD := hid_ (bitC_str L D)
 generalize hs : strB D = s at *
 go_enter Tryz.func133, Tryz.ntmps133
 go_wp2_with (go_at_call 176; refine HC.out.mono ?_)
 rintro e w1 ⟨rfl, ⟨v, hbk, hown, rfl, h0⟩, hu1⟩
 have c0 : w1.cell? ⟨b, 0, none⟩ = some (.pointer (some ⟨b, 0, none⟩)) := by rw [Lib.cell_of_heap hbk]; rfl
 have c1 : w1.cell? ⟨b, 1, none⟩ = some v := by rw [Lib.cell_of_heap hbk]; rfl
 have hb1 := hu1.size
 have HS := hid_ hsz
 clear hsz
 go_wp2_with (at_builtin; refine Lib.wpList_append_own_stringF _ rfl _ _ 45 9 rfl (b + 1) 5 i0 Tryz.underlying45 Tryz.underlying9 hi hz0 hz1 hz2 _ _ _ rfl hown s rfl ?c3 ?c4 ?c5 ?_)
 case c3 => have := HS.out; unfold maxLen; omega
 case c4 => have := HS.out; omega
 case c5 => omega
 intro v' w2 hown' hgrow hiff
 have hvb : v.ownBlock ≠ some b := by
  rcases hown.2 with ⟨rfl, -⟩ | ⟨g, cap, cur, fz, rfl, h1, -⟩
  ·simp [Value.ownBlock]
  ·simp only [Value.ownBlock, ne_eq, Option.some.injEq]; omega
 have hb2 : w2.heap[b]? = some (.cells #[.pointer (some ⟨b, 0, none⟩), v] 173 (0, 0)) := by
  rw [hgrow.block b (by omega) (fun e => hvb e.symm)]
  exact hbk
 have d0 : w2.cell? ⟨b, 0, none⟩ = some (.pointer (some ⟨b, 0, none⟩)) := by rw [Lib.cell_of_heap hb2]; rfl
 have d1 : w2.cell? ⟨b, 1, none⟩ = some v := by rw [Lib.cell_of_heap hb2]; rfl
 have f1 : w2.frozen? ⟨b, 1, none⟩ = false := Lib.frozen_of_heap hb2 1
 have hu2 : Upd (fun x => x = b ∨ v.ownBlock = some x) w w2 := by
  have h9 : Upd (fun x => x = b ∨ v.ownBlock = some x) w w1 := ⟨hu1.os, hu1.tape, hu1.output, hu1.size, fun x hx hn => hu1.block x hx (fun e => hn (.inl e))⟩
  exact h9.grown hgrow (fun k hk => .inl (.inr hk))
 have HI := hid_ hiff
 obtain ⟨ao, n', cap, rfl⟩ : ∃ ao n' cap, v' = .slice ao n' cap := by
  rcases hown'.2 with ⟨hv, _⟩ | ⟨g, cap, cur, fz, hv, _⟩
  ·exact ⟨_, _, _, hv⟩
  ·exact ⟨_, _, _, hv⟩
 have hv'b : (Value.slice ao n' cap).ownBlock ≠ some b := by
  rcases hown'.2 with ⟨hv, -⟩ | ⟨g, cap, cur, fz, hv, h1, -⟩
  ·rw [hv]; simp [Value.ownBlock]
  ·rw [hv]; simp only [Value.ownBlock, ne_eq, Option.some.injEq]; omega
 clear hiff
 go_wp2_with fail
 go_ret2
 refine ⟨by first | rfl | (rw [HS.out]; rfl), _, ⟨.pointer (some ⟨b, 0, none⟩), .slice ao n' cap, .inr rfl, by simp [World.setCell, Array.getElem?_modify, hb2], ?_, rfl, ?_⟩, hu2.setCell (p := ⟨b, 1, none⟩) (.inl rfl) _⟩
 ·rw [← hD.out, List.length_append, ← HS.out]
  exact ownsRowF_upd hown' (fun k hk hkl => Below.heap_setCell _ _ _ _ (fun e => hv'b (by rw [hk, e])))
 ·intro hnil
  obtain ⟨hL, hDn⟩ := List.append_eq_nil_iff.1 hnil
  have hs0 : s = ByteArray.empty := by rw [← hs, hDn]; rfl
  exact HI.out.2 ⟨h0 hL, hs0⟩
theorem unsafeString_none (W : World) (q : Option Addr) : (Builtin.unsafeString_ #[227, 3] 9 #[.pointer q, .int .i64 0]).run Tryz.prog W = .ok (.string .empty) W :=
 Lib.run_unsafeString_none W _ _ _ q
set_option maxHeartbeats 2000000 in
set_option maxRecDepth 100000 in
theorem string_nil (b : Nat) (p : Value) (w : World) (hbk : w.heap[b]? = some (.cells #[p, .slice none 0 0] 173 (0, 0))) :
 Calls Tryz.prog 137 #[.pointer (some ⟨b, 0, none⟩)] w fun e w' => e = .returned (.string ⟨#[]⟩) ∧ Ext w w' := by
 have hUS := unsafeString_none
 have c1 : w.drew.cell? ⟨b, 1, none⟩ = some (.slice none 0 0) := by
  have : w.drew.heap[b]? = some (.cells #[p, .slice none 0 0] 173 (0, 0)) := hbk
  rw [Lib.cell_of_heap this]; rfl
 have hSD : (Builtin.unsafeSliceData_ #[45] 227 #[.slice none 0 0]).run Tryz.prog w.drew = .ok (.pointer none) w.drew := rfl
 go_enter Tryz.func137, Tryz.ntmps137
 go_wp2_with fail
 go_region
 all_goals (go_wp2_with fail; go_ret; exact ⟨rfl, (Ext.refl w).drew⟩)
set_option maxHeartbeats 2000000 in
set_option maxRecDepth 100000 in
theorem string_some (b : Nat) (L : List Bool) (r : Option Nat) (w : World) (h : BldS w b L r) (h0 : L ≠ []) :
 Calls Tryz.prog 137 #[.pointer (some ⟨b, 0, none⟩)] w fun e w' => e = .returned (.string (strB L)) ∧ Upd (fun x => r = some x) w w' := by
 obtain ⟨p, v, -, hbk, hown, rfl, -⟩ := h
 have hl0 : L.length ≠ 0 := by simpa using h0
 have hm : L.map chB ≠ [] := by simpa using h0
 obtain ⟨g, cap, cur, fz, rfl, hbg, hg, hfz, hnc, hcm, hcs, htake⟩ : ∃ g cap cur fz, v = .slice (some ⟨g, 0, none⟩) L.length cap ∧ b + 1 ≤ g ∧ w.heap[g]? = some (.cells cur 5 fz) ∧ fz.2 ≤ L.length * 1 ∧ L.length ≤ cap ∧ cap ≤ maxLen ∧ cur.size = cap * 1 ∧ cur.toList.take (L.length * 1) = bitC L := by
  rcases hown.2 with ⟨_, hz⟩ | ⟨g, cap, cur, fz, hv, r⟩
  ·exact absurd hz hl0
  ·exact ⟨g, cap, cur, fz, hv, r⟩
 have c1 : w.drew.cell? ⟨b, 1, none⟩ = some (.slice (some ⟨g, 0, none⟩) L.length cap) := by
  have : w.drew.heap[b]? = some (.cells #[p, .slice (some ⟨g, 0, none⟩) L.length cap] 173 (0, 0)) := hbk
  rw [Lib.cell_of_heap this]; rfl
 have hSD : (Builtin.unsafeSliceData_ #[45] 227 #[.slice (some ⟨g, 0, none⟩) L.length cap]).run Tryz.prog w.drew = .ok (.pointer (some ⟨g, 0, none⟩)) w.drew :=
  Lib.run_unsafeSliceData_row _ _ _ _ _ _ (by omega)
 have hUS : (Builtin.unsafeString_ #[227, 3] 9 #[.pointer (some ⟨g, 0, none⟩), .int .i64 (L.length : Int)]).run Tryz.prog w.drew = .ok (.string (strB L)) (w.drew.freeze ⟨g, 0, none⟩ L.length) := by
  have := Lib.run_unsafeString_row (P := Tryz.prog) w.drew 227 3 9 5 Tryz.underlying227 cellsU8 g cur.size (by have hg' : w.drew.heap[g]? = some (.cells cur 5 fz) := hg; simp [World.shape?, hg']) (L.map chB) hm (by rw [List.length_map]; omega) (by rw [List.length_map]; unfold maxLen at hcm; omega) (fun j x hx => by
   have := hown.cells (g := g) rfl j (.int .u8 x.toNat) (by simp only [bitC, Lib.byteCells, List.getElem?_map] at hx ⊢; rw [hx]; rfl)
   exact this)
  rw [List.length_map] at this
  exact this
 have hfr : Upd (fun x => (Value.slice (some ⟨g, 0, none⟩) L.length cap).ownBlock = some x) w (w.drew.freeze ⟨g, 0, none⟩ L.length) := by
  unfold World.freeze
  split
  ·exact (Upd.refl _ w).drew
  ·exact ⟨rfl, rfl, rfl, by simp, fun x hx hn => by
    have hne : g ≠ x := fun e => hn (by rw [← e]; rfl)
    show (w.heap.modify g _)[x]? = _
    rw [Array.getElem?_modify, if_neg hne]⟩
 generalize w.drew.freeze ⟨g, 0, none⟩ L.length = wf at *
 clear hl0 hm h0
 go_enter Tryz.func137, Tryz.ntmps137
 go_wp2_with fail
 go_region
 all_goals (go_wp2_with fail; go_ret; exact ⟨rfl, hfr⟩)
theorem string_any (b : Nat) (L : List Bool) (r : Option Nat) (w : World) (h : BldS w b L r) :
 Calls Tryz.prog 137 #[.pointer (some ⟨b, 0, none⟩)] w fun e w' => e = .returned (.string (strB L)) ∧ Upd (fun x => r = some x) w w' := by
 by_cases h0 : L = []
 ·subst h0
  obtain ⟨p, v, -, hbk, -, -, hv⟩ := h
  rw [hv rfl] at hbk
  refine (string_nil b p w hbk).mono ?_
  rintro e w' ⟨rfl, hx⟩
  exact ⟨rfl, Upd.of_ext hx⟩
 ·exact string_some b L r w h h0
theorem digsOf_succ (b : List Nat) (k : Nat) (h : k < b.length) : digsOf (b.take (k + 1)) = digsOf (b.take k) ++ digs b[k] 8 := by
 rw [List.take_succ_eq_append_getElem h, digsOf_append]
 simp [digsOf]
theorem bytes_get {bs : List Nat} {k : Nat} {u : Value} (h : (bytesV bs)[k]? = some u) : ∃ hk : k < bs.length, u = .int .u8 ((bs[k] : Nat) : Int) := by
 unfold bytesV at h
 rw [List.getElem?_map] at h
 obtain ⟨z, hz, rfl⟩ := Option.map_eq_some_iff.1 h
 obtain ⟨hk, rfl⟩ := List.getElem?_eq_some_iff.1 hz
 exact ⟨hk, rfl⟩
set_option maxRecDepth 20000 in
set_option maxHeartbeats 1000000 in
theorem digitsOf_any (bs : List Nat) (v : Value) (w : World) (hv : SL w 1 v bs.length (bytesV bs)) (hlt : ∀ b ∈ bs, b < 256) (hl : bs.length ≤ 1000000000000) :
 Calls Tryz.prog 170 #[v] w fun e w' => e = .returned (.string (strB (digsOf bs))) ∧ Ext w w' := by
 have hv' := hv
 obtain ⟨A, c, rfl, hc1, hc2, -, -⟩ := hv'
 have HB := hid_ hlt
 have HSU := hid_ (digsOf_succ bs)
 obtain ⟨n, hnn⟩ : ∃ n, n = bs.length := ⟨_, rfl⟩
 have HBL : Hid (bs.length = n) := hid_ hnn.symm
 rw [← hnn] at hv hl hc1 ⊢
 clear hnn hlt
 go_enter Tryz.func170, Tryz.ntmps170
 go_wp2_with (refine wAlo' rfl (some 3) rfl 173 rfl _ zeroBld ?_; intro w1 gw hbB hxB hgB)
 have hw0 := BldS.new w1 gw hbB
 clear hbB
 go_loopw [8] (fun i wr => ∃ (k : Nat) (r : Option Nat), k ≤ n ∧ i = .int .i64 (k : Int) ∧ BldS wr gw (digsOf (bs.take k)) r ∧ Ext w wr) (fun i _ => n - (intOf i).toNat)
 case atStart => exact ⟨0, none, by omega, rfl, by simpa [digsOf] using hw0, hxB⟩
 case round =>
  clear hw0
  obtain ⟨k, r, hk, rfl, hwr, hbl⟩ := hrel
  by_cases hlt : k < n
  ·obtain ⟨ad, u, rfl, -, hxk, hcell⟩ := (hv.ext hbl).at1 hlt
   obtain ⟨hkl, rfl⟩ := bytes_get hxk
   have hx8 : bs[k] < 256 := HB.out _ (List.getElem_mem hkl)
   have HS := hid_ (HSU.out k hkl)
   clear hxk
   generalize bs[k] = x at *
   have hx64 : IntKind.i64.wrap (x : Int) = (x : Int) := IntWalk.i64_in _ (by omega)
   have HBI : Hid (∀ W, Calls Tryz.prog 134 #[.int .i64 8, .int .i64 (x : Int)] W fun e w' => e = .returned (.string (strB (digs x 8))) ∧ W = w') := hid_ (fun W => by
    have := binary_any 8 x W (by omega) (by omega)
    rw [binS_strB] at this
    exact this)
   have hll : (digsOf (bs.take k)).length ≤ 8 * k := by rw [digsOf_len, List.length_take]; omega
   have HDL := digs_len x 8
   have HP := hid_ (fun W h => writeString_any gw (digsOf (bs.take k)) (digs x 8) r W h (by omega))
   have hrow := hwr.row
   have hgb := hwr.lt
   generalize digs x 8 = D at *
   generalize hsD : strB D = sD at *
   clear hsD
   go_wp2_with (first
    | (go_at_call 134; (with_reducible refine (HBI.out _).mono ?_); rintro e w4 ⟨rfl, rfl⟩)
    | (go_at_call 133; (with_reducible refine (HP.out _ hwr).mono ?_); rintro e w5 ⟨rfl, r', hw5, hu5⟩))
   go_roundw
   case rel =>
    refine ⟨k + 1, r', by omega, by go_num, by rw [HS.out]; exact hw5, hu5.ext hbl (fun x hx => ?_)⟩
    rcases hx with rfl | hx
    ·exact hgB
    ·have := hrow x hx; omega
   case measure => simp [intOf]; omega
  ·have e1 : bs.take k = bs := List.take_of_length_le (by have := HBL.out; omega)
   rw [e1] at hwr
   have HS := hid_ (fun W h => string_any gw (digsOf bs) r W h)
   have hrow := hwr.row
   generalize hsa : strB (digsOf bs) = sa at *
   have HSA := hid_ hsa
   clear hsa
   go_wp2_with (go_at_call 137; (with_reducible refine (HS.out _ hwr).mono ?_); rintro e w5 ⟨rfl, hu5⟩)
   go_ret
   exact ⟨by rw [HSA.out]; rfl, hu5.ext hbl (fun x hx => by have := hrow x hx; omega)⟩
section
theorem goesRef : Goes Tryz.prog 172 := ⟨_, Tryz.func172, by kernel_rfl, by kernel_rfl⟩
theorem refSrc (g gs : Nat) (tA tB : List Value) (hA : tA.length = 17) (hB : tB.length = 17) (oA : tA.toArray.all (·.oneCell') = true) (oB : tB.toArray.all (·.oneCell') = true) (T1 T2 : List Tok) (D : List Bool) (hDl : D.length ≤ 1000000000000) (W0 : World)
 (HS1 : ∀ W B, Ext W0 W → B.length ≤ 1000000000000 → Calls Tryz.prog 173 #[.agg tA.toArray, .string (strB B)] W fun e w' => e = .returned (.tuple #[.int .i64 (symZ T1 B 0).1, .string (if (symZ T1 B 0).2.2 = 0 then strB (B.drop (symZ T1 B 0).2.1) else ⟨#[]⟩), .int .i64 (symZ T1 B 0).2.2]) ∧ Ext W w')
 (HS2 : ∀ W B, Ext W0 W → B.length ≤ 1000000000000 → Calls Tryz.prog 173 #[.agg tB.toArray, .string (strB B)] W fun e w' => e = .returned (.tuple #[.int .i64 (symZ T2 B 0).1, .string (if (symZ T2 B 0).2.2 = 0 then strB (B.drop (symZ T2 B 0).2.1) else ⟨#[]⟩), .int .i64 (symZ T2 B 0).2.2]) ∧ Ext W w')
 (hT1 : ∀ t ∈ T1, 0 ≤ t.1 ∧ t.1 ≤ 255) (hT2 : ∀ t ∈ T2, 0 ≤ t.1 ∧ t.1 ≤ 255) (B : Nat) (h1 : g < B) (h2 : gs < B) :
 Src 172 #[] #[.pointer (some ⟨g, 0, none⟩), .pointer (some ⟨gs, 0, none⟩)] B (fun b => b = gs) (RefIn g gs (tA ++ tB).toArray D W0) (segNext false T1 T2 D) :=
 ⟨fun b e => by omega, fun b p W h _ => by simpa using refTok_any g gs tA tB hA hB oA oB T1 T2 D hDl W0 HS1 HS2 hT1 hT2 b p W h, fun s W W' h hu => h.keep h1 h2 hu, fun b p W _ h0 => segNext_wf hT1 hT2 h0⟩
theorem zeroStr : (Tryz.prog.info? 9).bind (·.zero) = some (.string ⟨#[]⟩) := by kernel_rfl
theorem blk_set0 {w : World} {g : Nat} {T : TypeId} {u v : Value} (h : Blk w g T #[u]) : Blk (w.setCell ⟨g, 0, none⟩ v) g T #[v] := h.set_ 0 v
theorem ex_loadB {P : Program} {o : Oper} {a : Act} {ty : TypeId} {x : Operand} (ho : o.op = .load ty x) {g : Nat} (hx : a.eval x = .pointer (some ⟨g, 0, none⟩)) {t : TypeId} {cs : Array Value} {w : World} (hB : Blk w g t cs) {d : TypeDesc} (hu : P.underlying ty = some d) (hd : d.isRow = true) {n : Nat} (hi : (P.info? ty).map (·.size) = some n) (hn : cs.size = n) :
 (execOp a.eval o).run P w = .ok (.value (.agg cs)) w := by
 have h1 : Blk w g t ([] ++ (cs.toList ++ [])).toArray := by simpa using hB
 have h := ex_loadMid ho hx (range_part h1) hu hd (by rw [hi, ← hn]; simp)
 simpa using h
theorem left_ext {w w5 : World} {gs : Nat} (h : Ext w w5) (v : Value) (hg : w.heap.size ≤ gs) : Ext w (w5.setCell ⟨gs, 0, none⟩ v) :=
 ((Upd.refl (fun x => x = gs) w5).setCell rfl v).ext h (fun x e => by omega)
attribute [local irreducible] bytesV bv plZ digsOf segNext blkZ segGo numB strB
set_option maxRecDepth 20000 in
set_option maxHeartbeats 8000000 in
theorem rsegDec_good (cs1 xs1 cs2 xs2 : List Int) (s1 s2 : Value) (A : Option Addr) (n c : Nat) (bs : List Nat) (nn : Int) (w : World) (hs : SL w 1 (.slice A n c) n (bytesV bs)) (hlt : ∀ b ∈ bs, b < 256) (hn : n ≤ 1048576) (l1 : cs1.length = 16) (l2 : cs2.length = 16)
 (hs1 : SL w 1 s1 xs1.length (ints xs1)) (hs2 : SL w 1 s2 xs2.length (ints xs2)) (z1 : checkZ cs1 xs1 = 0) (z2 : checkZ cs2 xs2 = 0)
 (hT1 : ∀ t ∈ zipC (codesW cs1 16) xs1, 0 ≤ t.1 ∧ t.1 ≤ 255) (hT2 : ∀ t ∈ zipC (codesW cs2 16) xs2, 0 ≤ t.1 ∧ t.1 ≤ 255) :
 Calls Tryz.prog 117 #[.agg (tblL cs1 s1 ++ tblL cs2 s2).toArray, .slice A n c, .int .i64 nn] w (DecIs (decR false (zipC (codesW cs1 16) xs1) (zipC (codesW cs2 16) xs2) nn (plZ bs)) w) := by
 have h1 := tblL_len cs1 s1 l1
 have h2 := tblL_len cs2 s2 l2
 have HM := hid_ (fun W (h : Ext w W) => tablesCheck_any (tblL cs1 s1) (tblL cs2 s2) 0 0 W h1 h2 (fun W' h' => by have := rcheck_any cs1 xs1 s1 W' l1 ((hs1.ext h).ext h'); rw [z1] at this; exact this) (fun W' h' => by have := rcheck_any cs2 xs2 s2 W' l2 ((hs2.ext h).ext h'); rw [z2] at this; exact this))
 rw [if_pos rfl] at HM
 have hsz := hid_ (tblsWhole h1 h2)
 have HS1 := hid_ (fun W B (h : Ext w W) (hB : B.length ≤ 1000000000000) => symOf_any cs1 xs1 s1 B W l1 (hs1.ext h) z1 (by omega))
 have HS2 := hid_ (fun W B (h : Ext w W) (hB : B.length ≤ 1000000000000) => symOf_any cs2 xs2 s2 B W l2 (hs2.ext h) z2 (by omega))
 simp only [tblv_tblL] at HS1 HS2
 have HO1 := hid_ (tblL_oneS cs1 s1 hs1)
 have HO2 := hid_ (tblL_oneS cs2 s2 hs2)
 have HPL := hid_ (fun W (h : Ext w W) => rplain_any A n c bs W (hs.ext h) hlt (by omega))
 have hbl := (sl_len hs).1
 have hpz := plZ_lt bs
 have HL1 := hid_ h1
 have HL2 := hid_ h2
 generalize tblL cs1 s1 = tA at *
 generalize tblL cs2 s2 = tB at *
 generalize zipC (codesW cs1 16) xs1 = T1 at *
 generalize zipC (codesW cs2 16) xs2 = T2 at *
 have HFR := hid_ (fun (g gs : Nat) (D : List Bool) (before : Int) (p : Nat) (W : World) (hD : D.length ≤ 1000000000000) (hb : -2047 ≤ before ∧ before ≤ 2047) (h : RefIn g gs (tA ++ tB).toArray D w W p) => blockOf_any before hb.1 hb.2 goesRef (refSrc g gs tA tB h1 h2 HO1.out HO2.out T1 T2 D hD w HS1.out HS2.out hT1 hT2 W.heap.size h.gt.lt h.st.lt) W p h rfl)
 generalize (tA ++ tB).toArray = tt at *
 have HIN := hid_ (fun W => outside_any nn 0 400 W)
 clear hs hs1 hs2 z1 z2 l1 l2 h1 h2 hT1 hT2 HS1 HS2 HO1 HO2 HL1 HL2
 by_cases hr : nn < 0 ∨ 400 < nn
 ·have HR : Hid (decR false T1 T2 nn (plZ bs) = (1, [])) := hid_ (by unfold decR; rw [if_pos hr])
  have hin : inB nn 0 400 = false := by
   cases hq : inB nn 0 400 with
   | false => rfl
   | true => have := inB_iff.1 hq; omega
  rw [HR.out]
  rw [hin] at HIN
  clear HPL hpz hr hin
  go_enter Tryz.func117, Tryz.ntmps117
  go_wp2_with (first
   | ((with_reducible apply gS 3); refine wBox rfl 44 (.tmp 0) rfl tt rfl ?_; intro w1 g hb1 hx1 hg1)
   | ((with_reducible apply gS 17); refine wLdB rfl 44 (.tmp 3) rfl g rfl hb1 _ Tryz.underlying44 rfl 34 sizeTbls hsz.out ?_)
   | (go_at_call 76; (with_reducible refine (HM.out _ hx1).mono ?_); rintro e w2 ⟨rfl, hx2⟩; have hx2' := hx1.trans hx2)
   | (go_at_call 54; (with_reducible refine (HIN.out _).mono ?_); rintro e w' ⟨rfl, rfl⟩))
  refine bodyPost_ret (results_tmp2 rfl _ _ _) rfl ?_
  refine ⟨hx2', ?_⟩
  rw [if_neg (show ¬ (1 : Int) = 0 by decide)]
  rfl
 ·obtain ⟨N, hN⟩ : ∃ N : Nat, nn = (N : Int) := ⟨nn.toNat, by omega⟩
  subst hN
  have hN4 : N ≤ 400 := by omega
  have hin : inB (N : Int) 0 400 = true := inB_iff.2 (by omega)
  rw [hin] at HIN
  clear hin
  cases hq : plZ bs with
  | none =>
    have HR : Hid (decR false T1 T2 (N : Int) none = (4, [])) := hid_ (by unfold decR; rw [if_neg hr])
    rw [hq] at HPL
    rw [HR.out]
    clear hq hpz hr
    go_enter Tryz.func117, Tryz.ntmps117
    go_wp2_with (first
     | ((with_reducible apply gS 3); refine wBox rfl 44 (.tmp 0) rfl tt rfl ?_; intro w1 g hb1 hx1 hg1)
     | ((with_reducible apply gS 17); refine wLdB rfl 44 (.tmp 3) rfl g rfl hb1 _ Tryz.underlying44 rfl 34 sizeTbls hsz.out ?_)
     | (go_at_call 76; (with_reducible refine (HM.out _ hx1).mono ?_); rintro e w2 ⟨rfl, hx2⟩; have hx2' := hx1.trans hx2)
     | (go_at_call 54; (with_reducible refine (HIN.out _).mono ?_); rintro e w' ⟨rfl, rfl⟩)
     | (go_at_call 169; (with_reducible refine (HPL.out _ hx2').mono ?_); rintro e w3 ⟨rfl, hx3⟩))
    refine bodyPost_ret (results_tmp2 rfl _ _ _) rfl ?_
    refine ⟨hx2'.trans hx3, ?_⟩
    rw [if_neg (show ¬ (4 : Int) = 0 by decide)]
    rfl
  | some pb =>
    obtain ⟨hplt, hpl⟩ := hpz pb hlt hq
    have hRd : decR false T1 T2 (N : Int) (some pb) = segFin (digsOf pb) (segGo (segNext false T1 T2 (digsOf pb)) N 0 0 []) := by unfold decR; rw [if_neg hr]; rfl
    rw [hRd]
    rw [hq] at HPL
    obtain ⟨pn, hpn⟩ : ∃ k, pb.length = k := ⟨_, rfl⟩
    have hpn2 : pn ≤ 1048576 := by omega
    have HPN := hid_ hpn
    have HDO := hid_ (fun B d W (h : SL W 1 (.slice B pn d) pn (bytesV pb)) => digitsOf_any pb (.slice B pn d) W (by rw [hpn]; exact h) hplt (by omega))
    have HDL := hid_ (show (digsOf pb).length = 8 * pn by rw [digsOf_len, hpn])
    generalize digsOf pb = D at *
    clear hq hpz hr hRd hplt hpl hlt hbl hpn
    have hR0 : ∃ R, segGo (segNext false T1 T2 D) N 0 0 [] = R := ⟨_, rfl⟩
    obtain ⟨R, hR0⟩ := hR0
    have HR0 : Hid (segGo (segNext false T1 T2 D) (N - 0) 0 0 [] = R) := hid_ hR0
    rw [hR0]
    obtain ⟨FIN, hF⟩ : ∃ F, segFin D R = F := ⟨_, rfl⟩
    have HFIN := hid_ hF
    rw [hF]
    have HAL := hid_ (show (Tryz.prog.info? 33).bind (·.zero) = some (.agg (bv (List.replicate 64 0))) from zero48)
    have hz0 := hid_ (show (Value.agg (bv (List.replicate 64 0))).cells.size = 64 by rw [show (Value.agg (bv (List.replicate 64 0))).cells = bv (List.replicate 64 0) from rfl, bv_size]; rfl)
    generalize bv (List.replicate 64 0) = cz at *
    have hmf : ∀ (fn : Fn) (first cap : Array Value) (w : World), (Instr.makeFunc fn first cap).run Tryz.prog w = .ok (.func fn first cap) w := fun _ _ _ _ => rfl
    clear hR0 hF
    go_enter Tryz.func117, Tryz.ntmps117
    go_wp2_with (first
     | ((with_reducible apply gS 3); refine wBox rfl 44 (.tmp 0) rfl tt rfl ?_; intro w1 g hb1 hx1 hg1)
     | ((with_reducible apply gS 17); refine wLdB rfl 44 (.tmp 3) rfl g rfl hb1 _ Tryz.underlying44 rfl 34 sizeTbls hsz.out ?_)
     | (go_at_call 76; (with_reducible refine (HM.out _ hx1).mono ?_); rintro e w2 ⟨rfl, hx2⟩; have hx2' := hx1.trans hx2)
     | (go_at_call 54; (with_reducible refine (HIN.out _).mono ?_); rintro e w' ⟨rfl, rfl⟩)
     | (go_at_call 169; (with_reducible refine (HPL.out _ hx2').mono ?_); rintro e w3 ⟨B, k3, d3, rfl, hk3, hs3, hn3, hx3⟩; obtain rfl : pn = k3 := HPN.out.symm.trans hk3)
     | (go_at_call 170; (with_reducible refine (HDO.out _ _ _ hs3).mono ?_); rintro e w4 ⟨rfl, hx4⟩; have hx4' := (hx2'.trans hx3).trans hx4)
     | ((with_reducible apply gS 11); refine wAlo' rfl (some 11) rfl 9 rfl _ zeroStr ?_; intro w5 gs hb5 hx5 hg5; have z5 := hb5.frozen 0; have q5 : w5.cell? ⟨gs, 0, none⟩ = some (.string ⟨#[]⟩) := hb5.cell 0; have hb6 := blk_set0 (v := .string (strB D)) hb5; have hx6 := left_ext (gs := gs) (hx4'.trans hx5) (.string (strB D)) (by have := hx4'.size; omega); have hg6 := ((hb1.ext hx2).ext hx3).ext (hx4.trans hx5); have hu6 := (Upd.refl (fun x => x = gs) w5).setCell (p := ⟨gs, 0, none⟩) rfl (.string (strB D))))
    have hI6 : RefIn g gs tt D w (w5.setCell ⟨gs, 0, none⟩ (.string (strB D))) 0 := by
     have hne : g ≠ gs := by have h1 := hb1.lt; have h2 := (hx2.trans hx3).size; have h3 := hx4.size; omega
     exact ⟨hu6.blk hg6 hne, by rw [List.drop_zero]; exact hb6, hx6, Nat.zero_le _, by have := hx4'.size; omega, hne⟩
    clear hb1 hx1 hg1 hx2 hx2' hx3 hx4 hx4' hx5 hg5 z5 q5 hb6 hx6 hg6 hu6 hs3 hn3 hb5 hk3
    generalize w5.setCell ⟨gs, 0, none⟩ (.string (strB D)) = w6 at *
    obtain ⟨wo, hwo⟩ : ∃ wo : World, wo = w6 := ⟨_, rfl⟩
    have HGR : Hid (gs < wo.heap.size) := hid_ (by rw [hwo]; exact hI6.st.lt)
    have HW6 : Hid (wo.heap.size ≤ w6.heap.size) := hid_ (by rw [hwo]; exact Nat.le_refl _)
    have HWW : Hid (w.heap.size ≤ wo.heap.size) := hid_ (by rw [hwo]; exact hI6.b.size)
    have HGG : Hid (g < wo.heap.size) := hid_ (by rw [hwo]; exact hI6.gt.lt)
    have how : OwnV w6 wo.heap.size 33 64 (.slice none 0 0) 0 (ints []) := OwnV.nil _ _ _ _
    clear hwo
    go_loopw [12, 13, 35] (fun x bf iv wr => ∃ (k p : Nat) (before : Int) (L : List Int), k ≤ N ∧ iv = .int .i64 (k : Int) ∧ bf = .int .i64 before ∧ OwnV wr wo.heap.size 33 64 x k (ints L) ∧ RefIn g gs tt D w wr p ∧ Hid (-2047 ≤ before ∧ before ≤ 2047) ∧ Hid (segGo (segNext false T1 T2 D) (N - k) before p L = R) ∧ Hid (wo.heap.size ≤ wr.heap.size)) (fun _ _ i _ => N - (intOf i).toNat)
    case atStart => exact ⟨0, 0, 0, [], by omega, rfl, rfl, how, hI6, hid_ (by omega), HR0, HW6⟩
    case round =>
     clear how hI6 HR0 HW6
     obtain ⟨k, p, before, L, hk, rfl, rfl, ⟨OA, oc, rfl, hown⟩, hD, HBF, HRR, HSZ⟩ := hrel
     have hx := hD.b
     by_cases hlk : k < N
     ·have HFK := hid_ (fun W h => HFR.out g gs D before p W (by rw [HDL.out]; omega) HBF.out h)
      have HE : Hid ((blkZ (segNext false T1 T2 D) before p).1 ≠ 0 → R = ((blkZ (segNext false T1 T2 D) before p).1, [], p)) := hid_ (fun h => by rw [← HRR.out, show N - k = (N - (k + 1)) + 1 by omega, segGo_err h])
      have HO : Hid ((blkZ (segNext false T1 T2 D) before p).1 = 0 → segGo (segNext false T1 T2 D) (N - (k + 1)) ((blkZ (segNext false T1 T2 D) before p).2.1.getD 0 0) (blkZ (segNext false T1 T2 D) before p).2.2.2 (L ++ (blkZ (segNext false T1 T2 D) before p).2.1) = R) := hid_ (fun h => by rw [← HRR.out, show N - k = (N - (k + 1)) + 1 by omega, segGo_ok h])
      have hzl := (blkZ_len (segNext false T1 T2 D) before p).1
      have HHD := hid_ (blkZ_head (segNext false T1 T2 D) before p)
      generalize blkZ (segNext false T1 T2 D) before p = G at *
      obtain ⟨ge, gz, gt, gp⟩ := G
      unfold BlkIs at HFK
      dsimp only at HFK HE HO hzl HHD
      generalize gt.length = gn at *
      have HZL := hid_ hzl
      have HS64 := hid_ (show (bv gz).size = 64 by rw [bv_size]; exact hzl)
      have HO64 := hid_ (bv_one gz)
      clear hzl HRR
      by_cases hge : ge = 0
      ·subst hge
       have HO2 := hid_ (HO.out rfl)
       have HH2 := hid_ (HHD.out rfl)
       have HH0 : Hid ((bv gz)[0]? = some (.int .i64 (gz.getD 0 0))) := hid_ (by rw [bv_at _ 0 (by rw [HZL.out]; omega)]; simp [List.getD_eq_getElem?_getD, HZL.out])
       clear HE HO HHD
       go_wp2_with (first
        | (go_at_call 171; (with_reducible refine (HFK.out _ hD).mono ?_); rintro e w8 ⟨rfl, hI8, hu8⟩; have ho8 := own_upd hown hu8 (fun x e => by have := HGR.out; omega); have hs8 := hu8.size)
        | ((with_reducible apply gS 14); refine wAlo' rfl (some 14) rfl 33 rfl _ HAL.out ?_; intro w9 g14 hb9 hx9 hg9)
        | ((with_reducible apply gT 14 41); refine wStB rfl 33 (.tmp 14) (.tmp 41) rfl _ _ rfl rfl hb9 64 size48 HS64.out hz0.out HO64.out ?_; intro w10 hb10 hg10'; have hx10 : Ext w8 w10 := hx9.grown hg10' hg9))
       have hx10d : Ext w8 w10.drew := hx10.drew
       have hI : Blk w10.drew g14 33 (bv gz) := hb10.drew
       have hlo8 := own_lowB ho8
       clear hb9 hx9 hb10 hg10' hx10
       refine wp_region_oi (fun W => Blk W g14 33 (bv gz)) (by kernel_rfl) ?_
       refine oi_run (k := 0) (by kernel_rfl) rfl (by rfl) (.slice OA k oc) (ex_move rfl rfl) hI ?_
       simp only [Act.put, sA, sB, sC]
       refine oi_fix (k := 1) (by kernel_rfl) rfl (by rfl) (.agg (bv gz)) (fun W hW => ex_loadB rfl rfl hW Tryz.underlying33 rfl size48 HS64.out) hI ?_
       simp only [Act.put, sA, sB, sC]
       refine oi_run (k := 4) (by kernel_rfl) rfl (by rfl) (.pointer (some ⟨g14, 0, none⟩)) (ex_ixArr0 (i := 0) Tryz.underlying33 sizeI rfl rfl rfl (by omega)) hI ?_
       simp only [Act.put, sA, sB, sC]
       refine oi_fix (k := 5) (by kernel_rfl) rfl (by rfl) (.int .i64 (gz.getD 0 0)) (fun W hW => ex_loadI rfl rfl ((hW.cell 0).trans HH0.out)) hI ?_
       simp only [Act.put, sA, sB, sC]
       refine oi_loud (k := 2) (by kernel_rfl) rfl ?_
       refine wLit1 rfl 25 33 (.tmp 48) rfl (some 49) rfl Tryz.underlying25 64 size48 zero48' _ rfl HS64.out (by omega) (by omega) ?_
       intro w11 g49 hb11 hx11 hg11
       have hI11 := hI.ext hx11
       have hx811 := hx10d.trans hx11
       have ho11 := own_keep ho8 hx811
       refine oi_end ⟨hI11, ?_⟩
       simp only [Act.put, sA, sB, sC]
       refine oi_loud (k := 3) (by kernel_rfl) rfl ?_
       refine wApf elt_blk rfl (.tmp 47) (.tmp 49) rfl wo.heap.size (.slice OA k oc) k (ints L) rfl ho11 _ 1 (ints gz) rfl (blk_sl1 hb11 HZL.out) (ints_one_mem gz) (by omega) (by omega) (by have := HSZ.out; have := hx811.size; omega) ?_
       intro A12 c12 w12 ho12 hgr12 hor12
       have hu12 := upd_grown hgr12
       have hI12 := hu12.blk hI11 (fun e => by have := (hlo8 _ e).2; omega)
       refine oi_end ⟨hI12, ?_⟩
       simp only [Act.put, sA, sB, sC]
       refine oi_run (k := 6) (by kernel_rfl) rfl (by rfl) (.slice A12 (k + 1) c12) (ex_assign rfl rfl) hI12 ?_
       simp only [Act.put, sA, sB, sC]
       refine oi_run (k := 7) (by kernel_rfl) rfl (by rfl) (.int .i64 (gz.getD 0 0)) (ex_assign rfl rfl) hI12 ?_
       simp only [Act.put, sA, sB, sC]
       refine oi_done (by kernel_rfl) ?_
       go_wp2_with fail
       go_roundw
       case rel =>
        have hlo := own_lowB ho11
        refine ⟨k + 1, gp, gz.getD 0 0, L ++ gz, by omega, by go_num, rfl, ⟨A12, c12, rfl, by rw [ints_app]; exact ho12⟩, (hI8.ext hx811).keep HGG.out HGR.out (upd_sub hu12 (fun b e => (hlo b e).1)), HH2, HO2, hid_ ?_⟩
        have h1 := HSZ.out
        have h2 := hx811.size
        have h3 := hu12.size
        omega
       case measure => simp [intOf]; omega
      ·have hgb : (ge != 0) = true := by simpa using hge
       have HRE := hid_ (HE.out hge)
       have HGE := hid_ hge
       clear hge HE HO HHD
       go_wp2_with (first
        | (go_at_call 171; (with_reducible refine (HFK.out _ hD).mono ?_); rintro e w8 ⟨rfl, hI8, hu8⟩)
        | ((with_reducible apply gS 14); refine wAlo' rfl (some 14) rfl 33 rfl _ HAL.out ?_; intro w9 g14 hb9 hx9 hg9)
        | ((with_reducible apply gT 14 41); refine wStB rfl 33 (.tmp 14) (.tmp 41) rfl _ _ rfl rfl hb9 64 size48 HS64.out hz0.out HO64.out ?_; intro w10 hb10 hg10'; have hx10 : Ext w8 w10 := hx9.grown hg10' hg9))
       refine bodyPost_ret (results_tmp2 rfl _ _ _) rfl ?_
       have hfe : FIN = (ge, []) := by rw [← HFIN.out, HRE.out]; unfold segFin; rw [if_pos HGE.out]
       rw [hfe]
       refine ⟨hI8.b.trans hx10, ?_⟩
       rw [if_neg HGE.out]
       rfl
     ·have hkN : N - k = 0 := by omega
      have HR2 : Hid (R = (0, L, p)) := hid_ (by rw [← HRR.out, hkN, segGo])
      have hll : L.length = k * 64 := by have := hown.1; simpa [ints] using this
      have hln := own_noneB hown
      obtain ⟨lf, hlf⟩ : ∃ l, (D.drop p).length = l := ⟨_, rfl⟩
      have hdl : D.length - p = lf := by rw [← hlf, List.length_drop]
      have HQ := hid_ (show (strB (D.drop p)).size = lf by rw [strB_size, hlf])
      have hq := hD.st.cell 0
      have q0 : wr.cell? ⟨gs, 0, none⟩ = some (.string (strB (D.drop p))) := hq
      clear hq
      by_cases h7 : 7 < lf
      ·have HFE : Hid (FIN = (4, [])) := hid_ (by rw [← HFIN.out, HR2.out]; unfold segFin; rw [if_neg (by simp), if_pos (.inl (by dsimp only; omega))])
       have H56 : Hid (decide ((7 : Int) < (lf : Int)) = true) := hid_ (by rw [decide_eq_true]; omega)
       clear HRR HFIN HR2 hlf hdl
       go_wp2_with (first
        | ((with_reducible apply gS 55); refine wl_run rfl (.int .i64 (lf : Int)) (ex_lenS rfl rfl HQ.out) ?_)
        | ((with_reducible apply gS 56); refine wl_run rfl (.bool true) (ex_gtr rfl rfl rfl H56.out) ?_))
       refine bodyPost_ret (results_tmp2 rfl _ _ _) rfl ?_
       rw [HFE.out]
       refine ⟨hx, ?_⟩
       rw [if_neg (show ¬ (4 : Int) = 0 by decide)]
       rfl
      ·have H56 : Hid (decide ((7 : Int) < (lf : Int)) = false) := hid_ (by rw [decide_eq_false]; omega)
       by_cases hf : false ∈ D.drop p
       ·have HFE : Hid (FIN = (4, [])) := hid_ (by rw [← HFIN.out, HR2.out]; unfold segFin; rw [if_neg (by simp), if_pos (.inr hf)])
        have H59 : Hid (decide (0 ≤ Lib.indexByte (strB (D.drop p)).data.toList 48) = true) := hid_ (by rw [decide_eq_true_eq, strB_data]; exact (zero_iff _).2 hf)
        clear HRR HFIN HR2 hlf hdl hf
        go_wp2_with (first
         | ((with_reducible apply gS 55); refine wl_run rfl (.int .i64 (lf : Int)) (ex_lenS rfl rfl HQ.out) ?_)
         | ((with_reducible apply gS 56); refine wl_run rfl (.bool false) (ex_gtr rfl rfl rfl H56.out) ?_)
         | (go_at_call 175; (with_reducible refine (Tryz.strings_Contains_one _ 48 _).mono ?_); rintro e w9 ⟨rfl, rfl⟩; rw [H59.out]))
        refine bodyPost_ret (results_tmp2 rfl _ _ _) rfl ?_
        rw [HFE.out]
        refine ⟨hx, ?_⟩
        rw [if_neg (show ¬ (4 : Int) = 0 by decide)]
        rfl
       ·have HFE : Hid (FIN = (0, L)) := hid_ (by rw [← HFIN.out, HR2.out]; unfold segFin; rw [if_neg (by simp), if_neg (by dsimp only; rintro (h | h) <;> first | omega | exact hf h)])
        have H59 : Hid (decide (0 ≤ Lib.indexByte (strB (D.drop p)).data.toList 48) = false) := hid_ (by rw [decide_eq_false_iff_not, strB_data]; exact fun h => hf ((zero_iff _).1 h))
        clear HRR HFIN HR2 hlf hdl hf
        go_wp2_with (first
         | ((with_reducible apply gS 55); refine wl_run rfl (.int .i64 (lf : Int)) (ex_lenS rfl rfl HQ.out) ?_)
         | ((with_reducible apply gS 56); refine wl_run rfl (.bool false) (ex_gtr rfl rfl rfl H56.out) ?_)
         | (go_at_call 175; (with_reducible refine (Tryz.strings_Contains_one _ 48 _).mono ?_); rintro e w9 ⟨rfl, rfl⟩; rw [H59.out]))
        refine bodyPost_ret (results_tmp2 rfl _ _ _) rfl ?_
        rw [HFE.out]
        refine ⟨hx, ?_⟩
        rw [if_pos rfl]
        exact ⟨OA, k, oc, rfl, hll, (own_out hown).1, hln⟩
end
section
theorem goesSegDec : Goes Tryz.prog 110 := ⟨_, Tryz.func110, by kernel_rfl, by kernel_rfl⟩
theorem ext_grow {a w w' : World} (h : Ext a w) {row : Option Nat} (hg : w.grownBy w' row) (hB : ∀ b, row = some b → a.heap.size ≤ b) : Ext a w' := Below.grown h hg h.size (fun k hk => hB k hk)
attribute [local irreducible] bytesV bv sdGo spansL spanE cutK plZ decR
end
section
attribute [local irreducible] bv partsL spanE cutK
set_option maxRecDepth 20000 in
set_option maxHeartbeats 2000000 in

theorem parts_anyF (n e : Nat) (hn : n ≤ 1000000) (he : e ≤ 1000000) (w : World) :
 Calls Tryz.prog 46 #[.int .i64 (n : Int), .int .i64 (e : Int)] w fun en w' => ∃ B d, en = .returned (.slice B (cutK n e) d) ∧ SL w' 1 (.slice B (cutK n e) d) (cutK n e) (ints (partsL n e (cutK n e))) ∧ Ext w w' ∧ ∀ ad, B = some ad → w.heap.size ≤ ad.block := by
 by_cases h : e = 0 ∨ n = 0
 ·obtain ⟨hE, hK⟩ := cut_whole h
  have hL : partsL n e 1 = [(n : Int)] := by
   simp only [partsL, List.nil_append, hE]
   simp
  rw [hK, hL]
  clear hE hK hL
  by_cases h0 : e = 0
  ·have H8 : Hid (decide ((e : Int) = 0) = true) := hid_ (by rw [decide_eq_true_eq]; omega)
   clear h h0
   go_enter Tryz.func46, Tryz.ntmps46
   go_wp2_with (first
    | ((with_reducible apply gS 7); refine wl_run rfl (.bool true) (ex_eql rfl rfl rfl H8.out) ?_)
    | ((with_reducible apply gS 13); refine wLit1 rfl 22 3 (.tmp 12) rfl (some 13) rfl Tryz.underlying22 1 sizeI zeroI _ rfl rfl (by omega) (by omega) ?_; intro w1 g hb1 hx1 hg1))
   go_ret
   exact ⟨_, _, rfl, blk_one hb1, hx1, fun ad e => by injection e with e; rw [← e]; exact hg1⟩
  ·have H8 : Hid (decide ((e : Int) = 0) = false) := hid_ (by rw [decide_eq_false_iff_not]; omega)
   have H11 : Hid (decide ((n : Int) = 0) = true) := hid_ (by rw [decide_eq_true_eq]; omega)
   clear h h0
   go_enter Tryz.func46, Tryz.ntmps46
   go_wp2_with (first
    | ((with_reducible apply gS 7); refine wl_run rfl (.bool false) (ex_eql rfl rfl rfl H8.out) ?_)
    | ((with_reducible apply gS 10); refine wl_run_g (by rfl) (.bool true) (ex_eql rfl rfl rfl H11.out) ?_)
    | ((with_reducible apply gS 13); refine wLit1 rfl 22 3 (.tmp 12) rfl (some 13) rfl Tryz.underlying22 1 sizeI zeroI _ rfl rfl (by omega) (by omega) ?_; intro w1 g hb1 hx1 hg1))
   go_ret
   exact ⟨_, _, rfl, blk_one hb1, hx1, fun ad e => by injection e with e; rw [← e]; exact hg1⟩
 ·have HE := hid_ (cut_part h).1
  have HLT := hid_ (fun i => cutK_lt (i := i) h)
  have HKL := hid_ (cutK_le (n := n) (e := e))
  have HE0 : Hid (0 < e) := hid_ (by omega)
  have H8 : Hid (decide ((e : Int) = 0) = false) := hid_ (by rw [decide_eq_false_iff_not]; omega)
  have H11 : Hid (decide ((n : Int) = 0) = false) := hid_ (by rw [decide_eq_false_iff_not]; omega)
  have how : OwnV w w.heap.size 3 1 (.slice none 0 0) 0 (ints (partsL n e 0)) := by
   have h0 : partsL n e 0 = [] := by unfold partsL; rfl
   rw [h0]
   exact OwnV.nil _ _ _ _
  clear h
  obtain ⟨K, hK⟩ : ∃ K, cutK n e = K := ⟨_, rfl⟩
  rw [hK] at HLT HKL ⊢
  clear hK
  go_enter Tryz.func46, Tryz.ntmps46
  go_wp2_with (first
   | ((with_reducible apply gS 7); refine wl_run rfl (.bool false) (ex_eql rfl rfl rfl H8.out) ?_)
   | ((with_reducible apply gS 10); refine wl_run_g (by rfl) (.bool false) (ex_eql rfl rfl rfl H11.out) ?_))
  go_loopw [0, 5] (fun iv x wr => ∃ (k p : Nat), Hid (p = n - k * e ∧ k ≤ K) ∧ p ≤ n ∧ iv = .int .i64 (p : Int) ∧ OwnV wr w.heap.size 3 1 x k (ints (partsL n e k)) ∧ Ext w wr) (fun i _ _ => (intOf i).toNat)
  case atStart => exact ⟨0, n, hid_ (by omega), by omega, rfl, how, Ext.refl _⟩
  case round =>
   clear how
   obtain ⟨k, p, HP, hpn, rfl, ⟨OA, oc, rfl, hown⟩, hx⟩ := hrel
   by_cases hlt : 0 < p
   ·obtain ⟨mn, hmn⟩ : ∃ q, min p e = q := ⟨_, rfl⟩
    have hk1 : k < K := by have h1 := HP.out; exact (HLT.out k).2 (by omega)
    have hk2 : k ≤ 1000001 := by have h1 := HKL.out; omega
    have HNX : Hid (partsL n e (k + 1) = partsL n e k ++ [(mn : Int)]) := hid_ (by
     have h1 := HP.out
     have h2 : n - k * spanE n e = p := by rw [HE.out, h1.1]
     rw [partsL, h2, HE.out, hmn])
    obtain ⟨p2, hp2⟩ : ∃ q, p - mn = q := ⟨_, rfl⟩
    have HP2 : Hid (p2 = n - (k + 1) * e ∧ k + 1 ≤ K) := hid_ (by have h1 := HP.out; rw [Nat.succ_mul]; omega)
    have HPP := hid_ hp2
    have hp3 : p2 < p := by have := HE0.out; omega
    have hml : mn ≤ p := by omega
    clear hp2
    go_wp2_with (first
     | ((with_reducible apply gS 19); refine wl_run rfl (.int .i64 (mn : Int)) (by rw [← hmn]; exact ex_minN (i := p) (d := e) rfl rfl rfl) ?_)
     | ((with_reducible apply gS 20); refine wLit1 rfl 22 3 (.tmp 19) rfl (some 20) rfl Tryz.underlying22 1 sizeI zeroI _ rfl rfl (by omega) (by omega) ?_; intro w1 g hb1 hx1 hg1; have ho1 := own_keep hown hx1)
     | ((with_reducible apply gS 21); at_builtin; refine wApf elt_intR rfl (.tmp 16) (.tmp 20) rfl w.heap.size (.slice OA k oc) k (ints (partsL n e k)) rfl ho1 _ 1 (ints [(mn : Int)]) rfl (blk_one hb1) (ints_one_mem _) (by omega) (by omega) (by have := hx.size; have := hx1.size; omega) ?_; intro A4 c4 w4 ho4 hgr4 hor4; have hx4 := (hx.trans hx1).grown' hgr4 (fun b hb => (ho1.lt b hb).1))
     | ((with_reducible apply gS 25); refine wl_run rfl (.int .i64 (mn : Int)) (by rw [← hmn]; exact ex_minN (i := p) (d := e) rfl rfl rfl) ?_)
     | ((with_reducible apply gS 26); refine wl_run rfl (.int .i64 (p2 : Int)) (by rw [← HPP.out]; exact ex_subN (i := p) (d := mn) rfl rfl rfl (by omega) (by omega)) ?_))
    go_roundw
    case rel => exact ⟨k + 1, p2, HP2, by omega, rfl, ⟨A4, c4, rfl, by rw [HNX.out, ints_app]; exact ho4⟩, hx4⟩
    case measure => simp [intOf]; omega
   ·have hk : k = K := by
     have h1 := HP.out
     have h2 : ¬ k < K := fun h => hlt (by have h3 := (HLT.out k).1 h; omega)
     omega
    subst hk
    go_wp2_with fail
    go_ret
    exact ⟨_, _, rfl, (own_out hown).1, hx, (own_out hown).2⟩
end
section
theorem goesRSegDec : Goes Tryz.prog 117 := ⟨_, Tryz.func117, by kernel_rfl, by kernel_rfl⟩
attribute [local irreducible] bytesV bv sdGo partsL spanE cutK plZ decR marksOk
end
def mendAt (T1 T2 : List Tok) (n e : Nat) (P : List (List Nat)) (i : Nat) : Int × List Int := if i < P.length then decR true T1 T2 ((lenAt n e i : Nat) : Int) (plZ (P.getD i [])) else (5, [])
def mendPart (T1 T2 : List Tok) (n e : Nat) (P : List (List Nat)) (i : Nat) : List Int := if (mendAt T1 T2 n e P i).1 = 0 then (mendAt T1 T2 n e P i).2 else List.replicate (lenAt n e i * 64) 0
def mendL (T1 T2 : List Tok) (n e : Nat) (P : List (List Nat)) : Nat → List Int × List Int
 | 0 => ([], [])
 | k + 1 => ((mendL T1 T2 n e P k).1 ++ mendPart T1 T2 n e P k, if (mendAt T1 T2 n e P k).1 = 0 then (mendL T1 T2 n e P k).2 else (mendL T1 T2 n e P k).2 ++ [(k : Int)])
theorem mendAt_len {T1 T2 : List Tok} {n e : Nat} {P : List (List Nat)} {i : Nat} (h : (mendAt T1 T2 n e P i).1 = 0) : (mendAt T1 T2 n e P i).2.length = lenAt n e i * 64 := by
 unfold mendAt at h ⊢
 by_cases hi : i < P.length
 ·rw [if_pos hi] at h ⊢
  exact decR_len h
 ·rw [if_neg hi] at h
  exact absurd h (by decide)
theorem mendPart_len {T1 T2 : List Tok} {n e : Nat} {P : List (List Nat)} {i : Nat} : (mendPart T1 T2 n e P i).length = lenAt n e i * 64 := by
 unfold mendPart
 by_cases h : (mendAt T1 T2 n e P i).1 = 0
 ·rw [if_pos h]; exact mendAt_len h
 ·rw [if_neg h]; simp
def atK (n e i : Nat) : Nat := min (i * spanE n e) n
theorem atK_0 (n e : Nat) : atK n e 0 = 0 := by unfold atK; simp
theorem atK_le (n e i : Nat) : atK n e i ≤ n := by unfold atK; omega
theorem atK_succ {n e i : Nat} (h : i < cutK n e) : atK n e (i + 1) = atK n e i + lenAt n e i := by
 have h1 := cut_at h
 unfold atK lenAt
 rw [Nat.succ_mul]
 omega
theorem cutK_end (n e : Nat) : n ≤ cutK n e * spanE n e := by
 by_cases h : e = 0 ∨ n = 0
 ·rw [(cut_whole h).1, (cut_whole h).2]; omega
 ·have h1 := cutK_lt (i := cutK n e) h
  have h2 : ¬ cutK n e * e < n := fun h3 => by have := h1.2 h3; omega
  rw [(cut_part h).1]
  omega
theorem atK_end (n e : Nat) : atK n e (cutK n e) = n := by have := cutK_end n e; unfold atK; omega
theorem mendL_len {T1 T2 : List Tok} {n e : Nat} {P : List (List Nat)} : ∀ k, k ≤ cutK n e → (mendL T1 T2 n e P k).1.length = atK n e k * 64
 | 0, _ => by rw [atK_0]; rfl
 | k + 1, h => by
   rw [atK_succ (by omega), Nat.add_mul, mendL]
   show ((mendL T1 T2 n e P k).1 ++ mendPart T1 T2 n e P k).length = _
   rw [List.length_append, mendL_len k (by omega), mendPart_len]
theorem mendL_ok {T1 T2 : List Tok} {n e : Nat} {P : List (List Nat)} {k : Nat} {r : Int × List Int} (hr : mendAt T1 T2 n e P k = r) (h : r.1 = 0) : mendL T1 T2 n e P (k + 1) = ((mendL T1 T2 n e P k).1 ++ r.2, (mendL T1 T2 n e P k).2) := by
 rw [mendL, mendPart, hr, if_pos h, if_pos h]
theorem mendL_err {T1 T2 : List Tok} {n e : Nat} {P : List (List Nat)} {k : Nat} {r : Int × List Int} (hr : mendAt T1 T2 n e P k = r) (h : r.1 ≠ 0) : mendL T1 T2 n e P (k + 1) = ((mendL T1 T2 n e P k).1 ++ List.replicate (lenAt n e k * 64) 0, (mendL T1 T2 n e P k).2 ++ [(k : Int)]) := by
 rw [mendL, mendPart, hr, if_neg h, if_neg h]
def MendIs (r : Int × List Int × List Int) (w : World) (e : Ending) (w' : World) : Prop :=
 Ext w w' ∧ if r.1 = 0 then ∃ B k d C j c, e = .returned (.tuple #[.slice B k d, .slice C j c, .int .i64 0]) ∧ r.2.1.length = k * 64 ∧ SL w' 64 (.slice B k d) k (ints r.2.1) ∧ r.2.2.length = j ∧ SL w' 1 (.slice C j c) j (ints r.2.2) ∧ ∀ ad, C = some ad → w.heap.size ≤ ad.block
  else e = .returned (.tuple #[.slice none 0 0, .slice none 0 0, .int .i64 r.1])
end Go.Proofs.YtkggcjdlpendfaaGreatDoor
