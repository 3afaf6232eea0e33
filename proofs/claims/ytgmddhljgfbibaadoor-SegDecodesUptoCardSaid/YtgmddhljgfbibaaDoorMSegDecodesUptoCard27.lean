/- Contracts for the law SegDecodesUptoCard, part 27: what the functions that it reaches answer, for all arguments that the theorems name. -/
import Derived.Lib.FrozenHead
import Derived.Lib.Builder
import Derived.Lib.UnsafeStr
import Derived.Lib.AppendStr
import Derived.Laws.Externs
import Derived.RegionTactic
import Derived.Test.YtgmddhljgfbibaaDoorMSegDecodesUptoCard3
import Derived.Test.YtgmddhljgfbibaaDoorMSegDecodesUptoCard6
/- strings.Builder: WriteString and String of a builder that the call made, in binary digits. -/
namespace Go.Proofs.YtgmddhljgfbibaaDoor
set_option linter.unusedVariables false
set_option linter.unusedSimpArgs false
open Go.RowKit
def bitC (L : List Bool) : List Value := Lib.byteCells (L.map chB)
theorem bitC_len (L : List Bool) : (bitC L).length = L.length := by simp [bitC, Lib.byteCells]
theorem bitC_str (L D : List Bool) : bitC L ++ Lib.strCells (strB D) = bitC (L ++ D) := by
  simp [bitC, Lib.byteCells, Lib.strCells, strB_data]
/-- the builder in block b holds these digits; its buffer is row r -/
def BldS (w : World) (b : Nat) (L : List Bool) (r : Option Nat) : Prop :=
  ∃ p v, (p = .pointer none ∨ p = .pointer (some ⟨b, 0, none⟩)) ∧ w.heap[b]? = some (.cells #[p, v] 71 (0, 0)) ∧ w.ownsRowF (b + 1) 5 1 v L.length (bitC L) ∧ v.ownBlock = r ∧ (L = [] → v = .slice none 0 0)
theorem BldS.new (w : World) (b : Nat) (h : Blk w b 71 #[.pointer none, .slice none 0 0]) : BldS w b [] none :=
  ⟨_, _, .inl rfl, h, ⟨by simp [bitC, Lib.byteCells], .inl ⟨rfl, rfl⟩⟩, rfl, fun _ => rfl⟩
theorem BldS.lt {w : World} {b : Nat} {L : List Bool} {r : Option Nat} (h : BldS w b L r) : b < w.heap.size := by
  obtain ⟨p, v, -, hb, -⟩ := h
  exact Blk.lt (w := w) (t := 71) (cs := #[p, v]) hb
theorem BldS.row {w : World} {b : Nat} {L : List Bool} {r : Option Nat} (h : BldS w b L r) : ∀ k, r = some k → b < k ∧ k < w.heap.size := by
  obtain ⟨p, v, -, hb, hown, hr, -⟩ := h
  intro k hk
  rcases hown.2 with ⟨rfl, -⟩ | ⟨g, cap, cur, fz, rfl, h1, hg, -⟩
  · rw [← hr] at hk; simp [Value.ownBlock] at hk
  · rw [← hr] at hk
    have : g = k := by simpa [Value.ownBlock] using hk
    subst this
    refine ⟨by omega, ?_⟩
    rcases Nat.lt_or_ge g w.heap.size with h' | h'
    · exact h'
    · simp [Array.getElem?_eq_none h'] at hg
theorem ownsRowF_upd {w w' : World} {B n : Nat} {e : TypeId} {v : Value} {xs : List Value} (hown : w.ownsRowF B e 1 v n xs) (h : ∀ k, v.ownBlock = some k → k < w.heap.size → w'.heap[k]? = w.heap[k]?) : w'.ownsRowF B e 1 v n xs := by
  refine ⟨hown.1, ?_⟩
  rcases hown.2 with ⟨rfl, h2⟩ | ⟨g, cap, cur, fz, rfl, h1, hg, h3⟩
  · exact .inl ⟨rfl, h2⟩
  · refine .inr ⟨g, cap, cur, fz, rfl, h1, ?_, h3⟩
    rw [h g (by simp [Value.ownBlock]) ?_]
    · exact hg
    · rcases Nat.lt_or_ge g w.heap.size with h' | h'
      · exact h'
      · simp [Array.getElem?_eq_none h'] at hg
theorem BldS.upd {S : Nat → Prop} {w w' : World} {b : Nat} {L : List Bool} {r : Option Nat} (h : BldS w b L r) (hu : Upd S w w') (h1 : ¬ S b) (h2 : ∀ k, r = some k → ¬ S k) : BldS w' b L r := by
  have hlt := h.lt
  obtain ⟨p, v, hp, hb, hown, hr, h0⟩ := h
  exact ⟨p, v, hp, (hu.block b hlt h1).trans hb, ownsRowF_upd hown (fun k hk hkl => hu.block k hkl (h2 k (by rw [← hr, hk]))), hr, h0⟩
theorem BldS.ext {w w' : World} {b : Nat} {L : List Bool} {r : Option Nat} (h : BldS w b L r) (hx : Ext w w') : BldS w' b L r :=
  h.upd (S := fun _ => False) (Upd.of_ext hx) (by simp) (by simp)
theorem BldS.drew {w : World} {b : Nat} {L : List Bool} {r : Option Nat} (h : BldS w b L r) : BldS w.drew b L r := h
theorem sizeBld : (Tryd.prog.info? 71).map (·.size) = some 2 := by kernel_rfl
theorem liesBld : liesAt Tryd.prog Tryd.prog.depth 71 (2 / Tryd.prog.cellsOf 71) 0 71 1 = true := by kernel_rfl
theorem zeroBld : (Tryd.prog.info? 71).bind (·.zero) = some (.agg #[.pointer none, .slice none 0 0]) := by kernel_rfl
theorem infoU8 : (Tryd.prog.info? 5).map (fun i => (i.zero, i.size, i.bytes)) = some (some (.int .u8 0), 1, 1) := by kernel_rfl
theorem cellsU8 : Tryd.prog.cellsOf 5 = 1 := by kernel_rfl
set_option maxHeartbeats 1000000 in
set_option maxRecDepth 100000 in
theorem copyCheck_used (b : Nat) (w : World) (h0 : w.cell? ⟨b, 0, none⟩ = some (.pointer (some ⟨b, 0, none⟩))) :
    Calls Tryd.prog 61 #[.pointer (some ⟨b, 0, none⟩)] w fun e w' => e = .returned (.tuple #[]) ∧ w = w' := by
  obtain ⟨j, hj, _⟩ := Option.map_eq_some_iff.1 sizeBld
  have hne := fun W => Lib.run_neq_ptr_same (P := Tryd.prog) W ⟨b, 0, none⟩ Tryd.underlying69 hj
  go_enter Tryd.func61, Tryd.ntmps61
  go_wp2_with fail
  go_end0
  exact ⟨rfl, rfl⟩
set_option maxHeartbeats 1000000 in
set_option maxRecDepth 100000 in
theorem copyCheck_fresh (b : Nat) (w : World) (h0 : w.cell? ⟨b, 0, none⟩ = some (.pointer none)) (hsh : w.shape? b = some (71, 2)) (hfz : w.frozen? ⟨b, 0, none⟩ = false) :
    Calls Tryd.prog 61 #[.pointer (some ⟨b, 0, none⟩)] w fun e w' => e = .returned (.tuple #[]) ∧ w' = w.setCell ⟨b, 0, none⟩ (.pointer (some ⟨b, 0, none⟩)) := by
  obtain ⟨j, hj, hjs⟩ := Option.map_eq_some_iff.1 sizeBld
  go_enter Tryd.func61, Tryd.ntmps61
  go_wp2_with fail
  rw [Lib.run_to_unsafe w ⟨b, 0, none⟩ Tryd.underlying69 Tryd.underlying156 hj (by rw [hjs]; decide) hsh (Nat.zero_lt_succ 1)]
  simp only [Result.andThen]
  rw [Oper.upon_value]
  go_wp2_with fail
  rw [run_callFunc_extern Tryd.func85 (by kernel_rfl) (by kernel_rfl) (by kernel_rfl) (e := Extern.AbiNoEscape.same) (by kernel_rfl)]
  rw [Lib.run_noEscape]
  simp only [Result.andThen]
  rw [Oper.upon_value]
  go_wp2_with fail
  rw [Lib.run_from_unsafe w ⟨b, 0, none⟩ Tryd.underlying156 Tryd.underlying69 hj hsh liesBld]
  simp only [Result.andThen]
  rw [Oper.upon_value]
  go_wp2_with fail
  go_end0
  exact ⟨rfl, rfl⟩
theorem copyCheck_any (b : Nat) (L : List Bool) (r : Option Nat) (w : World) (h : BldS w b L r) :
    Calls Tryd.prog 61 #[.pointer (some ⟨b, 0, none⟩)] w fun e w' => e = .returned (.tuple #[]) ∧ (∃ v, w'.heap[b]? = some (.cells #[.pointer (some ⟨b, 0, none⟩), v] 71 (0, 0)) ∧ w'.ownsRowF (b + 1) 5 1 v L.length (bitC L) ∧ v.ownBlock = r ∧ (L = [] → v = .slice none 0 0)) ∧ Upd (fun x => x = b) w w' := by
  obtain ⟨p, v, hp, hb, hown, hr, h0⟩ := h
  have c0 : w.cell? ⟨b, 0, none⟩ = some p := by rw [Lib.cell_of_heap hb]; rfl
  rcases hp with rfl | rfl
  · refine (copyCheck_fresh b w c0 (by simp [World.shape?, hb]) (by simp [World.frozen?, hb])).mono ?_
    rintro e w' ⟨rfl, rfl⟩
    refine ⟨rfl, ⟨v, by simp [World.setCell, Array.getElem?_modify, hb], ownsRowF_upd hown (fun k hk hkl => Below.heap_setCell _ _ _ _ ?_), hr, h0⟩, (Upd.refl (fun x => x = b) w).setCell (p := ⟨b, 0, none⟩) rfl _⟩
    rcases hown.2 with ⟨rfl, -⟩ | ⟨g, cap, cur, fz, rfl, h1, -⟩
    · simp [Value.ownBlock] at hk
    · have : g = k := by simpa [Value.ownBlock] using hk
      show k ≠ b
      omega
  · refine (copyCheck_used b w c0).mono ?_
    rintro e w' ⟨rfl, rfl⟩
    exact ⟨rfl, ⟨v, hb, hown, hr, h0⟩, Upd.refl _ w⟩
set_option maxHeartbeats 2000000 in
set_option maxRecDepth 100000 in
theorem writeString_any (b : Nat) (L D : List Bool) (r : Option Nat) (w : World) (h : BldS w b L r) (hlen : L.length + D.length ≤ 140737488355328) :
    Calls Tryd.prog 33 #[.pointer (some ⟨b, 0, none⟩), .string (strB D)] w fun e w' => e = .returned (.tuple #[.int .i64 (D.length : Int), .nilIface]) ∧
      ∃ r', BldS w' b (L ++ D) r' ∧ Upd (fun x => x = b ∨ r = some x) w w' := by
  obtain ⟨i0, hi, hz0, hz1, hz2⟩ := info_parts infoU8
  have hsz := strB_size D
  have HC := hid_ (copyCheck_any b L r w h)
  have hblt := h.lt
  have hD := hid_ (bitC_str L D)
  generalize hs : strB D = s at *
  go_enter Tryd.func33, Tryd.ntmps33
  go_wp2_with (go_at_call 61; refine HC.out.mono ?_)
  rintro e w1 ⟨rfl, ⟨v, hbk, hown, rfl, h0⟩, hu1⟩
  have c0 : w1.cell? ⟨b, 0, none⟩ = some (.pointer (some ⟨b, 0, none⟩)) := by rw [Lib.cell_of_heap hbk]; rfl
  have c1 : w1.cell? ⟨b, 1, none⟩ = some v := by rw [Lib.cell_of_heap hbk]; rfl
  have hb1 := hu1.size
  have HS := hid_ hsz
  clear hsz
  go_wp2_with (at_builtin; refine Lib.wpList_append_own_stringF _ rfl _ _ 22 9 rfl (b + 1) 5 i0 Tryd.underlying22 Tryd.underlying9 hi hz0 hz1 hz2 _ _ _ rfl hown s rfl ?c3 ?c4 ?c5 ?_)
  case c3 => have := HS.out; unfold maxLen; omega
  case c4 => have := HS.out; omega
  case c5 => omega
  intro v' w2 hown' hgrow hiff
  have hvb : v.ownBlock ≠ some b := by
    rcases hown.2 with ⟨rfl, -⟩ | ⟨g, cap, cur, fz, rfl, h1, -⟩
    · simp [Value.ownBlock]
    · simp only [Value.ownBlock, ne_eq, Option.some.injEq]; omega
  have hb2 : w2.heap[b]? = some (.cells #[.pointer (some ⟨b, 0, none⟩), v] 71 (0, 0)) := by
    rw [hgrow.block b (by omega) (fun e => hvb e.symm)]
    exact hbk
  have d0 : w2.cell? ⟨b, 0, none⟩ = some (.pointer (some ⟨b, 0, none⟩)) := by rw [Lib.cell_of_heap hb2]; rfl
  have d1 : w2.cell? ⟨b, 1, none⟩ = some v := by rw [Lib.cell_of_heap hb2]; rfl
  have f1 : w2.frozen? ⟨b, 1, none⟩ = false := Lib.frozen_of_heap hb2 1
  have hu2 : Upd (fun x => x = b ∨ v.ownBlock = some x) w w2 := by
    have h9 : Upd (fun x => x = b ∨ v.ownBlock = some x) w w1 := ⟨hu1.os, hu1.tape, hu1.output, hu1.size, fun x hx hn => hu1.block x hx (fun e => hn (.inl e))⟩
    exact h9.grown hgrow (fun k hk => .inl (.inr hk))
  have HI := hid_ hiff
  obtain ⟨ao, n', cap, rfl⟩ : ∃ ao n' cap, v' = .slice ao n' cap := by
    rcases hown'.2 with ⟨hv, _⟩ | ⟨g, cap, cur, fz, hv, _⟩
    · exact ⟨_, _, _, hv⟩
    · exact ⟨_, _, _, hv⟩
  have hv'b : (Value.slice ao n' cap).ownBlock ≠ some b := by
    rcases hown'.2 with ⟨hv, -⟩ | ⟨g, cap, cur, fz, hv, h1, -⟩
    · rw [hv]; simp [Value.ownBlock]
    · rw [hv]; simp only [Value.ownBlock, ne_eq, Option.some.injEq]; omega
  clear hiff
  go_wp2_with fail
  go_ret2
  refine ⟨by first | rfl | (rw [HS.out]; rfl), _, ⟨.pointer (some ⟨b, 0, none⟩), .slice ao n' cap, .inr rfl, by simp [World.setCell, Array.getElem?_modify, hb2], ?_, rfl, ?_⟩, hu2.setCell (p := ⟨b, 1, none⟩) (.inl rfl) _⟩
  · rw [← hD.out, List.length_append, ← HS.out]
    exact ownsRowF_upd hown' (fun k hk hkl => Below.heap_setCell _ _ _ _ (fun e => hv'b (by rw [hk, e])))
  · intro hnil
    obtain ⟨hL, hDn⟩ := List.append_eq_nil_iff.1 hnil
    have hs0 : s = ByteArray.empty := by rw [← hs, hDn]; rfl
    exact HI.out.2 ⟨h0 hL, hs0⟩
theorem unsafeString_none (W : World) (q : Option Addr) : (Builtin.unsafeString_ #[129, 3] 9 #[.pointer q, .int .i64 0]).run Tryd.prog W = .ok (.string .empty) W :=
  Lib.run_unsafeString_none W _ _ _ q
set_option maxHeartbeats 2000000 in
set_option maxRecDepth 100000 in
theorem string_nil (b : Nat) (p : Value) (w : World) (hbk : w.heap[b]? = some (.cells #[p, .slice none 0 0] 71 (0, 0))) :
    Calls Tryd.prog 36 #[.pointer (some ⟨b, 0, none⟩)] w fun e w' => e = .returned (.string ⟨#[]⟩) ∧ Ext w w' := by
  have hUS := unsafeString_none
  have c1 : w.drew.cell? ⟨b, 1, none⟩ = some (.slice none 0 0) := by
    have : w.drew.heap[b]? = some (.cells #[p, .slice none 0 0] 71 (0, 0)) := hbk
    rw [Lib.cell_of_heap this]; rfl
  have hSD : (Builtin.unsafeSliceData_ #[22] 129 #[.slice none 0 0]).run Tryd.prog w.drew = .ok (.pointer none) w.drew := rfl
  go_enter Tryd.func36, Tryd.ntmps36
  go_wp2_with fail
  go_region
  all_goals (go_wp2_with fail; go_ret; exact ⟨rfl, (Ext.refl w).drew⟩)
set_option maxHeartbeats 2000000 in
set_option maxRecDepth 100000 in
theorem string_some (b : Nat) (L : List Bool) (r : Option Nat) (w : World) (h : BldS w b L r) (h0 : L ≠ []) :
    Calls Tryd.prog 36 #[.pointer (some ⟨b, 0, none⟩)] w fun e w' => e = .returned (.string (strB L)) ∧ Upd (fun x => r = some x) w w' := by
  obtain ⟨p, v, -, hbk, hown, rfl, -⟩ := h
  have hl0 : L.length ≠ 0 := by simpa using h0
  have hm : L.map chB ≠ [] := by simpa using h0
  obtain ⟨g, cap, cur, fz, rfl, hbg, hg, hfz, hnc, hcm, hcs, htake⟩ : ∃ g cap cur fz, v = .slice (some ⟨g, 0, none⟩) L.length cap ∧ b + 1 ≤ g ∧ w.heap[g]? = some (.cells cur 5 fz) ∧ fz.2 ≤ L.length * 1 ∧ L.length ≤ cap ∧ cap ≤ maxLen ∧ cur.size = cap * 1 ∧ cur.toList.take (L.length * 1) = bitC L := by
    rcases hown.2 with ⟨_, hz⟩ | ⟨g, cap, cur, fz, hv, r⟩
    · exact absurd hz hl0
    · exact ⟨g, cap, cur, fz, hv, r⟩
  have c1 : w.drew.cell? ⟨b, 1, none⟩ = some (.slice (some ⟨g, 0, none⟩) L.length cap) := by
    have : w.drew.heap[b]? = some (.cells #[p, .slice (some ⟨g, 0, none⟩) L.length cap] 71 (0, 0)) := hbk
    rw [Lib.cell_of_heap this]; rfl
  have hSD : (Builtin.unsafeSliceData_ #[22] 129 #[.slice (some ⟨g, 0, none⟩) L.length cap]).run Tryd.prog w.drew = .ok (.pointer (some ⟨g, 0, none⟩)) w.drew :=
    Lib.run_unsafeSliceData_row _ _ _ _ _ _ (by omega)
  have hUS : (Builtin.unsafeString_ #[129, 3] 9 #[.pointer (some ⟨g, 0, none⟩), .int .i64 (L.length : Int)]).run Tryd.prog w.drew = .ok (.string (strB L)) (w.drew.freeze ⟨g, 0, none⟩ L.length) := by
    have := Lib.run_unsafeString_row (P := Tryd.prog) w.drew 129 3 9 5 Tryd.underlying129 cellsU8 g cur.size (by have hg' : w.drew.heap[g]? = some (.cells cur 5 fz) := hg; simp [World.shape?, hg']) (L.map chB) hm (by rw [List.length_map]; omega) (by rw [List.length_map]; unfold maxLen at hcm; omega) (fun j x hx => by
      have := hown.cells (g := g) rfl j (.int .u8 x.toNat) (by simp only [bitC, Lib.byteCells, List.getElem?_map] at hx ⊢; rw [hx]; rfl)
      exact this)
    rw [List.length_map] at this
    exact this
  have hfr : Upd (fun x => (Value.slice (some ⟨g, 0, none⟩) L.length cap).ownBlock = some x) w (w.drew.freeze ⟨g, 0, none⟩ L.length) := by
    unfold World.freeze
    split
    · exact (Upd.refl _ w).drew
    · exact ⟨rfl, rfl, rfl, by simp, fun x hx hn => by
        have hne : g ≠ x := fun e => hn (by rw [← e]; rfl)
        show (w.heap.modify g _)[x]? = _
        rw [Array.getElem?_modify, if_neg hne]⟩
  generalize w.drew.freeze ⟨g, 0, none⟩ L.length = wf at *
  clear hl0 hm h0
  go_enter Tryd.func36, Tryd.ntmps36
  go_wp2_with fail
  go_region
  all_goals (go_wp2_with fail; go_ret; exact ⟨rfl, hfr⟩)
theorem string_any (b : Nat) (L : List Bool) (r : Option Nat) (w : World) (h : BldS w b L r) :
    Calls Tryd.prog 36 #[.pointer (some ⟨b, 0, none⟩)] w fun e w' => e = .returned (.string (strB L)) ∧ Upd (fun x => r = some x) w w' := by
  by_cases h0 : L = []
  · subst h0
    obtain ⟨p, v, -, hbk, -, -, hv⟩ := h
    rw [hv rfl] at hbk
    refine (string_nil b p w hbk).mono ?_
    rintro e w' ⟨rfl, hx⟩
    exact ⟨rfl, Upd.of_ext hx⟩
  · exact string_some b L r w h h0
end Go.Proofs.YtgmddhljgfbibaaDoor
