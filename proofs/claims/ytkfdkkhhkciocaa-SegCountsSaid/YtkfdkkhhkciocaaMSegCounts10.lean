/- Contracts for the law SegCounts, part 10: what the functions that it reaches answer, for all arguments that the theorems name. -/
import Derived.Test.YtkfdkkhhkciocaaMSegCounts9
import Derived.Test.YtkfdkkhhkciocaaMSegCounts7
import Derived.Deep.Cut
import Derived.Test.YtkfdkkhhkciocaaMSegCounts2
import Derived.Test.YtkfdkkhhkciocaaMSegCounts8
/- seg.Counts. -/
namespace Go.Proofs.Ytkfdkkhhkciocaa
set_option linter.unusedVariables false
set_option linter.unusedSimpArgs false
open Go.RowKit
def z256 : List Int := List.replicate 256 0
theorem z256_out : bv (List.replicate 256 0) = bv z256 := rfl
theorem z256_len : z256.length = 256 := List.length_replicate
/-- a made row in a slot, once it has come -/
def MadeAt (w0 w : World) (l : Bool) (u : Value) : Prop := l = true → ∃ g, u = .slice (some ⟨g, 0, none⟩) 256 256 ∧ Blk w g 3 (bv z256) ∧ w0.heap.size ≤ g
/-- a cell in a slot, once it has come; s: it holds v -/
def CellIn (w0 w : World) (l s : Bool) (u v : Value) : Prop := l = true → ∃ g, u = .pointer (some ⟨g, 0, none⟩) ∧ Blk w g 30 #[if s then v else .slice none 0 0] ∧ w0.heap.size ≤ g
theorem MadeAt.ext {w0 w w' : World} {l : Bool} {u : Value} (h : MadeAt w0 w l u) (hx : Ext w w') : MadeAt w0 w' l u := fun e => by obtain ⟨g, h1, h2, h3⟩ := h e; exact ⟨g, h1, h2.ext hx, h3⟩
theorem CellIn.ext {w0 w w' : World} {l s : Bool} {u v : Value} (h : CellIn w0 w l s u v) (hx : Ext w w') : CellIn w0 w' l s u v := fun e => by obtain ⟨g, h1, h2, h3⟩ := h e; exact ⟨g, h1, h2.ext hx, h3⟩
attribute [local irreducible] bv z256 eachZ
def CntFrame (v0 u5 u6 u8 u9 : Value) : Act := ⟨#[v0, undef, .slice none 0 0, .slice none 0 0, .int .i64 0, u5, u6, undef, u8, u9, undef, undef, undef, undef, undef, undef, undef, undef], []⟩
def CntJ (w0 : World) (v0 : Value) (l : Array Bool) (a : Act) (w : World) : Prop :=
  ∃ b0 b1 b2 b3 b4 b5 u5 u6 u8 u9, l = #[b0, b1, b2, b3, b4, b5] ∧ a = CntFrame v0 u5 u6 u8 u9 ∧ Ext w0 w ∧ MadeAt w0 w b0 u8 ∧ MadeAt w0 w b1 u9 ∧ CellIn w0 w b2 b4 u5 u8 ∧ CellIn w0 w b3 b5 u6 u9 ∧
    (b0 = true → b1 = true → u8 ≠ u9) ∧ (b2 = true → b3 = true → u5 ≠ u6) ∧ (b4 = true → b0 = true ∧ b2 = true) ∧ (b5 = true → b1 = true ∧ b3 = true)
theorem MadeAt.ne {w0 w : World} {l : Bool} {u : Value} (h : MadeAt w0 w l u) {g : Nat} (hg : w.heap.size ≤ g) (hl : l = true) : u ≠ .slice (some ⟨g, 0, none⟩) 256 256 := by
  obtain ⟨g', rfl, hb, -⟩ := h hl
  intro e
  injection e with e
  injection e with e
  injection e with e
  have := hb.lt
  omega
theorem CellIn.ne {w0 w : World} {l s : Bool} {u v : Value} (h : CellIn w0 w l s u v) {g : Nat} (hg : w.heap.size ≤ g) (hl : l = true) : u ≠ .pointer (some ⟨g, 0, none⟩) := by
  obtain ⟨g', rfl, hb, -⟩ := h hl
  intro e
  injection e with e
  injection e with e
  injection e with e
  have := hb.lt
  omega
theorem ready_at {md : Region.Mode} {ops : Array Oper} {l : Array Bool} {i : Nat} {o : Oper} (h : i ∈ Region.ready md ops l) (ho : ops[i]? = some o) : l.getD i true = false ∧ ∀ e ∈ o.after, Region.binds md e = true → l.getD e.on false = true := by
  obtain ⟨h1, o', h2, h3⟩ := mem_ready.1 h
  rw [ho] at h2
  injection h2 with h2
  subst h2
  exact ⟨h1, h3⟩
theorem MadeAt.set {w0 w : World} {l : Bool} {u : Value} (h : MadeAt w0 w l u) {g : Nat} {cs : Array Value} (hb : Blk w g 30 cs) (v : Value) : MadeAt w0 (w.setCell ⟨g, 0, none⟩ v) l u := fun e => by
  obtain ⟨g', h1, h2, h3⟩ := h e
  exact ⟨g', h1, h2.far (p := ⟨g, 0, none⟩) (hb.ne_ h2 tInt_ne).symm v, h3⟩
/-- what Counts hands back -/
def CountsIs (w : World) (r : Int × (List Int × List Int)) (e : Ending) (w' : World) : Prop :=
  Ext w w' ∧ if r.1 = 0 then ∃ gA gB, e = .returned (.tuple #[.slice (some ⟨gA, 0, none⟩) 256 256, .slice (some ⟨gB, 0, none⟩) 256 256, .int .i64 0]) ∧ Blk w' gA 3 (bv r.2.1) ∧ Blk w' gB 3 (bv r.2.2) ∧ r.2.1.length = 256 ∧ r.2.2.length = 256
    else e = .returned (.tuple #[.slice none 0 0, .slice none 0 0, .int .i64 r.1])
theorem run_loadSlI (W : World) (p : Addr) (A : Option Addr) (n c : Nat) (h : W.cell? p = some (.slice A n c)) : (Instr.loadAt 30 (.pointer (some p))).run Try.prog W = .ok (.slice A n c) W := by
  go_simp
section
variable {o : Oper} {a : Act}
theorem ex_loadSI {x : Operand} (ho : o.op = .load 30 x) {p : Addr} (hx : a.eval x = .pointer (some p)) {A : Option Addr} {n c : Nat} {w : World} (h : w.cell? p = some (.slice A n c)) : (execOp a.eval o).run Try.prog w = .ok (.value (.slice A n c)) w := by
  simp [execOp, ho, hx, run_loadSlI w p A n c h]
end
theorem nilZero : (Try.prog.info? 30).bind (·.zero) = some (.slice none 0 0) := by kernel_rfl
set_option maxRecDepth 20000 in
set_option maxHeartbeats 2000000 in
theorem counts_any (A : Option Addr) (n c : Nat) (Z : List Int) (hZ : Z.length = n * 64) (w : World) (hs : SL w 64 (.slice A n c) n (ints Z)) :
    Calls Try.prog 10 #[.slice A n c] w (CountsIs w (eachZ cntStep n Z (z256, z256))) := by
  have hmf : ∀ (fn : Fn) (first cap : Array Value) (w : World), (Instr.makeFunc fn first cap).run Try.prog w = .ok (.func fn first cap) w := fun _ _ _ _ => rfl
  go_enter Try.func10, Try.ntmps10
  go_upto_region 1 with fail
  refine wp_region_inv (CntJ w (.slice A n c)) (by kernel_rfl) ?_ ?_ ?_
  · exact ⟨false, false, false, false, false, false, undef, undef, undef, undef, rfl, rfl, (Ext.refl w).drew, (fun h => by cases h), (fun h => by cases h), (fun h => by cases h), (fun h => by cases h), (fun h => by cases h), (fun h => by cases h), (fun h => by cases h), (fun h => by cases h)⟩
  · rintro l a w1 ⟨b0, b1, b2, b3, b4, b5, u5, u6, u8, u9, rfl, rfl, hx, h8, h9, h5, h6, d8, d5, k4, k5⟩ i hi
    have hi6 : i = 0 ∨ i = 1 ∨ i = 2 ∨ i = 3 ∨ i = 4 ∨ i = 5 := by
      obtain ⟨h1, o, ho, -⟩ := mem_ready.1 hi
      have : i < 6 := by
        rcases Nat.lt_or_ge i 6 with h | h
        · exact h
        · rw [Array.getElem?_eq_none (by simpa using h)] at ho; cases ho
      omega
    unfold CntFrame
    rcases hi6 with rfl | rfl | rfl | rfl | rfl | rfl
    · have r := (ready_at hi rfl).1
      have r0 : b0 = false := r
      subst r0
      have r4 : b4 = false := by cases b4 with | false => rfl | true => exact absurd (k4 rfl).1 (by simp)
      subst r4
      refine wpOp_of_list rfl ?_
      refine wpList_makeInts rfl (some 8) rfl _ _ rfl 256 (by omega) rfl rfl ?_
      intro w2 g hb hx2 hg
      rw [z256_out] at hb
      exact ⟨true, b1, b2, b3, false, b5, u5, u6, _, u9, rfl, rfl, hx.trans hx2, fun _ => ⟨g, rfl, hb, by have := hx.size; omega⟩, h9.ext hx2, h5.ext hx2, h6.ext hx2, fun _ e => (h9.ne hg e).symm, d5, (fun e => by cases e), k5⟩
    · have r1 : b1 = false := (ready_at hi rfl).1
      subst r1
      have r5 : b5 = false := by cases b5 with | false => rfl | true => exact absurd (k5 rfl).1 (by simp)
      subst r5
      refine wpOp_of_list rfl ?_
      refine wpList_makeInts rfl (some 9) rfl _ _ rfl 256 (by omega) rfl rfl ?_
      intro w2 g hb hx2 hg
      rw [z256_out] at hb
      exact ⟨b0, true, b2, b3, b4, false, u5, u6, u8, _, rfl, rfl, hx.trans hx2, h8.ext hx2, fun _ => ⟨g, rfl, hb, by have := hx.size; omega⟩, h5.ext hx2, h6.ext hx2, fun e _ => h8.ne hg e, d5, k4, fun e => by cases e⟩
    · have r2 : b2 = false := (ready_at hi rfl).1
      subst r2
      have r4 : b4 = false := by cases b4 with | false => rfl | true => exact absurd (k4 rfl).2 (by simp)
      subst r4
      refine wpOp_of_list rfl ?_
      refine wpList_alloc_abs' rfl (some 5) rfl 30 rfl _ nilZero ?_
      intro w2 g hb hx2 hg
      exact ⟨b0, b1, true, b3, false, b5, _, u6, u8, u9, rfl, rfl, hx.trans hx2, h8.ext hx2, h9.ext hx2, fun _ => ⟨g, rfl, hb, by have := hx.size; omega⟩, h6.ext hx2, d8, fun _ e => (h6.ne hg e).symm, (fun e => by cases e), k5⟩
    · have r3 : b3 = false := (ready_at hi rfl).1
      subst r3
      have r5 : b5 = false := by cases b5 with | false => rfl | true => exact absurd (k5 rfl).2 (by simp)
      subst r5
      refine wpOp_of_list rfl ?_
      refine wpList_alloc_abs' rfl (some 6) rfl 30 rfl _ nilZero ?_
      intro w2 g hb hx2 hg
      exact ⟨b0, b1, b2, true, b4, false, u5, _, u8, u9, rfl, rfl, hx.trans hx2, h8.ext hx2, h9.ext hx2, h5.ext hx2, fun _ => ⟨g, rfl, hb, by have := hx.size; omega⟩, d8, fun e _ => h5.ne hg e, k4, fun e => by cases e⟩
    · have r4 : b4 = false := (ready_at hi rfl).1
      subst r4
      have e := (ready_at hi rfl).2
      simp [Region.binds] at e
      obtain ⟨-, r0, r2, r3⟩ := e
      subst r0 r2 r3
      obtain ⟨g5, rfl, hb5, hl5⟩ := h5 rfl
      obtain ⟨g8, rfl, hb8, hl8⟩ := h8 rfl
      simp only [Bool.false_eq_true, if_false] at hb5
      have hc : w1.cell? ⟨g5, 0, none⟩ = some (.slice none 0 0) := hb5.cell 0
      have hz := hb5.frozen 0
      refine wpOp_of_list rfl ?_
      go_wp2_with fail
      obtain ⟨g6, rfl, hb6, hl6⟩ := h6 rfl
      have hne : g6 ≠ g5 := fun e => d5 trivial trivial (by rw [e])
      exact ⟨true, b1, true, true, true, b5, _, _, _, u9, rfl, rfl, hx.setCell hl5 _, h8.set hb5 _, h9.set hb5 _, fun _ => ⟨g5, rfl, hb5.set_ 0 _, hl5⟩, fun _ => ⟨g6, rfl, hb6.far (p := ⟨g5, 0, none⟩) hne _, hl6⟩, fun _ => d8 trivial, fun _ _ => d5 trivial trivial, fun _ => ⟨rfl, rfl⟩, fun e => ⟨(k5 e).1, rfl⟩⟩
    · have r5 : b5 = false := (ready_at hi rfl).1
      subst r5
      have e := (ready_at hi rfl).2
      simp [Region.binds] at e
      have e1 : b1 = true := by simp_all
      have e3 : b3 = true := by simp_all
      have e2 : b2 = true := by simp_all
      subst e1 e2 e3
      obtain ⟨g6, rfl, hb6, hl6⟩ := h6 rfl
      obtain ⟨g9, rfl, hb9, hl9⟩ := h9 rfl
      simp only [Bool.false_eq_true, if_false] at hb6
      have hc : w1.cell? ⟨g6, 0, none⟩ = some (.slice none 0 0) := hb6.cell 0
      have hz := hb6.frozen 0
      clear e
      refine wpOp_of_list rfl ?_
      go_wp2_with fail
      obtain ⟨g5, rfl, hb5, hl5⟩ := h5 rfl
      have hne : g5 ≠ g6 := fun e => d5 trivial trivial (by rw [e])
      exact ⟨b0, true, true, true, b4, true, _, _, u8, _, rfl, rfl, hx.setCell hl6 _, h8.set hb6 _, h9.set hb6 _, fun _ => ⟨g5, rfl, hb5.far (p := ⟨g6, 0, none⟩) hne _, hl5⟩, fun _ => ⟨g6, rfl, hb6.set_ 0 _, hl6⟩, fun e _ => d8 e trivial, fun _ _ => d5 trivial trivial, fun e => ⟨(k4 e).1, rfl⟩, fun _ => ⟨rfl, rfl⟩⟩
  · rintro l a w1 ⟨b0, b1, b2, b3, b4, b5, u5, u6, u8, u9, rfl, rfl, hx, h8, h9, h5, h6, d8, d5, k4, k5⟩ hr
    have no : ∀ i, ¬ i ∈ Region.ready .any _ #[b0, b1, b2, b3, b4, b5] := fun i hi => by rw [hr] at hi; cases hi
    have r0 : b0 = true := by
      cases b0 with
      | true => rfl
      | false => exact absurd (mem_ready.2 ⟨rfl, _, rfl, by simp⟩) (no 0)
    have r1 : b1 = true := by
      cases b1 with
      | true => rfl
      | false => exact absurd (mem_ready.2 ⟨rfl, _, rfl, by simp⟩) (no 1)
    have r2 : b2 = true := by
      cases b2 with
      | true => rfl
      | false => exact absurd (mem_ready.2 ⟨rfl, _, rfl, by simp⟩) (no 2)
    have r3 : b3 = true := by
      cases b3 with
      | true => rfl
      | false => exact absurd (mem_ready.2 ⟨rfl, _, rfl, by simp⟩) (no 3)
    subst r0 r1 r2 r3
    have r4 : b4 = true := by
      cases b4 with
      | true => rfl
      | false => exact absurd (mem_ready.2 ⟨rfl, _, rfl, by simp [Region.binds]⟩) (no 4)
    subst r4
    have r5 : b5 = true := by
      cases b5 with
      | true => rfl
      | false => exact absurd (mem_ready.2 ⟨rfl, _, rfl, by simp [Region.binds]⟩) (no 5)
    subst r5
    obtain ⟨gA, rfl, hbA, hlA⟩ := h8 rfl
    obtain ⟨gB, rfl, hbB, hlB⟩ := h9 rfl
    obtain ⟨p, rfl, hbp, hlp⟩ := h5 rfl
    obtain ⟨q, rfl, hbq, hlq⟩ := h6 rfl
    simp only [if_true] at hbp hbq
    have hI : CntIn p q gA gB w1 (z256, z256) (fun x => x = p ∨ x = q ∨ x = gA ∨ x = gB) := ⟨hbp, hbq, hbA, hbB, z256_len, z256_len, fun e => d8 rfl rfl (by rw [e]), fun x => Iff.rfl⟩
    have hs1 := hs.ext hx
    have HE := hid_ (each_any (countEat p q gA gB) A n c Z hZ w1 hs1 (z256, z256) _ hI (fun ad e h0 k => by
      obtain ⟨A', c', e2, -, -, -, h5⟩ := hs
      injection e2 with e3 _ _
      subst e3
      obtain ⟨ad', e4, h6, -⟩ := h5 h0
      rw [e] at e4
      injection e4 with e4
      subst e4
      omega))
    unfold EachIs at HE
    generalize eachZ cntStep n Z (z256, z256) = R at *
    obtain ⟨x, s⟩ := R
    dsimp only at HE
    unfold CntFrame
    clear hbA hbB hbp hbq hI hs hs1 h8 h9 h5 h6 d8 d5 k4 k5 hr no hZ
    by_cases hx0 : x = 0
    · subst hx0
      obtain ⟨f, r⟩ := s
      go_upto_region 5 with (go_at_call 31; (with_reducible refine (HE.out).mono ?_); rintro e w3 ⟨rfl, hu3, F', hI3, -⟩)
      have hI4 : CntIn p q gA gB w3.drew (f, r) F' := hI3.keep (T := fun _ => False) (Upd.refl _ _).drew (fun _ k => k.elim)
      refine wp_region_lx later_ext (by kernel_rfl) (by kernel_rfl) ?_
      refine lx_read (by rfl) (.slice (some ⟨gA, 0, none⟩) 256 256) (fun W hW => ex_loadSI rfl rfl ((hI4.hp.ext hW).cell 0)) ?_
      simp only [Act.put, List.setIfInBounds_toArray, List.set_cons_succ, List.set_cons_zero]
      refine lx_read (by rfl) (.slice (some ⟨gB, 0, none⟩) 256 256) (fun W hW => ex_loadSI rfl rfl ((hI4.hq.ext hW).cell 0)) ?_
      simp only [Act.put, List.setIfInBounds_toArray, List.set_cons_succ, List.set_cons_zero]
      refine lx_run (by rfl) (.slice (some ⟨gA, 0, none⟩) 256 256) (ex_assign rfl rfl) ?_
      simp only [Act.put, List.setIfInBounds_toArray, List.set_cons_succ, List.set_cons_zero]
      refine lx_run (by rfl) (.slice (some ⟨gB, 0, none⟩) 256 256) (ex_assign rfl rfl) ?_
      simp only [Act.put, List.setIfInBounds_toArray, List.set_cons_succ, List.set_cons_zero]
      refine lx_run (by rfl) (.int .i64 0) (ex_assign rfl rfl) ?_
      simp only [Act.put, List.setIfInBounds_toArray, List.set_cons_succ, List.set_cons_zero]
      refine lx_nil ?_
      intro w5 hx5
      go_wp2_with fail
      refine bodyPost_ret (results_tmp3 rfl _ _ _) rfl ?_
      have hx3 : Ext w w3.drew := (hu3.ext hx (fun y k => by rcases k with rfl | rfl | rfl | rfl <;> assumption)).drew
      refine ⟨hx3.trans hx5, ?_⟩
      rw [if_pos rfl]
      exact ⟨gA, gB, rfl, hI4.ha.ext hx5, hI4.hb.ext hx5, hI4.la, hI4.lb⟩
    · have hxb : (x != 0) = true := by simpa using hx0
      have HX := hid_ hx0
      clear hx0
      go_wp2_with (go_at_call 31; (with_reducible refine (HE.out).mono ?_); rintro e w3 ⟨rfl, hu3, -⟩)
      refine bodyPost_ret (results_tmp3 rfl _ _ _) rfl ?_
      refine ⟨hu3.ext hx (fun y k => by rcases k with rfl | rfl | rfl | rfl <;> assumption), ?_⟩
      rw [if_neg HX.out]
      rfl
end Go.Proofs.Ytkfdkkhhkciocaa
/- BlocksCheck of the reference. -/
namespace Go.Proofs.Ytkfdkkhhkciocaa
set_option linter.unusedVariables false
set_option linter.unusedSimpArgs false
open Go.RowKit
def blocksE (n : Nat) (Z : List Int) : Int := if 400 < n then 2 else if allIn Z (-2047) 2047 = false then 1 else 0
attribute [local irreducible] bv blkAt
set_option maxRecDepth 20000 in
set_option maxHeartbeats 2000000 in
theorem blocksCheck_any (A : Option Addr) (n c : Nat) (Z : List Int) (hZ : Z.length = n * 64) (w : World) (hs : SL w 64 (.slice A n c) n (ints Z)) :
    Calls Try.prog 11 #[.slice A n c] w fun e w' => e = .returned (.int .i64 (blocksE n Z)) ∧ Ext w w' := by
  have hs' := hs
  obtain ⟨A', c', he, hnc, hc2, -, -⟩ := hs'
  injection he with he1 he2 he3
  subst he1 he3
  by_cases hn : 400 < n
  · have hR : blocksE n Z = 2 := if_pos hn
    rw [hR]
    clear hR hs
    go_enter Try.func11, Try.ntmps11
    go_wp2_with fail
    go_ret
    exact ⟨rfl, Ext.refl _⟩
  · have hR : blocksE n Z = if allIn Z (-2047) 2047 = false then 1 else 0 := if_neg hn
    have HR := hid_ hR
    rw [hR] at *
    obtain ⟨R, hRR⟩ : ∃ R : Int, R = if allIn Z (-2047) 2047 = false then 1 else 0 := ⟨_, rfl⟩
    rw [← hRR]
    have HRR := hid_ hRR
    clear hR hRR HR
    have hn4 : n ≤ 400 := by omega
    have HZ := hid_ hZ
    clear hn hZ
    have HAL := hid_ (show (Try.prog.info? 24).bind (·.zero) = some (.agg (bv (List.replicate 64 0))) from zero48)
    have hz0 := hid_ (show (Value.agg (bv (List.replicate 64 0))).cells.size = 64 by rw [show (Value.agg (bv (List.replicate 64 0))).cells = bv (List.replicate 64 0) from rfl, bv_size]; rfl)
    generalize bv (List.replicate 64 0) = cz at *
    go_enter Try.func11, Try.ntmps11
    go_wp2_with fail
    go_loopw [10] (fun i wr => ∃ k : Nat, k ≤ n ∧ i = .int .i64 (k : Int) ∧ Ext w wr ∧ Hid (∀ j, j < k → allIn (blkAt Z j) (-2047) 2047 = true)) (fun i _ => n - (intOf i).toNat)
    case atStart => exact ⟨0, by omega, rfl, Ext.refl w, hid_ (fun j h => by omega)⟩
    case round =>
      obtain ⟨k, hk, rfl, hx, HP⟩ := hrel
      by_cases hlt : k < n
      · obtain ⟨ad, rfl, hab, hca⟩ := (hs.ext hx).part hlt
        have hbl := blkAt_len Z n k HZ.out hlt
        have e : ((ints Z).drop (k * 64)).take 64 = ints (blkAt Z k) := by unfold blkAt; simp [ints, List.map_drop, List.map_take]
        rw [e] at hca
        clear e
        have HCA := hid_ hca
        have HB := hid_ hbl
        have HSZ := hid_ (show (bv (blkAt Z k)).size = 64 by rw [bv_size]; exact hbl)
        have HO1 := hid_ (bv_one (blkAt Z k))
        have HBV := hid_ (bv_out (blkAt Z k))
        have HBW := hid_ (fun W => blockWithin_any (blkAt Z k) (-2047) 2047 W HB.out)
        clear hca hbl
        cases hal : allIn (blkAt Z k) (-2047) 2047 with
        | false =>
          have HRE : Hid (R = 1) := hid_ (by
            rw [HRR.out, if_pos]
            cases hq : allIn Z (-2047) 2047 with
            | false => rfl
            | true => have := (blkAt_in Z n HZ.out).1 hq k hlt; rw [hal] at this; cases this)
          rw [hal] at HBW
          clear hal
          go_wp2_with (first
            | (show wpList _ _ _ (⟨some 13, _, _, _, _, _⟩ :: _) _ _; refine wpList_load_any (by rfl) 24 (.tmp 12) rfl (ad.add (k * 64)) rfl (ints (blkAt Z k)) _ HCA.out Try.underlying24 rfl (by rw [ints_len, HB.out]; exact size48) ?_; rw [HBV.out])
            | (show wpList _ _ _ (⟨some 4, _, _, _, _, _⟩ :: _) _ _; refine wpList_alloc_abs' rfl (some 4) rfl 24 rfl _ HAL.out ?_; intro w1 g1 hb1 hx1 hg1)
            | (show wpList _ _ _ (⟨none, .store _ (.tmp 4) (.tmp 13), _, _, _, _⟩ :: _) _ _; refine wpList_store_blk rfl 24 (.tmp 4) (.tmp 13) rfl _ _ rfl rfl hb1 64 size48 HSZ.out hz0.out HO1.out ?_; intro w2 hb2 hg2)
            | (show wpList _ _ _ (⟨some 14, _, _, _, _, _⟩ :: _) _ _; refine wpList_load_blk rfl 24 (.tmp 4) rfl g1 rfl hb2 _ Try.underlying24 rfl 64 size48 HSZ.out ?_)
            | (go_at_call 33; (with_reducible refine (HBW.out _).mono ?_); rintro e w3 ⟨rfl, hx3⟩))
          go_ret
          exact ⟨by rw [HRE.out]; rfl, (hx.trans (hx1.grown hg2 hg1)).trans hx3⟩
        | true =>
          have HP' : Hid (∀ j, j < k + 1 → allIn (blkAt Z j) (-2047) 2047 = true) := hid_ (fun j hj => by
            rcases Nat.lt_or_ge j k with h1 | h1
            · exact HP.out j h1
            · obtain rfl : j = k := by omega
              exact hal)
          rw [hal] at HBW
          clear hal HP
          go_wp2_with (first
            | (show wpList _ _ _ (⟨some 13, _, _, _, _, _⟩ :: _) _ _; refine wpList_load_any (by rfl) 24 (.tmp 12) rfl (ad.add (k * 64)) rfl (ints (blkAt Z k)) _ HCA.out Try.underlying24 rfl (by rw [ints_len, HB.out]; exact size48) ?_; rw [HBV.out])
            | (show wpList _ _ _ (⟨some 4, _, _, _, _, _⟩ :: _) _ _; refine wpList_alloc_abs' rfl (some 4) rfl 24 rfl _ HAL.out ?_; intro w1 g1 hb1 hx1 hg1)
            | (show wpList _ _ _ (⟨none, .store _ (.tmp 4) (.tmp 13), _, _, _, _⟩ :: _) _ _; refine wpList_store_blk rfl 24 (.tmp 4) (.tmp 13) rfl _ _ rfl rfl hb1 64 size48 HSZ.out hz0.out HO1.out ?_; intro w2 hb2 hg2)
            | (show wpList _ _ _ (⟨some 14, _, _, _, _, _⟩ :: _) _ _; refine wpList_load_blk rfl 24 (.tmp 4) rfl g1 rfl hb2 _ Try.underlying24 rfl 64 size48 HSZ.out ?_)
            | (go_at_call 33; (with_reducible refine (HBW.out _).mono ?_); rintro e w3 ⟨rfl, hx3⟩))
          go_roundw
          case rel => exact ⟨k + 1, by omega, by go_num, (hx.trans (hx1.grown hg2 hg1)).trans hx3, HP'⟩
          case measure => simp [intOf]; omega
      · have hkn : k = n := by omega
        have HRE : Hid (R = 0) := hid_ (by rw [HRR.out, if_neg]; rw [(blkAt_in Z n HZ.out).2 (by rw [← hkn]; exact HP.out)]; simp)
        go_wp2_with fail
        go_ret
        exact ⟨by rw [HRE.out]; rfl, hx⟩
end Go.Proofs.Ytkfdkkhhkciocaa
